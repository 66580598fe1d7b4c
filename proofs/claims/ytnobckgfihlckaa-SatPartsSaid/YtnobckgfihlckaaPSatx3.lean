-- written for this claim by wip/pr/hand.py (the kit's print, with contracts proved by hand)
import Derived.Test.YtnobckgfihlckaaPSatx0
import Derived.Test.YtnobckgfihlckaaSq
import Derived.Test.YtnobckgfihlckaaPSatx1
import Derived.Test.YtnobckgfihlckaaPSatx2
namespace Go.Proofs.Ytnobckgfihlckaa.PSat
open Go.RowKit Go.Proofs.YtnobckgfihlckaaW.PrintWords Go.Proofs.YtnobckgfihlckaaW.PrintLast Go.Proofs.YtnobckgfihlckaaW.PrintMore Go.Proofs.Ytnobckgfihlckaa.Sq
attribute [local go_sem] max2_int min2_int max_two min_two max_three min_three max_four min_four   -- for this text's walks alone
set_option linter.unusedVariables false
set_option linter.unusedSimpArgs false

/-! ### trommellaw26_SatOrders: function 6 -/
mutual
def trommellaw26_SatOrders.j0 : Nat → List Int → List Int → Int → Int → Bool → Option (Bool)
  | 0, _, _, _, _, _ => none
  | k + 1, x0, x1, x2, x3, x24 => if x24 = true then ((trommellaw26_live.f k).bind fun t121 => (some t121)) else ((some (([x2] : List Int) : List Int)).bind fun y122 => (if y122.length + x0.length < 17592186044416 then ((some (y122 ++ x0 : List Int)).bind fun y125 => (if y125.length + x1.length < 17592186044416 then ((some (y125 ++ x1 : List Int)).bind fun y128 => ((some (([x3] : List Int) : List Int)).bind fun y131 => (if y131.length + x1.length < 17592186044416 then ((some (y131 ++ x1 : List Int)).bind fun y134 => (if y134.length + x0.length < 17592186044416 then ((some (y134 ++ x0 : List Int)).bind fun y137 => ((sat_Add.f k y128).bind fun t140 => ((sat_Add.f k y137).bind fun t141 => (if t140 > t141 then (trommellaw26_SatOrders.j1 k x0 x1 true) else ((sat_Mul.f k y128).bind fun t142 => ((sat_Mul.f k y137).bind fun t143 => (trommellaw26_SatOrders.j1 k x0 x1 (decide (t142 > t143))))))))) else (none))) else (none)))) else (none))) else (none)))
def trommellaw26_SatOrders.j1 : Nat → List Int → List Int → Bool → Option (Bool)
  | 0, _, _, _ => none
  | k + 1, x0, x1, x49 => if x49 = true then (some false) else ((some (([] : List Int) : List Int)).bind fun y144 => (if y144.length + x1.length < 17592186044416 then ((some (y144 ++ x1 : List Int)).bind fun y147 => (if y147.length + x0.length < 17592186044416 then ((some (y147 ++ x0 : List Int)).bind fun y150 => ((sat_Add.f k x0).bind fun t153 => ((sat_Add.f k x1).bind fun t154 => ((sat_Add.f k (([t153, t154] : List Int))).bind fun t158 => ((sat_Add.f k y150).bind fun t159 => (if t158 = t159 then ((sat_Mul.f k x0).bind fun t160 => ((sat_Mul.f k x1).bind fun t161 => ((sat_Mul.f k (([t160, t161] : List Int))).bind fun t165 => ((sat_Mul.f k y150).bind fun t166 => (if t165 = t166 then ((trommellaw26_live.f k).bind fun t167 => (some t167)) else (some false)))))) else (some false))))))) else (none))) else (none)))
end
def trommellaw26_SatOrders.f (k : Nat) (l0 : List Int) (l1 : List Int) (a2 : Int) (a3 : Int) : Option (Bool) := if (l0.length : Int) > 100 then (trommellaw26_SatOrders.j0 k l0 l1 a2 a3 true) else (if (l1.length : Int) > 100 then (trommellaw26_SatOrders.j0 k l0 l1 a2 a3 true) else (trommellaw26_SatOrders.j0 k l0 l1 a2 a3 (decide (a2 > a3))))
theorem trommellaw26_SatOrders.mono_l : ∀ k, (∀ y0 y1 y2 y3 y4, LeO (trommellaw26_SatOrders.j0 k y0 y1 y2 y3 y4) (trommellaw26_SatOrders.j0 (k + 1) y0 y1 y2 y3 y4)) ∧ (∀ y0 y1 y2, LeO (trommellaw26_SatOrders.j1 k y0 y1 y2) (trommellaw26_SatOrders.j1 (k + 1) y0 y1 y2))
  | 0 => ⟨fun _ _ _ _ _ r h => by simp [trommellaw26_SatOrders.j0] at h, fun _ _ _ r h => by simp [trommellaw26_SatOrders.j1] at h⟩
  | k + 1 => by
    obtain ⟨ih0, ih1⟩ := trommellaw26_SatOrders.mono_l k
    refine ⟨?_, ?_⟩
    · intro y0 y1 y2 y3 y4
      unfold trommellaw26_SatOrders.j0
      repeat' first
      | (with_reducible exact ih0 _ _ _ _ _)
      | (with_reducible exact ih1 _ _ _)
      | (with_reducible exact sat_Add.mono _ _)
      | (with_reducible exact sat_Mul.mono _ _)
      | (with_reducible exact trommellaw26_live.mono _)
      | (with_reducible exact LeO.refl _)
      | (with_reducible exact LeO.none _)
      | (with_reducible refine LeO.ite ?_ ?_)
      | (with_reducible refine LeO.bind ?_ (fun _ => ?_))
      | exact ih0 _ _ _ _ _
      | exact ih1 _ _ _
      | exact sat_Add.mono _ _
      | exact sat_Mul.mono _ _
      | exact trommellaw26_live.mono _
      | exact LeO.none _
      | refine LeO.ite ?_ ?_
      | refine LeO.bind ?_ (fun _ => ?_)
    · intro y0 y1 y2
      unfold trommellaw26_SatOrders.j1
      repeat' first
      | (with_reducible exact ih0 _ _ _ _ _)
      | (with_reducible exact ih1 _ _ _)
      | (with_reducible exact sat_Add.mono _ _)
      | (with_reducible exact sat_Mul.mono _ _)
      | (with_reducible exact trommellaw26_live.mono _)
      | (with_reducible exact LeO.refl _)
      | (with_reducible exact LeO.none _)
      | (with_reducible refine LeO.ite ?_ ?_)
      | (with_reducible refine LeO.bind ?_ (fun _ => ?_))
      | exact ih0 _ _ _ _ _
      | exact ih1 _ _ _
      | exact sat_Add.mono _ _
      | exact sat_Mul.mono _ _
      | exact trommellaw26_live.mono _
      | exact LeO.none _
      | refine LeO.ite ?_ ?_
      | refine LeO.bind ?_ (fun _ => ?_)
theorem trommellaw26_SatOrders.mono : ∀ a0 a1 a2 a3 k, LeO (trommellaw26_SatOrders.f k a0 a1 a2 a3) (trommellaw26_SatOrders.f (k + 1) a0 a1 a2 a3) := by
  intro a0 a1 a2 a3 k
  obtain ⟨ih0, ih1⟩ := trommellaw26_SatOrders.mono_l k
  unfold trommellaw26_SatOrders.f
  repeat' first
      | (with_reducible exact ih0 _ _ _ _ _)
      | (with_reducible exact ih1 _ _ _)
      | (with_reducible exact sat_Add.mono _ _)
      | (with_reducible exact sat_Mul.mono _ _)
      | (with_reducible exact trommellaw26_live.mono _)
      | (with_reducible exact LeO.refl _)
      | (with_reducible exact LeO.none _)
      | (with_reducible refine LeO.ite ?_ ?_)
      | (with_reducible refine LeO.bind ?_ (fun _ => ?_))
      | exact ih0 _ _ _ _ _
      | exact ih1 _ _ _
      | exact sat_Add.mono _ _
      | exact sat_Mul.mono _ _
      | exact trommellaw26_live.mono _
      | exact LeO.none _
      | refine LeO.ite ?_ ?_
      | refine LeO.bind ?_ (fun _ => ?_)
set_option maxHeartbeats 8000000 in
set_option maxRecDepth 100000 in
theorem trommellaw26_SatOrders.calls (k : Nat) (A0 : Option Addr) (c0 : Nat) (l0 : List Int) (A1 : Option Addr) (c1 : Nat) (l1 : List Int) (a2 : Int) (a3 : Int) (r : Bool) (w : World) (hr0 : Kd.C (Kd.int .i64) w A0 l0.length l0) (hc0 : l0.length ≤ c0) (hr1 : Kd.C (Kd.int .i64) w A1 l1.length l1) (hc1 : l1.length ≤ c1) (h : trommellaw26_SatOrders.f k l0 l1 a2 a3 = some r) :
    Calls Try.prog 6 #[.slice A0 l0.length c0, .slice A1 l1.length c1, .int .i64 a2, .int .i64 a3] w fun e w' => e = .returned (.bool r) ∧ Below w.heap.size w w' := by
  have HR0 := Aside0.mk hr0
  have HC0 := Aside0.mk hc0
  clear hr0 hc0
  have HR1 := Aside0.mk hr1
  have HC1 := Aside0.mk hc1
  clear hr1 hc1
  have HB := Aside0.mk (Below.refl w.heap.size w)
  have H : (if (l0.length : Int) > 100 then (trommellaw26_SatOrders.j0 k l0 l1 a2 a3 true) else (if (l1.length : Int) > 100 then (trommellaw26_SatOrders.j0 k l0 l1 a2 a3 true) else (trommellaw26_SatOrders.j0 k l0 l1 a2 a3 (decide (a2 > a3))))) = some r := h
  clear h
  have HC5 := Aside0.mk H
  clear H
  go_enter Try.func6, Try.ntmps6
  go_upto_region 1 with (fail)
  go_cut [24] (fun v24 wc => ∃ (kq : Nat) (x24_4 : Bool), v24 = .bool x24_4 ∧ Aside0 (trommellaw26_SatOrders.j0 kq l0 l1 a2 a3 x24_4 = some r) ∧ Aside0 (kq ≤ k) ∧ Aside0 (Below w.heap.size w wc))
  case first =>
    have H := HC5.out
    clear HC5
    by_cases c6 : (l0.length : Int) > 100
    · rw [if_pos c6] at H
      have c6b0 : decide (100 < (l0.length : Int)) = true := decide_eq_true c6
      have c6b1 : decide (100 < l0.length) = true := decide_eq_true (by omega)
      clear c6
      (first | rw [c6b0] | (simp only [i64_w, i32_w]; rw [c6b0]) | skip)
      have H' := Aside0.mk H
      clear H
      go_wp2
      go_meet
      case rel => exact ⟨_, (true), (by first | rfl | (simp; done) | (simp [*]; done)), H', ⟨by first | omega | exact Nat.le_refl _⟩, ⟨Ls HB⟩⟩
    · rw [if_neg c6] at H
      have c6b0 : decide (100 < (l0.length : Int)) = false := decide_eq_false c6
      have c6b1 : decide (100 < l0.length) = false := decide_eq_false (by omega)
      clear c6
      (first | rw [c6b0] | (simp only [i64_w, i32_w]; rw [c6b0]) | skip)
      by_cases c7 : (l1.length : Int) > 100
      · rw [if_pos c7] at H
        have c7b0 : decide (100 < (l1.length : Int)) = true := decide_eq_true c7
        have c7b1 : decide (100 < l1.length) = true := decide_eq_true (by omega)
        clear c7
        have H' := Aside0.mk H
        clear H
        go_wp2
        go_meet
        case rel => exact ⟨_, (true), (by first | rfl | (simp; done) | (simp [*]; done)), H', ⟨by first | omega | exact Nat.le_refl _⟩, ⟨Ls HB⟩⟩
      · rw [if_neg c7] at H
        have c7b0 : decide (100 < (l1.length : Int)) = false := decide_eq_false c7
        have c7b1 : decide (100 < l1.length) = false := decide_eq_false (by omega)
        clear c7
        have H' := Aside0.mk H
        clear H
        go_wp2
        go_meet
        case rel => exact ⟨_, (decide (a2 > a3)), (by first | rfl | (simp; done) | (simp [*]; done)), H', ⟨by first | omega | exact Nat.le_refl _⟩, ⟨Ls HB⟩⟩
  case rest =>
    clear HC5
    try clear c1; try clear p2; try clear c6; try clear c6b0; try clear c6b1; try clear c7; try clear c7b0; try clear c7b1
    obtain ⟨kq, x24_4, rfl, HA, HJ4, HB⟩ := hcut
    cases kq with
    | zero => exact absurd HA.out (by simp [trommellaw26_SatOrders.j0])
    | succ kj4 =>
      have H := HA.out
      clear HA
      simp only [trommellaw26_SatOrders.j0] at H
      by_cases c8 : x24_4 = true
      · subst c8
        have H1 : ((trommellaw26_live.f kj4).bind fun t121 => (some t121)) = some r := by rw [if_pos rfl] at H; exact H
        clear H
        have H := H1
        clear H1
        replace H := Option.bind_eq_some_iff.mp H
        obtain ⟨t121, A90, H⟩ := H
        replace H : (some t121) = some r := H
        have A9 := Aside0.mk A90
        clear A90
        obtain rfl := Option.some.inj H
        go_wp2_with (first | ((with_reducible refine gate_callee (f := 25) rfl ?_); refine goesL_ (some 25) rfl rfl Try.func25 (by kernel_rfl) rfl #[] rfl (by (try simp only [List.map_toArray, List.map_cons, List.map_nil]); first | done | rfl | (simp only [List.length_drop, List.length_take]; rfl)) ?_; (with_reducible refine (trommellaw26_live.calls kj4  t121 _ A9.out).mono ?_); rintro e w10 ⟨rfl, hb⟩; refine ⟨_, rfl, ?_⟩; have n0_ := Lb HB hb; clear HB; have HB := n0_; clear n0_; (try clear hb); (try clear hb2); (try clear hk); (try clear hi)))
        go_ret
        exact ⟨by first | rfl | (simp [errW_none, errW_some] <;> rfl) | (simp [*, errW_none, errW_some] <;> rfl), by repeat (first | (with_reducible first | exact HB.out | apply below_alloc | apply pw_below_drewN | apply below_drew1) | exact HB.out)⟩
      · replace c8 := Bool.eq_false_iff.mpr c8
        subst c8
        have H1 : ((some (([a2] : List Int) : List Int)).bind fun y122 => (if y122.length + l0.length < 17592186044416 then ((some (y122 ++ l0 : List Int)).bind fun y125 => (if y125.length + l1.length < 17592186044416 then ((some (y125 ++ l1 : List Int)).bind fun y128 => ((some (([a3] : List Int) : List Int)).bind fun y131 => (if y131.length + l1.length < 17592186044416 then ((some (y131 ++ l1 : List Int)).bind fun y134 => (if y134.length + l0.length < 17592186044416 then ((some (y134 ++ l0 : List Int)).bind fun y137 => ((sat_Add.f kj4 y128).bind fun t140 => ((sat_Add.f kj4 y137).bind fun t141 => (if t140 > t141 then (trommellaw26_SatOrders.j1 kj4 l0 l1 true) else ((sat_Mul.f kj4 y128).bind fun t142 => ((sat_Mul.f kj4 y137).bind fun t143 => (trommellaw26_SatOrders.j1 kj4 l0 l1 (decide (t142 > t143))))))))) else (none))) else (none)))) else (none))) else (none))) = some r := by rw [if_neg (show ¬ (false = true) by decide)] at H; exact H
        clear H
        have H := H1
        clear H1
        obtain ⟨y122, hy122⟩ : ∃ y_ : List Int, y_ = (([a2] : List Int)) := ⟨_, rfl⟩
        replace H : (if y122.length + l0.length < 17592186044416 then ((some (y122 ++ l0 : List Int)).bind fun y125 => (if y125.length + l1.length < 17592186044416 then ((some (y125 ++ l1 : List Int)).bind fun y128 => ((some (([a3] : List Int) : List Int)).bind fun y131 => (if y131.length + l1.length < 17592186044416 then ((some (y131 ++ l1 : List Int)).bind fun y134 => (if y134.length + l0.length < 17592186044416 then ((some (y134 ++ l0 : List Int)).bind fun y137 => ((sat_Add.f kj4 y128).bind fun t140 => ((sat_Add.f kj4 y137).bind fun t141 => (if t140 > t141 then (trommellaw26_SatOrders.j1 kj4 l0 l1 true) else ((sat_Mul.f kj4 y128).bind fun t142 => ((sat_Mul.f kj4 y137).bind fun t143 => (trommellaw26_SatOrders.j1 kj4 l0 l1 (decide (t142 > t143))))))))) else (none))) else (none)))) else (none))) else (none)) = some r := by first | (rw [hy122]; with_reducible exact H) | (have H2_ := (Option.bind_some _ _).symm.trans H; rw [hy122]; with_reducible exact H2_) | (have H2_ := (Option.bind_some _ _).symm.trans H; with_reducible exact H2_) | with_reducible exact H | (rw [hy122]; exact H) | exact H
        have Ny122 := Aside0.mk hy122
        clear hy122
        refine bc (p := (y122.length + l0.length < 17592186044416)) (fun c11 => ?_) (fun c11 => ?_)
        · rw [if_neg c11] at H
          exact absurd H (by simp)
        rw [if_pos c11] at H
        have LMc11 := Aside0.mk c11
        clear c11
        obtain ⟨y125, hy125⟩ : ∃ y_ : List Int, y_ = (y122 ++ l0) := ⟨_, rfl⟩
        replace H : (if y125.length + l1.length < 17592186044416 then ((some (y125 ++ l1 : List Int)).bind fun y128 => ((some (([a3] : List Int) : List Int)).bind fun y131 => (if y131.length + l1.length < 17592186044416 then ((some (y131 ++ l1 : List Int)).bind fun y134 => (if y134.length + l0.length < 17592186044416 then ((some (y134 ++ l0 : List Int)).bind fun y137 => ((sat_Add.f kj4 y128).bind fun t140 => ((sat_Add.f kj4 y137).bind fun t141 => (if t140 > t141 then (trommellaw26_SatOrders.j1 kj4 l0 l1 true) else ((sat_Mul.f kj4 y128).bind fun t142 => ((sat_Mul.f kj4 y137).bind fun t143 => (trommellaw26_SatOrders.j1 kj4 l0 l1 (decide (t142 > t143))))))))) else (none))) else (none)))) else (none)) = some r := by first | (rw [hy125]; with_reducible exact H) | (have H2_ := (Option.bind_some _ _).symm.trans H; rw [hy125]; with_reducible exact H2_) | (have H2_ := (Option.bind_some _ _).symm.trans H; with_reducible exact H2_) | with_reducible exact H | (rw [hy125]; exact H) | exact H
        have Ny125 := Aside0.mk hy125
        clear hy125
        refine bc (p := (y125.length + l1.length < 17592186044416)) (fun c12 => ?_) (fun c12 => ?_)
        · rw [if_neg c12] at H
          exact absurd H (by simp)
        rw [if_pos c12] at H
        have LMc12 := Aside0.mk c12
        clear c12
        obtain ⟨y128, hy128⟩ : ∃ y_ : List Int, y_ = (y125 ++ l1) := ⟨_, rfl⟩
        replace H : ((some (([a3] : List Int) : List Int)).bind fun y131 => (if y131.length + l1.length < 17592186044416 then ((some (y131 ++ l1 : List Int)).bind fun y134 => (if y134.length + l0.length < 17592186044416 then ((some (y134 ++ l0 : List Int)).bind fun y137 => ((sat_Add.f kj4 y128).bind fun t140 => ((sat_Add.f kj4 y137).bind fun t141 => (if t140 > t141 then (trommellaw26_SatOrders.j1 kj4 l0 l1 true) else ((sat_Mul.f kj4 y128).bind fun t142 => ((sat_Mul.f kj4 y137).bind fun t143 => (trommellaw26_SatOrders.j1 kj4 l0 l1 (decide (t142 > t143))))))))) else (none))) else (none))) = some r := by first | (rw [hy128]; with_reducible exact H) | (have H2_ := (Option.bind_some _ _).symm.trans H; rw [hy128]; with_reducible exact H2_) | (have H2_ := (Option.bind_some _ _).symm.trans H; with_reducible exact H2_) | with_reducible exact H | (rw [hy128]; exact H) | exact H
        have Ny128 := Aside0.mk hy128
        clear hy128
        obtain ⟨y131, hy131⟩ : ∃ y_ : List Int, y_ = (([a3] : List Int)) := ⟨_, rfl⟩
        replace H : (if y131.length + l1.length < 17592186044416 then ((some (y131 ++ l1 : List Int)).bind fun y134 => (if y134.length + l0.length < 17592186044416 then ((some (y134 ++ l0 : List Int)).bind fun y137 => ((sat_Add.f kj4 y128).bind fun t140 => ((sat_Add.f kj4 y137).bind fun t141 => (if t140 > t141 then (trommellaw26_SatOrders.j1 kj4 l0 l1 true) else ((sat_Mul.f kj4 y128).bind fun t142 => ((sat_Mul.f kj4 y137).bind fun t143 => (trommellaw26_SatOrders.j1 kj4 l0 l1 (decide (t142 > t143))))))))) else (none))) else (none)) = some r := by first | (rw [hy131]; with_reducible exact H) | (have H2_ := (Option.bind_some _ _).symm.trans H; rw [hy131]; with_reducible exact H2_) | (have H2_ := (Option.bind_some _ _).symm.trans H; with_reducible exact H2_) | with_reducible exact H | (rw [hy131]; exact H) | exact H
        have Ny131 := Aside0.mk hy131
        clear hy131
        refine bc (p := (y131.length + l1.length < 17592186044416)) (fun c13 => ?_) (fun c13 => ?_)
        · rw [if_neg c13] at H
          exact absurd H (by simp)
        rw [if_pos c13] at H
        have LMc13 := Aside0.mk c13
        clear c13
        obtain ⟨y134, hy134⟩ : ∃ y_ : List Int, y_ = (y131 ++ l1) := ⟨_, rfl⟩
        replace H : (if y134.length + l0.length < 17592186044416 then ((some (y134 ++ l0 : List Int)).bind fun y137 => ((sat_Add.f kj4 y128).bind fun t140 => ((sat_Add.f kj4 y137).bind fun t141 => (if t140 > t141 then (trommellaw26_SatOrders.j1 kj4 l0 l1 true) else ((sat_Mul.f kj4 y128).bind fun t142 => ((sat_Mul.f kj4 y137).bind fun t143 => (trommellaw26_SatOrders.j1 kj4 l0 l1 (decide (t142 > t143))))))))) else (none)) = some r := by first | (rw [hy134]; with_reducible exact H) | (have H2_ := (Option.bind_some _ _).symm.trans H; rw [hy134]; with_reducible exact H2_) | (have H2_ := (Option.bind_some _ _).symm.trans H; with_reducible exact H2_) | with_reducible exact H | (rw [hy134]; exact H) | exact H
        have Ny134 := Aside0.mk hy134
        clear hy134
        refine bc (p := (y134.length + l0.length < 17592186044416)) (fun c14 => ?_) (fun c14 => ?_)
        · rw [if_neg c14] at H
          exact absurd H (by simp)
        rw [if_pos c14] at H
        have LMc14 := Aside0.mk c14
        clear c14
        obtain ⟨y137, hy137⟩ : ∃ y_ : List Int, y_ = (y134 ++ l0) := ⟨_, rfl⟩
        replace H : ((sat_Add.f kj4 y128).bind fun t140 => ((sat_Add.f kj4 y137).bind fun t141 => (if t140 > t141 then (trommellaw26_SatOrders.j1 kj4 l0 l1 true) else ((sat_Mul.f kj4 y128).bind fun t142 => ((sat_Mul.f kj4 y137).bind fun t143 => (trommellaw26_SatOrders.j1 kj4 l0 l1 (decide (t142 > t143)))))))) = some r := by first | (rw [hy137]; with_reducible exact H) | (have H2_ := (Option.bind_some _ _).symm.trans H; rw [hy137]; with_reducible exact H2_) | (have H2_ := (Option.bind_some _ _).symm.trans H; with_reducible exact H2_) | with_reducible exact H | (rw [hy137]; exact H) | exact H
        have Ny137 := Aside0.mk hy137
        clear hy137
        have HC15 := Aside0.mk H
        clear H
        go_upto_region 4 with (first | ((with_reducible refine gate_dst (N := 27) rfl ?_); (try (refine gate_guard (by rfl) ?_; dsimp only)); refine Kd.R_lit (Kd.int .i64) _ 3 ?hg (N := 27) ?hd (xs := ([a2] : List Int)) (inner := [.int .i64 a2]) (ok := fun _ => True) (okp := fun _ => True) ?hr ?hp (fun _ hk => hk) trivial (Below.refl _ _) (Nat.le_refl _) (by simp) ?_; (case hd => rfl); (case hg => rfl); (case hr => first | (go_simp; done) | (go_simp; rfl)); (case hp => exact (Reps.one (show Kd.M (Kd.int .i64) _ _ _ a2 [.int .i64 a2] from rfl) (Reps.none _ _))); intro v123 w16 ho17 hb hg_ hnew_; clear hg_ hnew_; (first | rw [← Ny122.out] at ho17 | (simp only [Int.reduceToNat] at ho17; rw [← Ny122.out] at ho17)); have n0_ := Aside0.mk (Kd.R_lower ho17 (Lz HB)); have n1_ := Lb HB hb; clear HB; have HO124 := n0_; have HB := n1_; clear n0_ n1_; clear hb ho17) | ((with_reducible refine gate_builtin (b := .append) (xs := #[.tmp 27, .tmp 28]) rfl ?_); (try (refine gate_guard (by rfl) ?_; dsimp only)); at_builtin; refine Kd.R_append_rows (Kd.int .i64) (w0 := w) w.heap.size rfl (.tmp 27) (.tmp 28) 36 3 (.int .i64 0) 8 rfl Try.underlying36 info3 rfl (by decide) (by omega) v123 y122 l0 _ _ _ (fun _ => True) (fun _ => False) rfl rfl ?aO ?aR (fun _ _ h => h) (fun _ h => h.elim) ?aF ?aB ?aS ?aL ?_; (case aR => repeat (first | exact (Kd.C_below HR0.out HB.out) | (with_reducible refine Kd.C_alloc ?_ _) | (with_reducible refine Kd.C_drewN ?_ _) | (with_reducible refine Kd.C_drew ?_))); (case aB => exact (Ls HB)); (case aF => exact (fun _ _ => trivial)); (case aO => exact (Rs HO124.out)); (case aS => exact (Lz HB)); (case aL => have := LMc11.out; omega); intro v126 w18 ho hb hg hat; rw [← Ny125.out] at ho; have n0_ := Aside0.mk (hb); have n1_ := Aside0.mk (ho); clear HB HO124; have HB := n0_; have HO127 := n1_; clear n0_ n1_; clear ho hb hg hat) | ((with_reducible refine gate_builtin (b := .append) (xs := #[.tmp 29, .tmp 30]) rfl ?_); (try (refine gate_guard (by rfl) ?_; dsimp only)); at_builtin; refine Kd.R_append_rows (Kd.int .i64) (w0 := w) w.heap.size rfl (.tmp 29) (.tmp 30) 36 3 (.int .i64 0) 8 rfl Try.underlying36 info3 rfl (by decide) (by omega) v126 y125 l1 _ _ _ (fun _ => True) (fun _ => False) rfl rfl ?aO ?aR (fun _ _ h => h) (fun _ h => h.elim) ?aF ?aB ?aS ?aL ?_; (case aR => repeat (first | exact (Kd.C_below HR1.out HB.out) | (with_reducible refine Kd.C_alloc ?_ _) | (with_reducible refine Kd.C_drewN ?_ _) | (with_reducible refine Kd.C_drew ?_))); (case aB => exact (Ls HB)); (case aF => exact (fun _ _ => trivial)); (case aO => exact (Rs HO127.out)); (case aS => exact (Lz HB)); (case aL => have := LMc12.out; omega); intro v129 w19 ho hb hg hat; rw [← Ny128.out] at ho; have n0_ := Aside0.mk (hb); have n1_ := Aside0.mk (ho); clear HB HO127; have HB := n0_; have HO130 := n1_; clear n0_ n1_; clear ho hb hg hat) | ((with_reducible refine gate_dst (N := 33) rfl ?_); (try (refine gate_guard (by rfl) ?_; dsimp only)); refine Kd.R_lit (Kd.int .i64) _ 3 ?hg (N := 33) ?hd (xs := ([a3] : List Int)) (inner := [.int .i64 a3]) (ok := fun _ => True) (okp := fun _ => True) ?hr ?hp (fun _ hk => hk) trivial (Below.refl _ _) (Nat.le_refl _) (by simp) ?_; (case hd => rfl); (case hg => rfl); (case hr => first | (go_simp; done) | (go_simp; rfl)); (case hp => exact (Reps.one (show Kd.M (Kd.int .i64) _ _ _ a3 [.int .i64 a3] from rfl) (Reps.none _ _))); intro v132 w20 ho21 hb hg_ hnew_; clear hg_ hnew_; (first | rw [← Ny131.out] at ho21 | (simp only [Int.reduceToNat] at ho21; rw [← Ny131.out] at ho21)); have n0_ := Aside0.mk (Kd.R_elder' (Rs HO130.out) (Kd.R_base ho21) hb); have n1_ := Aside0.mk (Kd.R_lower (Kd.R_new' ho21 (Kd.R_lt (Rs HO130.out))) (Lz HB)); have n2_ := Lb HB hb; clear HO130 HB; have HO130 := n0_; have HO133 := n1_; have HB := n2_; clear n0_ n1_ n2_; clear hb ho21) | ((with_reducible refine gate_builtin (b := .append) (xs := #[.tmp 33, .tmp 34]) rfl ?_); (try (refine gate_guard (by rfl) ?_; dsimp only)); at_builtin; refine Kd.R_append_rows (Kd.int .i64) (w0 := w) w.heap.size rfl (.tmp 33) (.tmp 34) 36 3 (.int .i64 0) 8 rfl Try.underlying36 info3 rfl (by decide) (by omega) v132 y131 l1 _ _ _ (fun k_ => some k_ ≠ (v129 : Value).ownBlock) (fun _ => False) rfl rfl ?aO ?aR (fun _ _ h => h) (fun _ h => h.elim) ?aF ?aB ?aS ?aL ?_; (case aR => repeat (first | exact (Kd.C_below HR1.out HB.out) | (with_reducible refine Kd.C_alloc ?_ _) | (with_reducible refine Kd.C_drewN ?_ _) | (with_reducible refine Kd.C_drew ?_))); (case aB => exact (Ls HB)); (case aF => exact (fun k_ hk => Kd.fresh' (Kd.R_lt (Rs HO130.out)) k_ hk)); (case aO => exact (Rs (Kd.R_mono HO133.out (fun _ hk => hk.2)))); (case aS => exact (Lz HB)); (case aL => have := LMc13.out; omega); intro v135 w22 ho hb hg hat; rw [← Ny134.out] at ho; have n0_ := Aside0.mk (Kd.R_after (ok := (fun _ => True)) (Rs HO130.out) hg hat); have n1_ := Aside0.mk (hb); have n2_ := Aside0.mk (ho); clear HO130 HB HO133; have HO130 := n0_; have HB := n1_; have HO136 := n2_; clear n0_ n1_ n2_; clear ho hb hg hat) | ((with_reducible refine gate_builtin (b := .append) (xs := #[.tmp 35, .tmp 36]) rfl ?_); (try (refine gate_guard (by rfl) ?_; dsimp only)); at_builtin; refine Kd.R_append_rows (Kd.int .i64) (w0 := w) w.heap.size rfl (.tmp 35) (.tmp 36) 36 3 (.int .i64 0) 8 rfl Try.underlying36 info3 rfl (by decide) (by omega) v135 y134 l0 _ _ _ (fun k_ => some k_ ≠ (v129 : Value).ownBlock) (fun _ => False) rfl rfl ?aO ?aR (fun _ _ h => h) (fun _ h => h.elim) ?aF ?aB ?aS ?aL ?_; (case aR => repeat (first | exact (Kd.C_below HR0.out HB.out) | (with_reducible refine Kd.C_alloc ?_ _) | (with_reducible refine Kd.C_drewN ?_ _) | (with_reducible refine Kd.C_drew ?_))); (case aB => exact (Ls HB)); (case aF => exact (fun k_ hk => Kd.fresh' (Kd.R_lt (Rs HO130.out)) k_ hk)); (case aO => exact (Rs HO136.out)); (case aS => exact (Lz HB)); (case aL => have := LMc14.out; omega); intro v138 w23 ho hb hg hat; rw [← Ny137.out] at ho; have n0_ := Aside0.mk (Kd.R_after (ok := (fun _ => True)) (Rs HO130.out) hg hat); have n1_ := Aside0.mk (hb); have n2_ := Aside0.mk (ho); clear HO130 HB HO136; have HO130 := n0_; have HB := n1_; have HO139 := n2_; clear n0_ n1_ n2_; clear ho hb hg hat))
        (try simp only [Act.put, List.setIfInBounds_toArray, List.set_cons_zero, List.set_cons_succ])
        go_cut [49] (fun v49 wc => ∃ (kq : Nat) (x49_14 : Bool), v49 = .bool x49_14 ∧ Aside0 (trommellaw26_SatOrders.j1 kq l0 l1 x49_14 = some r) ∧ Aside0 (kq ≤ kj4) ∧ Aside0 (Below w.heap.size w wc))
        case first =>
          have H := HC15.out
          clear HC15
          replace H := Option.bind_eq_some_iff.mp H
          obtain ⟨t140, A240, H⟩ := H
          replace H : ((sat_Add.f kj4 y137).bind fun t141 => (if t140 > t141 then (trommellaw26_SatOrders.j1 kj4 l0 l1 true) else ((sat_Mul.f kj4 y128).bind fun t142 => ((sat_Mul.f kj4 y137).bind fun t143 => (trommellaw26_SatOrders.j1 kj4 l0 l1 (decide (t142 > t143))))))) = some r := H
          have A24 := Aside0.mk A240
          clear A240
          replace H := Option.bind_eq_some_iff.mp H
          obtain ⟨t141, A250, H⟩ := H
          replace H : (if t140 > t141 then (trommellaw26_SatOrders.j1 kj4 l0 l1 true) else ((sat_Mul.f kj4 y128).bind fun t142 => ((sat_Mul.f kj4 y137).bind fun t143 => (trommellaw26_SatOrders.j1 kj4 l0 l1 (decide (t142 > t143)))))) = some r := H
          have A25 := Aside0.mk A250
          clear A250
          by_cases c26 : t140 > t141
          · rw [if_pos c26] at H
            have c26b0 : decide (t141 < t140) = true := decide_eq_true c26
            clear c26
            (first | rw [c26b0] | (simp only [i64_w, i32_w]; rw [c26b0]) | skip)
            have H' := Aside0.mk H
            clear H
            obtain ⟨Ao27, co27, eo27⟩ := Kd.R_slice HO130.out
            subst eo27
            go_wp2_with (first | ((with_reducible refine gate_callee (f := 26) rfl ?_); refine goesL_ (some 39) rfl rfl Try.func26 (by kernel_rfl) rfl #[.slice Ao27 y128.length co27] rfl (by (try simp only [List.map_toArray, List.map_cons, List.map_nil]); first | done | rfl | (simp only [List.length_drop, List.length_take]; rfl)) ?_; (with_reducible refine (sat_Add.calls kj4 _ _ y128 t140 _ ?side1 ?side2 A24.out).mono ?_); (case side1 => exact Cs (Kd.R_reads' HO130.out).2.2); (case side2 => exact (Kd.R_reads' HO130.out).2.1); rintro e w28 ⟨rfl, hb⟩; refine ⟨_, rfl, ?_⟩; have n0_ := Rb HO130 hb; have n1_ := Rb HO139 hb; have n2_ := Lb HB hb; clear HO130 HO139 HB; have HO130 := n0_; have HO139 := n1_; have HB := n2_; clear n0_ n1_ n2_; (try clear hb); (try clear hb2); (try clear hk); (try clear hi); obtain ⟨Ao29, co29, eo29⟩ := Kd.R_slice HO139.out; subst eo29) | ((with_reducible refine gate_callee (f := 26) rfl ?_); refine goesL_ (some 41) rfl rfl Try.func26 (by kernel_rfl) rfl #[.slice Ao29 y137.length co29] rfl (by (try simp only [List.map_toArray, List.map_cons, List.map_nil]); first | done | rfl | (simp only [List.length_drop, List.length_take]; rfl)) ?_; (with_reducible refine (sat_Add.calls kj4 _ _ y137 t141 _ ?side1 ?side2 A25.out).mono ?_); (case side1 => exact Cs (Kd.R_reads' HO139.out).2.2); (case side2 => exact (Kd.R_reads' HO139.out).2.1); rintro e w30 ⟨rfl, hb⟩; refine ⟨_, rfl, ?_⟩; have n0_ := Rb HO130 hb; have n1_ := Rb HO139 hb; have n2_ := Lb HB hb; clear HO130 HO139 HB; have HO130 := n0_; have HO139 := n1_; have HB := n2_; clear n0_ n1_ n2_; (try clear hb); (try clear hb2); (try clear hk); (try clear hi)))
            go_meet
            case rel => exact ⟨_, (true), (by first | rfl | (simp; done) | (simp [*]; done)), H', ⟨by have := HJ4.out; first | omega | exact Nat.le_refl _⟩, ⟨Ls HB⟩⟩
          · rw [if_neg c26] at H
            have c26b0 : decide (t141 < t140) = false := decide_eq_false c26
            clear c26
            (first | rw [c26b0] | (simp only [i64_w, i32_w]; rw [c26b0]) | skip)
            replace H := Option.bind_eq_some_iff.mp H
            obtain ⟨t142, A310, H⟩ := H
            replace H : ((sat_Mul.f kj4 y137).bind fun t143 => (trommellaw26_SatOrders.j1 kj4 l0 l1 (decide (t142 > t143)))) = some r := H
            have A31 := Aside0.mk A310
            clear A310
            replace H := Option.bind_eq_some_iff.mp H
            obtain ⟨t143, A320, H⟩ := H
            replace H : (trommellaw26_SatOrders.j1 kj4 l0 l1 (decide (t142 > t143))) = some r := H
            have A32 := Aside0.mk A320
            clear A320
            have H' := Aside0.mk H
            clear H
            obtain ⟨Ao33, co33, eo33⟩ := Kd.R_slice HO130.out
            subst eo33
            go_wp2_with (first | ((with_reducible refine gate_callee (f := 26) rfl ?_); refine goesL_ (some 39) rfl rfl Try.func26 (by kernel_rfl) rfl #[.slice Ao33 y128.length co33] rfl (by (try simp only [List.map_toArray, List.map_cons, List.map_nil]); first | done | rfl | (simp only [List.length_drop, List.length_take]; rfl)) ?_; (with_reducible refine (sat_Add.calls kj4 _ _ y128 t140 _ ?side1 ?side2 A24.out).mono ?_); (case side1 => exact Cs (Kd.R_reads' HO130.out).2.2); (case side2 => exact (Kd.R_reads' HO130.out).2.1); rintro e w34 ⟨rfl, hb⟩; refine ⟨_, rfl, ?_⟩; have n0_ := Rb HO130 hb; have n1_ := Rb HO139 hb; have n2_ := Lb HB hb; clear HO130 HO139 HB; have HO130 := n0_; have HO139 := n1_; have HB := n2_; clear n0_ n1_ n2_; (try clear hb); (try clear hb2); (try clear hk); (try clear hi); obtain ⟨Ao35, co35, eo35⟩ := Kd.R_slice HO139.out; subst eo35) | ((with_reducible refine gate_callee (f := 26) rfl ?_); refine goesL_ (some 41) rfl rfl Try.func26 (by kernel_rfl) rfl #[.slice Ao35 y137.length co35] rfl (by (try simp only [List.map_toArray, List.map_cons, List.map_nil]); first | done | rfl | (simp only [List.length_drop, List.length_take]; rfl)) ?_; (with_reducible refine (sat_Add.calls kj4 _ _ y137 t141 _ ?side1 ?side2 A25.out).mono ?_); (case side1 => exact Cs (Kd.R_reads' HO139.out).2.2); (case side2 => exact (Kd.R_reads' HO139.out).2.1); rintro e w36 ⟨rfl, hb⟩; refine ⟨_, rfl, ?_⟩; have n0_ := Rb HO130 hb; have n1_ := Rb HO139 hb; have n2_ := Lb HB hb; clear HO130 HO139 HB; have HO130 := n0_; have HO139 := n1_; have HB := n2_; clear n0_ n1_ n2_; (try clear hb); (try clear hb2); (try clear hk); (try clear hi)) | (go_at_call 27; (with_reducible refine (sat_Mul.calls kj4 _ _ y128 t142 _ ?side1 ?side2 A31.out).mono ?_); (case side1 => exact Cs (Kd.R_reads' HO130.out).2.2); (case side2 => exact (Kd.R_reads' HO130.out).2.1); rintro e w37 ⟨rfl, hb⟩; have n0_ := Rb HO130 hb; have n1_ := Rb HO139 hb; have n2_ := Lb HB hb; clear HO130 HO139 HB; have HO130 := n0_; have HO139 := n1_; have HB := n2_; clear n0_ n1_ n2_; (try clear hb); (try clear hb2); (try clear hk); (try clear hi)) | (go_at_call 27; (with_reducible refine (sat_Mul.calls kj4 _ _ y137 t143 _ ?side1 ?side2 A32.out).mono ?_); (case side1 => exact Cs (Kd.R_reads' HO139.out).2.2); (case side2 => exact (Kd.R_reads' HO139.out).2.1); rintro e w38 ⟨rfl, hb⟩; have n0_ := Rb HO130 hb; have n1_ := Rb HO139 hb; have n2_ := Lb HB hb; clear HO130 HO139 HB; have HO130 := n0_; have HO139 := n1_; have HB := n2_; clear n0_ n1_ n2_; (try clear hb); (try clear hb2); (try clear hk); (try clear hi)))
            go_meet
            case rel => exact ⟨_, (decide (t142 > t143)), (by first | rfl | (simp; done) | (simp [*]; done)), H', ⟨by have := HJ4.out; first | omega | exact Nat.le_refl _⟩, ⟨Ls HB⟩⟩
        case rest =>
          clear HC15
          try clear c1; try clear c2; try clear p2; try clear c6; try clear c6b0; try clear c6b1; try clear c7; try clear c7b0; try clear c7b1; try clear c8; try clear c11; try clear c12; try clear c13; try clear c14; try clear c25; try clear c26; try clear c26b0; try clear p2
          obtain ⟨kq, x49_14, rfl, HA, HJ14, HB⟩ := hcut
          cases kq with
          | zero => exact absurd HA.out (by simp [trommellaw26_SatOrders.j1])
          | succ kj14 =>
            have H := HA.out
            clear HA
            simp only [trommellaw26_SatOrders.j1] at H
            by_cases c39 : x49_14 = true
            · subst c39
              have H1 : (some false) = some r := by rw [if_pos rfl] at H; exact H
              clear H
              have H := H1
              clear H1
              obtain rfl := Option.some.inj H
              go_wp2
              go_ret
              exact ⟨by first | rfl | (simp [errW_none, errW_some] <;> rfl) | (simp [*, errW_none, errW_some] <;> rfl), by repeat (first | (with_reducible first | exact HB.out | apply below_alloc | apply pw_below_drewN | apply below_drew1) | exact HB.out)⟩
            · replace c39 := Bool.eq_false_iff.mpr c39
              subst c39
              have H1 : ((some (([] : List Int) : List Int)).bind fun y144 => (if y144.length + l1.length < 17592186044416 then ((some (y144 ++ l1 : List Int)).bind fun y147 => (if y147.length + l0.length < 17592186044416 then ((some (y147 ++ l0 : List Int)).bind fun y150 => ((sat_Add.f kj14 l0).bind fun t153 => ((sat_Add.f kj14 l1).bind fun t154 => ((sat_Add.f kj14 (([t153, t154] : List Int))).bind fun t158 => ((sat_Add.f kj14 y150).bind fun t159 => (if t158 = t159 then ((sat_Mul.f kj14 l0).bind fun t160 => ((sat_Mul.f kj14 l1).bind fun t161 => ((sat_Mul.f kj14 (([t160, t161] : List Int))).bind fun t165 => ((sat_Mul.f kj14 y150).bind fun t166 => (if t165 = t166 then ((trommellaw26_live.f kj14).bind fun t167 => (some t167)) else (some false)))))) else (some false))))))) else (none))) else (none))) = some r := by rw [if_neg (show ¬ (false = true) by decide)] at H; exact H
              clear H
              have H := H1
              clear H1
              obtain ⟨y144, hy144⟩ : ∃ y_ : List Int, y_ = (([] : List Int)) := ⟨_, rfl⟩
              replace H : (if y144.length + l1.length < 17592186044416 then ((some (y144 ++ l1 : List Int)).bind fun y147 => (if y147.length + l0.length < 17592186044416 then ((some (y147 ++ l0 : List Int)).bind fun y150 => ((sat_Add.f kj14 l0).bind fun t153 => ((sat_Add.f kj14 l1).bind fun t154 => ((sat_Add.f kj14 (([t153, t154] : List Int))).bind fun t158 => ((sat_Add.f kj14 y150).bind fun t159 => (if t158 = t159 then ((sat_Mul.f kj14 l0).bind fun t160 => ((sat_Mul.f kj14 l1).bind fun t161 => ((sat_Mul.f kj14 (([t160, t161] : List Int))).bind fun t165 => ((sat_Mul.f kj14 y150).bind fun t166 => (if t165 = t166 then ((trommellaw26_live.f kj14).bind fun t167 => (some t167)) else (some false)))))) else (some false))))))) else (none))) else (none)) = some r := by first | (rw [hy144]; with_reducible exact H) | (have H2_ := (Option.bind_some _ _).symm.trans H; rw [hy144]; with_reducible exact H2_) | (have H2_ := (Option.bind_some _ _).symm.trans H; with_reducible exact H2_) | with_reducible exact H | (rw [hy144]; exact H) | exact H
              have Ny144 := Aside0.mk hy144
              clear hy144
              refine bc (p := (y144.length + l1.length < 17592186044416)) (fun c40 => ?_) (fun c40 => ?_)
              · rw [if_neg c40] at H
                exact absurd H (by simp)
              rw [if_pos c40] at H
              have LMc40 := Aside0.mk c40
              clear c40
              obtain ⟨y147, hy147⟩ : ∃ y_ : List Int, y_ = (y144 ++ l1) := ⟨_, rfl⟩
              replace H : (if y147.length + l0.length < 17592186044416 then ((some (y147 ++ l0 : List Int)).bind fun y150 => ((sat_Add.f kj14 l0).bind fun t153 => ((sat_Add.f kj14 l1).bind fun t154 => ((sat_Add.f kj14 (([t153, t154] : List Int))).bind fun t158 => ((sat_Add.f kj14 y150).bind fun t159 => (if t158 = t159 then ((sat_Mul.f kj14 l0).bind fun t160 => ((sat_Mul.f kj14 l1).bind fun t161 => ((sat_Mul.f kj14 (([t160, t161] : List Int))).bind fun t165 => ((sat_Mul.f kj14 y150).bind fun t166 => (if t165 = t166 then ((trommellaw26_live.f kj14).bind fun t167 => (some t167)) else (some false)))))) else (some false))))))) else (none)) = some r := by first | (rw [hy147]; with_reducible exact H) | (have H2_ := (Option.bind_some _ _).symm.trans H; rw [hy147]; with_reducible exact H2_) | (have H2_ := (Option.bind_some _ _).symm.trans H; with_reducible exact H2_) | with_reducible exact H | (rw [hy147]; exact H) | exact H
              have Ny147 := Aside0.mk hy147
              clear hy147
              refine bc (p := (y147.length + l0.length < 17592186044416)) (fun c41 => ?_) (fun c41 => ?_)
              · rw [if_neg c41] at H
                exact absurd H (by simp)
              rw [if_pos c41] at H
              have LMc41 := Aside0.mk c41
              clear c41
              obtain ⟨y150, hy150⟩ : ∃ y_ : List Int, y_ = (y147 ++ l0) := ⟨_, rfl⟩
              replace H : ((sat_Add.f kj14 l0).bind fun t153 => ((sat_Add.f kj14 l1).bind fun t154 => ((sat_Add.f kj14 (([t153, t154] : List Int))).bind fun t158 => ((sat_Add.f kj14 y150).bind fun t159 => (if t158 = t159 then ((sat_Mul.f kj14 l0).bind fun t160 => ((sat_Mul.f kj14 l1).bind fun t161 => ((sat_Mul.f kj14 (([t160, t161] : List Int))).bind fun t165 => ((sat_Mul.f kj14 y150).bind fun t166 => (if t165 = t166 then ((trommellaw26_live.f kj14).bind fun t167 => (some t167)) else (some false)))))) else (some false)))))) = some r := by first | (rw [hy150]; with_reducible exact H) | (have H2_ := (Option.bind_some _ _).symm.trans H; rw [hy150]; with_reducible exact H2_) | (have H2_ := (Option.bind_some _ _).symm.trans H; with_reducible exact H2_) | with_reducible exact H | (rw [hy150]; exact H) | exact H
              have Ny150 := Aside0.mk hy150
              clear hy150
              replace H := Option.bind_eq_some_iff.mp H
              obtain ⟨t153, A420, H⟩ := H
              replace H : ((sat_Add.f kj14 l1).bind fun t154 => ((sat_Add.f kj14 (([t153, t154] : List Int))).bind fun t158 => ((sat_Add.f kj14 y150).bind fun t159 => (if t158 = t159 then ((sat_Mul.f kj14 l0).bind fun t160 => ((sat_Mul.f kj14 l1).bind fun t161 => ((sat_Mul.f kj14 (([t160, t161] : List Int))).bind fun t165 => ((sat_Mul.f kj14 y150).bind fun t166 => (if t165 = t166 then ((trommellaw26_live.f kj14).bind fun t167 => (some t167)) else (some false)))))) else (some false))))) = some r := H
              have A42 := Aside0.mk A420
              clear A420
              replace H := Option.bind_eq_some_iff.mp H
              obtain ⟨t154, A430, H⟩ := H
              replace H : ((sat_Add.f kj14 (([t153, t154] : List Int))).bind fun t158 => ((sat_Add.f kj14 y150).bind fun t159 => (if t158 = t159 then ((sat_Mul.f kj14 l0).bind fun t160 => ((sat_Mul.f kj14 l1).bind fun t161 => ((sat_Mul.f kj14 (([t160, t161] : List Int))).bind fun t165 => ((sat_Mul.f kj14 y150).bind fun t166 => (if t165 = t166 then ((trommellaw26_live.f kj14).bind fun t167 => (some t167)) else (some false)))))) else (some false)))) = some r := H
              have A43 := Aside0.mk A430
              clear A430
              obtain ⟨y155, hy155⟩ : ∃ y_ : List Int, y_ = (([t153, t154] : List Int)) := ⟨_, rfl⟩
              replace H : ((sat_Add.f kj14 y155).bind fun t158 => ((sat_Add.f kj14 y150).bind fun t159 => (if t158 = t159 then ((sat_Mul.f kj14 l0).bind fun t160 => ((sat_Mul.f kj14 l1).bind fun t161 => ((sat_Mul.f kj14 (([t160, t161] : List Int))).bind fun t165 => ((sat_Mul.f kj14 y150).bind fun t166 => (if t165 = t166 then ((trommellaw26_live.f kj14).bind fun t167 => (some t167)) else (some false)))))) else (some false)))) = some r := by first | (rw [hy155]; with_reducible exact H) | (have H2_ := (Option.bind_some _ _).symm.trans H; rw [hy155]; with_reducible exact H2_) | (have H2_ := (Option.bind_some _ _).symm.trans H; with_reducible exact H2_) | with_reducible exact H | (rw [hy155]; exact H) | exact H
              have Ny155 := Aside0.mk hy155
              clear hy155
              replace H := Option.bind_eq_some_iff.mp H
              obtain ⟨t158, A440, H⟩ := H
              replace H : ((sat_Add.f kj14 y150).bind fun t159 => (if t158 = t159 then ((sat_Mul.f kj14 l0).bind fun t160 => ((sat_Mul.f kj14 l1).bind fun t161 => ((sat_Mul.f kj14 (([t160, t161] : List Int))).bind fun t165 => ((sat_Mul.f kj14 y150).bind fun t166 => (if t165 = t166 then ((trommellaw26_live.f kj14).bind fun t167 => (some t167)) else (some false)))))) else (some false))) = some r := H
              have A44 := Aside0.mk A440
              clear A440
              replace H := Option.bind_eq_some_iff.mp H
              obtain ⟨t159, A450, H⟩ := H
              replace H : (if t158 = t159 then ((sat_Mul.f kj14 l0).bind fun t160 => ((sat_Mul.f kj14 l1).bind fun t161 => ((sat_Mul.f kj14 (([t160, t161] : List Int))).bind fun t165 => ((sat_Mul.f kj14 y150).bind fun t166 => (if t165 = t166 then ((trommellaw26_live.f kj14).bind fun t167 => (some t167)) else (some false)))))) else (some false)) = some r := H
              have A45 := Aside0.mk A450
              clear A450
              by_cases c46 : t158 = t159
              · rw [if_pos c46] at H
                have c46b0 : (t158 == t159) = true := beq_iff_eq.mpr c46
                have c46b1 : (t158 != t159) = false := bne_eq_false_iff_eq.mpr c46
                clear c46
                replace H := Option.bind_eq_some_iff.mp H
                obtain ⟨t160, A470, H⟩ := H
                replace H : ((sat_Mul.f kj14 l1).bind fun t161 => ((sat_Mul.f kj14 (([t160, t161] : List Int))).bind fun t165 => ((sat_Mul.f kj14 y150).bind fun t166 => (if t165 = t166 then ((trommellaw26_live.f kj14).bind fun t167 => (some t167)) else (some false))))) = some r := H
                have A47 := Aside0.mk A470
                clear A470
                replace H := Option.bind_eq_some_iff.mp H
                obtain ⟨t161, A480, H⟩ := H
                replace H : ((sat_Mul.f kj14 (([t160, t161] : List Int))).bind fun t165 => ((sat_Mul.f kj14 y150).bind fun t166 => (if t165 = t166 then ((trommellaw26_live.f kj14).bind fun t167 => (some t167)) else (some false)))) = some r := H
                have A48 := Aside0.mk A480
                clear A480
                obtain ⟨y162, hy162⟩ : ∃ y_ : List Int, y_ = (([t160, t161] : List Int)) := ⟨_, rfl⟩
                replace H : ((sat_Mul.f kj14 y162).bind fun t165 => ((sat_Mul.f kj14 y150).bind fun t166 => (if t165 = t166 then ((trommellaw26_live.f kj14).bind fun t167 => (some t167)) else (some false)))) = some r := by first | (rw [hy162]; with_reducible exact H) | (have H2_ := (Option.bind_some _ _).symm.trans H; rw [hy162]; with_reducible exact H2_) | (have H2_ := (Option.bind_some _ _).symm.trans H; with_reducible exact H2_) | with_reducible exact H | (rw [hy162]; exact H) | exact H
                have Ny162 := Aside0.mk hy162
                clear hy162
                replace H := Option.bind_eq_some_iff.mp H
                obtain ⟨t165, A490, H⟩ := H
                replace H : ((sat_Mul.f kj14 y150).bind fun t166 => (if t165 = t166 then ((trommellaw26_live.f kj14).bind fun t167 => (some t167)) else (some false))) = some r := H
                have A49 := Aside0.mk A490
                clear A490
                replace H := Option.bind_eq_some_iff.mp H
                obtain ⟨t166, A500, H⟩ := H
                replace H : (if t165 = t166 then ((trommellaw26_live.f kj14).bind fun t167 => (some t167)) else (some false)) = some r := H
                have A50 := Aside0.mk A500
                clear A500
                by_cases c51 : t165 = t166
                · rw [if_pos c51] at H
                  have c51b0 : (t165 == t166) = true := beq_iff_eq.mpr c51
                  have c51b1 : (t165 != t166) = false := bne_eq_false_iff_eq.mpr c51
                  clear c51
                  replace H := Option.bind_eq_some_iff.mp H
                  obtain ⟨t167, A520, H⟩ := H
                  replace H : (some t167) = some r := H
                  have A52 := Aside0.mk A520
                  clear A520
                  obtain rfl := Option.some.inj H
                  go_wp2_with (first | ((with_reducible refine gate_dst (N := 50) rfl ?_); (try (refine gate_guard (by rfl) ?_; dsimp only)); refine Kd.R_lit (Kd.int .i64) _ 3 ?hg (N := 50) ?hd (xs := ([] : List Int)) (inner := []) (ok := fun _ => True) (okp := fun _ => True) ?hr ?hp (fun _ hk => hk) trivial (Below.refl _ _) (Nat.le_refl _) (by simp) ?_; (case hd => rfl); (case hg => rfl); (case hr => first | (go_simp; done) | (go_simp; rfl)); (case hp => exact (Reps.none _ _)); intro v145 w53 ho54 hb hg_ hnew_; clear hg_ hnew_; (first | rw [← Ny144.out] at ho54 | (simp only [Int.reduceToNat] at ho54; rw [← Ny144.out] at ho54)); have n0_ := Aside0.mk (Kd.R_lower ho54 (Lz HB)); have n1_ := Lb HB hb; clear HB; have HO146 := n0_; have HB := n1_; clear n0_ n1_; clear hb ho54) | ((with_reducible refine gate_builtin (b := .append) (xs := #[.tmp 50, .tmp 51]) rfl ?_); (try (refine gate_guard (by rfl) ?_; dsimp only)); at_builtin; refine Kd.R_append_rows (Kd.int .i64) (w0 := w) w.heap.size rfl (.tmp 50) (.tmp 51) 36 3 (.int .i64 0) 8 rfl Try.underlying36 info3 rfl (by decide) (by omega) v145 y144 l1 _ _ _ (fun _ => True) (fun _ => False) rfl rfl ?aO ?aR (fun _ _ h => h) (fun _ h => h.elim) ?aF ?aB ?aS ?aL ?_; (case aR => repeat (first | exact (Kd.C_below HR1.out HB.out) | (with_reducible refine Kd.C_alloc ?_ _) | (with_reducible refine Kd.C_drewN ?_ _) | (with_reducible refine Kd.C_drew ?_))); (case aB => exact (Ls HB)); (case aF => exact (fun _ _ => trivial)); (case aO => exact (Rs HO146.out)); (case aS => exact (Lz HB)); (case aL => have := LMc40.out; omega); intro v148 w55 ho hb hg hat; rw [← Ny147.out] at ho; have n0_ := Aside0.mk (hb); have n1_ := Aside0.mk (ho); clear HB HO146; have HB := n0_; have HO149 := n1_; clear n0_ n1_; clear ho hb hg hat) | ((with_reducible refine gate_builtin (b := .append) (xs := #[.tmp 52, .tmp 53]) rfl ?_); (try (refine gate_guard (by rfl) ?_; dsimp only)); at_builtin; refine Kd.R_append_rows (Kd.int .i64) (w0 := w) w.heap.size rfl (.tmp 52) (.tmp 53) 36 3 (.int .i64 0) 8 rfl Try.underlying36 info3 rfl (by decide) (by omega) v148 y147 l0 _ _ _ (fun _ => True) (fun _ => False) rfl rfl ?aO ?aR (fun _ _ h => h) (fun _ h => h.elim) ?aF ?aB ?aS ?aL ?_; (case aR => repeat (first | exact (Kd.C_below HR0.out HB.out) | (with_reducible refine Kd.C_alloc ?_ _) | (with_reducible refine Kd.C_drewN ?_ _) | (with_reducible refine Kd.C_drew ?_))); (case aB => exact (Ls HB)); (case aF => exact (fun _ _ => trivial)); (case aO => exact (Rs HO149.out)); (case aS => exact (Lz HB)); (case aL => have := LMc41.out; omega); intro v151 w56 ho hb hg hat; rw [← Ny150.out] at ho; have n0_ := Aside0.mk (hb); have n1_ := Aside0.mk (ho); clear HB HO149; have HB := n0_; have HO152 := n1_; clear n0_ n1_; clear ho hb hg hat) | ((with_reducible refine gate_callee (f := 26) rfl ?_); refine goesL_ (some 56) rfl rfl Try.func26 (by kernel_rfl) rfl #[.slice A0 l0.length c0] rfl (by (try simp only [List.map_toArray, List.map_cons, List.map_nil]); first | done | rfl | (simp only [List.length_drop, List.length_take]; rfl)) ?_; (with_reducible refine (sat_Add.calls kj14 _ _ l0 t153 _ ?side1 ?side2 A42.out).mono ?_); (case side1 => repeat (first | exact (Kd.C_below HR0.out HB.out) | (with_reducible refine Kd.C_alloc ?_ _) | (with_reducible refine Kd.C_drewN ?_ _) | (with_reducible refine Kd.C_drew ?_))); (case side2 => exact HC0.out); rintro e w57 ⟨rfl, hb⟩; refine ⟨_, rfl, ?_⟩; have n0_ := Rb HO152 hb; have n1_ := Lb HB hb; clear HO152 HB; have HO152 := n0_; have HB := n1_; clear n0_ n1_; (try clear hb); (try clear hb2); (try clear hk); (try clear hi)) | ((with_reducible refine gate_callee (f := 26) rfl ?_); refine goesL_ (some 58) rfl rfl Try.func26 (by kernel_rfl) rfl #[.slice A1 l1.length c1] rfl (by (try simp only [List.map_toArray, List.map_cons, List.map_nil]); first | done | rfl | (simp only [List.length_drop, List.length_take]; rfl)) ?_; (with_reducible refine (sat_Add.calls kj14 _ _ l1 t154 _ ?side1 ?side2 A43.out).mono ?_); (case side1 => repeat (first | exact (Kd.C_below HR1.out HB.out) | (with_reducible refine Kd.C_alloc ?_ _) | (with_reducible refine Kd.C_drewN ?_ _) | (with_reducible refine Kd.C_drew ?_))); (case side2 => exact HC1.out); rintro e w58 ⟨rfl, hb⟩; refine ⟨_, rfl, ?_⟩; have n0_ := Rb HO152 hb; have n1_ := Lb HB hb; clear HO152 HB; have HO152 := n0_; have HB := n1_; clear n0_ n1_; (try clear hb); (try clear hb2); (try clear hk); (try clear hi)) | ((with_reducible refine gate_dst (N := 59) rfl ?_); (try (refine gate_guard (by rfl) ?_; dsimp only)); refine Kd.R_lit (Kd.int .i64) _ 3 ?hg (N := 59) ?hd (xs := ([t153, t154] : List Int)) (inner := [.int .i64 t153, .int .i64 t154]) (ok := fun _ => True) (okp := fun _ => True) ?hr ?hp (fun _ hk => hk) trivial (Below.refl _ _) (Nat.le_refl _) (by simp) ?_; (case hd => rfl); (case hg => rfl); (case hr => first | (go_simp; done) | (go_simp; rfl)); (case hp => exact (Reps.one (show Kd.M (Kd.int .i64) _ _ _ t153 [.int .i64 t153] from rfl) (Reps.one (show Kd.M (Kd.int .i64) _ _ _ t154 [.int .i64 t154] from rfl) (Reps.none _ _)))); intro v156 w59 ho60 hb hg_ hnew_; clear hg_ hnew_; (first | rw [← Ny155.out] at ho60 | (simp only [Int.reduceToNat] at ho60; rw [← Ny155.out] at ho60)); have n0_ := Aside0.mk (Kd.R_elder' (Rs HO152.out) (Kd.R_base ho60) hb); have n1_ := Aside0.mk (Kd.R_lower (Kd.R_new' ho60 (Kd.R_lt (Rs HO152.out))) (Lz HB)); have n2_ := Lb HB hb; clear HO152 HB; have HO152 := n0_; have HO157 := n1_; have HB := n2_; clear n0_ n1_ n2_; clear hb ho60; obtain ⟨Ao61, co61, eo61⟩ := Kd.R_slice HO157.out; subst eo61) | ((with_reducible refine gate_callee (f := 26) rfl ?_); refine goesL_ (some 60) rfl rfl Try.func26 (by kernel_rfl) rfl #[.slice Ao61 y155.length co61] rfl (by (try simp only [List.map_toArray, List.map_cons, List.map_nil]); first | done | rfl | (simp only [List.length_drop, List.length_take]; rfl)) ?_; (with_reducible refine (sat_Add.calls kj14 _ _ y155 t158 _ ?side1 ?side2 A44.out).mono ?_); (case side1 => exact Cs (Kd.R_reads' HO157.out).2.2); (case side2 => exact (Kd.R_reads' HO157.out).2.1); rintro e w62 ⟨rfl, hb⟩; refine ⟨_, rfl, ?_⟩; have n0_ := Rb HO152 hb; have n1_ := Rb HO157 hb; have n2_ := Lb HB hb; clear HO152 HO157 HB; have HO152 := n0_; have HO157 := n1_; have HB := n2_; clear n0_ n1_ n2_; (try clear hb); (try clear hb2); (try clear hk); (try clear hi); obtain ⟨Ao63, co63, eo63⟩ := Kd.R_slice HO152.out; subst eo63) | ((with_reducible refine gate_callee (f := 26) rfl ?_); refine goesL_ (some 62) rfl rfl Try.func26 (by kernel_rfl) rfl #[.slice Ao63 y150.length co63] rfl (by (try simp only [List.map_toArray, List.map_cons, List.map_nil]); first | done | rfl | (simp only [List.length_drop, List.length_take]; rfl)) ?_; (with_reducible refine (sat_Add.calls kj14 _ _ y150 t159 _ ?side1 ?side2 A45.out).mono ?_); (case side1 => exact Cs (Kd.R_reads' HO152.out).2.2); (case side2 => exact (Kd.R_reads' HO152.out).2.1); rintro e w64 ⟨rfl, hb⟩; refine ⟨_, rfl, ?_⟩; have n0_ := Rb HO152 hb; have n1_ := Rb HO157 hb; have n2_ := Lb HB hb; clear HO152 HO157 HB; have HO152 := n0_; have HO157 := n1_; have HB := n2_; clear n0_ n1_ n2_; (try clear hb); (try clear hb2); (try clear hk); (try clear hi)) | (go_at_call 27; (with_reducible refine (sat_Mul.calls kj14 _ _ l0 t160 _ ?side1 ?side2 A47.out).mono ?_); (case side1 => repeat (first | exact (Kd.C_below HR0.out HB.out) | (with_reducible refine Kd.C_alloc ?_ _) | (with_reducible refine Kd.C_drewN ?_ _) | (with_reducible refine Kd.C_drew ?_))); (case side2 => exact HC0.out); rintro e w65 ⟨rfl, hb⟩; have n0_ := Rb HO152 hb; have n1_ := Rb HO157 hb; have n2_ := Lb HB hb; clear HO152 HO157 HB; have HO152 := n0_; have HO157 := n1_; have HB := n2_; clear n0_ n1_ n2_; (try clear hb); (try clear hb2); (try clear hk); (try clear hi)) | (go_at_call 27; (with_reducible refine (sat_Mul.calls kj14 _ _ l1 t161 _ ?side1 ?side2 A48.out).mono ?_); (case side1 => repeat (first | exact (Kd.C_below HR1.out HB.out) | (with_reducible refine Kd.C_alloc ?_ _) | (with_reducible refine Kd.C_drewN ?_ _) | (with_reducible refine Kd.C_drew ?_))); (case side2 => exact HC1.out); rintro e w66 ⟨rfl, hb⟩; have n0_ := Rb HO152 hb; have n1_ := Rb HO157 hb; have n2_ := Lb HB hb; clear HO152 HO157 HB; have HO152 := n0_; have HO157 := n1_; have HB := n2_; clear n0_ n1_ n2_; (try clear hb); (try clear hb2); (try clear hk); (try clear hi)) | ((with_reducible refine gate_dst (N := 69) rfl ?_); (try (refine gate_guard (by rfl) ?_; dsimp only)); refine Kd.R_lit (Kd.int .i64) _ 3 ?hg (N := 69) ?hd (xs := ([t160, t161] : List Int)) (inner := [.int .i64 t160, .int .i64 t161]) (ok := fun _ => True) (okp := fun _ => True) ?hr ?hp (fun _ hk => hk) trivial (Below.refl _ _) (Nat.le_refl _) (by simp) ?_; (case hd => rfl); (case hg => rfl); (case hr => first | (go_simp; done) | (go_simp; rfl)); (case hp => exact (Reps.one (show Kd.M (Kd.int .i64) _ _ _ t160 [.int .i64 t160] from rfl) (Reps.one (show Kd.M (Kd.int .i64) _ _ _ t161 [.int .i64 t161] from rfl) (Reps.none _ _)))); intro v163 w67 ho68 hb hg_ hnew_; clear hg_ hnew_; (first | rw [← Ny162.out] at ho68 | (simp only [Int.reduceToNat] at ho68; rw [← Ny162.out] at ho68)); have n0_ := Aside0.mk (Kd.R_elder' (Rs HO152.out) (Kd.R_base ho68) hb); have n1_ := Aside0.mk (Kd.R_elder' (Rs HO157.out) (Kd.R_base ho68) hb); have n2_ := Aside0.mk (Kd.R_lower (Kd.R_new' (Kd.R_new' ho68 (Kd.R_lt (Rs HO152.out))) (Kd.R_lt (Rs HO157.out))) (Lz HB)); have n3_ := Lb HB hb; clear HO152 HO157 HB; have HO152 := n0_; have HO157 := n1_; have HO164 := n2_; have HB := n3_; clear n0_ n1_ n2_ n3_; clear hb ho68; obtain ⟨Ao69, co69, eo69⟩ := Kd.R_slice HO164.out; subst eo69) | (go_at_call 27; (with_reducible refine (sat_Mul.calls kj14 _ _ y162 t165 _ ?side1 ?side2 A49.out).mono ?_); (case side1 => exact Cs (Kd.R_reads' HO164.out).2.2); (case side2 => exact (Kd.R_reads' HO164.out).2.1); rintro e w70 ⟨rfl, hb⟩; have n0_ := Rb HO152 hb; have n1_ := Rb HO157 hb; have n2_ := Rb HO164 hb; have n3_ := Lb HB hb; clear HO152 HO157 HO164 HB; have HO152 := n0_; have HO157 := n1_; have HO164 := n2_; have HB := n3_; clear n0_ n1_ n2_ n3_; (try clear hb); (try clear hb2); (try clear hk); (try clear hi)) | (go_at_call 27; (with_reducible refine (sat_Mul.calls kj14 _ _ y150 t166 _ ?side1 ?side2 A50.out).mono ?_); (case side1 => exact Cs (Kd.R_reads' HO152.out).2.2); (case side2 => exact (Kd.R_reads' HO152.out).2.1); rintro e w71 ⟨rfl, hb⟩; have n0_ := Rb HO152 hb; have n1_ := Rb HO157 hb; have n2_ := Rb HO164 hb; have n3_ := Lb HB hb; clear HO152 HO157 HO164 HB; have HO152 := n0_; have HO157 := n1_; have HO164 := n2_; have HB := n3_; clear n0_ n1_ n2_ n3_; (try clear hb); (try clear hb2); (try clear hk); (try clear hi)) | (go_at_call 25; (with_reducible refine (trommellaw26_live.calls kj14  t167 _ A52.out).mono ?_); rintro e w72 ⟨rfl, hb⟩; have n0_ := Rb HO152 hb; have n1_ := Rb HO157 hb; have n2_ := Rb HO164 hb; have n3_ := Lb HB hb; clear HO152 HO157 HO164 HB; have HO152 := n0_; have HO157 := n1_; have HO164 := n2_; have HB := n3_; clear n0_ n1_ n2_ n3_; (try clear hb); (try clear hb2); (try clear hk); (try clear hi)))
                  go_ret
                  exact ⟨by first | rfl | (simp [errW_none, errW_some] <;> rfl) | (simp [*, errW_none, errW_some] <;> rfl), by repeat (first | (with_reducible first | exact HB.out | apply below_alloc | apply pw_below_drewN | apply below_drew1) | exact HB.out)⟩
                · rw [if_neg c51] at H
                  have c51b0 : (t165 == t166) = false := beq_eq_false_iff_ne.mpr c51
                  have c51b1 : (t165 != t166) = true := bne_iff_ne.mpr c51
                  obtain rfl := Option.some.inj H
                  go_wp2_with (first | ((with_reducible refine gate_dst (N := 50) rfl ?_); (try (refine gate_guard (by rfl) ?_; dsimp only)); refine Kd.R_lit (Kd.int .i64) _ 3 ?hg (N := 50) ?hd (xs := ([] : List Int)) (inner := []) (ok := fun _ => True) (okp := fun _ => True) ?hr ?hp (fun _ hk => hk) trivial (Below.refl _ _) (Nat.le_refl _) (by simp) ?_; (case hd => rfl); (case hg => rfl); (case hr => first | (go_simp; done) | (go_simp; rfl)); (case hp => exact (Reps.none _ _)); intro v145 w73 ho74 hb hg_ hnew_; clear hg_ hnew_; (first | rw [← Ny144.out] at ho74 | (simp only [Int.reduceToNat] at ho74; rw [← Ny144.out] at ho74)); have n0_ := Aside0.mk (Kd.R_lower ho74 (Lz HB)); have n1_ := Lb HB hb; clear HB; have HO146 := n0_; have HB := n1_; clear n0_ n1_; clear hb ho74) | ((with_reducible refine gate_builtin (b := .append) (xs := #[.tmp 50, .tmp 51]) rfl ?_); (try (refine gate_guard (by rfl) ?_; dsimp only)); at_builtin; refine Kd.R_append_rows (Kd.int .i64) (w0 := w) w.heap.size rfl (.tmp 50) (.tmp 51) 36 3 (.int .i64 0) 8 rfl Try.underlying36 info3 rfl (by decide) (by omega) v145 y144 l1 _ _ _ (fun _ => True) (fun _ => False) rfl rfl ?aO ?aR (fun _ _ h => h) (fun _ h => h.elim) ?aF ?aB ?aS ?aL ?_; (case aR => repeat (first | exact (Kd.C_below HR1.out HB.out) | (with_reducible refine Kd.C_alloc ?_ _) | (with_reducible refine Kd.C_drewN ?_ _) | (with_reducible refine Kd.C_drew ?_))); (case aB => exact (Ls HB)); (case aF => exact (fun _ _ => trivial)); (case aO => exact (Rs HO146.out)); (case aS => exact (Lz HB)); (case aL => have := LMc40.out; omega); intro v148 w75 ho hb hg hat; rw [← Ny147.out] at ho; have n0_ := Aside0.mk (hb); have n1_ := Aside0.mk (ho); clear HB HO146; have HB := n0_; have HO149 := n1_; clear n0_ n1_; clear ho hb hg hat) | ((with_reducible refine gate_builtin (b := .append) (xs := #[.tmp 52, .tmp 53]) rfl ?_); (try (refine gate_guard (by rfl) ?_; dsimp only)); at_builtin; refine Kd.R_append_rows (Kd.int .i64) (w0 := w) w.heap.size rfl (.tmp 52) (.tmp 53) 36 3 (.int .i64 0) 8 rfl Try.underlying36 info3 rfl (by decide) (by omega) v148 y147 l0 _ _ _ (fun _ => True) (fun _ => False) rfl rfl ?aO ?aR (fun _ _ h => h) (fun _ h => h.elim) ?aF ?aB ?aS ?aL ?_; (case aR => repeat (first | exact (Kd.C_below HR0.out HB.out) | (with_reducible refine Kd.C_alloc ?_ _) | (with_reducible refine Kd.C_drewN ?_ _) | (with_reducible refine Kd.C_drew ?_))); (case aB => exact (Ls HB)); (case aF => exact (fun _ _ => trivial)); (case aO => exact (Rs HO149.out)); (case aS => exact (Lz HB)); (case aL => have := LMc41.out; omega); intro v151 w76 ho hb hg hat; rw [← Ny150.out] at ho; have n0_ := Aside0.mk (hb); have n1_ := Aside0.mk (ho); clear HB HO149; have HB := n0_; have HO152 := n1_; clear n0_ n1_; clear ho hb hg hat) | ((with_reducible refine gate_callee (f := 26) rfl ?_); refine goesL_ (some 56) rfl rfl Try.func26 (by kernel_rfl) rfl #[.slice A0 l0.length c0] rfl (by (try simp only [List.map_toArray, List.map_cons, List.map_nil]); first | done | rfl | (simp only [List.length_drop, List.length_take]; rfl)) ?_; (with_reducible refine (sat_Add.calls kj14 _ _ l0 t153 _ ?side1 ?side2 A42.out).mono ?_); (case side1 => repeat (first | exact (Kd.C_below HR0.out HB.out) | (with_reducible refine Kd.C_alloc ?_ _) | (with_reducible refine Kd.C_drewN ?_ _) | (with_reducible refine Kd.C_drew ?_))); (case side2 => exact HC0.out); rintro e w77 ⟨rfl, hb⟩; refine ⟨_, rfl, ?_⟩; have n0_ := Rb HO152 hb; have n1_ := Lb HB hb; clear HO152 HB; have HO152 := n0_; have HB := n1_; clear n0_ n1_; (try clear hb); (try clear hb2); (try clear hk); (try clear hi)) | ((with_reducible refine gate_callee (f := 26) rfl ?_); refine goesL_ (some 58) rfl rfl Try.func26 (by kernel_rfl) rfl #[.slice A1 l1.length c1] rfl (by (try simp only [List.map_toArray, List.map_cons, List.map_nil]); first | done | rfl | (simp only [List.length_drop, List.length_take]; rfl)) ?_; (with_reducible refine (sat_Add.calls kj14 _ _ l1 t154 _ ?side1 ?side2 A43.out).mono ?_); (case side1 => repeat (first | exact (Kd.C_below HR1.out HB.out) | (with_reducible refine Kd.C_alloc ?_ _) | (with_reducible refine Kd.C_drewN ?_ _) | (with_reducible refine Kd.C_drew ?_))); (case side2 => exact HC1.out); rintro e w78 ⟨rfl, hb⟩; refine ⟨_, rfl, ?_⟩; have n0_ := Rb HO152 hb; have n1_ := Lb HB hb; clear HO152 HB; have HO152 := n0_; have HB := n1_; clear n0_ n1_; (try clear hb); (try clear hb2); (try clear hk); (try clear hi)) | ((with_reducible refine gate_dst (N := 59) rfl ?_); (try (refine gate_guard (by rfl) ?_; dsimp only)); refine Kd.R_lit (Kd.int .i64) _ 3 ?hg (N := 59) ?hd (xs := ([t153, t154] : List Int)) (inner := [.int .i64 t153, .int .i64 t154]) (ok := fun _ => True) (okp := fun _ => True) ?hr ?hp (fun _ hk => hk) trivial (Below.refl _ _) (Nat.le_refl _) (by simp) ?_; (case hd => rfl); (case hg => rfl); (case hr => first | (go_simp; done) | (go_simp; rfl)); (case hp => exact (Reps.one (show Kd.M (Kd.int .i64) _ _ _ t153 [.int .i64 t153] from rfl) (Reps.one (show Kd.M (Kd.int .i64) _ _ _ t154 [.int .i64 t154] from rfl) (Reps.none _ _)))); intro v156 w79 ho80 hb hg_ hnew_; clear hg_ hnew_; (first | rw [← Ny155.out] at ho80 | (simp only [Int.reduceToNat] at ho80; rw [← Ny155.out] at ho80)); have n0_ := Aside0.mk (Kd.R_elder' (Rs HO152.out) (Kd.R_base ho80) hb); have n1_ := Aside0.mk (Kd.R_lower (Kd.R_new' ho80 (Kd.R_lt (Rs HO152.out))) (Lz HB)); have n2_ := Lb HB hb; clear HO152 HB; have HO152 := n0_; have HO157 := n1_; have HB := n2_; clear n0_ n1_ n2_; clear hb ho80; obtain ⟨Ao81, co81, eo81⟩ := Kd.R_slice HO157.out; subst eo81) | ((with_reducible refine gate_callee (f := 26) rfl ?_); refine goesL_ (some 60) rfl rfl Try.func26 (by kernel_rfl) rfl #[.slice Ao81 y155.length co81] rfl (by (try simp only [List.map_toArray, List.map_cons, List.map_nil]); first | done | rfl | (simp only [List.length_drop, List.length_take]; rfl)) ?_; (with_reducible refine (sat_Add.calls kj14 _ _ y155 t158 _ ?side1 ?side2 A44.out).mono ?_); (case side1 => exact Cs (Kd.R_reads' HO157.out).2.2); (case side2 => exact (Kd.R_reads' HO157.out).2.1); rintro e w82 ⟨rfl, hb⟩; refine ⟨_, rfl, ?_⟩; have n0_ := Rb HO152 hb; have n1_ := Rb HO157 hb; have n2_ := Lb HB hb; clear HO152 HO157 HB; have HO152 := n0_; have HO157 := n1_; have HB := n2_; clear n0_ n1_ n2_; (try clear hb); (try clear hb2); (try clear hk); (try clear hi); obtain ⟨Ao83, co83, eo83⟩ := Kd.R_slice HO152.out; subst eo83) | ((with_reducible refine gate_callee (f := 26) rfl ?_); refine goesL_ (some 62) rfl rfl Try.func26 (by kernel_rfl) rfl #[.slice Ao83 y150.length co83] rfl (by (try simp only [List.map_toArray, List.map_cons, List.map_nil]); first | done | rfl | (simp only [List.length_drop, List.length_take]; rfl)) ?_; (with_reducible refine (sat_Add.calls kj14 _ _ y150 t159 _ ?side1 ?side2 A45.out).mono ?_); (case side1 => exact Cs (Kd.R_reads' HO152.out).2.2); (case side2 => exact (Kd.R_reads' HO152.out).2.1); rintro e w84 ⟨rfl, hb⟩; refine ⟨_, rfl, ?_⟩; have n0_ := Rb HO152 hb; have n1_ := Rb HO157 hb; have n2_ := Lb HB hb; clear HO152 HO157 HB; have HO152 := n0_; have HO157 := n1_; have HB := n2_; clear n0_ n1_ n2_; (try clear hb); (try clear hb2); (try clear hk); (try clear hi)) | (go_at_call 27; (with_reducible refine (sat_Mul.calls kj14 _ _ l0 t160 _ ?side1 ?side2 A47.out).mono ?_); (case side1 => repeat (first | exact (Kd.C_below HR0.out HB.out) | (with_reducible refine Kd.C_alloc ?_ _) | (with_reducible refine Kd.C_drewN ?_ _) | (with_reducible refine Kd.C_drew ?_))); (case side2 => exact HC0.out); rintro e w85 ⟨rfl, hb⟩; have n0_ := Rb HO152 hb; have n1_ := Rb HO157 hb; have n2_ := Lb HB hb; clear HO152 HO157 HB; have HO152 := n0_; have HO157 := n1_; have HB := n2_; clear n0_ n1_ n2_; (try clear hb); (try clear hb2); (try clear hk); (try clear hi)) | (go_at_call 27; (with_reducible refine (sat_Mul.calls kj14 _ _ l1 t161 _ ?side1 ?side2 A48.out).mono ?_); (case side1 => repeat (first | exact (Kd.C_below HR1.out HB.out) | (with_reducible refine Kd.C_alloc ?_ _) | (with_reducible refine Kd.C_drewN ?_ _) | (with_reducible refine Kd.C_drew ?_))); (case side2 => exact HC1.out); rintro e w86 ⟨rfl, hb⟩; have n0_ := Rb HO152 hb; have n1_ := Rb HO157 hb; have n2_ := Lb HB hb; clear HO152 HO157 HB; have HO152 := n0_; have HO157 := n1_; have HB := n2_; clear n0_ n1_ n2_; (try clear hb); (try clear hb2); (try clear hk); (try clear hi)) | ((with_reducible refine gate_dst (N := 69) rfl ?_); (try (refine gate_guard (by rfl) ?_; dsimp only)); refine Kd.R_lit (Kd.int .i64) _ 3 ?hg (N := 69) ?hd (xs := ([t160, t161] : List Int)) (inner := [.int .i64 t160, .int .i64 t161]) (ok := fun _ => True) (okp := fun _ => True) ?hr ?hp (fun _ hk => hk) trivial (Below.refl _ _) (Nat.le_refl _) (by simp) ?_; (case hd => rfl); (case hg => rfl); (case hr => first | (go_simp; done) | (go_simp; rfl)); (case hp => exact (Reps.one (show Kd.M (Kd.int .i64) _ _ _ t160 [.int .i64 t160] from rfl) (Reps.one (show Kd.M (Kd.int .i64) _ _ _ t161 [.int .i64 t161] from rfl) (Reps.none _ _)))); intro v163 w87 ho88 hb hg_ hnew_; clear hg_ hnew_; (first | rw [← Ny162.out] at ho88 | (simp only [Int.reduceToNat] at ho88; rw [← Ny162.out] at ho88)); have n0_ := Aside0.mk (Kd.R_elder' (Rs HO152.out) (Kd.R_base ho88) hb); have n1_ := Aside0.mk (Kd.R_elder' (Rs HO157.out) (Kd.R_base ho88) hb); have n2_ := Aside0.mk (Kd.R_lower (Kd.R_new' (Kd.R_new' ho88 (Kd.R_lt (Rs HO152.out))) (Kd.R_lt (Rs HO157.out))) (Lz HB)); have n3_ := Lb HB hb; clear HO152 HO157 HB; have HO152 := n0_; have HO157 := n1_; have HO164 := n2_; have HB := n3_; clear n0_ n1_ n2_ n3_; clear hb ho88; obtain ⟨Ao89, co89, eo89⟩ := Kd.R_slice HO164.out; subst eo89) | (go_at_call 27; (with_reducible refine (sat_Mul.calls kj14 _ _ y162 t165 _ ?side1 ?side2 A49.out).mono ?_); (case side1 => exact Cs (Kd.R_reads' HO164.out).2.2); (case side2 => exact (Kd.R_reads' HO164.out).2.1); rintro e w90 ⟨rfl, hb⟩; have n0_ := Rb HO152 hb; have n1_ := Rb HO157 hb; have n2_ := Rb HO164 hb; have n3_ := Lb HB hb; clear HO152 HO157 HO164 HB; have HO152 := n0_; have HO157 := n1_; have HO164 := n2_; have HB := n3_; clear n0_ n1_ n2_ n3_; (try clear hb); (try clear hb2); (try clear hk); (try clear hi)) | (go_at_call 27; (with_reducible refine (sat_Mul.calls kj14 _ _ y150 t166 _ ?side1 ?side2 A50.out).mono ?_); (case side1 => exact Cs (Kd.R_reads' HO152.out).2.2); (case side2 => exact (Kd.R_reads' HO152.out).2.1); rintro e w91 ⟨rfl, hb⟩; have n0_ := Rb HO152 hb; have n1_ := Rb HO157 hb; have n2_ := Rb HO164 hb; have n3_ := Lb HB hb; clear HO152 HO157 HO164 HB; have HO152 := n0_; have HO157 := n1_; have HO164 := n2_; have HB := n3_; clear n0_ n1_ n2_ n3_; (try clear hb); (try clear hb2); (try clear hk); (try clear hi)))
                  go_ret
                  exact ⟨by first | rfl | (simp [errW_none, errW_some] <;> rfl) | (simp [*, errW_none, errW_some] <;> rfl), by repeat (first | (with_reducible first | exact HB.out | apply below_alloc | apply pw_below_drewN | apply below_drew1) | exact HB.out)⟩
              · rw [if_neg c46] at H
                have c46b0 : (t158 == t159) = false := beq_eq_false_iff_ne.mpr c46
                have c46b1 : (t158 != t159) = true := bne_iff_ne.mpr c46
                obtain rfl := Option.some.inj H
                go_wp2_with (first | ((with_reducible refine gate_dst (N := 50) rfl ?_); (try (refine gate_guard (by rfl) ?_; dsimp only)); refine Kd.R_lit (Kd.int .i64) _ 3 ?hg (N := 50) ?hd (xs := ([] : List Int)) (inner := []) (ok := fun _ => True) (okp := fun _ => True) ?hr ?hp (fun _ hk => hk) trivial (Below.refl _ _) (Nat.le_refl _) (by simp) ?_; (case hd => rfl); (case hg => rfl); (case hr => first | (go_simp; done) | (go_simp; rfl)); (case hp => exact (Reps.none _ _)); intro v145 w92 ho93 hb hg_ hnew_; clear hg_ hnew_; (first | rw [← Ny144.out] at ho93 | (simp only [Int.reduceToNat] at ho93; rw [← Ny144.out] at ho93)); have n0_ := Aside0.mk (Kd.R_lower ho93 (Lz HB)); have n1_ := Lb HB hb; clear HB; have HO146 := n0_; have HB := n1_; clear n0_ n1_; clear hb ho93) | ((with_reducible refine gate_builtin (b := .append) (xs := #[.tmp 50, .tmp 51]) rfl ?_); (try (refine gate_guard (by rfl) ?_; dsimp only)); at_builtin; refine Kd.R_append_rows (Kd.int .i64) (w0 := w) w.heap.size rfl (.tmp 50) (.tmp 51) 36 3 (.int .i64 0) 8 rfl Try.underlying36 info3 rfl (by decide) (by omega) v145 y144 l1 _ _ _ (fun _ => True) (fun _ => False) rfl rfl ?aO ?aR (fun _ _ h => h) (fun _ h => h.elim) ?aF ?aB ?aS ?aL ?_; (case aR => repeat (first | exact (Kd.C_below HR1.out HB.out) | (with_reducible refine Kd.C_alloc ?_ _) | (with_reducible refine Kd.C_drewN ?_ _) | (with_reducible refine Kd.C_drew ?_))); (case aB => exact (Ls HB)); (case aF => exact (fun _ _ => trivial)); (case aO => exact (Rs HO146.out)); (case aS => exact (Lz HB)); (case aL => have := LMc40.out; omega); intro v148 w94 ho hb hg hat; rw [← Ny147.out] at ho; have n0_ := Aside0.mk (hb); have n1_ := Aside0.mk (ho); clear HB HO146; have HB := n0_; have HO149 := n1_; clear n0_ n1_; clear ho hb hg hat) | ((with_reducible refine gate_builtin (b := .append) (xs := #[.tmp 52, .tmp 53]) rfl ?_); (try (refine gate_guard (by rfl) ?_; dsimp only)); at_builtin; refine Kd.R_append_rows (Kd.int .i64) (w0 := w) w.heap.size rfl (.tmp 52) (.tmp 53) 36 3 (.int .i64 0) 8 rfl Try.underlying36 info3 rfl (by decide) (by omega) v148 y147 l0 _ _ _ (fun _ => True) (fun _ => False) rfl rfl ?aO ?aR (fun _ _ h => h) (fun _ h => h.elim) ?aF ?aB ?aS ?aL ?_; (case aR => repeat (first | exact (Kd.C_below HR0.out HB.out) | (with_reducible refine Kd.C_alloc ?_ _) | (with_reducible refine Kd.C_drewN ?_ _) | (with_reducible refine Kd.C_drew ?_))); (case aB => exact (Ls HB)); (case aF => exact (fun _ _ => trivial)); (case aO => exact (Rs HO149.out)); (case aS => exact (Lz HB)); (case aL => have := LMc41.out; omega); intro v151 w95 ho hb hg hat; rw [← Ny150.out] at ho; have n0_ := Aside0.mk (hb); have n1_ := Aside0.mk (ho); clear HB HO149; have HB := n0_; have HO152 := n1_; clear n0_ n1_; clear ho hb hg hat) | ((with_reducible refine gate_callee (f := 26) rfl ?_); refine goesL_ (some 56) rfl rfl Try.func26 (by kernel_rfl) rfl #[.slice A0 l0.length c0] rfl (by (try simp only [List.map_toArray, List.map_cons, List.map_nil]); first | done | rfl | (simp only [List.length_drop, List.length_take]; rfl)) ?_; (with_reducible refine (sat_Add.calls kj14 _ _ l0 t153 _ ?side1 ?side2 A42.out).mono ?_); (case side1 => repeat (first | exact (Kd.C_below HR0.out HB.out) | (with_reducible refine Kd.C_alloc ?_ _) | (with_reducible refine Kd.C_drewN ?_ _) | (with_reducible refine Kd.C_drew ?_))); (case side2 => exact HC0.out); rintro e w96 ⟨rfl, hb⟩; refine ⟨_, rfl, ?_⟩; have n0_ := Rb HO152 hb; have n1_ := Lb HB hb; clear HO152 HB; have HO152 := n0_; have HB := n1_; clear n0_ n1_; (try clear hb); (try clear hb2); (try clear hk); (try clear hi)) | ((with_reducible refine gate_callee (f := 26) rfl ?_); refine goesL_ (some 58) rfl rfl Try.func26 (by kernel_rfl) rfl #[.slice A1 l1.length c1] rfl (by (try simp only [List.map_toArray, List.map_cons, List.map_nil]); first | done | rfl | (simp only [List.length_drop, List.length_take]; rfl)) ?_; (with_reducible refine (sat_Add.calls kj14 _ _ l1 t154 _ ?side1 ?side2 A43.out).mono ?_); (case side1 => repeat (first | exact (Kd.C_below HR1.out HB.out) | (with_reducible refine Kd.C_alloc ?_ _) | (with_reducible refine Kd.C_drewN ?_ _) | (with_reducible refine Kd.C_drew ?_))); (case side2 => exact HC1.out); rintro e w97 ⟨rfl, hb⟩; refine ⟨_, rfl, ?_⟩; have n0_ := Rb HO152 hb; have n1_ := Lb HB hb; clear HO152 HB; have HO152 := n0_; have HB := n1_; clear n0_ n1_; (try clear hb); (try clear hb2); (try clear hk); (try clear hi)) | ((with_reducible refine gate_dst (N := 59) rfl ?_); (try (refine gate_guard (by rfl) ?_; dsimp only)); refine Kd.R_lit (Kd.int .i64) _ 3 ?hg (N := 59) ?hd (xs := ([t153, t154] : List Int)) (inner := [.int .i64 t153, .int .i64 t154]) (ok := fun _ => True) (okp := fun _ => True) ?hr ?hp (fun _ hk => hk) trivial (Below.refl _ _) (Nat.le_refl _) (by simp) ?_; (case hd => rfl); (case hg => rfl); (case hr => first | (go_simp; done) | (go_simp; rfl)); (case hp => exact (Reps.one (show Kd.M (Kd.int .i64) _ _ _ t153 [.int .i64 t153] from rfl) (Reps.one (show Kd.M (Kd.int .i64) _ _ _ t154 [.int .i64 t154] from rfl) (Reps.none _ _)))); intro v156 w98 ho99 hb hg_ hnew_; clear hg_ hnew_; (first | rw [← Ny155.out] at ho99 | (simp only [Int.reduceToNat] at ho99; rw [← Ny155.out] at ho99)); have n0_ := Aside0.mk (Kd.R_elder' (Rs HO152.out) (Kd.R_base ho99) hb); have n1_ := Aside0.mk (Kd.R_lower (Kd.R_new' ho99 (Kd.R_lt (Rs HO152.out))) (Lz HB)); have n2_ := Lb HB hb; clear HO152 HB; have HO152 := n0_; have HO157 := n1_; have HB := n2_; clear n0_ n1_ n2_; clear hb ho99; obtain ⟨Ao100, co100, eo100⟩ := Kd.R_slice HO157.out; subst eo100) | ((with_reducible refine gate_callee (f := 26) rfl ?_); refine goesL_ (some 60) rfl rfl Try.func26 (by kernel_rfl) rfl #[.slice Ao100 y155.length co100] rfl (by (try simp only [List.map_toArray, List.map_cons, List.map_nil]); first | done | rfl | (simp only [List.length_drop, List.length_take]; rfl)) ?_; (with_reducible refine (sat_Add.calls kj14 _ _ y155 t158 _ ?side1 ?side2 A44.out).mono ?_); (case side1 => exact Cs (Kd.R_reads' HO157.out).2.2); (case side2 => exact (Kd.R_reads' HO157.out).2.1); rintro e w101 ⟨rfl, hb⟩; refine ⟨_, rfl, ?_⟩; have n0_ := Rb HO152 hb; have n1_ := Rb HO157 hb; have n2_ := Lb HB hb; clear HO152 HO157 HB; have HO152 := n0_; have HO157 := n1_; have HB := n2_; clear n0_ n1_ n2_; (try clear hb); (try clear hb2); (try clear hk); (try clear hi); obtain ⟨Ao102, co102, eo102⟩ := Kd.R_slice HO152.out; subst eo102) | ((with_reducible refine gate_callee (f := 26) rfl ?_); refine goesL_ (some 62) rfl rfl Try.func26 (by kernel_rfl) rfl #[.slice Ao102 y150.length co102] rfl (by (try simp only [List.map_toArray, List.map_cons, List.map_nil]); first | done | rfl | (simp only [List.length_drop, List.length_take]; rfl)) ?_; (with_reducible refine (sat_Add.calls kj14 _ _ y150 t159 _ ?side1 ?side2 A45.out).mono ?_); (case side1 => exact Cs (Kd.R_reads' HO152.out).2.2); (case side2 => exact (Kd.R_reads' HO152.out).2.1); rintro e w103 ⟨rfl, hb⟩; refine ⟨_, rfl, ?_⟩; have n0_ := Rb HO152 hb; have n1_ := Rb HO157 hb; have n2_ := Lb HB hb; clear HO152 HO157 HB; have HO152 := n0_; have HO157 := n1_; have HB := n2_; clear n0_ n1_ n2_; (try clear hb); (try clear hb2); (try clear hk); (try clear hi)))
                go_ret
                exact ⟨by first | rfl | (simp [errW_none, errW_some] <;> rfl) | (simp [*, errW_none, errW_some] <;> rfl), by repeat (first | (with_reducible first | exact HB.out | apply below_alloc | apply pw_below_drewN | apply below_drew1) | exact HB.out)⟩
/-- THE ONE PURE STATEMENT of trommellaw26_SatOrders: yours. -/
def trommellaw26_SatOrders.Pure : Prop := ∀ (l0 : List Int) (l1 : List Int) (a2 : Int) (a3 : Int), l0.length ≤ maxLen → l0.length * 8 ≤ 140737488351232 → (∀ x ∈ l0, (Lit.int .i64 x).wf = true) → l1.length ≤ maxLen → l1.length * 8 ≤ 140737488351232 → (∀ x ∈ l1, (Lit.int .i64 x).wf = true) → (Lit.int .i64 a2).wf = true → (Lit.int .i64 a3).wf = true → ∃ k, trommellaw26_SatOrders.f k l0 l1 a2 a3 = some true
theorem trommellaw26_SatOrders.walk (P : trommellaw26_SatOrders.Pure) (a0 : Option Addr) (len0 cap0 : Nat) (z0 : List Int) (a1 : Option Addr) (len1 cap1 : Nat) (z1 : List Int) (a2 : Int) (a3 : Int) (w : World) (w0 : (a0 = none ∧ len0 = 0 ∧ cap0 = 0 ∧ z0 = []) ∨ ∃ x, a0 = some x ∧ len0 ≤ cap0 ∧ cap0 ≤ maxLen ∧ z0.length = cap0 ∧ (∀ i, i < z0.length → w.cell? (x.add i) = some (.int .i64 (z0.getD i 0))) ∧ ∀ n ∈ z0, (Lit.int .i64 n).wf = true) (y0 : len0 * 8 ≤ 140737488351232) (w1 : (a1 = none ∧ len1 = 0 ∧ cap1 = 0 ∧ z1 = []) ∨ ∃ x, a1 = some x ∧ len1 ≤ cap1 ∧ cap1 ≤ maxLen ∧ z1.length = cap1 ∧ (∀ i, i < z1.length → w.cell? (x.add i) = some (.int .i64 (z1.getD i 0))) ∧ ∀ n ∈ z1, (Lit.int .i64 n).wf = true) (y1 : len1 * 8 ≤ 140737488351232) (w2 : (Lit.int .i64 a2).wf = true) (w3 : (Lit.int .i64 a3).wf = true) :
    Calls Try.prog 6 #[.slice a0 len0 cap0, .slice a1 len1 cap1, .int .i64 a2, .int .i64 a3] w fun e w' => e = .returned (.bool true) ∧ Below w.heap.size w w' := by
  obtain ⟨l0, rfl, hr0, hm0, hw0, hc0⟩ := ReadsInt.ofRowC w0
  obtain ⟨l1, rfl, hr1, hm1, hw1, hc1⟩ := ReadsInt.ofRowC w1
  obtain ⟨k, h⟩ := P l0 l1 a2 a3 hm0 y0 hw0 hm1 y1 hw1 w2 w3
  refine (trommellaw26_SatOrders.calls k _ _ l0 _ _ l1 a2 a3 true w (Kd.C_of_reads (d := (0 : Int)) (h1 := fun _ => rfl) hr0) hc0 (Kd.C_of_reads (d := (0 : Int)) (h1 := fun _ => rfl) hr1) hc1 h).mono ?_
  rintro e w' ⟨rfl, hd⟩
  exact ⟨rfl, hd⟩

/-! ### trommelref26_Cut: function 31 -/
def trommelref26_Cut.f (a0 : Int) : Option (Int) := if a0 < 0 then (some 0) else (if a0 > 4611686018427387904 then (some 4611686018427387904) else (some a0))
set_option maxHeartbeats 8000000 in
set_option maxRecDepth 100000 in
theorem trommelref26_Cut.calls (a0 : Int) (r : Int) (w : World) (h : trommelref26_Cut.f a0 = some r) :
    Calls Try.prog 31 #[.int .i64 a0] w fun e w' => e = .returned (.int .i64 r) ∧ Drawn0 w w' := by
  have H : (if a0 < 0 then (some 0) else (if a0 > 4611686018427387904 then (some 4611686018427387904) else (some a0))) = some r := h
  clear h
  by_cases c2 : a0 < 0
  · rw [if_pos c2] at H
    have c2b0 : decide (a0 < 0) = true := decide_eq_true c2
    clear c2
    obtain rfl := Option.some.inj H
    go_enter Try.func31, Try.ntmps31
    go_wp2
    go_ret
    exact ⟨by first | rfl | (simp; done) | (simp [*]; done), by repeat (first | exact Drawn0.refl _ | apply Drawn0.step)⟩
  · rw [if_neg c2] at H
    have c2b0 : decide (a0 < 0) = false := decide_eq_false c2
    clear c2
    by_cases c3 : a0 > 4611686018427387904
    · rw [if_pos c3] at H
      have c3b0 : decide (4611686018427387904 < a0) = true := decide_eq_true c3
      clear c3
      obtain rfl := Option.some.inj H
      go_enter Try.func31, Try.ntmps31
      go_wp2
      go_ret
      exact ⟨by first | rfl | (simp; done) | (simp [*]; done), by repeat (first | exact Drawn0.refl _ | apply Drawn0.step)⟩
    · rw [if_neg c3] at H
      have c3b0 : decide (4611686018427387904 < a0) = false := decide_eq_false c3
      clear c3
      obtain rfl := Option.some.inj H
      go_enter Try.func31, Try.ntmps31
      go_wp2
      go_ret
      exact ⟨by first | rfl | (simp; done) | (simp [*]; done), by repeat (first | exact Drawn0.refl _ | apply Drawn0.step)⟩

/-! ### trommelref26_Plus: function 48 -/
def trommelref26_Plus.f (a0 : Int) (a1 : Int) : Option (Int) := (trommelref26_Cut.f a0).bind fun t168 => ((trommelref26_Cut.f a1).bind fun t169 => (if t168 > (wrap64 (4611686018427387904 - t169)) then (some 4611686018427387904) else (some (wrap64 (t168 + t169)))))
set_option maxHeartbeats 8000000 in
set_option maxRecDepth 100000 in
theorem trommelref26_Plus.calls (a0 : Int) (a1 : Int) (r : Int) (w : World) (h : trommelref26_Plus.f a0 a1 = some r) :
    Calls Try.prog 48 #[.int .i64 a0, .int .i64 a1] w fun e w' => e = .returned (.int .i64 r) ∧ Drawn0 w w' := by
  have H : ((trommelref26_Cut.f a0).bind fun t168 => ((trommelref26_Cut.f a1).bind fun t169 => (if t168 > (wrap64 (4611686018427387904 - t169)) then (some 4611686018427387904) else (some (wrap64 (t168 + t169)))))) = some r := h
  clear h
  replace H := Option.bind_eq_some_iff.mp H
  obtain ⟨t168, A30, H⟩ := H
  replace H : ((trommelref26_Cut.f a1).bind fun t169 => (if t168 > (wrap64 (4611686018427387904 - t169)) then (some 4611686018427387904) else (some (wrap64 (t168 + t169))))) = some r := H
  have A3 := Aside0.mk A30
  clear A30
  replace H := Option.bind_eq_some_iff.mp H
  obtain ⟨t169, A40, H⟩ := H
  replace H : (if t168 > (wrap64 (4611686018427387904 - t169)) then (some 4611686018427387904) else (some (wrap64 (t168 + t169)))) = some r := H
  have A4 := Aside0.mk A40
  clear A40
  by_cases c5 : t168 > (wrap64 (4611686018427387904 - t169))
  · rw [if_pos c5] at H
    have c5b0 : decide ((wrap64 (4611686018427387904 - t169)) < t168) = true := decide_eq_true c5
    clear c5
    obtain rfl := Option.some.inj H
    go_enter Try.func48, Try.ntmps48
    go_wp2_with (first | ((with_reducible refine gate_callee (f := 31) rfl ?_); refine goesL_ (some 8) rfl rfl Try.func31 (by kernel_rfl) rfl #[.int .i64 a0] rfl (by (try simp only [List.map_toArray, List.map_cons, List.map_nil]); first | done | rfl | (simp only [List.length_drop, List.length_take]; rfl)) ?_; (with_reducible refine (trommelref26_Cut.calls a0 t168 _ A3.out).mono ?_); rintro e w' ⟨rfl, ⟨nd, rfl⟩⟩; refine ⟨_, rfl, ?_⟩) | ((with_reducible refine gate_callee (f := 31) rfl ?_); refine goesL_ (some 10) rfl rfl Try.func31 (by kernel_rfl) rfl #[.int .i64 a1] rfl (by (try simp only [List.map_toArray, List.map_cons, List.map_nil]); first | done | rfl | (simp only [List.length_drop, List.length_take]; rfl)) ?_; (with_reducible refine (trommelref26_Cut.calls a1 t169 _ A4.out).mono ?_); rintro e w' ⟨rfl, ⟨nd, rfl⟩⟩; refine ⟨_, rfl, ?_⟩))
    go_ret
    exact ⟨by first | rfl | (simp; done) | (simp [*]; done), by repeat (first | exact Drawn0.refl _ | apply Drawn0.step)⟩
  · rw [if_neg c5] at H
    have c5b0 : decide ((wrap64 (4611686018427387904 - t169)) < t168) = false := decide_eq_false c5
    clear c5
    obtain rfl := Option.some.inj H
    go_enter Try.func48, Try.ntmps48
    go_wp2_with (first | ((with_reducible refine gate_callee (f := 31) rfl ?_); refine goesL_ (some 8) rfl rfl Try.func31 (by kernel_rfl) rfl #[.int .i64 a0] rfl (by (try simp only [List.map_toArray, List.map_cons, List.map_nil]); first | done | rfl | (simp only [List.length_drop, List.length_take]; rfl)) ?_; (with_reducible refine (trommelref26_Cut.calls a0 t168 _ A3.out).mono ?_); rintro e w' ⟨rfl, ⟨nd, rfl⟩⟩; refine ⟨_, rfl, ?_⟩) | ((with_reducible refine gate_callee (f := 31) rfl ?_); refine goesL_ (some 10) rfl rfl Try.func31 (by kernel_rfl) rfl #[.int .i64 a1] rfl (by (try simp only [List.map_toArray, List.map_cons, List.map_nil]); first | done | rfl | (simp only [List.length_drop, List.length_take]; rfl)) ?_; (with_reducible refine (trommelref26_Cut.calls a1 t169 _ A4.out).mono ?_); rintro e w' ⟨rfl, ⟨nd, rfl⟩⟩; refine ⟨_, rfl, ?_⟩))
    go_ret
    exact ⟨by first | rfl | (simp; done) | (simp [*]; done), by repeat (first | exact Drawn0.refl _ | apply Drawn0.step)⟩

/-! ### trommelref26_Add: function 28 -/
def trommelref26_Add.l0 : Nat → List Int → Int → Int → Option (Int)
  | 0, _, _, _ => none
  | k + 1, x0, x3, x4 => if x4 < (x0.length : Int) then (if 0 ≤ x4 then ((trommelref26_Plus.f x3 (rd x0 x4)).bind fun t171 => (trommelref26_Add.l0 k x0 t171 (wrap64 (x4 + 1)))) else (none)) else (some x3)
def trommelref26_Add.f (k : Nat) (l0 : List Int) : Option (Int) := trommelref26_Add.l0 k l0 0 0
theorem trommelref26_Add.mono_l : ∀ k, (∀ y0 y1 y2, LeO (trommelref26_Add.l0 k y0 y1 y2) (trommelref26_Add.l0 (k + 1) y0 y1 y2))
  | 0 => fun _ _ _ r h => by simp [trommelref26_Add.l0] at h
  | k + 1 => by
    have ih0 := trommelref26_Add.mono_l k
    · intro y0 y1 y2
      unfold trommelref26_Add.l0
      repeat' first
      | (with_reducible exact ih0 _ _ _)
      | (with_reducible exact LeO.refl _)
      | (with_reducible exact LeO.none _)
      | (with_reducible refine LeO.ite ?_ ?_)
      | (with_reducible refine LeO.bind ?_ (fun _ => ?_))
      | exact ih0 _ _ _
      | exact LeO.none _
      | refine LeO.ite ?_ ?_
      | refine LeO.bind ?_ (fun _ => ?_)
theorem trommelref26_Add.mono : ∀ a0 k, LeO (trommelref26_Add.f k a0) (trommelref26_Add.f (k + 1) a0) := by
  intro a0 k
  have ih0 := trommelref26_Add.mono_l k
  unfold trommelref26_Add.f
  repeat' first
      | (with_reducible exact ih0 _ _ _)
      | (with_reducible exact LeO.refl _)
      | (with_reducible exact LeO.none _)
      | (with_reducible refine LeO.ite ?_ ?_)
      | (with_reducible refine LeO.bind ?_ (fun _ => ?_))
      | exact ih0 _ _ _
      | exact LeO.none _
      | refine LeO.ite ?_ ?_
      | refine LeO.bind ?_ (fun _ => ?_)
set_option maxHeartbeats 8000000 in
set_option maxRecDepth 100000 in
theorem trommelref26_Add.calls (k : Nat) (A0 : Option Addr) (c0 : Nat) (l0 : List Int) (r : Int) (w : World) (hr0 : Kd.C (Kd.int .i64) w A0 l0.length l0) (hc0 : l0.length ≤ c0) (h : trommelref26_Add.f k l0 = some r) :
    Calls Try.prog 28 #[.slice A0 l0.length c0] w fun e w' => e = .returned (.int .i64 r) ∧ Drawn0 w w' := by
  have HR0 := Aside0.mk hr0
  have HC0 := Aside0.mk hc0
  clear hr0 hc0
  have H : (trommelref26_Add.l0 k l0 0 0) = some r := h
  clear h
  have H' := Aside0.mk H
  clear H
  go_enter Try.func28, Try.ntmps28
  go_wp2
  go_loopg [3, 4] k (fun kq v3 v4 w' => ∃ (x3_1 : Int) (x4_1 : Int), v3 = .int .i64 x3_1 ∧ v4 = .int .i64 x4_1 ∧ Aside0 (trommelref26_Add.l0 kq l0 x3_1 x4_1 = some r) ∧ Aside0 (kq ≤ k) ∧ Drawn0 w w')
  case atStart => exact ⟨(0), (0), (by first | rfl | (simp; done) | (simp [*]; done)), (by first | rfl | (simp; done) | (simp [*]; done)), H', ⟨Nat.le_refl _⟩, by repeat (first | exact Drawn0.refl _ | apply Drawn0.step)⟩
  case round =>
    clear H'
    obtain ⟨x3_1, x4_1, rfl, rfl, HA, HK1, ⟨m1, rfl⟩⟩ := hrel
    cases gk with
    | zero => exact absurd HA.out (by simp [trommelref26_Add.l0])
    | succ k1 =>
      have H := HA.out
      clear HA
      simp only [trommelref26_Add.l0] at H
      by_cases c2 : x4_1 < (l0.length : Int)
      · rw [if_pos c2] at H
        have c2b0 : decide (x4_1 < (l0.length : Int)) = true := decide_eq_true c2
        clear c2
        refine bc (p := (0 ≤ x4_1)) (fun c3 => ?_) (fun c3 => ?_)
        · rw [if_neg c3] at H
          exact absurd H (by simp)
        rw [if_pos c3] at H
        have c3b0 : decide (0 ≤ x4_1) = true := decide_eq_true c3
        clear c3
        replace H := Option.bind_eq_some_iff.mp H
        obtain ⟨t171, A40, H⟩ := H
        replace H : (trommelref26_Add.l0 k1 l0 t171 (wrap64 (x4_1 + 1))) = some r := H
        have A4 := Aside0.mk A40
        clear A40
        have H' := Aside0.mk H
        clear H
        have p170 : 0 ≤ (x4_1 : Int) := of_decide_eq_true (by first | (with_reducible assumption) | assumption)
        have q170 : x4_1 < (l0.length : Int) := of_decide_eq_true (by first | (with_reducible assumption) | assumption)
        obtain ⟨ad170, e170, hx170_0⟩ := Kd.at_int HR0.out x4_1 p170 q170
        cases e170
        replace p170 := eq_true p170
        replace q170 := eq_true q170
        go_wp2_with (first | ((with_reducible refine gate_callee (f := 48) rfl ?_); refine goesL_ (some 16) rfl rfl Try.func48 (by kernel_rfl) rfl #[.int .i64 x3_1, .int .i64 (rd l0 x4_1)] rfl (by (try simp only [List.map_toArray, List.map_cons, List.map_nil]); first | done | rfl | (simp only [List.length_drop, List.length_take]; rfl)) ?_; (with_reducible refine (trommelref26_Plus.calls x3_1 (rd l0 x4_1) t171 _ A4.out).mono ?_); rintro e w' ⟨rfl, ⟨nd, rfl⟩⟩; refine ⟨_, rfl, ?_⟩))
        go_roundg k1
        case measure => have := HK1.out; omega
        case rel => exact ⟨(t171), (wrap64 (x4_1 + 1)), (by first | rfl | (simp; done) | (simp [*]; done)), (by first | rfl | (simp; done) | (simp [*]; done)), H', ⟨by have := HK1.out; omega⟩, by repeat (first | exact Drawn0.refl _ | apply Drawn0.step)⟩
      · rw [if_neg c2] at H
        have c2b0 : decide (x4_1 < (l0.length : Int)) = false := decide_eq_false c2
        clear c2
        obtain rfl := Option.some.inj H
        go_wp2
        go_ret
        exact ⟨by first | rfl | (simp; done) | (simp [*]; done), by repeat (first | exact Drawn0.refl _ | apply Drawn0.step)⟩

/-! ### trommelref26_Times: function 49 -/
def trommelref26_Times.j0 : Nat → Int → Int → Bool → Option (Int)
  | 0, _, _, _ => none
  | k + 1, x5, x6, x16 => if x16 = true then (some 0) else (if x6 = 0 then (none) else (if x5 > (wrap64 (Int.tdiv (4611686018427387904 : Int) x6)) then (some 4611686018427387904) else (some (wrap64 (x5 * x6)))))
def trommelref26_Times.f (k : Nat) (a0 : Int) (a1 : Int) : Option (Int) := (trommelref26_Cut.f a0).bind fun t172 => ((trommelref26_Cut.f a1).bind fun t173 => (if t172 = 0 then (trommelref26_Times.j0 k t172 t173 true) else (trommelref26_Times.j0 k t172 t173 (t173 == 0))))
theorem trommelref26_Times.mono_l : ∀ k, (∀ y0 y1 y2, LeO (trommelref26_Times.j0 k y0 y1 y2) (trommelref26_Times.j0 (k + 1) y0 y1 y2))
  | 0 => fun _ _ _ r h => by simp [trommelref26_Times.j0] at h
  | k + 1 => by
    have ih0 := trommelref26_Times.mono_l k
    · intro y0 y1 y2
      unfold trommelref26_Times.j0
      repeat' first
      | (with_reducible exact ih0 _ _ _)
      | (with_reducible exact LeO.refl _)
      | (with_reducible exact LeO.none _)
      | (with_reducible refine LeO.ite ?_ ?_)
      | (with_reducible refine LeO.bind ?_ (fun _ => ?_))
      | exact ih0 _ _ _
      | exact LeO.none _
      | refine LeO.ite ?_ ?_
      | refine LeO.bind ?_ (fun _ => ?_)
theorem trommelref26_Times.mono : ∀ a0 a1 k, LeO (trommelref26_Times.f k a0 a1) (trommelref26_Times.f (k + 1) a0 a1) := by
  intro a0 a1 k
  have ih0 := trommelref26_Times.mono_l k
  unfold trommelref26_Times.f
  repeat' first
      | (with_reducible exact ih0 _ _ _)
      | (with_reducible exact LeO.refl _)
      | (with_reducible exact LeO.none _)
      | (with_reducible refine LeO.ite ?_ ?_)
      | (with_reducible refine LeO.bind ?_ (fun _ => ?_))
      | exact ih0 _ _ _
      | exact LeO.none _
      | refine LeO.ite ?_ ?_
      | refine LeO.bind ?_ (fun _ => ?_)
set_option maxHeartbeats 8000000 in
set_option maxRecDepth 100000 in
theorem trommelref26_Times.calls (k : Nat) (a0 : Int) (a1 : Int) (r : Int) (w : World) (h : trommelref26_Times.f k a0 a1 = some r) :
    Calls Try.prog 49 #[.int .i64 a0, .int .i64 a1] w fun e w' => e = .returned (.int .i64 r) ∧ Drawn0 w w' := by
  have H : ((trommelref26_Cut.f a0).bind fun t172 => ((trommelref26_Cut.f a1).bind fun t173 => (if t172 = 0 then (trommelref26_Times.j0 k t172 t173 true) else (trommelref26_Times.j0 k t172 t173 (t173 == 0))))) = some r := h
  clear h
  replace H := Option.bind_eq_some_iff.mp H
  obtain ⟨t172, A30, H⟩ := H
  replace H : ((trommelref26_Cut.f a1).bind fun t173 => (if t172 = 0 then (trommelref26_Times.j0 k t172 t173 true) else (trommelref26_Times.j0 k t172 t173 (t173 == 0)))) = some r := H
  have A3 := Aside0.mk A30
  clear A30
  replace H := Option.bind_eq_some_iff.mp H
  obtain ⟨t173, A40, H⟩ := H
  replace H : (if t172 = 0 then (trommelref26_Times.j0 k t172 t173 true) else (trommelref26_Times.j0 k t172 t173 (t173 == 0))) = some r := H
  have A4 := Aside0.mk A40
  clear A40
  have HC5 := Aside0.mk H
  clear H
  go_enter Try.func49, Try.ntmps49
  go_upto_region 2 with (first | ((with_reducible refine gate_callee (f := 31) rfl ?_); refine goesL_ (some 8) rfl rfl Try.func31 (by kernel_rfl) rfl #[.int .i64 a0] rfl (by (try simp only [List.map_toArray, List.map_cons, List.map_nil]); first | done | rfl | (simp only [List.length_drop, List.length_take]; rfl)) ?_; (with_reducible refine (trommelref26_Cut.calls a0 t172 _ A3.out).mono ?_); rintro e w' ⟨rfl, ⟨nd, rfl⟩⟩; refine ⟨_, rfl, ?_⟩) | ((with_reducible refine gate_callee (f := 31) rfl ?_); refine goesL_ (some 10) rfl rfl Try.func31 (by kernel_rfl) rfl #[.int .i64 a1] rfl (by (try simp only [List.map_toArray, List.map_cons, List.map_nil]); first | done | rfl | (simp only [List.length_drop, List.length_take]; rfl)) ?_; (with_reducible refine (trommelref26_Cut.calls a1 t173 _ A4.out).mono ?_); rintro e w' ⟨rfl, ⟨nd, rfl⟩⟩; refine ⟨_, rfl, ?_⟩))
  (try simp only [Act.put, List.setIfInBounds_toArray, List.set_cons_zero, List.set_cons_succ])
  go_cut [16] (fun v16 wc => ∃ (kq : Nat) (x16_4 : Bool), v16 = .bool x16_4 ∧ Aside0 (trommelref26_Times.j0 kq t172 t173 x16_4 = some r) ∧ Aside0 (kq ≤ k) ∧ Drawn0 w wc)
  case first =>
    have H := HC5.out
    clear HC5
    by_cases c6 : t172 = 0
    · rw [if_pos c6] at H
      have c6b0 : (t172 == 0) = true := beq_iff_eq.mpr c6
      have c6b1 : (t172 != 0) = false := bne_eq_false_iff_eq.mpr c6
      clear c6
      (first | rw [c6b0] | (simp only [i64_w, i32_w]; rw [c6b0]) | skip)
      have H' := Aside0.mk H
      clear H
      go_wp2
      go_meet
      case rel => exact ⟨_, (true), (by first | rfl | (simp; done) | (simp [*]; done)), H', ⟨by first | omega | exact Nat.le_refl _⟩, by repeat (first | exact Drawn0.refl _ | apply Drawn0.step)⟩
    · rw [if_neg c6] at H
      have c6b0 : (t172 == 0) = false := beq_eq_false_iff_ne.mpr c6
      have c6b1 : (t172 != 0) = true := bne_iff_ne.mpr c6
      (first | rw [c6b0] | (simp only [i64_w, i32_w]; rw [c6b0]) | skip)
      have H' := Aside0.mk H
      clear H
      go_wp2
      go_meet
      case rel => exact ⟨_, ((t173 == 0)), (by first | rfl | (simp; done) | (simp [*]; done)), H', ⟨by first | omega | exact Nat.le_refl _⟩, by repeat (first | exact Drawn0.refl _ | apply Drawn0.step)⟩
  case rest =>
    clear HC5
    try clear p2; try clear c3; try clear c4; try clear c6; try clear c6b0; try clear c6b1
    obtain ⟨kq, x16_4, rfl, HA, HJ4, ⟨mc4, rfl⟩⟩ := hcut
    cases kq with
    | zero => exact absurd HA.out (by simp [trommelref26_Times.j0])
    | succ kj4 =>
      have H := HA.out
      clear HA
      simp only [trommelref26_Times.j0] at H
      by_cases c7 : x16_4 = true
      · subst c7
        have H1 : (some 0) = some r := by rw [if_pos rfl] at H; exact H
        clear H
        have H := H1
        clear H1
        obtain rfl := Option.some.inj H
        go_wp2
        go_ret
        exact ⟨by first | rfl | (simp; done) | (simp [*]; done), by repeat (first | exact Drawn0.refl _ | apply Drawn0.step)⟩
      · replace c7 := Bool.eq_false_iff.mpr c7
        subst c7
        have H1 : (if t173 = 0 then (none) else (if t172 > (wrap64 (Int.tdiv (4611686018427387904 : Int) t173)) then (some 4611686018427387904) else (some (wrap64 (t172 * t173))))) = some r := by rw [if_neg (show ¬ (false = true) by decide)] at H; exact H
        clear H
        have H := H1
        clear H1
        by_cases c8 : t173 = 0
        · rw [if_pos c8] at H
          exact absurd H (by simp)
        · rw [if_neg c8] at H
          have c8b0 : (t173 == 0) = false := beq_eq_false_iff_ne.mpr c8
          have c8b1 : (t173 != 0) = true := bne_iff_ne.mpr c8
          by_cases c9 : t172 > (wrap64 (Int.tdiv (4611686018427387904 : Int) t173))
          · rw [if_pos c9] at H
            have c9b0 : decide ((wrap64 (Int.tdiv (4611686018427387904 : Int) t173)) < t172) = true := decide_eq_true c9
            clear c9
            obtain rfl := Option.some.inj H
            go_wp2
            go_ret
            exact ⟨by first | rfl | (simp; done) | (simp [*]; done), by repeat (first | exact Drawn0.refl _ | apply Drawn0.step)⟩
          · rw [if_neg c9] at H
            have c9b0 : decide ((wrap64 (Int.tdiv (4611686018427387904 : Int) t173)) < t172) = false := decide_eq_false c9
            clear c9
            obtain rfl := Option.some.inj H
            go_wp2
            go_ret
            exact ⟨by first | rfl | (simp; done) | (simp [*]; done), by repeat (first | exact Drawn0.refl _ | apply Drawn0.step)⟩

/-! ### trommelref26_Mul: function 29 -/
def trommelref26_Mul.l0 : Nat → List Int → Int → Int → Option (Int)
  | 0, _, _, _ => none
  | k + 1, x0, x3, x4 => if x4 < (x0.length : Int) then (if 0 ≤ x4 then ((trommelref26_Times.f k x3 (rd x0 x4)).bind fun t175 => (trommelref26_Mul.l0 k x0 t175 (wrap64 (x4 + 1)))) else (none)) else (some x3)
def trommelref26_Mul.f (k : Nat) (l0 : List Int) : Option (Int) := trommelref26_Mul.l0 k l0 1 0
theorem trommelref26_Mul.mono_l : ∀ k, (∀ y0 y1 y2, LeO (trommelref26_Mul.l0 k y0 y1 y2) (trommelref26_Mul.l0 (k + 1) y0 y1 y2))
  | 0 => fun _ _ _ r h => by simp [trommelref26_Mul.l0] at h
  | k + 1 => by
    have ih0 := trommelref26_Mul.mono_l k
    · intro y0 y1 y2
      unfold trommelref26_Mul.l0
      repeat' first
      | (with_reducible exact ih0 _ _ _)
      | (with_reducible exact trommelref26_Times.mono _ _ _)
      | (with_reducible exact LeO.refl _)
      | (with_reducible exact LeO.none _)
      | (with_reducible refine LeO.ite ?_ ?_)
      | (with_reducible refine LeO.bind ?_ (fun _ => ?_))
      | exact ih0 _ _ _
      | exact trommelref26_Times.mono _ _ _
      | exact LeO.none _
      | refine LeO.ite ?_ ?_
      | refine LeO.bind ?_ (fun _ => ?_)
theorem trommelref26_Mul.mono : ∀ a0 k, LeO (trommelref26_Mul.f k a0) (trommelref26_Mul.f (k + 1) a0) := by
  intro a0 k
  have ih0 := trommelref26_Mul.mono_l k
  unfold trommelref26_Mul.f
  repeat' first
      | (with_reducible exact ih0 _ _ _)
      | (with_reducible exact trommelref26_Times.mono _ _ _)
      | (with_reducible exact LeO.refl _)
      | (with_reducible exact LeO.none _)
      | (with_reducible refine LeO.ite ?_ ?_)
      | (with_reducible refine LeO.bind ?_ (fun _ => ?_))
      | exact ih0 _ _ _
      | exact trommelref26_Times.mono _ _ _
      | exact LeO.none _
      | refine LeO.ite ?_ ?_
      | refine LeO.bind ?_ (fun _ => ?_)
set_option maxHeartbeats 8000000 in
set_option maxRecDepth 100000 in
theorem trommelref26_Mul.calls (k : Nat) (A0 : Option Addr) (c0 : Nat) (l0 : List Int) (r : Int) (w : World) (hr0 : Kd.C (Kd.int .i64) w A0 l0.length l0) (hc0 : l0.length ≤ c0) (h : trommelref26_Mul.f k l0 = some r) :
    Calls Try.prog 29 #[.slice A0 l0.length c0] w fun e w' => e = .returned (.int .i64 r) ∧ Drawn0 w w' := by
  have HR0 := Aside0.mk hr0
  have HC0 := Aside0.mk hc0
  clear hr0 hc0
  have H : (trommelref26_Mul.l0 k l0 1 0) = some r := h
  clear h
  have H' := Aside0.mk H
  clear H
  go_enter Try.func29, Try.ntmps29
  go_wp2
  go_loopg [3, 4] k (fun kq v3 v4 w' => ∃ (x3_1 : Int) (x4_1 : Int), v3 = .int .i64 x3_1 ∧ v4 = .int .i64 x4_1 ∧ Aside0 (trommelref26_Mul.l0 kq l0 x3_1 x4_1 = some r) ∧ Aside0 (kq ≤ k) ∧ Drawn0 w w')
  case atStart => exact ⟨(1), (0), (by first | rfl | (simp; done) | (simp [*]; done)), (by first | rfl | (simp; done) | (simp [*]; done)), H', ⟨Nat.le_refl _⟩, by repeat (first | exact Drawn0.refl _ | apply Drawn0.step)⟩
  case round =>
    clear H'
    obtain ⟨x3_1, x4_1, rfl, rfl, HA, HK1, ⟨m1, rfl⟩⟩ := hrel
    cases gk with
    | zero => exact absurd HA.out (by simp [trommelref26_Mul.l0])
    | succ k1 =>
      have H := HA.out
      clear HA
      simp only [trommelref26_Mul.l0] at H
      by_cases c2 : x4_1 < (l0.length : Int)
      · rw [if_pos c2] at H
        have c2b0 : decide (x4_1 < (l0.length : Int)) = true := decide_eq_true c2
        clear c2
        refine bc (p := (0 ≤ x4_1)) (fun c3 => ?_) (fun c3 => ?_)
        · rw [if_neg c3] at H
          exact absurd H (by simp)
        rw [if_pos c3] at H
        have c3b0 : decide (0 ≤ x4_1) = true := decide_eq_true c3
        clear c3
        replace H := Option.bind_eq_some_iff.mp H
        obtain ⟨t175, A40, H⟩ := H
        replace H : (trommelref26_Mul.l0 k1 l0 t175 (wrap64 (x4_1 + 1))) = some r := H
        have A4 := Aside0.mk A40
        clear A40
        have H' := Aside0.mk H
        clear H
        have p174 : 0 ≤ (x4_1 : Int) := of_decide_eq_true (by first | (with_reducible assumption) | assumption)
        have q174 : x4_1 < (l0.length : Int) := of_decide_eq_true (by first | (with_reducible assumption) | assumption)
        obtain ⟨ad174, e174, hx174_0⟩ := Kd.at_int HR0.out x4_1 p174 q174
        cases e174
        replace p174 := eq_true p174
        replace q174 := eq_true q174
        go_wp2_with (first | ((with_reducible refine gate_callee (f := 49) rfl ?_); refine goesL_ (some 16) rfl rfl Try.func49 (by kernel_rfl) rfl #[.int .i64 x3_1, .int .i64 (rd l0 x4_1)] rfl (by (try simp only [List.map_toArray, List.map_cons, List.map_nil]); first | done | rfl | (simp only [List.length_drop, List.length_take]; rfl)) ?_; (with_reducible refine (trommelref26_Times.calls k1 x3_1 (rd l0 x4_1) t175 _ A4.out).mono ?_); rintro e w' ⟨rfl, ⟨nd, rfl⟩⟩; refine ⟨_, rfl, ?_⟩))
        go_roundg k1
        case measure => have := HK1.out; omega
        case rel => exact ⟨(t175), (wrap64 (x4_1 + 1)), (by first | rfl | (simp; done) | (simp [*]; done)), (by first | rfl | (simp; done) | (simp [*]; done)), H', ⟨by have := HK1.out; omega⟩, by repeat (first | exact Drawn0.refl _ | apply Drawn0.step)⟩
      · rw [if_neg c2] at H
        have c2b0 : decide (x4_1 < (l0.length : Int)) = false := decide_eq_false c2
        clear c2
        obtain rfl := Option.some.inj H
        go_wp2
        go_ret
        exact ⟨by first | rfl | (simp; done) | (simp [*]; done), by repeat (first | exact Drawn0.refl _ | apply Drawn0.step)⟩

/-! ### sat_Full: function 32 -/
def sat_Full.f (a0 : Int) : Option (Bool) := (sat_Cut.f a0).bind fun t176 => (some (t176 == 4611686018427387904))
set_option maxHeartbeats 8000000 in
set_option maxRecDepth 100000 in
theorem sat_Full.calls (a0 : Int) (r : Bool) (w : World) (h : sat_Full.f a0 = some r) :
    Calls Try.prog 32 #[.int .i64 a0] w fun e w' => e = .returned (.bool r) ∧ Below w.heap.size w w' := by
  have HB := Aside0.mk (Below.refl w.heap.size w)
  have H : ((sat_Cut.f a0).bind fun t176 => (some (t176 == 4611686018427387904))) = some r := h
  clear h
  replace H := Option.bind_eq_some_iff.mp H
  obtain ⟨t176, A20, H⟩ := H
  replace H : (some (t176 == 4611686018427387904)) = some r := H
  have A2 := Aside0.mk A20
  clear A20
  obtain rfl := Option.some.inj H
  go_enter Try.func32, Try.ntmps32
  go_wp2_with (first | ((with_reducible refine gate_callee (f := 30) rfl ?_); refine goesL_ (some 4) rfl rfl Try.func30 (by kernel_rfl) rfl #[.int .i64 a0] rfl (by (try simp only [List.map_toArray, List.map_cons, List.map_nil]); first | done | rfl | (simp only [List.length_drop, List.length_take]; rfl)) ?_; (with_reducible refine (sat_Cut.calls a0 t176 _ A2.out).mono ?_); rintro e w3 ⟨rfl, hb⟩; refine ⟨_, rfl, ?_⟩; have n0_ := Lb HB hb; clear HB; have HB := n0_; clear n0_; (try clear hb); (try clear hb2); (try clear hk); (try clear hi)))
  go_ret
  exact ⟨by first | rfl | (simp [errW_none, errW_some] <;> rfl) | (simp [*, errW_none, errW_some] <;> rfl), by repeat (first | (with_reducible first | exact HB.out | apply below_alloc | apply pw_below_drewN | apply below_drew1) | exact HB.out)⟩

end Go.Proofs.Ytnobckgfihlckaa.PSat
