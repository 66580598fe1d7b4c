-- written for this claim by wip/pr/hand.py (the kit's print, with contracts proved by hand)
import Derived.Test.YtobfhacdljmooaaPCodeIx0
import Derived.Test.YtobfhacdljmooaaSq
import Derived.Test.YtobfhacdljmooaaPCodeIx1
import Derived.Test.YtobfhacdljmooaaPCodeIx2
import Derived.Test.YtobfhacdljmooaaPCodeIx3
import Derived.Test.YtobfhacdljmooaaPCodeIx4
namespace Go.Proofs.Ytobfhacdljmooaa.PCodeI
open Go.RowKit Go.Proofs.YtobfhacdljmooaaW.PrintWords Go.Proofs.YtobfhacdljmooaaW.PrintLast Go.Proofs.YtobfhacdljmooaaW.PrintMore Go.Proofs.Ytobfhacdljmooaa.Sq
attribute [local go_sem] max2_int min2_int max_two min_two max_three min_three max_four min_four   -- for this text's walks alone
set_option linter.unusedVariables false
set_option linter.unusedSimpArgs false

/-! ### trommellaw39_CodeInts: function 4 -/
mutual
def trommellaw39_CodeInts.j0 : Nat → List Int → Int → Int → List Int → Bool → Option (Bool)
  | 0, _, _, _, _, _ => none
  | k + 1, x0, x1, x2, x3, x36 => if x36 = true then ((trommellaw39_live.f).bind fun t160 => (some t160)) else ((code_PutInt.f x0 x2).bind fun t161 => ((code_PutInts.f k x0 x3).bind fun t164 => ((trommelref39_Int.f x2).bind fun t167 => (if (strOfNums x0).size + (strOfNums t167).size ≤ 9223372036854775807 then (if (strOfNums t161).toList = ((strOfNums x0) ++ (strOfNums t167)).toList then ((trommelref39_Ints.f k x3).bind fun t170 => (if (strOfNums x0).size + (strOfNums t170).size ≤ 9223372036854775807 then (trommellaw39_CodeInts.j1 k x0 x1 x2 x3 t161 t164 ((strOfNums t164).toList != ((strOfNums x0) ++ (strOfNums t170)).toList)) else (none))) else (trommellaw39_CodeInts.j1 k x0 x1 x2 x3 t161 t164 true)) else (none)))))
def trommellaw39_CodeInts.j1 : Nat → List Int → Int → Int → List Int → List Int → List Int → Bool → Option (Bool)
  | 0, _, _, _, _, _, _, _ => none
  | k + 1, x0, x1, x2, x3, x9, x10, x63 => if x63 = true then (some false) else ((code_GetInt.f x9 (x0.length : Int)).bind fun bt173 => ((code_GetInts.f k x10 (x0.length : Int)).bind fun bt176 => (if bt173.2.2 = true then (if bt173.1 = x2 then (if bt173.2.1 = (x9.length : Int) then (if bt176.2.2 = true then ((trommelref21_SameList.f k bt176.1 x3).bind fun t181 => (if t181 = true then (trommellaw39_CodeInts.j2 k x0 x1 (bt176.2.1 != (x10.length : Int))) else (trommellaw39_CodeInts.j2 k x0 x1 true))) else (trommellaw39_CodeInts.j2 k x0 x1 true)) else (trommellaw39_CodeInts.j2 k x0 x1 true)) else (trommellaw39_CodeInts.j2 k x0 x1 true)) else (trommellaw39_CodeInts.j2 k x0 x1 true))))
def trommellaw39_CodeInts.j2 : Nat → List Int → Int → Bool → Option (Bool)
  | 0, _, _, _ => none
  | k + 1, x0, x1, x108 => if x108 = true then (some false) else ((code_GetInt.f x0 x1).bind fun bt182 => ((trommelref39_GetInt.f k x0 x1).bind fun bt185 => ((code_GetInts.f k x0 x1).bind fun bt188 => ((trommelref39_GetInts.f k x0 x1).bind fun bt193 => (if bt182.1 = bt185.1 then (if bt182.2.1 = bt185.2.1 then (if (bt182.2.2 == bt185.2.2) = true then ((trommelref21_SameList.f k bt188.1 bt193.1).bind fun t198 => (if t198 = true then (if bt188.2.1 = bt193.2.1 then (if (bt188.2.2 == bt193.2.2) = true then ((trommellaw39_live.f).bind fun t199 => (some t199)) else (some false)) else (some false)) else (some false))) else (some false)) else (some false)) else (some false))))))
end
def trommellaw39_CodeInts.f (k : Nat) (l0 : List Int) (a1 : Int) (a2 : Int) (l3 : List Int) : Option (Bool) := if (l0.length : Int) > 300 then (trommellaw39_CodeInts.j0 k l0 a1 a2 l3 true) else (trommellaw39_CodeInts.j0 k l0 a1 a2 l3 (decide ((l3.length : Int) > 100)))
theorem trommellaw39_CodeInts.mono_l : ∀ k, (∀ y0 y1 y2 y3 y4, LeO (trommellaw39_CodeInts.j0 k y0 y1 y2 y3 y4) (trommellaw39_CodeInts.j0 (k + 1) y0 y1 y2 y3 y4)) ∧ (∀ y0 y1 y2 y3 y4 y5 y6, LeO (trommellaw39_CodeInts.j1 k y0 y1 y2 y3 y4 y5 y6) (trommellaw39_CodeInts.j1 (k + 1) y0 y1 y2 y3 y4 y5 y6)) ∧ (∀ y0 y1 y2, LeO (trommellaw39_CodeInts.j2 k y0 y1 y2) (trommellaw39_CodeInts.j2 (k + 1) y0 y1 y2))
  | 0 => ⟨fun _ _ _ _ _ r h => by simp [trommellaw39_CodeInts.j0] at h, fun _ _ _ _ _ _ _ r h => by simp [trommellaw39_CodeInts.j1] at h, fun _ _ _ r h => by simp [trommellaw39_CodeInts.j2] at h⟩
  | k + 1 => by
    obtain ⟨ih0, ih1, ih2⟩ := trommellaw39_CodeInts.mono_l k
    refine ⟨?_, ?_, ?_⟩
    · intro y0 y1 y2 y3 y4
      unfold trommellaw39_CodeInts.j0
      repeat' first
      | (with_reducible exact ih0 _ _ _ _ _)
      | (with_reducible exact ih1 _ _ _ _ _ _ _)
      | (with_reducible exact ih2 _ _ _)
      | (with_reducible exact code_GetInts.mono _ _ _)
      | (with_reducible exact code_PutInts.mono _ _ _)
      | (with_reducible exact trommelref21_SameList.mono _ _ _)
      | (with_reducible exact trommelref39_GetInt.mono _ _ _)
      | (with_reducible exact trommelref39_GetInts.mono _ _ _)
      | (with_reducible exact trommelref39_Ints.mono _ _)
      | (with_reducible exact LeO.refl _)
      | (with_reducible exact LeO.none _)
      | (with_reducible refine LeO.ite ?_ ?_)
      | (with_reducible refine LeO.bind ?_ (fun _ => ?_))
      | exact ih0 _ _ _ _ _
      | exact ih1 _ _ _ _ _ _ _
      | exact ih2 _ _ _
      | exact code_GetInts.mono _ _ _
      | exact code_PutInts.mono _ _ _
      | exact trommelref21_SameList.mono _ _ _
      | exact trommelref39_GetInt.mono _ _ _
      | exact trommelref39_GetInts.mono _ _ _
      | exact trommelref39_Ints.mono _ _
      | exact LeO.none _
      | refine LeO.ite ?_ ?_
      | refine LeO.bind ?_ (fun _ => ?_)
    · intro y0 y1 y2 y3 y4 y5 y6
      unfold trommellaw39_CodeInts.j1
      repeat' first
      | (with_reducible exact ih0 _ _ _ _ _)
      | (with_reducible exact ih1 _ _ _ _ _ _ _)
      | (with_reducible exact ih2 _ _ _)
      | (with_reducible exact code_GetInts.mono _ _ _)
      | (with_reducible exact code_PutInts.mono _ _ _)
      | (with_reducible exact trommelref21_SameList.mono _ _ _)
      | (with_reducible exact trommelref39_GetInt.mono _ _ _)
      | (with_reducible exact trommelref39_GetInts.mono _ _ _)
      | (with_reducible exact trommelref39_Ints.mono _ _)
      | (with_reducible exact LeO.refl _)
      | (with_reducible exact LeO.none _)
      | (with_reducible refine LeO.ite ?_ ?_)
      | (with_reducible refine LeO.bind ?_ (fun _ => ?_))
      | exact ih0 _ _ _ _ _
      | exact ih1 _ _ _ _ _ _ _
      | exact ih2 _ _ _
      | exact code_GetInts.mono _ _ _
      | exact code_PutInts.mono _ _ _
      | exact trommelref21_SameList.mono _ _ _
      | exact trommelref39_GetInt.mono _ _ _
      | exact trommelref39_GetInts.mono _ _ _
      | exact trommelref39_Ints.mono _ _
      | exact LeO.none _
      | refine LeO.ite ?_ ?_
      | refine LeO.bind ?_ (fun _ => ?_)
    · intro y0 y1 y2
      unfold trommellaw39_CodeInts.j2
      repeat' first
      | (with_reducible exact ih0 _ _ _ _ _)
      | (with_reducible exact ih1 _ _ _ _ _ _ _)
      | (with_reducible exact ih2 _ _ _)
      | (with_reducible exact code_GetInts.mono _ _ _)
      | (with_reducible exact code_PutInts.mono _ _ _)
      | (with_reducible exact trommelref21_SameList.mono _ _ _)
      | (with_reducible exact trommelref39_GetInt.mono _ _ _)
      | (with_reducible exact trommelref39_GetInts.mono _ _ _)
      | (with_reducible exact trommelref39_Ints.mono _ _)
      | (with_reducible exact LeO.refl _)
      | (with_reducible exact LeO.none _)
      | (with_reducible refine LeO.ite ?_ ?_)
      | (with_reducible refine LeO.bind ?_ (fun _ => ?_))
      | exact ih0 _ _ _ _ _
      | exact ih1 _ _ _ _ _ _ _
      | exact ih2 _ _ _
      | exact code_GetInts.mono _ _ _
      | exact code_PutInts.mono _ _ _
      | exact trommelref21_SameList.mono _ _ _
      | exact trommelref39_GetInt.mono _ _ _
      | exact trommelref39_GetInts.mono _ _ _
      | exact trommelref39_Ints.mono _ _
      | exact LeO.none _
      | refine LeO.ite ?_ ?_
      | refine LeO.bind ?_ (fun _ => ?_)
theorem trommellaw39_CodeInts.mono : ∀ a0 a1 a2 a3 k, LeO (trommellaw39_CodeInts.f k a0 a1 a2 a3) (trommellaw39_CodeInts.f (k + 1) a0 a1 a2 a3) := by
  intro a0 a1 a2 a3 k
  obtain ⟨ih0, ih1, ih2⟩ := trommellaw39_CodeInts.mono_l k
  unfold trommellaw39_CodeInts.f
  repeat' first
      | (with_reducible exact ih0 _ _ _ _ _)
      | (with_reducible exact ih1 _ _ _ _ _ _ _)
      | (with_reducible exact ih2 _ _ _)
      | (with_reducible exact code_GetInts.mono _ _ _)
      | (with_reducible exact code_PutInts.mono _ _ _)
      | (with_reducible exact trommelref21_SameList.mono _ _ _)
      | (with_reducible exact trommelref39_GetInt.mono _ _ _)
      | (with_reducible exact trommelref39_GetInts.mono _ _ _)
      | (with_reducible exact trommelref39_Ints.mono _ _)
      | (with_reducible exact LeO.refl _)
      | (with_reducible exact LeO.none _)
      | (with_reducible refine LeO.ite ?_ ?_)
      | (with_reducible refine LeO.bind ?_ (fun _ => ?_))
      | exact ih0 _ _ _ _ _
      | exact ih1 _ _ _ _ _ _ _
      | exact ih2 _ _ _
      | exact code_GetInts.mono _ _ _
      | exact code_PutInts.mono _ _ _
      | exact trommelref21_SameList.mono _ _ _
      | exact trommelref39_GetInt.mono _ _ _
      | exact trommelref39_GetInts.mono _ _ _
      | exact trommelref39_Ints.mono _ _
      | exact LeO.none _
      | refine LeO.ite ?_ ?_
      | refine LeO.bind ?_ (fun _ => ?_)
def trommellaw39_CodeInts.T4 : Bool × List (List Nat × List Nat) := (true, [([], []), ([0], [0]), ([], []), ([2], [2]), ([], []), ([4], [4]), ([5], [5]), ([3, 6], [3, 6]), ([1, 7], [1, 7]), ([8, 5], [8]), ([9], [9]), ([10, 9], [9, 10]), ([9], [9]), ([12, 9], [9, 12]), ([9], [9]), ([14, 9, 9], [9, 14]), ([15, 9], [9, 15]), ([13, 16, 9], [9, 13, 16]), ([11, 17, 9], [9, 11, 17]), ([9, 18], [9, 18])])
def trommellaw39_CodeInts.B4 : List Nat := [0, 1, 0, 4, 0, 16, 48, 124, 255, 511, 1023, 2047, 1023, 5119, 1023, 17407, 50175, 127999, 262143, 524287]
theorem trommellaw39_CodeInts.tab4 : rtab .any (opsOf Try.f4 4) = trommellaw39_CodeInts.T4 := by kernel_rfl
theorem trommellaw39_CodeInts.bits4 : waitsOk trommellaw39_CodeInts.T4.2 trommellaw39_CodeInts.B4 = true := by kernel_rfl
set_option maxHeartbeats 8000000 in
set_option maxRecDepth 100000 in
theorem trommellaw39_CodeInts.calls (k : Nat) (A0 : Option Addr) (c0 : Nat) (l0 : List Int) (a1 : Int) (a2 : Int) (A3 : Option Addr) (c3 : Nat) (l3 : List Int) (r : Bool) (w : World) (hr0 : Kd.C (Kd.int .u8) w A0 l0.length l0) (hc0 : l0.length ≤ c0) (hr3 : Kd.C (Kd.int .i64) w A3 l3.length l3) (hc3 : l3.length ≤ c3) (h : trommellaw39_CodeInts.f k l0 a1 a2 l3 = some r) :
    Calls Try.prog 4 #[.slice A0 l0.length c0, .int .i64 a1, .int .i64 a2, .slice A3 l3.length c3] w fun e w' => e = .returned (.bool r) ∧ Below w.heap.size w w' := by
  have HR0 := Aside0.mk hr0
  have HC0 := Aside0.mk hc0
  clear hr0 hc0
  have HR3 := Aside0.mk hr3
  have HC3 := Aside0.mk hc3
  clear hr3 hc3
  have HB := Aside0.mk (Below.refl w.heap.size w)
  have H : (if (l0.length : Int) > 300 then (trommellaw39_CodeInts.j0 k l0 a1 a2 l3 true) else (trommellaw39_CodeInts.j0 k l0 a1 a2 l3 (decide ((l3.length : Int) > 100)))) = some r := h
  clear h
  have HC5 := Aside0.mk H
  clear H
  go_enter Try.func4, Try.ntmps4
  go_upto_region 1 with (fail)
  go_cut [36] (fun v36 wc => ∃ (kq : Nat) (x36_4 : Bool), v36 = .bool x36_4 ∧ Aside0 (trommellaw39_CodeInts.j0 kq l0 a1 a2 l3 x36_4 = some r) ∧ Aside0 (kq ≤ k) ∧ Aside0 (Below w.heap.size w wc))
  case first =>
    have H := HC5.out
    clear HC5
    by_cases c6 : (l0.length : Int) > 300
    · rw [if_pos c6] at H
      have c6b0 : decide (300 < (l0.length : Int)) = true := decide_eq_true c6
      have c6b1 : decide (300 < l0.length) = true := decide_eq_true (by omega)
      clear c6
      (first | rw [c6b0] | (simp only [i64_w, i32_w]; rw [c6b0]) | skip)
      have H' := Aside0.mk H
      clear H
      go_wp2
      go_meet
      case rel => exact ⟨_, (true), (by first | rfl | (simp; done) | (simp [*]; done)), H', ⟨by first | omega | exact Nat.le_refl _⟩, ⟨Ls HB⟩⟩
    · rw [if_neg c6] at H
      have c6b0 : decide (300 < (l0.length : Int)) = false := decide_eq_false c6
      have c6b1 : decide (300 < l0.length) = false := decide_eq_false (by omega)
      clear c6
      (first | rw [c6b0] | (simp only [i64_w, i32_w]; rw [c6b0]) | skip)
      have H' := Aside0.mk H
      clear H
      go_wp2
      go_meet
      case rel => exact ⟨_, (decide ((l3.length : Int) > 100)), (by first | rfl | (simp; done) | (simp [*]; done)), H', ⟨by first | omega | exact Nat.le_refl _⟩, ⟨Ls HB⟩⟩
  case rest =>
    clear HC5
    try clear p2; try clear c3; try clear c4; try clear c6; try clear c6b0; try clear c6b1
    obtain ⟨kq, x36_4, rfl, HA, HJ4, HB⟩ := hcut
    cases kq with
    | zero => exact absurd HA.out (by simp [trommellaw39_CodeInts.j0])
    | succ kj4 =>
      have H := HA.out
      clear HA
      simp only [trommellaw39_CodeInts.j0] at H
      by_cases c7 : x36_4 = true
      · subst c7
        have H1 : ((trommellaw39_live.f).bind fun t160 => (some t160)) = some r := by rw [if_pos rfl] at H; exact H
        clear H
        have H := H1
        clear H1
        replace H := Option.bind_eq_some_iff.mp H
        obtain ⟨t160, A80, H⟩ := H
        replace H : (some t160) = some r := H
        have A8 := Aside0.mk A80
        clear A80
        obtain rfl := Option.some.inj H
        go_wp2_with (first | ((with_reducible refine gate_callee (f := 16) rfl ?_); refine goesL_ (some 37) rfl rfl Try.func16 (by kernel_rfl) rfl #[] rfl (by (try simp only [List.map_toArray, List.map_cons, List.map_nil]); first | done | rfl | (simp only [List.length_drop, List.length_take]; rfl)) ?_; (with_reducible refine (trommellaw39_live.calls  t160 _ A8.out).mono ?_); rintro e w9 ⟨rfl, hb⟩; refine ⟨_, rfl, ?_⟩; have n0_ := Lb HB hb; clear HB; have HB := n0_; clear n0_; (try clear hb); (try clear hb2); (try clear hk); (try clear hi)))
        go_ret
        exact ⟨by first | rfl | (simp [errW_none, errW_some] <;> rfl) | (simp [*, errW_none, errW_some] <;> rfl), by repeat (first | (with_reducible first | exact HB.out | apply below_alloc | apply pw_below_drewN | apply below_drew1) | exact HB.out)⟩
      · replace c7 := Bool.eq_false_iff.mpr c7
        subst c7
        have H1 : ((code_PutInt.f l0 a2).bind fun t161 => ((code_PutInts.f kj4 l0 l3).bind fun t164 => ((trommelref39_Int.f a2).bind fun t167 => (if (strOfNums l0).size + (strOfNums t167).size ≤ 9223372036854775807 then (if (strOfNums t161).toList = ((strOfNums l0) ++ (strOfNums t167)).toList then ((trommelref39_Ints.f kj4 l3).bind fun t170 => (if (strOfNums l0).size + (strOfNums t170).size ≤ 9223372036854775807 then (trommellaw39_CodeInts.j1 kj4 l0 a1 a2 l3 t161 t164 ((strOfNums t164).toList != ((strOfNums l0) ++ (strOfNums t170)).toList)) else (none))) else (trommellaw39_CodeInts.j1 kj4 l0 a1 a2 l3 t161 t164 true)) else (none))))) = some r := by rw [if_neg (show ¬ (false = true) by decide)] at H; exact H
        clear H
        have H := H1
        clear H1
        replace H := Option.bind_eq_some_iff.mp H
        obtain ⟨t161, A100, H⟩ := H
        replace H : ((code_PutInts.f kj4 l0 l3).bind fun t164 => ((trommelref39_Int.f a2).bind fun t167 => (if (strOfNums l0).size + (strOfNums t167).size ≤ 9223372036854775807 then (if (strOfNums t161).toList = ((strOfNums l0) ++ (strOfNums t167)).toList then ((trommelref39_Ints.f kj4 l3).bind fun t170 => (if (strOfNums l0).size + (strOfNums t170).size ≤ 9223372036854775807 then (trommellaw39_CodeInts.j1 kj4 l0 a1 a2 l3 t161 t164 ((strOfNums t164).toList != ((strOfNums l0) ++ (strOfNums t170)).toList)) else (none))) else (trommellaw39_CodeInts.j1 kj4 l0 a1 a2 l3 t161 t164 true)) else (none)))) = some r := H
        have A10 := Aside0.mk A100
        clear A100
        replace H := Option.bind_eq_some_iff.mp H
        obtain ⟨t164, A110, H⟩ := H
        replace H : ((trommelref39_Int.f a2).bind fun t167 => (if (strOfNums l0).size + (strOfNums t167).size ≤ 9223372036854775807 then (if (strOfNums t161).toList = ((strOfNums l0) ++ (strOfNums t167)).toList then ((trommelref39_Ints.f kj4 l3).bind fun t170 => (if (strOfNums l0).size + (strOfNums t170).size ≤ 9223372036854775807 then (trommellaw39_CodeInts.j1 kj4 l0 a1 a2 l3 t161 t164 ((strOfNums t164).toList != ((strOfNums l0) ++ (strOfNums t170)).toList)) else (none))) else (trommellaw39_CodeInts.j1 kj4 l0 a1 a2 l3 t161 t164 true)) else (none))) = some r := H
        have A11 := Aside0.mk A110
        clear A110
        have HC12 := Aside0.mk H
        clear H
        go_upto_region 4 with (first | ((with_reducible refine gate_callee (f := 17) rfl ?_); refine goesL_ (some 40) rfl rfl Try.func17 (by kernel_rfl) rfl #[.slice A0 l0.length c0, .int .i64 a2] rfl (by (try simp only [List.map_toArray, List.map_cons, List.map_nil]); first | done | rfl | (simp only [List.length_drop, List.length_take]; rfl)) ?_; (with_reducible refine (code_PutInt.calls _ _ l0 a2 t161 _ ?side1 ?side2 A10.out).mono ?_); (case side1 => repeat (first | exact (Kd.C_below HR0.out HB.out) | (with_reducible refine Kd.C_alloc ?_ _) | (with_reducible refine Kd.C_drewN ?_ _) | (with_reducible refine Kd.C_drew ?_))); (case side2 => exact HC0.out); rintro e w13 ⟨v162, rfl, ho0, hb⟩; refine ⟨_, rfl, ?_⟩; have n0_ := Aside0.mk (Kd.R_lower ho0 (Lz HB)); have n1_ := Lb HB hb; clear HB; have HO163 := n0_; have HB := n1_; clear n0_ n1_; (try clear hb); (try clear hb2); (try clear hk); (try clear hi); (try clear ho0)) | ((with_reducible refine gate_callee (f := 18) rfl ?_); refine goesL_ (some 43) rfl rfl Try.func18 (by kernel_rfl) rfl #[.slice A0 l0.length c0, .slice A3 l3.length c3] rfl (by (try simp only [List.map_toArray, List.map_cons, List.map_nil]); first | done | rfl | (simp only [List.length_drop, List.length_take]; rfl)) ?_; (with_reducible refine (code_PutInts.calls kj4 _ _ l0 _ _ l3 t164 _ ?side1 ?side2 ?side3 ?side4 A11.out).mono ?_); (case side1 => repeat (first | exact (Kd.C_below HR0.out HB.out) | (with_reducible refine Kd.C_alloc ?_ _) | (with_reducible refine Kd.C_drewN ?_ _) | (with_reducible refine Kd.C_drew ?_))); (case side2 => exact HC0.out); (case side3 => repeat (first | exact (Kd.C_below HR3.out HB.out) | (with_reducible refine Kd.C_alloc ?_ _) | (with_reducible refine Kd.C_drewN ?_ _) | (with_reducible refine Kd.C_drew ?_))); (case side4 => exact HC3.out); rintro e w14 ⟨v165, rfl, ho0, hb⟩; refine ⟨_, rfl, ?_⟩; have n0_ := Aside0.mk (Kd.R_elder' (Rs HO163.out) (Kd.R_base ho0) hb); have n1_ := Aside0.mk (Kd.R_lower (Kd.R_new' ho0 (Kd.R_lt (Rs HO163.out))) (Lz HB)); have n2_ := Lb HB hb; clear HO163 HB; have HO163 := n0_; have HO166 := n1_; have HB := n2_; clear n0_ n1_ n2_; (try clear hb); (try clear hb2); (try clear hk); (try clear hi); (try clear ho0)))
        (try simp only [Act.put, List.setIfInBounds_toArray, List.set_cons_zero, List.set_cons_succ])
        go_cut [63] (fun v63 wc => ∃ (kq : Nat) (x63_11 : Bool), v63 = .bool x63_11 ∧ Aside0 (trommellaw39_CodeInts.j1 kq l0 a1 a2 l3 t161 t164 x63_11 = some r) ∧ Aside0 (kq ≤ kj4) ∧ Aside0 (Kd.R (Kd.int .u8) 5 wc w.heap.size (fun k_ => some k_ ≠ (v165 : Value).ownBlock) v162 t161) ∧ Aside0 (Kd.R (Kd.int .u8) 5 wc w.heap.size (fun k_ => some k_ ≠ (v162 : Value).ownBlock) v165 t164) ∧ Aside0 (Below w.heap.size w wc))
        case first =>
          have H := HC12.out
          clear HC12
          replace H := Option.bind_eq_some_iff.mp H
          obtain ⟨t167, A150, H⟩ := H
          replace H : (if (strOfNums l0).size + (strOfNums t167).size ≤ 9223372036854775807 then (if (strOfNums t161).toList = ((strOfNums l0) ++ (strOfNums t167)).toList then ((trommelref39_Ints.f kj4 l3).bind fun t170 => (if (strOfNums l0).size + (strOfNums t170).size ≤ 9223372036854775807 then (trommellaw39_CodeInts.j1 kj4 l0 a1 a2 l3 t161 t164 ((strOfNums t164).toList != ((strOfNums l0) ++ (strOfNums t170)).toList)) else (none))) else (trommellaw39_CodeInts.j1 kj4 l0 a1 a2 l3 t161 t164 true)) else (none)) = some r := H
          have A15 := Aside0.mk A150
          clear A150
          refine bc (p := ((strOfNums l0).size + (strOfNums t167).size ≤ 9223372036854775807)) (fun c16 => ?_) (fun c16 => ?_)
          · rw [if_neg c16] at H
            exact absurd H (by simp)
          rw [if_pos c16] at H
          have c16b0 := eq_true c16
          have c16b1 : decide ((strOfNums l0).size + (strOfNums t167).size ≤ 9223372036854775807) = true := decide_eq_true c16
          try have c16b2 : (9223372036854775807 < (strOfNums l0).size + (strOfNums t167).size) = False := eq_false (Nat.not_lt.2 c16)
          by_cases c17 : (strOfNums t161).toList = ((strOfNums l0) ++ (strOfNums t167)).toList
          · rw [if_pos c17] at H
            have c17b0 : ((strOfNums t161).toList == ((strOfNums l0) ++ (strOfNums t167)).toList) = true := beq_iff_eq.mpr c17
            have c17b1 : ((strOfNums t161).toList != ((strOfNums l0) ++ (strOfNums t167)).toList) = false := bne_eq_false_iff_eq.mpr c17
            clear c17
            (first | rw [c17b0] | (simp only [i64_w, i32_w]; rw [c17b0]) | skip)
            replace H := Option.bind_eq_some_iff.mp H
            obtain ⟨t170, A180, H⟩ := H
            replace H : (if (strOfNums l0).size + (strOfNums t170).size ≤ 9223372036854775807 then (trommellaw39_CodeInts.j1 kj4 l0 a1 a2 l3 t161 t164 ((strOfNums t164).toList != ((strOfNums l0) ++ (strOfNums t170)).toList)) else (none)) = some r := H
            have A18 := Aside0.mk A180
            clear A180
            refine bc (p := ((strOfNums l0).size + (strOfNums t170).size ≤ 9223372036854775807)) (fun c19 => ?_) (fun c19 => ?_)
            · rw [if_neg c19] at H
              exact absurd H (by simp)
            rw [if_pos c19] at H
            have c19b0 := eq_true c19
            have c19b1 : decide ((strOfNums l0).size + (strOfNums t170).size ≤ 9223372036854775807) = true := decide_eq_true c19
            try have c19b2 : (9223372036854775807 < (strOfNums l0).size + (strOfNums t170).size) = False := eq_false (Nat.not_lt.2 c19)
            have H' := Aside0.mk H
            clear H
            try go_wp2
            replace HO163 := Aside0.mk (Kd.R_drew HO163.out)
            replace HO166 := Aside0.mk (Kd.R_drew HO166.out)
            replace HB := Aside0.mk (below_drew1 HB.out)
            refine start_ (n := 20) (S := (fun w' => (convert 36 9 v162).run Try.prog w' = .ok (.string (strOfNums t161)) w' ∧ (convert 36 9 (.slice A0 l0.length c0)).run Try.prog w' = .ok (.string (strOfNums l0)) w' ∧ (convert 36 9 v165).run Try.prog w' = .ok (.string (strOfNums t164)) w')) (ds := []) #[F, F, F, F, F, F, F, F, F, F, F, F, F, F, F, F, F, F, F, F] (by kernel_rfl) rfl rfl ⟨own_string (P := Try.prog) Try.underlying36 Try.underlying5 Try.underlying9 (Kd.own_of_R HO163.out), Kd.C_string (P := Try.prog) (A := A0) (c := c0) Try.underlying36 Try.underlying5 Try.underlying9 (Kd.C_below HR0.out HB.out), own_string (P := Try.prog) Try.underlying36 Try.underlying5 Try.underlying9 (Kd.own_of_R HO166.out)⟩ (fun hHeld => ?_); refine with_tabW trommellaw39_CodeInts.tab4 trommellaw39_CodeInts.bits4 (fun HT_ HW_ => ?_)
            generalize w14.drew = w20 at HO163 HO166 HB hHeld ⊢
            refine pure_ (i := 0) (N := some 44) (v := ?_) (a' := ?_) #[T, F, F, F, F, F, F, F, F, F, F, F, F, F, F, F, F, F, F, F] rfl rfl (any_of HT_.out (by kernel_rfl)) (fun _ _ _ h => h) (Or.inl ⟨by rfl, ?_⟩) ?_ ?_; rotate_left; (· intro w'; go_simp; with_reducible rfl); rotate_left; (· simp only [Act.put, sq]; rfl)
            refine take_ (i := 1) (N := some 45) (v := ?_) (a' := ?_) #[T, T, F, F, F, F, F, F, F, F, F, F, F, F, F, F, F, F, F, F] rfl rfl (take_ofW HT_.out HW_.out (by kernel_rfl)) (fun _ _ _ h => h) (Or.inl ⟨by rfl, ?_⟩) hHeld ?_ ?_; rotate_left; (· rintro w' s0; obtain ⟨s1, s2, s3⟩ := s0; go_simp; with_reducible rfl); rotate_left; (· simp only [Act.put, sq]; rfl)
            refine pure_ (i := 2) (N := some 46) (v := ?_) (a' := ?_) #[T, T, T, F, F, F, F, F, F, F, F, F, F, F, F, F, F, F, F, F] rfl rfl (any_of HT_.out (by kernel_rfl)) (fun _ _ _ h => h) (Or.inl ⟨by rfl, ?_⟩) ?_ ?_; rotate_left; (· intro w'; go_simp; with_reducible rfl); rotate_left; (· simp only [Act.put, sq]; rfl)
            refine take_ (i := 3) (N := some 47) (v := ?_) (a' := ?_) #[T, T, T, T, F, F, F, F, F, F, F, F, F, F, F, F, F, F, F, F] rfl rfl (take_ofW HT_.out HW_.out (by kernel_rfl)) (fun _ _ _ h => h) (Or.inl ⟨by rfl, ?_⟩) hHeld ?_ ?_; rotate_left; (· rintro w' s0; obtain ⟨s1, s2, s3⟩ := s0; go_simp; with_reducible rfl); rotate_left; (· simp only [Act.put, sq]; rfl)
            refine pure_ (i := 4) (N := some 48) (v := ?_) (a' := ?_) #[T, T, T, T, T, F, F, F, F, F, F, F, F, F, F, F, F, F, F, F] rfl rfl (any_of HT_.out (by kernel_rfl)) (fun _ _ _ h => h) (Or.inl ⟨by rfl, ?_⟩) ?_ ?_; rotate_left; (· intro w'; go_simp; with_reducible rfl); rotate_left; (· simp only [Act.put, sq]; rfl)
            refine one_ (i := 5) (N := some 49) #[T, T, T, T, T, T, F, F, F, F, F, F, F, F, F, F, F, F, F, F] rfl rfl (one_of HT_.out (by kernel_rfl)) (by decide) (fun K hK => ?_)
            refine goes_ Try.func19 (by kernel_rfl) rfl #[.int .i64 a2] (by rfl) rfl rfl (by (try simp only [List.map_toArray, List.map_cons, List.map_nil]); first | done | rfl | (simp only [List.length_drop, List.length_take]; rfl)) ?_
            with_reducible refine (trommelref39_Int.calls a2 t167 _ A15.out).mono ?_
            rintro e w23 ⟨v168, rfl, ho0, hb⟩
            refine ⟨_, rfl, ?_⟩
            have HO169 := Aside0.mk (Kd.R_lower (Kd.R_new' (Kd.R_new' ho0 (Kd.R_lt (Rs HO163.out))) (Kd.R_lt (Rs HO166.out))) (Lz HB))
            replace HO163 := Aside0.mk (Kd.R_elder' (Rs HO163.out) (Kd.R_base ho0) hb)
            replace HO166 := Aside0.mk (Kd.R_elder' (Rs HO166.out) (Kd.R_base ho0) hb)
            replace HB := Lb HB hb
            try clear hb; try clear hb2; try clear hk; try clear hi; try clear ho0
            refine hK.out _ _ (by first | exact hHeld | exact ⟨own_string (P := Try.prog) Try.underlying36 Try.underlying5 Try.underlying9 (Kd.own_of_R HO163.out), Kd.C_string (P := Try.prog) (A := A0) (c := c0) Try.underlying36 Try.underlying5 Try.underlying9 (Kd.C_below HR0.out HB.out), own_string (P := Try.prog) Try.underlying36 Try.underlying5 Try.underlying9 (Kd.own_of_R HO166.out)⟩) (fun hHeld => ?_)
            clear hK K
            refine norm_ (a' := ?_) ?_ ?_; rotate_left; (· show Act.put _ (some 49) _ = _; simp only [Act.put, sq]; rfl)
            refine one_ (i := 6) (N := some 50) #[T, T, T, T, T, T, T, F, F, F, F, F, F, F, F, F, F, F, F, F] rfl rfl (one_of HT_.out (by kernel_rfl)) (by decide) (fun K hK => ?_)
            have hcv24 := own_string (P := Try.prog) Try.underlying36 Try.underlying5 Try.underlying9 (Kd.own_of_R HO169.out)
            refine value_ (w1 := ?_) (v := ?_) (by rfl) rfl ?_ ?_
            rotate_left 2
            · go_simp
              constructor
              · rfl
              · rfl
            clear hcv24
            refine hK.out _ _ (by first | exact hHeld | exact ⟨own_string (P := Try.prog) Try.underlying36 Try.underlying5 Try.underlying9 (Kd.own_of_R HO163.out), Kd.C_string (P := Try.prog) (A := A0) (c := c0) Try.underlying36 Try.underlying5 Try.underlying9 (Kd.C_below HR0.out HB.out), own_string (P := Try.prog) Try.underlying36 Try.underlying5 Try.underlying9 (Kd.own_of_R HO166.out)⟩) (fun hHeld => ?_)
            clear hK K
            refine norm_ (a' := ?_) ?_ ?_; rotate_left; (· show Act.put _ (some 50) _ = _; simp only [Act.put, sq]; rfl)
            refine pure_ (i := 7) (N := some 51) (v := ?_) (a' := ?_) #[T, T, T, T, T, T, T, T, F, F, F, F, F, F, F, F, F, F, F, F] rfl rfl (any_of HT_.out (by kernel_rfl)) (fun _ _ _ h => h) (Or.inl ⟨by rfl, ?_⟩) ?_ ?_; rotate_left; (· intro w'; go_simp; with_reducible rfl); rotate_left; (· simp only [Act.put, sq]; rfl)
            refine pure_ (i := 8) (N := some 52) (v := ?_) (a' := ?_) #[T, T, T, T, T, T, T, T, T, F, F, F, F, F, F, F, F, F, F, F] rfl rfl (any_of HT_.out (by kernel_rfl)) (fun _ _ _ h => h) (Or.inl ⟨by rfl, ?_⟩) ?_ ?_; rotate_left; (· intro w'; go_simp; with_reducible rfl); rotate_left; (· simp only [Act.put, sq]; rfl)
            refine pure_ (i := 9) (N := some 53) (v := ?_) (a' := ?_) #[T, T, T, T, T, T, T, T, T, T, F, F, F, F, F, F, F, F, F, F] rfl rfl (any_of HT_.out (by kernel_rfl)) (fun _ _ _ h => h) (Or.inl ⟨by rfl, ?_⟩) ?_ ?_; rotate_left; (· intro w'; go_simp; with_reducible rfl); rotate_left; (· simp only [Act.put, sq]; rfl)
            refine pure_ (i := 10) (N := some 54) (v := ?_) (a' := ?_) #[T, T, T, T, T, T, T, T, T, T, T, F, F, F, F, F, F, F, F, F] rfl rfl (any_of HT_.out (by kernel_rfl)) (fun _ _ _ h => h) (Or.inl ⟨by rfl, ?_⟩) ?_ ?_; rotate_left; (· intro w'; go_simp; with_reducible rfl); rotate_left; (· simp only [Act.put, sq]; rfl)
            refine take_ (i := 11) (N := some 55) (v := ?_) (a' := ?_) #[T, T, T, T, T, T, T, T, T, T, T, T, F, F, F, F, F, F, F, F] rfl rfl (take_ofW HT_.out HW_.out (by kernel_rfl)) (fun _ _ _ h => h) (Or.inl ⟨by rfl, ?_⟩) hHeld ?_ ?_; rotate_left; (· rintro w' s0; obtain ⟨s1, s2, s3⟩ := s0; go_simp; with_reducible rfl); rotate_left; (· simp only [Act.put, sq]; rfl)
            refine pure_ (i := 12) (N := some 56) (v := ?_) (a' := ?_) #[T, T, T, T, T, T, T, T, T, T, T, T, T, F, F, F, F, F, F, F] rfl rfl (any_of HT_.out (by kernel_rfl)) (fun _ _ _ h => h) (Or.inl ⟨by rfl, ?_⟩) ?_ ?_; rotate_left; (· intro w'; go_simp; with_reducible rfl); rotate_left; (· simp only [Act.put, sq]; rfl)
            refine take_ (i := 13) (N := some 57) (v := ?_) (a' := ?_) #[T, T, T, T, T, T, T, T, T, T, T, T, T, T, F, F, F, F, F, F] rfl rfl (take_ofW HT_.out HW_.out (by kernel_rfl)) (fun _ _ _ h => h) (Or.inl ⟨by rfl, ?_⟩) hHeld ?_ ?_; rotate_left; (· rintro w' s0; obtain ⟨s1, s2, s3⟩ := s0; go_simp; with_reducible rfl); rotate_left; (· simp only [Act.put, sq]; rfl)
            refine pure_ (i := 14) (N := some 58) (v := ?_) (a' := ?_) #[T, T, T, T, T, T, T, T, T, T, T, T, T, T, T, F, F, F, F, F] rfl rfl (any_of HT_.out (by kernel_rfl)) (fun _ _ _ h => h) (Or.inl ⟨by rfl, ?_⟩) ?_ ?_; rotate_left; (· intro w'; go_simp; with_reducible rfl); rotate_left; (· simp only [Act.put, sq]; rfl)
            refine one_ (i := 15) (N := some 59) #[T, T, T, T, T, T, T, T, T, T, T, T, T, T, T, T, F, F, F, F] rfl rfl (one_of HT_.out (by kernel_rfl)) (by decide) (fun K hK => ?_)
            refine goes_ Try.func20 (by kernel_rfl) rfl #[.slice A3 l3.length c3] (by rfl) rfl rfl (by (try simp only [List.map_toArray, List.map_cons, List.map_nil]); first | done | rfl | (simp only [List.length_drop, List.length_take]; rfl)) ?_
            with_reducible refine (trommelref39_Ints.calls kj4 _ _ l3 t170 _ ?side1 ?side2 A18.out).mono ?_
            (case side1 => repeat (first | exact (Kd.C_below HR3.out HB.out) | (with_reducible refine Kd.C_alloc ?_ _) | (with_reducible refine Kd.C_drewN ?_ _) | (with_reducible refine Kd.C_drew ?_)))
            (case side2 => exact HC3.out)
            rintro e w27 ⟨v171, rfl, ho0, hb⟩
            refine ⟨_, rfl, ?_⟩
            have HO172 := Aside0.mk (Kd.R_lower (Kd.R_new' (Kd.R_new' (Kd.R_new' ho0 (Kd.R_lt (Rs HO163.out))) (Kd.R_lt (Rs HO166.out))) (Kd.R_lt (Rs HO169.out))) (Lz HB))
            replace HO163 := Aside0.mk (Kd.R_elder' (Rs HO163.out) (Kd.R_base ho0) hb)
            replace HO166 := Aside0.mk (Kd.R_elder' (Rs HO166.out) (Kd.R_base ho0) hb)
            replace HO169 := Aside0.mk (Kd.R_elder' (Rs HO169.out) (Kd.R_base ho0) hb)
            replace HB := Lb HB hb
            try clear hb; try clear hb2; try clear hk; try clear hi; try clear ho0
            refine hK.out _ _ (by first | exact hHeld | exact ⟨own_string (P := Try.prog) Try.underlying36 Try.underlying5 Try.underlying9 (Kd.own_of_R HO163.out), Kd.C_string (P := Try.prog) (A := A0) (c := c0) Try.underlying36 Try.underlying5 Try.underlying9 (Kd.C_below HR0.out HB.out), own_string (P := Try.prog) Try.underlying36 Try.underlying5 Try.underlying9 (Kd.own_of_R HO166.out)⟩) (fun hHeld => ?_)
            clear hK K
            refine norm_ (a' := ?_) ?_ ?_; rotate_left; (· show Act.put _ (some 59) _ = _; simp only [Act.put, sq]; rfl)
            refine one_ (i := 16) (N := some 60) #[T, T, T, T, T, T, T, T, T, T, T, T, T, T, T, T, T, F, F, F] rfl rfl (one_of HT_.out (by kernel_rfl)) (by decide) (fun K hK => ?_)
            have hcv28 := own_string (P := Try.prog) Try.underlying36 Try.underlying5 Try.underlying9 (Kd.own_of_R HO172.out)
            refine value_ (w1 := ?_) (v := ?_) (by rfl) rfl ?_ ?_
            rotate_left 2
            · go_simp
              constructor
              · rfl
              · rfl
            clear hcv28
            refine hK.out _ _ (by first | exact hHeld | exact ⟨own_string (P := Try.prog) Try.underlying36 Try.underlying5 Try.underlying9 (Kd.own_of_R HO163.out), Kd.C_string (P := Try.prog) (A := A0) (c := c0) Try.underlying36 Try.underlying5 Try.underlying9 (Kd.C_below HR0.out HB.out), own_string (P := Try.prog) Try.underlying36 Try.underlying5 Try.underlying9 (Kd.own_of_R HO166.out)⟩) (fun hHeld => ?_)
            clear hK K
            refine norm_ (a' := ?_) ?_ ?_; rotate_left; (· show Act.put _ (some 60) _ = _; simp only [Act.put, sq]; rfl)
            refine pure_ (i := 17) (N := some 61) (v := ?_) (a' := ?_) #[T, T, T, T, T, T, T, T, T, T, T, T, T, T, T, T, T, T, F, F] rfl rfl (any_of HT_.out (by kernel_rfl)) (fun _ _ _ h => h) (Or.inl ⟨by rfl, ?_⟩) ?_ ?_; rotate_left; (· intro w'; go_simp; with_reducible rfl); rotate_left; (· simp only [Act.put, sq]; rfl)
            refine pure_ (i := 18) (N := some 62) (v := ?_) (a' := ?_) #[T, T, T, T, T, T, T, T, T, T, T, T, T, T, T, T, T, T, T, F] rfl rfl (any_of HT_.out (by kernel_rfl)) (fun _ _ _ h => h) (Or.inl ⟨by rfl, ?_⟩) ?_ ?_; rotate_left; (· intro w'; go_simp; with_reducible rfl); rotate_left; (· simp only [Act.put, sq]; rfl)
            refine pure_ (i := 19) (N := some 63) (v := ?_) (a' := ?_) #[T, T, T, T, T, T, T, T, T, T, T, T, T, T, T, T, T, T, T, T] rfl rfl (any_of HT_.out (by kernel_rfl)) (fun _ _ _ h => h) (Or.inl ⟨by rfl, ?_⟩) ?_ ?_; rotate_left; (· intro w'; go_simp; with_reducible rfl); rotate_left; (· simp only [Act.put, sq]; rfl)
            refine done_ (done_of HT_.out (by kernel_rfl)) ?_
            try go_wp2
            go_meet
            case rel => exact ⟨_, (((strOfNums t164).toList != ((strOfNums l0) ++ (strOfNums t170)).toList)), (by first | rfl | (simp; done) | (simp [*]; done)), H', ⟨by have := HJ4.out; first | omega | exact Nat.le_refl _⟩, ⟨by (with_reducible repeat (first | apply Kd.R_alloc | apply Kd.R_drewN | apply Kd.R_drew)); exact Kd.R_mono HO163.out (fun _ hk => by first | exact hk.1 | exact hk.2 | exact hk.1.2 | exact hk.1.1 | exact hk.1.1.2)⟩, ⟨by (with_reducible repeat (first | apply Kd.R_alloc | apply Kd.R_drewN | apply Kd.R_drew)); exact Kd.R_mono HO166.out (fun _ hk => by first | exact hk.1 | exact hk.2 | exact hk.1.2 | exact hk.1.1 | exact hk.1.1.2)⟩, ⟨Ls HB⟩⟩
          · rw [if_neg c17] at H
            have c17b0 : ((strOfNums t161).toList == ((strOfNums l0) ++ (strOfNums t167)).toList) = false := beq_eq_false_iff_ne.mpr c17
            have c17b1 : ((strOfNums t161).toList != ((strOfNums l0) ++ (strOfNums t167)).toList) = true := bne_iff_ne.mpr c17
            (first | rw [c17b0] | (simp only [i64_w, i32_w]; rw [c17b0]) | skip)
            have H' := Aside0.mk H
            clear H
            try go_wp2
            replace HO163 := Aside0.mk (Kd.R_drew HO163.out)
            replace HO166 := Aside0.mk (Kd.R_drew HO166.out)
            replace HB := Aside0.mk (below_drew1 HB.out)
            refine start_ (n := 20) (S := (fun w' => (convert 36 9 v162).run Try.prog w' = .ok (.string (strOfNums t161)) w' ∧ (convert 36 9 (.slice A0 l0.length c0)).run Try.prog w' = .ok (.string (strOfNums l0)) w' ∧ (convert 36 9 v165).run Try.prog w' = .ok (.string (strOfNums t164)) w')) (ds := []) #[F, F, F, F, F, F, F, F, F, F, F, F, F, F, F, F, F, F, F, F] (by kernel_rfl) rfl rfl ⟨own_string (P := Try.prog) Try.underlying36 Try.underlying5 Try.underlying9 (Kd.own_of_R HO163.out), Kd.C_string (P := Try.prog) (A := A0) (c := c0) Try.underlying36 Try.underlying5 Try.underlying9 (Kd.C_below HR0.out HB.out), own_string (P := Try.prog) Try.underlying36 Try.underlying5 Try.underlying9 (Kd.own_of_R HO166.out)⟩ (fun hHeld => ?_); refine with_tabW trommellaw39_CodeInts.tab4 trommellaw39_CodeInts.bits4 (fun HT_ HW_ => ?_)
            generalize w14.drew = w30 at HO163 HO166 HB hHeld ⊢
            refine pure_ (i := 0) (N := some 44) (v := ?_) (a' := ?_) #[T, F, F, F, F, F, F, F, F, F, F, F, F, F, F, F, F, F, F, F] rfl rfl (any_of HT_.out (by kernel_rfl)) (fun _ _ _ h => h) (Or.inl ⟨by rfl, ?_⟩) ?_ ?_; rotate_left; (· intro w'; go_simp; with_reducible rfl); rotate_left; (· simp only [Act.put, sq]; rfl)
            refine take_ (i := 1) (N := some 45) (v := ?_) (a' := ?_) #[T, T, F, F, F, F, F, F, F, F, F, F, F, F, F, F, F, F, F, F] rfl rfl (take_ofW HT_.out HW_.out (by kernel_rfl)) (fun _ _ _ h => h) (Or.inl ⟨by rfl, ?_⟩) hHeld ?_ ?_; rotate_left; (· rintro w' s0; obtain ⟨s1, s2, s3⟩ := s0; go_simp; with_reducible rfl); rotate_left; (· simp only [Act.put, sq]; rfl)
            refine pure_ (i := 2) (N := some 46) (v := ?_) (a' := ?_) #[T, T, T, F, F, F, F, F, F, F, F, F, F, F, F, F, F, F, F, F] rfl rfl (any_of HT_.out (by kernel_rfl)) (fun _ _ _ h => h) (Or.inl ⟨by rfl, ?_⟩) ?_ ?_; rotate_left; (· intro w'; go_simp; with_reducible rfl); rotate_left; (· simp only [Act.put, sq]; rfl)
            refine take_ (i := 3) (N := some 47) (v := ?_) (a' := ?_) #[T, T, T, T, F, F, F, F, F, F, F, F, F, F, F, F, F, F, F, F] rfl rfl (take_ofW HT_.out HW_.out (by kernel_rfl)) (fun _ _ _ h => h) (Or.inl ⟨by rfl, ?_⟩) hHeld ?_ ?_; rotate_left; (· rintro w' s0; obtain ⟨s1, s2, s3⟩ := s0; go_simp; with_reducible rfl); rotate_left; (· simp only [Act.put, sq]; rfl)
            refine pure_ (i := 4) (N := some 48) (v := ?_) (a' := ?_) #[T, T, T, T, T, F, F, F, F, F, F, F, F, F, F, F, F, F, F, F] rfl rfl (any_of HT_.out (by kernel_rfl)) (fun _ _ _ h => h) (Or.inl ⟨by rfl, ?_⟩) ?_ ?_; rotate_left; (· intro w'; go_simp; with_reducible rfl); rotate_left; (· simp only [Act.put, sq]; rfl)
            refine one_ (i := 5) (N := some 49) #[T, T, T, T, T, T, F, F, F, F, F, F, F, F, F, F, F, F, F, F] rfl rfl (one_of HT_.out (by kernel_rfl)) (by decide) (fun K hK => ?_)
            refine goes_ Try.func19 (by kernel_rfl) rfl #[.int .i64 a2] (by rfl) rfl rfl (by (try simp only [List.map_toArray, List.map_cons, List.map_nil]); first | done | rfl | (simp only [List.length_drop, List.length_take]; rfl)) ?_
            with_reducible refine (trommelref39_Int.calls a2 t167 _ A15.out).mono ?_
            rintro e w33 ⟨v168, rfl, ho0, hb⟩
            refine ⟨_, rfl, ?_⟩
            have HO169 := Aside0.mk (Kd.R_lower (Kd.R_new' (Kd.R_new' ho0 (Kd.R_lt (Rs HO163.out))) (Kd.R_lt (Rs HO166.out))) (Lz HB))
            replace HO163 := Aside0.mk (Kd.R_elder' (Rs HO163.out) (Kd.R_base ho0) hb)
            replace HO166 := Aside0.mk (Kd.R_elder' (Rs HO166.out) (Kd.R_base ho0) hb)
            replace HB := Lb HB hb
            try clear hb; try clear hb2; try clear hk; try clear hi; try clear ho0
            refine hK.out _ _ (by first | exact hHeld | exact ⟨own_string (P := Try.prog) Try.underlying36 Try.underlying5 Try.underlying9 (Kd.own_of_R HO163.out), Kd.C_string (P := Try.prog) (A := A0) (c := c0) Try.underlying36 Try.underlying5 Try.underlying9 (Kd.C_below HR0.out HB.out), own_string (P := Try.prog) Try.underlying36 Try.underlying5 Try.underlying9 (Kd.own_of_R HO166.out)⟩) (fun hHeld => ?_)
            clear hK K
            refine norm_ (a' := ?_) ?_ ?_; rotate_left; (· show Act.put _ (some 49) _ = _; simp only [Act.put, sq]; rfl)
            refine one_ (i := 6) (N := some 50) #[T, T, T, T, T, T, T, F, F, F, F, F, F, F, F, F, F, F, F, F] rfl rfl (one_of HT_.out (by kernel_rfl)) (by decide) (fun K hK => ?_)
            have hcv34 := own_string (P := Try.prog) Try.underlying36 Try.underlying5 Try.underlying9 (Kd.own_of_R HO169.out)
            refine value_ (w1 := ?_) (v := ?_) (by rfl) rfl ?_ ?_
            rotate_left 2
            · go_simp
              constructor
              · rfl
              · rfl
            clear hcv34
            refine hK.out _ _ (by first | exact hHeld | exact ⟨own_string (P := Try.prog) Try.underlying36 Try.underlying5 Try.underlying9 (Kd.own_of_R HO163.out), Kd.C_string (P := Try.prog) (A := A0) (c := c0) Try.underlying36 Try.underlying5 Try.underlying9 (Kd.C_below HR0.out HB.out), own_string (P := Try.prog) Try.underlying36 Try.underlying5 Try.underlying9 (Kd.own_of_R HO166.out)⟩) (fun hHeld => ?_)
            clear hK K
            refine norm_ (a' := ?_) ?_ ?_; rotate_left; (· show Act.put _ (some 50) _ = _; simp only [Act.put, sq]; rfl)
            refine pure_ (i := 7) (N := some 51) (v := ?_) (a' := ?_) #[T, T, T, T, T, T, T, T, F, F, F, F, F, F, F, F, F, F, F, F] rfl rfl (any_of HT_.out (by kernel_rfl)) (fun _ _ _ h => h) (Or.inl ⟨by rfl, ?_⟩) ?_ ?_; rotate_left; (· intro w'; go_simp; with_reducible rfl); rotate_left; (· simp only [Act.put, sq]; rfl)
            refine pure_ (i := 8) (N := some 52) (v := ?_) (a' := ?_) #[T, T, T, T, T, T, T, T, T, F, F, F, F, F, F, F, F, F, F, F] rfl rfl (any_of HT_.out (by kernel_rfl)) (fun _ _ _ h => h) (Or.inl ⟨by rfl, ?_⟩) ?_ ?_; rotate_left; (· intro w'; go_simp; with_reducible rfl); rotate_left; (· simp only [Act.put, sq]; rfl)
            refine pure_ (i := 9) (N := some 53) (v := ?_) (a' := ?_) #[T, T, T, T, T, T, T, T, T, T, F, F, F, F, F, F, F, F, F, F] rfl rfl (any_of HT_.out (by kernel_rfl)) (fun _ _ _ h => h) (Or.inl ⟨by rfl, ?_⟩) ?_ ?_; rotate_left; (· intro w'; go_simp; with_reducible rfl); rotate_left; (· simp only [Act.put, sq]; rfl)
            refine pure_ (i := 10) (N := some 54) (v := undef) (a' := ?_) #[T, T, T, T, T, T, T, T, T, T, T, F, F, F, F, F, F, F, F, F] rfl rfl (any_of HT_.out (by kernel_rfl)) (fun _ _ _ h => h) (Or.inr ⟨by rfl, rfl⟩) ?_ ?_
            rotate_left; (· simp only [Act.put, sq]; rfl)
            refine pure_ (i := 11) (N := some 55) (v := undef) (a' := ?_) #[T, T, T, T, T, T, T, T, T, T, T, T, F, F, F, F, F, F, F, F] rfl rfl (any_of HT_.out (by kernel_rfl)) (fun _ _ _ h => h) (Or.inr ⟨by rfl, rfl⟩) ?_ ?_
            rotate_left; (· simp only [Act.put, sq]; rfl)
            refine pure_ (i := 12) (N := some 56) (v := undef) (a' := ?_) #[T, T, T, T, T, T, T, T, T, T, T, T, T, F, F, F, F, F, F, F] rfl rfl (any_of HT_.out (by kernel_rfl)) (fun _ _ _ h => h) (Or.inr ⟨by rfl, rfl⟩) ?_ ?_
            rotate_left; (· simp only [Act.put, sq]; rfl)
            refine pure_ (i := 13) (N := some 57) (v := undef) (a' := ?_) #[T, T, T, T, T, T, T, T, T, T, T, T, T, T, F, F, F, F, F, F] rfl rfl (any_of HT_.out (by kernel_rfl)) (fun _ _ _ h => h) (Or.inr ⟨by rfl, rfl⟩) ?_ ?_
            rotate_left; (· simp only [Act.put, sq]; rfl)
            refine pure_ (i := 14) (N := some 58) (v := undef) (a' := ?_) #[T, T, T, T, T, T, T, T, T, T, T, T, T, T, T, F, F, F, F, F] rfl rfl (any_of HT_.out (by kernel_rfl)) (fun _ _ _ h => h) (Or.inr ⟨by rfl, rfl⟩) ?_ ?_
            rotate_left; (· simp only [Act.put, sq]; rfl)
            refine pure_ (i := 15) (N := some 59) (v := undef) (a' := ?_) #[T, T, T, T, T, T, T, T, T, T, T, T, T, T, T, T, F, F, F, F] rfl rfl (any_of HT_.out (by kernel_rfl)) (fun _ _ _ h => h) (Or.inr ⟨by rfl, rfl⟩) ?_ ?_
            rotate_left; (· simp only [Act.put, sq]; rfl)
            refine pure_ (i := 16) (N := some 60) (v := undef) (a' := ?_) #[T, T, T, T, T, T, T, T, T, T, T, T, T, T, T, T, T, F, F, F] rfl rfl (any_of HT_.out (by kernel_rfl)) (fun _ _ _ h => h) (Or.inr ⟨by rfl, rfl⟩) ?_ ?_
            rotate_left; (· simp only [Act.put, sq]; rfl)
            refine pure_ (i := 17) (N := some 61) (v := undef) (a' := ?_) #[T, T, T, T, T, T, T, T, T, T, T, T, T, T, T, T, T, T, F, F] rfl rfl (any_of HT_.out (by kernel_rfl)) (fun _ _ _ h => h) (Or.inr ⟨by rfl, rfl⟩) ?_ ?_
            rotate_left; (· simp only [Act.put, sq]; rfl)
            refine pure_ (i := 18) (N := some 62) (v := undef) (a' := ?_) #[T, T, T, T, T, T, T, T, T, T, T, T, T, T, T, T, T, T, T, F] rfl rfl (any_of HT_.out (by kernel_rfl)) (fun _ _ _ h => h) (Or.inr ⟨by rfl, rfl⟩) ?_ ?_
            rotate_left; (· simp only [Act.put, sq]; rfl)
            refine pure_ (i := 19) (N := some 63) (v := ?_) (a' := ?_) #[T, T, T, T, T, T, T, T, T, T, T, T, T, T, T, T, T, T, T, T] rfl rfl (any_of HT_.out (by kernel_rfl)) (fun _ _ _ h => h) (Or.inl ⟨by rfl, ?_⟩) ?_ ?_; rotate_left; (· intro w'; go_simp; with_reducible rfl); rotate_left; (· simp only [Act.put, sq]; rfl)
            refine done_ (done_of HT_.out (by kernel_rfl)) ?_
            try go_wp2
            go_meet
            case rel => exact ⟨_, (true), (by first | rfl | (simp; done) | (simp [*]; done)), H', ⟨by have := HJ4.out; first | omega | exact Nat.le_refl _⟩, ⟨by (with_reducible repeat (first | apply Kd.R_alloc | apply Kd.R_drewN | apply Kd.R_drew)); exact Kd.R_mono HO163.out (fun _ hk => by first | exact hk.1 | exact hk.2 | exact hk.1.2 | exact hk.1.1 | exact hk.1.1.2)⟩, ⟨by (with_reducible repeat (first | apply Kd.R_alloc | apply Kd.R_drewN | apply Kd.R_drew)); exact Kd.R_mono HO166.out (fun _ hk => by first | exact hk.1 | exact hk.2 | exact hk.1.2 | exact hk.1.1 | exact hk.1.1.2)⟩, ⟨Ls HB⟩⟩
        case rest =>
          clear HC12
          try clear c1; try clear c2; try clear p2; try clear hcv2; try clear c3; try clear hcv3; try clear c4; try clear c6; try clear c6b0; try clear c6b1; try clear c7; try clear c16; try clear c16b0; try clear c16b1; try clear c16b2; try clear c17; try clear c17b0; try clear c17b1; try clear c18; try clear c19; try clear c19b0; try clear c19b1; try clear c19b2; try clear c20; try clear hcv21; try clear hcv22; try clear hcv24; try clear hcv25; try clear hcv26; try clear hcv28; try clear hcv31; try clear hcv32; try clear hcv34; try clear p2
          obtain ⟨kq, x63_11, rfl, HA, HJ11, HO_9, HO_10, HB⟩ := hcut
          cases kq with
          | zero => exact absurd HA.out (by simp [trommellaw39_CodeInts.j1])
          | succ kj11 =>
            have H := HA.out
            clear HA
            simp only [trommellaw39_CodeInts.j1] at H
            by_cases c36 : x63_11 = true
            · subst c36
              have H1 : (some false) = some r := by rw [if_pos rfl] at H; exact H
              clear H
              have H := H1
              clear H1
              obtain rfl := Option.some.inj H
              go_wp2
              go_ret
              exact ⟨by first | rfl | (simp [errW_none, errW_some] <;> rfl) | (simp [*, errW_none, errW_some] <;> rfl), by repeat (first | (with_reducible first | exact HB.out | apply below_alloc | apply pw_below_drewN | apply below_drew1) | exact HB.out)⟩
            · replace c36 := Bool.eq_false_iff.mpr c36
              subst c36
              have H1 : ((code_GetInt.f t161 (l0.length : Int)).bind fun bt173 => ((code_GetInts.f kj11 t164 (l0.length : Int)).bind fun bt176 => (if bt173.2.2 = true then (if bt173.1 = a2 then (if bt173.2.1 = (t161.length : Int) then (if bt176.2.2 = true then ((trommelref21_SameList.f kj11 bt176.1 l3).bind fun t181 => (if t181 = true then (trommellaw39_CodeInts.j2 kj11 l0 a1 (bt176.2.1 != (t164.length : Int))) else (trommellaw39_CodeInts.j2 kj11 l0 a1 true))) else (trommellaw39_CodeInts.j2 kj11 l0 a1 true)) else (trommellaw39_CodeInts.j2 kj11 l0 a1 true)) else (trommellaw39_CodeInts.j2 kj11 l0 a1 true)) else (trommellaw39_CodeInts.j2 kj11 l0 a1 true)))) = some r := by rw [if_neg (show ¬ (false = true) by decide)] at H; exact H
              clear H
              have H := H1
              clear H1
              replace H := Option.bind_eq_some_iff.mp H
              obtain ⟨⟨t173, t174, t175⟩, A370, H⟩ := H
              replace H : ((code_GetInts.f kj11 t164 (l0.length : Int)).bind fun bt176 => (if t175 = true then (if t173 = a2 then (if t174 = (t161.length : Int) then (if bt176.2.2 = true then ((trommelref21_SameList.f kj11 bt176.1 l3).bind fun t181 => (if t181 = true then (trommellaw39_CodeInts.j2 kj11 l0 a1 (bt176.2.1 != (t164.length : Int))) else (trommellaw39_CodeInts.j2 kj11 l0 a1 true))) else (trommellaw39_CodeInts.j2 kj11 l0 a1 true)) else (trommellaw39_CodeInts.j2 kj11 l0 a1 true)) else (trommellaw39_CodeInts.j2 kj11 l0 a1 true)) else (trommellaw39_CodeInts.j2 kj11 l0 a1 true))) = some r := H
              have A37 := Aside0.mk A370
              clear A370
              replace H := Option.bind_eq_some_iff.mp H
              obtain ⟨⟨t176, t177, t178⟩, A380, H⟩ := H
              replace H : (if t175 = true then (if t173 = a2 then (if t174 = (t161.length : Int) then (if t178 = true then ((trommelref21_SameList.f kj11 t176 l3).bind fun t181 => (if t181 = true then (trommellaw39_CodeInts.j2 kj11 l0 a1 (t177 != (t164.length : Int))) else (trommellaw39_CodeInts.j2 kj11 l0 a1 true))) else (trommellaw39_CodeInts.j2 kj11 l0 a1 true)) else (trommellaw39_CodeInts.j2 kj11 l0 a1 true)) else (trommellaw39_CodeInts.j2 kj11 l0 a1 true)) else (trommellaw39_CodeInts.j2 kj11 l0 a1 true)) = some r := H
              have A38 := Aside0.mk A380
              clear A380
              have HC39 := Aside0.mk H
              clear H
              obtain ⟨Ao40, co40, eo40⟩ := Kd.R_slice HO_9.out
              subst eo40
              go_upto_region 8 with (first | ((with_reducible refine gate_callee (f := 21) rfl ?_); refine goesL_ (some 68) rfl rfl Try.func21 (by kernel_rfl) rfl #[.slice Ao40 t161.length co40, .int .i64 (l0.length : Int)] rfl (by (try simp only [List.map_toArray, List.map_cons, List.map_nil]); first | done | rfl | (simp only [List.length_drop, List.length_take]; rfl)) ?_; (with_reducible refine (code_GetInt.calls _ _ t161 (l0.length : Int) t173 t174 t175 _ ?side1 ?side2 A37.out).mono ?_); (case side1 => exact Cs (Kd.R_reads' HO_9.out).2.2); (case side2 => exact (Kd.R_reads' HO_9.out).2.1); rintro e w' ⟨rfl, ⟨nd, rfl⟩⟩; refine ⟨_, rfl, ?_⟩; obtain ⟨Ao41, co41, eo41⟩ := Kd.R_slice HO_10.out; subst eo41) | ((with_reducible refine gate_callee (f := 22) rfl ?_); refine goesL_ (some 76) rfl rfl Try.func22 (by kernel_rfl) rfl #[.slice Ao41 t164.length co41, .int .i64 (l0.length : Int)] rfl (by (try simp only [List.map_toArray, List.map_cons, List.map_nil]); first | done | rfl | (simp only [List.length_drop, List.length_take]; rfl)) ?_; (with_reducible refine (code_GetInts.calls kj11 _ _ t164 (l0.length : Int) t176 t177 t178 _ ?side1 ?side2 A38.out).mono ?_); (case side1 => exact Cs (Kd.R_reads' HO_10.out).2.2); (case side2 => exact (Kd.R_reads' HO_10.out).2.1); rintro e w42 ⟨v179, rfl, ho0, hb⟩; refine ⟨_, rfl, ?_⟩; have n0_ := Rb HO_9 hb; have n1_ := Rb HO_10 hb; have n2_ := Aside0.mk (Kd.R_lower ho0 (Lz HB)); have n3_ := Lb HB hb; clear HO_9 HO_10 HB; have HO_9 := n0_; have HO_10 := n1_; have HO180 := n2_; have HB := n3_; clear n0_ n1_ n2_ n3_; (try clear hb); (try clear hb2); (try clear hk); (try clear hi); (try clear ho0)))
              (try simp only [Act.put, List.setIfInBounds_toArray, List.set_cons_zero, List.set_cons_succ])
              go_cut [108] (fun v108 wc => ∃ (kq : Nat) (x108_38 : Bool), v108 = .bool x108_38 ∧ Aside0 (trommellaw39_CodeInts.j2 kq l0 a1 x108_38 = some r) ∧ Aside0 (kq ≤ kj11) ∧ Aside0 (Below w.heap.size w wc))
              case first =>
                have H := HC39.out
                clear HC39
                by_cases c43 : t175 = true
                · subst c43
                  have H1 : (if t173 = a2 then (if t174 = (t161.length : Int) then (if t178 = true then ((trommelref21_SameList.f kj11 t176 l3).bind fun t181 => (if t181 = true then (trommellaw39_CodeInts.j2 kj11 l0 a1 (t177 != (t164.length : Int))) else (trommellaw39_CodeInts.j2 kj11 l0 a1 true))) else (trommellaw39_CodeInts.j2 kj11 l0 a1 true)) else (trommellaw39_CodeInts.j2 kj11 l0 a1 true)) else (trommellaw39_CodeInts.j2 kj11 l0 a1 true)) = some r := by rw [if_pos rfl] at H; exact H
                  clear H
                  have H := H1
                  clear H1
                  by_cases c44 : t173 = a2
                  · rw [if_pos c44] at H
                    have c44b0 : (t173 == a2) = true := beq_iff_eq.mpr c44
                    have c44b1 : (t173 != a2) = false := bne_eq_false_iff_eq.mpr c44
                    clear c44
                    (first | rw [c44b0] | (simp only [i64_w, i32_w]; rw [c44b0]) | skip)
                    by_cases c45 : t174 = (t161.length : Int)
                    · rw [if_pos c45] at H
                      have c45b0 : (t174 == (t161.length : Int)) = true := beq_iff_eq.mpr c45
                      have c45b1 : (t174 != (t161.length : Int)) = false := bne_eq_false_iff_eq.mpr c45
                      clear c45
                      by_cases c46 : t178 = true
                      · subst c46
                        have H1 : ((trommelref21_SameList.f kj11 t176 l3).bind fun t181 => (if t181 = true then (trommellaw39_CodeInts.j2 kj11 l0 a1 (t177 != (t164.length : Int))) else (trommellaw39_CodeInts.j2 kj11 l0 a1 true))) = some r := by rw [if_pos rfl] at H; exact H
                        clear H
                        have H := H1
                        clear H1
                        replace H := Option.bind_eq_some_iff.mp H
                        obtain ⟨t181, A470, H⟩ := H
                        replace H : (if t181 = true then (trommellaw39_CodeInts.j2 kj11 l0 a1 (t177 != (t164.length : Int))) else (trommellaw39_CodeInts.j2 kj11 l0 a1 true)) = some r := H
                        have A47 := Aside0.mk A470
                        clear A470
                        by_cases c48 : t181 = true
                        · subst c48
                          have H1 : (trommellaw39_CodeInts.j2 kj11 l0 a1 (t177 != (t164.length : Int))) = some r := by rw [if_pos rfl] at H; exact H
                          clear H
                          have H := H1
                          clear H1
                          have H' := Aside0.mk H
                          clear H
                          obtain ⟨Ao49, co49, eo49⟩ := Kd.R_slice HO180.out
                          subst eo49
                          go_wp2_with (first | (go_at_call 23; (with_reducible refine (trommelref21_SameList.calls kj11 _ _ t176 _ _ l3 true _ ?side1 ?side2 ?side3 ?side4 A47.out).mono ?_); (case side1 => exact Cs (Kd.R_reads' HO180.out).2.2); (case side2 => exact (Kd.R_reads' HO180.out).2.1); (case side3 => repeat (first | exact (Kd.C_below HR3.out HB.out) | (with_reducible refine Kd.C_alloc ?_ _) | (with_reducible refine Kd.C_drewN ?_ _) | (with_reducible refine Kd.C_drew ?_))); (case side4 => exact HC3.out); rintro e w' ⟨rfl, ⟨nd, rfl⟩⟩))
                          go_meet
                          case rel => exact ⟨_, ((t177 != (t164.length : Int))), (by first | rfl | (simp; done) | (simp [*]; done)), H', ⟨by have := HJ4.out; have := HJ11.out; first | omega | exact Nat.le_refl _⟩, ⟨Ls HB⟩⟩
                        · replace c48 := Bool.eq_false_iff.mpr c48
                          subst c48
                          have H1 : (trommellaw39_CodeInts.j2 kj11 l0 a1 true) = some r := by rw [if_neg (show ¬ (false = true) by decide)] at H; exact H
                          clear H
                          have H := H1
                          clear H1
                          have H' := Aside0.mk H
                          clear H
                          obtain ⟨Ao50, co50, eo50⟩ := Kd.R_slice HO180.out
                          subst eo50
                          go_wp2_with (first | (go_at_call 23; (with_reducible refine (trommelref21_SameList.calls kj11 _ _ t176 _ _ l3 false _ ?side1 ?side2 ?side3 ?side4 A47.out).mono ?_); (case side1 => exact Cs (Kd.R_reads' HO180.out).2.2); (case side2 => exact (Kd.R_reads' HO180.out).2.1); (case side3 => repeat (first | exact (Kd.C_below HR3.out HB.out) | (with_reducible refine Kd.C_alloc ?_ _) | (with_reducible refine Kd.C_drewN ?_ _) | (with_reducible refine Kd.C_drew ?_))); (case side4 => exact HC3.out); rintro e w' ⟨rfl, ⟨nd, rfl⟩⟩))
                          go_meet
                          case rel => exact ⟨_, (true), (by first | rfl | (simp; done) | (simp [*]; done)), H', ⟨by have := HJ4.out; have := HJ11.out; first | omega | exact Nat.le_refl _⟩, ⟨Ls HB⟩⟩
                      · replace c46 := Bool.eq_false_iff.mpr c46
                        subst c46
                        have H1 : (trommellaw39_CodeInts.j2 kj11 l0 a1 true) = some r := by rw [if_neg (show ¬ (false = true) by decide)] at H; exact H
                        clear H
                        have H := H1
                        clear H1
                        have H' := Aside0.mk H
                        clear H
                        go_wp2
                        go_meet
                        case rel => exact ⟨_, (true), (by first | rfl | (simp; done) | (simp [*]; done)), H', ⟨by have := HJ4.out; have := HJ11.out; first | omega | exact Nat.le_refl _⟩, ⟨Ls HB⟩⟩
                    · rw [if_neg c45] at H
                      have c45b0 : (t174 == (t161.length : Int)) = false := beq_eq_false_iff_ne.mpr c45
                      have c45b1 : (t174 != (t161.length : Int)) = true := bne_iff_ne.mpr c45
                      have H' := Aside0.mk H
                      clear H
                      go_wp2
                      go_meet
                      case rel => exact ⟨_, (true), (by first | rfl | (simp; done) | (simp [*]; done)), H', ⟨by have := HJ4.out; have := HJ11.out; first | omega | exact Nat.le_refl _⟩, ⟨Ls HB⟩⟩
                  · rw [if_neg c44] at H
                    have c44b0 : (t173 == a2) = false := beq_eq_false_iff_ne.mpr c44
                    have c44b1 : (t173 != a2) = true := bne_iff_ne.mpr c44
                    (first | rw [c44b0] | (simp only [i64_w, i32_w]; rw [c44b0]) | skip)
                    have H' := Aside0.mk H
                    clear H
                    go_wp2
                    go_meet
                    case rel => exact ⟨_, (true), (by first | rfl | (simp; done) | (simp [*]; done)), H', ⟨by have := HJ4.out; have := HJ11.out; first | omega | exact Nat.le_refl _⟩, ⟨Ls HB⟩⟩
                · replace c43 := Bool.eq_false_iff.mpr c43
                  subst c43
                  have H1 : (trommellaw39_CodeInts.j2 kj11 l0 a1 true) = some r := by rw [if_neg (show ¬ (false = true) by decide)] at H; exact H
                  clear H
                  have H := H1
                  clear H1
                  have H' := Aside0.mk H
                  clear H
                  go_wp2
                  go_meet
                  case rel => exact ⟨_, (true), (by first | rfl | (simp; done) | (simp [*]; done)), H', ⟨by have := HJ4.out; have := HJ11.out; first | omega | exact Nat.le_refl _⟩, ⟨Ls HB⟩⟩
              case rest =>
                clear HC39
                try clear c1; try clear c2; try clear p2; try clear hcv2; try clear c3; try clear hcv3; try clear c4; try clear c6; try clear c6b0; try clear c6b1; try clear c7; try clear c16; try clear c16b0; try clear c16b1; try clear c16b2; try clear c17; try clear c17b0; try clear c17b1; try clear c18; try clear c19; try clear c19b0; try clear c19b1; try clear c19b2; try clear c20; try clear c21; try clear hcv21; try clear c22; try clear hcv22; try clear hcv24; try clear hcv25; try clear hcv26; try clear hcv28; try clear hcv31; try clear hcv32; try clear hcv34; try clear c36; try clear c43; try clear c44; try clear c44b0; try clear c44b1; try clear c45; try clear c45b0; try clear c45b1; try clear c46; try clear c48; try clear p2
                obtain ⟨kq, x108_38, rfl, HA, HJ38, HB⟩ := hcut
                cases kq with
                | zero => exact absurd HA.out (by simp [trommellaw39_CodeInts.j2])
                | succ kj38 =>
                  have H := HA.out
                  clear HA
                  simp only [trommellaw39_CodeInts.j2] at H
                  by_cases c51 : x108_38 = true
                  · subst c51
                    have H1 : (some false) = some r := by rw [if_pos rfl] at H; exact H
                    clear H
                    have H := H1
                    clear H1
                    obtain rfl := Option.some.inj H
                    go_wp2
                    go_ret
                    exact ⟨by first | rfl | (simp [errW_none, errW_some] <;> rfl) | (simp [*, errW_none, errW_some] <;> rfl), by repeat (first | (with_reducible first | exact HB.out | apply below_alloc | apply pw_below_drewN | apply below_drew1) | exact HB.out)⟩
                  · replace c51 := Bool.eq_false_iff.mpr c51
                    subst c51
                    have H1 : ((code_GetInt.f l0 a1).bind fun bt182 => ((trommelref39_GetInt.f kj38 l0 a1).bind fun bt185 => ((code_GetInts.f kj38 l0 a1).bind fun bt188 => ((trommelref39_GetInts.f kj38 l0 a1).bind fun bt193 => (if bt182.1 = bt185.1 then (if bt182.2.1 = bt185.2.1 then (if (bt182.2.2 == bt185.2.2) = true then ((trommelref21_SameList.f kj38 bt188.1 bt193.1).bind fun t198 => (if t198 = true then (if bt188.2.1 = bt193.2.1 then (if (bt188.2.2 == bt193.2.2) = true then ((trommellaw39_live.f).bind fun t199 => (some t199)) else (some false)) else (some false)) else (some false))) else (some false)) else (some false)) else (some false)))))) = some r := by rw [if_neg (show ¬ (false = true) by decide)] at H; exact H
                    clear H
                    have H := H1
                    clear H1
                    replace H := Option.bind_eq_some_iff.mp H
                    obtain ⟨⟨t182, t183, t184⟩, A520, H⟩ := H
                    replace H : ((trommelref39_GetInt.f kj38 l0 a1).bind fun bt185 => ((code_GetInts.f kj38 l0 a1).bind fun bt188 => ((trommelref39_GetInts.f kj38 l0 a1).bind fun bt193 => (if t182 = bt185.1 then (if t183 = bt185.2.1 then (if (t184 == bt185.2.2) = true then ((trommelref21_SameList.f kj38 bt188.1 bt193.1).bind fun t198 => (if t198 = true then (if bt188.2.1 = bt193.2.1 then (if (bt188.2.2 == bt193.2.2) = true then ((trommellaw39_live.f).bind fun t199 => (some t199)) else (some false)) else (some false)) else (some false))) else (some false)) else (some false)) else (some false))))) = some r := H
                    have A52 := Aside0.mk A520
                    clear A520
                    replace H := Option.bind_eq_some_iff.mp H
                    obtain ⟨⟨t185, t186, t187⟩, A530, H⟩ := H
                    replace H : ((code_GetInts.f kj38 l0 a1).bind fun bt188 => ((trommelref39_GetInts.f kj38 l0 a1).bind fun bt193 => (if t182 = t185 then (if t183 = t186 then (if (t184 == t187) = true then ((trommelref21_SameList.f kj38 bt188.1 bt193.1).bind fun t198 => (if t198 = true then (if bt188.2.1 = bt193.2.1 then (if (bt188.2.2 == bt193.2.2) = true then ((trommellaw39_live.f).bind fun t199 => (some t199)) else (some false)) else (some false)) else (some false))) else (some false)) else (some false)) else (some false)))) = some r := H
                    have A53 := Aside0.mk A530
                    clear A530
                    replace H := Option.bind_eq_some_iff.mp H
                    obtain ⟨⟨t188, t189, t190⟩, A540, H⟩ := H
                    replace H : ((trommelref39_GetInts.f kj38 l0 a1).bind fun bt193 => (if t182 = t185 then (if t183 = t186 then (if (t184 == t187) = true then ((trommelref21_SameList.f kj38 t188 bt193.1).bind fun t198 => (if t198 = true then (if t189 = bt193.2.1 then (if (t190 == bt193.2.2) = true then ((trommellaw39_live.f).bind fun t199 => (some t199)) else (some false)) else (some false)) else (some false))) else (some false)) else (some false)) else (some false))) = some r := H
                    have A54 := Aside0.mk A540
                    clear A540
                    replace H := Option.bind_eq_some_iff.mp H
                    obtain ⟨⟨t193, t194, t195⟩, A550, H⟩ := H
                    replace H : (if t182 = t185 then (if t183 = t186 then (if (t184 == t187) = true then ((trommelref21_SameList.f kj38 t188 t193).bind fun t198 => (if t198 = true then (if t189 = t194 then (if (t190 == t195) = true then ((trommellaw39_live.f).bind fun t199 => (some t199)) else (some false)) else (some false)) else (some false))) else (some false)) else (some false)) else (some false)) = some r := H
                    have A55 := Aside0.mk A550
                    clear A550
                    by_cases c56 : t182 = t185
                    · rw [if_pos c56] at H
                      have c56b0 : (t182 == t185) = true := beq_iff_eq.mpr c56
                      have c56b1 : (t182 != t185) = false := bne_eq_false_iff_eq.mpr c56
                      clear c56
                      by_cases c57 : t183 = t186
                      · rw [if_pos c57] at H
                        have c57b0 : (t183 == t186) = true := beq_iff_eq.mpr c57
                        have c57b1 : (t183 != t186) = false := bne_eq_false_iff_eq.mpr c57
                        clear c57
                        by_cases c58 : (t184 == t187) = true
                        · rw [if_pos c58] at H
                          have c58b0 : (t184 == t187) = true := c58
                          (try (have c58b1 : decide (t184 = t187) = true := by simpa using c58))
                          (try (have c58b2 : (t184 == t187) = true := by simpa using c58))
                          clear c58
                          replace H := Option.bind_eq_some_iff.mp H
                          obtain ⟨t198, A590, H⟩ := H
                          replace H : (if t198 = true then (if t189 = t194 then (if (t190 == t195) = true then ((trommellaw39_live.f).bind fun t199 => (some t199)) else (some false)) else (some false)) else (some false)) = some r := H
                          have A59 := Aside0.mk A590
                          clear A590
                          by_cases c60 : t198 = true
                          · subst c60
                            have H1 : (if t189 = t194 then (if (t190 == t195) = true then ((trommellaw39_live.f).bind fun t199 => (some t199)) else (some false)) else (some false)) = some r := by rw [if_pos rfl] at H; exact H
                            clear H
                            have H := H1
                            clear H1
                            by_cases c61 : t189 = t194
                            · rw [if_pos c61] at H
                              have c61b0 : (t189 == t194) = true := beq_iff_eq.mpr c61
                              have c61b1 : (t189 != t194) = false := bne_eq_false_iff_eq.mpr c61
                              clear c61
                              by_cases c62 : (t190 == t195) = true
                              · rw [if_pos c62] at H
                                have c62b0 : (t190 == t195) = true := c62
                                (try (have c62b1 : decide (t190 = t195) = true := by simpa using c62))
                                (try (have c62b2 : (t190 == t195) = true := by simpa using c62))
                                clear c62
                                replace H := Option.bind_eq_some_iff.mp H
                                obtain ⟨t199, A630, H⟩ := H
                                replace H : (some t199) = some r := H
                                have A63 := Aside0.mk A630
                                clear A630
                                obtain rfl := Option.some.inj H
                                go_wp2_with (first | ((with_reducible refine gate_callee (f := 21) rfl ?_); refine goesL_ (some 112) rfl rfl Try.func21 (by kernel_rfl) rfl #[.slice A0 l0.length c0, .int .i64 a1] rfl (by (try simp only [List.map_toArray, List.map_cons, List.map_nil]); first | done | rfl | (simp only [List.length_drop, List.length_take]; rfl)) ?_; (with_reducible refine (code_GetInt.calls _ _ l0 a1 t182 t183 t184 _ ?side1 ?side2 A52.out).mono ?_); (case side1 => repeat (first | exact (Kd.C_below HR0.out HB.out) | (with_reducible refine Kd.C_alloc ?_ _) | (with_reducible refine Kd.C_drewN ?_ _) | (with_reducible refine Kd.C_drew ?_))); (case side2 => exact HC0.out); rintro e w' ⟨rfl, ⟨nd, rfl⟩⟩; refine ⟨_, rfl, ?_⟩) | ((with_reducible refine gate_callee (f := 24) rfl ?_); refine goesL_ (some 119) rfl rfl Try.func24 (by kernel_rfl) rfl #[.slice A0 l0.length c0, .int .i64 a1] rfl (by (try simp only [List.map_toArray, List.map_cons, List.map_nil]); first | done | rfl | (simp only [List.length_drop, List.length_take]; rfl)) ?_; (with_reducible refine (trommelref39_GetInt.calls kj38 _ _ l0 a1 t185 t186 t187 _ ?side1 ?side2 A53.out).mono ?_); (case side1 => repeat (first | exact (Kd.C_below HR0.out (Ls HB)) | (with_reducible refine Kd.C_alloc ?_ _) | (with_reducible refine Kd.C_drewN ?_ _) | (with_reducible refine Kd.C_drew ?_))); (case side2 => exact HC0.out); rintro e w64 ⟨rfl, hb⟩; refine ⟨_, rfl, ?_⟩; have n0_ := Lb HB hb; clear HB; have HB := n0_; clear n0_; (try clear hb); (try clear hb2); (try clear hk); (try clear hi)) | ((with_reducible refine gate_callee (f := 22) rfl ?_); refine goesL_ (some 126) rfl rfl Try.func22 (by kernel_rfl) rfl #[.slice A0 l0.length c0, .int .i64 a1] rfl (by (try simp only [List.map_toArray, List.map_cons, List.map_nil]); first | done | rfl | (simp only [List.length_drop, List.length_take]; rfl)) ?_; (with_reducible refine (code_GetInts.calls kj38 _ _ l0 a1 t188 t189 t190 _ ?side1 ?side2 A54.out).mono ?_); (case side1 => repeat (first | exact (Kd.C_below HR0.out HB.out) | (with_reducible refine Kd.C_alloc ?_ _) | (with_reducible refine Kd.C_drewN ?_ _) | (with_reducible refine Kd.C_drew ?_))); (case side2 => exact HC0.out); rintro e w65 ⟨v191, rfl, ho0, hb⟩; refine ⟨_, rfl, ?_⟩; have n0_ := Aside0.mk (Kd.R_lower ho0 (Lz HB)); have n1_ := Lb HB hb; clear HB; have HO192 := n0_; have HB := n1_; clear n0_ n1_; (try clear hb); (try clear hb2); (try clear hk); (try clear hi); (try clear ho0)) | ((with_reducible refine gate_callee (f := 25) rfl ?_); refine goesL_ (some 133) rfl rfl Try.func25 (by kernel_rfl) rfl #[.slice A0 l0.length c0, .int .i64 a1] rfl (by (try simp only [List.map_toArray, List.map_cons, List.map_nil]); first | done | rfl | (simp only [List.length_drop, List.length_take]; rfl)) ?_; (with_reducible refine (trommelref39_GetInts.calls kj38 _ _ l0 a1 t193 t194 t195 _ ?side1 ?side2 A55.out).mono ?_); (case side1 => repeat (first | exact (Kd.C_below HR0.out HB.out) | (with_reducible refine Kd.C_alloc ?_ _) | (with_reducible refine Kd.C_drewN ?_ _) | (with_reducible refine Kd.C_drew ?_))); (case side2 => exact HC0.out); rintro e w66 ⟨v196, rfl, ho0, hb⟩; refine ⟨_, rfl, ?_⟩; have n0_ := Aside0.mk (Kd.R_elder' (Rs HO192.out) (Kd.R_base ho0) hb); have n1_ := Aside0.mk (Kd.R_lower (Kd.R_new' ho0 (Kd.R_lt (Rs HO192.out))) (Lz HB)); have n2_ := Lb HB hb; clear HO192 HB; have HO192 := n0_; have HO197 := n1_; have HB := n2_; clear n0_ n1_ n2_; (try clear hb); (try clear hb2); (try clear hk); (try clear hi); (try clear ho0); obtain ⟨Ao67, co67, eo67⟩ := Kd.R_slice HO192.out; subst eo67; obtain ⟨Ao68, co68, eo68⟩ := Kd.R_slice HO197.out; subst eo68) | (go_at_call 23; (with_reducible refine (trommelref21_SameList.calls kj38 _ _ t188 _ _ t193 true _ ?side1 ?side2 ?side3 ?side4 A59.out).mono ?_); (case side1 => exact Cs (Kd.R_reads' HO192.out).2.2); (case side2 => exact (Kd.R_reads' HO192.out).2.1); (case side3 => exact Cs (Kd.R_reads' HO197.out).2.2); (case side4 => exact (Kd.R_reads' HO197.out).2.1); rintro e w' ⟨rfl, ⟨nd, rfl⟩⟩) | (go_at_call 16; (with_reducible refine (trommellaw39_live.calls  t199 _ A63.out).mono ?_); rintro e w69 ⟨rfl, hb⟩; have n0_ := Rb HO192 hb; have n1_ := Rb HO197 hb; have n2_ := Lb HB hb; clear HO192 HO197 HB; have HO192 := n0_; have HO197 := n1_; have HB := n2_; clear n0_ n1_ n2_; (try clear hb); (try clear hb2); (try clear hk); (try clear hi)))
                                go_ret
                                exact ⟨by first | rfl | (simp [errW_none, errW_some] <;> rfl) | (simp [*, errW_none, errW_some] <;> rfl), by repeat (first | (with_reducible first | exact HB.out | apply below_alloc | apply pw_below_drewN | apply below_drew1) | exact HB.out)⟩
                              · rw [if_neg c62] at H
                                have c62b0 : (t190 == t195) = false := by simpa using c62
                                (try (have c62b1 : decide (t190 = t195) = false := by simpa using c62))
                                (try (have c62b2 : (t190 == t195) = false := by simpa using c62))
                                (try (have c62b3 : ¬ (t190 = t195) := by simpa using c62))
                                clear c62
                                obtain rfl := Option.some.inj H
                                go_wp2_with (first | ((with_reducible refine gate_callee (f := 21) rfl ?_); refine goesL_ (some 112) rfl rfl Try.func21 (by kernel_rfl) rfl #[.slice A0 l0.length c0, .int .i64 a1] rfl (by (try simp only [List.map_toArray, List.map_cons, List.map_nil]); first | done | rfl | (simp only [List.length_drop, List.length_take]; rfl)) ?_; (with_reducible refine (code_GetInt.calls _ _ l0 a1 t182 t183 t184 _ ?side1 ?side2 A52.out).mono ?_); (case side1 => repeat (first | exact (Kd.C_below HR0.out HB.out) | (with_reducible refine Kd.C_alloc ?_ _) | (with_reducible refine Kd.C_drewN ?_ _) | (with_reducible refine Kd.C_drew ?_))); (case side2 => exact HC0.out); rintro e w' ⟨rfl, ⟨nd, rfl⟩⟩; refine ⟨_, rfl, ?_⟩) | ((with_reducible refine gate_callee (f := 24) rfl ?_); refine goesL_ (some 119) rfl rfl Try.func24 (by kernel_rfl) rfl #[.slice A0 l0.length c0, .int .i64 a1] rfl (by (try simp only [List.map_toArray, List.map_cons, List.map_nil]); first | done | rfl | (simp only [List.length_drop, List.length_take]; rfl)) ?_; (with_reducible refine (trommelref39_GetInt.calls kj38 _ _ l0 a1 t185 t186 t187 _ ?side1 ?side2 A53.out).mono ?_); (case side1 => repeat (first | exact (Kd.C_below HR0.out (Ls HB)) | (with_reducible refine Kd.C_alloc ?_ _) | (with_reducible refine Kd.C_drewN ?_ _) | (with_reducible refine Kd.C_drew ?_))); (case side2 => exact HC0.out); rintro e w70 ⟨rfl, hb⟩; refine ⟨_, rfl, ?_⟩; have n0_ := Lb HB hb; clear HB; have HB := n0_; clear n0_; (try clear hb); (try clear hb2); (try clear hk); (try clear hi)) | ((with_reducible refine gate_callee (f := 22) rfl ?_); refine goesL_ (some 126) rfl rfl Try.func22 (by kernel_rfl) rfl #[.slice A0 l0.length c0, .int .i64 a1] rfl (by (try simp only [List.map_toArray, List.map_cons, List.map_nil]); first | done | rfl | (simp only [List.length_drop, List.length_take]; rfl)) ?_; (with_reducible refine (code_GetInts.calls kj38 _ _ l0 a1 t188 t189 t190 _ ?side1 ?side2 A54.out).mono ?_); (case side1 => repeat (first | exact (Kd.C_below HR0.out HB.out) | (with_reducible refine Kd.C_alloc ?_ _) | (with_reducible refine Kd.C_drewN ?_ _) | (with_reducible refine Kd.C_drew ?_))); (case side2 => exact HC0.out); rintro e w71 ⟨v191, rfl, ho0, hb⟩; refine ⟨_, rfl, ?_⟩; have n0_ := Aside0.mk (Kd.R_lower ho0 (Lz HB)); have n1_ := Lb HB hb; clear HB; have HO192 := n0_; have HB := n1_; clear n0_ n1_; (try clear hb); (try clear hb2); (try clear hk); (try clear hi); (try clear ho0)) | ((with_reducible refine gate_callee (f := 25) rfl ?_); refine goesL_ (some 133) rfl rfl Try.func25 (by kernel_rfl) rfl #[.slice A0 l0.length c0, .int .i64 a1] rfl (by (try simp only [List.map_toArray, List.map_cons, List.map_nil]); first | done | rfl | (simp only [List.length_drop, List.length_take]; rfl)) ?_; (with_reducible refine (trommelref39_GetInts.calls kj38 _ _ l0 a1 t193 t194 t195 _ ?side1 ?side2 A55.out).mono ?_); (case side1 => repeat (first | exact (Kd.C_below HR0.out HB.out) | (with_reducible refine Kd.C_alloc ?_ _) | (with_reducible refine Kd.C_drewN ?_ _) | (with_reducible refine Kd.C_drew ?_))); (case side2 => exact HC0.out); rintro e w72 ⟨v196, rfl, ho0, hb⟩; refine ⟨_, rfl, ?_⟩; have n0_ := Aside0.mk (Kd.R_elder' (Rs HO192.out) (Kd.R_base ho0) hb); have n1_ := Aside0.mk (Kd.R_lower (Kd.R_new' ho0 (Kd.R_lt (Rs HO192.out))) (Lz HB)); have n2_ := Lb HB hb; clear HO192 HB; have HO192 := n0_; have HO197 := n1_; have HB := n2_; clear n0_ n1_ n2_; (try clear hb); (try clear hb2); (try clear hk); (try clear hi); (try clear ho0); obtain ⟨Ao73, co73, eo73⟩ := Kd.R_slice HO192.out; subst eo73; obtain ⟨Ao74, co74, eo74⟩ := Kd.R_slice HO197.out; subst eo74) | (go_at_call 23; (with_reducible refine (trommelref21_SameList.calls kj38 _ _ t188 _ _ t193 true _ ?side1 ?side2 ?side3 ?side4 A59.out).mono ?_); (case side1 => exact Cs (Kd.R_reads' HO192.out).2.2); (case side2 => exact (Kd.R_reads' HO192.out).2.1); (case side3 => exact Cs (Kd.R_reads' HO197.out).2.2); (case side4 => exact (Kd.R_reads' HO197.out).2.1); rintro e w' ⟨rfl, ⟨nd, rfl⟩⟩))
                                go_ret
                                exact ⟨by first | rfl | (simp [errW_none, errW_some] <;> rfl) | (simp [*, errW_none, errW_some] <;> rfl), by repeat (first | (with_reducible first | exact HB.out | apply below_alloc | apply pw_below_drewN | apply below_drew1) | exact HB.out)⟩
                            · rw [if_neg c61] at H
                              have c61b0 : (t189 == t194) = false := beq_eq_false_iff_ne.mpr c61
                              have c61b1 : (t189 != t194) = true := bne_iff_ne.mpr c61
                              obtain rfl := Option.some.inj H
                              go_wp2_with (first | ((with_reducible refine gate_callee (f := 21) rfl ?_); refine goesL_ (some 112) rfl rfl Try.func21 (by kernel_rfl) rfl #[.slice A0 l0.length c0, .int .i64 a1] rfl (by (try simp only [List.map_toArray, List.map_cons, List.map_nil]); first | done | rfl | (simp only [List.length_drop, List.length_take]; rfl)) ?_; (with_reducible refine (code_GetInt.calls _ _ l0 a1 t182 t183 t184 _ ?side1 ?side2 A52.out).mono ?_); (case side1 => repeat (first | exact (Kd.C_below HR0.out HB.out) | (with_reducible refine Kd.C_alloc ?_ _) | (with_reducible refine Kd.C_drewN ?_ _) | (with_reducible refine Kd.C_drew ?_))); (case side2 => exact HC0.out); rintro e w' ⟨rfl, ⟨nd, rfl⟩⟩; refine ⟨_, rfl, ?_⟩) | ((with_reducible refine gate_callee (f := 24) rfl ?_); refine goesL_ (some 119) rfl rfl Try.func24 (by kernel_rfl) rfl #[.slice A0 l0.length c0, .int .i64 a1] rfl (by (try simp only [List.map_toArray, List.map_cons, List.map_nil]); first | done | rfl | (simp only [List.length_drop, List.length_take]; rfl)) ?_; (with_reducible refine (trommelref39_GetInt.calls kj38 _ _ l0 a1 t185 t186 t187 _ ?side1 ?side2 A53.out).mono ?_); (case side1 => repeat (first | exact (Kd.C_below HR0.out (Ls HB)) | (with_reducible refine Kd.C_alloc ?_ _) | (with_reducible refine Kd.C_drewN ?_ _) | (with_reducible refine Kd.C_drew ?_))); (case side2 => exact HC0.out); rintro e w75 ⟨rfl, hb⟩; refine ⟨_, rfl, ?_⟩; have n0_ := Lb HB hb; clear HB; have HB := n0_; clear n0_; (try clear hb); (try clear hb2); (try clear hk); (try clear hi)) | ((with_reducible refine gate_callee (f := 22) rfl ?_); refine goesL_ (some 126) rfl rfl Try.func22 (by kernel_rfl) rfl #[.slice A0 l0.length c0, .int .i64 a1] rfl (by (try simp only [List.map_toArray, List.map_cons, List.map_nil]); first | done | rfl | (simp only [List.length_drop, List.length_take]; rfl)) ?_; (with_reducible refine (code_GetInts.calls kj38 _ _ l0 a1 t188 t189 t190 _ ?side1 ?side2 A54.out).mono ?_); (case side1 => repeat (first | exact (Kd.C_below HR0.out HB.out) | (with_reducible refine Kd.C_alloc ?_ _) | (with_reducible refine Kd.C_drewN ?_ _) | (with_reducible refine Kd.C_drew ?_))); (case side2 => exact HC0.out); rintro e w76 ⟨v191, rfl, ho0, hb⟩; refine ⟨_, rfl, ?_⟩; have n0_ := Aside0.mk (Kd.R_lower ho0 (Lz HB)); have n1_ := Lb HB hb; clear HB; have HO192 := n0_; have HB := n1_; clear n0_ n1_; (try clear hb); (try clear hb2); (try clear hk); (try clear hi); (try clear ho0)) | ((with_reducible refine gate_callee (f := 25) rfl ?_); refine goesL_ (some 133) rfl rfl Try.func25 (by kernel_rfl) rfl #[.slice A0 l0.length c0, .int .i64 a1] rfl (by (try simp only [List.map_toArray, List.map_cons, List.map_nil]); first | done | rfl | (simp only [List.length_drop, List.length_take]; rfl)) ?_; (with_reducible refine (trommelref39_GetInts.calls kj38 _ _ l0 a1 t193 t194 t195 _ ?side1 ?side2 A55.out).mono ?_); (case side1 => repeat (first | exact (Kd.C_below HR0.out HB.out) | (with_reducible refine Kd.C_alloc ?_ _) | (with_reducible refine Kd.C_drewN ?_ _) | (with_reducible refine Kd.C_drew ?_))); (case side2 => exact HC0.out); rintro e w77 ⟨v196, rfl, ho0, hb⟩; refine ⟨_, rfl, ?_⟩; have n0_ := Aside0.mk (Kd.R_elder' (Rs HO192.out) (Kd.R_base ho0) hb); have n1_ := Aside0.mk (Kd.R_lower (Kd.R_new' ho0 (Kd.R_lt (Rs HO192.out))) (Lz HB)); have n2_ := Lb HB hb; clear HO192 HB; have HO192 := n0_; have HO197 := n1_; have HB := n2_; clear n0_ n1_ n2_; (try clear hb); (try clear hb2); (try clear hk); (try clear hi); (try clear ho0); obtain ⟨Ao78, co78, eo78⟩ := Kd.R_slice HO192.out; subst eo78; obtain ⟨Ao79, co79, eo79⟩ := Kd.R_slice HO197.out; subst eo79) | (go_at_call 23; (with_reducible refine (trommelref21_SameList.calls kj38 _ _ t188 _ _ t193 true _ ?side1 ?side2 ?side3 ?side4 A59.out).mono ?_); (case side1 => exact Cs (Kd.R_reads' HO192.out).2.2); (case side2 => exact (Kd.R_reads' HO192.out).2.1); (case side3 => exact Cs (Kd.R_reads' HO197.out).2.2); (case side4 => exact (Kd.R_reads' HO197.out).2.1); rintro e w' ⟨rfl, ⟨nd, rfl⟩⟩))
                              go_ret
                              exact ⟨by first | rfl | (simp [errW_none, errW_some] <;> rfl) | (simp [*, errW_none, errW_some] <;> rfl), by repeat (first | (with_reducible first | exact HB.out | apply below_alloc | apply pw_below_drewN | apply below_drew1) | exact HB.out)⟩
                          · replace c60 := Bool.eq_false_iff.mpr c60
                            subst c60
                            have H1 : (some false) = some r := by rw [if_neg (show ¬ (false = true) by decide)] at H; exact H
                            clear H
                            have H := H1
                            clear H1
                            obtain rfl := Option.some.inj H
                            go_wp2_with (first | ((with_reducible refine gate_callee (f := 21) rfl ?_); refine goesL_ (some 112) rfl rfl Try.func21 (by kernel_rfl) rfl #[.slice A0 l0.length c0, .int .i64 a1] rfl (by (try simp only [List.map_toArray, List.map_cons, List.map_nil]); first | done | rfl | (simp only [List.length_drop, List.length_take]; rfl)) ?_; (with_reducible refine (code_GetInt.calls _ _ l0 a1 t182 t183 t184 _ ?side1 ?side2 A52.out).mono ?_); (case side1 => repeat (first | exact (Kd.C_below HR0.out HB.out) | (with_reducible refine Kd.C_alloc ?_ _) | (with_reducible refine Kd.C_drewN ?_ _) | (with_reducible refine Kd.C_drew ?_))); (case side2 => exact HC0.out); rintro e w' ⟨rfl, ⟨nd, rfl⟩⟩; refine ⟨_, rfl, ?_⟩) | ((with_reducible refine gate_callee (f := 24) rfl ?_); refine goesL_ (some 119) rfl rfl Try.func24 (by kernel_rfl) rfl #[.slice A0 l0.length c0, .int .i64 a1] rfl (by (try simp only [List.map_toArray, List.map_cons, List.map_nil]); first | done | rfl | (simp only [List.length_drop, List.length_take]; rfl)) ?_; (with_reducible refine (trommelref39_GetInt.calls kj38 _ _ l0 a1 t185 t186 t187 _ ?side1 ?side2 A53.out).mono ?_); (case side1 => repeat (first | exact (Kd.C_below HR0.out (Ls HB)) | (with_reducible refine Kd.C_alloc ?_ _) | (with_reducible refine Kd.C_drewN ?_ _) | (with_reducible refine Kd.C_drew ?_))); (case side2 => exact HC0.out); rintro e w80 ⟨rfl, hb⟩; refine ⟨_, rfl, ?_⟩; have n0_ := Lb HB hb; clear HB; have HB := n0_; clear n0_; (try clear hb); (try clear hb2); (try clear hk); (try clear hi)) | ((with_reducible refine gate_callee (f := 22) rfl ?_); refine goesL_ (some 126) rfl rfl Try.func22 (by kernel_rfl) rfl #[.slice A0 l0.length c0, .int .i64 a1] rfl (by (try simp only [List.map_toArray, List.map_cons, List.map_nil]); first | done | rfl | (simp only [List.length_drop, List.length_take]; rfl)) ?_; (with_reducible refine (code_GetInts.calls kj38 _ _ l0 a1 t188 t189 t190 _ ?side1 ?side2 A54.out).mono ?_); (case side1 => repeat (first | exact (Kd.C_below HR0.out HB.out) | (with_reducible refine Kd.C_alloc ?_ _) | (with_reducible refine Kd.C_drewN ?_ _) | (with_reducible refine Kd.C_drew ?_))); (case side2 => exact HC0.out); rintro e w81 ⟨v191, rfl, ho0, hb⟩; refine ⟨_, rfl, ?_⟩; have n0_ := Aside0.mk (Kd.R_lower ho0 (Lz HB)); have n1_ := Lb HB hb; clear HB; have HO192 := n0_; have HB := n1_; clear n0_ n1_; (try clear hb); (try clear hb2); (try clear hk); (try clear hi); (try clear ho0)) | ((with_reducible refine gate_callee (f := 25) rfl ?_); refine goesL_ (some 133) rfl rfl Try.func25 (by kernel_rfl) rfl #[.slice A0 l0.length c0, .int .i64 a1] rfl (by (try simp only [List.map_toArray, List.map_cons, List.map_nil]); first | done | rfl | (simp only [List.length_drop, List.length_take]; rfl)) ?_; (with_reducible refine (trommelref39_GetInts.calls kj38 _ _ l0 a1 t193 t194 t195 _ ?side1 ?side2 A55.out).mono ?_); (case side1 => repeat (first | exact (Kd.C_below HR0.out HB.out) | (with_reducible refine Kd.C_alloc ?_ _) | (with_reducible refine Kd.C_drewN ?_ _) | (with_reducible refine Kd.C_drew ?_))); (case side2 => exact HC0.out); rintro e w82 ⟨v196, rfl, ho0, hb⟩; refine ⟨_, rfl, ?_⟩; have n0_ := Aside0.mk (Kd.R_elder' (Rs HO192.out) (Kd.R_base ho0) hb); have n1_ := Aside0.mk (Kd.R_lower (Kd.R_new' ho0 (Kd.R_lt (Rs HO192.out))) (Lz HB)); have n2_ := Lb HB hb; clear HO192 HB; have HO192 := n0_; have HO197 := n1_; have HB := n2_; clear n0_ n1_ n2_; (try clear hb); (try clear hb2); (try clear hk); (try clear hi); (try clear ho0); obtain ⟨Ao83, co83, eo83⟩ := Kd.R_slice HO192.out; subst eo83; obtain ⟨Ao84, co84, eo84⟩ := Kd.R_slice HO197.out; subst eo84) | (go_at_call 23; (with_reducible refine (trommelref21_SameList.calls kj38 _ _ t188 _ _ t193 false _ ?side1 ?side2 ?side3 ?side4 A59.out).mono ?_); (case side1 => exact Cs (Kd.R_reads' HO192.out).2.2); (case side2 => exact (Kd.R_reads' HO192.out).2.1); (case side3 => exact Cs (Kd.R_reads' HO197.out).2.2); (case side4 => exact (Kd.R_reads' HO197.out).2.1); rintro e w' ⟨rfl, ⟨nd, rfl⟩⟩))
                            go_ret
                            exact ⟨by first | rfl | (simp [errW_none, errW_some] <;> rfl) | (simp [*, errW_none, errW_some] <;> rfl), by repeat (first | (with_reducible first | exact HB.out | apply below_alloc | apply pw_below_drewN | apply below_drew1) | exact HB.out)⟩
                        · rw [if_neg c58] at H
                          have c58b0 : (t184 == t187) = false := by simpa using c58
                          (try (have c58b1 : decide (t184 = t187) = false := by simpa using c58))
                          (try (have c58b2 : (t184 == t187) = false := by simpa using c58))
                          (try (have c58b3 : ¬ (t184 = t187) := by simpa using c58))
                          clear c58
                          obtain rfl := Option.some.inj H
                          go_wp2_with (first | ((with_reducible refine gate_callee (f := 21) rfl ?_); refine goesL_ (some 112) rfl rfl Try.func21 (by kernel_rfl) rfl #[.slice A0 l0.length c0, .int .i64 a1] rfl (by (try simp only [List.map_toArray, List.map_cons, List.map_nil]); first | done | rfl | (simp only [List.length_drop, List.length_take]; rfl)) ?_; (with_reducible refine (code_GetInt.calls _ _ l0 a1 t182 t183 t184 _ ?side1 ?side2 A52.out).mono ?_); (case side1 => repeat (first | exact (Kd.C_below HR0.out HB.out) | (with_reducible refine Kd.C_alloc ?_ _) | (with_reducible refine Kd.C_drewN ?_ _) | (with_reducible refine Kd.C_drew ?_))); (case side2 => exact HC0.out); rintro e w' ⟨rfl, ⟨nd, rfl⟩⟩; refine ⟨_, rfl, ?_⟩) | ((with_reducible refine gate_callee (f := 24) rfl ?_); refine goesL_ (some 119) rfl rfl Try.func24 (by kernel_rfl) rfl #[.slice A0 l0.length c0, .int .i64 a1] rfl (by (try simp only [List.map_toArray, List.map_cons, List.map_nil]); first | done | rfl | (simp only [List.length_drop, List.length_take]; rfl)) ?_; (with_reducible refine (trommelref39_GetInt.calls kj38 _ _ l0 a1 t185 t186 t187 _ ?side1 ?side2 A53.out).mono ?_); (case side1 => repeat (first | exact (Kd.C_below HR0.out (Ls HB)) | (with_reducible refine Kd.C_alloc ?_ _) | (with_reducible refine Kd.C_drewN ?_ _) | (with_reducible refine Kd.C_drew ?_))); (case side2 => exact HC0.out); rintro e w85 ⟨rfl, hb⟩; refine ⟨_, rfl, ?_⟩; have n0_ := Lb HB hb; clear HB; have HB := n0_; clear n0_; (try clear hb); (try clear hb2); (try clear hk); (try clear hi)) | ((with_reducible refine gate_callee (f := 22) rfl ?_); refine goesL_ (some 126) rfl rfl Try.func22 (by kernel_rfl) rfl #[.slice A0 l0.length c0, .int .i64 a1] rfl (by (try simp only [List.map_toArray, List.map_cons, List.map_nil]); first | done | rfl | (simp only [List.length_drop, List.length_take]; rfl)) ?_; (with_reducible refine (code_GetInts.calls kj38 _ _ l0 a1 t188 t189 t190 _ ?side1 ?side2 A54.out).mono ?_); (case side1 => repeat (first | exact (Kd.C_below HR0.out HB.out) | (with_reducible refine Kd.C_alloc ?_ _) | (with_reducible refine Kd.C_drewN ?_ _) | (with_reducible refine Kd.C_drew ?_))); (case side2 => exact HC0.out); rintro e w86 ⟨v191, rfl, ho0, hb⟩; refine ⟨_, rfl, ?_⟩; have n0_ := Aside0.mk (Kd.R_lower ho0 (Lz HB)); have n1_ := Lb HB hb; clear HB; have HO192 := n0_; have HB := n1_; clear n0_ n1_; (try clear hb); (try clear hb2); (try clear hk); (try clear hi); (try clear ho0)) | ((with_reducible refine gate_callee (f := 25) rfl ?_); refine goesL_ (some 133) rfl rfl Try.func25 (by kernel_rfl) rfl #[.slice A0 l0.length c0, .int .i64 a1] rfl (by (try simp only [List.map_toArray, List.map_cons, List.map_nil]); first | done | rfl | (simp only [List.length_drop, List.length_take]; rfl)) ?_; (with_reducible refine (trommelref39_GetInts.calls kj38 _ _ l0 a1 t193 t194 t195 _ ?side1 ?side2 A55.out).mono ?_); (case side1 => repeat (first | exact (Kd.C_below HR0.out HB.out) | (with_reducible refine Kd.C_alloc ?_ _) | (with_reducible refine Kd.C_drewN ?_ _) | (with_reducible refine Kd.C_drew ?_))); (case side2 => exact HC0.out); rintro e w87 ⟨v196, rfl, ho0, hb⟩; refine ⟨_, rfl, ?_⟩; have n0_ := Aside0.mk (Kd.R_elder' (Rs HO192.out) (Kd.R_base ho0) hb); have n1_ := Aside0.mk (Kd.R_lower (Kd.R_new' ho0 (Kd.R_lt (Rs HO192.out))) (Lz HB)); have n2_ := Lb HB hb; clear HO192 HB; have HO192 := n0_; have HO197 := n1_; have HB := n2_; clear n0_ n1_ n2_; (try clear hb); (try clear hb2); (try clear hk); (try clear hi); (try clear ho0)))
                          go_ret
                          exact ⟨by first | rfl | (simp [errW_none, errW_some] <;> rfl) | (simp [*, errW_none, errW_some] <;> rfl), by repeat (first | (with_reducible first | exact HB.out | apply below_alloc | apply pw_below_drewN | apply below_drew1) | exact HB.out)⟩
                      · rw [if_neg c57] at H
                        have c57b0 : (t183 == t186) = false := beq_eq_false_iff_ne.mpr c57
                        have c57b1 : (t183 != t186) = true := bne_iff_ne.mpr c57
                        obtain rfl := Option.some.inj H
                        go_wp2_with (first | ((with_reducible refine gate_callee (f := 21) rfl ?_); refine goesL_ (some 112) rfl rfl Try.func21 (by kernel_rfl) rfl #[.slice A0 l0.length c0, .int .i64 a1] rfl (by (try simp only [List.map_toArray, List.map_cons, List.map_nil]); first | done | rfl | (simp only [List.length_drop, List.length_take]; rfl)) ?_; (with_reducible refine (code_GetInt.calls _ _ l0 a1 t182 t183 t184 _ ?side1 ?side2 A52.out).mono ?_); (case side1 => repeat (first | exact (Kd.C_below HR0.out HB.out) | (with_reducible refine Kd.C_alloc ?_ _) | (with_reducible refine Kd.C_drewN ?_ _) | (with_reducible refine Kd.C_drew ?_))); (case side2 => exact HC0.out); rintro e w' ⟨rfl, ⟨nd, rfl⟩⟩; refine ⟨_, rfl, ?_⟩) | ((with_reducible refine gate_callee (f := 24) rfl ?_); refine goesL_ (some 119) rfl rfl Try.func24 (by kernel_rfl) rfl #[.slice A0 l0.length c0, .int .i64 a1] rfl (by (try simp only [List.map_toArray, List.map_cons, List.map_nil]); first | done | rfl | (simp only [List.length_drop, List.length_take]; rfl)) ?_; (with_reducible refine (trommelref39_GetInt.calls kj38 _ _ l0 a1 t185 t186 t187 _ ?side1 ?side2 A53.out).mono ?_); (case side1 => repeat (first | exact (Kd.C_below HR0.out (Ls HB)) | (with_reducible refine Kd.C_alloc ?_ _) | (with_reducible refine Kd.C_drewN ?_ _) | (with_reducible refine Kd.C_drew ?_))); (case side2 => exact HC0.out); rintro e w88 ⟨rfl, hb⟩; refine ⟨_, rfl, ?_⟩; have n0_ := Lb HB hb; clear HB; have HB := n0_; clear n0_; (try clear hb); (try clear hb2); (try clear hk); (try clear hi)) | ((with_reducible refine gate_callee (f := 22) rfl ?_); refine goesL_ (some 126) rfl rfl Try.func22 (by kernel_rfl) rfl #[.slice A0 l0.length c0, .int .i64 a1] rfl (by (try simp only [List.map_toArray, List.map_cons, List.map_nil]); first | done | rfl | (simp only [List.length_drop, List.length_take]; rfl)) ?_; (with_reducible refine (code_GetInts.calls kj38 _ _ l0 a1 t188 t189 t190 _ ?side1 ?side2 A54.out).mono ?_); (case side1 => repeat (first | exact (Kd.C_below HR0.out HB.out) | (with_reducible refine Kd.C_alloc ?_ _) | (with_reducible refine Kd.C_drewN ?_ _) | (with_reducible refine Kd.C_drew ?_))); (case side2 => exact HC0.out); rintro e w89 ⟨v191, rfl, ho0, hb⟩; refine ⟨_, rfl, ?_⟩; have n0_ := Aside0.mk (Kd.R_lower ho0 (Lz HB)); have n1_ := Lb HB hb; clear HB; have HO192 := n0_; have HB := n1_; clear n0_ n1_; (try clear hb); (try clear hb2); (try clear hk); (try clear hi); (try clear ho0)) | ((with_reducible refine gate_callee (f := 25) rfl ?_); refine goesL_ (some 133) rfl rfl Try.func25 (by kernel_rfl) rfl #[.slice A0 l0.length c0, .int .i64 a1] rfl (by (try simp only [List.map_toArray, List.map_cons, List.map_nil]); first | done | rfl | (simp only [List.length_drop, List.length_take]; rfl)) ?_; (with_reducible refine (trommelref39_GetInts.calls kj38 _ _ l0 a1 t193 t194 t195 _ ?side1 ?side2 A55.out).mono ?_); (case side1 => repeat (first | exact (Kd.C_below HR0.out HB.out) | (with_reducible refine Kd.C_alloc ?_ _) | (with_reducible refine Kd.C_drewN ?_ _) | (with_reducible refine Kd.C_drew ?_))); (case side2 => exact HC0.out); rintro e w90 ⟨v196, rfl, ho0, hb⟩; refine ⟨_, rfl, ?_⟩; have n0_ := Aside0.mk (Kd.R_elder' (Rs HO192.out) (Kd.R_base ho0) hb); have n1_ := Aside0.mk (Kd.R_lower (Kd.R_new' ho0 (Kd.R_lt (Rs HO192.out))) (Lz HB)); have n2_ := Lb HB hb; clear HO192 HB; have HO192 := n0_; have HO197 := n1_; have HB := n2_; clear n0_ n1_ n2_; (try clear hb); (try clear hb2); (try clear hk); (try clear hi); (try clear ho0)))
                        go_ret
                        exact ⟨by first | rfl | (simp [errW_none, errW_some] <;> rfl) | (simp [*, errW_none, errW_some] <;> rfl), by repeat (first | (with_reducible first | exact HB.out | apply below_alloc | apply pw_below_drewN | apply below_drew1) | exact HB.out)⟩
                    · rw [if_neg c56] at H
                      have c56b0 : (t182 == t185) = false := beq_eq_false_iff_ne.mpr c56
                      have c56b1 : (t182 != t185) = true := bne_iff_ne.mpr c56
                      obtain rfl := Option.some.inj H
                      go_wp2_with (first | ((with_reducible refine gate_callee (f := 21) rfl ?_); refine goesL_ (some 112) rfl rfl Try.func21 (by kernel_rfl) rfl #[.slice A0 l0.length c0, .int .i64 a1] rfl (by (try simp only [List.map_toArray, List.map_cons, List.map_nil]); first | done | rfl | (simp only [List.length_drop, List.length_take]; rfl)) ?_; (with_reducible refine (code_GetInt.calls _ _ l0 a1 t182 t183 t184 _ ?side1 ?side2 A52.out).mono ?_); (case side1 => repeat (first | exact (Kd.C_below HR0.out HB.out) | (with_reducible refine Kd.C_alloc ?_ _) | (with_reducible refine Kd.C_drewN ?_ _) | (with_reducible refine Kd.C_drew ?_))); (case side2 => exact HC0.out); rintro e w' ⟨rfl, ⟨nd, rfl⟩⟩; refine ⟨_, rfl, ?_⟩) | ((with_reducible refine gate_callee (f := 24) rfl ?_); refine goesL_ (some 119) rfl rfl Try.func24 (by kernel_rfl) rfl #[.slice A0 l0.length c0, .int .i64 a1] rfl (by (try simp only [List.map_toArray, List.map_cons, List.map_nil]); first | done | rfl | (simp only [List.length_drop, List.length_take]; rfl)) ?_; (with_reducible refine (trommelref39_GetInt.calls kj38 _ _ l0 a1 t185 t186 t187 _ ?side1 ?side2 A53.out).mono ?_); (case side1 => repeat (first | exact (Kd.C_below HR0.out (Ls HB)) | (with_reducible refine Kd.C_alloc ?_ _) | (with_reducible refine Kd.C_drewN ?_ _) | (with_reducible refine Kd.C_drew ?_))); (case side2 => exact HC0.out); rintro e w91 ⟨rfl, hb⟩; refine ⟨_, rfl, ?_⟩; have n0_ := Lb HB hb; clear HB; have HB := n0_; clear n0_; (try clear hb); (try clear hb2); (try clear hk); (try clear hi)) | ((with_reducible refine gate_callee (f := 22) rfl ?_); refine goesL_ (some 126) rfl rfl Try.func22 (by kernel_rfl) rfl #[.slice A0 l0.length c0, .int .i64 a1] rfl (by (try simp only [List.map_toArray, List.map_cons, List.map_nil]); first | done | rfl | (simp only [List.length_drop, List.length_take]; rfl)) ?_; (with_reducible refine (code_GetInts.calls kj38 _ _ l0 a1 t188 t189 t190 _ ?side1 ?side2 A54.out).mono ?_); (case side1 => repeat (first | exact (Kd.C_below HR0.out HB.out) | (with_reducible refine Kd.C_alloc ?_ _) | (with_reducible refine Kd.C_drewN ?_ _) | (with_reducible refine Kd.C_drew ?_))); (case side2 => exact HC0.out); rintro e w92 ⟨v191, rfl, ho0, hb⟩; refine ⟨_, rfl, ?_⟩; have n0_ := Aside0.mk (Kd.R_lower ho0 (Lz HB)); have n1_ := Lb HB hb; clear HB; have HO192 := n0_; have HB := n1_; clear n0_ n1_; (try clear hb); (try clear hb2); (try clear hk); (try clear hi); (try clear ho0)) | ((with_reducible refine gate_callee (f := 25) rfl ?_); refine goesL_ (some 133) rfl rfl Try.func25 (by kernel_rfl) rfl #[.slice A0 l0.length c0, .int .i64 a1] rfl (by (try simp only [List.map_toArray, List.map_cons, List.map_nil]); first | done | rfl | (simp only [List.length_drop, List.length_take]; rfl)) ?_; (with_reducible refine (trommelref39_GetInts.calls kj38 _ _ l0 a1 t193 t194 t195 _ ?side1 ?side2 A55.out).mono ?_); (case side1 => repeat (first | exact (Kd.C_below HR0.out HB.out) | (with_reducible refine Kd.C_alloc ?_ _) | (with_reducible refine Kd.C_drewN ?_ _) | (with_reducible refine Kd.C_drew ?_))); (case side2 => exact HC0.out); rintro e w93 ⟨v196, rfl, ho0, hb⟩; refine ⟨_, rfl, ?_⟩; have n0_ := Aside0.mk (Kd.R_elder' (Rs HO192.out) (Kd.R_base ho0) hb); have n1_ := Aside0.mk (Kd.R_lower (Kd.R_new' ho0 (Kd.R_lt (Rs HO192.out))) (Lz HB)); have n2_ := Lb HB hb; clear HO192 HB; have HO192 := n0_; have HO197 := n1_; have HB := n2_; clear n0_ n1_ n2_; (try clear hb); (try clear hb2); (try clear hk); (try clear hi); (try clear ho0)))
                      go_ret
                      exact ⟨by first | rfl | (simp [errW_none, errW_some] <;> rfl) | (simp [*, errW_none, errW_some] <;> rfl), by repeat (first | (with_reducible first | exact HB.out | apply below_alloc | apply pw_below_drewN | apply below_drew1) | exact HB.out)⟩

/-- THE ONE PURE STATEMENT of trommellaw39_CodeInts: yours. -/
def trommellaw39_CodeInts.Pure : Prop := ∀ (l0 : List Int) (a1 : Int) (a2 : Int) (l3 : List Int), l0.length ≤ maxLen → l0.length * 1 ≤ 140737488351232 → (∀ x ∈ l0, (Lit.int .u8 x).wf = true) → (Lit.int .i64 a1).wf = true → (Lit.int .i64 a2).wf = true → l3.length ≤ maxLen → l3.length * 8 ≤ 140737488351232 → (∀ x ∈ l3, (Lit.int .i64 x).wf = true) → ∃ k, trommellaw39_CodeInts.f k l0 a1 a2 l3 = some true
theorem trommellaw39_CodeInts.walk (P : trommellaw39_CodeInts.Pure) (a0 : Option Addr) (len0 cap0 : Nat) (z0 : List Int) (a1 : Int) (a2 : Int) (a3 : Option Addr) (len3 cap3 : Nat) (z3 : List Int) (w : World) (w0 : (a0 = none ∧ len0 = 0 ∧ cap0 = 0 ∧ z0 = []) ∨ ∃ x, a0 = some x ∧ len0 ≤ cap0 ∧ cap0 ≤ maxLen ∧ z0.length = cap0 ∧ (∀ i, i < z0.length → w.cell? (x.add i) = some (.int .u8 (z0.getD i 0))) ∧ ∀ n ∈ z0, (Lit.int .u8 n).wf = true) (y0 : len0 * 1 ≤ 140737488351232) (w1 : (Lit.int .i64 a1).wf = true) (w2 : (Lit.int .i64 a2).wf = true) (w3 : (a3 = none ∧ len3 = 0 ∧ cap3 = 0 ∧ z3 = []) ∨ ∃ x, a3 = some x ∧ len3 ≤ cap3 ∧ cap3 ≤ maxLen ∧ z3.length = cap3 ∧ (∀ i, i < z3.length → w.cell? (x.add i) = some (.int .i64 (z3.getD i 0))) ∧ ∀ n ∈ z3, (Lit.int .i64 n).wf = true) (y3 : len3 * 8 ≤ 140737488351232) :
    Calls Try.prog 4 #[.slice a0 len0 cap0, .int .i64 a1, .int .i64 a2, .slice a3 len3 cap3] w fun e w' => e = .returned (.bool true) ∧ Below w.heap.size w w' := by
  obtain ⟨l0, rfl, hr0, hm0, hw0, hc0⟩ := ReadsInt.ofRowC w0
  obtain ⟨l3, rfl, hr3, hm3, hw3, hc3⟩ := ReadsInt.ofRowC w3
  obtain ⟨k, h⟩ := P l0 a1 a2 l3 hm0 y0 hw0 w1 w2 hm3 y3 hw3
  refine (trommellaw39_CodeInts.calls k _ _ l0 a1 a2 _ _ l3 true w (Kd.C_of_reads (d := (0 : Int)) (h1 := fun _ => rfl) hr0) hc0 (Kd.C_of_reads (d := (0 : Int)) (h1 := fun _ => rfl) hr3) hc3 h).mono ?_
  rintro e w' ⟨rfl, hd⟩
  exact ⟨rfl, hd⟩

end Go.Proofs.Ytobfhacdljmooaa.PCodeI
