-- written for this claim by wip/pr/hand.py (the kit's print, with contracts proved by hand)
import Derived.Test.YtobfhacdljmooaaPCodePx0
import Derived.Test.YtobfhacdljmooaaSq
import Derived.Test.YtobfhacdljmooaaPCodePx6
namespace Go.Proofs.Ytobfhacdljmooaa.PCodeP
open Go.RowKit Go.Proofs.YtobfhacdljmooaaW.PrintWords Go.Proofs.YtobfhacdljmooaaW.PrintLast Go.Proofs.YtobfhacdljmooaaW.PrintMore Go.Proofs.Ytobfhacdljmooaa.Sq
attribute [local go_sem] max2_int min2_int max_two min_two max_three min_three max_four min_four   -- for this text's walks alone
set_option linter.unusedVariables false
set_option linter.unusedSimpArgs false

/-! ### trommelref39_GetInt: function 24 -/
mutual
def trommelref39_GetInt.j0 : Nat → List Int → Int → Bool → Option (Int × Int × Bool)
  | 0, _, _, _ => none
  | k + 1, x0, x1, x18 => if x18 = true then (some (0, 0, false)) else (trommelref39_GetInt.l0 k x0 x1 x1)
def trommelref39_GetInt.j2 : Nat → List Int → Int → Int → Option (Int × Int × Bool)
  | 0, _, _, _ => none
  | k + 1, x0, x1, x7 => if x7 = (x0.length : Int) then (trommelref39_GetInt.j3 k x0 x1 x7 true) else (trommelref39_GetInt.j3 k x0 x1 x7 (x7 == (wrap64 (x1 + 10))))
def trommelref39_GetInt.j3 : Nat → List Int → Int → Int → Bool → Option (Int × Int × Bool)
  | 0, _, _, _, _ => none
  | k + 1, x0, x1, x7, x48 => if x48 = true then (some (0, 0, false)) else (trommelref39_GetInt.l1 k x0 x1 x7 0 x7)
def trommelref39_GetInt.l1 : Nat → List Int → Int → Int → Int → Int → Option (Int × Int × Bool)
  | 0, _, _, _, _, _ => none
  | k + 1, x0, x1, x7, x8, x9 => if x9 ≥ x1 then (if 0 ≤ x9 then (if x9 < (x0.length : Int) then (trommelref39_GetInt.l1 k x0 x1 x7 (IntKind.u64.wrap ((IntKind.u64.wrap (x8 * 128)) + (IntKind.u64.wrap (Int.tmod (rd x0 x9) 128)))) (wrap64 (x9 - 1))) else (none)) else (none)) else (if (Int.tmod x8 2) = 1 then ((trommelref39_Int.f (wrap64 ((wrap64 (-(wrap64 (IntKind.u64.wrap (Int.tdiv x8 2))))) - 1))).bind fun t352 => (if 0 ≤ x1 then (if x1 ≤ (wrap64 (x7 + 1)) then (if (wrap64 (x7 + 1)) ≤ (x0.length : Int) then (if (strOfNums t352).toList = (strOfNums ((x0.take ((wrap64 (x7 + 1)) : Int).toNat).drop (x1 : Int).toNat)).toList then (some (wrap64 ((wrap64 (-(wrap64 (IntKind.u64.wrap (Int.tdiv x8 2))))) - 1), wrap64 (x7 + 1), true)) else (some (0, 0, false))) else (none)) else (none)) else (none))) else ((trommelref39_Int.f (wrap64 (IntKind.u64.wrap (Int.tdiv x8 2)))).bind fun t356 => (if 0 ≤ x1 then (if x1 ≤ (wrap64 (x7 + 1)) then (if (wrap64 (x7 + 1)) ≤ (x0.length : Int) then (if (strOfNums t356).toList = (strOfNums ((x0.take ((wrap64 (x7 + 1)) : Int).toNat).drop (x1 : Int).toNat)).toList then (some (wrap64 (IntKind.u64.wrap (Int.tdiv x8 2)), wrap64 (x7 + 1), true)) else (some (0, 0, false))) else (none)) else (none)) else (none))))
def trommelref39_GetInt.l0 : Nat → List Int → Int → Int → Option (Int × Int × Bool)
  | 0, _, _, _ => none
  | k + 1, x0, x1, x7 => if x7 < (x0.length : Int) then (if x7 < (wrap64 (x1 + 10)) then (if 0 ≤ x7 then (if (rd x0 x7) > 127 then (trommelref39_GetInt.l0 k x0 x1 (wrap64 (x7 + 1))) else (trommelref39_GetInt.j2 k x0 x1 x7)) else (none)) else (trommelref39_GetInt.j2 k x0 x1 x7)) else (trommelref39_GetInt.j2 k x0 x1 x7)
end
def trommelref39_GetInt.f (k : Nat) (l0 : List Int) (a1 : Int) : Option (Int × Int × Bool) := if a1 < 0 then (trommelref39_GetInt.j0 k l0 a1 true) else (trommelref39_GetInt.j0 k l0 a1 (decide (a1 ≥ (l0.length : Int))))
theorem trommelref39_GetInt.mono_l : ∀ k, (∀ y0 y1 y2, LeO (trommelref39_GetInt.j0 k y0 y1 y2) (trommelref39_GetInt.j0 (k + 1) y0 y1 y2)) ∧ (∀ y0 y1 y2, LeO (trommelref39_GetInt.j2 k y0 y1 y2) (trommelref39_GetInt.j2 (k + 1) y0 y1 y2)) ∧ (∀ y0 y1 y2 y3, LeO (trommelref39_GetInt.j3 k y0 y1 y2 y3) (trommelref39_GetInt.j3 (k + 1) y0 y1 y2 y3)) ∧ (∀ y0 y1 y2 y3 y4, LeO (trommelref39_GetInt.l1 k y0 y1 y2 y3 y4) (trommelref39_GetInt.l1 (k + 1) y0 y1 y2 y3 y4)) ∧ (∀ y0 y1 y2, LeO (trommelref39_GetInt.l0 k y0 y1 y2) (trommelref39_GetInt.l0 (k + 1) y0 y1 y2))
  | 0 => ⟨fun _ _ _ r h => by simp [trommelref39_GetInt.j0] at h, fun _ _ _ r h => by simp [trommelref39_GetInt.j2] at h, fun _ _ _ _ r h => by simp [trommelref39_GetInt.j3] at h, fun _ _ _ _ _ r h => by simp [trommelref39_GetInt.l1] at h, fun _ _ _ r h => by simp [trommelref39_GetInt.l0] at h⟩
  | k + 1 => by
    obtain ⟨ih0, ih1, ih2, ih3, ih4⟩ := trommelref39_GetInt.mono_l k
    refine ⟨?_, ?_, ?_, ?_, ?_⟩
    · intro y0 y1 y2
      unfold trommelref39_GetInt.j0
      repeat' first
      | (with_reducible exact ih0 _ _ _)
      | (with_reducible exact ih1 _ _ _)
      | (with_reducible exact ih2 _ _ _ _)
      | (with_reducible exact ih3 _ _ _ _ _)
      | (with_reducible exact ih4 _ _ _)
      | (with_reducible exact LeO.refl _)
      | (with_reducible exact LeO.none _)
      | (with_reducible refine LeO.ite ?_ ?_)
      | (with_reducible refine LeO.bind ?_ (fun _ => ?_))
      | exact ih0 _ _ _
      | exact ih1 _ _ _
      | exact ih2 _ _ _ _
      | exact ih3 _ _ _ _ _
      | exact ih4 _ _ _
      | exact LeO.none _
      | refine LeO.ite ?_ ?_
      | refine LeO.bind ?_ (fun _ => ?_)
    · intro y0 y1 y2
      unfold trommelref39_GetInt.j2
      repeat' first
      | (with_reducible exact ih0 _ _ _)
      | (with_reducible exact ih1 _ _ _)
      | (with_reducible exact ih2 _ _ _ _)
      | (with_reducible exact ih3 _ _ _ _ _)
      | (with_reducible exact ih4 _ _ _)
      | (with_reducible exact LeO.refl _)
      | (with_reducible exact LeO.none _)
      | (with_reducible refine LeO.ite ?_ ?_)
      | (with_reducible refine LeO.bind ?_ (fun _ => ?_))
      | exact ih0 _ _ _
      | exact ih1 _ _ _
      | exact ih2 _ _ _ _
      | exact ih3 _ _ _ _ _
      | exact ih4 _ _ _
      | exact LeO.none _
      | refine LeO.ite ?_ ?_
      | refine LeO.bind ?_ (fun _ => ?_)
    · intro y0 y1 y2 y3
      unfold trommelref39_GetInt.j3
      repeat' first
      | (with_reducible exact ih0 _ _ _)
      | (with_reducible exact ih1 _ _ _)
      | (with_reducible exact ih2 _ _ _ _)
      | (with_reducible exact ih3 _ _ _ _ _)
      | (with_reducible exact ih4 _ _ _)
      | (with_reducible exact LeO.refl _)
      | (with_reducible exact LeO.none _)
      | (with_reducible refine LeO.ite ?_ ?_)
      | (with_reducible refine LeO.bind ?_ (fun _ => ?_))
      | exact ih0 _ _ _
      | exact ih1 _ _ _
      | exact ih2 _ _ _ _
      | exact ih3 _ _ _ _ _
      | exact ih4 _ _ _
      | exact LeO.none _
      | refine LeO.ite ?_ ?_
      | refine LeO.bind ?_ (fun _ => ?_)
    · intro y0 y1 y2 y3 y4
      unfold trommelref39_GetInt.l1
      repeat' first
      | (with_reducible exact ih0 _ _ _)
      | (with_reducible exact ih1 _ _ _)
      | (with_reducible exact ih2 _ _ _ _)
      | (with_reducible exact ih3 _ _ _ _ _)
      | (with_reducible exact ih4 _ _ _)
      | (with_reducible exact LeO.refl _)
      | (with_reducible exact LeO.none _)
      | (with_reducible refine LeO.ite ?_ ?_)
      | (with_reducible refine LeO.bind ?_ (fun _ => ?_))
      | exact ih0 _ _ _
      | exact ih1 _ _ _
      | exact ih2 _ _ _ _
      | exact ih3 _ _ _ _ _
      | exact ih4 _ _ _
      | exact LeO.none _
      | refine LeO.ite ?_ ?_
      | refine LeO.bind ?_ (fun _ => ?_)
    · intro y0 y1 y2
      unfold trommelref39_GetInt.l0
      repeat' first
      | (with_reducible exact ih0 _ _ _)
      | (with_reducible exact ih1 _ _ _)
      | (with_reducible exact ih2 _ _ _ _)
      | (with_reducible exact ih3 _ _ _ _ _)
      | (with_reducible exact ih4 _ _ _)
      | (with_reducible exact LeO.refl _)
      | (with_reducible exact LeO.none _)
      | (with_reducible refine LeO.ite ?_ ?_)
      | (with_reducible refine LeO.bind ?_ (fun _ => ?_))
      | exact ih0 _ _ _
      | exact ih1 _ _ _
      | exact ih2 _ _ _ _
      | exact ih3 _ _ _ _ _
      | exact ih4 _ _ _
      | exact LeO.none _
      | refine LeO.ite ?_ ?_
      | refine LeO.bind ?_ (fun _ => ?_)
theorem trommelref39_GetInt.mono : ∀ a0 a1 k, LeO (trommelref39_GetInt.f k a0 a1) (trommelref39_GetInt.f (k + 1) a0 a1) := by
  intro a0 a1 k
  obtain ⟨ih0, ih1, ih2, ih3, ih4⟩ := trommelref39_GetInt.mono_l k
  unfold trommelref39_GetInt.f
  repeat' first
      | (with_reducible exact ih0 _ _ _)
      | (with_reducible exact ih1 _ _ _)
      | (with_reducible exact ih2 _ _ _ _)
      | (with_reducible exact ih3 _ _ _ _ _)
      | (with_reducible exact ih4 _ _ _)
      | (with_reducible exact LeO.refl _)
      | (with_reducible exact LeO.none _)
      | (with_reducible refine LeO.ite ?_ ?_)
      | (with_reducible refine LeO.bind ?_ (fun _ => ?_))
      | exact ih0 _ _ _
      | exact ih1 _ _ _
      | exact ih2 _ _ _ _
      | exact ih3 _ _ _ _ _
      | exact ih4 _ _ _
      | exact LeO.none _
      | refine LeO.ite ?_ ?_
      | refine LeO.bind ?_ (fun _ => ?_)
def trommelref39_GetInt.T16 : Bool × List (List Nat × List Nat) := (true, [([], []), ([0], [0]), ([1], [1]), ([], []), ([], []), ([], []), ([5], [5]), ([3, 4, 6], [3, 4, 6]), ([7], [7]), ([2, 8], [2, 8])])
def trommelref39_GetInt.B16 : List Nat := [0, 1, 3, 0, 0, 0, 32, 120, 248, 511]
theorem trommelref39_GetInt.tab16 : rtab .any (opsOf Try.f24 16) = trommelref39_GetInt.T16 := by kernel_rfl
theorem trommelref39_GetInt.bits16 : waitsOk trommelref39_GetInt.T16.2 trommelref39_GetInt.B16 = true := by kernel_rfl
set_option maxHeartbeats 8000000 in
set_option maxRecDepth 100000 in
theorem trommelref39_GetInt.calls (k : Nat) (A0 : Option Addr) (c0 : Nat) (l0 : List Int) (a1 : Int) (r1 : Int) (r2 : Int) (r3 : Bool) (w : World) (hr0 : Kd.C (Kd.int .u8) w A0 l0.length l0) (hc0 : l0.length ≤ c0) (h : trommelref39_GetInt.f k l0 a1 = some (r1, r2, r3)) :
    Calls Try.prog 24 #[.slice A0 l0.length c0, .int .i64 a1] w fun e w' => e = .returned (.tuple #[.int .i64 r1, .int .i64 r2, .bool r3]) ∧ Below w.heap.size w w' := by
  have HR0 := Aside0.mk hr0
  have HC0 := Aside0.mk hc0
  clear hr0 hc0
  have HB := Aside0.mk (Below.refl w.heap.size w)
  have H : (if a1 < 0 then (trommelref39_GetInt.j0 k l0 a1 true) else (trommelref39_GetInt.j0 k l0 a1 (decide (a1 ≥ (l0.length : Int))))) = some (r1, r2, r3) := h
  clear h
  have HC3 := Aside0.mk H
  clear H
  go_enter Try.func24, Try.ntmps24
  go_upto_region 1 with (fail)
  go_cut [18] (fun v18 wc => ∃ (kq : Nat) (x18_2 : Bool), v18 = .bool x18_2 ∧ Aside0 (trommelref39_GetInt.j0 kq l0 a1 x18_2 = some (r1, r2, r3)) ∧ Aside0 (kq ≤ k) ∧ Aside0 (Below w.heap.size w wc))
  case first =>
    have H := HC3.out
    clear HC3
    by_cases c4 : a1 < 0
    · rw [if_pos c4] at H
      have c4b0 : decide (a1 < 0) = true := decide_eq_true c4
      clear c4
      (first | rw [c4b0] | (simp only [i64_w, i32_w]; rw [c4b0]) | skip)
      have H' := Aside0.mk H
      clear H
      go_wp2
      go_meet
      case rel => exact ⟨_, (true), (by first | rfl | (simp; done) | (simp [*]; done)), H', ⟨by first | omega | exact Nat.le_refl _⟩, ⟨Ls HB⟩⟩
    · rw [if_neg c4] at H
      have c4b0 : decide (a1 < 0) = false := decide_eq_false c4
      clear c4
      (first | rw [c4b0] | (simp only [i64_w, i32_w]; rw [c4b0]) | skip)
      have H' := Aside0.mk H
      clear H
      go_wp2
      go_meet
      case rel => exact ⟨_, (decide (a1 ≥ (l0.length : Int))), (by first | rfl | (simp; done) | (simp [*]; done)), H', ⟨by first | omega | exact Nat.le_refl _⟩, ⟨Ls HB⟩⟩
  case rest =>
    clear HC3
    try clear c2; try clear p2; try clear c4; try clear c4b0
    obtain ⟨kq, x18_2, rfl, HA, HJ2, HB⟩ := hcut
    cases kq with
    | zero => exact absurd HA.out (by simp [trommelref39_GetInt.j0])
    | succ kj2 =>
      have H := HA.out
      clear HA
      simp only [trommelref39_GetInt.j0] at H
      by_cases c5 : x18_2 = true
      · subst c5
        have H1 : (some (0, 0, false)) = some (r1, r2, r3) := by rw [if_pos rfl] at H; exact H
        clear H
        have H := H1
        clear H1
        simp only [Option.some.injEq, Prod.mk.injEq] at H
        obtain ⟨rfl, rfl, rfl⟩ := H
        go_wp2
        go_ret3
        exact ⟨by first | rfl | (simp [errW_none, errW_some] <;> rfl) | (simp [*, errW_none, errW_some] <;> rfl), by repeat (first | (with_reducible first | exact HB.out | apply below_alloc | apply pw_below_drewN | apply below_drew1) | exact HB.out)⟩
      · replace c5 := Bool.eq_false_iff.mpr c5
        subst c5
        have H1 : (trommelref39_GetInt.l0 kj2 l0 a1 a1) = some (r1, r2, r3) := by rw [if_neg (show ¬ (false = true) by decide)] at H; exact H
        clear H
        have H := H1
        clear H1
        have HC6 := Aside0.mk H
        clear H
        go_upto_block 0 with (fail)
        go_cut [7] (fun v7 wc => ∃ (kq : Nat) (x7_5 : Int), v7 = .int .i64 x7_5 ∧ Aside0 (trommelref39_GetInt.j2 kq l0 a1 x7_5 = some (r1, r2, r3)) ∧ Aside0 (kq ≤ kj2) ∧ Aside0 (Below w.heap.size w wc))
        case first =>
          have H := HC6.out
          clear HC6
          have H' := Aside0.mk H
          clear H
          go_wp2
          go_loopg [7] kj2 (fun kq v7 w' => ∃ (x7_2 : Int), v7 = .int .i64 x7_2 ∧ Aside0 (trommelref39_GetInt.l0 kq l0 a1 x7_2 = some (r1, r2, r3)) ∧ Aside0 (kq ≤ kj2) ∧ Aside0 (Below w.heap.size w w'))
          case atStart => exact ⟨(a1), (by first | rfl | (simp; done) | (simp [*]; done)), H', ⟨Nat.le_refl _⟩, ⟨Ls HB⟩⟩
          case round =>
            clear H'
            try clear c2; try clear p2; try clear c4; try clear c4b0; try clear c5; try clear p2
            obtain ⟨x7_2, rfl, HA, HK2, HB⟩ := hrel
            cases gk with
            | zero => exact absurd HA.out (by simp [trommelref39_GetInt.l0])
            | succ k2 =>
              have H := HA.out
              clear HA
              simp only [trommelref39_GetInt.l0] at H
              by_cases c7 : x7_2 < (l0.length : Int)
              · rw [if_pos c7] at H
                have c7b0 : decide (x7_2 < (l0.length : Int)) = true := decide_eq_true c7
                clear c7
                (first | rw [c7b0] | (simp only [i64_w, i32_w]; rw [c7b0]) | skip)
                by_cases c8 : x7_2 < (wrap64 (a1 + 10))
                · rw [if_pos c8] at H
                  have c8b0 : decide (x7_2 < (wrap64 (a1 + 10))) = true := decide_eq_true c8
                  clear c8
                  refine bc (p := (0 ≤ x7_2)) (fun c9 => ?_) (fun c9 => ?_)
                  · rw [if_neg c9] at H
                    exact absurd H (by simp)
                  rw [if_pos c9] at H
                  have c9b0 : decide (0 ≤ x7_2) = true := decide_eq_true c9
                  clear c9
                  by_cases c10 : (rd l0 x7_2) > 127
                  · rw [if_pos c10] at H
                    have c10b0 : decide (127 < (rd l0 x7_2)) = true := decide_eq_true c10
                    clear c10
                    have H' := Aside0.mk H
                    clear H
                    have p350 : 0 ≤ (x7_2 : Int) := of_decide_eq_true (by first | (with_reducible assumption) | assumption)
                    have q350 : x7_2 < (l0.length : Int) := of_decide_eq_true (by first | (with_reducible assumption) | assumption)
                    obtain ⟨ad350, e350, hx350_0⟩ := Kd.at_int HR0.out x7_2 p350 q350
                    cases e350
                    replace hx350_0 := (HB.out.cell (World.block_lt_of_cell? w _ hx350_0)).trans hx350_0
                    replace p350 := eq_true p350
                    replace q350 := eq_true q350
                    go_wp2
                    go_roundg k2
                    case measure => have := HJ2.out; have := HK2.out; omega
                    case rel => exact ⟨(wrap64 (x7_2 + 1)), (by first | rfl | (simp; done) | (simp [*]; done)), H', ⟨by have := HJ2.out; have := HK2.out; omega⟩, ⟨Ls HB⟩⟩
                  · rw [if_neg c10] at H
                    have c10b0 : decide (127 < (rd l0 x7_2)) = false := decide_eq_false c10
                    clear c10
                    have H' := Aside0.mk H
                    clear H
                    have p350 : 0 ≤ (x7_2 : Int) := of_decide_eq_true (by first | (with_reducible assumption) | assumption)
                    have q350 : x7_2 < (l0.length : Int) := of_decide_eq_true (by first | (with_reducible assumption) | assumption)
                    obtain ⟨ad350, e350, hx350_0⟩ := Kd.at_int HR0.out x7_2 p350 q350
                    cases e350
                    replace hx350_0 := (HB.out.cell (World.block_lt_of_cell? w _ hx350_0)).trans hx350_0
                    replace p350 := eq_true p350
                    replace q350 := eq_true q350
                    go_wp2
                    go_meet
                    case rel => exact ⟨_, (x7_2), (by first | rfl | (simp; done) | (simp [*]; done)), H', ⟨by have := HJ2.out; have := HK2.out; first | omega | exact Nat.le_refl _⟩, ⟨Ls HB⟩⟩
                · rw [if_neg c8] at H
                  have c8b0 : decide (x7_2 < (wrap64 (a1 + 10))) = false := decide_eq_false c8
                  clear c8
                  have H' := Aside0.mk H
                  clear H
                  go_wp2
                  go_meet
                  case rel => exact ⟨_, (x7_2), (by first | rfl | (simp; done) | (simp [*]; done)), H', ⟨by have := HJ2.out; have := HK2.out; first | omega | exact Nat.le_refl _⟩, ⟨Ls HB⟩⟩
              · rw [if_neg c7] at H
                have c7b0 : decide (x7_2 < (l0.length : Int)) = false := decide_eq_false c7
                clear c7
                (first | rw [c7b0] | (simp only [i64_w, i32_w]; rw [c7b0]) | skip)
                have H' := Aside0.mk H
                clear H
                go_wp2
                go_meet
                case rel => exact ⟨_, (x7_2), (by first | rfl | (simp; done) | (simp [*]; done)), H', ⟨by have := HJ2.out; have := HK2.out; first | omega | exact Nat.le_refl _⟩, ⟨Ls HB⟩⟩
        case rest =>
          clear HC6
          try clear c1; try clear c2; try clear p2; try clear p3; try clear q3; try clear hx3; try clear c4; try clear c4b0; try clear c5; try clear p6; try clear c7; try clear c7b0; try clear c8; try clear c8b0; try clear c9; try clear c9b0; try clear c10; try clear c10b0; try clear hx350_0; try clear p2; try clear p350; try clear q350
          obtain ⟨kq, x7_5, rfl, HA, HJ5, HB⟩ := hcut
          cases kq with
          | zero => exact absurd HA.out (by simp [trommelref39_GetInt.j2])
          | succ kj5 =>
            have H := HA.out
            clear HA
            simp only [trommelref39_GetInt.j2] at H
            have HC11 := Aside0.mk H
            clear H
            go_upto_region 6 with (fail)
            go_cut [48] (fun v48 wc => ∃ (kq : Nat) (x48_10 : Bool), v48 = .bool x48_10 ∧ Aside0 (trommelref39_GetInt.j3 kq l0 a1 x7_5 x48_10 = some (r1, r2, r3)) ∧ Aside0 (kq ≤ kj5) ∧ Aside0 (Below w.heap.size w wc))
            case first =>
              have H := HC11.out
              clear HC11
              by_cases c12 : x7_5 = (l0.length : Int)
              · rw [if_pos c12] at H
                have c12b0 : (x7_5 == (l0.length : Int)) = true := beq_iff_eq.mpr c12
                have c12b1 : (x7_5 != (l0.length : Int)) = false := bne_eq_false_iff_eq.mpr c12
                clear c12
                (first | rw [c12b0] | (simp only [i64_w, i32_w]; rw [c12b0]) | skip)
                have H' := Aside0.mk H
                clear H
                go_wp2
                go_meet
                case rel => exact ⟨_, (true), (by first | rfl | (simp; done) | (simp [*]; done)), H', ⟨by have := HJ2.out; have := HJ5.out; first | omega | exact Nat.le_refl _⟩, ⟨Ls HB⟩⟩
              · rw [if_neg c12] at H
                have c12b0 : (x7_5 == (l0.length : Int)) = false := beq_eq_false_iff_ne.mpr c12
                have c12b1 : (x7_5 != (l0.length : Int)) = true := bne_iff_ne.mpr c12
                (first | rw [c12b0] | (simp only [i64_w, i32_w]; rw [c12b0]) | skip)
                have H' := Aside0.mk H
                clear H
                go_wp2
                go_meet
                case rel => exact ⟨_, ((x7_5 == (wrap64 (a1 + 10)))), (by first | rfl | (simp; done) | (simp [*]; done)), H', ⟨by have := HJ2.out; have := HJ5.out; first | omega | exact Nat.le_refl _⟩, ⟨Ls HB⟩⟩
            case rest =>
              clear HC11
              try clear c1; try clear c2; try clear p2; try clear p3; try clear q3; try clear hx3; try clear c4; try clear c4b0; try clear c5; try clear p6; try clear c7; try clear c7b0; try clear c8; try clear c8b0; try clear c9; try clear c9b0; try clear c10; try clear c10b0; try clear c12; try clear c12b0; try clear c12b1; try clear hx350_0; try clear p2; try clear p3; try clear p350; try clear p6; try clear q3; try clear q350
              obtain ⟨kq, x48_10, rfl, HA, HJ10, HB⟩ := hcut
              cases kq with
              | zero => exact absurd HA.out (by simp [trommelref39_GetInt.j3])
              | succ kj10 =>
                have H := HA.out
                clear HA
                simp only [trommelref39_GetInt.j3] at H
                by_cases c13 : x48_10 = true
                · subst c13
                  have H1 : (some (0, 0, false)) = some (r1, r2, r3) := by rw [if_pos rfl] at H; exact H
                  clear H
                  have H := H1
                  clear H1
                  simp only [Option.some.injEq, Prod.mk.injEq] at H
                  obtain ⟨rfl, rfl, rfl⟩ := H
                  go_wp2
                  go_ret3
                  exact ⟨by first | rfl | (simp [errW_none, errW_some] <;> rfl) | (simp [*, errW_none, errW_some] <;> rfl), by repeat (first | (with_reducible first | exact HB.out | apply below_alloc | apply pw_below_drewN | apply below_drew1) | exact HB.out)⟩
                · replace c13 := Bool.eq_false_iff.mpr c13
                  subst c13
                  have H1 : (trommelref39_GetInt.l1 kj10 l0 a1 x7_5 0 x7_5) = some (r1, r2, r3) := by rw [if_neg (show ¬ (false = true) by decide)] at H; exact H
                  clear H
                  have H := H1
                  clear H1
                  have H' := Aside0.mk H
                  clear H
                  go_wp2
                  go_loopg [8, 9] kj10 (fun kq v8 v9 w' => ∃ (x8_4 : Int) (x9_4 : Int), v8 = .int .u64 x8_4 ∧ v9 = .int .i64 x9_4 ∧ Aside0 (trommelref39_GetInt.l1 kq l0 a1 x7_5 x8_4 x9_4 = some (r1, r2, r3)) ∧ Aside0 (kq ≤ kj10) ∧ Aside0 (Below w.heap.size w w'))
                  case atStart => exact ⟨(0), (x7_5), (by first | rfl | (simp; done) | (simp [*]; done)), (by first | rfl | (simp; done) | (simp [*]; done)), H', ⟨Nat.le_refl _⟩, ⟨Ls HB⟩⟩
                  case round =>
                    clear H'
                    try clear c1; try clear c2; try clear p2; try clear p3; try clear q3; try clear hx3; try clear c4; try clear c4b0; try clear c5; try clear p6; try clear c7; try clear c7b0; try clear c8; try clear c8b0; try clear c9; try clear c9b0; try clear c10; try clear c10b0; try clear c12; try clear c12b0; try clear c12b1; try clear c13; try clear hx350_0; try clear p2; try clear p3; try clear p350; try clear p6; try clear q3; try clear q350
                    obtain ⟨x8_4, x9_4, rfl, rfl, HA, HK4, HB⟩ := hrel
                    cases gk with
                    | zero => exact absurd HA.out (by simp [trommelref39_GetInt.l1])
                    | succ k4 =>
                      have H := HA.out
                      clear HA
                      simp only [trommelref39_GetInt.l1] at H
                      by_cases c14 : x9_4 ≥ a1
                      · rw [if_pos c14] at H
                        have c14b0 : decide (a1 ≤ x9_4) = true := decide_eq_true c14
                        clear c14
                        refine bc (p := (0 ≤ x9_4)) (fun c15 => ?_) (fun c15 => ?_)
                        · rw [if_neg c15] at H
                          exact absurd H (by simp)
                        rw [if_pos c15] at H
                        have c15b0 : decide (0 ≤ x9_4) = true := decide_eq_true c15
                        clear c15
                        refine bc (p := (x9_4 < (l0.length : Int))) (fun c16 => ?_) (fun c16 => ?_)
                        · rw [if_neg c16] at H
                          exact absurd H (by simp)
                        rw [if_pos c16] at H
                        have c16b0 : decide (x9_4 < (l0.length : Int)) = true := decide_eq_true c16
                        clear c16
                        have H' := Aside0.mk H
                        clear H
                        have p351 : 0 ≤ (x9_4 : Int) := of_decide_eq_true (by first | (with_reducible assumption) | assumption)
                        have q351 : x9_4 < (l0.length : Int) := of_decide_eq_true (by first | (with_reducible assumption) | assumption)
                        obtain ⟨ad351, e351, hx351_0⟩ := Kd.at_int HR0.out x9_4 p351 q351
                        cases e351
                        replace hx351_0 := (HB.out.cell (World.block_lt_of_cell? w _ hx351_0)).trans hx351_0
                        replace p351 := eq_true p351
                        replace q351 := eq_true q351
                        go_wp2
                        go_roundg k4
                        case measure => have := HJ2.out; have := HJ5.out; have := HJ10.out; have := HK4.out; omega
                        case rel => exact ⟨(IntKind.u64.wrap ((IntKind.u64.wrap (x8_4 * 128)) + (IntKind.u64.wrap (Int.tmod (rd l0 x9_4) 128)))), (wrap64 (x9_4 - 1)), (by first | rfl | (simp; done) | (simp [*]; done)), (by first | rfl | (simp; done) | (simp [*]; done)), H', ⟨by have := HJ2.out; have := HJ5.out; have := HJ10.out; have := HK4.out; omega⟩, ⟨Ls HB⟩⟩
                      · rw [if_neg c14] at H
                        have c14b0 : decide (a1 ≤ x9_4) = false := decide_eq_false c14
                        clear c14
                        by_cases c17 : (Int.tmod x8_4 2) = 1
                        · rw [if_pos c17] at H
                          have c17b0 : ((Int.tmod x8_4 2) == 1) = true := beq_iff_eq.mpr c17
                          have c17b1 : ((Int.tmod x8_4 2) != 1) = false := bne_eq_false_iff_eq.mpr c17
                          clear c17
                          replace H := Option.bind_eq_some_iff.mp H
                          obtain ⟨t352, A180, H⟩ := H
                          replace H : (if 0 ≤ a1 then (if a1 ≤ (wrap64 (x7_5 + 1)) then (if (wrap64 (x7_5 + 1)) ≤ (l0.length : Int) then (if (strOfNums t352).toList = (strOfNums ((l0.take ((wrap64 (x7_5 + 1)) : Int).toNat).drop (a1 : Int).toNat)).toList then (some (wrap64 ((wrap64 (-(wrap64 (IntKind.u64.wrap (Int.tdiv x8_4 2))))) - 1), wrap64 (x7_5 + 1), true)) else (some (0, 0, false))) else (none)) else (none)) else (none)) = some (r1, r2, r3) := H
                          have A18 := Aside0.mk A180
                          clear A180
                          refine bc (p := (0 ≤ a1)) (fun c19 => ?_) (fun c19 => ?_)
                          · rw [if_neg c19] at H
                            exact absurd H (by simp)
                          rw [if_pos c19] at H
                          have c19b0 := eq_true c19
                          have c19b1 : decide (0 ≤ a1) = true := decide_eq_true c19
                          clear c19
                          refine bc (p := (a1 ≤ (wrap64 (x7_5 + 1)))) (fun c20 => ?_) (fun c20 => ?_)
                          · rw [if_neg c20] at H
                            exact absurd H (by simp)
                          rw [if_pos c20] at H
                          have c20b0 := eq_true c20
                          have c20b1 : decide (a1 ≤ (wrap64 (x7_5 + 1))) = true := decide_eq_true c20
                          refine bc (p := ((wrap64 (x7_5 + 1)) ≤ (l0.length : Int))) (fun c21 => ?_) (fun c21 => ?_)
                          · rw [if_neg c21] at H
                            exact absurd H (by simp)
                          rw [if_pos c21] at H
                          have c21b0 := eq_true c21
                          have c21b1 : decide ((wrap64 (x7_5 + 1)) ≤ (l0.length : Int)) = true := decide_eq_true c21
                          by_cases c22 : (strOfNums t352).toList = (strOfNums ((l0.take ((wrap64 (x7_5 + 1)) : Int).toNat).drop (a1 : Int).toNat)).toList
                          · rw [if_pos c22] at H
                            have c22b0 : ((strOfNums t352).toList == (strOfNums ((l0.take ((wrap64 (x7_5 + 1)) : Int).toNat).drop (a1 : Int).toNat)).toList) = true := beq_iff_eq.mpr c22
                            have c22b1 : ((strOfNums t352).toList != (strOfNums ((l0.take ((wrap64 (x7_5 + 1)) : Int).toNat).drop (a1 : Int).toNat)).toList) = false := bne_eq_false_iff_eq.mpr c22
                            clear c22
                            simp only [Option.some.injEq, Prod.mk.injEq] at H
                            obtain ⟨rfl, rfl, rfl⟩ := H
                            try go_wp2
                            replace HB := Aside0.mk (below_drew1 HB.out)
                            obtain ⟨i024, hi024, _, hsz24, _⟩ := info_parts info5
                            obtain ⟨A24, hcut24, hA24, hC24⟩ := print_mid_of (P := Try.prog) (Value.int .u8) 0 36 5 .i64 .i64 Try.underlying36 hi024 hsz24 A0 c0 l0 a1 (wrap64 (x7_5 + 1)) (of_decide_eq_true (by first | (with_reducible assumption) | assumption)) (by first | omega | exact of_decide_eq_true (by first | (with_reducible assumption) | assumption)) (of_decide_eq_true (by first | (with_reducible assumption) | assumption)) HC0.out
                            have HR355 := Aside0.mk (Kd.C_of_reads (h1 := fun _ => rfl) (hA24 _ (Kd.reads_of_C HR0.out)))
                            have HC355 := Aside0.mk hC24
                            clear hA24 hC24 hi024 hsz24
                            have hln : (((l0.take ((wrap64 (x7_5 + 1)) : Int).toNat).drop (a1 : Int).toNat)).length = ((wrap64 (x7_5 + 1)).toNat - a1.toNat) := by rw [List.length_drop, List.length_take]; have h1 : wrap64 (x7_5 + 1) ≤ (l0.length : Int) := of_decide_eq_true (by assumption); omega
                            have HS : Aside0 (∀ W, Below w.heap.size w W → Kd.C (Kd.int .u8) W A24 ((wrap64 (x7_5 + 1)).toNat - a1.toNat) ((l0.take ((wrap64 (x7_5 + 1)) : Int).toNat).drop (a1 : Int).toNat)) := ⟨fun W hb => by have h := Kd.C_below HR355.out hb; rw [hln] at h; exact h⟩
                            refine start_ (n := 10) (S := fun w' => Kd.C (Kd.int .u8) w' A24 ((wrap64 (x7_5 + 1)).toNat - a1.toNat) ((l0.take ((wrap64 (x7_5 + 1)) : Int).toNat).drop (a1 : Int).toNat)) (ds := []) #[F, F, F, F, F, F, F, F, F, F] (by kernel_rfl) rfl rfl (HS.out _ HB.out) (fun hHeld => ?_); refine with_tabW trommelref39_GetInt.tab16 trommelref39_GetInt.bits16 (fun HT_ HW_ => ?_)
                            generalize wr.drew = w23 at HB HR355 hHeld ⊢
                            refine pure_ (i := 0) (N := some 73) (v := ?_) (a' := ?_) #[T, F, F, F, F, F, F, F, F, F] rfl rfl (any_of HT_.out (by kernel_rfl)) (fun _ _ _ h => h) (Or.inl ⟨by rfl, ?_⟩) ?_ ?_; rotate_left; (· intro w'; go_simp; with_reducible rfl); rotate_left; (· simp only [Act.put, sq]; rfl)
                            refine pure_ (i := 3) (N := some 76) (v := ?_) (a' := ?_) #[T, F, F, T, F, F, F, F, F, F] rfl rfl (any_of HT_.out (by kernel_rfl)) (fun _ _ _ h => h) (Or.inl ⟨by rfl, ?_⟩) ?_ ?_; rotate_left; (· intro w'; go_simp; with_reducible rfl); rotate_left; (· simp only [Act.put, sq]; rfl)
                            refine pure_ (i := 4) (N := some 77) (v := ?_) (a' := ?_) #[T, F, F, T, T, F, F, F, F, F] rfl rfl (any_of HT_.out (by kernel_rfl)) (fun _ _ _ h => h) (Or.inl ⟨by rfl, ?_⟩) ?_ ?_; rotate_left; (· intro w'; go_simp; with_reducible rfl); rotate_left; (· simp only [Act.put, sq]; rfl)
                            refine pure_ (i := 5) (N := some 78) (v := ?_) (a' := ?_) #[T, F, F, T, T, T, F, F, F, F] rfl rfl (any_of HT_.out (by kernel_rfl)) (fun _ _ _ h => h) (Or.inl ⟨by rfl, ?_⟩) ?_ ?_; rotate_left; (· intro w'; go_simp; with_reducible rfl); rotate_left; (· simp only [Act.put, sq]; rfl)
                            refine pure_ (i := 6) (N := some 79) (v := ?_) (a' := ?_) #[T, F, F, T, T, T, T, F, F, F] rfl rfl (any_of HT_.out (by kernel_rfl)) (fun _ _ _ h => h) (Or.inl ⟨by rfl, ?_⟩) ?_ ?_; rotate_left; (· intro w'; go_simp; with_reducible rfl); rotate_left; (· simp only [Act.put, sq]; rfl)
                            refine pure_ (i := 7) (N := some 80) (v := ?_) (a' := ?_) #[T, F, F, T, T, T, T, T, F, F] rfl rfl (any_of HT_.out (by kernel_rfl)) (fun _ _ _ h => h) (Or.inl ⟨by rfl, ?_⟩) ?_ ?_; rotate_left; (· intro w'; go_simp; with_reducible rfl); rotate_left; (· simp only [Act.put, sq]; rfl)
                            refine take_ (i := 8) (N := some 81) (v := ?_) (a' := ?_) #[T, F, F, T, T, T, T, T, T, F] rfl rfl (take_ofW HT_.out HW_.out (by kernel_rfl)) (fun _ _ _ h => h) (Or.inl ⟨by rfl, ?_⟩) hHeld ?_ ?_; rotate_left; (· rintro w' s0; have s1 := Kd.C_string (P := Try.prog) (A := A24) (c := (c0 - a1.toNat)) Try.underlying36 Try.underlying5 Try.underlying9 s0; clear s0; go_simp; with_reducible rfl); rotate_left; (· simp only [Act.put, sq]; rfl)
                            refine one_ (i := 1) (N := some 74) #[T, T, F, T, T, T, T, T, T, F] rfl rfl (one_of HT_.out (by kernel_rfl)) (by decide) (fun K hK => ?_)
                            refine goes_ Try.func19 (by kernel_rfl) rfl #[.int .i64 (wrap64 ((wrap64 (-(wrap64 (IntKind.u64.wrap (Int.tdiv x8_4 2))))) - 1))] (by rfl) rfl rfl (by (try simp only [List.map_toArray, List.map_cons, List.map_nil]); first | done | rfl | (simp only [List.length_drop, List.length_take]; rfl)) ?_
                            with_reducible refine (trommelref39_Int.calls (wrap64 ((wrap64 (-(wrap64 (IntKind.u64.wrap (Int.tdiv x8_4 2))))) - 1)) t352 _ A18.out).mono ?_
                            rintro e w25 ⟨v353, rfl, ho0, hb⟩
                            refine ⟨_, rfl, ?_⟩
                            have HO354 := Aside0.mk (Kd.R_lower ho0 (Lz HB))
                            replace HB := Lb HB hb
                            try clear hb; try clear hb2; try clear hk; try clear hi; try clear ho0
                            refine hK.out _ _ (by first | exact HS.out _ HB.out | exact hHeld) (fun hHeld => ?_)
                            clear hK K
                            refine norm_ (a' := ?_) ?_ ?_; rotate_left; (· show Act.put _ (some 74) _ = _; simp only [Act.put, sq]; rfl)
                            refine one_ (i := 2) (N := some 75) #[T, T, T, T, T, T, T, T, T, F] rfl rfl (one_of HT_.out (by kernel_rfl)) (by decide) (fun K hK => ?_)
                            have hcv26 := own_string (P := Try.prog) Try.underlying36 Try.underlying5 Try.underlying9 (Kd.own_of_R HO354.out)
                            refine value_ (w1 := ?_) (v := ?_) (by rfl) rfl ?_ ?_
                            rotate_left 2
                            · go_simp
                              constructor
                              · rfl
                              · rfl
                            clear hcv26
                            refine hK.out _ _ (by first | exact HS.out _ HB.out | exact hHeld) (fun hHeld => ?_)
                            clear hK K
                            refine norm_ (a' := ?_) ?_ ?_; rotate_left; (· show Act.put _ (some 75) _ = _; simp only [Act.put, sq]; rfl)
                            refine pure_ (i := 9) (N := some 82) (v := ?_) (a' := ?_) #[T, T, T, T, T, T, T, T, T, T] rfl rfl (any_of HT_.out (by kernel_rfl)) (fun _ _ _ h => h) (Or.inl ⟨by rfl, ?_⟩) ?_ ?_; rotate_left; (· intro w'; go_simp; with_reducible rfl); rotate_left; (· simp only [Act.put, sq]; rfl)
                            refine done_ (done_of HT_.out (by kernel_rfl)) ?_
                            try go_wp2
                            go_ret3
                            exact ⟨by first | rfl | (simp [errW_none, errW_some] <;> rfl) | (simp [*, errW_none, errW_some] <;> rfl), by repeat (first | (with_reducible first | exact HB.out | apply below_alloc | apply pw_below_drewN | apply below_drew1) | exact HB.out)⟩
                          · rw [if_neg c22] at H
                            have c22b0 : ((strOfNums t352).toList == (strOfNums ((l0.take ((wrap64 (x7_5 + 1)) : Int).toNat).drop (a1 : Int).toNat)).toList) = false := beq_eq_false_iff_ne.mpr c22
                            have c22b1 : ((strOfNums t352).toList != (strOfNums ((l0.take ((wrap64 (x7_5 + 1)) : Int).toNat).drop (a1 : Int).toNat)).toList) = true := bne_iff_ne.mpr c22
                            simp only [Option.some.injEq, Prod.mk.injEq] at H
                            obtain ⟨rfl, rfl, rfl⟩ := H
                            try go_wp2
                            replace HB := Aside0.mk (below_drew1 HB.out)
                            obtain ⟨i030, hi030, _, hsz30, _⟩ := info_parts info5
                            obtain ⟨A30, hcut30, hA30, hC30⟩ := print_mid_of (P := Try.prog) (Value.int .u8) 0 36 5 .i64 .i64 Try.underlying36 hi030 hsz30 A0 c0 l0 a1 (wrap64 (x7_5 + 1)) (of_decide_eq_true (by first | (with_reducible assumption) | assumption)) (by first | omega | exact of_decide_eq_true (by first | (with_reducible assumption) | assumption)) (of_decide_eq_true (by first | (with_reducible assumption) | assumption)) HC0.out
                            have HR355 := Aside0.mk (Kd.C_of_reads (h1 := fun _ => rfl) (hA30 _ (Kd.reads_of_C HR0.out)))
                            have HC355 := Aside0.mk hC30
                            clear hA30 hC30 hi030 hsz30
                            have hln : (((l0.take ((wrap64 (x7_5 + 1)) : Int).toNat).drop (a1 : Int).toNat)).length = ((wrap64 (x7_5 + 1)).toNat - a1.toNat) := by rw [List.length_drop, List.length_take]; have h1 : wrap64 (x7_5 + 1) ≤ (l0.length : Int) := of_decide_eq_true (by assumption); omega
                            have HS : Aside0 (∀ W, Below w.heap.size w W → Kd.C (Kd.int .u8) W A30 ((wrap64 (x7_5 + 1)).toNat - a1.toNat) ((l0.take ((wrap64 (x7_5 + 1)) : Int).toNat).drop (a1 : Int).toNat)) := ⟨fun W hb => by have h := Kd.C_below HR355.out hb; rw [hln] at h; exact h⟩
                            refine start_ (n := 10) (S := fun w' => Kd.C (Kd.int .u8) w' A30 ((wrap64 (x7_5 + 1)).toNat - a1.toNat) ((l0.take ((wrap64 (x7_5 + 1)) : Int).toNat).drop (a1 : Int).toNat)) (ds := []) #[F, F, F, F, F, F, F, F, F, F] (by kernel_rfl) rfl rfl (HS.out _ HB.out) (fun hHeld => ?_); refine with_tabW trommelref39_GetInt.tab16 trommelref39_GetInt.bits16 (fun HT_ HW_ => ?_)
                            generalize wr.drew = w29 at HB HR355 hHeld ⊢
                            refine pure_ (i := 0) (N := some 73) (v := ?_) (a' := ?_) #[T, F, F, F, F, F, F, F, F, F] rfl rfl (any_of HT_.out (by kernel_rfl)) (fun _ _ _ h => h) (Or.inl ⟨by rfl, ?_⟩) ?_ ?_; rotate_left; (· intro w'; go_simp; with_reducible rfl); rotate_left; (· simp only [Act.put, sq]; rfl)
                            refine pure_ (i := 3) (N := some 76) (v := ?_) (a' := ?_) #[T, F, F, T, F, F, F, F, F, F] rfl rfl (any_of HT_.out (by kernel_rfl)) (fun _ _ _ h => h) (Or.inl ⟨by rfl, ?_⟩) ?_ ?_; rotate_left; (· intro w'; go_simp; with_reducible rfl); rotate_left; (· simp only [Act.put, sq]; rfl)
                            refine pure_ (i := 4) (N := some 77) (v := ?_) (a' := ?_) #[T, F, F, T, T, F, F, F, F, F] rfl rfl (any_of HT_.out (by kernel_rfl)) (fun _ _ _ h => h) (Or.inl ⟨by rfl, ?_⟩) ?_ ?_; rotate_left; (· intro w'; go_simp; with_reducible rfl); rotate_left; (· simp only [Act.put, sq]; rfl)
                            refine pure_ (i := 5) (N := some 78) (v := ?_) (a' := ?_) #[T, F, F, T, T, T, F, F, F, F] rfl rfl (any_of HT_.out (by kernel_rfl)) (fun _ _ _ h => h) (Or.inl ⟨by rfl, ?_⟩) ?_ ?_; rotate_left; (· intro w'; go_simp; with_reducible rfl); rotate_left; (· simp only [Act.put, sq]; rfl)
                            refine pure_ (i := 6) (N := some 79) (v := ?_) (a' := ?_) #[T, F, F, T, T, T, T, F, F, F] rfl rfl (any_of HT_.out (by kernel_rfl)) (fun _ _ _ h => h) (Or.inl ⟨by rfl, ?_⟩) ?_ ?_; rotate_left; (· intro w'; go_simp; with_reducible rfl); rotate_left; (· simp only [Act.put, sq]; rfl)
                            refine pure_ (i := 7) (N := some 80) (v := ?_) (a' := ?_) #[T, F, F, T, T, T, T, T, F, F] rfl rfl (any_of HT_.out (by kernel_rfl)) (fun _ _ _ h => h) (Or.inl ⟨by rfl, ?_⟩) ?_ ?_; rotate_left; (· intro w'; go_simp; with_reducible rfl); rotate_left; (· simp only [Act.put, sq]; rfl)
                            refine take_ (i := 8) (N := some 81) (v := ?_) (a' := ?_) #[T, F, F, T, T, T, T, T, T, F] rfl rfl (take_ofW HT_.out HW_.out (by kernel_rfl)) (fun _ _ _ h => h) (Or.inl ⟨by rfl, ?_⟩) hHeld ?_ ?_; rotate_left; (· rintro w' s0; have s1 := Kd.C_string (P := Try.prog) (A := A30) (c := (c0 - a1.toNat)) Try.underlying36 Try.underlying5 Try.underlying9 s0; clear s0; go_simp; with_reducible rfl); rotate_left; (· simp only [Act.put, sq]; rfl)
                            refine one_ (i := 1) (N := some 74) #[T, T, F, T, T, T, T, T, T, F] rfl rfl (one_of HT_.out (by kernel_rfl)) (by decide) (fun K hK => ?_)
                            refine goes_ Try.func19 (by kernel_rfl) rfl #[.int .i64 (wrap64 ((wrap64 (-(wrap64 (IntKind.u64.wrap (Int.tdiv x8_4 2))))) - 1))] (by rfl) rfl rfl (by (try simp only [List.map_toArray, List.map_cons, List.map_nil]); first | done | rfl | (simp only [List.length_drop, List.length_take]; rfl)) ?_
                            with_reducible refine (trommelref39_Int.calls (wrap64 ((wrap64 (-(wrap64 (IntKind.u64.wrap (Int.tdiv x8_4 2))))) - 1)) t352 _ A18.out).mono ?_
                            rintro e w31 ⟨v353, rfl, ho0, hb⟩
                            refine ⟨_, rfl, ?_⟩
                            have HO354 := Aside0.mk (Kd.R_lower ho0 (Lz HB))
                            replace HB := Lb HB hb
                            try clear hb; try clear hb2; try clear hk; try clear hi; try clear ho0
                            refine hK.out _ _ (by first | exact HS.out _ HB.out | exact hHeld) (fun hHeld => ?_)
                            clear hK K
                            refine norm_ (a' := ?_) ?_ ?_; rotate_left; (· show Act.put _ (some 74) _ = _; simp only [Act.put, sq]; rfl)
                            refine one_ (i := 2) (N := some 75) #[T, T, T, T, T, T, T, T, T, F] rfl rfl (one_of HT_.out (by kernel_rfl)) (by decide) (fun K hK => ?_)
                            have hcv32 := own_string (P := Try.prog) Try.underlying36 Try.underlying5 Try.underlying9 (Kd.own_of_R HO354.out)
                            refine value_ (w1 := ?_) (v := ?_) (by rfl) rfl ?_ ?_
                            rotate_left 2
                            · go_simp
                              constructor
                              · rfl
                              · rfl
                            clear hcv32
                            refine hK.out _ _ (by first | exact HS.out _ HB.out | exact hHeld) (fun hHeld => ?_)
                            clear hK K
                            refine norm_ (a' := ?_) ?_ ?_; rotate_left; (· show Act.put _ (some 75) _ = _; simp only [Act.put, sq]; rfl)
                            refine pure_ (i := 9) (N := some 82) (v := ?_) (a' := ?_) #[T, T, T, T, T, T, T, T, T, T] rfl rfl (any_of HT_.out (by kernel_rfl)) (fun _ _ _ h => h) (Or.inl ⟨by rfl, ?_⟩) ?_ ?_; rotate_left; (· intro w'; go_simp; with_reducible rfl); rotate_left; (· simp only [Act.put, sq]; rfl)
                            refine done_ (done_of HT_.out (by kernel_rfl)) ?_
                            try go_wp2
                            go_ret3
                            exact ⟨by first | rfl | (simp [errW_none, errW_some] <;> rfl) | (simp [*, errW_none, errW_some] <;> rfl), by repeat (first | (with_reducible first | exact HB.out | apply below_alloc | apply pw_below_drewN | apply below_drew1) | exact HB.out)⟩
                        · rw [if_neg c17] at H
                          have c17b0 : ((Int.tmod x8_4 2) == 1) = false := beq_eq_false_iff_ne.mpr c17
                          have c17b1 : ((Int.tmod x8_4 2) != 1) = true := bne_iff_ne.mpr c17
                          replace H := Option.bind_eq_some_iff.mp H
                          obtain ⟨t356, A350, H⟩ := H
                          replace H : (if 0 ≤ a1 then (if a1 ≤ (wrap64 (x7_5 + 1)) then (if (wrap64 (x7_5 + 1)) ≤ (l0.length : Int) then (if (strOfNums t356).toList = (strOfNums ((l0.take ((wrap64 (x7_5 + 1)) : Int).toNat).drop (a1 : Int).toNat)).toList then (some (wrap64 (IntKind.u64.wrap (Int.tdiv x8_4 2)), wrap64 (x7_5 + 1), true)) else (some (0, 0, false))) else (none)) else (none)) else (none)) = some (r1, r2, r3) := H
                          have A35 := Aside0.mk A350
                          clear A350
                          refine bc (p := (0 ≤ a1)) (fun c36 => ?_) (fun c36 => ?_)
                          · rw [if_neg c36] at H
                            exact absurd H (by simp)
                          rw [if_pos c36] at H
                          have c36b0 := eq_true c36
                          have c36b1 : decide (0 ≤ a1) = true := decide_eq_true c36
                          clear c36
                          refine bc (p := (a1 ≤ (wrap64 (x7_5 + 1)))) (fun c37 => ?_) (fun c37 => ?_)
                          · rw [if_neg c37] at H
                            exact absurd H (by simp)
                          rw [if_pos c37] at H
                          have c37b0 := eq_true c37
                          have c37b1 : decide (a1 ≤ (wrap64 (x7_5 + 1))) = true := decide_eq_true c37
                          refine bc (p := ((wrap64 (x7_5 + 1)) ≤ (l0.length : Int))) (fun c38 => ?_) (fun c38 => ?_)
                          · rw [if_neg c38] at H
                            exact absurd H (by simp)
                          rw [if_pos c38] at H
                          have c38b0 := eq_true c38
                          have c38b1 : decide ((wrap64 (x7_5 + 1)) ≤ (l0.length : Int)) = true := decide_eq_true c38
                          by_cases c39 : (strOfNums t356).toList = (strOfNums ((l0.take ((wrap64 (x7_5 + 1)) : Int).toNat).drop (a1 : Int).toNat)).toList
                          · rw [if_pos c39] at H
                            have c39b0 : ((strOfNums t356).toList == (strOfNums ((l0.take ((wrap64 (x7_5 + 1)) : Int).toNat).drop (a1 : Int).toNat)).toList) = true := beq_iff_eq.mpr c39
                            have c39b1 : ((strOfNums t356).toList != (strOfNums ((l0.take ((wrap64 (x7_5 + 1)) : Int).toNat).drop (a1 : Int).toNat)).toList) = false := bne_eq_false_iff_eq.mpr c39
                            clear c39
                            simp only [Option.some.injEq, Prod.mk.injEq] at H
                            obtain ⟨rfl, rfl, rfl⟩ := H
                            try go_wp2
                            replace HB := Aside0.mk (below_drew1 HB.out)
                            obtain ⟨i041, hi041, _, hsz41, _⟩ := info_parts info5
                            obtain ⟨A41, hcut41, hA41, hC41⟩ := print_mid_of (P := Try.prog) (Value.int .u8) 0 36 5 .i64 .i64 Try.underlying36 hi041 hsz41 A0 c0 l0 a1 (wrap64 (x7_5 + 1)) (of_decide_eq_true (by first | (with_reducible assumption) | assumption)) (by first | omega | exact of_decide_eq_true (by first | (with_reducible assumption) | assumption)) (of_decide_eq_true (by first | (with_reducible assumption) | assumption)) HC0.out
                            have HR359 := Aside0.mk (Kd.C_of_reads (h1 := fun _ => rfl) (hA41 _ (Kd.reads_of_C HR0.out)))
                            have HC359 := Aside0.mk hC41
                            clear hA41 hC41 hi041 hsz41
                            have hln : (((l0.take ((wrap64 (x7_5 + 1)) : Int).toNat).drop (a1 : Int).toNat)).length = ((wrap64 (x7_5 + 1)).toNat - a1.toNat) := by rw [List.length_drop, List.length_take]; have h1 : wrap64 (x7_5 + 1) ≤ (l0.length : Int) := of_decide_eq_true (by assumption); omega
                            have HS : Aside0 (∀ W, Below w.heap.size w W → Kd.C (Kd.int .u8) W A41 ((wrap64 (x7_5 + 1)).toNat - a1.toNat) ((l0.take ((wrap64 (x7_5 + 1)) : Int).toNat).drop (a1 : Int).toNat)) := ⟨fun W hb => by have h := Kd.C_below HR359.out hb; rw [hln] at h; exact h⟩
                            refine start_ (n := 10) (S := fun w' => Kd.C (Kd.int .u8) w' A41 ((wrap64 (x7_5 + 1)).toNat - a1.toNat) ((l0.take ((wrap64 (x7_5 + 1)) : Int).toNat).drop (a1 : Int).toNat)) (ds := []) #[F, F, F, F, F, F, F, F, F, F] (by kernel_rfl) rfl rfl (HS.out _ HB.out) (fun hHeld => ?_); refine with_tabW trommelref39_GetInt.tab16 trommelref39_GetInt.bits16 (fun HT_ HW_ => ?_)
                            generalize wr.drew = w40 at HB HR359 hHeld ⊢
                            refine pure_ (i := 0) (N := some 73) (v := ?_) (a' := ?_) #[T, F, F, F, F, F, F, F, F, F] rfl rfl (any_of HT_.out (by kernel_rfl)) (fun _ _ _ h => h) (Or.inl ⟨by rfl, ?_⟩) ?_ ?_; rotate_left; (· intro w'; go_simp; with_reducible rfl); rotate_left; (· simp only [Act.put, sq]; rfl)
                            refine pure_ (i := 3) (N := some 76) (v := ?_) (a' := ?_) #[T, F, F, T, F, F, F, F, F, F] rfl rfl (any_of HT_.out (by kernel_rfl)) (fun _ _ _ h => h) (Or.inl ⟨by rfl, ?_⟩) ?_ ?_; rotate_left; (· intro w'; go_simp; with_reducible rfl); rotate_left; (· simp only [Act.put, sq]; rfl)
                            refine pure_ (i := 4) (N := some 77) (v := ?_) (a' := ?_) #[T, F, F, T, T, F, F, F, F, F] rfl rfl (any_of HT_.out (by kernel_rfl)) (fun _ _ _ h => h) (Or.inl ⟨by rfl, ?_⟩) ?_ ?_; rotate_left; (· intro w'; go_simp; with_reducible rfl); rotate_left; (· simp only [Act.put, sq]; rfl)
                            refine pure_ (i := 5) (N := some 78) (v := ?_) (a' := ?_) #[T, F, F, T, T, T, F, F, F, F] rfl rfl (any_of HT_.out (by kernel_rfl)) (fun _ _ _ h => h) (Or.inl ⟨by rfl, ?_⟩) ?_ ?_; rotate_left; (· intro w'; go_simp; with_reducible rfl); rotate_left; (· simp only [Act.put, sq]; rfl)
                            refine pure_ (i := 6) (N := some 79) (v := ?_) (a' := ?_) #[T, F, F, T, T, T, T, F, F, F] rfl rfl (any_of HT_.out (by kernel_rfl)) (fun _ _ _ h => h) (Or.inl ⟨by rfl, ?_⟩) ?_ ?_; rotate_left; (· intro w'; go_simp; with_reducible rfl); rotate_left; (· simp only [Act.put, sq]; rfl)
                            refine pure_ (i := 7) (N := some 80) (v := ?_) (a' := ?_) #[T, F, F, T, T, T, T, T, F, F] rfl rfl (any_of HT_.out (by kernel_rfl)) (fun _ _ _ h => h) (Or.inl ⟨by rfl, ?_⟩) ?_ ?_; rotate_left; (· intro w'; go_simp; with_reducible rfl); rotate_left; (· simp only [Act.put, sq]; rfl)
                            refine take_ (i := 8) (N := some 81) (v := ?_) (a' := ?_) #[T, F, F, T, T, T, T, T, T, F] rfl rfl (take_ofW HT_.out HW_.out (by kernel_rfl)) (fun _ _ _ h => h) (Or.inl ⟨by rfl, ?_⟩) hHeld ?_ ?_; rotate_left; (· rintro w' s0; have s1 := Kd.C_string (P := Try.prog) (A := A41) (c := (c0 - a1.toNat)) Try.underlying36 Try.underlying5 Try.underlying9 s0; clear s0; go_simp; with_reducible rfl); rotate_left; (· simp only [Act.put, sq]; rfl)
                            refine one_ (i := 1) (N := some 74) #[T, T, F, T, T, T, T, T, T, F] rfl rfl (one_of HT_.out (by kernel_rfl)) (by decide) (fun K hK => ?_)
                            refine goes_ Try.func19 (by kernel_rfl) rfl #[.int .i64 (wrap64 (IntKind.u64.wrap (Int.tdiv x8_4 2)))] (by rfl) rfl rfl (by (try simp only [List.map_toArray, List.map_cons, List.map_nil]); first | done | rfl | (simp only [List.length_drop, List.length_take]; rfl)) ?_
                            with_reducible refine (trommelref39_Int.calls (wrap64 (IntKind.u64.wrap (Int.tdiv x8_4 2))) t356 _ A35.out).mono ?_
                            rintro e w42 ⟨v357, rfl, ho0, hb⟩
                            refine ⟨_, rfl, ?_⟩
                            have HO358 := Aside0.mk (Kd.R_lower ho0 (Lz HB))
                            replace HB := Lb HB hb
                            try clear hb; try clear hb2; try clear hk; try clear hi; try clear ho0
                            refine hK.out _ _ (by first | exact HS.out _ HB.out | exact hHeld) (fun hHeld => ?_)
                            clear hK K
                            refine norm_ (a' := ?_) ?_ ?_; rotate_left; (· show Act.put _ (some 74) _ = _; simp only [Act.put, sq]; rfl)
                            refine one_ (i := 2) (N := some 75) #[T, T, T, T, T, T, T, T, T, F] rfl rfl (one_of HT_.out (by kernel_rfl)) (by decide) (fun K hK => ?_)
                            have hcv43 := own_string (P := Try.prog) Try.underlying36 Try.underlying5 Try.underlying9 (Kd.own_of_R HO358.out)
                            refine value_ (w1 := ?_) (v := ?_) (by rfl) rfl ?_ ?_
                            rotate_left 2
                            · go_simp
                              constructor
                              · rfl
                              · rfl
                            clear hcv43
                            refine hK.out _ _ (by first | exact HS.out _ HB.out | exact hHeld) (fun hHeld => ?_)
                            clear hK K
                            refine norm_ (a' := ?_) ?_ ?_; rotate_left; (· show Act.put _ (some 75) _ = _; simp only [Act.put, sq]; rfl)
                            refine pure_ (i := 9) (N := some 82) (v := ?_) (a' := ?_) #[T, T, T, T, T, T, T, T, T, T] rfl rfl (any_of HT_.out (by kernel_rfl)) (fun _ _ _ h => h) (Or.inl ⟨by rfl, ?_⟩) ?_ ?_; rotate_left; (· intro w'; go_simp; with_reducible rfl); rotate_left; (· simp only [Act.put, sq]; rfl)
                            refine done_ (done_of HT_.out (by kernel_rfl)) ?_
                            try go_wp2
                            go_ret3
                            exact ⟨by first | rfl | (simp [errW_none, errW_some] <;> rfl) | (simp [*, errW_none, errW_some] <;> rfl), by repeat (first | (with_reducible first | exact HB.out | apply below_alloc | apply pw_below_drewN | apply below_drew1) | exact HB.out)⟩
                          · rw [if_neg c39] at H
                            have c39b0 : ((strOfNums t356).toList == (strOfNums ((l0.take ((wrap64 (x7_5 + 1)) : Int).toNat).drop (a1 : Int).toNat)).toList) = false := beq_eq_false_iff_ne.mpr c39
                            have c39b1 : ((strOfNums t356).toList != (strOfNums ((l0.take ((wrap64 (x7_5 + 1)) : Int).toNat).drop (a1 : Int).toNat)).toList) = true := bne_iff_ne.mpr c39
                            simp only [Option.some.injEq, Prod.mk.injEq] at H
                            obtain ⟨rfl, rfl, rfl⟩ := H
                            try go_wp2
                            replace HB := Aside0.mk (below_drew1 HB.out)
                            obtain ⟨i047, hi047, _, hsz47, _⟩ := info_parts info5
                            obtain ⟨A47, hcut47, hA47, hC47⟩ := print_mid_of (P := Try.prog) (Value.int .u8) 0 36 5 .i64 .i64 Try.underlying36 hi047 hsz47 A0 c0 l0 a1 (wrap64 (x7_5 + 1)) (of_decide_eq_true (by first | (with_reducible assumption) | assumption)) (by first | omega | exact of_decide_eq_true (by first | (with_reducible assumption) | assumption)) (of_decide_eq_true (by first | (with_reducible assumption) | assumption)) HC0.out
                            have HR359 := Aside0.mk (Kd.C_of_reads (h1 := fun _ => rfl) (hA47 _ (Kd.reads_of_C HR0.out)))
                            have HC359 := Aside0.mk hC47
                            clear hA47 hC47 hi047 hsz47
                            have hln : (((l0.take ((wrap64 (x7_5 + 1)) : Int).toNat).drop (a1 : Int).toNat)).length = ((wrap64 (x7_5 + 1)).toNat - a1.toNat) := by rw [List.length_drop, List.length_take]; have h1 : wrap64 (x7_5 + 1) ≤ (l0.length : Int) := of_decide_eq_true (by assumption); omega
                            have HS : Aside0 (∀ W, Below w.heap.size w W → Kd.C (Kd.int .u8) W A47 ((wrap64 (x7_5 + 1)).toNat - a1.toNat) ((l0.take ((wrap64 (x7_5 + 1)) : Int).toNat).drop (a1 : Int).toNat)) := ⟨fun W hb => by have h := Kd.C_below HR359.out hb; rw [hln] at h; exact h⟩
                            refine start_ (n := 10) (S := fun w' => Kd.C (Kd.int .u8) w' A47 ((wrap64 (x7_5 + 1)).toNat - a1.toNat) ((l0.take ((wrap64 (x7_5 + 1)) : Int).toNat).drop (a1 : Int).toNat)) (ds := []) #[F, F, F, F, F, F, F, F, F, F] (by kernel_rfl) rfl rfl (HS.out _ HB.out) (fun hHeld => ?_); refine with_tabW trommelref39_GetInt.tab16 trommelref39_GetInt.bits16 (fun HT_ HW_ => ?_)
                            generalize wr.drew = w46 at HB HR359 hHeld ⊢
                            refine pure_ (i := 0) (N := some 73) (v := ?_) (a' := ?_) #[T, F, F, F, F, F, F, F, F, F] rfl rfl (any_of HT_.out (by kernel_rfl)) (fun _ _ _ h => h) (Or.inl ⟨by rfl, ?_⟩) ?_ ?_; rotate_left; (· intro w'; go_simp; with_reducible rfl); rotate_left; (· simp only [Act.put, sq]; rfl)
                            refine pure_ (i := 3) (N := some 76) (v := ?_) (a' := ?_) #[T, F, F, T, F, F, F, F, F, F] rfl rfl (any_of HT_.out (by kernel_rfl)) (fun _ _ _ h => h) (Or.inl ⟨by rfl, ?_⟩) ?_ ?_; rotate_left; (· intro w'; go_simp; with_reducible rfl); rotate_left; (· simp only [Act.put, sq]; rfl)
                            refine pure_ (i := 4) (N := some 77) (v := ?_) (a' := ?_) #[T, F, F, T, T, F, F, F, F, F] rfl rfl (any_of HT_.out (by kernel_rfl)) (fun _ _ _ h => h) (Or.inl ⟨by rfl, ?_⟩) ?_ ?_; rotate_left; (· intro w'; go_simp; with_reducible rfl); rotate_left; (· simp only [Act.put, sq]; rfl)
                            refine pure_ (i := 5) (N := some 78) (v := ?_) (a' := ?_) #[T, F, F, T, T, T, F, F, F, F] rfl rfl (any_of HT_.out (by kernel_rfl)) (fun _ _ _ h => h) (Or.inl ⟨by rfl, ?_⟩) ?_ ?_; rotate_left; (· intro w'; go_simp; with_reducible rfl); rotate_left; (· simp only [Act.put, sq]; rfl)
                            refine pure_ (i := 6) (N := some 79) (v := ?_) (a' := ?_) #[T, F, F, T, T, T, T, F, F, F] rfl rfl (any_of HT_.out (by kernel_rfl)) (fun _ _ _ h => h) (Or.inl ⟨by rfl, ?_⟩) ?_ ?_; rotate_left; (· intro w'; go_simp; with_reducible rfl); rotate_left; (· simp only [Act.put, sq]; rfl)
                            refine pure_ (i := 7) (N := some 80) (v := ?_) (a' := ?_) #[T, F, F, T, T, T, T, T, F, F] rfl rfl (any_of HT_.out (by kernel_rfl)) (fun _ _ _ h => h) (Or.inl ⟨by rfl, ?_⟩) ?_ ?_; rotate_left; (· intro w'; go_simp; with_reducible rfl); rotate_left; (· simp only [Act.put, sq]; rfl)
                            refine take_ (i := 8) (N := some 81) (v := ?_) (a' := ?_) #[T, F, F, T, T, T, T, T, T, F] rfl rfl (take_ofW HT_.out HW_.out (by kernel_rfl)) (fun _ _ _ h => h) (Or.inl ⟨by rfl, ?_⟩) hHeld ?_ ?_; rotate_left; (· rintro w' s0; have s1 := Kd.C_string (P := Try.prog) (A := A47) (c := (c0 - a1.toNat)) Try.underlying36 Try.underlying5 Try.underlying9 s0; clear s0; go_simp; with_reducible rfl); rotate_left; (· simp only [Act.put, sq]; rfl)
                            refine one_ (i := 1) (N := some 74) #[T, T, F, T, T, T, T, T, T, F] rfl rfl (one_of HT_.out (by kernel_rfl)) (by decide) (fun K hK => ?_)
                            refine goes_ Try.func19 (by kernel_rfl) rfl #[.int .i64 (wrap64 (IntKind.u64.wrap (Int.tdiv x8_4 2)))] (by rfl) rfl rfl (by (try simp only [List.map_toArray, List.map_cons, List.map_nil]); first | done | rfl | (simp only [List.length_drop, List.length_take]; rfl)) ?_
                            with_reducible refine (trommelref39_Int.calls (wrap64 (IntKind.u64.wrap (Int.tdiv x8_4 2))) t356 _ A35.out).mono ?_
                            rintro e w48 ⟨v357, rfl, ho0, hb⟩
                            refine ⟨_, rfl, ?_⟩
                            have HO358 := Aside0.mk (Kd.R_lower ho0 (Lz HB))
                            replace HB := Lb HB hb
                            try clear hb; try clear hb2; try clear hk; try clear hi; try clear ho0
                            refine hK.out _ _ (by first | exact HS.out _ HB.out | exact hHeld) (fun hHeld => ?_)
                            clear hK K
                            refine norm_ (a' := ?_) ?_ ?_; rotate_left; (· show Act.put _ (some 74) _ = _; simp only [Act.put, sq]; rfl)
                            refine one_ (i := 2) (N := some 75) #[T, T, T, T, T, T, T, T, T, F] rfl rfl (one_of HT_.out (by kernel_rfl)) (by decide) (fun K hK => ?_)
                            have hcv49 := own_string (P := Try.prog) Try.underlying36 Try.underlying5 Try.underlying9 (Kd.own_of_R HO358.out)
                            refine value_ (w1 := ?_) (v := ?_) (by rfl) rfl ?_ ?_
                            rotate_left 2
                            · go_simp
                              constructor
                              · rfl
                              · rfl
                            clear hcv49
                            refine hK.out _ _ (by first | exact HS.out _ HB.out | exact hHeld) (fun hHeld => ?_)
                            clear hK K
                            refine norm_ (a' := ?_) ?_ ?_; rotate_left; (· show Act.put _ (some 75) _ = _; simp only [Act.put, sq]; rfl)
                            refine pure_ (i := 9) (N := some 82) (v := ?_) (a' := ?_) #[T, T, T, T, T, T, T, T, T, T] rfl rfl (any_of HT_.out (by kernel_rfl)) (fun _ _ _ h => h) (Or.inl ⟨by rfl, ?_⟩) ?_ ?_; rotate_left; (· intro w'; go_simp; with_reducible rfl); rotate_left; (· simp only [Act.put, sq]; rfl)
                            refine done_ (done_of HT_.out (by kernel_rfl)) ?_
                            try go_wp2
                            go_ret3
                            exact ⟨by first | rfl | (simp [errW_none, errW_some] <;> rfl) | (simp [*, errW_none, errW_some] <;> rfl), by repeat (first | (with_reducible first | exact HB.out | apply below_alloc | apply pw_below_drewN | apply below_drew1) | exact HB.out)⟩
end Go.Proofs.Ytobfhacdljmooaa.PCodeP
