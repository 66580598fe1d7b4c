-- written for this claim by wip/pr/hand.py (the kit's print, with contracts proved by hand)
import Derived.Test.YtobfhacdljmooaaPBloomx0
import Derived.Test.YtobfhacdljmooaaSq
import Derived.Test.YtobfhacdljmooaaPBloomx4
namespace Go.Proofs.Ytobfhacdljmooaa.PBloom
open Go.RowKit Go.Proofs.YtobfhacdljmooaaW.PrintWords Go.Proofs.YtobfhacdljmooaaW.PrintLast Go.Proofs.YtobfhacdljmooaaW.PrintMore Go.Proofs.Ytobfhacdljmooaa.Sq
attribute [local go_sem] max2_int min2_int max_two min_two max_three min_three max_four min_four   -- for this text's walks alone
set_option linter.unusedVariables false
set_option linter.unusedSimpArgs false

/-! ### trommelref18_Size: function 33 -/
def trommelref18_Size.l0 : Nat → Int → Int → Option (Int)
  | 0, _, _ => none
  | k + 1, x5, x6 => if x6 < 4096 then (if (wrap64 (64 * x6)) ≥ x5 then (some x6) else (trommelref18_Size.l0 k x5 (wrap64 (2 * x6)))) else (some 4096)
def trommelref18_Size.f (k : Nat) (a0 : Int) (a1 : Int) : Option (Int) := (trommelref18_held.f a0 0 1048576).bind fun t300 => ((trommelref18_held.f a1 0 1048576).bind fun t301 => (trommelref18_Size.l0 k (wrap64 (t300 * t301)) 1))
theorem trommelref18_Size.mono_l : ∀ k, (∀ y0 y1, LeO (trommelref18_Size.l0 k y0 y1) (trommelref18_Size.l0 (k + 1) y0 y1))
  | 0 => fun _ _ r h => by simp [trommelref18_Size.l0] at h
  | k + 1 => by
    have ih0 := trommelref18_Size.mono_l k
    · intro y0 y1
      unfold trommelref18_Size.l0
      repeat' first
      | (with_reducible exact ih0 _ _)
      | (with_reducible exact LeO.refl _)
      | (with_reducible exact LeO.none _)
      | (with_reducible refine LeO.ite ?_ ?_)
      | (with_reducible refine LeO.bind ?_ (fun _ => ?_))
      | exact ih0 _ _
      | exact LeO.none _
      | refine LeO.ite ?_ ?_
      | refine LeO.bind ?_ (fun _ => ?_)
theorem trommelref18_Size.mono : ∀ a0 a1 k, LeO (trommelref18_Size.f k a0 a1) (trommelref18_Size.f (k + 1) a0 a1) := by
  intro a0 a1 k
  have ih0 := trommelref18_Size.mono_l k
  unfold trommelref18_Size.f
  repeat' first
      | (with_reducible exact ih0 _ _)
      | (with_reducible exact LeO.refl _)
      | (with_reducible exact LeO.none _)
      | (with_reducible refine LeO.ite ?_ ?_)
      | (with_reducible refine LeO.bind ?_ (fun _ => ?_))
      | exact ih0 _ _
      | exact LeO.none _
      | refine LeO.ite ?_ ?_
      | refine LeO.bind ?_ (fun _ => ?_)
set_option maxHeartbeats 8000000 in
set_option maxRecDepth 100000 in
theorem trommelref18_Size.calls (k : Nat) (a0 : Int) (a1 : Int) (r : Int) (w : World) (h : trommelref18_Size.f k a0 a1 = some r) :
    Calls Try.prog 33 #[.int .i64 a0, .int .i64 a1] w fun e w' => e = .returned (.int .i64 r) ∧ Drawn0 w w' := by
  have H : ((trommelref18_held.f a0 0 1048576).bind fun t300 => ((trommelref18_held.f a1 0 1048576).bind fun t301 => (trommelref18_Size.l0 k (wrap64 (t300 * t301)) 1))) = some r := h
  clear h
  replace H := Option.bind_eq_some_iff.mp H
  obtain ⟨t300, A30, H⟩ := H
  replace H : ((trommelref18_held.f a1 0 1048576).bind fun t301 => (trommelref18_Size.l0 k (wrap64 (t300 * t301)) 1)) = some r := H
  have A3 := Aside0.mk A30
  clear A30
  replace H := Option.bind_eq_some_iff.mp H
  obtain ⟨t301, A40, H⟩ := H
  replace H : (trommelref18_Size.l0 k (wrap64 (t300 * t301)) 1) = some r := H
  have A4 := Aside0.mk A40
  clear A40
  have H' := Aside0.mk H
  clear H
  go_enter Try.func33, Try.ntmps33
  go_wp2_with (first | ((with_reducible refine gate_callee (f := 46) rfl ?_); refine goesL_ (some 8) rfl rfl Try.func46 (by kernel_rfl) rfl #[.int .i64 a0, .int .i64 0, .int .i64 1048576] rfl (by (try simp only [List.map_toArray, List.map_cons, List.map_nil]); first | done | rfl | (simp only [List.length_drop, List.length_take]; rfl)) ?_; (with_reducible refine (trommelref18_held.calls a0 0 1048576 t300 _ A3.out).mono ?_); rintro e w' ⟨rfl, ⟨nd, rfl⟩⟩; refine ⟨_, rfl, ?_⟩) | ((with_reducible refine gate_callee (f := 46) rfl ?_); refine goesL_ (some 10) rfl rfl Try.func46 (by kernel_rfl) rfl #[.int .i64 a1, .int .i64 0, .int .i64 1048576] rfl (by (try simp only [List.map_toArray, List.map_cons, List.map_nil]); first | done | rfl | (simp only [List.length_drop, List.length_take]; rfl)) ?_; (with_reducible refine (trommelref18_held.calls a1 0 1048576 t301 _ A4.out).mono ?_); rintro e w' ⟨rfl, ⟨nd, rfl⟩⟩; refine ⟨_, rfl, ?_⟩))
  go_loopg [6] k (fun kq v6 w' => ∃ (x6_1 : Int), v6 = .int .i64 x6_1 ∧ Aside0 (trommelref18_Size.l0 kq (wrap64 (t300 * t301)) x6_1 = some r) ∧ Aside0 (kq ≤ k) ∧ Drawn0 w w')
  case atStart => exact ⟨(1), (by first | rfl | (simp; done) | (simp [*]; done)), H', ⟨Nat.le_refl _⟩, by repeat (first | exact Drawn0.refl _ | apply Drawn0.step)⟩
  case round =>
    clear H'
    try clear p2; try clear c3; try clear c4
    obtain ⟨x6_1, rfl, HA, HK1, ⟨m1, rfl⟩⟩ := hrel
    cases gk with
    | zero => exact absurd HA.out (by simp [trommelref18_Size.l0])
    | succ k1 =>
      have H := HA.out
      clear HA
      simp only [trommelref18_Size.l0] at H
      by_cases c5 : x6_1 < 4096
      · rw [if_pos c5] at H
        have c5b0 : decide (x6_1 < 4096) = true := decide_eq_true c5
        clear c5
        by_cases c6 : (wrap64 (64 * x6_1)) ≥ (wrap64 (t300 * t301))
        · rw [if_pos c6] at H
          have c6b0 : decide ((wrap64 (t300 * t301)) ≤ (wrap64 (64 * x6_1))) = true := decide_eq_true c6
          clear c6
          obtain rfl := Option.some.inj H
          go_wp2
          go_ret
          exact ⟨by first | rfl | (simp; done) | (simp [*]; done), by repeat (first | exact Drawn0.refl _ | apply Drawn0.step)⟩
        · rw [if_neg c6] at H
          have c6b0 : decide ((wrap64 (t300 * t301)) ≤ (wrap64 (64 * x6_1))) = false := decide_eq_false c6
          clear c6
          have H' := Aside0.mk H
          clear H
          go_wp2
          go_roundg k1
          case measure => have := HK1.out; omega
          case rel => exact ⟨(wrap64 (2 * x6_1)), (by first | rfl | (simp; done) | (simp [*]; done)), H', ⟨by have := HK1.out; omega⟩, by repeat (first | exact Drawn0.refl _ | apply Drawn0.step)⟩
      · rw [if_neg c5] at H
        have c5b0 : decide (x6_1 < 4096) = false := decide_eq_false c5
        clear c5
        obtain rfl := Option.some.inj H
        go_wp2
        go_ret
        exact ⟨by first | rfl | (simp; done) | (simp [*]; done), by repeat (first | exact Drawn0.refl _ | apply Drawn0.step)⟩

end Go.Proofs.Ytobfhacdljmooaa.PBloom
