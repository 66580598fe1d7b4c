/- The walks of layer 28's functions over floats: the third part: quotients, parts of a count. -/
import Derived.Test.YtnobckgfihlckaaFW2
namespace Go.Proofs.Ytnobckgfihlckaa.FW
open Go.RowKit Go.Proofs.Ytnobckgfihlckaa Go.Proofs.Ytnobckgfihlckaa.Fl Go.Proofs.YtnobckgfihlckaaW.PrintWords Go.Proofs.YtnobckgfihlckaaW.PrintLast Go.Proofs.YtnobckgfihlckaaW.PrintMore
attribute [local go_sem] max2_int min2_int max_two min_two max_three min_three max_four min_four
set_option linter.unusedVariables false
set_option linter.unusedSimpArgs false

theorem toF_int (n : Int) : floatOfInt .f64 n = toF n := rfl
theorem div_wf (a b : Int) (r : Nat) (h : D.div (toF a) (toF b) = some r) : r < 18446744073709551616 :=
  FloatKind.f64.format.div_lt h
/-- a NaN that the model draws is a NaN -/
theorem nan_cut (x y t : Nat) : 9218868437227405312 < Question.cut (.nanBits .f64 x y) t % 9223372036854775808 ∧ Question.cut (.nanBits .f64 x y) t < 18446744073709551616 := by
  have e1 : t % 2 = 0 ∨ t % 2 = 1 := by omega
  have e2 : t / 2 % (2 ^ 52 - 1) < 4503599627370495 := Nat.mod_lt _ (by decide)
  show 9218868437227405312 < ((t % 2) * 2 ^ 63 + 0x7ff0000000000000 + 1 + (t / 2) % (2 ^ 52 - 1)) % 9223372036854775808 ∧ ((t % 2) * 2 ^ 63 + 0x7ff0000000000000 + 1 + (t / 2) % (2 ^ 52 - 1)) < 18446744073709551616
  generalize t / 2 % (2 ^ 52 - 1) = u at *
  rcases e1 with e1 | e1 <;> rw [e1] <;> omega
theorem cN_nan (b : Nat) (h : 9218868437227405312 < b % 9223372036854775808) : cN b = 4607182418800017408 := by unfold cN; rw [if_pos h]
/-- what a quotient's walk gives -/
theorem quo_run (x y : Nat) (w : World) : (∃ r, D.div x y = some r ∧ (binOp .quo 22 (.float .f64 x) (.float .f64 y)).run Try.prog w = .ok (.float .f64 r) w) ∨
    (D.div x y = none ∧ ∃ r, r < 18446744073709551616 ∧ cN r = 4607182418800017408 ∧ (binOp .quo 22 (.float .f64 x) (.float .f64 y)).run Try.prog w = .ok (.float .f64 r) (w.drewN 1)) := by
  cases h : D.div x y with
  | some r => exact .inl ⟨r, rfl, run_float_arith (P := Try.prog) w .quo 22 .f64 x y r h⟩
  | none =>
    refine .inr ⟨rfl, Question.cut (.nanBits .f64 x y) (w.tape w.drawn (.nanBits .f64 x y)), (nan_cut _ _ _).2, cN_nan _ (nan_cut _ _ _).1, ?_⟩
    have h' : FloatKind.f64.format.div x y = none := h
    simp [binOp, Op.floatArith, h', run_choose_drew, Question.forced]
    rfl
set_option maxHeartbeats 8000000 in
set_option maxRecDepth 100000 in
theorem off (a b : Int) (w : World) : Calls Try.prog 11 #[.int .i64 a, .int .i64 b] w fun e w' => e = .returned (.float .f64 (ofN a b)) ∧ ∃ nd, w' = w.drewN nd := by
  have hf := toF_int
  rcases quo_run (toF a) (toF b) w with ⟨r, h, h1⟩ | ⟨h, r, hr, hc, h1⟩
  · have ho : ofN a b = cN r := by unfold ofN; rw [h]
    have hr := div_wf a b r h
    rw [ho]
    clear h ho
    go_enter Try.func11, Try.ntmps11
    go_wp2_with (go_at_call 10; with_reducible refine (clean r hr _).mono ?_; rintro e w1 ⟨rfl, rfl⟩)
    go_ret
    exact ⟨rfl, 0, rfl⟩
  · have ho : ofN a b = cN r := by unfold ofN; rw [h, hc]
    rw [ho]
    clear h ho hc
    go_enter Try.func11, Try.ntmps11
    go_wp2_with (go_at_call 10; with_reducible refine (clean r hr _).mono ?_; rintro e w1 ⟨rfl, rfl⟩)
    go_ret
    exact ⟨rfl, 1, rfl⟩
set_option maxHeartbeats 8000000 in
set_option maxRecDepth 100000 in
theorem roff (a b : Int) (w : World) : Calls Try.prog 15 #[.int .i64 a, .int .i64 b] w fun e w' => e = .returned (.float .f64 (rofN a b)) ∧ ∃ nd, w' = w.drewN nd := by
  have hf := toF_int
  unfold rofN
  by_cases b0 : b = 0
  · rw [if_pos b0]
    subst b0
    by_cases a0 : a < 0
    · rw [if_pos a0]
      replace a0 : decide (a < 0) = true := decide_eq_true a0
      go_enter Try.func15, Try.ntmps15
      go_wp2
      go_ret
      exact ⟨rfl, 0, rfl⟩
    · rw [if_neg a0]
      replace a0 : decide (a < 0) = false := decide_eq_false a0
      go_enter Try.func15, Try.ntmps15
      go_wp2
      go_ret
      exact ⟨rfl, 0, rfl⟩
  · rw [if_neg b0]
    have b1 : (b == 0) = false := beq_eq_false_iff_ne.mpr b0
    by_cases hz : a = 0 ∨ (a < 0 ∧ 0 < b) ∨ (0 < a ∧ b < 0)
    · rw [if_pos hz]
      by_cases a0 : a = 0
      · subst a0
        clear hz b0
        go_enter Try.func15, Try.ntmps15
        go_wp2
        go_ret
        exact ⟨rfl, 0, rfl⟩
      · have a1 : (a == 0) = false := beq_eq_false_iff_ne.mpr a0
        by_cases an : a < 0
        · have bp : decide (0 < b) = true := decide_eq_true (by omega)
          replace an : decide (a < 0) = true := decide_eq_true an
          clear hz b0 a0
          go_enter Try.func15, Try.ntmps15
          go_wp2
          go_ret
          exact ⟨rfl, 0, rfl⟩
        · have bp : decide (b < 0) = true := decide_eq_true (by omega)
          have ap : decide (0 < a) = true := decide_eq_true (by omega)
          replace an : decide (a < 0) = false := decide_eq_false an
          clear hz b0 a0
          go_enter Try.func15, Try.ntmps15
          go_wp2
          go_ret
          exact ⟨rfl, 0, rfl⟩
    · rw [if_neg hz]
      have a1 : (a == 0) = false := beq_eq_false_iff_ne.mpr (by omega)
      have hs : (decide (a < 0) = true ∧ decide (0 < a) = false ∧ decide (0 < b) = false ∧ decide (b < 0) = true) ∨ (decide (a < 0) = false ∧ decide (0 < a) = true ∧ decide (0 < b) = true ∧ decide (b < 0) = false) := by
        simp only [decide_eq_true_eq, decide_eq_false_iff_not]
        omega
      rcases quo_run (toF a) (toF b) w with ⟨r, h, h1⟩ | ⟨h, r, hr, hc, h1⟩
      · have ho : ofN a b = cN r := by unfold ofN; rw [h]
        rw [ho]
        clear h ho hz b0
        rcases hs with ⟨s1, s2, s3, s4⟩ | ⟨s1, s2, s3, s4⟩
        all_goals
          go_enter Try.func15, Try.ntmps15
          go_wp2_with (go_at_call 13; with_reducible refine (rclean r _).mono ?_; rintro e w1 ⟨rfl, rfl⟩)
          go_ret
          exact ⟨rfl, 0, rfl⟩
      · have ho : ofN a b = cN r := by unfold ofN; rw [h, hc]
        rw [ho]
        clear h ho hc hz b0
        rcases hs with ⟨s1, s2, s3, s4⟩ | ⟨s1, s2, s3, s4⟩
        all_goals
          go_enter Try.func15, Try.ntmps15
          go_wp2_with (go_at_call 13; with_reducible refine (rclean r _).mono ?_; rintro e w1 ⟨rfl, rfl⟩)
          go_ret
          exact ⟨rfl, 1, rfl⟩
attribute [local irreducible] FloatKind.decode in
theorem toIntegral_num (p : Nat) (s : Bool) (m : Nat) (i : Int) (hr : FloatKind.f64.decode p = .number s m i) (n : String) (way : Ieee.Toward) : Extern.MathFloor.toIntegral n way #[.float .f64 p] = pure (.float .f64 (FloatKind.f64.encode ((Ieee.Datum.number s m i).integral way))) := by
  conv => lhs; whnf
  rw [hr]
theorem archCeil_run (p q : Nat) (hp : p < 9218868437227405312) (h : D.write ((D.read p).integral .up) = q) (w : World) : Sem.run Try.prog (callFunc 53 #[.float .f64 p]) w = .ok (.value (.float .f64 q)) w := by
  rw [run_callFunc_extern (fn := Try.f53) (e := Extern.MathFloor.toIntegral "math.archCeil" .up) (by kernel_rfl) (by kernel_rfl) (by kernel_rfl) (by kernel_rfl) (by kernel_rfl)]
  have hr : D.read p = .number false (mg p) (pc p) := read_pos p hp
  rw [toIntegral_num p false (mg p) (pc p) hr]
  rw [hr] at h
  have hw : FloatKind.f64.encode ((Ieee.Datum.number false (mg p) (pc p)).integral .up) = q := h
  rw [hw]
  rfl
set_option maxHeartbeats 8000000 in
set_option maxRecDepth 100000 in
theorem ceil (p q : Nat) (hp : p < 9218868437227405312) (h : D.write ((D.read p).integral .up) = q) (w : World) : Calls Try.prog 44 #[.float .f64 p] w fun e w' => e = .returned (.float .f64 q) ∧ w' = w := by
  have h1 := archCeil_run p q hp h w
  clear h
  go_enter Try.func44, Try.ntmps44
  go_wp2
  go_ret
  exact ⟨rfl, rfl⟩
set_option maxHeartbeats 8000000 in
set_option maxRecDepth 100000 in
theorem scale (n : Int) (f : Nat) (hf : f < 18446744073709551616) (w : World) : Calls Try.prog 17 #[.int .i64 n, .float .f64 f] w fun e w' => e = .returned (.int .i64 ((scN (max 0 (min n 4611686018427387904)).toNat (cN f) : Nat) : Int)) ∧ w' = w := by
  have hc := fun w => cut n w
  obtain ⟨N, hN⟩ : ∃ N : Nat, (max 0 (min n 4611686018427387904)).toNat = N := ⟨_, rfl⟩
  have hN2 : N ≤ 4611686018427387904 := by omega
  rw [hN] at hc ⊢
  have hx : floatOfInt .f64 (N : Int) = xN N := by
    rw [toF_int, toF_eq, decide_eq_false (by omega), word_false]; rfl
  have hb := pN_le N (cN f) hN2 (cN_le f)
  have hm := fun w => run_float_arith (P := Try.prog) w .mul 22 .f64 (xN N) (cN f) (pN N (cN f)) (mul_eq _ _ (by have := xN_le N hN2; omega) (by have := cN_le f; omega))
  obtain ⟨q, hq1, hq2, hq3⟩ := ceil_int (pN N (cN f)) (by omega)
  have hu := upN_le (pN N (cN f)) hb
  have hi : floatToIntVal .f64 q .i64 = some ((upN (pN N (cN f)) : Nat) : Int) := by
    have hq3' : (FloatKind.f64.decode q).toInt .zero = some ((upN (pN N (cN f)) : Nat) : Int) := hq3
    unfold floatToIntVal
    rw [hq3']
    simp only
    rw [if_pos ⟨by show (-9223372036854775808 : Int) ≤ _; omega, by show _ ≤ (9223372036854775807 : Int); omega⟩]
  have hcv := fun w => run_convert_float_int (P := Try.prog) w 22 3 .f64 .i64 q _ (by kernel_rfl) Try.underlying3 hi
  have hr : ((scN N (cN f) : Nat) : Int) = if ((upN (pN N (cN f)) : Nat) : Int) < (N : Int) then ((upN (pN N (cN f)) : Nat) : Int) else (N : Int) := by
    unfold scN
    split <;> omega
  rw [hr]
  have hce := fun w => ceil (pN N (cN f)) q (by omega) hq2 w
  clear hr hq2 hq3 hi hN
  generalize upN (pN N (cN f)) = u at *
  generalize pN N (cN f) = p at *
  obtain ⟨x, hxx⟩ : ∃ x, xN N = x := ⟨_, rfl⟩
  rw [hxx] at hx hm
  clear hxx
  go_enter Try.func17, Try.ntmps17
  go_wp2_with (first | (go_at_call 30; with_reducible refine (hc _).mono ?_; rintro e w1 ⟨rfl, rfl⟩) | (go_at_call 10; with_reducible refine (clean f hf _).mono ?_; rintro e w1 ⟨rfl, rfl⟩) | (go_at_call 44; with_reducible refine (hce _).mono ?_; rintro e w1 ⟨rfl, rfl⟩))
  all_goals (go_ret; exact ⟨rfl, rfl⟩)
end Go.Proofs.Ytnobckgfihlckaa.FW
