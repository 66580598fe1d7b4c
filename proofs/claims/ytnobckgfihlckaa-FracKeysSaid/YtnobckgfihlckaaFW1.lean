/- The walks of layer 28's functions over floats. -/
import Derived.Test.YtnobckgfihlckaaPSatx0
import Derived.Test.YtnobckgfihlckaaFB5
import Derived.Laws.Externs
import Derived.Laws.Cover2
import Derived.Laws.FloatArith
namespace Go.Proofs.Ytnobckgfihlckaa.FW
open Go.RowKit Go.Proofs.Ytnobckgfihlckaa Go.Proofs.Ytnobckgfihlckaa.Fl Go.Proofs.YtnobckgfihlckaaW.PrintWords
set_option linter.unusedVariables false
set_option linter.unusedSimpArgs false

theorem bits_run (a : Nat) (w : World) : Sem.run Try.prog (callFunc 43 #[.float .f64 a]) w = .ok (.value (.int .u64 (a : Int))) w := by
  rw [run_callFunc_extern (fn := Try.f43) (e := Extern.MathFloatBits.float64bits) (by kernel_rfl) (by kernel_rfl) (by kernel_rfl) (by kernel_rfl) (by kernel_rfl)]
  rfl
theorem ieee (a : Nat) : FloatKind.f64.format.order a a = D.order a a := rfl
set_option maxHeartbeats 8000000 in
set_option maxRecDepth 100000 in
theorem isnan (a : Nat) (w : World) : Calls Try.prog 42 #[.float .f64 a] w fun e w' => e = .returned (.bool (FloatKind.f64.format.order a a != some .eq)) ∧ w' = w := by
  go_enter Try.func42, Try.ntmps42
  go_wp2
  go_ret
  exact ⟨rfl, rfl⟩

set_option maxHeartbeats 8000000 in
set_option maxRecDepth 100000 in
theorem same (a b : Nat) (w : World) : Calls Try.prog 12 #[.float .f64 a, .float .f64 b] w fun e w' => e = .returned (.bool (decide (a = b))) ∧ w' = w := by
  have h1 := bits_run a w
  have h2 := bits_run b w
  go_enter Try.func12, Try.ntmps12
  go_wp2
  go_ret
  refine ⟨congrArg (fun x => Ending.returned (.bool x)) ?_, rfl⟩
  by_cases h : a = b
  · subst h; simp
  · rw [decide_eq_false h]
    exact beq_eq_false_iff_ne.2 (by omega)

set_option maxHeartbeats 8000000 in
set_option maxRecDepth 100000 in
theorem share (a : Nat) (w : World) : Calls Try.prog 14 #[.float .f64 a] w fun e w' => e = .returned (.bool (decide (a ≤ 4607182418800017408))) ∧ w' = w := by
  have h1 := bits_run a w
  go_enter Try.func14, Try.ntmps14
  go_wp2
  go_ret
  refine ⟨congrArg (fun x => Ending.returned (.bool x)) ?_, rfl⟩
  exact decide_eq_decide.2 (by omega)

set_option maxHeartbeats 8000000 in
set_option maxRecDepth 100000 in
theorem rclean (a : Nat) (w : World) : Calls Try.prog 13 #[.float .f64 a] w fun e w' => e = .returned (.float .f64 (cN a)) ∧ w' = w := by
  have h1 := bits_run a w
  obtain ⟨z, hz⟩ : ∃ z : Int, (a : Int) = z := ⟨_, rfl⟩
  rw [hz] at h1
  have hc : cN a = if 9218868437227405312 < z.tmod 9223372036854775808 then 4607182418800017408 else if z ≠ z.tmod 9223372036854775808 then 0 else if z = 0 then 0 else if z ≥ 4607182418800017408 then 4607182418800017408 else a := by
    rw [Int.tmod_eq_emod_of_nonneg (by omega)]
    clear h1
    unfold cN
    (repeat' split) <;> omega
  rw [hc]
  clear hc hz
  by_cases c1 : 9218868437227405312 < z.tmod 9223372036854775808
  · rw [if_pos c1]
    replace c1 : decide (9218868437227405312 < z.tmod 9223372036854775808) = true := decide_eq_true c1
    go_enter Try.func13, Try.ntmps13
    go_wp2
    go_ret
    exact ⟨rfl, rfl⟩
  · rw [if_neg c1]
    by_cases c2 : z ≠ z.tmod 9223372036854775808
    · rw [if_pos c2]
      replace c1 : decide (9218868437227405312 < z.tmod 9223372036854775808) = false := decide_eq_false c1
      have c2a : (z == z.tmod 9223372036854775808) = false := beq_eq_false_iff_ne.mpr c2
      have c2b : (z != z.tmod 9223372036854775808) = true := bne_iff_ne.mpr c2
      clear c2
      go_enter Try.func13, Try.ntmps13
      go_wp2
      go_ret
      exact ⟨rfl, rfl⟩
    · rw [if_neg c2]
      have c2e : z.tmod 9223372036854775808 = z := (Decidable.not_not.mp c2).symm
      rw [c2e] at c1
      replace c1 : decide (9218868437227405312 < z) = false := decide_eq_false c1
      clear c2
      by_cases c3 : z = 0
      · rw [if_pos c3]
        subst c3
        go_enter Try.func13, Try.ntmps13
        go_wp2
        go_ret
        exact ⟨rfl, rfl⟩
      · rw [if_neg c3]
        replace c3 : (z == 0) = false := beq_eq_false_iff_ne.mpr c3
        by_cases c4 : z ≥ 4607182418800017408
        · rw [if_pos c4]
          replace c4 : decide (4607182418800017408 ≤ z) = true := decide_eq_true c4
          go_enter Try.func13, Try.ntmps13
          go_wp2
          go_ret
          exact ⟨rfl, rfl⟩
        · rw [if_neg c4]
          replace c4 : decide (4607182418800017408 ≤ z) = false := decide_eq_false c4
          go_enter Try.func13, Try.ntmps13
          go_wp2
          go_ret
          exact ⟨rfl, rfl⟩

set_option maxHeartbeats 8000000 in
set_option maxRecDepth 100000 in
theorem clean (a : Nat) (ha : a < 18446744073709551616) (w : World) : Calls Try.prog 10 #[.float .f64 a] w fun e w' => e = .returned (.float .f64 (cN a)) ∧ w' = w := by
  have hc := clean_eq a ha
  cases c1 : (FloatKind.f64.format.order a a != some .eq)
  case true =>
    have hr : cN a = 4607182418800017408 := by rw [← hc, if_pos (by show (FloatKind.f64.format.order a _ != _) = true; exact c1)]
    rw [hr]
    clear hc hr
    go_enter Try.func10, Try.ntmps10
    go_wp2_with (go_at_call 42; with_reducible refine (isnan a _).mono ?_; rintro e w1 ⟨rfl, rfl⟩)
    all_goals (go_ret; exact ⟨rfl, rfl⟩)
  case false =>
    cases c2 : (FloatKind.f64.format.order a 4607182418800017408 == some .gt)
    case true =>
      have hr : cN a = 4607182418800017408 := by rw [← hc, if_neg (by show ¬ (FloatKind.f64.format.order a _ != _) = true; rw [c1]; decide), if_pos (by show (FloatKind.f64.format.order a _ == _) = true; exact c2)]
      rw [hr]
      clear hc hr
      go_enter Try.func10, Try.ntmps10
      go_wp2_with (go_at_call 42; with_reducible refine (isnan a _).mono ?_; rintro e w1 ⟨rfl, rfl⟩)
      all_goals (go_ret; exact ⟨rfl, rfl⟩)
    case false =>
      cases c3 : (FloatKind.f64.format.order a 0 == some .gt)
      case true =>
        have hr : cN a = a := by rw [← hc, if_neg (by show ¬ (FloatKind.f64.format.order a _ != _) = true; rw [c1]; decide), if_neg (by show ¬ (FloatKind.f64.format.order a _ == _) = true; rw [c2]; decide), if_pos (by show (FloatKind.f64.format.order a _ == _) = true; exact c3)]
        rw [hr]
        clear hc hr
        go_enter Try.func10, Try.ntmps10
        go_wp2_with (go_at_call 42; with_reducible refine (isnan a _).mono ?_; rintro e w1 ⟨rfl, rfl⟩)
        all_goals (go_ret; exact ⟨rfl, rfl⟩)
      case false =>
        have hr : cN a = 0 := by rw [← hc, if_neg (by show ¬ (FloatKind.f64.format.order a _ != _) = true; rw [c1]; decide), if_neg (by show ¬ (FloatKind.f64.format.order a _ == _) = true; rw [c2]; decide), if_neg (by show ¬ (FloatKind.f64.format.order a _ == _) = true; rw [c3]; decide)]
        rw [hr]
        clear hc hr
        go_enter Try.func10, Try.ntmps10
        go_wp2_with (go_at_call 42; with_reducible refine (isnan a _).mono ?_; rintro e w1 ⟨rfl, rfl⟩)
        all_goals (go_ret; exact ⟨rfl, rfl⟩)
end Go.Proofs.Ytnobckgfihlckaa.FW
