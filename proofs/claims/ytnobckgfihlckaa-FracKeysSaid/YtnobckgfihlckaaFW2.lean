/- The walks of layer 28's functions over floats: the second part. -/
import Derived.Test.YtnobckgfihlckaaFW1
import Derived.Laws.Bits64
import Derived.Laws.BitsAllLaws
namespace Go.Proofs.Ytnobckgfihlckaa.FW
open Go.RowKit Go.Proofs.Ytnobckgfihlckaa Go.Proofs.Ytnobckgfihlckaa.Fl Go.Proofs.YtnobckgfihlckaaW.PrintWords Go.Proofs.YtnobckgfihlckaaW.PrintLast Go.Proofs.YtnobckgfihlckaaW.PrintMore
attribute [local go_sem] max2_int min2_int max_two min_two max_three min_three max_four min_four
set_option linter.unusedVariables false
set_option linter.unusedSimpArgs false

theorem xor_all (a : Nat) (ha : a < 18446744073709551616) : bits .xor .u64 IntKind.u64.max (a : Int) = 18446744073709551615 - (a : Int) := by
  have h := bits_xor_u64_nat 18446744073709551615 a (by decide) ha
  rw [show IntKind.u64.max = ((18446744073709551615 : Nat) : Int) from rfl, h]
  have h2 : 18446744073709551615 ^^^ a = 2 ^ 64 - (a + 1) := by
    apply Nat.eq_of_testBit_eq
    intro i
    rw [Nat.testBit_xor, show 18446744073709551615 = 2 ^ 64 - 1 from rfl, Nat.testBit_two_pow_sub_one, Nat.testBit_two_pow_sub_succ ha]
    by_cases hi : i < 64
    · simp [hi]
    · simp only [hi, decide_false, Bool.false_xor, Bool.false_and]
      exact Nat.testBit_lt_two_pow (Nat.lt_of_lt_of_le ha (Nat.pow_le_pow_right (n := 2) (by decide) (show 64 ≤ i by omega)))
  rw [h2]
  omega
theorem or_half (a : Nat) (ha : a < 9223372036854775808) : bits .or .u64 (a : Int) 9223372036854775808 = 9223372036854775808 + (a : Int) := by
  have h := u64_or_nat a 9223372036854775808 (by omega) (by decide)
  refine h.trans ?_
  have h2 := Nat.two_pow_add_eq_or_of_lt (i := 63) (b := a) ha 1
  rw [Nat.or_comm, show (9223372036854775808 : Nat) = 2 ^ 63 * 1 from rfl, ← h2]
  omega
theorem cN_lt (a : Nat) : cN a < 18446744073709551616 := by have := cN_le a; omega
set_option maxHeartbeats 8000000 in
set_option maxRecDepth 100000 in
theorem nott (a : Nat) (ha : a < 18446744073709551616) (w : World) : Calls Try.prog 19 #[.float .f64 a] w fun e w' => e = .returned (.float .f64 (notN a)) ∧ w' = w := by
  have h1 := run_float_arith (P := Try.prog) w .sub 22 .f64 4607182418800017408 (cN a) (notN a) (notN_eq a)
  go_enter Try.func19, Try.ntmps19
  go_wp2_with (go_at_call 10; with_reducible refine (clean a ha _).mono ?_; rintro e w1 ⟨rfl, rfl⟩)
  go_ret
  exact ⟨rfl, rfl⟩
set_option maxHeartbeats 8000000 in
set_option maxRecDepth 100000 in
theorem rnot (a : Nat) (w : World) : Calls Try.prog 22 #[.float .f64 a] w fun e w' => e = .returned (.float .f64 (notN a)) ∧ w' = w := by
  have h1 := run_float_arith (P := Try.prog) w .sub 22 .f64 4607182418800017408 (cN a) (notN a) (notN_eq a)
  go_enter Try.func22, Try.ntmps22
  go_wp2_with (go_at_call 13; with_reducible refine (rclean a _).mono ?_; rintro e w1 ⟨rfl, rfl⟩)
  go_ret
  exact ⟨rfl, rfl⟩
set_option maxHeartbeats 8000000 in
set_option maxRecDepth 100000 in
theorem orr (a b : Nat) (ha : a < 18446744073709551616) (hb : b < 18446744073709551616) (w : World) : Calls Try.prog 20 #[.float .f64 a, .float .f64 b] w fun e w' => e = .returned (.float .f64 (orN a b)) ∧ w' = w := by
  have h1 := fun w => run_float_arith (P := Try.prog) w .mul 22 .f64 (cN a) (cN b) _ (mulN_eq _ _ (cN_le a) (cN_le b))
  have h2 := fun w => run_float_arith (P := Try.prog) w .add 22 .f64 (cN a) (cN b) _ (addN_eq _ _ (cN_le a) (cN_le b))
  have h3 := fun w => run_float_arith (P := Try.prog) w .sub 22 .f64 _ _ _ (orN_eq a b)
  have hd := orN_eq a b
  have hlt : RD (V (addN (cN a) (cN b)) - V (mulN (cN a) (cN b))) 0 < 18446744073709551616 := by have := RD_le (V (addN (cN a) (cN b)) - V (mulN (cN a) (cN b))) 0; omega
  have hr : orN a b = cN (RD (V (addN (cN a) (cN b)) - V (mulN (cN a) (cN b))) 0) := rfl
  rw [hr]
  clear hd hr
  generalize RD (V (addN (cN a) (cN b)) - V (mulN (cN a) (cN b))) 0 = z at *
  go_enter Try.func20, Try.ntmps20
  go_wp2_with (first | (go_at_call 10; with_reducible refine (clean a ha _).mono ?_; rintro e w1 ⟨rfl, rfl⟩) | (go_at_call 10; with_reducible refine (clean b hb _).mono ?_; rintro e w1 ⟨rfl, rfl⟩) | (go_at_call 10; with_reducible refine (clean z hlt _).mono ?_; rintro e w1 ⟨rfl, rfl⟩))
  go_ret
  exact ⟨rfl, rfl⟩
set_option maxHeartbeats 8000000 in
set_option maxRecDepth 100000 in
theorem ror (a b : Nat) (w : World) : Calls Try.prog 23 #[.float .f64 a, .float .f64 b] w fun e w' => e = .returned (.float .f64 (orN a b)) ∧ w' = w := by
  have h1 := fun w => run_float_arith (P := Try.prog) w .mul 22 .f64 (cN a) (cN b) _ (mulN_eq _ _ (cN_le a) (cN_le b))
  have h2 := fun w => run_float_arith (P := Try.prog) w .add 22 .f64 (cN a) (cN b) _ (addN_eq _ _ (cN_le a) (cN_le b))
  have h3 := fun w => run_float_arith (P := Try.prog) w .sub 22 .f64 _ _ _ (orN_eq a b)
  have hd := orN_eq a b
  have hlt : RD (V (addN (cN a) (cN b)) - V (mulN (cN a) (cN b))) 0 < 18446744073709551616 := by have := RD_le (V (addN (cN a) (cN b)) - V (mulN (cN a) (cN b))) 0; omega
  have hr : orN a b = cN (RD (V (addN (cN a) (cN b)) - V (mulN (cN a) (cN b))) 0) := rfl
  rw [hr]
  clear hd hr
  generalize RD (V (addN (cN a) (cN b)) - V (mulN (cN a) (cN b))) 0 = z at *
  go_enter Try.func23, Try.ntmps23
  go_wp2_with (first | (go_at_call 13; with_reducible refine (rclean a _).mono ?_; rintro e w1 ⟨rfl, rfl⟩) | (go_at_call 13; with_reducible refine (rclean b _).mono ?_; rintro e w1 ⟨rfl, rfl⟩) | (go_at_call 13; with_reducible refine (rclean z _).mono ?_; rintro e w1 ⟨rfl, rfl⟩))
  go_ret
  exact ⟨rfl, rfl⟩
set_option maxHeartbeats 8000000 in
set_option maxRecDepth 100000 in
theorem cut (n : Int) (w : World) : Calls Try.prog 30 #[.int .i64 n] w fun e w' => e = .returned (.int .i64 (((max 0 (min n 4611686018427387904)).toNat : Nat) : Int)) ∧ w' = w := by
  have hr : (((max 0 (min n 4611686018427387904)).toNat : Nat) : Int) = if 0 < (if 4611686018427387904 < n then 4611686018427387904 else n) then (if 4611686018427387904 < n then 4611686018427387904 else n) else 0 := by
    (repeat' split) <;> omega
  rw [hr]
  clear hr
  go_enter Try.func30, Try.ntmps30
  go_wp2
  all_goals (go_ret; exact ⟨rfl, rfl⟩)
set_option maxHeartbeats 8000000 in
set_option maxRecDepth 100000 in
theorem rcut (n : Int) (w : World) : Calls Try.prog 31 #[.int .i64 n] w fun e w' => e = .returned (.int .i64 (((max 0 (min n 4611686018427387904)).toNat : Nat) : Int)) ∧ w' = w := by
  by_cases c1 : n < 0
  · rw [show (((max 0 (min n 4611686018427387904)).toNat : Nat) : Int) = 0 by omega]
    replace c1 : decide (n < 0) = true := decide_eq_true c1
    go_enter Try.func31, Try.ntmps31
    go_wp2
    go_ret
    exact ⟨rfl, rfl⟩
  · by_cases c2 : 4611686018427387904 < n
    · rw [show (((max 0 (min n 4611686018427387904)).toNat : Nat) : Int) = 4611686018427387904 by omega]
      replace c1 : decide (n < 0) = false := decide_eq_false c1
      replace c2 : decide (4611686018427387904 < n) = true := decide_eq_true c2
      go_enter Try.func31, Try.ntmps31
      go_wp2
      go_ret
      exact ⟨rfl, rfl⟩
    · rw [show (((max 0 (min n 4611686018427387904)).toNat : Nat) : Int) = n by omega]
      replace c1 : decide (n < 0) = false := decide_eq_false c1
      replace c2 : decide (4611686018427387904 < n) = false := decide_eq_false c2
      go_enter Try.func31, Try.ntmps31
      go_wp2
      go_ret
      exact ⟨rfl, rfl⟩
set_option maxHeartbeats 8000000 in
set_option maxRecDepth 100000 in
theorem key (a : Nat) (ha : a < 18446744073709551616) (w : World) : Calls Try.prog 33 #[.float .f64 a] w fun e w' => e = .returned (.int .u64 (keyN a)) ∧ w' = w := by
  have h1 := fun w => bits_run a w
  have hn := nan_self a ha
  obtain ⟨z, hz⟩ : ∃ z : Int, (a : Int) = z := ⟨_, rfl⟩
  cases c1 : (FloatKind.f64.format.order a a != some .eq)
  case true =>
    have hr : keyN a = 18446744073709551615 := by
      rw [ieee, hn, decide_eq_true_eq] at c1
      unfold keyN; rw [if_pos c1]
    rw [hr]
    clear hr hn
    go_enter Try.func33, Try.ntmps33
    go_wp2_with (go_at_call 42; with_reducible refine (isnan a _).mono ?_; rintro e w1 ⟨rfl, rfl⟩)
    go_ret
    exact ⟨rfl, rfl⟩
  case false =>
    rw [ieee, hn, decide_eq_false_iff_not] at c1
    have c1' : (FloatKind.f64.format.order a a != some .eq) = false := by rw [ieee, hn]; exact decide_eq_false c1
    by_cases c2 : 9223372036854775808 ≤ a
    · have hr : keyN a = bits BinOp.xor IntKind.u64 IntKind.u64.max z := by
        rw [← hz, xor_all a ha]
        unfold keyN; rw [if_neg c1, if_pos c2]
      have c3 : (z / 9223372036854775808 == 1) = true := beq_iff_eq.mpr (by omega)
      rw [hr]
      rw [hz] at h1
      have z0 : 0 ≤ z := by omega
      have z1 : z ≤ 18446744073709551615 := by omega
      clear hr hn hz c1 c2
      go_enter Try.func33, Try.ntmps33
      go_wp2_with (go_at_call 42; with_reducible refine (isnan a _).mono ?_; rintro e w1 ⟨rfl, rfl⟩)
      go_ret
      exact ⟨rfl, rfl⟩
    · have hr : keyN a = bits BinOp.or IntKind.u64 z 9223372036854775808 := by
        rw [← hz, or_half a (by omega)]
        unfold keyN; rw [if_neg c1, if_neg c2]
      have c3 : (z / 9223372036854775808 == 1) = false := beq_eq_false_iff_ne.mpr (by omega)
      rw [hr]
      rw [hz] at h1
      have z0 : 0 ≤ z := by omega
      have z1 : z ≤ 18446744073709551615 := by omega
      clear hr hn hz c1 c2
      go_enter Try.func33, Try.ntmps33
      go_wp2_with (go_at_call 42; with_reducible refine (isnan a _).mono ?_; rintro e w1 ⟨rfl, rfl⟩)
      go_ret
      exact ⟨rfl, rfl⟩
set_option maxHeartbeats 8000000 in
set_option maxRecDepth 100000 in
theorem rkey (a : Nat) (ha : a < 18446744073709551616) (w : World) : Calls Try.prog 34 #[.float .f64 a] w fun e w' => e = .returned (.int .u64 (keyN a)) ∧ w' = w := by
  have h1 := bits_run a w
  obtain ⟨z, hz⟩ : ∃ z : Int, (a : Int) = z := ⟨_, rfl⟩
  rw [hz] at h1
  have z0 : 0 ≤ z := by omega
  have z1 : z ≤ 18446744073709551615 := by omega
  have hc : keyN a = if 9218868437227405312 < z % 9223372036854775808 then 18446744073709551615 else if z ≠ z % 9223372036854775808 then 9223372036854775807 - z % 9223372036854775808 else 9223372036854775808 + z := by
    clear h1
    unfold keyN
    (repeat' split) <;> omega
  rw [hc]
  clear hc hz
  have t0 : 0 ≤ z % 9223372036854775808 := by omega
  have t1 : z % 9223372036854775808 < 9223372036854775808 := by omega
  by_cases c1 : 9218868437227405312 < z % 9223372036854775808
  · rw [if_pos c1]
    replace c1 : decide (9218868437227405312 < z % 9223372036854775808) = true := decide_eq_true c1
    go_enter Try.func34, Try.ntmps34
    go_wp2
    go_ret
    exact ⟨rfl, rfl⟩
  · rw [if_neg c1]
    by_cases c2 : z ≠ z % 9223372036854775808
    · rw [if_pos c2]
      replace c1 : decide (9218868437227405312 < z % 9223372036854775808) = false := decide_eq_false c1
      have c2a : (z == z % 9223372036854775808) = false := beq_eq_false_iff_ne.mpr c2
      have c2b : (z != z % 9223372036854775808) = true := bne_iff_ne.mpr c2
      clear c2
      go_enter Try.func34, Try.ntmps34
      go_wp2
      go_ret
      exact ⟨rfl, rfl⟩
    · rw [if_neg c2]
      have c2e : z % 9223372036854775808 = z := (Decidable.not_not.mp c2).symm
      rw [c2e] at c1 t1
      replace c1 : decide (9218868437227405312 < z) = false := decide_eq_false c1
      clear c2 t0
      go_enter Try.func34, Try.ntmps34
      go_wp2
      go_ret
      exact ⟨rfl, rfl⟩
end Go.Proofs.Ytnobckgfihlckaa.FW
