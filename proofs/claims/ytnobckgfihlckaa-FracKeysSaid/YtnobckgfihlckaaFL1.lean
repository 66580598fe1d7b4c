/- The laws of layer 28 that hold no slice: FracCleans, FracScales: their walks. -/
import Derived.Test.YtnobckgfihlckaaFW4
namespace Go.Proofs.Ytnobckgfihlckaa.FW
open Go.RowKit Go.Proofs.Ytnobckgfihlckaa Go.Proofs.Ytnobckgfihlckaa.Fl Go.Proofs.YtnobckgfihlckaaW.PrintWords Go.Proofs.YtnobckgfihlckaaW.PrintLast Go.Proofs.YtnobckgfihlckaaW.PrintMore
set_option linter.unusedVariables false
set_option linter.unusedSimpArgs false

theorem samet (a : Nat) (w : World) : Calls Try.prog 12 #[.float .f64 a, .float .f64 a] w fun e w' => e = .returned (.bool true) ∧ w' = w := by
  have h := same a a w
  rwa [decide_eq_true (rfl : a = a)] at h
theorem sharet (a : Nat) (ha : a ≤ 4607182418800017408) (w : World) : Calls Try.prog 14 #[.float .f64 a] w fun e w' => e = .returned (.bool true) ∧ w' = w := by
  have h := share a w
  rwa [decide_eq_true ha] at h

set_option maxHeartbeats 8000000 in
set_option maxRecDepth 100000 in
theorem fracCleans (f : Nat) (a b : Int) (hf : f < 18446744073709551616) (ha : a.natAbs ≤ 9223372036854775808) (hb : b.natAbs ≤ 9223372036854775808) (w : World) :
    Calls Try.prog 3 #[.float .f64 f, .int .i64 a, .int .i64 b] w fun e w' => e = .returned (.bool true) ∧ Below w.heap.size w w' := by
  have h1 := fun w => clean f hf w
  have h2 := fun w => off a b w
  have h3 := fun w => rclean f w
  have h4 := fun w => samet (cN f) w
  have h5 := fun w => sharet (cN f) (cN_le f) w
  have h6 := fun w => clean (cN f) (cN_lt f) w
  have h8 := fun w => roff a b w
  have h9 := fun w => samet (ofN a b) w
  have h10 := fun w => sharet (ofN a b) (ofN_le a b) w
  rw [cN_cN] at h6
  rw [← ofN_eq a b ha hb] at h8
  go_enter Try.func3, Try.ntmps3
  go_wp2_with (first | (go_at_call 10; with_reducible refine (h1 _).mono ?_; rintro e w1 ⟨rfl, rfl⟩) | (go_at_call 11; with_reducible refine (h2 _).mono ?_; rintro e w1 ⟨rfl, nd1, rfl⟩) | (go_at_call 13; with_reducible refine (h3 _).mono ?_; rintro e w1 ⟨rfl, rfl⟩) | (go_at_call 12; with_reducible refine (h4 _).mono ?_; rintro e w1 ⟨rfl, rfl⟩) | (go_at_call 14; with_reducible refine (h5 _).mono ?_; rintro e w1 ⟨rfl, rfl⟩) | (go_at_call 10; with_reducible refine (h6 _).mono ?_; rintro e w1 ⟨rfl, rfl⟩) | (go_at_call 15; with_reducible refine (h8 _).mono ?_; rintro e w1 ⟨rfl, nd2, rfl⟩) | (go_at_call 12; with_reducible refine (h9 _).mono ?_; rintro e w1 ⟨rfl, rfl⟩) | (go_at_call 14; with_reducible refine (h10 _).mono ?_; rintro e w1 ⟨rfl, rfl⟩) | (go_at_call 16; with_reducible refine (live _).mono ?_; rintro e w1 ⟨rfl, nd3, rfl⟩))
  go_ret
  exact ⟨rfl, Drawn0.below ⟨⟨_, rfl⟩⟩⟩
set_option maxHeartbeats 8000000 in
set_option maxRecDepth 100000 in
theorem fracScales (n m : Int) (f g : Nat) (hf : f < 18446744073709551616) (hg : g < 18446744073709551616) (w : World) :
    Calls Try.prog 4 #[.int .i64 n, .int .i64 m, .float .f64 f, .float .f64 g] w fun e w' => e = .returned (.bool true) ∧ Below w.heap.size w w' := by
  have h1 := fun w => scale n f hf w
  have h2 := fun w => rscale n f w
  have h3 := fun w => rclean f w
  have h4 := fun w => rclean g w
  have h5 := fun w => scale n g hg w
  have h6 := fun w => scale m f hf w
  have l1 : scN (max 0 (min n 4611686018427387904)).toNat (cN f) ≤ (max 0 (min n 4611686018427387904)).toNat := Nat.min_le_left _ _
  have l2 : cN f ≤ cN g → scN (max 0 (min n 4611686018427387904)).toNat (cN f) ≤ scN (max 0 (min n 4611686018427387904)).toNat (cN g) := scN_share _ _ _ (by omega) (cN_le g)
  have l3 : n ≤ m → scN (max 0 (min n 4611686018427387904)).toNat (cN f) ≤ scN (max 0 (min m 4611686018427387904)).toNat (cN f) := fun h => scN_count _ _ _ (by omega) (cN_le f) (by omega)
  have lo : (FloatKind.f64.format.order (cN f) (cN g) == some .lt || FloatKind.f64.format.order (cN f) (cN g) == some .eq) = decide (cN f ≤ cN g) := share_le _ _ (cN_le f) (cN_le g)
  have k0 : (0 : Int) ≤ ((scN (max 0 (min n 4611686018427387904)).toNat (cN f) : Nat) : Int) := Int.natCast_nonneg _
  have k1 : 0 ≤ n → ((scN (max 0 (min n 4611686018427387904)).toNat (cN f) : Nat) : Int) ≤ n := fun h => by omega
  have k2 : cN f ≤ cN g → ((scN (max 0 (min n 4611686018427387904)).toNat (cN f) : Nat) : Int) ≤ ((scN (max 0 (min n 4611686018427387904)).toNat (cN g) : Nat) : Int) := fun h => Int.ofNat_le.mpr (l2 h)
  have k3 : n ≤ m → ((scN (max 0 (min n 4611686018427387904)).toNat (cN f) : Nat) : Int) ≤ ((scN (max 0 (min m 4611686018427387904)).toNat (cN f) : Nat) : Int) := fun h => Int.ofNat_le.mpr (l3 h)
  clear l1 l2 l3
  generalize ((scN (max 0 (min n 4611686018427387904)).toNat (cN f) : Nat) : Int) = K at *
  generalize ((scN (max 0 (min n 4611686018427387904)).toNat (cN g) : Nat) : Int) = K2 at *
  generalize ((scN (max 0 (min m 4611686018427387904)).toNat (cN f) : Nat) : Int) = K3 at *
  have d0 : decide (K < 0) = false := decide_eq_false (by omega)
  have d1 : (decide (0 ≤ n) = true ∧ decide (n < K) = false) ∨ decide (0 ≤ n) = false := by
    by_cases h : 0 ≤ n
    · exact .inl ⟨decide_eq_true h, decide_eq_false (by have := k1 h; omega)⟩
    · exact .inr (decide_eq_false h)
  have d2 : ((FloatKind.f64.format.order (cN f) (cN g) == some .lt || FloatKind.f64.format.order (cN f) (cN g) == some .eq) = true ∧ decide (K2 < K) = false) ∨ (FloatKind.f64.format.order (cN f) (cN g) == some .lt || FloatKind.f64.format.order (cN f) (cN g) == some .eq) = false := by
    rw [lo]
    by_cases h : cN f ≤ cN g
    · exact .inl ⟨decide_eq_true h, decide_eq_false (by have := k2 h; omega)⟩
    · exact .inr (decide_eq_false h)
  have d3 : decide (m < n) = true ∨ (decide (m < n) = false ∧ decide (K ≤ K3) = true) := by
    by_cases h : n ≤ m
    · exact .inr ⟨decide_eq_false (by omega), decide_eq_true (k3 h)⟩
    · exact .inl (decide_eq_true (by omega))
  clear k0 k1 k2 k3 lo
  generalize hX : (FloatKind.f64.format.order (cN f) (cN g) == some .lt) = X at *
  generalize hY : (FloatKind.f64.format.order (cN f) (cN g) == some .eq) = Y at *
  rcases d1 with ⟨d1a, d1b⟩ | d1a <;> rcases d2 with ⟨d2a, d2b⟩ | d2a <;> rcases d3 with d3a | ⟨d3a, d3b⟩
  all_goals
    go_enter Try.func4, Try.ntmps4
    go_wp2_with (first | (go_at_call 17; with_reducible refine (h1 _).mono ?_; rintro e w1 ⟨rfl, rfl⟩) | (go_at_call 18; with_reducible refine (h2 _).mono ?_; rintro e w1 ⟨rfl, rfl⟩) | (go_at_call 13; with_reducible refine (h3 _).mono ?_; rintro e w1 ⟨rfl, rfl⟩) | (go_at_call 13; with_reducible refine (h4 _).mono ?_; rintro e w1 ⟨rfl, rfl⟩) | (go_at_call 17; with_reducible refine (h5 _).mono ?_; rintro e w1 ⟨rfl, rfl⟩) | (go_at_call 17; with_reducible refine (h6 _).mono ?_; rintro e w1 ⟨rfl, rfl⟩) | (go_at_call 16; with_reducible refine (live _).mono ?_; rintro e w1 ⟨rfl, nd1, rfl⟩))
    go_ret
    exact ⟨rfl, Drawn0.below ⟨⟨_, rfl⟩⟩⟩
end Go.Proofs.Ytnobckgfihlckaa.FW
