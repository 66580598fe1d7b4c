/- The walks of layer 28's functions over floats: the fourth part: the document's part of a count, the page's example. -/
import Derived.Test.YtnobckgfihlckaaFW3
namespace Go.Proofs.Ytnobckgfihlckaa.FW
open Go.RowKit Go.Proofs.Ytnobckgfihlckaa Go.Proofs.Ytnobckgfihlckaa.Fl Go.Proofs.YtnobckgfihlckaaW.PrintWords Go.Proofs.YtnobckgfihlckaaW.PrintLast Go.Proofs.YtnobckgfihlckaaW.PrintMore
set_option linter.unusedVariables false
set_option linter.unusedSimpArgs false

theorem back_lt' (p : Nat) (hp : p ≤ 4886405595696988160) : (FloatKind.f64.format.order (xN (dnN p)) p == some .lt) = decide (dnN p < upN p) := by
  unfold xN; exact back_lt p (by omega)
theorem int_run (p : Nat) (hp : p ≤ 4886405595696988160) : floatToIntVal .f64 p .i64 = some ((dnN p : Nat) : Int) := by
  have hq3' : (FloatKind.f64.decode p).toInt .zero = some ((dnN p : Nat) : Int) := int_of _ (by omega)
  have hu := upN_le p hp
  have hd := dn_le_up p
  unfold floatToIntVal
  rw [hq3']
  simp only
  rw [if_pos ⟨by show (-9223372036854775808 : Int) ≤ _; omega, by show _ ≤ (9223372036854775807 : Int); omega⟩]
theorem toF_pos (N : Nat) : floatOfInt .f64 (N : Int) = xN N := by
  rw [toF_int, toF_eq, decide_eq_false (by omega), word_false]; rfl
set_option maxHeartbeats 8000000 in
set_option maxRecDepth 100000 in
theorem rscale (n : Int) (f : Nat) (w : World) : Calls Try.prog 18 #[.int .i64 n, .float .f64 f] w fun e w' => e = .returned (.int .i64 ((scN (max 0 (min n 4611686018427387904)).toNat (cN f) : Nat) : Int)) ∧ w' = w := by
  have hc := fun w => rcut n w
  obtain ⟨N, hN⟩ : ∃ N : Nat, (max 0 (min n 4611686018427387904)).toNat = N := ⟨_, rfl⟩
  have hN2 : N ≤ 4611686018427387904 := by omega
  rw [hN] at hc ⊢
  have hx := toF_pos N
  have hb := pN_le N (cN f) hN2 (cN_le f)
  have hm := fun w => run_float_arith (P := Try.prog) w .mul 22 .f64 (xN N) (cN f) (pN N (cN f)) (mul_eq _ _ (by have := xN_le N hN2; omega) (by have := cN_le f; omega))
  have hu := upN_le (pN N (cN f)) hb
  have hd := dn_le_up (pN N (cN f))
  have hi := int_run (pN N (cN f)) hb
  have hcv := fun w => run_convert_float_int (P := Try.prog) w 22 3 .f64 .i64 (pN N (cN f)) _ (by kernel_rfl) Try.underlying3 hi
  have hy := toF_pos (dnN (pN N (cN f)))
  have hl := back_lt' (pN N (cN f)) hb
  have hr : scN N (cN f) = if N < upN (pN N (cN f)) then N else upN (pN N (cN f)) := by
    unfold scN
    split <;> omega
  rw [hr]
  clear hr hi hN
  generalize upN (pN N (cN f)) = u at *
  generalize pN N (cN f) = p at *
  generalize dnN p = d at *
  obtain ⟨x, hxx⟩ : ∃ x, xN N = x := ⟨_, rfl⟩
  rw [hxx] at hx hm
  clear hxx
  obtain ⟨y, hyy⟩ : ∃ y, xN d = y := ⟨_, rfl⟩
  rw [hyy] at hy hl
  clear hyy
  by_cases c1 : d < u
  · rw [decide_eq_true c1] at hl
    have e : u = d + 1 := by omega
    subst e
    have wr : wrap64 ((d : Int) + 1) = ((d + 1 : Nat) : Int) := by unfold wrap64; omega
    by_cases c2 : N < d + 1
    · rw [if_pos c2]
      have c3 : decide ((N : Int) < ((d + 1 : Nat) : Int)) = true := decide_eq_true (by omega)
      have c4 : decide ((N : Int) < (d : Int) + 1) = true := decide_eq_true (by omega)
      clear c1 c2 hd
      go_enter Try.func18, Try.ntmps18
      go_wp2_with (first | (go_at_call 31; with_reducible refine (hc _).mono ?_; rintro e w1 ⟨rfl, rfl⟩) | (go_at_call 13; with_reducible refine (rclean f _).mono ?_; rintro e w1 ⟨rfl, rfl⟩))
      all_goals (go_ret; exact ⟨rfl, rfl⟩)
    · rw [if_neg c2]
      have c3 : decide ((N : Int) < ((d + 1 : Nat) : Int)) = false := decide_eq_false (by omega)
      have c4 : decide ((N : Int) < (d : Int) + 1) = false := decide_eq_false (by omega)
      clear c1 c2 hd
      go_enter Try.func18, Try.ntmps18
      go_wp2_with (first | (go_at_call 31; with_reducible refine (hc _).mono ?_; rintro e w1 ⟨rfl, rfl⟩) | (go_at_call 13; with_reducible refine (rclean f _).mono ?_; rintro e w1 ⟨rfl, rfl⟩))
      all_goals (go_ret; exact ⟨rfl, rfl⟩)
  · rw [decide_eq_false c1] at hl
    have e : u = d := by omega
    subst e
    by_cases c2 : N < u
    · rw [if_pos c2]
      have c3 : decide ((N : Int) < (u : Int)) = true := decide_eq_true (by omega)
      have c5 : decide (N < u) = true := decide_eq_true c2
      clear c1 c2 hd
      go_enter Try.func18, Try.ntmps18
      go_wp2_with (first | (go_at_call 31; with_reducible refine (hc _).mono ?_; rintro e w1 ⟨rfl, rfl⟩) | (go_at_call 13; with_reducible refine (rclean f _).mono ?_; rintro e w1 ⟨rfl, rfl⟩))
      all_goals (go_ret; exact ⟨rfl, rfl⟩)
    · rw [if_neg c2]
      have c3 : decide ((N : Int) < (u : Int)) = false := decide_eq_false (by omega)
      have c5 : decide (N < u) = false := decide_eq_false c2
      clear c1 c2 hd
      go_enter Try.func18, Try.ntmps18
      go_wp2_with (first | (go_at_call 31; with_reducible refine (hc _).mono ?_; rintro e w1 ⟨rfl, rfl⟩) | (go_at_call 13; with_reducible refine (rclean f _).mono ?_; rintro e w1 ⟨rfl, rfl⟩))
      all_goals (go_ret; exact ⟨rfl, rfl⟩)

theorem of_00 : ofN 0 0 = 4607182418800017408 := by rw [ofN_eq 0 0 (by decide) (by decide)]; decide
theorem of_03 : ofN 0 (-3) = 0 := by rw [ofN_eq 0 (-3) (by decide) (by decide)]; decide
theorem scale_10 : scN (max 0 (min (10 : Int) 4611686018427387904)).toNat (cN 4598175219545276416) = 3 := by
  decide +kernel
set_option maxHeartbeats 8000000 in
set_option maxRecDepth 100000 in
theorem live (w : World) : Calls Try.prog 16 #[] w fun e w' => e = .returned (.bool true) ∧ ∃ nd, w' = w.drewN nd := by
  have h1 := fun w => off 0 0 w
  have h2 := fun w => off 0 (-3) w
  have h3 := fun w => scale 10 4598175219545276416 (by decide) w
  rw [of_00] at h1
  rw [of_03] at h2
  rw [scale_10] at h3
  have ho : (FloatKind.f64.format.order 4607182418800017408 4607182418800017408 == some .eq) = true := by
    have := share_eq 4607182418800017408 4607182418800017408 (by decide) (by decide)
    exact this
  go_enter Try.func16, Try.ntmps16
  go_wp2_with (first | (go_at_call 11; with_reducible refine (h1 _).mono ?_; rintro e w1 ⟨rfl, nd1, rfl⟩) | (go_at_call 11; with_reducible refine (h2 _).mono ?_; rintro e w1 ⟨rfl, nd2, rfl⟩) | (go_at_call 12; with_reducible refine (same 0 0 _).mono ?_; rintro e w1 ⟨rfl, rfl⟩) | (go_at_call 17; with_reducible refine (h3 _).mono ?_; rintro e w1 ⟨rfl, rfl⟩))
  go_ret
  exact ⟨rfl, nd1 + nd2, rfl⟩
end Go.Proofs.Ytnobckgfihlckaa.FW
