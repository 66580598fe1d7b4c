/- Plain laws of counts: Div64 answers the quotient and the rest of 128 bits by 64. -/
import Derived.Test.YtnobckgfihlckaaSM2
set_option linter.unusedVariables false
set_option linter.unusedSimpArgs false
namespace Go.Proofs.Ytnobckgfihlckaa.PSat
open Go.RowKit Go.Proofs.YtnobckgfihlckaaW.PrintWords Go.Proofs.YtnobckgfihlckaaW.PrintLast Go.Proofs.YtnobckgfihlckaaW.PrintMore

theorem bitLen_aux : ∀ f x : Nat, x < 2 ^ f → Lib.bitLenAux f x ≤ f ∧ x < 2 ^ Lib.bitLenAux f x ∧ (x ≠ 0 → 1 ≤ Lib.bitLenAux f x ∧ 2 ^ (Lib.bitLenAux f x - 1) ≤ x)
  | 0, x, h => by
    have : x = 0 := by simpa using h
    subst this; simp [Lib.bitLenAux]
  | f + 1, x, h => by
    unfold Lib.bitLenAux
    by_cases e : x = 0
    · rw [if_pos e]; subst e; simp
    · rw [if_neg e]
      obtain ⟨h1, h2, h3⟩ := bitLen_aux f (x / 2) (by rw [Nat.pow_succ] at h; omega)
      have hz : x / 2 = 0 → Lib.bitLenAux f (x / 2) = 0 := by
        intro e; rw [e]; cases f <;> simp [Lib.bitLenAux]
      generalize Lib.bitLenAux f (x / 2) = b at h1 h2 h3 hz
      refine ⟨by omega, by rw [Nat.add_comm, Nat.pow_succ]; omega, fun _ => ⟨by omega, ?_⟩⟩
      by_cases e2 : x / 2 = 0
      · have := hz e2
        subst this
        simp; omega
      · obtain ⟨h4, h5⟩ := h3 e2
        obtain ⟨c, rfl⟩ : ∃ c, b = c + 1 := ⟨b - 1, by omega⟩
        rw [show 1 + (c + 1) - 1 = c + 1 by omega, Nat.pow_succ]
        rw [show c + 1 - 1 = c by omega] at h5
        omega
theorem lz_eq (y : Nat) (hy : 0 < y) (hl : y < 18446744073709551616) : ∃ s : Nat, s ≤ 63 ∧ bits_LeadingZeros64.f (y : Int) = some (s : Int) ∧ y * 2 ^ s < 18446744073709551616 ∧ 9223372036854775808 ≤ y * 2 ^ s := by
  obtain ⟨h1, h2, h3⟩ := bitLen_aux 64 y (by simpa using hl)
  obtain ⟨h4, h5⟩ := h3 (by omega)
  refine ⟨64 - Lib.bitLen y, ?_, ?_, ?_, ?_⟩
  · unfold Lib.bitLen; omega
  · unfold bits_LeadingZeros64.f bits_Len64.f
    rw [if_pos (by omega), if_pos (by omega), Int.toNat_natCast]
    show some (wrap64 (64 - (Lib.bitLen y : Int))) = _
    have : Lib.bitLen y ≤ 64 := h1
    rw [w64_in _ (by omega) (by omega)]
    congr 1; omega
  · have : y * 2 ^ (64 - Lib.bitLen y) < 2 ^ Lib.bitLen y * 2 ^ (64 - Lib.bitLen y) := Nat.mul_lt_mul_of_pos_right h2 (Nat.two_pow_pos _)
    rw [← Nat.pow_add, show Lib.bitLen y + (64 - Lib.bitLen y) = 64 from Nat.add_sub_cancel' h1] at this
    exact this
  · have : 2 ^ (Lib.bitLen y - 1) * 2 ^ (64 - Lib.bitLen y) ≤ y * 2 ^ (64 - Lib.bitLen y) := Nat.mul_le_mul_right _ h5
    rw [← Nat.pow_add, show Lib.bitLen y - 1 + (64 - Lib.bitLen y) = 63 by unfold Lib.bitLen at *; omega] at this
    exact this

theorem or_sum (a b s : Nat) (hb : b < 2 ^ s) : a * 2 ^ s ||| b = a * 2 ^ s + b := by
  have := Nat.shiftLeft_add_eq_or_of_lt hb a
  rw [Nat.shiftLeft_eq] at this
  exact this.symm
theorem shl_nat (a s : Nat) (hs : s ≤ 64) : shl .u64 (a : Int) (s : Int) = ((a * 2 ^ s % 18446744073709551616 : Nat) : Int) := by
  unfold shl
  rw [Int.toNat_natCast, Nat.min_eq_left (show s ≤ IntKind.u64.bits from hs), u64_mod, Int.natCast_emod, Int.natCast_mul, Int.natCast_pow]
  rfl
theorem tdiv_nat (a b : Nat) : Int.tdiv (a : Int) (b : Int) = ((a / b : Nat) : Int) := by
  rw [Int.tdiv_eq_ediv_of_nonneg (Int.natCast_nonneg _)]; push_cast; rfl
theorem tmod_nat (a b : Nat) : Int.tmod (a : Int) (b : Int) = ((a % b : Nat) : Int) := by
  rw [Int.tmod_eq_emod_of_nonneg (Int.natCast_nonneg _)]; push_cast; rfl
theorem div_lt (a b n : Nat) (h : a < n) : a / b < n := Nat.lt_of_le_of_lt (Nat.div_le_self _ _) h


theorem two_steps_ (B Y u n1 n0 q1 m1 q0 m0 : Nat) (h1 : u * B + n1 = q1 * Y + m1) (h0 : m1 * B + n0 = q0 * Y + m0) :
    u * (B * B) + (n1 * B + n0) = (q1 * B + q0) * Y + m0 := by
  have e : (q1 * B + q0) * Y = (q1 * Y) * B + q0 * Y := by rw [Nat.add_mul, Nat.mul_right_comm]
  have h : (u * B + n1) * B = (q1 * Y + m1) * B := by rw [h1]
  rw [Nat.add_mul, Nat.add_mul, Nat.mul_assoc] at h
  rw [e]
  omega
theorem two_steps (Y u n1 n0 q1 m1 q0 m0 : Nat) (h1 : u * 4294967296 + n1 = q1 * Y + m1) (h0 : m1 * 4294967296 + n0 = q0 * Y + m0) :
    u * 18446744073709551616 + (n1 * 4294967296 + n0) = (q1 * 4294967296 + q0) * Y + m0 :=
  two_steps_ 4294967296 Y u n1 n0 q1 m1 q0 m0 h1 h0
theorem unscale (V y s Q m Y : Nat) (hy : 0 < y) (hY : Y = y * 2 ^ s) (h : V * 2 ^ s = Q * Y + m) (hm : m < Y) : Q = V / y ∧ m / 2 ^ s = V % y := by
  have hp : 0 < 2 ^ s := Nat.two_pow_pos s
  have hYp : 0 < Y := by rw [hY]; exact Nat.mul_pos hy hp
  have e1 : V * 2 ^ s / Y = Q := by
    rw [h, Nat.mul_comm Q Y, Nat.mul_add_div hYp, Nat.div_eq_of_lt hm, Nat.add_zero]
  have e2 : V * 2 ^ s % Y = m := by
    rw [h, Nat.mul_comm Q Y, Nat.mul_add_mod, Nat.mod_eq_of_lt hm]
  rw [hY, Nat.mul_div_mul_right _ _ hp] at e1
  rw [hY, Nat.mul_mod_mul_right] at e2
  exact ⟨e1.symm, by rw [← e2, Nat.mul_div_cancel _ hp]⟩
theorem div_j2 (Y s y1 y0 un32 un1 un0 q1 m1 : Nat) (S : Step Y y1 y0 un32 un1 q1) (hY64 : Y < 18446744073709551616) (hs : s ≤ 64) (hun0 : un0 < 4294967296) (hm1 : m1 < Y) (he : un32 * 4294967296 + un1 = q1 * Y + m1) :
    ∃ q0 m0 : Nat, m0 < Y ∧ m1 * 4294967296 + un0 = q0 * Y + m0 ∧
    Ev (fun k => bits_Div64.j2 k (Y : Int) (s : Int) (y1 : Int) (y0 : Int) (un32 : Int) (un1 : Int) (un0 : Int) (q1 : Int)) (((q1 * 4294967296 + q0 : Nat) : Int), ((m0 / 2 ^ s : Nat) : Int)) := by
  have S2 : Step Y y1 y0 m1 un0 ((m1 * 4294967296 + un0) / Y) := ⟨S.hY, S.h1, S.h1', S.h0, hm1, hun0, rfl⟩
  obtain ⟨m0, hm0, e0⟩ := S2.rest
  obtain ⟨g1, g2, g3, g4, g5⟩ := guess_first Y y1 y0 m1 un0 S.hY S.h1 S.h0 hm1 hun0
  have hq1 := S.qlt
  have hy1 := S.h1
  have hy1' := S.h1'
  refine ⟨_, m0, hm0, e0, ?_⟩
  refine Ev.step (fun k => ?_) (div_l1 Y s y1 y0 un0 q1 m1 _ S2 hY64 hs hq1 m0 hm0 e0 (m1 / y1 - (m1 * 4294967296 + un0) / Y) (m1 / y1) (m1 - m1 / y1 * y1) (by omega) g2 g3 (by omega))
  have eu : IntKind.u64.wrap ((IntKind.u64.wrap ((IntKind.u64.wrap ((un32 : Int) * 4294967296)) + (un1 : Int))) - (IntKind.u64.wrap ((q1 : Int) * (Y : Int)))) = (m1 : Int) := by
    rw [show (un32 : Int) * 4294967296 = ((un32 * 4294967296 : Nat) : Int) by omega, mul_cast, u64_sub _ _ _ m1 he (by omega)]
  have ed : IntKind.u64.wrap (Int.tdiv (m1 : Int) (y1 : Int)) = ((m1 / y1 : Nat) : Int) := by
    rw [tdiv_nat, nat_u64 _ (div_lt _ _ _ (by omega))]
  have er : IntKind.u64.wrap ((m1 : Int) - IntKind.u64.wrap (((m1 / y1 : Nat) : Int) * (y1 : Int))) = ((m1 - m1 / y1 * y1 : Nat) : Int) := by
    have := Nat.div_mul_le_self m1 y1
    rw [mul_cast]
    generalize m1 / y1 * y1 = p at *
    rw [nat_u64 p (by omega), show (m1 : Int) - (p : Int) = ((m1 - p : Nat) : Int) by omega, nat_u64 _ (by omega)]
  simp only [bits_Div64.j2]
  rw [eu, ed, er, if_neg (by omega)]
set_option maxRecDepth 100000 in
theorem div64_ev (hi lo y : Nat) (hy : 0 < y) (hy64 : y < 18446744073709551616) (hhi : hi < y) (hlo : lo < 18446744073709551616) :
    Ev (fun k => bits_Div64.f k (hi : Int) (lo : Int) (y : Int)) ((((hi * 18446744073709551616 + lo) / y : Nat) : Int), (((hi * 18446744073709551616 + lo) % y : Nat) : Int)) := by
  by_cases h0 : hi = 0
  · subst h0
    refine Ev.congr (fun k => ?_) (Ev.now _)
    unfold bits_Div64.f
    rw [if_neg (by omega), if_neg (by omega), if_pos (by omega), tdiv_nat, tmod_nat, nat_u64 _ (div_lt _ _ _ hlo)]
    simp
  · obtain ⟨s, hs, hlz, hY1, hY2⟩ := lz_eq y hy hy64
    obtain ⟨Y, hYe⟩ : ∃ Y, Y = y * 2 ^ s := ⟨_, rfl⟩
    obtain ⟨P, hP⟩ : ∃ P, P = 2 ^ s := ⟨_, rfl⟩
    obtain ⟨T, hT⟩ : ∃ T, T = 2 ^ (64 - s) := ⟨_, rfl⟩
    have hPT : P * T = 18446744073709551616 := by rw [hP, hT, ← Nat.pow_add, show s + (64 - s) = 64 by omega]
    have hPp : 0 < P := by rw [hP]; exact Nat.two_pow_pos s
    have hTp : 0 < T := by rw [hT]; exact Nat.two_pow_pos _
    have ews : IntKind.u64.wrap (s : Int) = (s : Int) := nat_u64 _ (by omega)
    have ew64 : IntKind.u64.wrap (64 - (s : Int)) = ((64 - s : Nat) : Int) := by rw [show 64 - (s : Int) = ((64 - s : Nat) : Int) by omega, nat_u64 _ (by omega)]
    have eY : shl .u64 (y : Int) (s : Int) = (Y : Int) := by rw [shl_nat _ _ (by omega), ← hYe, Nat.mod_eq_of_lt (by rw [hYe]; exact hY1)]
    have hhiP : hi * P < 18446744073709551616 := by
      have : hi * P ≤ y * P := Nat.mul_le_mul_right _ (by omega)
      rw [hP] at this ⊢; omega
    have ehi : shl .u64 (hi : Int) (s : Int) = ((hi * P : Nat) : Int) := by rw [shl_nat _ _ (by omega), ← hP, Nat.mod_eq_of_lt hhiP]
    have elo : shr .u64 (lo : Int) ((64 - s : Nat) : Int) = ((lo / T : Nat) : Int) := by rw [shr_nat _ _ (by omega), ← hT]
    have hloT : lo / T < P := by rw [Nat.div_lt_iff_lt_mul hTp, hPT]; exact hlo
    have eun10 : shl .u64 (lo : Int) (s : Int) = ((lo * P % 18446744073709551616 : Nat) : Int) := by rw [shl_nat _ _ (by omega), ← hP]
    obtain ⟨u, hu⟩ : ∃ u, u = hi * P + lo / T := ⟨_, rfl⟩
    have hor : Go.bits .or .u64 ((hi * P : Nat) : Int) ((lo / T : Nat) : Int) = (u : Int) := by
      have hPl : P ≤ 18446744073709551616 := by
        have : P * 1 ≤ P * T := Nat.mul_le_mul_left _ hTp
        omega
      rw [bor _ _ hhiP (by omega), hP, or_sum _ _ _ (by rw [← hP]; exact hloT), ← hP, ← hu]
    have huY : u < Y := by
      have : (hi + 1) * P ≤ y * P := Nat.mul_le_mul_right _ (by omega)
      rw [Nat.add_mul, Nat.one_mul] at this
      rw [hYe, ← hP, hu]; omega
    obtain ⟨v, hv⟩ : ∃ v, v = lo * P % 18446744073709551616 := ⟨_, rfl⟩
    have hvl : v < 18446744073709551616 := by rw [hv]; exact Nat.mod_lt _ (by decide)
    have hU : (hi * 18446744073709551616 + lo) * P = u * 18446744073709551616 + v := by
      have e1 : lo * P / 18446744073709551616 = lo / T := by
        rw [← hPT, Nat.mul_comm P T, Nat.mul_div_mul_right _ _ hPp]
      have e2 := Nat.div_add_mod (lo * P) 18446744073709551616
      rw [e1, ← hv] at e2
      rw [hu, Nat.add_mul, Nat.add_mul, Nat.mul_right_comm]
      generalize hi * P = A at *
      generalize lo / T = B at *
      omega
    have S : Step Y (Y / 4294967296) (Y % 4294967296) u (v / 4294967296) ((u * 4294967296 + v / 4294967296) / Y) :=
      ⟨by omega, by omega, by omega, by omega, huY, by omega, rfl⟩
    obtain ⟨m1, hm1, e1⟩ := S.rest
    obtain ⟨q0, m0, hm0, e0, hj⟩ := div_j2 Y s _ _ u _ (v % 4294967296) _ m1 S (by omega) (by omega) (by omega) hm1 e1
    obtain ⟨g1, g2, g3, g4, g5⟩ := guess_first Y _ _ u _ S.hY S.h1 S.h0 huY S.hn
    have hl := div_l0 Y s _ _ u _ (v % 4294967296) _ S _ hj (u / (Y / 4294967296) - (u * 4294967296 + v / 4294967296) / Y) (u / (Y / 4294967296)) (u - u / (Y / 4294967296) * (Y / 4294967296)) (by omega) g2 g3 (by have := S.h1'; omega)
    have ts := two_steps Y u _ _ _ m1 q0 m0 e1 e0
    rw [Nat.div_add_mod', ← hU, hP] at ts
    obtain ⟨r1, r2⟩ := unscale _ y s _ m0 Y hy hYe ts hm0
    rw [← r1, ← r2]
    refine Ev.congr (fun k => ?_) hl
    have ed : IntKind.u64.wrap (Int.tdiv (u : Int) ((Y / 4294967296 : Nat) : Int)) = ((u / (Y / 4294967296) : Nat) : Int) := by
      rw [tdiv_nat, nat_u64 _ (div_lt _ _ _ (by omega))]
    have er : IntKind.u64.wrap ((u : Int) - IntKind.u64.wrap (((u / (Y / 4294967296) : Nat) : Int) * ((Y / 4294967296 : Nat) : Int))) = ((u - u / (Y / 4294967296) * (Y / 4294967296) : Nat) : Int) := by
      have := Nat.div_mul_le_self u (Y / 4294967296)
      rw [mul_cast]
      generalize u / (Y / 4294967296) * (Y / 4294967296) = p at *
      rw [nat_u64 p (by omega), show (u : Int) - (p : Int) = ((u - p : Nat) : Int) by omega, nat_u64 _ (by omega)]
    unfold bits_Div64.f
    rw [if_neg (by omega), if_neg (by omega), if_neg (by omega), hlz, Option.bind_some, ews, ew64, eY, ehi, elo, eun10, ← hv, hor, if_pos (by omega), if_pos (by omega), low32 _ (by omega), low32 _ hvl, show (Y : Int) / 4294967296 = ((Y / 4294967296 : Nat) : Int) by omega, show (v : Int) / 4294967296 = ((v / 4294967296 : Nat) : Int) by omega, if_neg (by omega), ed, er]
end Go.Proofs.Ytnobckgfihlckaa.PSat
