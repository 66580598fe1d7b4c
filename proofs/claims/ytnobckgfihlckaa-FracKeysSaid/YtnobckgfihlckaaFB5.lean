/- Plain laws of shares: parts of a count, rounded up; quotients of whole numbers: the second part. -/
import Derived.Test.YtnobckgfihlckaaFB4
set_option linter.unusedVariables false
set_option linter.unusedSimpArgs false
set_option exponentiation.threshold 3000
namespace Go.Proofs.Ytnobckgfihlckaa.Fl
open Ieee

theorem rep (N k : Nat) (hN : N < 9007199254740992) (hk : 53 ≤ k) (hk' : k ≤ 1080) : ∃ r, r < 9218868437227405312 ∧ V r = N * 2 ^ k := by
  by_cases h0 : N = 0
  · subst h0; exact ⟨0, by decide, by rw [Nat.zero_mul]; rfl⟩
  have hl1 : 2 ^ N.log2 ≤ N := Nat.log2_self_le h0
  have hl2 : N < 2 ^ (N.log2 + 1) := Nat.lt_log2_self
  have hl3 : N.log2 ≤ 52 := by
    have : N.log2 < 53 := by rw [Nat.log2_lt h0]; exact hN
    omega
  obtain ⟨M, hM⟩ : ∃ M, N * 2 ^ (52 - N.log2) = M := ⟨_, rfl⟩
  have m1 : 4503599627370496 ≤ M := by
    have : 2 ^ N.log2 * 2 ^ (52 - N.log2) ≤ N * 2 ^ (52 - N.log2) := Nat.mul_le_mul_right _ hl1
    rw [← Nat.pow_add, show N.log2 + (52 - N.log2) = 52 by omega, hM] at this
    exact this
  have m2 : M < 9007199254740992 := by
    have : N * 2 ^ (52 - N.log2) < 2 ^ (N.log2 + 1) * 2 ^ (52 - N.log2) := Nat.mul_lt_mul_of_pos_right hl2 (Nat.pow_pos (by decide))
    rw [← Nat.pow_add, show N.log2 + 1 + (52 - N.log2) = 53 by omega, hM] at this
    exact this
  obtain ⟨e, he⟩ : ∃ e, k - (52 - N.log2) = e := ⟨_, rfl⟩
  obtain ⟨R, hR⟩ : ∃ R, (e + 1) * 4503599627370496 + (M - 4503599627370496) = R := ⟨_, rfl⟩
  have d1 : ((e + 1) * 4503599627370496 + (M - 4503599627370496)) / 4503599627370496 = e + 1 := by omega
  have d2 : ((e + 1) * 4503599627370496 + (M - 4503599627370496)) % 4503599627370496 = M - 4503599627370496 := by omega
  rw [hR] at d1 d2
  have hR1 : R < 9218868437227405312 := by omega
  have hR2 : ¬ R < 4503599627370496 := by omega
  refine ⟨R, hR1, ?_⟩
  unfold V
  rw [if_neg hR2, d1, d2, Nat.add_sub_cancel, show 4503599627370496 + (M - 4503599627370496) = M by omega, ← hM, Nat.mul_assoc, ← Nat.pow_add, show 52 - N.log2 + e = k by omega]
theorem mg_lt (p : Nat) : mg p < 9007199254740992 := by unfold mg; split <;> omega

def upN (p : Nat) : Nat := upq (V p) (2 ^ 1074)
def dnN (p : Nat) : Nat := V p / 2 ^ 1074
theorem pos_Z : 0 < 2 ^ 1074 := Nat.pow_pos (by decide)
theorem whole (p : Nat) : (V p = dnN p * 2 ^ 1074 ∧ upN p = dnN p) ∨ (upN p < 9007199254740992 ∧ dnN p < 9007199254740992) := by
  unfold upN dnN
  obtain ⟨c, hc, h1, h2⟩ := shift_V p
  by_cases hp : 0 ≤ pc p
  · left
    rw [show (-pc p).toNat = 0 by omega, Nat.pow_zero, Nat.one_mul] at h2
    rw [h1, h2]
    unfold upq
    rw [Nat.mul_mod_left, Nat.mul_div_cancel _ hc, if_pos rfl]
    exact ⟨rfl, rfl⟩
  · right
    rw [h1, h2, upq_scale _ _ _ hc, Nat.mul_div_mul_right _ _ hc, show (pc p).toNat = 0 by omega, Nat.shiftLeft_zero]
    have hm := mg_lt p
    have hg : 0 < 2 ^ (-pc p).toNat := Nat.pow_pos (by decide)
    have u := upq_le (mg p) (2 ^ (-pc p).toNat) (mg p) hg (Nat.le_mul_of_pos_right _ hg)
    have v := Nat.div_le_self (mg p) (2 ^ (-pc p).toNat)
    omega
theorem rep_up (p : Nat) (hp : p < 9218868437227405312) : ∃ r, r < 9218868437227405312 ∧ V r = upN p * 2 ^ 1074 := by
  rcases whole p with ⟨h, e⟩ | ⟨h, _⟩
  · exact ⟨p, hp, by rw [e]; exact h⟩
  · exact rep _ _ h (by decide) (by decide)
theorem rep_dn (p : Nat) (hp : p < 9218868437227405312) : ∃ r, r < 9218868437227405312 ∧ V r = dnN p * 2 ^ 1074 := by
  rcases whole p with ⟨h, e⟩ | ⟨_, h⟩
  · exact ⟨p, hp, h⟩
  · exact rep _ _ h (by decide) (by decide)
theorem RD_of (r X : Nat) (hr : r < 9218868437227405312) (h : V r = X) : RD X 0 = r := by
  have := RD_exact r 0 hr
  rwa [Nat.pow_zero, Nat.mul_one, h] at this
theorem ceil_int (p : Nat) (hp : p < 9218868437227405312) : ∃ q, q < 9218868437227405312 ∧ D.write ((D.read p).integral .up) = q ∧ (D.read q).toInt .zero = some ((upN p : Nat) : Int) := by
  obtain ⟨r, hr, h⟩ := rep_up p hp
  refine ⟨r, hr, ?_, ?_⟩
  · rw [ceil_eq p hp]; exact RD_of r _ hr h
  · rw [int_of r hr, h, Nat.mul_div_cancel _ pos_Z]
theorem dn_le_up (p : Nat) : dnN p ≤ upN p ∧ upN p ≤ dnN p + 1 := by unfold upN dnN upq; split <;> omega
theorem back_lt (p : Nat) (hp : p < 9218868437227405312) : (D.order (RD (dnN p * 2 ^ 1074) 0) p == some .lt) = decide (dnN p < upN p) := by
  obtain ⟨r, hr, h⟩ := rep_dn p hp
  rw [RD_of r _ hr h, order_eq r p (by omega) (by omega) (by omega) (by omega), cmp_lt]
  unfold K
  rw [if_pos (by omega), if_pos (by omega)]
  refine decide_eq_decide.2 ?_
  have hv := V_lt hr hp
  have h3 : dnN p < upN p ↔ V r < V p := by
    rw [h]
    have h1 := Nat.div_add_mod (V p) (2 ^ 1074)
    have h2 := Nat.mod_lt (V p) pos_Z
    unfold upN dnN upq
    rw [Nat.mul_comm]
    split <;> omega
  rw [h3, hv]
  omega

/-- as much of a count -/
def xN (n : Nat) : Nat := RD (n * 2 ^ 1074) 0
def pN (n c : Nat) : Nat := RD (V (xN n) * V c) 1074
def scN (n c : Nat) : Nat := min n (upN (pN n c))
theorem V_62 : V 4886405595696988160 = 4611686018427387904 * 2 ^ 1074 := by decide +kernel
theorem xN_le (n : Nat) (h : n ≤ 4611686018427387904) : xN n ≤ 4886405595696988160 := by
  have h2 := RD_mono (n * 2 ^ 1074) (V 4886405595696988160 * 2 ^ 0) 0 (by rw [V_62, Nat.pow_zero, Nat.mul_one]; exact Nat.mul_le_mul_right _ h)
  rwa [RD_exact _ 0 (by decide)] at h2
theorem pN_le (n c : Nat) (h : n ≤ 4611686018427387904) (hc : c ≤ 4607182418800017408) : pN n c ≤ 4886405595696988160 :=
  Nat.le_trans (mul_le (xN n) c (by have := xN_le n h; omega) hc) (xN_le n h)
theorem upN_mono (p q : Nat) (hp : p ≤ q) (hq : q < 9218868437227405312) : upN p ≤ upN q :=
  upq_mono _ _ _ pos_Z ((V_le (by omega) hq).2 hp)
theorem upN_le (p : Nat) (h : p ≤ 4886405595696988160) : upN p ≤ 4611686018427387904 := by
  refine upq_le _ _ _ pos_Z ?_
  rw [← V_62]
  exact (V_le (by omega) (by decide)).2 h
theorem scN_share (n c d : Nat) (h : n ≤ 4611686018427387904) (hd : d ≤ 4607182418800017408) (hcd : c ≤ d) : scN n c ≤ scN n d := by
  have hm : pN n c ≤ pN n d := RD_mono _ _ _ (Nat.mul_le_mul_left _ ((V_le (by omega) (by omega)).2 hcd))
  have hu := upN_mono _ _ hm (by have := pN_le n d h hd; omega)
  unfold scN
  omega
theorem scN_count (n m c : Nat) (h : m ≤ 4611686018427387904) (hc : c ≤ 4607182418800017408) (hnm : n ≤ m) : scN n c ≤ scN m c := by
  have hx : xN n ≤ xN m := RD_mono _ _ _ (Nat.mul_le_mul_right _ hnm)
  have hb := xN_le m h
  have hm : pN n c ≤ pN m c := RD_mono _ _ _ (Nat.mul_le_mul_right _ ((V_le (by omega) (by omega)).2 hx))
  have hu := upN_mono _ _ hm (by have := pN_le m c h hc; omega)
  unfold scN
  omega

/-- a whole number as a float -/
def toF (n : Int) : Nat := D.write (.number (decide (n < 0)) n.natAbs 0)
theorem toF_eq (n : Int) : toF n = D.word (decide (n < 0)) (xN n.natAbs) := by
  have h := write_num (decide (n < 0)) n.natAbs 0 0 (by decide)
  exact h
theorem V_63 : V 4890909195324358656 = 9223372036854775808 * 2 ^ 1074 := by decide +kernel
theorem xN_63 (n : Nat) (h : n ≤ 9223372036854775808) : xN n ≤ 4890909195324358656 := by
  have h2 := RD_mono (n * 2 ^ 1074) (V 4890909195324358656 * 2 ^ 0) 0 (by rw [V_63, Nat.pow_zero, Nat.mul_one]; exact Nat.mul_le_mul_right _ h)
  rwa [RD_exact _ 0 (by decide)] at h2
theorem xN_pos (n : Nat) (h : 0 < n) : 4607182418800017408 ≤ xN n := by
  have h2 := RD_mono (V 4607182418800017408 * 2 ^ 0) (n * 2 ^ 1074) 0 (by rw [V_one, Nat.pow_zero, Nat.mul_one]; exact Nat.le_mul_of_pos_left _ h)
  rwa [RD_exact _ 0 (by decide)] at h2
theorem xN_zero : xN 0 = 0 := by unfold xN; rw [Nat.zero_mul]; rfl
theorem mg_pos (r : Nat) (h : 0 < r) : mg r ≠ 0 := by unfold mg; split <;> omega
theorem read_toF (n : Int) (h : n.natAbs ≤ 9223372036854775808) : D.read (toF n) = .number (decide (n < 0)) (mg (xN n.natAbs)) (pc (xN n.natAbs)) := by
  rw [toF_eq]
  exact read_num _ _ (by have := xN_63 _ h; omega)

/-- the share that a quotient becomes -/
def ofN (a b : Int) : Nat := match D.div (toF a) (toF b) with | none => 4607182418800017408 | some r => cN r
theorem ofN_le (a b : Int) : ofN a b ≤ 4607182418800017408 := by
  unfold ofN
  split
  · exact Nat.le_refl _
  · exact cN_le _
theorem write_neg (m : Nat) (i : Int) : cN (D.write (.number true m i)) = 0 := by
  rw [write_num true m i (-i).toNat (by omega), word_true]
  exact cN_neg _ (RD_le _ _)
theorem write_zero (s : Bool) (i : Int) : cN (D.write (.number s 0 i)) = 0 := by
  rw [write_num s 0 i (-i).toNat (by omega), Nat.zero_mul, RD, if_pos rfl]
  cases s
  · rw [word_false]; decide
  · rw [word_true]; decide
def rofN (a b : Int) : Nat := if b = 0 then (if a < 0 then 0 else 4607182418800017408) else if a = 0 ∨ (a < 0 ∧ 0 < b) ∨ (0 < a ∧ b < 0) then 0 else ofN a b
theorem quot_zz (s t : Bool) (i j : Int) : Datum.quotient 54 (.number s 0 i) (.number t 0 j) = none := by simp [Datum.quotient]
theorem quot_nz (s t : Bool) (m : Nat) (i j : Int) (hm : m ≠ 0) : Datum.quotient 54 (.number s m i) (.number t 0 j) = some (.infinity (s ^^ t)) := by simp [Datum.quotient, hm]
theorem quot_zn (s t : Bool) (n : Nat) (i j : Int) (hn : n ≠ 0) : ∃ k, Datum.quotient 54 (.number s 0 i) (.number t n j) = some (.number (s ^^ t) 0 k) := by
  simp only [Datum.quotient, if_neg hn, Nat.zero_shiftLeft, Nat.zero_div, Nat.zero_mod, Nat.mul_zero, bne_self_eq_false, Bool.toNat_false, Nat.add_zero]
  exact ⟨_, rfl⟩
theorem quot_nn (s t : Bool) (m n : Nat) (i j : Int) (hn : n ≠ 0) : ∃ q k, Datum.quotient 54 (.number s m i) (.number t n j) = some (.number (s ^^ t) q k) := by
  simp only [Datum.quotient, if_neg hn]
  exact ⟨_, _, rfl⟩
def qN (q : Option Datum) : Nat := match q with | none => 4607182418800017408 | some d => cN (D.write d)
theorem ofN_of (a b : Int) (ha : a.natAbs ≤ 9223372036854775808) (hb : b.natAbs ≤ 9223372036854775808) (q : Option Datum)
    (h : Datum.quotient 54 (.number (decide (a < 0)) (mg (xN a.natAbs)) (pc (xN a.natAbs))) (.number (decide (b < 0)) (mg (xN b.natAbs)) (pc (xN b.natAbs))) = q) :
    ofN a b = qN q := by
  unfold ofN Format.div
  rw [read_toF a ha, read_toF b hb, show D.fractionBits + 2 = 54 from by decide +kernel, h]
  cases q <;> rfl
theorem mg_zero : mg (xN 0) = 0 := by rw [xN_zero]; decide
theorem cN_inf (s : Bool) : cN (D.write (.infinity s)) = if s = true then 0 else 4607182418800017408 := by cases s <;> decide +kernel
theorem ofN_eq (a b : Int) (ha : a.natAbs ≤ 9223372036854775808) (hb : b.natAbs ≤ 9223372036854775808) : ofN a b = rofN a b := by
  have pa : a ≠ 0 → mg (xN a.natAbs) ≠ 0 := fun h => mg_pos _ (by have := xN_pos a.natAbs (by omega); omega)
  have pb : b ≠ 0 → mg (xN b.natAbs) ≠ 0 := fun h => mg_pos _ (by have := xN_pos b.natAbs (by omega); omega)
  have za : a = 0 → mg (xN a.natAbs) = 0 := fun h => by rw [h]; exact mg_zero
  have zb : b = 0 → mg (xN b.natAbs) = 0 := fun h => by rw [h]; exact mg_zero
  have key := ofN_of a b ha hb
  generalize mg (xN a.natAbs) = A at *
  generalize mg (xN b.natAbs) = B at *
  generalize pc (xN a.natAbs) = i at *
  generalize pc (xN b.natAbs) = j at *
  unfold rofN
  by_cases b0 : b = 0
  · rw [if_pos b0]
    obtain rfl := zb b0
    by_cases a0 : a = 0
    · obtain rfl := za a0
      rw [key _ (quot_zz _ _ _ _), if_neg (by omega)]; rfl
    · rw [key _ (quot_nz _ _ _ _ _ (pa a0))]
      unfold qN
      simp only
      rw [cN_inf, decide_eq_false (show ¬ b < 0 by omega), Bool.xor_false]
      simp only [decide_eq_true_eq]
  · rw [if_neg b0]
    by_cases hz : a = 0 ∨ (a < 0 ∧ 0 < b) ∨ (0 < a ∧ b < 0)
    · rw [if_pos hz]
      by_cases a0 : a = 0
      · obtain rfl := za a0
        obtain ⟨k, hk⟩ := quot_zn (decide (a < 0)) (decide (b < 0)) B i j (pb b0)
        rw [key _ hk]
        exact write_zero _ _
      · obtain ⟨q, k, hk⟩ := quot_nn (decide (a < 0)) (decide (b < 0)) A B i j (pb b0)
        rw [key _ hk]
        unfold qN
        simp only
        have hs : (decide (a < 0) ^^ decide (b < 0)) = true := by
          rcases hz with h | ⟨h1, h2⟩ | ⟨h1, h2⟩
          · exact absurd h a0
          · rw [decide_eq_true h1, decide_eq_false (show ¬ b < 0 by omega)]; rfl
          · rw [decide_eq_true h2, decide_eq_false (show ¬ a < 0 by omega)]; rfl
        rw [hs]
        exact write_neg _ _
    · rw [if_neg hz]
end Go.Proofs.Ytnobckgfihlckaa.Fl
