/- Plain laws of binary floating point, at 64 bits: rounding keeps the order, and leaves what is a float as it is. -/
import Ieee.Arith
set_option linter.unusedVariables false
set_option linter.unusedSimpArgs false
namespace Go.Proofs.Ytnobckgfihlckaa.Fl
open Ieee

abbrev D : Format := Ieee.double
theorem D_least : D.leastPlace = -1074 := by decide +kernel
theorem D_bin : D.binade = 4503599627370496 := by decide +kernel
theorem D_inf : D.infRung = 9218868437227405312 := by decide +kernel
theorem D_sw : D.signWeight = 9223372036854775808 := by decide +kernel

/-- to the nearest, between two the even one -/
def rne (n g : Nat) : Nat := n / g + (if g < 2 * (n % g) ∨ (g = 2 * (n % g) ∧ n / g % 2 = 1) then 1 else 0)
theorem rne_le (n g : Nat) : rne n g ≤ n / g + 1 := by unfold rne; split <;> omega
theorem le_rne (n g : Nat) : n / g ≤ rne n g := by unfold rne; omega
theorem rne_exact (n g : Nat) (hg : 0 < g) : rne (n * g) g = n := by
  unfold rne
  rw [Nat.mul_div_cancel _ hg, Nat.mul_mod_left, if_neg (by omega)]; rfl
theorem rne_scale (n g c : Nat) (hc : 0 < c) : rne (n * c) (g * c) = rne n g := by
  unfold rne
  rw [Nat.mul_div_mul_right _ _ hc, Nat.mul_mod_mul_right]
  have h1 : g * c < 2 * (n % g * c) ↔ g < 2 * (n % g) := by rw [← Nat.mul_assoc]; exact Nat.mul_lt_mul_right hc
  have h2 : g * c = 2 * (n % g * c) ↔ g = 2 * (n % g) := by
    rw [← Nat.mul_assoc]
    exact ⟨fun h => Nat.eq_of_mul_eq_mul_right hc h, fun h => by rw [← h]⟩
  simp only [h1, h2]
theorem rne_mono (n m g : Nat) (hg : 0 < g) (h : n ≤ m) : rne n g ≤ rne m g := by
  have hd : n / g ≤ m / g := Nat.div_le_div_right h
  by_cases e : n / g = m / g
  · have h1 := Nat.div_add_mod n g
    have h2 := Nat.div_add_mod m g
    rw [e] at h1
    have hr : n % g ≤ m % g := by omega
    unfold rne
    rw [e]
    split
    · rw [if_pos (by omega)]; exact Nat.le_refl _
    · exact Nat.add_le_add_left (Nat.zero_le _) _
  · have h1 := rne_le n g
    have h2 := le_rne m g
    omega
theorem even_cut (neg : Bool) (n d : Nat) : Toward.even.cut neg n d = rne n (2 ^ d) := by
  have key : ∀ g : Nat, (n / g + ((decide (g < 2 * (n % g)) || (g == 2 * (n % g) && n / g % 2 == 1)).toNat)) = rne n g := by
    intro g
    unfold rne
    congr 1
    by_cases h : g < 2 * (n % g) ∨ (g = 2 * (n % g) ∧ n / g % 2 = 1)
    · rw [if_pos h]
      rcases h with h | ⟨h1, h2⟩
      · simp [h]
      · simp [← h1, h2]
    · rw [if_neg h]
      simp only [not_or, not_and] at h
      obtain ⟨h1, h2⟩ := h
      by_cases e : g = 2 * (n % g)
      · have := h2 e
        simp [h1, this]
      · simp [h1, e]
  unfold Toward.cut
  simp only [Nat.one_shiftLeft]
  by_cases hd : d ≤ n.log2 + 2
  · rw [Nat.min_eq_left hd]
    exact key _
  · rw [Nat.min_eq_right (by omega)]
    refine (key _).trans ?_
    have hn : n < 2 ^ (n.log2 + 1) := Nat.lt_log2_self
    have h2 : 2 ^ (n.log2 + 2) = 2 * 2 ^ (n.log2 + 1) := by rw [Nat.pow_succ, Nat.mul_comm]
    have h3 : 2 ^ (n.log2 + 2) ≤ 2 ^ d := Nat.pow_le_pow_right (by decide) (by omega)
    have big : ∀ g : Nat, 2 * n < g → rne n g = 0 := by
      intro g hg
      unfold rne
      rw [Nat.div_eq_of_lt (by omega), Nat.mod_eq_of_lt (by omega), if_neg (by omega)]
    rw [big _ (by omega), big _ (by omega)]

/-- the step of the kept digits of X * 2 ^ (-1074 - t), and the rung -/
def lev (X t : Nat) : Nat := X.log2 - (52 + t)
def RD (X t : Nat) : Nat := if X = 0 then 0 else min (lev X t * 4503599627370496 + rne X (2 ^ (lev X t + t))) 9218868437227405312
theorem log2_shift (m k : Nat) (hm : m ≠ 0) : (m * 2 ^ k).log2 = m.log2 + k := by
  have h0 : m * 2 ^ k ≠ 0 := Nat.mul_ne_zero hm (Nat.ne_of_gt (Nat.two_pow_pos k))
  have h1 : 2 ^ m.log2 ≤ m := Nat.log2_self_le hm
  have h2 : m < 2 ^ (m.log2 + 1) := Nat.lt_log2_self
  have h3 : m.log2 + k ≤ (m * 2 ^ k).log2 := by
    rw [Nat.le_log2 h0, Nat.pow_add]; exact Nat.mul_le_mul_right _ h1
  have h4 : (m * 2 ^ k).log2 < m.log2 + k + 1 := by
    rw [Nat.log2_lt h0, show m.log2 + k + 1 = m.log2 + 1 + k by omega, Nat.pow_add]
    exact Nat.mul_lt_mul_of_pos_right h2 (Nat.two_pow_pos k)
  omega
theorem nearest_eq (neg : Bool) (m : Nat) (i : Int) (t : Nat) (hi : 0 ≤ i + 1074 + t) : D.nearest neg m i = D.word neg (RD (m * 2 ^ (i + 1074 + t).toNat) t) := by
  unfold Format.nearest RD
  by_cases hm : m = 0
  · subst hm; rw [if_pos rfl, Nat.zero_mul, if_pos rfl]
  · have hX : m * 2 ^ (i + 1074 + t).toNat ≠ 0 := Nat.mul_ne_zero hm (Nat.ne_of_gt (Nat.two_pow_pos _))
    rw [if_neg hm, if_neg hX]
    obtain ⟨k, hk⟩ : ∃ k : Nat, (i + 1074 + t).toNat = k := ⟨_, rfl⟩
    have hk' : i = (k : Int) - 1074 - t := by omega
    rw [hk]
    have hlev : lev (m * 2 ^ k) t = m.log2 + k - (52 + t) := by unfold lev; rw [log2_shift m k hm]
    obtain ⟨L, hL⟩ : ∃ L, L = lev (m * 2 ^ k) t := ⟨_, rfl⟩
    rw [← hL] at hlev ⊢
    have hlast : max (i + (m.log2 : Int) - (D.fractionBits : Int)) D.leastPlace = -1074 + (L : Int) := by
      rw [D_least, hk']
      show max ((k : Int) - 1074 - t + (m.log2 : Int) - 52) (-1074) = _
      omega
    dsimp only
    rw [hlast, D_least, D_bin, D_inf, even_cut, Nat.shiftLeft_eq, show (-1074 + (L : Int) - -1074).toNat = L by omega]
    congr 3
    by_cases h : i ≥ -1074 + (L : Int)
    · obtain ⟨a, ha⟩ : ∃ a : Nat, (i - (-1074 + (L : Int))).toNat = a := ⟨_, rfl⟩
      rw [ha, show (-1074 + (L : Int) - i).toNat = 0 by omega, show k = a + (L + t) by omega, Nat.pow_add 2 a, ← Nat.mul_assoc, rne_exact _ _ (Nat.two_pow_pos _), Nat.pow_zero]
      have := rne_exact (m * 2 ^ a) 1 (by decide)
      rwa [Nat.mul_one] at this
    · obtain ⟨b, hb⟩ : ∃ b : Nat, (-1074 + (L : Int) - i).toNat = b := ⟨_, rfl⟩
      rw [hb, show (i - (-1074 + (L : Int))).toNat = 0 by omega, show L + t = b + k by omega, Nat.pow_add, Nat.pow_zero, Nat.mul_one, rne_scale _ _ _ (Nat.two_pow_pos _)]

theorem log2_mono {X Y : Nat} (hX : X ≠ 0) (h : X ≤ Y) : X.log2 ≤ Y.log2 := by
  rw [Nat.le_log2 (by omega)]
  exact Nat.le_trans (Nat.log2_self_le hX) h
theorem RD_mono (X Y t : Nat) (h : X ≤ Y) : RD X t ≤ RD Y t := by
  unfold RD
  by_cases hX : X = 0
  · rw [if_pos hX]; exact Nat.zero_le _
  · have hY : Y ≠ 0 := by omega
    rw [if_neg hX, if_neg hY]
    have hl := log2_mono hX h
    have hlev : lev X t ≤ lev Y t := by unfold lev; omega
    by_cases e : lev X t = lev Y t
    · rw [e]
      have := rne_mono X Y (2 ^ (lev Y t + t)) (Nat.two_pow_pos _) h
      omega
    · have h1 : X / 2 ^ (lev X t + t) < 9007199254740992 := by
        rw [Nat.div_lt_iff_lt_mul (Nat.two_pow_pos _)]
        have : X < 2 ^ (X.log2 + 1) := Nat.lt_log2_self
        have h2 : 2 ^ (X.log2 + 1) ≤ 2 ^ (53 + (lev X t + t)) := Nat.pow_le_pow_right (by decide) (by unfold lev; omega)
        rw [Nat.pow_add 2 53] at h2
        have h3 : (2 : Nat) ^ 53 = 9007199254740992 := by decide
        rw [h3] at h2
        omega
      have h2 : 4503599627370496 ≤ Y / 2 ^ (lev Y t + t) := by
        rw [Nat.le_div_iff_mul_le (Nat.two_pow_pos _)]
        have h3 : 2 ^ Y.log2 ≤ Y := Nat.log2_self_le hY
        have h4 : Y.log2 = 52 + (lev Y t + t) := by unfold lev at *; omega
        rw [h4, Nat.pow_add] at h3
        have h5 : (2 : Nat) ^ 52 = 4503599627370496 := by decide
        rwa [h5] at h3
      have h3 := rne_le X (2 ^ (lev X t + t))
      have h4 := le_rne Y (2 ^ (lev Y t + t))
      have h6 : lev X t + 1 ≤ lev Y t := by clear h1 h2 h3 h4 hl hX hY h; omega
      have hA : rne X (2 ^ (lev X t + t)) ≤ 9007199254740992 := Nat.le_trans h3 h1
      have hB : 4503599627370496 ≤ rne Y (2 ^ (lev Y t + t)) := Nat.le_trans h2 h4
      clear h1 h2 h3 h4 hl hX hY h e hlev
      generalize rne X (2 ^ (lev X t + t)) = A at *
      generalize rne Y (2 ^ (lev Y t + t)) = B at *
      generalize lev X t = x at *
      generalize lev Y t = y at *
      omega

/-- what rung r stands for, in units of 2 ^ -1074 -/
def V (r : Nat) : Nat := if r < 4503599627370496 then r else (4503599627370496 + r % 4503599627370496) * 2 ^ (r / 4503599627370496 - 1)
theorem log2_52 (f : Nat) (hf : f < 4503599627370496) : (4503599627370496 + f).log2 = 52 := by
  have h1 : 52 ≤ (4503599627370496 + f).log2 := by rw [Nat.le_log2 (by omega)]; omega
  have h2 : (4503599627370496 + f).log2 < 53 := by rw [Nat.log2_lt (by omega)]; omega
  omega
theorem RD_exact (r t : Nat) (hr : r < 9218868437227405312) : RD (V r * 2 ^ t) t = r := by
  unfold V
  by_cases h : r < 4503599627370496
  · rw [if_pos h]
    by_cases h0 : r = 0
    · subst h0; simp [RD]
    · have hX : r * 2 ^ t ≠ 0 := Nat.mul_ne_zero h0 (Nat.ne_of_gt (Nat.two_pow_pos t))
      have hl : r.log2 < 52 := by rw [Nat.log2_lt h0]; omega
      have hlev : lev (r * 2 ^ t) t = 0 := by unfold lev; rw [log2_shift r t h0]; omega
      unfold RD
      rw [if_neg hX, hlev, Nat.zero_mul, Nat.zero_add, Nat.zero_add, rne_exact _ _ (Nat.two_pow_pos t)]
      omega
  · rw [if_neg h]
    obtain ⟨f, hf⟩ : ∃ f, f = r % 4503599627370496 := ⟨_, rfl⟩
    obtain ⟨e, he⟩ : ∃ e, e = r / 4503599627370496 - 1 := ⟨_, rfl⟩
    rw [← hf, ← he]
    have hfl : f < 4503599627370496 := by omega
    have h0 : 4503599627370496 + f ≠ 0 := by omega
    rw [Nat.mul_assoc, ← Nat.pow_add]
    have hX : (4503599627370496 + f) * 2 ^ (e + t) ≠ 0 := Nat.mul_ne_zero h0 (Nat.ne_of_gt (Nat.two_pow_pos _))
    have hlev : lev ((4503599627370496 + f) * 2 ^ (e + t)) t = e := by unfold lev; rw [log2_shift _ _ h0, log2_52 f hfl]; omega
    unfold RD
    rw [if_neg hX, hlev, rne_exact _ _ (Nat.two_pow_pos _)]
    omega
theorem V_lt {r q : Nat} (hr : r < 9218868437227405312) (hq : q < 9218868437227405312) : V r < V q ↔ r < q := by
  have h1 : r = RD (V r * 2 ^ 0) 0 := (RD_exact r 0 hr).symm
  have h2 : q = RD (V q * 2 ^ 0) 0 := (RD_exact q 0 hq).symm
  rw [Nat.pow_zero, Nat.mul_one] at h1 h2
  constructor
  · intro h
    have := RD_mono (V r) (V q) 0 (by omega)
    rw [← h1, ← h2] at this
    by_cases e : r = q
    · rw [e] at h; omega
    · omega
  · intro h
    by_cases e : V r < V q
    · exact e
    · have := RD_mono (V q) (V r) 0 (by omega)
      rw [← h1, ← h2] at this
      omega
theorem V_le {r q : Nat} (hr : r < 9218868437227405312) (hq : q < 9218868437227405312) : V r ≤ V q ↔ r ≤ q := by
  have := V_lt hq hr
  omega
theorem V_one : V 4607182418800017408 = 2 ^ 1074 := by decide +kernel
end Go.Proofs.Ytnobckgfihlckaa.Fl
