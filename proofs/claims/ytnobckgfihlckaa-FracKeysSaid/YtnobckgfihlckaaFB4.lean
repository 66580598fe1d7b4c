/- Plain laws of shares: parts of a count, rounded up; quotients of whole numbers. -/
import Derived.Test.YtnobckgfihlckaaFB3
set_option linter.unusedVariables false
set_option linter.unusedSimpArgs false
set_option exponentiation.threshold 3000
namespace Go.Proofs.Ytnobckgfihlckaa.Fl
open Ieee

def upq (n g : Nat) : Nat := n / g + (if n % g = 0 then 0 else 1)
theorem upq_scale (n g c : Nat) (hc : 0 < c) : upq (n * c) (g * c) = upq n g := by
  unfold upq
  rw [Nat.mul_div_mul_right _ _ hc, Nat.mul_mod_mul_right]
  have h : n % g * c = 0 ↔ n % g = 0 := by
    rw [Nat.mul_eq_zero]; omega
  simp only [h]
theorem upq_le (n g k : Nat) (hg : 0 < g) (h : n ≤ k * g) : upq n g ≤ k := by
  unfold upq
  have h1 := Nat.div_add_mod n g
  split
  · exact Nat.div_le_of_le_mul (by rw [Nat.mul_comm]; exact h)
  · rename_i hz
    have : n / g < k := by
      rw [Nat.div_lt_iff_lt_mul hg]
      rcases Nat.lt_or_eq_of_le h with h2 | h2
      · exact h2
      · exfalso; apply hz; rw [h2]; exact Nat.mul_mod_left k g
    omega
theorem upq_mono (n m g : Nat) (hg : 0 < g) (h : n ≤ m) : upq n g ≤ upq m g := by
  apply upq_le _ _ _ hg
  have h1 := Nat.div_add_mod m g
  have h2 := Nat.mod_lt m hg
  unfold upq
  split
  · rename_i hz; rw [Nat.add_zero, Nat.mul_comm]; omega
  · rw [Nat.add_mul, Nat.one_mul, Nat.mul_comm]; omega
theorem gap_big (n d : Nat) (h : n.log2 + 2 < d) : n / 2 ^ (min d (n.log2 + 2)) = n / 2 ^ d ∧ n % 2 ^ (min d (n.log2 + 2)) = n % 2 ^ d := by
  have h1 : n < 2 ^ (n.log2 + 1) := Nat.lt_log2_self
  have h2 : 2 ^ (n.log2 + 1) ≤ 2 ^ (min d (n.log2 + 2)) := Nat.pow_le_pow_right (by decide) (by omega)
  have h3 : 2 ^ (n.log2 + 1) ≤ 2 ^ d := Nat.pow_le_pow_right (by decide) (by omega)
  rw [Nat.div_eq_of_lt (by omega), Nat.div_eq_of_lt (by omega), Nat.mod_eq_of_lt (by omega), Nat.mod_eq_of_lt (by omega)]
  exact ⟨rfl, rfl⟩
theorem gap_same (n d : Nat) : n / 2 ^ (min d (n.log2 + 2)) = n / 2 ^ d ∧ n % 2 ^ (min d (n.log2 + 2)) = n % 2 ^ d := by
  by_cases h : n.log2 + 2 < d
  · exact gap_big n d h
  · rw [Nat.min_eq_left (by omega)]; exact ⟨rfl, rfl⟩
theorem up_cut (n d : Nat) : Toward.up.cut false n d = upq n (2 ^ d) := by
  unfold Toward.cut upq
  simp only [Nat.one_shiftLeft, (gap_same n d).1, (gap_same n d).2]
  congr 1
  by_cases h : n % 2 ^ d = 0
  · simp [h]
  · simp [h]
theorem zero_cut (s : Bool) (n d : Nat) : Toward.zero.cut s n d = n / 2 ^ d := by
  unfold Toward.cut
  simp only [Nat.one_shiftLeft, (gap_same n d).1]
  rfl

/-- what a float is worth in whole numbers -/
theorem shift_V (p : Nat) : ∃ c : Nat, 0 < c ∧ V p = (mg p <<< (pc p).toNat) * c ∧ 2 ^ 1074 = 2 ^ (-pc p).toNat * c := by
  have h := pc_ge p
  refine ⟨2 ^ (1074 - (-pc p).toNat), Nat.pow_pos (by decide), ?_, ?_⟩
  · rw [← mg_V p, Nat.shiftLeft_eq, Nat.mul_assoc, ← Nat.pow_add]
    congr 2
    omega
  · rw [← Nat.pow_add]
    congr 1
    omega
theorem cut_up (p : Nat) : Toward.up.cut false (mg p <<< (pc p).toNat) (-pc p).toNat = upq (V p) (2 ^ 1074) := by
  obtain ⟨c, hc, h1, h2⟩ := shift_V p
  rw [up_cut, h1, h2, upq_scale _ _ _ hc]
theorem cut_zero (p : Nat) : Toward.zero.cut false (mg p <<< (pc p).toNat) (-pc p).toNat = V p / 2 ^ 1074 := by
  obtain ⟨c, hc, h1, h2⟩ := shift_V p
  rw [zero_cut, h1, h2, Nat.mul_div_mul_right _ _ hc]
theorem read_pos (p : Nat) (hp : p < 9218868437227405312) : D.read p = .number false (mg p) (pc p) := by
  have h := read_num false p hp
  rwa [word_false] at h
theorem ceil_eq (p : Nat) (hp : p < 9218868437227405312) : D.write ((D.read p).integral .up) = RD (upq (V p) (2 ^ 1074) * 2 ^ 1074) 0 := by
  rw [read_pos p hp]
  unfold Datum.integral
  simp only
  rw [cut_up, int_eq]
theorem int_of (p : Nat) (hp : p < 9218868437227405312) : (D.read p).toInt .zero = some ((V p / 2 ^ 1074 : Nat) : Int) := by
  rw [read_pos p hp]
  unfold Datum.toInt Datum.integral
  simp only
  rw [cut_zero]
  unfold signed
  simp
end Go.Proofs.Ytnobckgfihlckaa.Fl
