/- Plain laws of numbers as bytes: what a number's bytes are. -/
set_option linter.unusedVariables false
set_option linter.unusedSimpArgs false
namespace Go.Proofs.Ytobfhacdljmooaa.CM

/-- a number's rank: 0, -1, 1, -2 .. -/
def zig (n : Int) : Nat := if 0 ≤ n then (2 * n).toNat else (-2 * n - 1).toNat
/-- a rank's bytes, the lowest seven bits first -/
def enc (z : Nat) : List Int := if z < 128 then [(z : Int)] else ((z % 128 + 128 : Nat) : Int) :: enc (z / 128)
theorem enc_small (z : Nat) (h : z < 128) : enc z = [(z : Int)] := by rw [enc, if_pos h]
theorem enc_big (z : Nat) (h : ¬ z < 128) : enc z = ((z % 128 + 128 : Nat) : Int) :: enc (z / 128) := by rw [enc, if_neg h]
theorem zig_lt (n : Int) (h0 : -9223372036854775808 ≤ n) (h1 : n ≤ 9223372036854775807) : zig n < 18446744073709551616 := by unfold zig; split <;> omega
theorem enc_len (k : Nat) : ∀ z, z < 128 ^ (k + 1) → (enc z).length ≤ k + 1 := by
  induction k with
  | zero => intro z h; rw [enc_small z (by simpa using h)]; simp
  | succ k ih =>
    intro z h
    by_cases h2 : z < 128
    · rw [enc_small z h2]; simp
    · rw [enc_big z h2, List.length_cons]
      have : z / 128 < 128 ^ (k + 1) := by rw [Nat.div_lt_iff_lt_mul (by decide), ← Nat.pow_succ]; exact h
      have := ih _ this
      omega
theorem enc_ten (z : Nat) (h : z < 18446744073709551616) : (enc z).length ≤ 10 := enc_len 9 z (Nat.lt_trans h (by decide))
theorem enc_pos (z : Nat) : 1 ≤ (enc z).length := by
  rw [enc]; split <;> simp
/-- a rank from its bytes: the rank, how many bytes -/
def getZ (i z : Nat) : List Int → Option (Nat × Nat)
  | [] => none
  | c :: r => if (i = 9 ∧ 1 < c) ∨ (0 < i ∧ c = 0) then none else if c < 128 then some (z + c.toNat * 128 ^ i, i + 1) else getZ (i + 1) (z + (c.toNat - 128) * 128 ^ i) r
def unzig (z : Nat) : Int := if z % 2 = 0 then ((z / 2 : Nat) : Int) else -((z / 2 : Nat) : Int) - 1
/-- a number from bytes, from a place on: the number, the place behind it, whether it is one -/
def getN (l : List Int) (at_ : Int) : Int × Int × Bool :=
  if at_ < 0 ∨ (l.length : Int) < at_ then (0, 0, false) else match getZ 0 0 (l.drop at_.toNat) with | none => (0, 0, false) | some (z, n) => (unzig z, at_ + n, true)
def Bytes (l : List Int) : Prop := ∀ c ∈ l, 0 ≤ c ∧ c ≤ 255
instance (l : List Int) : Decidable (Bytes l) := List.decidableBAll _ l
end Go.Proofs.Ytobfhacdljmooaa.CM
