/- Numbers as bytes: plain laws of GetInt's steps. -/
import Derived.Test.YtobfhacdljmooaaC1
import Derived.Laws.DeepNot64
namespace Go.Proofs.Ytobfhacdljmooaa.C
open Go.RowKit Go.Proofs.Ytobfhacdljmooaa.CM
set_option linter.unusedVariables false
theorem pow_small (t i : Nat) (ht : t < 128) (hi : i ≤ 9) (h9 : i = 9 → t ≤ 1) : t * 128 ^ i < 18446744073709551616 := by
  by_cases h : i = 9
  · subst h; have := h9 rfl; omega
  · have h1 : 128 ^ i ≤ 128 ^ 8 := Nat.pow_le_pow_right (by decide) (by omega)
    have h2 : t * 128 ^ i ≤ 127 * 128 ^ 8 := Nat.mul_le_mul (by omega) h1
    omega
theorem shl_run (y i : Int) (hy : 0 ≤ y ∧ y ≤ 255) (hi : 0 ≤ i ∧ i ≤ 9) (h9 : i = 9 → y.toNat % 128 ≤ 1) (W : World) :
    Sem.run Try.prog (Op.shift .shl .u64 (IntKind.u64.wrap (bits .and .u8 y 127)) .i64 (wrap64 (7 * i))) W = .ok (.int .u64 (((y.toNat % 128) * 128 ^ i.toNat : Nat) : Int)) W := by
  obtain ⟨b, rfl⟩ := Int.eq_ofNat_of_zero_le hy.1
  obtain ⟨j, rfl⟩ := Int.eq_ofNat_of_zero_le hi.1
  have e1 : bits .and .u8 (b : Int) 127 = ((b % 128 : Nat) : Int) := by
    have h := u8_and_nat b 127 (by omega) (by decide)
    rw [Nat.and_two_pow_sub_one_eq_mod b 7] at h
    exact h
  have e2 : wrap64 (7 * (j : Int)) = 7 * (j : Int) := by unfold wrap64; omega
  have e3 : IntKind.u64.wrap ((b % 128 : Nat) : Int) = ((b % 128 : Nat) : Int) := by simp [IntKind.wrap, IntKind.bits, IntKind.signed]; omega
  have hs := pow_small (b % 128) j (by omega) (by omega) (fun h => h9 (by omega))
  have e4 : min (7 * (j : Int)).toNat IntKind.u64.bits = 7 * j := by
    show min _ 64 = _
    omega
  rw [e1, e2, e3, shift_shl_any _ _ _ _ (by omega), e4]
  have e0 : (2 : Int) ^ (7 * j) = ((128 ^ j : Nat) : Int) := by rw [Int.pow_mul, Int.natCast_pow]; rfl
  have e5 : ((b % 128 : Nat) : Int) * 2 ^ (7 * j) = ((b % 128 * 128 ^ j : Nat) : Int) := by rw [e0, Int.natCast_mul]
  rw [e5, Int.toNat_natCast, Int.toNat_natCast]
  generalize b % 128 * 128 ^ j = T at *
  have e6 : IntKind.u64.wrap (T : Int) = (T : Int) := by simp [IntKind.wrap, IntKind.bits, IntKind.signed]; omega
  rw [e6]
  rfl
theorem or_run (z t i : Nat) (hz : z < 128 ^ i) (hi : i ≤ 9) (ht : t * 128 ^ i < 18446744073709551616) : bits .or .u64 (z : Int) ((t * 128 ^ i : Nat) : Int) = ((z + t * 128 ^ i : Nat) : Int) := by
  have h1 : 128 ^ i ≤ 128 ^ 9 := Nat.pow_le_pow_right (by decide) hi
  have h := u64_or_nat z (t * 128 ^ i) (by omega) ht
  refine h.trans ?_
  have e : 128 ^ i = 2 ^ (7 * i) := by rw [Nat.pow_mul]
  have h2 := Nat.two_pow_add_eq_or_of_lt (i := 7 * i) (b := z) (by rw [← e]; exact hz) t
  rw [Nat.or_comm, e, Nat.mul_comm t, ← h2, Nat.add_comm]
theorem xor_none (a : Nat) (ha : a < 9223372036854775808) : bits .xor .i64 (a : Int) 0 = (a : Int) := by
  have h : (BitVec.ofInt 64 (a : Int) ^^^ BitVec.ofInt 64 0).toNat = a := by
    simp
    omega
  show IntKind.i64.wrap (((BitVec.ofInt 64 (a : Int) ^^^ BitVec.ofInt 64 0).toNat : Nat) : Int) = _
  rw [h]
  simp [IntKind.wrap, IntKind.bits, IntKind.signed]
  omega
theorem unzig_run (z : Nat) (hz : z < 18446744073709551616) : bits .xor .i64 (wrap64 ((z : Int) / 2)) (wrap64 (-(wrap64 (bits .and .u64 (z : Int) 1)))) = unzig z := by
  have h1 := u64_and_nat z 1 hz (by decide)
  rw [Nat.and_one_is_mod] at h1
  have e1 : bits .and .u64 (z : Int) 1 = ((z % 2 : Nat) : Int) := h1
  rw [e1]
  have e2 : wrap64 ((z : Int) / 2) = ((z / 2 : Nat) : Int) := by unfold wrap64; omega
  have e3 : wrap64 ((z % 2 : Nat) : Int) = ((z % 2 : Nat) : Int) := by unfold wrap64; omega
  rw [e2, e3]
  have hc : ∀ a b : Int, bits .xor .i64 a b = bits .xor .i64 b a := by intro a b; simp [bits, BitVec.xor_comm]
  unfold unzig
  by_cases h : z % 2 = 0
  · rw [h, if_pos rfl, show wrap64 (-((0 : Nat) : Int)) = 0 by unfold wrap64; omega]
    exact xor_none _ (by omega)
  · rw [if_neg h, show z % 2 = 1 by omega, show wrap64 (-((1 : Nat) : Int)) = -1 by unfold wrap64; omega, hc, i64_not _ (by omega)]
    omega
end Go.Proofs.Ytobfhacdljmooaa.C
