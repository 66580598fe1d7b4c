/- Plain laws of counts that stop at a greatest one: products of 128 bits, and their division by 64 bits. -/
import Derived.Test.YtnobckgfihlckaaPSatx1
import Derived.Test.YtnobckgfihlckaaPSatx2
set_option linter.unusedVariables false
set_option linter.unusedSimpArgs false
namespace Go.Proofs.Ytnobckgfihlckaa.PSat
open Go.RowKit Go.Proofs.YtnobckgfihlckaaW.PrintWords Go.Proofs.YtnobckgfihlckaaW.PrintLast Go.Proofs.YtnobckgfihlckaaW.PrintMore

theorem u64_mod (n : Int) : IntKind.u64.wrap n = n % 18446744073709551616 := by simp [IntKind.wrap, IntKind.bits, IntKind.signed]
theorem u64_in (n : Int) (h₀ : 0 ≤ n) (h₁ : n < 18446744073709551616) : IntKind.u64.wrap n = n := by rw [u64_mod]; omega
theorem nat_u64 (n : Nat) (h : n < 18446744073709551616) : IntKind.u64.wrap (n : Int) = n := u64_in _ (by omega) (by omega)
theorem w64_in (n : Int) (h₀ : -9223372036854775808 ≤ n) (h₁ : n < 9223372036854775808) : wrap64 n = n := by unfold wrap64; omega
theorem band (a b : Nat) (ha : a < 2 ^ 64) (hb : b < 2 ^ 64) : Go.bits .and .u64 (a : Int) (b : Int) = ((a &&& b : Nat) : Int) :=
  (bits_nat .u64 64 (by decide) (fun n h0 h1 => u64_in n h0 (by simpa using h1)) a b ha hb).1
theorem bor (a b : Nat) (ha : a < 2 ^ 64) (hb : b < 2 ^ 64) : Go.bits .or .u64 (a : Int) (b : Int) = ((a ||| b : Nat) : Int) :=
  (bits_nat .u64 64 (by decide) (fun n h0 h1 => u64_in n h0 (by simpa using h1)) a b ha hb).2
theorem low32 (a : Nat) (ha : a < 18446744073709551616) : Go.bits .and .u64 (a : Int) 4294967295 = ((a % 4294967296 : Nat) : Int) := by
  have := band a 4294967295 (by omega) (by decide)
  rw [show a &&& 4294967295 = a % 4294967296 from Nat.and_two_pow_sub_one_eq_mod a 32] at this
  exact this

theorem mul_lt (a b m n : Nat) (ha : a ≤ m) (hb : b ≤ n) : a * b ≤ m * n := Nat.mul_le_mul ha hb
theorem mul64_eq (x y : Nat) (hx : x < 18446744073709551616) (hy : y < 18446744073709551616) :
    bits_Mul64.f (x : Int) (y : Int) = some (((x * y / 18446744073709551616 : Nat) : Int), ((x * y % 18446744073709551616 : Nat) : Int)) := by
  unfold bits_Mul64.f
  rw [low32 x hx, low32 y hy, show (x : Int) / 4294967296 = ((x / 4294967296 : Nat) : Int) by omega, show (y : Int) / 4294967296 = ((y / 4294967296 : Nat) : Int) by omega]
  obtain ⟨a, ha⟩ : ∃ a, a = x / 4294967296 := ⟨_, rfl⟩
  obtain ⟨b, hb⟩ : ∃ b, b = x % 4294967296 := ⟨_, rfl⟩
  obtain ⟨c, hc⟩ : ∃ c, c = y / 4294967296 := ⟨_, rfl⟩
  obtain ⟨d, hd⟩ : ∃ d, d = y % 4294967296 := ⟨_, rfl⟩
  rw [← ha, ← hb, ← hc, ← hd]
  have ex : x = a * 4294967296 + b := by omega
  have ey : y = c * 4294967296 + d := by omega
  have la : a ≤ 4294967295 := by omega
  have lb : b ≤ 4294967295 := by omega
  have lc : c ≤ 4294967295 := by omega
  have ld : d ≤ 4294967295 := by omega
  have exy : x * y = (a * c) * 18446744073709551616 + (a * d) * 4294967296 + (b * c) * 4294967296 + b * d := by
    rw [ex, ey, Nat.add_mul, Nat.mul_add, Nat.mul_add]
    have e1 : a * 4294967296 * (c * 4294967296) = (a * c) * 18446744073709551616 := by rw [Nat.mul_mul_mul_comm]
    have e2 : a * 4294967296 * d = (a * d) * 4294967296 := by rw [Nat.mul_right_comm]
    have e3 : b * (c * 4294967296) = (b * c) * 4294967296 := by rw [Nat.mul_assoc]
    rw [e1, e2, e3]; omega
  have hac := mul_lt a c _ _ la lc
  have had := mul_lt a d _ _ la ld
  have hbc := mul_lt b c _ _ lb lc
  have hbd := mul_lt b d _ _ lb ld
  rw [show (a : Int) * (c : Int) = ((a * c : Nat) : Int) by push_cast; rfl, show (a : Int) * (d : Int) = ((a * d : Nat) : Int) by push_cast; rfl, show (b : Int) * (c : Int) = ((b * c : Nat) : Int) by push_cast; rfl, show (b : Int) * (d : Int) = ((b * d : Nat) : Int) by push_cast; rfl, show (x : Int) * (y : Int) = ((x * y : Nat) : Int) by push_cast; rfl]
  generalize a * c = p at *
  generalize a * d = q at *
  generalize b * c = r at *
  generalize b * d = t at *
  clear ha hb hc hd ex ey la lb lc ld hx hy
  rw [nat_u64 t (by omega), nat_u64 q (by omega), nat_u64 p (by omega), nat_u64 r (by omega)]
  rw [show (q : Int) + (t : Int) / 4294967296 = ((q + t / 4294967296 : Nat) : Int) by omega, nat_u64 _ (by omega), low32 _ (by omega)]
  rw [show ((((q + t / 4294967296) % 4294967296 : Nat) : Int) + (r : Int)) = (((q + t / 4294967296) % 4294967296 + r : Nat) : Int) by omega, nat_u64 ((q + t / 4294967296) % 4294967296 + r) (by omega)]
  rw [show (p : Int) + ((q + t / 4294967296 : Nat) : Int) / 4294967296 = ((p + (q + t / 4294967296) / 4294967296 : Nat) : Int) by omega, nat_u64 (p + _) (by omega)]
  rw [show ((p + (q + t / 4294967296) / 4294967296 : Nat) : Int) + (((q + t / 4294967296) % 4294967296 + r : Nat) : Int) / 4294967296 = ((p + (q + t / 4294967296) / 4294967296 + ((q + t / 4294967296) % 4294967296 + r) / 4294967296 : Nat) : Int) by omega]
  rw [nat_u64 _ (by omega), exy]
  refine congrArg some (Prod.ext ?_ ?_)
  · show ((_ : Nat) : Int) = ((_ : Nat) : Int)
    exact congrArg Int.ofNat (by omega)
  · show IntKind.u64.wrap _ = _
    rw [u64_mod]; omega
end Go.Proofs.Ytnobckgfihlckaa.PSat
