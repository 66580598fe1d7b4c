/- Plain laws of the filters of bits: OnesCount64 counts the bits that are 1. -/
import Derived.Test.YtobfhacdljmooaaBM2
import Derived.Test.YtobfhacdljmooaaPBloomx4
set_option linter.unusedVariables false
set_option linter.unusedSimpArgs false
namespace Go.Proofs.Ytobfhacdljmooaa.PBloom
open Go.RowKit Go.Proofs.YtobfhacdljmooaaW.PrintWords Go.Proofs.YtobfhacdljmooaaW.PrintLast Go.Proofs.YtobfhacdljmooaaW.PrintMore

/-- how many of the lowest k bits are 1 -/
def popN : Nat → Nat → Nat
  | 0, _ => 0
  | k + 1, x => x % 2 + popN k (x / 2)
theorem popN_add (j : Nat) : ∀ k x, popN (k + j) x = popN k (x % 2 ^ k) + popN j (x / 2 ^ k) := by
  intro k
  induction k with
  | zero => intro x; simp [popN]
  | succ k ih =>
    intro x
    rw [Nat.succ_add]
    simp only [popN]
    rw [ih]
    have h1 : x % 2 ^ (k + 1) % 2 = x % 2 := Nat.mod_mod_of_dvd _ ⟨2 ^ k, by rw [Nat.pow_succ, Nat.mul_comm]⟩
    have h2 : x % 2 ^ (k + 1) / 2 = x / 2 % 2 ^ k := by
      rw [Nat.pow_succ, Nat.mul_comm, Nat.mod_mul_right_div_self]
    have h3 : x / 2 / 2 ^ k = x / 2 ^ (k + 1) := by rw [Nat.div_div_eq_div_mul, Nat.pow_succ, Nat.mul_comm]
    rw [h1, h2, h3]; omega

theorem and_split (x m : Nat) : x &&& m = (x % 256 &&& m % 256) + 256 * (x / 256 &&& m / 256) := by
  have h1 := Nat.and_mod_two_pow (a := x) (b := m) (n := 8)
  have h2 := Nat.and_div_two_pow (a := x) (b := m) (n := 8)
  have h3 := Nat.mod_add_div (x &&& m) 256
  simp only [show (2 : Nat) ^ 8 = 256 from rfl] at h1 h2
  rw [← h1, ← h2]
  exact h3.symm

/-- k bytes m -/
def by_ (m : Nat) : Nat → Nat
  | 0 => 0
  | k + 1 => m + 256 * by_ m k
def s1 (k x : Nat) : Nat := (x / 2 &&& by_ 85 k) + (x &&& by_ 85 k)
def s2 (k x : Nat) : Nat := (s1 k x / 4 &&& by_ 51 k) + (s1 k x &&& by_ 51 k)
def s3 (k x : Nat) : Nat := (s2 k x / 16 + s2 k x) &&& by_ 15 k
def c1 (a : Nat) : Nat := (a / 2 &&& 85) + (a &&& 85)
def c2 (a : Nat) : Nat := (a / 4 &&& 51) + (a &&& 51)
theorem byte1 : ∀ a, a < 256 → (a / 2 &&& 85) = ((a / 2 + 128) &&& 85) ∧ c1 a < 256 := by decide +kernel
theorem byte2 : ∀ a, a < 256 → ((a / 4 + 64) &&& 51) = (a / 4 &&& 51) ∧ ((a / 4 + 128) &&& 51) = (a / 4 &&& 51) ∧ ((a / 4 + 192) &&& 51) = (a / 4 &&& 51) ∧ c2 a < 256 := by decide +kernel
theorem byte3 : ∀ a, a < 256 → c2 (c1 a) ≤ 68 ∧ c2 (c1 a) % 16 ≤ 4 ∧ (c2 (c1 a) / 16 + c2 (c1 a)) % 16 = popN 8 a ∧ popN 8 a ≤ 8 := by decide +kernel
theorem s1_step (k a y : Nat) (ha : a < 256) : s1 (k + 1) (a + 256 * y) = c1 a + 256 * s1 k y := by
  unfold s1
  rw [and_split ((a + 256 * y) / 2), and_split (a + 256 * y)]
  simp only [by_]
  have e1 : (85 + 256 * by_ 85 k) % 256 = 85 := by omega
  have e2 : (85 + 256 * by_ 85 k) / 256 = by_ 85 k := by omega
  have e3 : (a + 256 * y) / 2 / 256 = y / 2 := by omega
  have e4 : (a + 256 * y) % 256 = a := by omega
  have e5 : (a + 256 * y) / 256 = y := by omega
  rw [e1, e2, e3, e4, e5]
  have e6 : ((a + 256 * y) / 2 % 256 &&& 85) = (a / 2 &&& 85) := by
    have := (byte1 a ha).1
    rcases Nat.mod_two_eq_zero_or_one y with h | h
    · rw [show (a + 256 * y) / 2 % 256 = a / 2 by omega]
    · rw [show (a + 256 * y) / 2 % 256 = a / 2 + 128 by omega]; exact this.symm
  rw [e6]
  unfold c1
  omega
theorem s2_step (k a y : Nat) (ha : a < 256) : s2 (k + 1) (a + 256 * y) = c2 (c1 a) + 256 * s2 k y := by
  unfold s2
  rw [s1_step k a y ha]
  have hc := (byte1 a ha).2
  generalize c1 a = a at hc
  generalize s1 k y = y
  rw [and_split ((a + 256 * y) / 4), and_split (a + 256 * y)]
  simp only [by_]
  have e1 : (51 + 256 * by_ 51 k) % 256 = 51 := by omega
  have e2 : (51 + 256 * by_ 51 k) / 256 = by_ 51 k := by omega
  have e3 : (a + 256 * y) / 4 / 256 = y / 4 := by omega
  have e4 : (a + 256 * y) % 256 = a := by omega
  have e5 : (a + 256 * y) / 256 = y := by omega
  rw [e1, e2, e3, e4, e5]
  have e6 : ((a + 256 * y) / 4 % 256 &&& 51) = (a / 4 &&& 51) := by
    obtain ⟨t1, t2, t3, _⟩ := byte2 a hc
    have h : y % 4 = 0 ∨ y % 4 = 1 ∨ y % 4 = 2 ∨ y % 4 = 3 := by omega
    rcases h with h | h | h | h
    · rw [show (a + 256 * y) / 4 % 256 = a / 4 by omega]
    · rw [show (a + 256 * y) / 4 % 256 = a / 4 + 64 by omega]; exact t1
    · rw [show (a + 256 * y) / 4 % 256 = a / 4 + 128 by omega]; exact t2
    · rw [show (a + 256 * y) / 4 % 256 = a / 4 + 192 by omega]; exact t3
  rw [e6]
  unfold c2
  omega
theorem s2_low (k x : Nat) : s2 k x % 16 ≤ 4 := by
  cases k with
  | zero => simp [s2, by_]
  | succ k =>
    have := s2_step k (x % 256) (x / 256) (Nat.mod_lt _ (by decide))
    rw [Nat.mod_add_div] at this
    have h := (byte3 (x % 256) (Nat.mod_lt _ (by decide))).2.1
    omega
theorem s3_step (k a y : Nat) (ha : a < 256) : s3 (k + 1) (a + 256 * y) = popN 8 a + 256 * s3 k y := by
  unfold s3
  rw [s2_step k a y ha]
  obtain ⟨h1, _, h3, h4⟩ := byte3 a ha
  have hl := s2_low k y
  rw [← h3]
  generalize c2 (c1 a) = a at h1 h3
  generalize s2 k y = y at hl
  rw [and_split]
  simp only [by_]
  have e1 : (15 + 256 * by_ 15 k) % 256 = 15 := by omega
  have e2 : (15 + 256 * by_ 15 k) / 256 = by_ 15 k := by omega
  have e3 : ((a + 256 * y) / 16 + (a + 256 * y)) / 256 = y / 16 + y := by omega
  rw [e1, e2, e3]
  have e4 : ∀ z : Nat, z &&& 15 = z % 16 := fun z => Nat.and_two_pow_sub_one_eq_mod z 4
  rw [e4]
  have e5 : ((a + 256 * y) / 16 + (a + 256 * y)) % 256 % 16 = (a / 16 + a) % 16 := by omega
  rw [e5]
theorem s3_zero (x : Nat) : s3 0 x = 0 := by simp [s3, by_]

/-- the sum of all bytes' counts -/
theorem s3_form (x : Nat) (hx : x < 2 ^ 64) : ∃ p0 p1 p2 p3 p4 p5 p6 p7 : Nat, (p0 ≤ 8 ∧ p1 ≤ 8 ∧ p2 ≤ 8 ∧ p3 ≤ 8) ∧ (p4 ≤ 8 ∧ p5 ≤ 8 ∧ p6 ≤ 8 ∧ p7 ≤ 8) ∧
    s3 8 x = p0 + 256 * (p1 + 256 * (p2 + 256 * (p3 + 256 * (p4 + 256 * (p5 + 256 * (p6 + 256 * p7)))))) ∧ popN 64 x = p0 + p1 + p2 + p3 + p4 + p5 + p6 + p7 := by
  have st : ∀ k y : Nat, s3 (k + 1) y = popN 8 (y % 256) + 256 * s3 k (y / 256) := fun k y => by
    have := s3_step k (y % 256) (y / 256) (Nat.mod_lt _ (by decide))
    rwa [Nat.mod_add_div] at this
  have pt : ∀ j y : Nat, popN (8 + j) y = popN 8 (y % 256) + popN j (y / 256) := fun j y => popN_add j 8 y
  have bd : ∀ y : Nat, popN 8 (y % 256) ≤ 8 := fun y => (byte3 (y % 256) (Nat.mod_lt _ (by decide))).2.2.2
  refine ⟨_, _, _, _, _, _, _, _, ⟨bd x, bd (x / 256), bd (x / 256 / 256), bd (x / 256 / 256 / 256)⟩, ⟨bd (x / 256 / 256 / 256 / 256), bd (x / 256 / 256 / 256 / 256 / 256), bd (x / 256 / 256 / 256 / 256 / 256 / 256), bd (x / 256 / 256 / 256 / 256 / 256 / 256 / 256)⟩, ?_, ?_⟩
  · rw [st 7, st 6, st 5, st 4, st 3, st 2, st 1, st 0, s3_zero, Nat.mul_zero, Nat.add_zero]
  · rw [pt 56, pt 48, pt 40, pt 32, pt 24, pt 16, pt 8, pt 0]
    simp only [popN]
    omega
theorem fold_sum (p0 p1 p2 p3 p4 p5 p6 p7 : Nat) (h : p0 ≤ 8 ∧ p1 ≤ 8 ∧ p2 ≤ 8 ∧ p3 ≤ 8) (h' : p4 ≤ 8 ∧ p5 ≤ 8 ∧ p6 ≤ 8 ∧ p7 ≤ 8) (x3 x4 x5 x6 : Nat)
    (e3 : x3 = p0 + 256 * (p1 + 256 * (p2 + 256 * (p3 + 256 * (p4 + 256 * (p5 + 256 * (p6 + 256 * p7))))))) (e4 : x4 = x3 / 256 + x3) (e5 : x5 = x4 / 65536 + x4) (e6 : x6 = x5 / 4294967296 + x5) :
    x6 % 128 = p0 + p1 + p2 + p3 + p4 + p5 + p6 + p7 ∧ x6 < 2 ^ 63 := by
  have a4 : x4 = (p0 + p1) + 256 * ((p1 + p2) + 256 * ((p2 + p3) + 256 * ((p3 + p4) + 256 * ((p4 + p5) + 256 * ((p5 + p6) + 256 * ((p6 + p7) + 256 * p7)))))) := by omega
  have a5 : x5 = (p0 + p1 + p2 + p3) + 256 * ((p1 + p2 + p3 + p4) + 256 * ((p2 + p3 + p4 + p5) + 256 * ((p3 + p4 + p5 + p6) + 256 * ((p4 + p5 + p6 + p7) + 256 * ((p5 + p6 + p7) + 256 * ((p6 + p7) + 256 * p7)))))) := by
    clear e3 e4 e6; omega
  have b1 : x5 / 4294967296 = (p4 + p5 + p6 + p7) + 256 * ((p5 + p6 + p7) + 256 * ((p6 + p7) + 256 * p7)) := by
    clear e3 e4 e5 e6 a4; omega
  have a6 : ∃ q, x6 = (p0 + p1 + p2 + p3 + p4 + p5 + p6 + p7) + 256 * q ∧ q < 2 ^ 54 := by
    refine ⟨((p1 + p2 + p3 + p4) + 256 * ((p2 + p3 + p4 + p5) + 256 * ((p3 + p4 + p5 + p6) + 256 * ((p4 + p5 + p6 + p7) + 256 * ((p5 + p6 + p7) + 256 * ((p6 + p7) + 256 * p7)))))) + ((p5 + p6 + p7) + 256 * ((p6 + p7) + 256 * p7)), ?_, ?_⟩
    · rw [e6, b1, a5]; clear e3 e4 e5 e6 a4 a5 b1; omega
    · clear e3 e4 e5 e6 a4 a5 b1; omega
  obtain ⟨q, hq, hl⟩ := a6
  clear e3 e4 e5 e6 a4 a5 b1
  constructor <;> omega

def G1 (x : Int) : Int := IntKind.u64.wrap ((Go.bits .and .u64 (x / 2) 6148914691236517205) + (Go.bits .and .u64 x 6148914691236517205))
def G2 (x : Int) : Int := IntKind.u64.wrap ((Go.bits .and .u64 (x / 4) 3689348814741910323) + (Go.bits .and .u64 x 3689348814741910323))
def G3 (x : Int) : Int := Go.bits .and .u64 (IntKind.u64.wrap ((x / 16) + x)) 1085102592571150095
def G4 (x : Int) : Int := IntKind.u64.wrap (x + (x / 256))
def G5 (x : Int) : Int := IntKind.u64.wrap (x + (x / 65536))
def G6 (x : Int) : Int := IntKind.u64.wrap (x + (x / 4294967296))
theorem ones_form (x : Int) : bits_OnesCount64.f x = some (Go.bits .and .i64 (wrap64 (G6 (G5 (G4 (G3 (G2 (G1 x))))))) 127) := by
  unfold bits_OnesCount64.f G6 G5 G4 G3 G2 G1
  rfl
theorem s1_lt (x : Nat) (hx : x < 2 ^ 64) : s1 8 x < 2 ^ 64 := by
  have h1 : (x / 2 &&& by_ 85 8) ≤ by_ 85 8 := Nat.and_le_right
  have h2 : (x &&& by_ 85 8) ≤ by_ 85 8 := Nat.and_le_right
  have h3 : by_ 85 8 = 6148914691236517205 := by decide +kernel
  unfold s1; omega
theorem s2_lt (x : Nat) (hx : x < 2 ^ 64) : s2 8 x < 2 ^ 63 := by
  have h1 : (s1 8 x / 4 &&& by_ 51 8) ≤ by_ 51 8 := Nat.and_le_right
  have h2 : (s1 8 x &&& by_ 51 8) ≤ by_ 51 8 := Nat.and_le_right
  have h3 : by_ 51 8 = 3689348814741910323 := by decide +kernel
  unfold s2; omega
theorem nat_u64 (n : Nat) (h : n < 2 ^ 64) : IntKind.u64.wrap (n : Int) = n := u64_in _ (by omega) (by omega)
theorem G1_eq (x : Nat) (hx : x < 2 ^ 64) : G1 (x : Int) = ((s1 8 x : Nat) : Int) := by
  have h3 : by_ 85 8 = 6148914691236517205 := by decide +kernel
  unfold G1
  rw [show (x : Int) / 2 = ((x / 2 : Nat) : Int) by omega, show (6148914691236517205 : Int) = ((by_ 85 8 : Nat) : Int) by rw [h3]; rfl, band _ _ (by omega) (by rw [h3]; decide), band _ _ hx (by rw [h3]; decide)]
  exact nat_u64 _ (s1_lt x hx)
theorem G2_eq (x : Nat) (hx : x < 2 ^ 64) : G2 ((s1 8 x : Nat) : Int) = ((s2 8 x : Nat) : Int) := by
  have h3 : by_ 51 8 = 3689348814741910323 := by decide +kernel
  have h4 := s1_lt x hx
  unfold G2
  rw [show ((s1 8 x : Nat) : Int) / 4 = ((s1 8 x / 4 : Nat) : Int) by omega, show (3689348814741910323 : Int) = ((by_ 51 8 : Nat) : Int) by rw [h3]; rfl, band _ _ (by omega) (by rw [h3]; decide), band _ _ h4 (by rw [h3]; decide)]
  exact nat_u64 _ (by have := s2_lt x hx; unfold s2 at this; omega)
theorem G3_eq (x : Nat) (hx : x < 2 ^ 64) : G3 ((s2 8 x : Nat) : Int) = ((s3 8 x : Nat) : Int) := by
  have h3 : by_ 15 8 = 1085102592571150095 := by decide +kernel
  have h4 := s2_lt x hx
  unfold G3
  rw [show ((s2 8 x : Nat) : Int) / 16 + ((s2 8 x : Nat) : Int) = ((s2 8 x / 16 + s2 8 x : Nat) : Int) by omega, nat_u64 _ (by omega), show (1085102592571150095 : Int) = ((by_ 15 8 : Nat) : Int) by rw [h3]; rfl, band _ _ (by omega) (by rw [h3]; decide)]
  rfl
theorem G4_eq (y : Nat) (h : y / 256 + y < 2 ^ 64) : G4 (y : Int) = ((y / 256 + y : Nat) : Int) := by
  have e : (y : Int) + (y : Int) / 256 = ((y / 256 + y : Nat) : Int) := by omega
  unfold G4; rw [e]; exact nat_u64 _ h
theorem G5_eq (y : Nat) (h : y / 65536 + y < 2 ^ 64) : G5 (y : Int) = ((y / 65536 + y : Nat) : Int) := by
  have e : (y : Int) + (y : Int) / 65536 = ((y / 65536 + y : Nat) : Int) := by omega
  unfold G5; rw [e]; exact nat_u64 _ h
theorem G6_eq (y : Nat) (h : y / 4294967296 + y < 2 ^ 64) : G6 (y : Int) = ((y / 4294967296 + y : Nat) : Int) := by
  have e : (y : Int) + (y : Int) / 4294967296 = ((y / 4294967296 + y : Nat) : Int) := by omega
  unfold G6; rw [e]; exact nat_u64 _ h
theorem last_and (v n : Nat) (h : v % 128 = n) (hv : v < 2 ^ 63) : Go.bits .and .i64 (wrap64 (v : Int)) 127 = (n : Int) := by
  rw [w64_in _ (by omega) (by omega)]
  have := (bits_nat .i64 63 (by decide) (fun n h0 h1 => by
    have h1' : n < 9223372036854775808 := by simpa using h1
    rw [IntKind.wrap_i64]; omega) v 127 hv (by decide)).1
  have e127 : v &&& 127 = v % 128 := Nat.and_two_pow_sub_one_eq_mod v 7
  rw [e127, h] at this
  exact this
theorem ones_eq (x : Nat) (hx : x < 2 ^ 64) : bits_OnesCount64.f (x : Int) = some ((popN 64 x : Nat) : Int) := by
  rw [ones_form, G1_eq x hx, G2_eq x hx, G3_eq x hx]
  obtain ⟨p0, p1, p2, p3, p4, p5, p6, p7, h, h', e, ep⟩ := s3_form x hx
  obtain ⟨y, hy⟩ : ∃ y, y = s3 8 x := ⟨_, rfl⟩
  obtain ⟨z, hz⟩ : ∃ z, z = y / 256 + y := ⟨_, rfl⟩
  obtain ⟨u, hu⟩ : ∃ u, u = z / 65536 + z := ⟨_, rfl⟩
  obtain ⟨v, hv⟩ : ∃ v, v = u / 4294967296 + u := ⟨_, rfl⟩
  rw [← hy] at e
  obtain ⟨f1, f2⟩ := fold_sum p0 p1 p2 p3 p4 p5 p6 p7 h h' y z u v e hz hu hv
  have bv : v < 2 ^ 64 := by clear h h' e ep f1 hx hy; omega
  have bu : u < 2 ^ 64 := by clear h h' e ep f1 hx hy; omega
  have bz : z < 2 ^ 64 := by clear h h' e ep f1 hx hy; omega
  rw [← hy, G4_eq y (hz ▸ bz), ← hz, G5_eq z (hu ▸ bu), ← hu, G6_eq u (hv ▸ bv), ← hv, last_and v _ f1 f2, ep]
end Go.Proofs.Ytobfhacdljmooaa.PBloom
