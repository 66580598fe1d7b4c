/- Plain laws of binary floating point, at 64 bits: sums, differences, products, and the order, by rungs. -/
import Derived.Test.YtnobckgfihlckaaFB1
set_option linter.unusedVariables false
set_option linter.unusedSimpArgs false
namespace Go.Proofs.Ytnobckgfihlckaa.Fl
open Ieee

def mg (r : Nat) : Nat := if r < 4503599627370496 then r else 4503599627370496 + r % 4503599627370496
def pc (r : Nat) : Int := if r < 4503599627370496 then -1074 else -1074 + ((r / 4503599627370496 - 1 : Nat) : Int)
theorem pc_ge (r : Nat) : -1074 ≤ pc r := by unfold pc; split <;> omega
theorem mg_V (r : Nat) : mg r * 2 ^ (pc r + 1074).toNat = V r := by
  unfold mg pc V
  split
  · simp
  · rw [show (-1074 + ((r / 4503599627370496 - 1 : Nat) : Int) + 1074).toNat = r / 4503599627370496 - 1 by omega]
theorem word_false (r : Nat) : D.word false r = r := rfl
theorem word_true (r : Nat) : D.word true r = 9223372036854775808 + r := by unfold Format.word; rw [D_sw]; rfl
theorem read_num (s : Bool) (r : Nat) (hr : r < 9218868437227405312) : D.read (D.word s r) = .number s (mg r) (pc r) := by
  have hs : D.word s r / 9223372036854775808 % 2 == 1 ↔ s = true := by
    cases s
    · rw [word_false]; simp; omega
    · rw [word_true]; simp; omega
  have hs' : (D.word s r / 9223372036854775808 % 2 == 1) = s := by
    rw [Bool.eq_iff_iff]; exact hs
  have hm : D.word s r % 9223372036854775808 = r := by
    cases s
    · rw [word_false]; omega
    · rw [word_true]; omega
  unfold Format.read
  simp only [D_sw, D_bin, D_inf, D_least, hs', hm]
  unfold mg pc
  by_cases h : r < 4503599627370496
  · rw [if_pos h, if_pos h, if_pos h]
  · rw [if_neg h, if_neg h, if_neg h, if_pos hr]
theorem read_inf (s : Bool) : D.read (D.word s 9218868437227405312) = .infinity s := by cases s <;> decide +kernel
theorem read_nan (b : Nat) (h : 9218868437227405312 < b % 9223372036854775808) : ∃ s t, D.read b = .nan s t := by
  unfold Format.read
  simp only [D_sw, D_bin, D_inf, D_least]
  rw [if_neg (by omega), if_neg (by omega), if_neg (by omega)]
  exact ⟨_, _, rfl⟩

theorem write_num (s : Bool) (m : Nat) (i : Int) (t : Nat) (hi : 0 ≤ i + 1074 + t) : D.write (.number s m i) = D.word s (RD (m * 2 ^ (i + 1074 + t).toNat) t) := nearest_eq s m i t hi
theorem RD_le (X t : Nat) : RD X t ≤ 9218868437227405312 := by unfold RD; split <;> omega

theorem mul_eq (r q : Nat) (hr : r < 9218868437227405312) (hq : q < 9218868437227405312) : D.mul r q = some (RD (V r * V q) 1074) := by
  unfold Format.mul
  have h1 := read_num false r hr
  have h2 := read_num false q hq
  rw [word_false] at h1 h2
  rw [h1, h2]
  have g1 := pc_ge r
  have g2 := pc_ge q
  show some (D.write (.number (false ^^ false) (mg r * mg q) (pc r + pc q))) = _
  rw [write_num _ _ _ 1074 (by omega), show (false ^^ false) = false from rfl, word_false]
  congr 2
  rw [← mg_V r, ← mg_V q, show (pc r + pc q + 1074 + ((1074 : Nat) : Int)).toNat = (pc r + 1074).toNat + (pc q + 1074).toNat by omega, Nat.pow_add]
  exact Nat.mul_mul_mul_comm _ _ _ _

/-- a number's magnitude above a base -/
theorem up_V (r : Nat) (b : Int) (hb : -1074 ≤ b) (h : b ≤ pc r) : (mg r <<< (pc r - b).toNat) * 2 ^ (b + 1074).toNat = V r := by
  rw [Nat.shiftLeft_eq, Nat.mul_assoc, ← Nat.pow_add, show (pc r - b).toNat + (b + 1074).toNat = (pc r + 1074).toNat by omega, mg_V]
theorem add_eq (r q : Nat) (hr : r < 9218868437227405312) (hq : q < 9218868437227405312) : D.add r q = some (RD (V r + V q) 0) := by
  unfold Format.add
  have h1 := read_num false r hr
  have h2 := read_num false q hq
  rw [word_false] at h1 h2
  rw [h1, h2]
  have g1 := pc_ge r
  have g2 := pc_ge q
  obtain ⟨b, hb⟩ : ∃ b, b = min (pc r) (pc q) := ⟨_, rfl⟩
  have hb1 : -1074 ≤ b := by omega
  have u1 := up_V r b hb1 (by omega)
  have u2 := up_V q b hb1 (by omega)
  simp only [Datum.sum, Option.map_some, ← hb, signed]
  generalize mg r <<< (pc r - b).toNat = X at *
  generalize mg q <<< (pc q - b).toNat = Y at *
  have hneg : (if (if False then -(X : Int) else (X : Int)) + (if False then -(Y : Int) else (Y : Int)) = 0 then (false && false) else decide ((if False then -(X : Int) else (X : Int)) + (if False then -(Y : Int) else (Y : Int)) < 0)) = false := by
    simp; omega
  simp only [Bool.false_eq_true, if_false] at *
  have hn : (if (X : Int) + (Y : Int) = 0 then (false && false) else decide ((X : Int) + (Y : Int) < 0)) = false := by
    split
    · rfl
    · exact decide_eq_false (by omega)
  rw [hn, write_num _ _ _ 0 (by omega), word_false, show ((X : Int) + (Y : Int)).natAbs = X + Y by omega]
  congr 2
  rw [← u1, ← u2, Nat.add_mul]
  simp
theorem sub_eq (r q : Nat) (hr : r < 9218868437227405312) (hq : q < 9218868437227405312) (h : V q ≤ V r) : D.sub r q = some (RD (V r - V q) 0) := by
  unfold Format.sub
  have h1 := read_num false r hr
  have h2 := read_num false q hq
  rw [word_false] at h1 h2
  rw [h1, h2]
  have g1 := pc_ge r
  have g2 := pc_ge q
  obtain ⟨b, hb⟩ : ∃ b, b = min (pc r) (pc q) := ⟨_, rfl⟩
  have hb1 : -1074 ≤ b := by omega
  have u1 := up_V r b hb1 (by omega)
  have u2 := up_V q b hb1 (by omega)
  simp only [Datum.opposite, Datum.sum, Option.map_some, ← hb, signed, Bool.not_false]
  generalize mg r <<< (pc r - b).toNat = X at *
  generalize mg q <<< (pc q - b).toNat = Y at *
  have hXY : Y ≤ X := by
    rw [← u1, ← u2] at h
    exact Nat.le_of_mul_le_mul_right h (Nat.two_pow_pos _)
  simp only [Bool.false_eq_true, if_false, if_true]
  have hn : (if (X : Int) + -(Y : Int) = 0 then (false && true) else decide ((X : Int) + -(Y : Int) < 0)) = false := by
    split
    · rfl
    · exact decide_eq_false (by omega)
  rw [hn, write_num _ _ _ 0 (by omega), word_false, show ((X : Int) + -(Y : Int)).natAbs = X - Y by omega]
  congr 2
  rw [← u1, ← u2, Nat.sub_mul]
  simp
theorem sub_some (r q : Nat) (hr : r < 9218868437227405312) (hq : q < 9218868437227405312) : ∃ z, D.sub r q = some z := by
  unfold Format.sub
  have h1 := read_num false r hr
  have h2 := read_num false q hq
  rw [word_false] at h1 h2
  rw [h1, h2]
  exact ⟨_, rfl⟩
theorem comm_add (a b : Nat) : D.add a b = D.add b a := by
  unfold Format.add
  congr 1
  cases D.read a <;> cases D.read b <;> simp only [Datum.sum]
  · rename_i s m i t n j
    rw [Int.min_comm, Int.add_comm, Bool.and_comm]
  · rename_i s t
    by_cases h : s = t
    · rw [if_pos h, if_pos h.symm, h]
    · rw [if_neg h, if_neg (fun e => h e.symm)]
theorem comm_mul (a b : Nat) : D.mul a b = D.mul b a := by
  unfold Format.mul
  congr 1
  cases D.read a <;> cases D.read b <;> simp only [Datum.product] <;> simp only [Bool.xor_comm, Nat.mul_comm, Int.add_comm]

theorem int_eq (n : Nat) : D.write (.number false n 0) = RD (n * 2 ^ 1074) 0 := by
  rw [write_num _ _ _ 0 (by omega), word_false, show ((0 : Int) + 1074 + ((0 : Nat) : Int)).toNat = 1074 from rfl]

/-- a word as a signed rung -/
def K (b : Nat) : Int := if b < 9223372036854775808 then (b : Int) else -((b - 9223372036854775808 : Nat) : Int)
theorem word_of (b : Nat) (hb : b < 18446744073709551616) : ∃ s r, b = D.word s r ∧ r = b % 9223372036854775808 ∧ K b = (if s = true then -(r : Int) else (r : Int)) := by
  by_cases h : b < 9223372036854775808
  · refine ⟨false, b, rfl, (Nat.mod_eq_of_lt h).symm, ?_⟩
    unfold K; rw [if_pos h, if_neg (by decide)]
  · have h1 : 9223372036854775808 ≤ b := Nat.le_of_not_lt h
    refine ⟨true, b - 9223372036854775808, ?_, ?_, ?_⟩
    · rw [word_true, Nat.add_sub_cancel' h1]
    · rw [Nat.mod_eq_sub_mod h1, Nat.mod_eq_of_lt (Nat.sub_lt_left_of_lt_add h1 (Nat.lt_of_lt_of_eq hb (by decide +kernel)))]
    · unfold K; rw [if_neg h, if_pos rfl]
theorem compare_congr {a b c d : Int} (h1 : a < b ↔ c < d) (h2 : a = b ↔ c = d) : compare a b = compare c d := by
  show compareOfLessAndEq a b = compareOfLessAndEq c d
  unfold compareOfLessAndEq
  simp only [h1, h2]
theorem V_zero : V 0 = 0 := rfl
theorem sgn_cmp (s t : Bool) (r q : Nat) (hr : r < 9218868437227405312) (hq : q < 9218868437227405312) :
    compare (if s = true then -(V r : Int) else (V r : Int)) (if t = true then -(V q : Int) else (V q : Int)) = compare (if s = true then -(r : Int) else (r : Int)) (if t = true then -(q : Int) else (q : Int)) := by
  have h1 := V_lt hr hq
  have h2 := V_lt hq hr
  have h3 : V r = V q ↔ r = q := ⟨fun h => by omega, fun h => by rw [h]⟩
  have h0 : V 0 = 0 := rfl
  have h4 : (0 < V r ↔ 0 < r) := by have := V_lt (r := 0) (q := r) (by decide) hr; rw [h0] at this; exact this
  have h5 : (0 < V q ↔ 0 < q) := by have := V_lt (r := 0) (q := q) (by decide) hq; rw [h0] at this; exact this
  clear h0
  generalize V r = x at *
  generalize V q = y at *
  apply compare_congr
  · cases s <;> cases t <;> simp <;> omega
  · cases s <;> cases t <;> simp <;> omega
theorem scale_cmp (a b : Int) (k : Nat) : compare a b = compare (a * ((2 ^ k : Nat) : Int)) (b * ((2 ^ k : Nat) : Int)) := by
  have hk : (0 : Int) < ((2 ^ k : Nat) : Int) := by have := Nat.two_pow_pos k; omega
  apply compare_congr
  · exact (Int.mul_lt_mul_right hk).symm
  · exact ⟨fun h => by rw [h], fun h => Int.eq_of_mul_eq_mul_right (by omega) h⟩
theorem order_num (s t : Bool) (r q : Nat) (hr : r < 9218868437227405312) (hq : q < 9218868437227405312) :
    D.order (D.word s r) (D.word t q) = some (compare (if s = true then -(r : Int) else (r : Int)) (if t = true then -(q : Int) else (q : Int))) := by
  unfold Format.order
  rw [read_num s r hr, read_num t q hq]
  have g1 := pc_ge r
  have g2 := pc_ge q
  obtain ⟨b, hb⟩ : ∃ b, b = min (pc r) (pc q) := ⟨_, rfl⟩
  have hb1 : -1074 ≤ b := by omega
  have u1 := up_V r b hb1 (by omega)
  have u2 := up_V q b hb1 (by omega)
  simp only [Datum.order, ← hb, signed]
  rw [← sgn_cmp s t r q hr hq, scale_cmp _ _ (b + 1074).toNat, ← u1, ← u2]
  generalize mg r <<< (pc r - b).toNat = X
  generalize mg q <<< (pc q - b).toNat = Y
  generalize 2 ^ (b + 1074).toNat = Z
  have e : ∀ (s : Bool) (X : Nat), (if s = true then -(X : Int) else (X : Int)) * (Z : Int) = (if s = true then -((X * Z : Nat) : Int) else ((X * Z : Nat) : Int)) := by
    intro s X
    cases s <;> simp [Int.neg_mul]
  rw [e, e]
theorem order_eq (b c : Nat) (hb : b < 18446744073709551616) (hc : c < 18446744073709551616) (nb : b % 9223372036854775808 ≤ 9218868437227405312) (nc : c % 9223372036854775808 ≤ 9218868437227405312) :
    D.order b c = some (compare (K b) (K c)) := by
  obtain ⟨s, r, eb, er, kb⟩ := word_of b hb
  obtain ⟨t, q, ec, eq, kc⟩ := word_of c hc
  rw [← er] at nb
  rw [← eq] at nc
  rw [kb, kc, eb, ec]
  by_cases hr : r = 9218868437227405312
  · by_cases hq : q = 9218868437227405312
    · subst hr; subst hq
      unfold Format.order
      rw [read_inf, read_inf]
      cases s <;> cases t <;> decide +kernel
    · have hq' : q < 9218868437227405312 := by omega
      unfold Format.order
      rw [hr, read_inf, read_num t q hq']
      simp only [Datum.order]
      clear eb ec er eq kb kc nb nc hr
      cases s
      · have : compare (if false = true then -((9218868437227405312 : Nat) : Int) else ((9218868437227405312 : Nat) : Int)) (if t = true then -(q : Int) else (q : Int)) = .gt := by
          show compareOfLessAndEq _ _ = _
          unfold compareOfLessAndEq
          rw [if_neg (by cases t <;> simp <;> omega), if_neg (by cases t <;> simp <;> omega)]
        rw [this]; rfl
      · have : compare (if true = true then -((9218868437227405312 : Nat) : Int) else ((9218868437227405312 : Nat) : Int)) (if t = true then -(q : Int) else (q : Int)) = .lt := by
          show compareOfLessAndEq _ _ = _
          unfold compareOfLessAndEq
          rw [if_pos (by cases t <;> simp <;> omega)]
        rw [this]; rfl
  · have hr' : r < 9218868437227405312 := by omega
    by_cases hq : q = 9218868437227405312
    · unfold Format.order
      rw [hq, read_inf, read_num s r hr']
      simp only [Datum.order]
      clear eb ec er eq kb kc nb nc hq
      cases t
      · have : compare (if s = true then -(r : Int) else (r : Int)) (if false = true then -((9218868437227405312 : Nat) : Int) else ((9218868437227405312 : Nat) : Int)) = .lt := by
          show compareOfLessAndEq _ _ = _
          unfold compareOfLessAndEq
          rw [if_pos (by cases s <;> simp <;> omega)]
        rw [this]; rfl
      · have : compare (if s = true then -(r : Int) else (r : Int)) (if true = true then -((9218868437227405312 : Nat) : Int) else ((9218868437227405312 : Nat) : Int)) = .gt := by
          show compareOfLessAndEq _ _ = _
          unfold compareOfLessAndEq
          rw [if_neg (by cases s <;> simp <;> omega), if_neg (by cases s <;> simp <;> omega)]
        rw [this]; rfl
    · exact order_num s t r q hr' (by omega)
theorem order_nan (b c : Nat) (h : 9218868437227405312 < b % 9223372036854775808) : D.order b c = none := by
  obtain ⟨s, t, e⟩ := read_nan b h
  unfold Format.order
  rw [e]; rfl
theorem order_nan' (b c : Nat) (h : 9218868437227405312 < c % 9223372036854775808) : D.order b c = none := by
  obtain ⟨s, t, e⟩ := read_nan c h
  unfold Format.order
  rw [e]
  cases D.read b <;> rfl
theorem cmp_gt (a b : Int) : (some (compare a b) == some Ordering.gt) = decide (b < a) := by
  show (some (compareOfLessAndEq a b) == some Ordering.gt) = _
  unfold compareOfLessAndEq
  by_cases h : a < b
  · rw [if_pos h, decide_eq_false (by omega)]; rfl
  · rw [if_neg h]
    by_cases e : a = b
    · rw [if_pos e, decide_eq_false (by omega)]; rfl
    · rw [if_neg e, decide_eq_true (by omega)]; rfl
theorem cmp_lt (a b : Int) : (some (compare a b) == some Ordering.lt) = decide (a < b) := by
  show (some (compareOfLessAndEq a b) == some Ordering.lt) = _
  unfold compareOfLessAndEq
  by_cases h : a < b
  · rw [if_pos h, decide_eq_true h]; rfl
  · rw [if_neg h, decide_eq_false h]
    by_cases e : a = b
    · rw [if_pos e]; rfl
    · rw [if_neg e]; rfl
theorem cmp_eq (a b : Int) : (some (compare a b) == some Ordering.eq) = decide (a = b) := by
  show (some (compareOfLessAndEq a b) == some Ordering.eq) = _
  unfold compareOfLessAndEq
  by_cases h : a < b
  · rw [if_pos h, decide_eq_false (by omega)]; rfl
  · rw [if_neg h]
    by_cases e : a = b
    · rw [if_pos e, decide_eq_true e]; rfl
    · rw [if_neg e, decide_eq_false e]; rfl
end Go.Proofs.Ytnobckgfihlckaa.Fl
