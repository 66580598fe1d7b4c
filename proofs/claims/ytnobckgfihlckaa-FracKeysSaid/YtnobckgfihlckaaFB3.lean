/- Plain laws of shares: which share a float becomes, the product of shares, the rest, the key. -/
import Derived.Test.YtnobckgfihlckaaFB2
set_option linter.unusedVariables false
set_option linter.unusedSimpArgs false
set_option exponentiation.threshold 3000
namespace Go.Proofs.Ytnobckgfihlckaa.Fl
open Ieee

abbrev INF : Nat := 9218868437227405312
abbrev ONE : Nat := 4607182418800017408
abbrev TOP : Nat := 18446744073709551616
abbrev HALF : Nat := 9223372036854775808

/-- the share that a float becomes -/
def cN (b : Nat) : Nat := if 9218868437227405312 < b % 9223372036854775808 then 4607182418800017408 else if 9223372036854775808 ≤ b ∨ b % 9223372036854775808 = 0 then 0 else if 4607182418800017408 ≤ b then 4607182418800017408 else b
theorem cN_le (b : Nat) : cN b ≤ 4607182418800017408 := by unfold cN; (repeat' split) <;> omega
theorem cN_share (b : Nat) (h : b ≤ 4607182418800017408) : cN b = b := by unfold cN; (repeat' split) <;> omega
theorem cN_cN (b : Nat) : cN (cN b) = cN b := cN_share _ (cN_le b)
theorem cN_neg (r : Nat) (h : r ≤ 9218868437227405312) : cN (9223372036854775808 + r) = 0 := by unfold cN; (repeat' split) <;> omega

theorem nan_self (b : Nat) (hb : b < 18446744073709551616) : (D.order b b != some .eq) = decide (9218868437227405312 < b % 9223372036854775808) := by
  by_cases h : 9218868437227405312 < b % 9223372036854775808
  · rw [order_nan b b h, decide_eq_true h]; rfl
  · rw [order_eq b b hb hb (by omega) (by omega), decide_eq_false h, show compare (K b) (K b) = .eq from by rw [Int.compare_eq_eq]]; rfl
theorem K_one : K 4607182418800017408 = 4607182418800017408 := by decide
theorem K_zero : K 0 = 0 := by decide
theorem clean_eq (b : Nat) (hb : b < 18446744073709551616) :
    (if (D.order b b != some .eq) = true then 4607182418800017408 else if (D.order b 4607182418800017408 == some .gt) = true then 4607182418800017408 else if (D.order b 0 == some .gt) = true then b else 0) = cN b := by
  rw [nan_self b hb]
  by_cases h : 9218868437227405312 < b % 9223372036854775808
  · rw [if_pos (decide_eq_true h)]; unfold cN; rw [if_pos h]
  · rw [if_neg (by simpa using h), order_eq b _ hb (by decide) (by omega) (by decide), order_eq b 0 hb (by decide) (by omega) (by decide), cmp_gt, cmp_gt, K_one, K_zero]
    unfold cN K
    simp only [decide_eq_true_eq]
    (repeat' split) <;> omega

/-- the product of two shares is at most each -/
theorem mul_le (r q : Nat) (hr : r < 9218868437227405312) (hq : q ≤ 4607182418800017408) : RD (V r * V q) 1074 ≤ r := by
  have h1 : V q ≤ 2 ^ 1074 := by rw [← V_one]; exact (V_le (by omega) (by omega)).2 hq
  have h2 := RD_mono (V r * V q) (V r * 2 ^ 1074) 1074 (Nat.mul_le_mul_left _ h1)
  rwa [RD_exact r 1074 hr] at h2
theorem mul_le' (r q : Nat) (hq : q < 9218868437227405312) (hr : r ≤ 4607182418800017408) : RD (V r * V q) 1074 ≤ q := by
  rw [Nat.mul_comm]; exact mul_le q r hq hr

def mulN (p c : Nat) : Nat := RD (V p * V c) 1074
theorem mulN_le (p c : Nat) (hp : p ≤ 4607182418800017408) (hc : c ≤ 4607182418800017408) : mulN p c ≤ p ∧ mulN p c ≤ c := ⟨mul_le p c (by omega) hc, mul_le' p c (by omega) hp⟩
theorem mulN_eq (p c : Nat) (hp : p ≤ 4607182418800017408) (hc : c ≤ 4607182418800017408) : D.mul p c = some (mulN p c) := mul_eq p c (by omega) (by omega)

def notN (b : Nat) : Nat := RD (2 ^ 1074 - V (cN b)) 0
theorem notN_eq (b : Nat) : D.sub 4607182418800017408 (cN b) = some (notN b) := by
  have := cN_le b
  rw [sub_eq _ _ (by decide) (by omega) ((V_le (by omega) (by decide)).2 this), V_one]; rfl
theorem notN_le (b : Nat) : notN b ≤ 4607182418800017408 := by
  have h := RD_mono (2 ^ 1074 - V (cN b)) (V 4607182418800017408 * 2 ^ 0) 0 (by rw [V_one, Nat.pow_zero, Nat.mul_one]; exact Nat.sub_le _ _)
  rwa [RD_exact _ 0 (by decide)] at h

def addN (p c : Nat) : Nat := RD (V p + V c) 0
theorem addN_eq (p c : Nat) (hp : p ≤ 4607182418800017408) (hc : c ≤ 4607182418800017408) : D.add p c = some (addN p c) := add_eq p c (by omega) (by omega)
theorem addN_comm (p c : Nat) : addN p c = addN c p := by unfold addN; rw [Nat.add_comm]
theorem mulN_comm (p c : Nat) : mulN p c = mulN c p := by unfold mulN; rw [Nat.mul_comm]
theorem RD_lt (X t : Nat) : RD X t ≤ 9218868437227405312 := RD_le X t
theorem V_le_two (p : Nat) (h : p ≤ 4607182418800017408) : V p ≤ 2 ^ 1074 := by rw [← V_one]; exact (V_le (by omega) (by omega)).2 h
theorem V_two : V 4611686018427387904 = 2 ^ 1075 := by decide +kernel
theorem addN_le (p c : Nat) (hp : p ≤ 4607182418800017408) (hc : c ≤ 4607182418800017408) : addN p c ≤ 4611686018427387904 := by
  have h := RD_mono (V p + V c) (V 4611686018427387904 * 2 ^ 0) 0 (by
    rw [V_two, Nat.pow_zero, Nat.mul_one, Nat.pow_succ]
    have h1 := V_le_two p hp
    have h2 := V_le_two c hc
    generalize 2 ^ 1074 = Z at *
    omega)
  rwa [RD_exact _ 0 (by decide)] at h
theorem le_addN (p c : Nat) (hp : p ≤ 4607182418800017408) : p ≤ addN p c := by
  have h := RD_mono (V p * 2 ^ 0) (V p + V c) 0 (by rw [Nat.pow_zero, Nat.mul_one]; exact Nat.le_add_right _ _)
  rwa [RD_exact p 0 (by omega)] at h
def orN (a b : Nat) : Nat := cN (RD (V (addN (cN a) (cN b)) - V (mulN (cN a) (cN b))) 0)
theorem orN_eq (a b : Nat) : D.sub (addN (cN a) (cN b)) (mulN (cN a) (cN b)) = some (RD (V (addN (cN a) (cN b)) - V (mulN (cN a) (cN b))) 0) := by
  have ha := cN_le a
  have hb := cN_le b
  have h1 := addN_le _ _ ha hb
  have h2 := le_addN (cN a) (cN b) ha
  have h3 := (mulN_le _ _ ha hb).1
  exact sub_eq _ _ (by omega) (by omega) ((V_le (by omega) (by omega)).2 (by omega))
theorem orN_comm (a b : Nat) : orN a b = orN b a := by unfold orN; rw [addN_comm, mulN_comm]

/-- a key -/
def keyN (b : Nat) : Int := if 9218868437227405312 < b % 9223372036854775808 then 18446744073709551615 else if 9223372036854775808 ≤ b then 18446744073709551615 - b else 9223372036854775808 + b
theorem key_lt (a b : Nat) (ha : a < 18446744073709551616) (hb : b < 18446744073709551616) (h : (D.order a b == some .lt) = true) : keyN a < keyN b := by
  by_cases na : 9218868437227405312 < a % 9223372036854775808
  · rw [order_nan a b na] at h; exact absurd h (by decide)
  by_cases nb : 9218868437227405312 < b % 9223372036854775808
  · rw [order_nan' a b nb] at h; exact absurd h (by decide)
  rw [order_eq a b ha hb (by omega) (by omega), cmp_lt, decide_eq_true_eq] at h
  unfold K at h
  unfold keyN
  rw [if_neg na, if_neg nb]
  revert h
  (repeat' split) <;> omega
theorem key_gt (a b : Nat) (ha : a < 18446744073709551616) (hb : b < 18446744073709551616) (h : (D.order a b == some .gt) = true) : keyN b < keyN a := by
  by_cases na : 9218868437227405312 < a % 9223372036854775808
  · rw [order_nan a b na] at h; exact absurd h (by decide)
  by_cases nb : 9218868437227405312 < b % 9223372036854775808
  · rw [order_nan' a b nb] at h; exact absurd h (by decide)
  rw [order_eq a b ha hb (by omega) (by omega), cmp_gt, decide_eq_true_eq] at h
  unfold K at h
  unfold keyN
  rw [if_neg na, if_neg nb]
  revert h
  (repeat' split) <;> omega
theorem share_lt (a b : Nat) (ha : a ≤ 4607182418800017408) (hb : b ≤ 4607182418800017408) : (D.order a b == some .lt) = decide (a < b) := by
  rw [order_eq a b (by omega) (by omega) (by omega) (by omega), cmp_lt]
  unfold K
  rw [if_pos (by omega), if_pos (by omega)]
  exact decide_eq_decide.2 (by omega)
theorem share_gt (a b : Nat) (ha : a ≤ 4607182418800017408) (hb : b ≤ 4607182418800017408) : (D.order a b == some .gt) = decide (b < a) := by
  rw [order_eq a b (by omega) (by omega) (by omega) (by omega), cmp_gt]
  unfold K
  rw [if_pos (by omega), if_pos (by omega)]
  exact decide_eq_decide.2 (by omega)
theorem share_eq (a b : Nat) (ha : a ≤ 4607182418800017408) (hb : b ≤ 4607182418800017408) : (D.order a b == some .eq) = decide (a = b) := by
  rw [order_eq a b (by omega) (by omega) (by omega) (by omega), cmp_eq]
  unfold K
  rw [if_pos (by omega), if_pos (by omega)]
  exact decide_eq_decide.2 (by omega)
theorem share_le (a b : Nat) (ha : a ≤ 4607182418800017408) (hb : b ≤ 4607182418800017408) : (D.order a b == some .lt || D.order a b == some .eq) = decide (a ≤ b) := by
  rw [share_lt a b ha hb, share_eq a b ha hb, ← Bool.decide_or]
  exact decide_eq_decide.2 (by omega)
theorem key_share (a : Nat) (ha : a ≤ 4607182418800017408) : keyN a = 9223372036854775808 + a := by unfold keyN; (repeat' split) <;> omega
end Go.Proofs.Ytnobckgfihlckaa.Fl
