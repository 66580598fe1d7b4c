/- Plain laws of counts: Div64's two steps of division come to the quotient and the rest. -/
import Derived.Test.YtnobckgfihlckaaSM1
set_option linter.unusedVariables false
set_option linter.unusedSimpArgs false
namespace Go.Proofs.Ytnobckgfihlckaa.PSat
open Go.RowKit Go.Proofs.YtnobckgfihlckaaW.PrintWords Go.Proofs.YtnobckgfihlckaaW.PrintLast Go.Proofs.YtnobckgfihlckaaW.PrintMore

/-- One step: is the guess q too great? -/
theorem guess_gt (Y y1 y0 u n q r : Nat) (hY : Y = y1 * 4294967296 + y0) (hr : q * y1 + r = u) (qs : Nat) (hqs : qs = (u * 4294967296 + n) / Y) (hYp : 0 < Y) :
    qs < q ↔ r * 4294967296 + n < q * y0 := by
  rw [hqs, Nat.div_lt_iff_lt_mul hYp, hY, Nat.mul_add, ← Nat.mul_assoc, ← hr, Nat.add_mul]
  omega
/-- Behind the break the guess is right. -/
theorem guess_last (Y y1 y0 u n q r : Nat) (hY : Y = y1 * 4294967296 + y0) (h0 : y0 < 4294967296) (hr : q * y1 + r = u) (qs : Nat) (hqs : qs = (u * 4294967296 + n) / Y) (hYp : 0 < Y)
    (hq : q ≤ 4294967296) (hb : 4294967296 ≤ r) (hle : qs ≤ q) : q = qs := by
  have h := guess_gt Y y1 y0 u n q r hY hr qs hqs hYp
  have h2 : q * y0 ≤ 4294967296 * 4294967295 := Nat.mul_le_mul hq (by omega)
  by_cases e : qs < q
  · have := h.1 e; omega
  · omega
theorem guess_first (Y y1 y0 u n : Nat) (hY : Y = y1 * 4294967296 + y0) (h1 : 2147483648 ≤ y1) (h0 : y0 < 4294967296) (hu : u < Y) (hn : n < 4294967296) :
    (u * 4294967296 + n) / Y ≤ u / y1 ∧ u / y1 ≤ 4294967297 ∧ u / y1 * y1 + (u - u / y1 * y1) = u ∧ (u * 4294967296 + n) / Y < 4294967296 ∧ u - u / y1 * y1 < y1 := by
  have hy1 : 0 < y1 := by omega
  have hYp : 0 < Y := by omega
  have hm := Nat.div_mul_le_self u y1
  have hd := Nat.mod_add_div u y1
  have hml := Nat.mod_lt u hy1
  rw [Nat.mul_comm] at hd
  have hq : (u * 4294967296 + n) / Y ≤ u / y1 := by
    rw [Nat.le_div_iff_mul_le hy1]
    have h := Nat.div_mul_le_self (u * 4294967296 + n) Y
    generalize (u * 4294967296 + n) / Y = q at h ⊢
    rw [hY, Nat.mul_add, ← Nat.mul_assoc] at h
    generalize q * y1 = p at h ⊢
    omega
  refine ⟨hq, ?_, by omega, ?_, by omega⟩
  · have : u / y1 < 4294967298 := by rw [Nat.div_lt_iff_lt_mul hy1]; omega
    omega
  · rw [Nat.div_lt_iff_lt_mul hYp]; omega

theorem u64_sub (a b c d : Nat) (h : a + b = c + d) (hd : d < 18446744073709551616) :
    IntKind.u64.wrap (IntKind.u64.wrap (IntKind.u64.wrap (a : Int) + (b : Int)) - IntKind.u64.wrap (c : Int)) = (d : Int) := by
  rw [u64_mod, u64_mod, u64_mod, u64_mod]; omega
theorem shr_nat (a s : Nat) (hs : s ≤ 64) : shr .u64 (a : Int) (s : Int) = ((a / 2 ^ s : Nat) : Int) := by
  unfold shr
  rw [Int.toNat_natCast, Nat.min_eq_left (show s ≤ IntKind.u64.bits from hs)]
  push_cast; rfl
theorem mul_cast (a b : Nat) : (a : Int) * (b : Int) = ((a * b : Nat) : Int) := by push_cast; rfl

/-- the numbers of one step -/
structure Step (Y y1 y0 u n qs : Nat) : Prop where
  hY : Y = y1 * 4294967296 + y0
  h1 : 2147483648 ≤ y1
  h1' : y1 < 4294967296
  h0 : y0 < 4294967296
  hu : u < Y
  hn : n < 4294967296
  hq : qs = (u * 4294967296 + n) / Y

theorem Step.pos {Y y1 y0 u n qs : Nat} (S : Step Y y1 y0 u n qs) : 0 < Y := by have := S.hY; have := S.h1; omega
theorem Step.qlt {Y y1 y0 u n qs : Nat} (S : Step Y y1 y0 u n qs) : qs < 4294967296 := by
  rw [S.hq]; exact (guess_first Y y1 y0 u n S.hY S.h1 S.h0 S.hu S.hn).2.2.2.1
theorem Step.rest {Y y1 y0 u n qs : Nat} (S : Step Y y1 y0 u n qs) : ∃ m, m < Y ∧ u * 4294967296 + n = qs * Y + m := by
  refine ⟨(u * 4294967296 + n) % Y, Nat.mod_lt _ S.pos, ?_⟩
  rw [S.hq, Nat.mul_comm ((u * 4294967296 + n) / Y) Y]
  exact (Nat.div_add_mod _ _).symm
/-- the test of a round -/
theorem Step.test {Y y1 y0 u n qs : Nat} (S : Step Y y1 y0 u n qs) (q r : Nat) (hr : q * y1 + r = u) (hrl : r < 4294967296) (hq : q < 4294967296) :
    decide (IntKind.u64.wrap ((q : Int) * (y0 : Int)) > IntKind.u64.wrap (IntKind.u64.wrap (4294967296 * (r : Int)) + (n : Int))) = decide (qs < q) := by
  have hn := S.hn
  have h2 : q * y0 ≤ 4294967295 * 4294967295 := Nat.mul_le_mul (by omega) (by have := S.h0; omega)
  rw [mul_cast, nat_u64 _ (by omega), show 4294967296 * (r : Int) = ((4294967296 * r : Nat) : Int) by omega, nat_u64 (4294967296 * r) (by omega), show ((4294967296 * r : Nat) : Int) + (n : Int) = ((4294967296 * r + n : Nat) : Int) by omega, nat_u64 (4294967296 * r + n) (by omega)]
  have h := guess_gt Y y1 y0 u n q r S.hY hr qs S.hq S.pos
  rw [Bool.eq_iff_iff, decide_eq_true_iff, decide_eq_true_iff, h]
  generalize q * y0 = p
  omega

theorem div_l1 (Y s y1 y0 un0 q1 un21 qs : Nat) (S : Step Y y1 y0 un21 un0 qs) (hY64 : Y < 18446744073709551616) (hs : s ≤ 64) (hq1 : q1 < 4294967296) (m : Nat) (hm : m < Y) (hm' : un21 * 4294967296 + un0 = qs * Y + m) (d : Nat) :
    ∀ q r : Nat, q = qs + d → q ≤ 4294967297 → q * y1 + r = un21 → r < 4294967296 →
    Ev (fun k => bits_Div64.l1 k (Y : Int) (s : Int) (y1 : Int) (y0 : Int) (un0 : Int) (q1 : Int) (r : Int) (un21 : Int) (q : Int)) (((q1 * 4294967296 + qs : Nat) : Int), ((m / 2 ^ s : Nat) : Int)) := by
  have hql := S.qlt
  have fin : ∀ q : Nat, q = qs → (some (IntKind.u64.wrap ((IntKind.u64.wrap ((q1 : Int) * 4294967296)) + (q : Int)), shr .u64 (IntKind.u64.wrap ((IntKind.u64.wrap ((IntKind.u64.wrap ((un21 : Int) * 4294967296)) + (un0 : Int))) - (IntKind.u64.wrap ((q : Int) * (Y : Int))))) (s : Int)) : Option (Int × Int)) = some (((q1 * 4294967296 + qs : Nat) : Int), ((m / 2 ^ s : Nat) : Int)) := by
    intro q hq
    subst hq
    rw [show (q1 : Int) * 4294967296 = ((q1 * 4294967296 : Nat) : Int) by omega, nat_u64 (q1 * 4294967296) (by omega), show ((q1 * 4294967296 : Nat) : Int) + (q : Int) = ((q1 * 4294967296 + q : Nat) : Int) by omega, nat_u64 _ (by omega), show (un21 : Int) * 4294967296 = ((un21 * 4294967296 : Nat) : Int) by omega, mul_cast, u64_sub _ _ _ m hm' (by omega), shr_nat _ _ hs]
  induction d with
  | zero =>
    intro q r hq hqb hr hrl
    have hq' : q < 4294967296 := by omega
    refine Ev.step (g := fun k => bits_Div64.l1 k (Y : Int) (s : Int) (y1 : Int) (y0 : Int) (un0 : Int) (q1 : Int) (r : Int) (un21 : Int) (q : Int)) (f := fun k => bits_Div64.j4 k (Y : Int) (s : Int) (y1 : Int) (y0 : Int) (un0 : Int) (q1 : Int) (r : Int) (un21 : Int) (q : Int) false) (fun k => ?_) (Ev.step (f := fun _ => _) (fun k => ?_) (Ev.now _))
    · simp only [bits_Div64.l1]
      rw [if_neg (by omega), S.test q r hr hrl hq', decide_eq_false (by omega)]
    · simp only [bits_Div64.j4]
      rw [if_neg (by simp), if_pos (by omega)]
      exact fin q hq
  | succ d ih =>
    intro q r hq hqb hr hrl
    have hd : IntKind.u64.wrap ((q : Int) - 1) = ((q - 1 : Nat) : Int) := by rw [show (q : Int) - 1 = ((q - 1 : Nat) : Int) by omega, nat_u64 _ (by omega)]
    have hy : IntKind.u64.wrap ((r : Int) + (y1 : Int)) = ((r + y1 : Nat) : Int) := by rw [show (r : Int) + (y1 : Int) = ((r + y1 : Nat) : Int) by omega, nat_u64 _ (by have := S.h1'; omega)]
    have hr' : (q - 1) * y1 + (r + y1) = un21 := by
      obtain ⟨p, rfl⟩ : ∃ p, q = p + 1 := ⟨q - 1, by omega⟩
      rw [Nat.add_mul] at hr
      show p * y1 + (r + y1) = un21
      omega
    have h0 : ∀ k, bits_Div64.l1 (k + 1) (Y : Int) (s : Int) (y1 : Int) (y0 : Int) (un0 : Int) (q1 : Int) (r : Int) (un21 : Int) (q : Int) = bits_Div64.j4 k (Y : Int) (s : Int) (y1 : Int) (y0 : Int) (un0 : Int) (q1 : Int) (r : Int) (un21 : Int) (q : Int) true := by
      intro k
      simp only [bits_Div64.l1]
      by_cases hqB : 4294967296 ≤ q
      · rw [if_pos (by omega)]
      · rw [if_neg (by omega), S.test q r hr hrl (by omega), decide_eq_true (by omega)]
    by_cases hb : 4294967296 ≤ r + y1
    · have e := guess_last Y y1 y0 un21 un0 (q - 1) (r + y1) S.hY S.h0 hr' qs S.hq S.pos (by omega) hb (by omega)
      refine Ev.step (f := fun k => bits_Div64.j4 k (Y : Int) (s : Int) (y1 : Int) (y0 : Int) (un0 : Int) (q1 : Int) (r : Int) (un21 : Int) (q : Int) true) h0 (Ev.step (f := fun _ => _) (fun k => ?_) (Ev.now _))
      simp only [bits_Div64.j4]
      rw [if_pos trivial, hy, if_pos (by omega), if_pos (by omega), hd]
      exact fin (q - 1) e
    · refine Ev.step h0 (Ev.step (fun k => ?_) (ih (q - 1) (r + y1) (by omega) (by omega) hr' (by omega)))
      simp only [bits_Div64.j4]
      rw [if_pos trivial, hy, if_neg (by omega), hd]
theorem div_l0 (Y s y1 y0 un32 un1 un0 qs : Nat) (S : Step Y y1 y0 un32 un1 qs) (R : Int × Int) (hj : Ev (fun k => bits_Div64.j2 k (Y : Int) (s : Int) (y1 : Int) (y0 : Int) (un32 : Int) (un1 : Int) (un0 : Int) (qs : Int)) R) (d : Nat) :
    ∀ q r : Nat, q = qs + d → q ≤ 4294967297 → q * y1 + r = un32 → r < 4294967296 →
    Ev (fun k => bits_Div64.l0 k (Y : Int) (s : Int) (y1 : Int) (y0 : Int) (un32 : Int) (un1 : Int) (un0 : Int) (q : Int) (r : Int)) R := by
  have hql := S.qlt
  induction d with
  | zero =>
    intro q r hq hqb hr hrl
    have hq' : q < 4294967296 := by omega
    refine Ev.step (g := fun k => bits_Div64.l0 k (Y : Int) (s : Int) (y1 : Int) (y0 : Int) (un32 : Int) (un1 : Int) (un0 : Int) (q : Int) (r : Int)) (f := fun k => bits_Div64.j1 k (Y : Int) (s : Int) (y1 : Int) (y0 : Int) (un32 : Int) (un1 : Int) (un0 : Int) (q : Int) (r : Int) false) (fun k => ?_) (Ev.step (fun k => ?_) hj)
    · simp only [bits_Div64.l0]
      rw [if_neg (by omega), S.test q r hr hrl hq', decide_eq_false (by omega)]
    · simp only [bits_Div64.j1]
      rw [if_neg (by simp), show q = qs by omega]
  | succ d ih =>
    intro q r hq hqb hr hrl
    have hd : IntKind.u64.wrap ((q : Int) - 1) = ((q - 1 : Nat) : Int) := by rw [show (q : Int) - 1 = ((q - 1 : Nat) : Int) by omega, nat_u64 _ (by omega)]
    have hy : IntKind.u64.wrap ((r : Int) + (y1 : Int)) = ((r + y1 : Nat) : Int) := by rw [show (r : Int) + (y1 : Int) = ((r + y1 : Nat) : Int) by omega, nat_u64 _ (by have := S.h1'; omega)]
    have hr' : (q - 1) * y1 + (r + y1) = un32 := by
      obtain ⟨p, rfl⟩ : ∃ p, q = p + 1 := ⟨q - 1, by omega⟩
      rw [Nat.add_mul] at hr
      show p * y1 + (r + y1) = un32
      omega
    have h0 : ∀ k, bits_Div64.l0 (k + 1) (Y : Int) (s : Int) (y1 : Int) (y0 : Int) (un32 : Int) (un1 : Int) (un0 : Int) (q : Int) (r : Int) = bits_Div64.j1 k (Y : Int) (s : Int) (y1 : Int) (y0 : Int) (un32 : Int) (un1 : Int) (un0 : Int) (q : Int) (r : Int) true := by
      intro k
      simp only [bits_Div64.l0]
      by_cases hqB : 4294967296 ≤ q
      · rw [if_pos (by omega)]
      · rw [if_neg (by omega), S.test q r hr hrl (by omega), decide_eq_true (by omega)]
    by_cases hb : 4294967296 ≤ r + y1
    · have e := guess_last Y y1 y0 un32 un1 (q - 1) (r + y1) S.hY S.h0 hr' qs S.hq S.pos (by omega) hb (by omega)
      refine Ev.step (f := fun k => bits_Div64.j1 k (Y : Int) (s : Int) (y1 : Int) (y0 : Int) (un32 : Int) (un1 : Int) (un0 : Int) (q : Int) (r : Int) true) h0 (Ev.step (fun k => ?_) hj)
      simp only [bits_Div64.j1]
      rw [if_pos trivial, hy, if_pos (by omega), hd, e]
    · refine Ev.step h0 (Ev.step (fun k => ?_) (ih (q - 1) (r + y1) (by omega) (by omega) hr' (by omega)))
      simp only [bits_Div64.j1]
      rw [if_pos trivial, hy, if_neg (by omega), hd]
end Go.Proofs.Ytnobckgfihlckaa.PSat
