/- Plain laws of counts: sums and products are the greatest count at most; a part is the quotient rounded up. -/
import Derived.Test.YtnobckgfihlckaaSM3
import Derived.Test.YtnobckgfihlckaaPSatx3
set_option linter.unusedVariables false
set_option linter.unusedSimpArgs false
namespace Go.Proofs.Ytnobckgfihlckaa.PSat
open Go.RowKit Go.Proofs.YtnobckgfihlckaaW.PrintWords Go.Proofs.YtnobckgfihlckaaW.PrintLast Go.Proofs.YtnobckgfihlckaaW.PrintMore

theorem Ev_pos {α : Type} {p : Prop} [Decidable p] {f g : Nat → Option α} {r : α} (h : p) (hf : Ev f r) : Ev (fun n => if p then f n else g n) r := Ev.congr (fun _ => if_pos h) hf
theorem Ev_neg {α : Type} {p : Prop} [Decidable p] {f g : Nat → Option α} {r : α} (h : ¬ p) (hf : Ev g r) : Ev (fun n => if p then f n else g n) r := Ev.congr (fun _ => if_neg h) hf
def cut (a : Int) : Nat := (max 0 (min a 4611686018427387904)).toNat
theorem cut_le (a : Int) : cut a ≤ 4611686018427387904 := by unfold cut; omega
theorem cut_nat (n : Nat) (h : n ≤ 4611686018427387904) : cut (n : Int) = n := by unfold cut; omega
theorem cut_eq (a : Int) : sat_Cut.f a = some ((cut a : Nat) : Int) := by
  unfold sat_Cut.f mx mn cut
  congr 1
  split <;> split <;> omega
theorem refcut_eq (a : Int) : trommelref26_Cut.f a = some ((cut a : Nat) : Int) := by
  unfold trommelref26_Cut.f cut
  split
  · congr 1; omega
  · split
    · congr 1; omega
    · congr 1; omega
theorem plus_eq (c d : Nat) (hc : c ≤ 4611686018427387904) (hd : d ≤ 4611686018427387904) : sat_count_plus.f (c : Int) (d : Int) = some ((min (c + d) 4611686018427387904 : Nat) : Int) := by
  unfold sat_count_plus.f mn
  rw [show (c : Int) + (d : Int) = ((c + d : Nat) : Int) by omega, nat_u64 _ (by omega)]
  congr 1
  split <;> omega
theorem times_eq (c d : Nat) (hc : c ≤ 4611686018427387904) (hd : d ≤ 4611686018427387904) : sat_count_times.f (c : Int) (d : Int) = some ((min (c * d) 4611686018427387904 : Nat) : Int) := by
  unfold sat_count_times.f
  rw [mul64_eq c d (by omega) (by omega), Option.bind_some]
  generalize c * d = p
  by_cases h : p < 18446744073709551616
  · have h1 : p / 18446744073709551616 = 0 := Nat.div_eq_of_lt h
    have h2 : p % 18446744073709551616 = p := Nat.mod_eq_of_lt h
    rw [h1, h2, if_neg (by omega)]
    split
    · congr 1; omega
    · congr 1; omega
  · have h1 : 1 ≤ p / 18446744073709551616 := by rw [Nat.le_div_iff_mul_le (by decide)]; omega
    rw [if_pos (by omega)]
    congr 1; omega
theorem refplus_eq (c : Nat) (a : Int) (hc : c ≤ 4611686018427387904) : trommelref26_Plus.f (c : Int) a = some ((min (c + cut a) 4611686018427387904 : Nat) : Int) := by
  have hd := cut_le a
  unfold trommelref26_Plus.f
  rw [refcut_eq, refcut_eq, cut_nat c hc, Option.bind_some, Option.bind_some, w64_in (4611686018427387904 - ((cut a : Nat) : Int)) (by omega) (by omega)]
  split
  · congr 1; omega
  · rw [w64_in _ (by omega) (by omega)]; congr 1; omega
theorem reftimes_ev (c : Nat) (a : Int) (hc : c ≤ 4611686018427387904) : Ev (fun k => trommelref26_Times.f k (c : Int) a) ((min (c * cut a) 4611686018427387904 : Nat) : Int) := by
  have hd := cut_le a
  have hf : ∀ k, trommelref26_Times.f k (c : Int) a = trommelref26_Times.j0 k (c : Int) ((cut a : Nat) : Int) (decide (c = 0) || decide (cut a = 0)) := by
    intro k
    unfold trommelref26_Times.f
    rw [refcut_eq, refcut_eq, cut_nat c hc, Option.bind_some, Option.bind_some]
    by_cases h : c = 0
    · rw [if_pos (by omega), decide_eq_true h]; rfl
    · rw [if_neg (by omega), decide_eq_false h]
      have : (((cut a : Nat) : Int) == 0) = decide (cut a = 0) := by rw [Bool.eq_iff_iff]; simp
      rw [this]; rfl
  refine Ev.congr hf (Ev.step (f := fun _ => _) (fun k => ?_) (Ev.now _))
  generalize cut a = d at hd
  simp only [trommelref26_Times.j0]
  by_cases h : c = 0 ∨ d = 0
  · have : (decide (c = 0) || decide (d = 0)) = true := by rcases h with h | h <;> simp [h]
    rw [this, if_pos rfl]
    rcases h with h | h <;> simp [h]
  · have : (decide (c = 0) || decide (d = 0)) = false := by simp only [not_or] at h; simp [h.1, h.2]
    have hd0 : 0 < d := by omega
    have ht : Int.tdiv (4611686018427387904 : Int) (d : Int) = ((4611686018427387904 / d : Nat) : Int) := tdiv_nat 4611686018427387904 d
    have hq : 4611686018427387904 / d ≤ 4611686018427387904 := Nat.div_le_self _ _
    have hlt : 4611686018427387904 / d < c ↔ 4611686018427387904 < c * d := Nat.div_lt_iff_lt_mul hd0
    rw [this, if_neg (by simp), if_neg (by omega), ht]
    clear this ht hf h
    generalize 4611686018427387904 / d = Q at hq hlt
    rw [w64_in (Q : Int) (by omega) (by omega), mul_cast]
    generalize c * d = p at hlt
    by_cases hc2 : Q < c
    · rw [if_pos (by omega)]
      have := hlt.1 hc2
      congr 1; omega
    · rw [if_neg (by omega)]
      have := Nat.le_of_not_lt (fun h => hc2 (hlt.2 h))
      rw [w64_in _ (by omega) (by omega)]; congr 1; omega

def sums (l : List Int) : Nat := (l.map cut).sum
def prods : List Int → Nat
  | [] => 1
  | a :: l => cut a * prods l
theorem sums_append (a b : List Int) : sums (a ++ b) = sums a + sums b := by simp [sums]
theorem prods_append (a b : List Int) : prods (a ++ b) = prods a * prods b := by
  induction a with
  | nil => simp [prods]
  | cons x a ih => simp only [List.cons_append, prods, ih, Nat.mul_assoc]
theorem sat_mul (p x r : Nat) : min (min (p * x) 4611686018427387904 * r) 4611686018427387904 = min (p * (x * r)) 4611686018427387904 := by
  rw [← Nat.mul_assoc]
  by_cases h : p * x ≤ 4611686018427387904
  · rw [Nat.min_eq_left h]
  · have hm : min (p * x) 4611686018427387904 = 4611686018427387904 := Nat.min_eq_right (by omega)
    rw [hm]
    rcases Nat.eq_zero_or_pos r with hr | hr
    · subst hr; simp
    · have h1 : 4611686018427387904 * 1 ≤ 4611686018427387904 * r := Nat.mul_le_mul_left _ hr
      have h2 : 4611686018427387904 * 1 ≤ p * x * r := Nat.mul_le_mul (by omega) hr
      generalize p * x * r = z at h2 ⊢
      omega
theorem rd_nat (l : List Int) (i : Nat) : rd l (i : Int) = l.getD i 0 := by simp [rd]
theorem drop_at (l : List Int) (i : Nat) (h : i < l.length) : l.drop i = l.getD i 0 :: l.drop (i + 1) := by
  rw [List.drop_eq_getElem_cons h, List.getD_eq_getElem?_getD, List.getElem?_eq_getElem h]; rfl
theorem next_i (i : Nat) (h : i < 17592186044416) : wrap64 ((i : Int) + 1) = ((i + 1 : Nat) : Int) := by rw [w64_in _ (by omega) (by omega)]; rfl

theorem add_loop (l : List Int) (hl : l.length < 17592186044416) (d : Nat) : ∀ i c : Nat, i + d = l.length → c ≤ 4611686018427387904 →
    Ev (fun k => sat_Add.l0 k l (c : Int) (i : Int)) ((min (c + sums (l.drop i)) 4611686018427387904 : Nat) : Int) := by
  induction d with
  | zero =>
    intro i c hi hc
    refine Ev.step (f := fun _ => _) (fun k => ?_) (Ev.now _)
    simp only [sat_Add.l0]
    rw [if_neg (by omega), w64_in _ (by omega) (by omega), List.drop_eq_nil_of_le (by omega)]
    congr 1; simp [sums]; omega
  | succ d ih =>
    intro i c hi hc
    have := ih (i + 1) (min (c + cut (l.getD i 0)) 4611686018427387904) (by omega) (by omega)
    rw [drop_at l i (by omega)]
    have e : min (min (c + cut (l.getD i 0)) 4611686018427387904 + sums (l.drop (i + 1))) 4611686018427387904 = min (c + sums (l.getD i 0 :: l.drop (i + 1))) 4611686018427387904 := by
      simp only [sums, List.map_cons, List.sum_cons]; omega
    rw [e] at this
    refine Ev.step (fun k => ?_) this
    have hx := cut_le (l.getD i 0)
    simp only [sat_Add.l0]
    rw [if_pos (by omega), if_pos (by omega), rd_nat, cut_eq, Option.bind_some, nat_u64 _ (by omega), plus_eq _ _ hc hx, Option.bind_some, next_i i (by omega)]
theorem add_ev (l : List Int) (hl : l.length < 17592186044416) : Ev (fun k => sat_Add.f k l) ((min (sums l) 4611686018427387904 : Nat) : Int) := by
  have := add_loop l hl l.length 0 0 (by omega) (by omega)
  simp only [Nat.zero_add, List.drop_zero] at this
  exact this
theorem mul_loop (l : List Int) (hl : l.length < 17592186044416) (d : Nat) : ∀ i c : Nat, i + d = l.length → c ≤ 4611686018427387904 →
    Ev (fun k => sat_Mul.l0 k l (c : Int) (i : Int)) ((min (c * prods (l.drop i)) 4611686018427387904 : Nat) : Int) := by
  induction d with
  | zero =>
    intro i c hi hc
    refine Ev.step (f := fun _ => _) (fun k => ?_) (Ev.now _)
    simp only [sat_Mul.l0]
    rw [if_neg (by omega), w64_in _ (by omega) (by omega), List.drop_eq_nil_of_le (by omega)]
    congr 1; simp [prods]; omega
  | succ d ih =>
    intro i c hi hc
    have := ih (i + 1) (min (c * cut (l.getD i 0)) 4611686018427387904) (by omega) (by omega)
    rw [drop_at l i (by omega)]
    rw [sat_mul] at this
    refine Ev.step (fun k => ?_) this
    have hx := cut_le (l.getD i 0)
    simp only [sat_Mul.l0]
    rw [if_pos (by omega), if_pos (by omega), rd_nat, cut_eq, Option.bind_some, nat_u64 _ (by omega), times_eq _ _ hc hx, Option.bind_some, next_i i (by omega)]
theorem mul_ev (l : List Int) (hl : l.length < 17592186044416) : Ev (fun k => sat_Mul.f k l) ((min (prods l) 4611686018427387904 : Nat) : Int) := by
  have := mul_loop l hl l.length 0 1 (by omega) (by omega)
  simp only [Nat.one_mul, List.drop_zero] at this
  exact this
theorem refadd_loop (l : List Int) (hl : l.length < 17592186044416) (d : Nat) : ∀ i c : Nat, i + d = l.length → c ≤ 4611686018427387904 →
    Ev (fun k => trommelref26_Add.l0 k l (c : Int) (i : Int)) ((min (c + sums (l.drop i)) 4611686018427387904 : Nat) : Int) := by
  induction d with
  | zero =>
    intro i c hi hc
    refine Ev.step (f := fun _ => _) (fun k => ?_) (Ev.now _)
    simp only [trommelref26_Add.l0]
    rw [if_neg (by omega), List.drop_eq_nil_of_le (by omega)]
    congr 1; simp [sums]; omega
  | succ d ih =>
    intro i c hi hc
    have := ih (i + 1) (min (c + cut (l.getD i 0)) 4611686018427387904) (by omega) (by omega)
    rw [drop_at l i (by omega)]
    have e : min (min (c + cut (l.getD i 0)) 4611686018427387904 + sums (l.drop (i + 1))) 4611686018427387904 = min (c + sums (l.getD i 0 :: l.drop (i + 1))) 4611686018427387904 := by
      simp only [sums, List.map_cons, List.sum_cons]; omega
    rw [e] at this
    refine Ev.step (fun k => ?_) this
    simp only [trommelref26_Add.l0]
    rw [if_pos (by omega), if_pos (by omega), rd_nat, refplus_eq _ _ hc, Option.bind_some, next_i i (by omega)]
theorem refadd_ev (l : List Int) (hl : l.length < 17592186044416) : Ev (fun k => trommelref26_Add.f k l) ((min (sums l) 4611686018427387904 : Nat) : Int) := by
  have := refadd_loop l hl l.length 0 0 (by omega) (by omega)
  simp only [Nat.zero_add, List.drop_zero] at this
  exact this
theorem refmul_loop (l : List Int) (hl : l.length < 17592186044416) (d : Nat) : ∀ i c : Nat, i + d = l.length → c ≤ 4611686018427387904 →
    Ev (fun k => trommelref26_Mul.l0 k l (c : Int) (i : Int)) ((min (c * prods (l.drop i)) 4611686018427387904 : Nat) : Int) := by
  induction d with
  | zero =>
    intro i c hi hc
    refine Ev.step (f := fun _ => _) (fun k => ?_) (Ev.now _)
    simp only [trommelref26_Mul.l0]
    rw [if_neg (by omega), List.drop_eq_nil_of_le (by omega)]
    congr 1; simp [prods]; omega
  | succ d ih =>
    intro i c hi hc
    have := ih (i + 1) (min (c * cut (l.getD i 0)) 4611686018427387904) (by omega) (by omega)
    rw [drop_at l i (by omega)]
    rw [sat_mul] at this
    refine Ev.step (fun k => ?_) (Ev.bind (reftimes_ev c (l.getD i 0) hc) (f := fun k t => trommelref26_Mul.l0 k l t ((i + 1 : Nat) : Int)) this)
    simp only [trommelref26_Mul.l0]
    rw [if_pos (by omega), if_pos (by omega), rd_nat, next_i i (by omega)]
theorem refmul_ev (l : List Int) (hl : l.length < 17592186044416) : Ev (fun k => trommelref26_Mul.f k l) ((min (prods l) 4611686018427387904 : Nat) : Int) := by
  have := refmul_loop l hl l.length 0 1 (by omega) (by omega)
  simp only [Nat.one_mul, List.drop_zero] at this
  exact this

/-- n * num / den, rounded up -/
def partN (n num den : Nat) : Nat := if den ≤ num then n else n * num / den + (if n * num % den = 0 then 0 else 1)
theorem part_le (n num den : Nat) : partN n num den ≤ n := by
  unfold partN
  by_cases h : den ≤ num
  · rw [if_pos h]; exact Nat.le_refl n
  · rw [if_neg h]
    have hd : 0 < den := by omega
    have h1 : n * num ≤ n * (den - 1) := Nat.mul_le_mul_left _ (by omega)
    have h2 := Nat.div_add_mod (n * num) den
    have h3 := Nat.mod_lt (n * num) hd
    by_cases e : n * num % den = 0
    · rw [if_pos e, Nat.add_zero]
      exact Nat.div_le_of_le_mul (by rw [Nat.mul_comm den]; exact Nat.mul_le_mul_left _ (by omega))
    · rw [if_neg e]
      have : n * num / den < n := by
        rw [Nat.div_lt_iff_lt_mul hd]
        rcases Nat.eq_zero_or_pos n with hn | hn
        · subst hn; simp at e
        · exact (Nat.mul_lt_mul_left hn).2 (by omega)
      omega
theorem part_ev (a b c : Int) : Ev (fun k => sat_Part.f k a b c) ((partN (cut a) (cut b) (cut c) : Nat) : Int) := by
  have ha := cut_le a
  have hb := cut_le b
  have hc := cut_le c
  have hp := part_le (cut a) (cut b) (cut c)
  unfold sat_Part.f
  simp only [cut_eq, Option.bind_some]
  generalize cut a = n at *
  generalize cut b = u at *
  generalize cut c = v at *
  by_cases h : v ≤ u
  · have e : partN n u v = n := by unfold partN; rw [if_pos h]
    rw [e]
    refine Ev.congr (fun k => ?_) (Ev.now _)
    rw [if_pos (by omega)]
  · have e : partN n u v = n * u / v + (if n * u % v = 0 then 0 else 1) := by unfold partN; rw [if_neg h]
    have hm : n * u ≤ 4611686018427387904 * u := Nat.mul_le_mul_right _ ha
    have hv : 0 < v := by omega
    have hhi : n * u / 18446744073709551616 < v := by
      rw [Nat.div_lt_iff_lt_mul (by decide)]; omega
    have hd := div64_ev (n * u / 18446744073709551616) (n * u % 18446744073709551616) v hv (by omega) hhi (Nat.mod_lt _ (by decide))
    rw [Nat.div_add_mod'] at hd
    have hq : n * u / v ≤ 4611686018427387904 := by omega
    refine Ev.congr (fun k => ?_) (Ev.bind hd (f := fun k bt110 => if bt110.2 > 0 then (some (wrap64 (IntKind.u64.wrap (bt110.1 + 1)))) else (some (wrap64 (bt110.1)))) (Ev.congr (fun k => ?_) (Ev.now _)))
    · rw [if_neg (by omega), nat_u64 n (by omega), nat_u64 u (by omega), mul64_eq n u (by omega) (by omega), Option.bind_some, nat_u64 v (by omega)]
    · rw [e]
      clear hd hhi hm
      generalize n * u / v = q at *
      generalize n * u % v = m at *
      by_cases hz : m = 0
      · rw [if_pos hz, if_neg (by omega), w64_in _ (by omega) (by omega)]; rfl
      · rw [if_neg hz, if_pos (by omega), show (q : Int) + 1 = ((q + 1 : Nat) : Int) by omega, nat_u64 _ (by omega), w64_in _ (by omega) (by omega)]
theorem live_ev : Ev (fun k => trommellaw26_live.f k) true := Ev.of (fun k => trommellaw26_live.mono k) (k := 60) (by kernel_rfl)
end Go.Proofs.Ytnobckgfihlckaa.PSat
