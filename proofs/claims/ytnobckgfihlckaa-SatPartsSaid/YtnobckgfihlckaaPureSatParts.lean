/- SatParts is proved: for every n, num and den, the quotient rounded up, the part of n, which is from 0 to n, and how many digits n has, are the reference's. -/
import Derived.Test.YtnobckgfihlckaaSM4
import Derived.Test.YtnobckgfihlckaaPSatx4
set_option linter.unusedVariables false
set_option linter.unusedSimpArgs false
namespace Go.Proofs.Ytnobckgfihlckaa.Pure
open Go.RowKit Go.Proofs.Ytnobckgfihlckaa.PSat Go.Proofs.YtnobckgfihlckaaW.PrintWords Go.Proofs.YtnobckgfihlckaaW.PrintLast

theorem div_both (a b : Int) : sat_Div.f a b = trommelref26_Div.f a b := by
  have ha := cut_le a
  have hb := cut_le b
  unfold sat_Div.f trommelref26_Div.f
  simp only [cut_eq, refcut_eq, Option.bind_some]
  generalize cut a = x at *
  generalize cut b = y at *
  by_cases hy : y = 0
  · subst hy
    rw [if_neg (by omega)]
    by_cases hx : x = 0
    · subst hx; rw [if_neg (by omega), if_pos (by omega)]
    · rw [if_pos (by omega), if_neg (by omega), if_pos (by omega)]
  · have hy0 : 0 < y := by omega
    rw [if_pos (by omega), if_neg (by omega), tdiv_nat, tmod_nat]
    by_cases hx : x = 0
    · subst hx
      rw [if_pos (by omega)]
      simp [mn, wrap64]
    · rw [if_neg (by omega), if_neg (by omega)]
      have e1 : wrap64 ((x : Int) - 1) = ((x - 1 : Nat) : Int) := by rw [w64_in _ (by omega) (by omega)]; omega
      rw [e1, tdiv_nat]
      have hq : x / y ≤ x := Nat.div_le_self _ _
      have hq1 : (x - 1) / y ≤ x - 1 := Nat.div_le_self _ _
      have h1 := Nat.div_add_mod x y
      have h2 := Nat.mod_lt x hy0
      have h3 := Nat.div_add_mod (x - 1) y
      have h4 := Nat.mod_lt (x - 1) hy0
      have key : (x - 1) / y + 1 = x / y + min (x % y) 1 := by
        by_cases hz : x % y = 0
        · rw [hz]
          have hd : y ∣ x := Nat.dvd_of_mod_eq_zero hz
          obtain ⟨c, hc⟩ := hd
          have hc1 : 1 ≤ c := by
            rcases Nat.eq_zero_or_pos c with h | h
            · subst h; omega
            · exact h
          have e2 : x / y = c := by rw [hc, Nat.mul_div_cancel_left _ hy0]
          have e3 : (x - 1) / y = c - 1 := by
            rw [Nat.div_eq_iff hy0]
            obtain ⟨e, rfl⟩ : ∃ e, c = e + 1 := ⟨c - 1, by omega⟩
            rw [Nat.mul_add, Nat.mul_comm] at hc
            show e * y ≤ x - 1 ∧ x - 1 ≤ e * y + y - 1
            omega
          rw [e2, e3]; omega
        · have e3 : (x - 1) / y = x / y := by
            rw [Nat.div_eq_iff hy0]
            rw [Nat.mul_comm] at h1
            generalize x / y * y = p at *
            omega
          rw [e3]; omega
      have em : mn ((x % y : Nat) : Int) 1 = ((min (x % y) 1 : Nat) : Int) := by unfold mn; split <;> omega
      rw [em]
      generalize (x - 1) / y = q1 at *
      generalize x / y = q at *
      rw [w64_in (q : Int) (by omega) (by omega), w64_in (q1 : Int) (by omega) (by omega), w64_in _ (by omega) (by omega), w64_in _ (by omega) (by omega)]
      congr 1; omega

/-- the bits of n that are looked at, from the d-th on -/
def bit0 : Nat → Int
  | 0 => 0
  | d + 1 => ((2 ^ d : Nat) : Int)
theorem bit0_half (d : Nat) (hd : d ≤ 62) : wrap64 (Int.tdiv (bit0 (d + 1)) 2) = bit0 d := by
  have hp : 2 ^ d ≤ 2 ^ 62 := Nat.pow_le_pow_right (by decide) hd
  show wrap64 (Int.tdiv ((2 ^ d : Nat) : Int) ((2 : Nat) : Int)) = _
  rw [tdiv_nat]
  have h2 : 2 ^ d / 2 ≤ 2 ^ d := Nat.div_le_self _ _
  rw [w64_in _ (by omega) (by omega)]
  cases d with
  | zero => rfl
  | succ d =>
    show ((2 ^ (d + 1) / 2 : Nat) : Int) = ((2 ^ d : Nat) : Int)
    rw [Nat.pow_succ, Nat.mul_div_cancel _ (by decide)]
theorem tmod2 (x : Nat) : Int.tmod (x : Int) 2 = 1 ↔ x % 2 = 1 := by
  rw [show (2 : Int) = ((2 : Nat) : Int) from rfl, tmod_nat]; omega
theorem le_of_parts (q x den num r : Nat) (hlt : num < den) (h : q * den + r = x * num) : q ≤ x := by
  have h1 : x * num ≤ x * den := Nat.mul_le_mul_left _ (by omega)
  have h2 : q * den ≤ x * den := by omega
  exact Nat.le_of_mul_le_mul_right h2 (by omega)
/-- what a round says of the numbers: the doubling -/
theorem doubling (x q r den num : Nat) (he : q * den + r = x / 2 * num) : x * num = 2 * (q * den + r) + x % 2 * num := by
  rw [he, ← Nat.mul_assoc, ← Nat.add_mul]
  congr 1; omega
theorem half1 (q r den : Nat) (h : den ≤ 2 * r) : (2 * q + 1) * den + (2 * r - den) = 2 * (q * den + r) := by
  rw [Nat.add_mul, Nat.mul_assoc, Nat.mul_add]; omega
theorem half0 (q r den : Nat) : 2 * q * den + 2 * r = 2 * (q * den + r) := by
  rw [Nat.mul_assoc, Nat.mul_add]
theorem more1 (q r den num z : Nat) (h : den ≤ r + num) (e : z = q * den + r + 1 * num) : (q + 1) * den + (r + num - den) = z := by
  rw [Nat.add_mul]; omega
theorem refpart_j1 (n num den P x : Nat) (B R : Int) (hn : x ≤ 4611686018427387904) (hden : den ≤ 4611686018427387904) (hlt : num < den) (hP : 1 ≤ P) (hPl : P ≤ 4611686018427387904) (et : wrap64 (Int.tdiv (n : Int) (P : Int)) = (x : Int)) (enext : wrap64 (Int.tdiv (P : Int) 2) = B)
    (ih : ∀ q r : Nat, q * den + r = x * num → r < den → Ev (fun k => trommelref26_Part.l0 k (n : Int) (num : Int) (den : Int) (q : Int) (r : Int) B) R) (z : Nat) (e2 : x * num = z + x % 2 * num)
    (q' r' : Nat) (h1 : q' * den + r' = z) (h2 : r' < den) :
    Ev (fun k => trommelref26_Part.j1 k (n : Int) (num : Int) (den : Int) (q' : Int) (r' : Int) (P : Int)) R := by
  have h3 : q' ≤ x := by
    refine le_of_parts q' x den num (r' + x % 2 * num) hlt ?_
    rw [e2, ← h1, Nat.add_assoc]
  rcases Nat.mod_two_eq_zero_or_one x with hb | hb
  · rw [hb, Nat.zero_mul, Nat.add_zero] at e2
    refine Ev.step (fun k => ?_) (ih q' r' (by rw [h1, e2]) h2)
    clear ih e2 h1
    have em : ¬ (Int.tmod (x : Int) 2 = 1) := fun h => by rw [tmod2] at h; omega
    simp only [trommelref26_Part.j1]
    rw [if_neg (by omega), et, if_neg em, if_neg (by omega), enext]
  · rw [hb] at e2
    have em : Int.tmod (x : Int) 2 = 1 := (tmod2 x).2 hb
    by_cases hc : den ≤ r' + num
    · have h4 := more1 q' r' den num (x * num) hc (by rw [e2, h1])
      refine Ev.step (fun k => ?_) (ih (q' + 1) (r' + num - den) h4 (by omega))
      clear ih e2 h1 h4
      simp only [trommelref26_Part.j1]
      rw [if_neg (by omega), et, if_pos em, w64_in ((r' : Int) + (num : Int)) (by omega) (by omega), if_pos (by omega), w64_in ((q' : Int) + 1) (by omega) (by omega), w64_in _ (by omega) (by omega), enext, show (r' : Int) + (num : Int) - (den : Int) = ((r' + num - den : Nat) : Int) by omega, show (q' : Int) + 1 = ((q' + 1 : Nat) : Int) by omega]
    · refine Ev.step (fun k => ?_) (ih q' (r' + num) (by rw [e2, ← h1, Nat.one_mul, Nat.add_assoc]) (by omega))
      clear ih e2 h1
      simp only [trommelref26_Part.j1]
      rw [if_neg (by omega), et, if_pos em, w64_in ((r' : Int) + (num : Int)) (by omega) (by omega), if_neg (by omega), enext, show (r' : Int) + (num : Int) = ((r' + num : Nat) : Int) by omega]
theorem refpart_end (n num den q r : Nat) (hn : n ≤ 4611686018427387904) (hlt : num < den) (he : q * den + r = n * num) (hr : r < den) :
    Ev (fun k => trommelref26_Part.l0 k (n : Int) (num : Int) (den : Int) (q : Int) (r : Int) 0) ((n * num / den + (if n * num % den = 0 then 0 else 1) : Nat) : Int) := by
  have e1 : n * num / den = q := by
    rw [← he, Nat.mul_comm, Nat.mul_add_div (by omega), Nat.div_eq_of_lt hr, Nat.add_zero]
  have e2 : n * num % den = r := by
    rw [← he, Nat.mul_comm, Nat.mul_add_mod, Nat.mod_eq_of_lt hr]
  have hq : q ≤ n := le_of_parts q n den num r hlt he
  rw [e1, e2]
  clear e1 e2 he
  refine Ev.step (f := fun _ => _) (fun k => ?_) (Ev.now _)
  simp only [trommelref26_Part.l0]
  rw [if_neg (show ¬ ((0 : Int) > 0) by omega)]
  by_cases hz : r = 0
  · rw [if_pos hz, if_neg (by omega), Nat.add_zero]
  · rw [if_neg hz, if_pos (by omega), w64_in _ (by omega) (by omega)]; rfl
theorem refpart_loop (n num den : Nat) (hn : n ≤ 4611686018427387904) (hden : den ≤ 4611686018427387904) (hlt : num < den) (d : Nat) : ∀ q r : Nat, d ≤ 63 → q * den + r = n / 2 ^ d * num → r < den →
    Ev (fun k => trommelref26_Part.l0 k (n : Int) (num : Int) (den : Int) (q : Int) (r : Int) (bit0 d)) ((n * num / den + (if n * num % den = 0 then 0 else 1) : Nat) : Int) := by
  generalize hR : ((n * num / den + (if n * num % den = 0 then 0 else 1) : Nat) : Int) = R
  induction d with
  | zero =>
    intro q r hd he hr
    rw [Nat.pow_zero, Nat.div_one] at he
    rw [← hR]
    exact refpart_end n num den q r hn hlt he hr
  | succ d ih =>
    intro q r hd he hr
    have hp : 2 ^ d ≤ 4611686018427387904 := Nat.le_trans (Nat.pow_le_pow_right (j := 62) (by decide) (by omega)) (by decide)
    have hp1 : 1 ≤ 2 ^ d := Nat.one_le_two_pow
    obtain ⟨P, hP⟩ : ∃ P, P = 2 ^ d := ⟨_, rfl⟩
    have e1 : n / 2 ^ (d + 1) = n / P / 2 := by rw [hP, Nat.pow_succ, Nat.div_div_eq_div_mul]
    rw [e1] at he
    have ih' := fun q r h h' => ih q r (by omega) h h'
    have enext := bit0_half d (by omega)
    have ebit : bit0 (d + 1) = (P : Int) := by rw [hP]; rfl
    rw [← hP] at hp hp1 ih'
    rw [ebit] at enext ⊢
    clear ih ebit
    have hnP : n / P ≤ n := Nat.div_le_self _ _
    obtain ⟨x, hx⟩ : ∃ x, x = n / P := ⟨_, rfl⟩
    have et : wrap64 (Int.tdiv (n : Int) (P : Int)) = (x : Int) := by rw [tdiv_nat, ← hx, w64_in _ (by omega) (by omega)]
    rw [← hx] at he ih' hnP
    have hq : q ≤ x / 2 := le_of_parts q (x / 2) den num r hlt he
    have e2 := doubling x q r den num he
    have second := refpart_j1 n num den P x (bit0 d) R (Nat.le_trans hnP hn) hden hlt hp1 hp et enext ih' _ e2
    have i1 := half1 q r den
    have i0 := half0 q r den
    clear e2 he ih' et enext hR hx e1 hP
    by_cases hc : den ≤ 2 * r
    · refine Ev.step (fun k => ?_) (second (2 * q + 1) (2 * r - den) (i1 hc) (by clear i1 i0 second; omega))
      clear second i1 i0
      simp only [trommelref26_Part.l0]
      rw [if_pos (by omega), w64_in (2 * (r : Int)) (by omega) (by omega), if_pos (by omega), w64_in (2 * (q : Int)) (by omega) (by omega), w64_in (2 * (q : Int) + 1) (by omega) (by omega), w64_in _ (by omega) (by omega), show 2 * (r : Int) - (den : Int) = ((2 * r - den : Nat) : Int) by omega, show 2 * (q : Int) + 1 = ((2 * q + 1 : Nat) : Int) by omega]
    · refine Ev.step (fun k => ?_) (second (2 * q) (2 * r) i0 (by clear i1 i0 second; omega))
      clear second i1 i0
      simp only [trommelref26_Part.l0]
      rw [if_pos (by omega), w64_in (2 * (r : Int)) (by omega) (by omega), if_neg (by omega), w64_in (2 * (q : Int)) (by omega) (by omega), show 2 * (r : Int) = ((2 * r : Nat) : Int) by omega, show 2 * (q : Int) = ((2 * q : Nat) : Int) by omega]
theorem refpart_ev (a b c : Int) : Ev (fun k => trommelref26_Part.f k a b c) ((partN (cut a) (cut b) (cut c) : Nat) : Int) := by
  have ha := cut_le a
  have hc := cut_le c
  unfold trommelref26_Part.f
  simp only [refcut_eq, Option.bind_some]
  generalize cut a = n at *
  generalize cut b = u at *
  generalize cut c = v at *
  unfold partN
  by_cases h : v ≤ u
  · rw [if_pos h]
    exact Ev_pos (by omega) (Ev.now _)
  · rw [if_neg h]
    refine Ev_neg (by omega) ?_
    have hb : (4611686018427387904 : Int) = bit0 63 := by kernel_rfl
    have hz : n / 2 ^ 63 = 0 := Nat.div_eq_of_lt (by omega)
    rw [hb]
    exact refpart_loop n u v ha hc (by omega) 63 0 0 (by omega) (by rw [hz, Nat.zero_mul, Nat.zero_mul]) (by omega)
theorem bits_loop (f : Nat) : ∀ x c : Nat, x < 2 ^ f → x ≤ 4611686018427387904 → c + f ≤ 1000 → Ev (fun k => trommelref26_Bits.l0 k (x : Int) (c : Int)) ((c + Lib.bitLenAux f x : Nat) : Int) := by
  induction f with
  | zero =>
    intro x c hx hm hc
    have : x = 0 := by simpa using hx
    subst this
    refine Ev.step (f := fun _ => _) (fun k => ?_) (Ev.now _)
    simp only [trommelref26_Bits.l0]
    rw [if_neg (by omega)]; rfl
  | succ f ih =>
    intro x c hx hm hc
    unfold Lib.bitLenAux
    by_cases e : x = 0
    · subst e
      rw [if_pos rfl]
      refine Ev.step (f := fun _ => _) (fun k => ?_) (Ev.now _)
      simp only [trommelref26_Bits.l0]
      rw [if_neg (by omega)]; rfl
    · rw [if_neg e, ← Nat.add_assoc]
      refine Ev.step (fun k => ?_) (ih (x / 2) (c + 1) (by rw [Nat.pow_succ] at hx; omega) (by omega) (by omega))
      simp only [trommelref26_Bits.l0]
      rw [if_pos (by omega), show (2 : Int) = ((2 : Nat) : Int) from rfl, tdiv_nat, w64_in _ (by omega) (by omega), w64_in _ (by omega) (by omega)]
      rfl
theorem bits_eq (a : Int) : sat_Bits.f a = some ((Lib.bitLen (cut a) : Nat) : Int) := by
  have ha := cut_le a
  unfold sat_Bits.f
  rw [cut_eq, Option.bind_some, nat_u64 _ (by omega)]
  unfold bits_Len64.f
  rw [if_pos (by omega), if_pos (by omega), Int.toNat_natCast]; rfl
theorem refbits_ev (a : Int) : Ev (fun k => trommelref26_Bits.f k a) ((Lib.bitLen (cut a) : Nat) : Int) := by
  have ha := cut_le a
  have := bits_loop 64 (cut a) 0 (by omega) ha (by omega)
  rw [Nat.zero_add] at this
  refine Ev.congr (fun k => ?_) this
  unfold trommelref26_Bits.f
  rw [refcut_eq, Option.bind_some]; rfl
theorem SatParts : trommellaw26_SatParts.Pure := by
  intro a b c wa wb wc
  apply Ev.rounds
  refine Ev.bind (part_ev a b c) ?_
  have hp := part_le (cut a) (cut b) (cut c)
  obtain ⟨v, hv⟩ : ∃ v, trommelref26_Div.f a c = some v := by
    unfold trommelref26_Div.f
    rw [refcut_eq, refcut_eq, Option.bind_some, Option.bind_some]
    split
    · exact ⟨_, rfl⟩
    · split <;> exact ⟨_, rfl⟩
  refine Ev.congr (fun k => ?_) (Ev.bind (refpart_ev a b c) (f := fun k t200 => (if ((partN (cut a) (cut b) (cut c) : Nat) : Int) = t200 then (if ((partN (cut a) (cut b) (cut c) : Nat) : Int) ≥ 0 then ((trommelref26_Cut.f a).bind fun t201 => (if ((partN (cut a) (cut b) (cut c) : Nat) : Int) ≤ t201 then ((sat_Bits.f a).bind fun t202 => ((trommelref26_Bits.f k a).bind fun t203 => (if t202 = t203 then ((trommellaw26_live.f k).bind fun t204 => (some t204)) else (some false)))) else (some false))) else (some false)) else (some false))) ?_)
  · rw [div_both, hv, Option.bind_some, Option.bind_some, if_pos rfl]
  · refine Ev_pos rfl (Ev_pos (Int.natCast_nonneg _) ?_)
    rw [refcut_eq, bits_eq]
    refine Ev.congr (fun k => ?_) (Ev.bind (refbits_ev a) (f := fun k t203 => (if ((Lib.bitLen (cut a) : Nat) : Int) = t203 then ((trommellaw26_live.f k).bind fun t204 => (some t204)) else (some false))) (Ev_pos rfl (Ev.bind live_ev (f := fun _ t => some t) (Ev.now _))))
    rw [Option.bind_some, if_pos (by omega), Option.bind_some]
end Go.Proofs.Ytnobckgfihlckaa.Pure
