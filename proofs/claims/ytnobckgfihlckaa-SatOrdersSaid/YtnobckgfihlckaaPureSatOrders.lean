/- SatOrders is proved: for every numbers a and b, neither their sum nor their product hangs on the order or on how they are parted, and more of one number is never less of them. -/
import Derived.Test.YtnobckgfihlckaaSM4
set_option linter.unusedVariables false
set_option linter.unusedSimpArgs false
namespace Go.Proofs.Ytnobckgfihlckaa.Pure
open Go.RowKit Go.Proofs.Ytnobckgfihlckaa.PSat Go.Proofs.YtnobckgfihlckaaW.PrintWords Go.Proofs.YtnobckgfihlckaaW.PrintLast

theorem cut_mono (n m : Int) (h : n ≤ m) : cut n ≤ cut m := by unfold cut; omega
theorem orders_j1 (a b : List Int) (ha : a.length ≤ 100) (hb : b.length ≤ 100) : Ev (fun k => trommellaw26_SatOrders.j1 k a b false) true := by
  have hal : a.length < 17592186044416 := by omega
  have hbl : b.length < 17592186044416 := by omega
  have hz : (b ++ a).length < 17592186044416 := by rw [List.length_append]; omega
  have two : ∀ x y : Int, ([x, y] : List Int).length < 17592186044416 := fun x y => by simp
  have s2 := add_ev [((min (sums a) 4611686018427387904 : Nat) : Int), ((min (sums b) 4611686018427387904 : Nat) : Int)] (two _ _)
  have p2 := mul_ev [((min (prods a) 4611686018427387904 : Nat) : Int), ((min (prods b) 4611686018427387904 : Nat) : Int)] (two _ _)
  have es : min (sums [((min (sums a) 4611686018427387904 : Nat) : Int), ((min (sums b) 4611686018427387904 : Nat) : Int)]) 4611686018427387904 = min (sums (b ++ a)) 4611686018427387904 := by
    rw [sums_append]
    simp only [sums, List.map_cons, List.map_nil, List.sum_cons, List.sum_nil]
    rw [cut_nat _ (by omega), cut_nat _ (by omega)]; omega
  have ep : min (prods [((min (prods a) 4611686018427387904 : Nat) : Int), ((min (prods b) 4611686018427387904 : Nat) : Int)]) 4611686018427387904 = min (prods (b ++ a)) 4611686018427387904 := by
    rw [prods_append]
    simp only [prods]
    rw [cut_nat _ (by omega), cut_nat _ (by omega), Nat.mul_one]
    have h1 := sat_mul 1 (prods a) (min (prods b) 4611686018427387904)
    rw [Nat.one_mul, Nat.one_mul] at h1
    rw [h1, Nat.mul_comm (prods a)]
    have h2 := sat_mul 1 (prods b) (prods a)
    rw [Nat.one_mul, Nat.one_mul] at h2
    exact h2
  rw [es] at s2
  rw [ep] at p2
  refine Ev.step (fun k => ?_) (Ev.bind (add_ev a hal) (f := fun k t153 => ((sat_Add.f k b).bind fun t154 => ((sat_Add.f k (([t153, t154] : List Int))).bind fun t158 => ((sat_Add.f k (b ++ a)).bind fun t159 => (if t158 = t159 then ((sat_Mul.f k a).bind fun t160 => ((sat_Mul.f k b).bind fun t161 => ((sat_Mul.f k (([t160, t161] : List Int))).bind fun t165 => ((sat_Mul.f k (b ++ a)).bind fun t166 => (if t165 = t166 then ((trommellaw26_live.f k).bind fun t167 => (some t167)) else (some false)))))) else (some false)))))) ?_)
  · simp only [trommellaw26_SatOrders.j1]
    rw [if_neg (by simp), Option.bind_some, List.nil_append, if_pos (by simp; omega), Option.bind_some, if_pos (by omega), Option.bind_some]
  · refine Ev.bind (add_ev b hbl) ?_
    refine Ev.bind s2 ?_
    refine Ev.bind (add_ev (b ++ a) hz) ?_
    refine Ev_pos rfl ?_
    refine Ev.bind (mul_ev a hal) ?_
    refine Ev.bind (mul_ev b hbl) ?_
    refine Ev.bind p2 ?_
    refine Ev.bind (mul_ev (b ++ a) hz) ?_
    refine Ev_pos rfl ?_
    exact Ev.bind live_ev (f := fun _ t => some t) (Ev.now _)
theorem SatOrders : trommellaw26_SatOrders.Pure := by
  intro a b n m ma sa wa mb sb wb wn wm
  have hlive : Ev (fun k => trommellaw26_SatOrders.j0 k a b n m true) true := by
    refine Ev.step (fun k => ?_) (Ev.bind live_ev (f := fun _ t => some t) (Ev.now _))
    simp only [trommellaw26_SatOrders.j0]
    rw [if_pos trivial]
  apply Ev.rounds
  by_cases h1 : (a.length : Int) > 100
  · refine Ev.congr (fun k => ?_) hlive
    unfold trommellaw26_SatOrders.f
    rw [if_pos h1]
  · by_cases h2 : (b.length : Int) > 100
    · refine Ev.congr (fun k => ?_) hlive
      unfold trommellaw26_SatOrders.f
      rw [if_neg h1, if_pos h2]
    · by_cases h3 : n > m
      · refine Ev.congr (fun k => ?_) hlive
        unfold trommellaw26_SatOrders.f
        rw [if_neg h1, if_neg h2, decide_eq_true h3]
      · have hc := cut_mono n m (by omega)
        have e1 : ([n] ++ a) ++ b = n :: (a ++ b) := rfl
        have e2 : ([m] ++ b) ++ a = m :: (b ++ a) := rfl
        have hx : (n :: (a ++ b)).length < 17592186044416 := by simp; omega
        have hy : (m :: (b ++ a)).length < 17592186044416 := by simp; omega
        have es : min (sums (n :: (a ++ b))) 4611686018427387904 ≤ min (sums (m :: (b ++ a))) 4611686018427387904 := by
          have : sums (n :: (a ++ b)) ≤ sums (m :: (b ++ a)) := by
            have e : ∀ x l, sums (x :: l) = cut x + sums l := fun x l => by simp [sums]
            rw [e, e, sums_append, sums_append]; omega
          omega
        have ep : min (prods (n :: (a ++ b))) 4611686018427387904 ≤ min (prods (m :: (b ++ a))) 4611686018427387904 := by
          have : prods (n :: (a ++ b)) ≤ prods (m :: (b ++ a)) := by
            simp only [prods]
            rw [prods_append, prods_append, Nat.mul_comm (prods b)]
            exact Nat.mul_le_mul_right _ hc
          omega
        refine Ev.congr (fun k => ?_) (Ev.step (g := fun k => trommellaw26_SatOrders.j0 k a b n m false) (fun k => ?_) (Ev.bind (add_ev _ hx) (f := fun k t140 => ((sat_Add.f k (m :: (b ++ a))).bind fun t141 => (if t140 > t141 then (trommellaw26_SatOrders.j1 k a b true) else ((sat_Mul.f k (n :: (a ++ b))).bind fun t142 => ((sat_Mul.f k (m :: (b ++ a))).bind fun t143 => (trommellaw26_SatOrders.j1 k a b (decide (t142 > t143)))))))) ?_))
        · unfold trommellaw26_SatOrders.f
          rw [if_neg h1, if_neg h2, decide_eq_false h3]
        · simp only [trommellaw26_SatOrders.j0]
          rw [if_neg (by simp), Option.bind_some, if_pos (by simp; omega), Option.bind_some, if_pos (by simp; omega), Option.bind_some, Option.bind_some, if_pos (by simp; omega), Option.bind_some, if_pos (by simp; omega), Option.bind_some, e1, e2]
        · refine Ev.bind (add_ev _ hy) ?_
          refine Ev_neg (by omega) ?_
          refine Ev.bind (mul_ev _ hx) ?_
          refine Ev.bind (mul_ev _ hy) ?_
          refine Ev.congr (fun k => ?_) (orders_j1 a b (by omega) (by omega))
          rw [decide_eq_false (by omega)]
end Go.Proofs.Ytnobckgfihlckaa.Pure
