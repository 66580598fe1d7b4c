/- SatSums is proved: for every numbers l and every number n, the sum and the product of l are the reference's, and so are the nearest count of n and whether it is the greatest. -/
import Derived.Test.YtnobckgfihlckaaSM4
import Derived.Test.YtnobckgfihlckaaPSatx4
set_option linter.unusedVariables false
set_option linter.unusedSimpArgs false
namespace Go.Proofs.Ytnobckgfihlckaa.Pure
open Go.RowKit Go.Proofs.Ytnobckgfihlckaa.PSat Go.Proofs.YtnobckgfihlckaaW.PrintWords Go.Proofs.YtnobckgfihlckaaW.PrintLast

theorem SatSums : trommellaw26_SatSums.Pure := by
  intro l a m s w wa
  have hl : l.length < 17592186044416 := by omega
  apply Ev.rounds
  by_cases h : (l.length : Int) > 100
  · refine Ev.congr (fun k => ?_) (Ev.bind live_ev (f := fun _ t => some t) (Ev.now _))
    unfold trommellaw26_SatSums.f
    rw [if_pos h]
  · refine Ev.congr (fun k => ?_) (Ev.bind (add_ev l hl) (f := fun k t178 => ((trommelref26_Add.f k l).bind fun t179 => (if t178 = t179 then ((sat_Mul.f k l).bind fun t180 => ((trommelref26_Mul.f k l).bind fun t181 => (if t180 = t181 then ((sat_Cut.f a).bind fun t182 => ((trommelref26_Cut.f a).bind fun t183 => (if t182 = t183 then ((sat_Full.f a).bind fun t184 => ((trommelref26_Cut.f a).bind fun t185 => (if (t184 == (t185 == 4611686018427387904)) = true then ((trommellaw26_live.f k).bind fun t186 => (some t186)) else (some false)))) else (some false)))) else (some false)))) else (some false)))) ?_)
    · unfold trommellaw26_SatSums.f
      rw [if_neg h]
    · refine Ev.bind (refadd_ev l hl) ?_
      refine Ev_pos rfl ?_
      refine Ev.bind (mul_ev l hl) ?_
      refine Ev.bind (refmul_ev l hl) ?_
      refine Ev_pos rfl ?_
      refine Ev.congr (fun k => ?_) (Ev.bind live_ev (f := fun _ t => some t) (Ev.now _))
      unfold sat_Full.f
      rw [cut_eq, refcut_eq, Option.bind_some, Option.bind_some, if_pos rfl, Option.bind_some, Option.bind_some, Option.bind_some, beq_self_eq_true, if_pos rfl]
end Go.Proofs.Ytnobckgfihlckaa.Pure
