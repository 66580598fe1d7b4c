-- CodePuts: the row; written by hand as the print writes its rows (its argument is a struct of slices of structs)
import Derived.Test.YtobfhacdljmooaaRows
import Derived.Test.YtobfhacdljmooaaPureCodePuts
import Derived.WalkKit
import Derived.ProofKit
import Derived.OpenShut
import Derived.ShutString
import Derived.ChangeOld
import Derived.Below
import Derived.SizedLaws
namespace Go.Proofs.Ytobfhacdljmooaa.codePuts
open Go.ChangeShapes Go.WideShapes Go.ChangeAt Go.RowKit
open Go.ChangeMaps (open_string shut_string)
open Go.Proofs.YtobfhacdljmooaaW.PrintWords Go.Proofs.YtobfhacdljmooaaW.PrintLast Go.Proofs.Ytobfhacdljmooaa.PCodeP
set_option linter.unusedVariables false
theorem own : ownKnob Try.prog.godebug = none := by kernel_rfl
theorem laidOut : laidOutB Try.prog = true := by kernel_rfl
set_option maxRecDepth 100000 in
theorem lifted (os : Os) (started : os.Started) (H : Type) (enc : TypeId × Value → H) :
    ReturnsInHanded {} Try.checked os 7 .any (Rows.codePutsSpec.pre6 enc Try.prog Try.f7 Rows.codePutsRow.domain false) (Rows.codePutsSpec.post enc Try.prog Try.f7 false true false false) := by
  refine returnsInHanded_of_change_sized (C := Try.checked) own started (by kernel_rfl) Try.func7
    (ChangeSpec.witness6 (enc := enc) (C := Try.checked) false ⟨#[], #[.agg #[.slice none 0 0, .bool false, .int .i64 0, .int .i64 0, .int .i64 0, .int .i64 0, .int .i64 0, .int .i64 0, .slice none 0 0]], []⟩ 8 (by kernel_rfl) (by kernel_rfl) (by kernel_rfl) (by kernel_rfl)) ?_
  intro W base args ds gs before hval0 hW hcnd hsz0 _
  have hval : ∀ (j : Nat) t v, Try.f7.params[j]? = some t → args[j]? = some v → Value.okWide Try.prog W .any base t v := hval0
  have hW' := hW
  obtain ⟨p, q, hA0, hV, rfl, hfz, hnd⟩ := hW
  have hA : DataW.TrodAll enc Try.prog W 0 (fun _ => true) true Try.f7.params.toList args.toList ds p := hA0
  rw [Try.params7] at hA hval
  obtain ⟨v0, vs0, d0, ds0, p0, q0, hargs, rfl, rfl, h0, r0⟩ := trodAll_cons hA
  obtain ⟨rfl, rfl, rfl⟩ := trodAll_nil r0
  obtain rfl : args = #[v0] := by cases args; simp_all
  obtain ⟨rfl, rfl⟩ := trodVars_none hV
  obtain ⟨cs, rfl, hsz⟩ := okWide_struct Try.underlying63 (hval 0 63 v0 rfl rfl)
  have k0 := h0
  have lt0 : ∀ x ∈ p0, x.block < W.heap.size := by obtain ⟨m, hm⟩ := k0; exact DataW.trod_lt m _ _ _ hm
  obtain ⟨A0, c0, ss, fo, a, b, c, d, e, g, A8, c8, pk, hcs, hl0, hr0, hl8, hr8, ws, wa, wb, wc, wd, we, wg, wp⟩ : ∃ A0 c0 ss fo a b c d e g A8 c8 pk, cs = #[.slice A0 (List.length ss) c0, .bool fo, .int .i64 a, .int .i64 b, .int .i64 c, .int .i64 d, .int .i64 e, .int .i64 g, .slice A8 (List.length pk) c8] ∧ ss.length ≤ c0 ∧ Kd.C k87 W A0 ss.length ss ∧ pk.length ≤ c8 ∧ Kd.C (Kd.int .i64) W A8 pk.length pk ∧
      (∀ s ∈ ss, WStat s) ∧ W64 a ∧ W64 b ∧ W64 c ∧ W64 d ∧ W64 e ∧ W64 g ∧ (∀ m ∈ pk, W64 m) := by
    obtain ⟨fuel, hf⟩ := h0
    obtain ⟨A0, c0, ss, fo, a, b, c, d, e, g, A8, c8, pk, hcs, h⟩ := open_ask enc W _ _ _ fuel cs.toList _ hf
    exact ⟨A0, c0, ss, fo, a, b, c, d, e, g, A8, c8, pk, by rw [← Array.toArray_toList (xs := cs), hcs], h⟩
  subst hcs
  clear hA0 hval0 hsz0
  obtain ⟨k, hk⟩ := puts_pure ss fo a b c d e g pk ws wa wb wc wd we wg wp
  refine (trommellaw39_CodePuts.calls k A0 c0 ss fo a b c d e g A8 c8 pk true W hr0 hl0 hr8 hl8 hk).mono fun e W' ⟨he, bel⟩ => ?_
  subst he
  exact ⟨_, rfl, _, _, _, [], _, [], hW', trodAll_mk1 (shut_bool Try.underlying4 _), (trodAll_cons_mk (Below.trod laidOut (by kernel_rfl) (of_decide_eq_true (by kernel_rfl)) k0 bel lt0) trodAll_mk0), rfl, bel.frame _, fun h => by cases h⟩
theorem over : Rows.codePutsRow.holds Try.pinned (OpenSpec.ofChange Rows.codePutsSpec) :=
  OpenClaim.holds_of_wide 7 Try.f7 rfl rfl rfl rfl rfl rfl rfl ⟨rfl, rfl, rfl, rfl, rfl⟩ rfl rfl rfl rfl rfl (by kernel_rfl) Try.func7 (by kernel_rfl)
    (of_decide_eq_true (by kernel_rfl)) (by unfold Func.isWrapper; first | (rw [if_pos (by decide +kernel)]; kernel_rfl) | (rw [if_neg (by decide +kernel)]; exact ⟨rfl, rfl⟩))
    (fun os started H enc _ => lifted os started H enc)
theorem proved : Rows.CodePutsSaid := over
#print axioms proved
end Go.Proofs.Ytobfhacdljmooaa.codePuts
namespace Go.Proofs.Ytobfhacdljmooaa
/-- The row, under a short name, for the claim. -/
theorem codePuts_holds : Rows.CodePutsSaid := codePuts.proved
end Go.Proofs.Ytobfhacdljmooaa
