/- CodeGets is proved: which way to ask any bytes are is told as the document tells it; and if they are one, they are just the bytes of that one. -/
import Derived.Test.YtobfhacdljmooaaCR
import Derived.Test.YtobfhacdljmooaaCF
import Derived.Test.YtobfhacdljmooaaPCodePx15
set_option linter.unusedVariables false
set_option linter.unusedSimpArgs false
namespace Go.Proofs.Ytobfhacdljmooaa.Pure
open Go.RowKit Go.Proofs.Ytobfhacdljmooaa.PCodeP Go.Proofs.YtobfhacdljmooaaW.PrintWords Go.Proofs.YtobfhacdljmooaaW.PrintLast Go.Proofs.Ytobfhacdljmooaa.CM
theorem u8_in {l : List Int} (h : ∀ x ∈ l, (Lit.int .u8 x).wf = true) : Bytes l := by
  intro x hx
  have := h x hx
  simp [Lit.wf, IntKind.min, IntKind.max, IntKind.bits, IntKind.signed] at this
  omega
theorem CodeGets : trommellaw39_CodeGets.Pure := by
  intro l hm hs hw
  have hb := u8_in hw
  refine ⟨3000000, ?_⟩
  unfold trommellaw39_CodeGets.f
  by_cases c0 : (l.length : Int) > 1000
  · rw [if_pos c0, live_eq, Option.bind_some]
  · rw [if_neg c0, codeGet_eq l (by omega) hb _ (by omega), Option.bind_some, refGet_eq l (by omega) hb _ (by omega), Option.bind_some]
    cases ha : askN l with
    | none =>
      simp only [res, err]
      rw [same_ask [] false 0 0 0 0 0 0 [] 200 (by omega) (by simp) (by simp) (by simp) _ (by omega), Option.bind_some, if_pos rfl]
      unfold trommellaw39_num.f
      rw [Option.bind_some, bne_self_eq_false, trommellaw39_CodeGets.j0, if_neg (by simp), if_neg (by omega), live_eq, Option.bind_some]
    | some t =>
      obtain ⟨hO, h0, h1, rfl⟩ := askN_inv l hb t ha
      obtain ⟨b1, b2, b3⟩ := encA_lo t
      obtain ⟨f, a, b, c, d, e, g, pk, ss⟩ := t
      simp only at h0 h1 b1 b2 b3
      have hf : fo1 (f == 1) = f := by
        have : f = 0 ∨ f = 1 := by omega
        rcases this with rfl | rfl <;> rfl
      have hlen : (encA (f, a, b, c, d, e, g, pk, ss)).length ≤ 1000 := by omega
      generalize hL : (encA (f, a, b, c, d, e, g, pk, ss)).length = L at *
      simp only [res]
      rw [same_ask ss (f == 1) a b c d e g pk 1001 (by omega) (fun s hs => ⟨by have := (b3 s hs).1; omega, fun c hc => by have := (b3 s hs).2 c hc; omega⟩) (by omega) (by omega) _ (by omega), Option.bind_some, if_pos rfl]
      unfold trommellaw39_num.f
      have hP := put_ask ss (f == 1) a b c d e g pk (by rw [hf]; exact hO) 1001 (by omega) (fun s hs c hc => by have := (b3 s hs).2 c hc; omega) (by omega) (by rw [hf, hL]; omega) 2999999 (by omega)
      rw [hf] at hP
      rw [Option.bind_some, bne_self_eq_false, trommellaw39_CodeGets.j0, if_neg (by simp), if_pos rfl, hP, Option.bind_some, if_pos rfl, live_eq, Option.bind_some]
end Go.Proofs.Ytobfhacdljmooaa.Pure
