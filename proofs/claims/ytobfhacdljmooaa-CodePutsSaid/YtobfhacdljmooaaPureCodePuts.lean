/- CodePuts is proved: any way to ask is put as the document's bytes say, and is got again from them. -/
import Derived.Test.YtobfhacdljmooaaCF
import Derived.Test.YtobfhacdljmooaaCO
import Derived.Test.YtobfhacdljmooaaPCodePx11
set_option linter.unusedVariables false
set_option linter.unusedSimpArgs false
namespace Go.Proofs.Ytobfhacdljmooaa.PCodeP
open Go.RowKit Go.Proofs.YtobfhacdljmooaaW.PrintWords Go.Proofs.YtobfhacdljmooaaW.PrintLast Go.Proofs.Ytobfhacdljmooaa.CM
theorem ok_stats (ss : List S87) (h : ∀ s ∈ ss, WStat s) (hs : ∀ s ∈ ss, Small s.f1) : ∀ s ∈ ss, OkStat s := by
  intro s hm
  obtain ⟨h1, h2⟩ := h s hm
  obtain ⟨h3, h4⟩ := hs s hm
  refine ⟨i64_in h1, by omega, fun c hc => ?_⟩
  obtain ⟨h5, h6, h7⟩ := h2 c hc
  exact ⟨i64_in h5, i64_in h6, by have := h4 c hc; omega, fun m hm => i64_in (h7 m hm)⟩
theorem puts_pure (ss : List S87) (fo : Bool) (a b c d e g : Int) (pk : List Int) (hs : ∀ s ∈ ss, WStat s) (ha : W64 a) (hb : W64 b) (hc : W64 c) (hd : W64 d) (he : W64 e) (hg : W64 g) (hp : ∀ m ∈ pk, W64 m) :
    ∃ k, trommellaw39_CodePuts.f k ss fo a b c d e g pk = some true := by
  refine ⟨3000000, ?_⟩
  obtain ⟨v, m1, m2⟩ := much_ask ss fo a b c d e g pk 3000000 (by omega)
  unfold trommellaw39_CodePuts.f
  rw [m1, Option.bind_some]
  cases v with
  | true => rw [if_pos rfl, live_eq, Option.bind_some]
  | false =>
    obtain ⟨n1, n2, n3⟩ := m2 rfl
    have hO : OkAsk (fo1 fo, a, b, c, d, e, g, pk, ss) := ⟨(fo1_in fo).1, i64_in ha, i64_in hb, i64_in hc, i64_in hd, i64_in he, i64_in hg, ⟨by show (pk.length : Int) ≤ _; omega, fun m hm => i64_in (hp m hm)⟩, by show (ss.length : Int) ≤ _; omega, ok_stats ss hs n3⟩
    have hl := encA_hi _ hO n1 n2 n3
    have h2 : ∀ s ∈ ss, ∀ c ∈ s.f1, c.f2.length + 1 ≤ 101 := fun s hm c hc => by have := (n3 s hm).2 c hc; omega
    rw [if_neg (by simp), put_ask ss fo a b c d e g pk hO 101 (by omega) h2 (by omega) hl _ (by omega), Option.bind_some]
    rw [codeGet_eq _ (by omega) (encA_bytes _) _ (by omega), Option.bind_some, askN_enc _ hO (fo1_in fo).2.1 (fo1_in fo).2.2.1]
    rw [bytes_ask ss fo a b c d e g pk hO 101 (by omega) h2 (by omega) hl _ (by omega), Option.bind_some, if_pos rfl]
    simp only [res, (fo1_in fo).2.2.2]
    rw [same_ask ss fo a b c d e g pk 200 (by omega) (fun s hm => ⟨by have := (n3 s hm).1; omega, fun c hc => by have := h2 s hm c hc; omega⟩) (by omega) (by omega) _ (by omega), Option.bind_some, if_pos rfl]
    unfold trommellaw39_num.f
    rw [Option.bind_some, if_pos rfl, live_eq, Option.bind_some]
end Go.Proofs.Ytobfhacdljmooaa.PCodeP
