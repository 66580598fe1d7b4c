/- Lengths of a way to ask's bytes. -/
import Derived.Test.YtobfhacdljmooaaCE
import Derived.Test.YtobfhacdljmooaaPCodePx10
set_option linter.unusedVariables false
set_option linter.unusedSimpArgs false
namespace Go.Proofs.Ytobfhacdljmooaa.PCodeP
open Go.RowKit Go.Proofs.YtobfhacdljmooaaW.PrintWords Go.Proofs.YtobfhacdljmooaaW.PrintLast Go.Proofs.Ytobfhacdljmooaa.CM
theorem encR_le {α : Type} {e : α → List Int} (M : Nat) (xs : List α) (h : ∀ a ∈ xs, (e a).length ≤ M) : (encR e xs).length ≤ M * xs.length := by
  induction xs with
  | nil => simp [encR]
  | cons a xs ih =>
    have h1 := h a List.mem_cons_self
    have h2 := ih (fun b hb => h b (List.mem_cons_of_mem _ hb))
    simp only [encR, List.length_append, List.length_cons, Nat.mul_add, Nat.mul_one]
    omega
theorem encL_hi (l : List Int) (h : OkL l) : (encL l).length ≤ 10 + 10 * l.length := by
  have := encAll_le l h.2
  have := encI_ten (l.length : Int) ⟨by omega, h.1⟩
  unfold encL; rw [List.length_append]; omega
theorem encCol_hi (c : S89) (h : OkCol c) (h2 : c.f2.length ≤ 60) : (encCol c).length ≤ 630 := by
  have := encI_ten _ h.1
  have := encI_ten _ h.2.1
  have := encL_hi _ h.2.2
  unfold encCol; simp only [List.length_append]; omega
theorem encStat_hi (s : S87) (h : OkStat s) (h2 : Small s.f1) : (encStat s).length ≤ 18920 := by
  have := encI_ten _ h.1
  have := encI_ten (s.f1.length : Int) ⟨by omega, h.2.1⟩
  have h3 := encR_le 630 s.f1 (fun c hc => encCol_hi c (h.2.2 c hc) (h2.2 c hc))
  have : 630 * s.f1.length ≤ 630 * 30 := Nat.mul_le_mul_left _ h2.1
  unfold encStat encC; simp only [List.length_append]; omega
theorem encA_hi (t : Int × Int × Int × Int × Int × Int × Int × List Int × List S87) (h : OkAsk t) (h2 : t.2.2.2.2.2.2.2.1.length ≤ 100) (h3 : t.2.2.2.2.2.2.2.2.length ≤ 16) (h4 : ∀ s ∈ t.2.2.2.2.2.2.2.2, Small s.f1) : (encA t).length < 500000 := by
  obtain ⟨f, a, b, c, d, e, g, pk, ss⟩ := t
  obtain ⟨o1, o2, o3, o4, o5, o6, o7, o8, o9, o10⟩ := h
  simp only at o1 o2 o3 o4 o5 o6 o7 o8 o9 o10 h2 h3 h4
  have e1 := encI_ten _ o1
  have e2 := encI_ten _ o2
  have e3 := encI_ten _ o3
  have e4 := encI_ten _ o4
  have e5 := encI_ten _ o5
  have e6 := encI_ten _ o6
  have e7 := encI_ten _ o7
  have e8 := encL_hi _ o8
  have e9 := encI_ten (ss.length : Int) ⟨by omega, o9⟩
  have e10 := encR_le 18920 ss (fun s hs => encStat_hi s (o10 s hs) (h4 s hs))
  have : 18920 * ss.length ≤ 18920 * 16 := Nat.mul_le_mul_left _ h3
  simp only [encA, encC, List.length_append]
  omega
theorem encCol_bytes (c : S89) : Bytes (encCol c) := (encI_bytes _).app ((encI_bytes _).app (encL_bytes _))
theorem encStat_bytes (s : S87) : Bytes (encStat s) := (encI_bytes _).app (encC_bytes encCol_bytes _)
theorem encA_bytes (t : Int × Int × Int × Int × Int × Int × Int × List Int × List S87) : Bytes (encA t) :=
  (encI_bytes _).app ((encI_bytes _).app ((encI_bytes _).app ((encI_bytes _).app ((encI_bytes _).app ((encI_bytes _).app ((encI_bytes _).app ((encL_bytes _).app (encC_bytes encStat_bytes _))))))))
/-- what stands inside is no longer than the whole -/
theorem encR_mem {α : Type} {e : α → List Int} (xs : List α) (a : α) (h : a ∈ xs) : (e a).length ≤ (encR e xs).length := by
  induction xs with
  | nil => cases h
  | cons b xs ih =>
    simp only [encR, List.length_append]
    rcases List.mem_cons.1 h with rfl | h
    · omega
    · have := ih h; omega
theorem encCol_lo (c : S89) : c.f2.length + 1 ≤ (encCol c).length := by
  have := encL_le c.f2
  unfold encCol; simp only [List.length_append]; omega
theorem encStat_lo (s : S87) : s.f1.length ≤ (encStat s).length ∧ ∀ c ∈ s.f1, c.f2.length + 1 ≤ (encStat s).length := by
  have h1 := encR_len s.f1 encCol_pos
  refine ⟨by unfold encStat encC; simp only [List.length_append]; omega, fun c hc => ?_⟩
  have h2 := encR_mem (e := encCol) s.f1 c hc
  have h3 := encCol_lo c
  unfold encStat encC; simp only [List.length_append]; omega
theorem encA_lo (t : Int × Int × Int × Int × Int × Int × Int × List Int × List S87) : t.2.2.2.2.2.2.2.1.length + 1 ≤ (encA t).length ∧ t.2.2.2.2.2.2.2.2.length ≤ (encA t).length ∧ ∀ s ∈ t.2.2.2.2.2.2.2.2, s.f1.length ≤ (encA t).length ∧ ∀ c ∈ s.f1, c.f2.length + 1 ≤ (encA t).length := by
  obtain ⟨f, a, b, c, d, e, g, pk, ss⟩ := t
  have h1 := encL_le pk
  have h2 := encR_len ss encStat_pos
  have hA : (encL pk).length + (encR encStat ss).length ≤ (encA (f, a, b, c, d, e, g, pk, ss)).length := by
    simp only [encA, encC, List.length_append]; omega
  refine ⟨by show pk.length + 1 ≤ _; omega, by show ss.length ≤ _; omega, fun s hs => ?_⟩
  have h3 := encR_mem (e := encStat) ss s hs
  have h4 := encStat_lo s
  exact ⟨by omega, fun c hc => by have := h4.2 c hc; omega⟩
theorem enc129 : encI (-65) = [129, 1] := by
  unfold encI
  rw [show zig (-65) = 129 from rfl, enc_big 129 (by decide), enc_small _ (by decide)]; rfl
theorem live_eq : trommellaw39_live.f = some true := by
  unfold trommellaw39_live.f
  rw [put_eq [] (-65) (by decide) (by decide), Option.bind_some, List.nil_append, enc129]
  simp
theorem i64_in {a : Int} (h : (Lit.int .i64 a).wf = true) : In a := by
  simp [Lit.wf, IntKind.min, IntKind.max, IntKind.bits, IntKind.signed] at h
  unfold In
  omega
end Go.Proofs.Ytobfhacdljmooaa.PCodeP
