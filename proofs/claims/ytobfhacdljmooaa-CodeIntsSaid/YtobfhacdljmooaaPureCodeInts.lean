/- CodeInts is proved: for all bytes, any place, any number and all numbers, the number and the numbers stand behind the bytes as the document's bytes say, and are got again; and what any bytes are, from any place on, is told as the document tells it. -/
import Derived.Test.YtobfhacdljmooaaCLI
import Derived.Test.YtobfhacdljmooaaPCodeIx5
set_option linter.unusedVariables false
set_option linter.unusedSimpArgs false
namespace Go.Proofs.Ytobfhacdljmooaa.PCodeI
open Go.RowKit Go.Proofs.YtobfhacdljmooaaW.PrintWords Go.Proofs.YtobfhacdljmooaaW.PrintLast Go.Proofs.Ytobfhacdljmooaa.CM
theorem gets_eq (l : List Int) (hl : l.length < 1000000) (hb : Bytes l) (at_ : Int) (k : Nat) (hk : l.length + 1 ≤ k) : code_GetInts.f k l at_ = some (gI l at_) := by
  unfold code_GetInts.f gI
  cases h : intsN l at_ with
  | none =>
    obtain ⟨m, x, e⟩ := rd_ints_no l hl hb at_ h k hk
    rw [e, Option.bind_some]; rfl
  | some t =>
    obtain ⟨m, e⟩ := t
    rw [rd_ints_ok l hl hb at_ m e h k hk, Option.bind_some]; rfl
theorem enc129 : encI (-65) = [129, 1] := by
  unfold encI
  rw [show zig (-65) = 129 from rfl, enc_big 129 (by decide), enc_small _ (by decide)]; rfl
theorem live_eq : trommellaw39_live.f = some true := by
  unfold trommellaw39_live.f
  rw [put_eq [] (-65) (by decide) (by decide), Option.bind_some, List.nil_append, enc129]
  simp
end Go.Proofs.Ytobfhacdljmooaa.PCodeI
namespace Go.Proofs.Ytobfhacdljmooaa.Pure
open Go.RowKit Go.Proofs.Ytobfhacdljmooaa.PCodeI Go.Proofs.YtobfhacdljmooaaW.PrintWords Go.Proofs.YtobfhacdljmooaaW.PrintLast Go.Proofs.Ytobfhacdljmooaa.CM
theorem u8_in {l : List Int} (h : ∀ x ∈ l, (Lit.int .u8 x).wf = true) : Bytes l := by
  intro x hx
  have := h x hx
  simp [Lit.wf, IntKind.min, IntKind.max, IntKind.bits, IntKind.signed] at this
  omega
theorem i64_in {a : Int} (h : (Lit.int .i64 a).wf = true) : In a := by
  simp [Lit.wf, IntKind.min, IntKind.max, IntKind.bits, IntKind.signed] at h
  unfold In
  omega
theorem CodeInts : trommellaw39_CodeInts.Pure := by
  intro l0 a1 a2 l3 hm0 hs0 hw0 hw1 hw2 hm3 hs3 hw3
  have hb := u8_in hw0
  have h1 := i64_in hw1
  have h2 := i64_in hw2
  have h3 : ∀ x ∈ l3, In x := fun x hx => i64_in (hw3 x hx)
  refine ⟨2000, ?_⟩
  unfold trommellaw39_CodeInts.f
  by_cases c0 : (l0.length : Int) > 300
  · rw [if_pos c0]
    simp only [trommellaw39_CodeInts.j0, if_true, live_eq, Option.bind_some]
  · rw [if_neg c0]
    by_cases c1 : (l3.length : Int) > 100
    · rw [decide_eq_true c1]
      simp only [trommellaw39_CodeInts.j0, if_true, live_eq, Option.bind_some]
    · rw [decide_eq_false c1]
      have len1 := encI_ten a2 h2
      have len2 : (encL l3).length ≤ 1010 := by
        have := encAll_le l3 h3
        have := encI_ten (l3.length : Int) ⟨by omega, by omega⟩
        unfold encL; rw [List.length_append]; omega
      have B1 : Bytes (l0 ++ encI a2) := hb.app (encI_bytes _)
      have B2 : Bytes (l0 ++ encL l3) := hb.app (encL_bytes _)
      simp only [trommellaw39_CodeInts.j0]
      rw [if_neg (by simp), put_eq l0 a2 h2 (by omega), Option.bind_some, puts_eq l0 l3 h3 (by omega) 1999 (by omega), Option.bind_some, rint_eq a2 h2, Option.bind_some]
      rw [if_pos (by rw [strOfNums_size, strOfNums_size]; omega), strOfNums_app, if_pos rfl, rints_eq l3 h3 (by omega) 1999 (by omega), Option.bind_some]
      rw [if_pos (by rw [strOfNums_size, strOfNums_size]; omega), strOfNums_app, bne_self_eq_false]
      simp only [trommellaw39_CodeInts.j1]
      rw [if_neg (by simp), get_eq _ _ (by rw [List.length_append]; omega) B1, Option.bind_some, gets_eq _ (by rw [List.length_append]; omega) B2 _ 1998 (by rw [List.length_append]; omega), Option.bind_some]
      have g1 := getN_enc l0 [] a2 h2 (l0.length : Int) rfl
      rw [List.append_nil] at g1
      have g2 := intsN_enc l3 h3 (by omega) l0 [] (l0.length : Int) rfl
      rw [List.append_nil] at g2
      have g3 : gI (l0 ++ encL l3) (l0.length : Int) = (l3, (l0.length : Int) + ((encL l3).length : Int), true) := by unfold gI; rw [g2]
      rw [g1, g3]
      simp only [if_true]
      rw [if_pos (by rw [List.length_append]; omega), same_eq l3 (by omega) 1998 (by omega), Option.bind_some, if_pos rfl]
      rw [show ((l0.length : Int) + ((encL l3).length : Int) != ((l0 ++ encL l3).length : Int)) = false from by rw [bne_eq_false_iff_eq, List.length_append]; omega]
      simp only [trommellaw39_CodeInts.j2]
      rw [if_neg (by simp), get_eq _ _ (by omega) hb, Option.bind_some, rget_eq l0 (by omega) hb a1 1997 (by omega), Option.bind_some, gets_eq l0 (by omega) hb a1 1997 (by omega), Option.bind_some, rgets_eq l0 (by omega) hb a1 1997 (by omega), Option.bind_some]
      have hlen : (gI l0 a1).1.length < 1000 := by
        unfold gI
        cases h : intsN l0 a1 with
        | none => simp
        | some t =>
          obtain ⟨m, e⟩ := t
          obtain ⟨_, p, r, i1, _, _⟩ := intsN_inv l0 hb a1 m e h
          have j1 := encAll_len m
          have j2 := congrArg List.length i1
          unfold encL at j2
          simp only [List.length_append] at j2
          simp only
          omega
      simp only [if_true, beq_self_eq_true]
      rw [same_eq _ (by omega) 1997 (by omega), Option.bind_some, if_pos rfl, live_eq, Option.bind_some]
end Go.Proofs.Ytobfhacdljmooaa.Pure
