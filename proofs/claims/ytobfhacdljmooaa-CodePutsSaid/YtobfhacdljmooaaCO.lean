/- A way to ask as an argument, opened: its lists, and that its numbers are of 64 bits. -/
import Derived.Test.YtobfhacdljmooaaPCodePx0
import Derived.ChangeArms
import Derived.DataReads
import Derived.DataElems
import Derived.WideShapes
set_option linter.unusedVariables false
set_option linter.unusedSimpArgs false
namespace Go.Proofs.Ytobfhacdljmooaa.PCodeP
open Go.RowKit Go.WideShapes Go.Proofs.YtobfhacdljmooaaW.PrintWords Go.Proofs.YtobfhacdljmooaaW.PrintLast Go.Proofs.YtobfhacdljmooaaW.PrintMore

/-- what reads at type t is a thing of the kind d -/
def Opens {α : Type} (d : Kd α) (t : TypeId) (wf : α → Prop) : Prop := ∀ {H : Type} (enc : TypeId × Value → H) (w : World) (base : Nat) (spare : Nat → Bool) (held : Bool) (fuel : Nat) (cs : List Value) (x : DataW H × List MemPlace),
  DataW.trod enc Try.prog w base spare held fuel t cs = some x → ∃ a, d.K w a cs ∧ wf a
theorem choose_list {α : Type} {Q : Nat → α → Prop} : ∀ n, (∀ i, i < n → ∃ a, Q i a) → ∃ l : List α, l.length = n ∧ ∀ i a, l[i]? = some a → Q i a := by
  intro n
  induction n with
  | zero => intro _; exact ⟨[], rfl, by simp⟩
  | succ n ih =>
    intro h
    obtain ⟨l, h1, h2⟩ := ih (fun i hi => h i (by omega))
    obtain ⟨a, ha⟩ := h n (by omega)
    refine ⟨l ++ [a], by simp [h1], fun i b hb => ?_⟩
    by_cases hi : i < n
    · rw [List.getElem?_append_left (by omega)] at hb; exact h2 i b hb
    · rw [List.getElem?_append_right (by omega)] at hb
      have : i = n := by
        have := (List.getElem?_eq_some_iff.1 hb).1
        simp at this; omega
      subst this
      rw [show i - l.length = 0 by omega] at hb
      simp at hb
      exact hb ▸ ha
theorem opens_int {t : TypeId} {k : IntKind} (ht : Try.prog.underlying t = some (.int k)) : Opens (Kd.int k) t (fun n => (Lit.int k n).wf = true) := by
  intro H enc w base spare held fuel cs x h
  obtain ⟨n, rfl, _, hw⟩ := DataW.trod_int ht h
  exact ⟨n, rfl, hw⟩
theorem opens_slice {α : Type} {d : Kd α} {wf : α → Prop} {t e : TypeId} (ht : Try.prog.underlying t = some (.slice e)) (hc : Try.prog.cellsOf e = d.sz) (ho : Opens d e wf) : Opens (Kd.slice e d) t (fun l => ∀ a ∈ l, wf a) := by
  intro H enc w base spare held fuel cs x h
  rcases DataW.trod_slice ht h with ⟨rfl, _⟩ | ⟨a, len, cap, elems, rest, n, _, rfl, _, hb, hl, hm, hlen, hel, _, _⟩
  · exact ⟨[], ⟨none, 0, rfl, Nat.le_refl _, Kd.C_nil _ _⟩, by simp⟩
  · obtain ⟨l, l1, l2⟩ := choose_list (Q := fun i y => (∃ c, c.length = d.sz ∧ d.K w y c ∧ ∀ q u, c[q]? = some u → w.cell? (a.add (i * d.sz + q)) = some u) ∧ wf y) len (fun i hi => by
      have h3 := hel i hi
      rw [List.getElem?_eq_getElem (by omega), Option.bind_eq_some_iff] at h3
      obtain ⟨c, hcs, hy⟩ := h3
      obtain ⟨y, hK, hW⟩ := ho enc w base spare held n c _ hy
      obtain ⟨_, c1, c2⟩ := World.cells?_some hcs
      rw [hc] at c1 c2
      refine ⟨y, ⟨c, c1, hK, fun q u hu => ?_⟩, hW⟩
      have hq : q < d.sz := by rw [← c1]; exact (List.getElem?_eq_some_iff.1 hu).1
      rw [← Addr.add_add, ← hu]
      exact c2 q hq)
    have hmx : maxLen ≤ 9223372036854775807 := by decide
    refine ⟨l, ⟨some a, cap, by rw [l1], by omega, rfl, by omega, fun _ => ⟨a, rfl, fun j p hj => (l2 j p hj).1⟩⟩, fun y hy => ?_⟩
    obtain ⟨i, hi, rfl⟩ := List.getElem_of_mem hy
    exact (l2 i _ (List.getElem?_eq_getElem hi)).2
theorem cells3 : Try.prog.cellsOf 3 = 1 := by kernel_rfl
theorem cells4 : Try.prog.cellsOf 4 = 1 := by kernel_rfl
theorem cells37 : Try.prog.cellsOf 37 = 1 := by kernel_rfl
theorem cells59 : Try.prog.cellsOf 59 = 1 := by kernel_rfl
theorem cells61 : Try.prog.cellsOf 61 = 6 := by kernel_rfl
theorem cells63 : Try.prog.cellsOf 63 = 9 := by kernel_rfl
theorem cells87 : Try.prog.cellsOf 87 = 2 := by kernel_rfl
theorem cells89 : Try.prog.cellsOf 89 = 3 := by kernel_rfl
def W64 (n : Int) : Prop := (Lit.int .i64 n).wf = true
def WCol (c : S89) : Prop := W64 c.f0 ∧ W64 c.f1 ∧ ∀ m ∈ c.f2, W64 m
def WStat (s : S87) : Prop := W64 s.f0 ∧ ∀ c ∈ s.f1, WCol c
theorem opens_ints : Opens (Kd.slice 3 (Kd.int .i64)) 37 (fun l => ∀ m ∈ l, W64 m) := opens_slice Try.underlying37 cells3 (opens_int Try.underlying3)
theorem opens_col : Opens k89 89 WCol := by
  intro H enc w base spare held fuel cs x h
  obtain ⟨xs, n, _, _, hl, hlen, hf⟩ := DataW.trod_struct Try.underlying89 h
  rw [cells89] at hl
  match cs, hl with
  | [c0, c1, c2], _ =>
    have f0 : DataW.trod enc Try.prog w base spare held n 3 (([c0, c1, c2].drop 0).take (Try.prog.cellsOf 3)) = xs[0]? := hf 0 _ rfl
    have f1 : DataW.trod enc Try.prog w base spare held n 3 (([c0, c1, c2].drop 1).take (Try.prog.cellsOf 3)) = xs[1]? := hf 1 _ rfl
    have f2 : DataW.trod enc Try.prog w base spare held n 37 (([c0, c1, c2].drop 2).take (Try.prog.cellsOf 37)) = xs[2]? := hf 2 _ rfl
    have hx : xs.length = 3 := hlen
    rw [List.getElem?_eq_getElem (by omega)] at f0 f1 f2
    simp only [cells3, cells37, List.drop_zero, List.drop_succ_cons, List.take_succ_cons, List.take_zero] at f0 f1 f2
    obtain ⟨a, k0, w0⟩ := opens_int Try.underlying3 enc w base spare held n _ _ f0
    obtain ⟨b, k1, w1⟩ := opens_int Try.underlying3 enc w base spare held n _ _ f1
    obtain ⟨l, ⟨A, c, k2, hc, hr⟩, w2⟩ := opens_ints enc w base spare held n _ _ f2
    have k0' : [c0] = [Value.int .i64 a] := k0
    have k1' : [c1] = [Value.int .i64 b] := k1
    simp only [List.cons.injEq, and_true] at k0' k1' k2
    subst k0' k1' k2
    exact ⟨⟨a, b, l⟩, k89_mk w ⟨a, b, l⟩ hc hr, w0, w1, w2⟩
theorem opens_cols : Opens (Kd.slice 89 k89) 85 (fun l => ∀ c ∈ l, WCol c) := opens_slice Try.underlying85 cells89 opens_col
theorem cells85 : Try.prog.cellsOf 85 = 1 := by kernel_rfl
theorem opens_stat : Opens k87 87 WStat := by
  intro H enc w base spare held fuel cs x h
  obtain ⟨xs, n, _, _, hl, hlen, hf⟩ := DataW.trod_struct Try.underlying87 h
  rw [cells87] at hl
  match cs, hl with
  | [c0, c1], _ =>
    have f0 : DataW.trod enc Try.prog w base spare held n 3 (([c0, c1].drop 0).take (Try.prog.cellsOf 3)) = xs[0]? := hf 0 _ rfl
    have f1 : DataW.trod enc Try.prog w base spare held n 85 (([c0, c1].drop 1).take (Try.prog.cellsOf 85)) = xs[1]? := hf 1 _ rfl
    have hx : xs.length = 2 := hlen
    rw [List.getElem?_eq_getElem (by omega)] at f0 f1
    simp only [cells3, cells85, List.drop_zero, List.drop_succ_cons, List.take_succ_cons, List.take_zero] at f0 f1
    obtain ⟨a, k0, w0⟩ := opens_int Try.underlying3 enc w base spare held n _ _ f0
    obtain ⟨l, ⟨A, c, k2, hc, hr⟩, w2⟩ := opens_cols enc w base spare held n _ _ f1
    have k0' : [c0] = [Value.int .i64 a] := k0
    simp only [List.cons.injEq, and_true] at k0' k2
    subst k0' k2
    exact ⟨⟨a, l⟩, k87_mk w ⟨a, l⟩ hc hr, w0, w2⟩
theorem opens_stats : Opens (Kd.slice 87 k87) 59 (fun l => ∀ s ∈ l, WStat s) := opens_slice Try.underlying59 cells87 opens_stat
theorem open_six {H : Type} (enc : TypeId × Value → H) (w : World) (base : Nat) (spare : Nat → Bool) (held : Bool) (fuel : Nat) (c0 c1 c2 c3 c4 c5 : Value) (x : DataW H × List MemPlace) (h : DataW.trod enc Try.prog w base spare held fuel 61 [c0, c1, c2, c3, c4, c5] = some x) :
    ∃ a b c d e g, c0 = .int .i64 a ∧ c1 = .int .i64 b ∧ c2 = .int .i64 c ∧ c3 = .int .i64 d ∧ c4 = .int .i64 e ∧ c5 = .int .i64 g ∧ W64 a ∧ W64 b ∧ W64 c ∧ W64 d ∧ W64 e ∧ W64 g := by
  obtain ⟨xs, n, _, _, hl, hlen, hf⟩ := DataW.trod_struct Try.underlying61 h
  have hx : xs.length = 6 := hlen
  have f0 : DataW.trod enc Try.prog w base spare held n 3 (([c0, c1, c2, c3, c4, c5].drop 0).take (Try.prog.cellsOf 3)) = xs[0]? := hf 0 _ rfl
  have f1 : DataW.trod enc Try.prog w base spare held n 3 (([c0, c1, c2, c3, c4, c5].drop 1).take (Try.prog.cellsOf 3)) = xs[1]? := hf 1 _ rfl
  have f2 : DataW.trod enc Try.prog w base spare held n 3 (([c0, c1, c2, c3, c4, c5].drop 2).take (Try.prog.cellsOf 3)) = xs[2]? := hf 2 _ rfl
  have f3 : DataW.trod enc Try.prog w base spare held n 3 (([c0, c1, c2, c3, c4, c5].drop 3).take (Try.prog.cellsOf 3)) = xs[3]? := hf 3 _ rfl
  have f4 : DataW.trod enc Try.prog w base spare held n 3 (([c0, c1, c2, c3, c4, c5].drop 4).take (Try.prog.cellsOf 3)) = xs[4]? := hf 4 _ rfl
  have f5 : DataW.trod enc Try.prog w base spare held n 3 (([c0, c1, c2, c3, c4, c5].drop 5).take (Try.prog.cellsOf 3)) = xs[5]? := hf 5 _ rfl
  rw [List.getElem?_eq_getElem (by omega)] at f0 f1 f2 f3 f4 f5
  simp only [cells3, List.drop_zero, List.drop_succ_cons, List.take_succ_cons, List.take_zero] at f0 f1 f2 f3 f4 f5
  obtain ⟨a, k0, w0⟩ := opens_int Try.underlying3 enc w base spare held n _ _ f0
  obtain ⟨b, k1, w1⟩ := opens_int Try.underlying3 enc w base spare held n _ _ f1
  obtain ⟨c, k2, w2⟩ := opens_int Try.underlying3 enc w base spare held n _ _ f2
  obtain ⟨d, k3, w3⟩ := opens_int Try.underlying3 enc w base spare held n _ _ f3
  obtain ⟨e, k4, w4⟩ := opens_int Try.underlying3 enc w base spare held n _ _ f4
  obtain ⟨g, k5, w5⟩ := opens_int Try.underlying3 enc w base spare held n _ _ f5
  exact ⟨a, b, c, d, e, g, List.head_eq_of_cons_eq k0, List.head_eq_of_cons_eq k1, List.head_eq_of_cons_eq k2, List.head_eq_of_cons_eq k3, List.head_eq_of_cons_eq k4, List.head_eq_of_cons_eq k5, w0, w1, w2, w3, w4, w5⟩
theorem list9 {α : Type} {l : List α} (h : l.length = 9) : ∃ a b c d e f g i j, l = [a, b, c, d, e, f, g, i, j] := by
  match l, h with
  | [a, b, c, d, e, f, g, i, j], _ => exact ⟨a, b, c, d, e, f, g, i, j, rfl⟩
theorem open_ask {H : Type} (enc : TypeId × Value → H) (w : World) (base : Nat) (spare : Nat → Bool) (held : Bool) (fuel : Nat) (cs : List Value) (x : DataW H × List MemPlace) (h : DataW.trod enc Try.prog w base spare held fuel 63 cs = some x) :
    ∃ A0 c0 ss fo a b c d e g A8 c8 pk, cs = [.slice A0 ss.length c0, .bool fo, .int .i64 a, .int .i64 b, .int .i64 c, .int .i64 d, .int .i64 e, .int .i64 g, .slice A8 pk.length c8] ∧ ss.length ≤ c0 ∧ Kd.C k87 w A0 ss.length ss ∧ pk.length ≤ c8 ∧ Kd.C (Kd.int .i64) w A8 pk.length pk ∧
      (∀ s ∈ ss, WStat s) ∧ W64 a ∧ W64 b ∧ W64 c ∧ W64 d ∧ W64 e ∧ W64 g ∧ (∀ m ∈ pk, W64 m) := by
  obtain ⟨xs, n, _, _, hl, hlen, hf⟩ := DataW.trod_struct Try.underlying63 h
  rw [cells63] at hl
  obtain ⟨v0, v1, v2, v3, v4, v5, v6, v7, v8, rfl⟩ := list9 hl
  have hx : xs.length = 4 := hlen
  have f0 : DataW.trod enc Try.prog w base spare held n 59 (([v0, v1, v2, v3, v4, v5, v6, v7, v8].drop 0).take (Try.prog.cellsOf 59)) = xs[0]? := hf 0 _ rfl
  have f1 : DataW.trod enc Try.prog w base spare held n 4 (([v0, v1, v2, v3, v4, v5, v6, v7, v8].drop 1).take (Try.prog.cellsOf 4)) = xs[1]? := hf 1 _ rfl
  have f2 : DataW.trod enc Try.prog w base spare held n 61 (([v0, v1, v2, v3, v4, v5, v6, v7, v8].drop 2).take (Try.prog.cellsOf 61)) = xs[2]? := hf 2 _ rfl
  have f3 : DataW.trod enc Try.prog w base spare held n 37 (([v0, v1, v2, v3, v4, v5, v6, v7, v8].drop 8).take (Try.prog.cellsOf 37)) = xs[3]? := hf 3 _ rfl
  rw [List.getElem?_eq_getElem (by omega)] at f0 f1 f2 f3
  simp only [cells59, cells4, cells61, cells37, List.drop_zero, List.drop_succ_cons, List.take_succ_cons, List.take_zero] at f0 f1 f2 f3
  obtain ⟨ss, ⟨A0, c0, k0, h0, r0⟩, w0⟩ := opens_stats enc w base spare held n _ _ f0
  obtain ⟨fo, k1, _⟩ := DataW.trod_bool Try.underlying4 f1
  obtain ⟨a, b, c, d, e, g, rfl, rfl, rfl, rfl, rfl, rfl, w1, w2, w3, w4, w5, w6⟩ := open_six enc w base spare held n _ _ _ _ _ _ _ f2
  obtain ⟨pk, ⟨A8, c8, k8, h8, r8⟩, w8⟩ := opens_ints enc w base spare held n _ _ f3
  obtain rfl := List.head_eq_of_cons_eq k0
  obtain rfl := List.head_eq_of_cons_eq k1
  obtain rfl := List.head_eq_of_cons_eq k8
  exact ⟨A0, c0, ss, fo, a, b, c, d, e, g, A8, c8, pk, rfl, h0, r0, h8, r8, w0, w1, w2, w3, w4, w5, w6, w8⟩
end Go.Proofs.Ytobfhacdljmooaa.PCodeP
