/- A slice of floats as an argument, opened. -/
import Derived.Test.YtnobckgfihlckaaFL2
import Derived.ChangeSlices
import Derived.Laws.Cover2
namespace Go.Proofs.Ytnobckgfihlckaa.FW
open Go.ChangeShapes Go.WideShapes Go.RowKit Go.Proofs.Ytnobckgfihlckaa
set_option linter.unusedVariables false
section
variable {H : Type} {enc : TypeId × Value → H} {P : Program} {w : World} {base : Nat} {spare : Nat → Bool} {held : Bool}
theorem trod_float {t : TypeId} {k : FloatKind} {fuel : Nat} {cs : List Value} {x : DataW H × List MemPlace} (ht : P.underlying t = some (.float k)) (h : DataW.trod enc P w base spare held fuel t cs = some x) : ∃ n, cs = [.float k n] ∧ x = (.lit (.float k n), []) ∧ (Lit.float k n).wf = true := by
  cases fuel with
  | zero => simp [DataW.trod] at h
  | succ n =>
    unfold DataW.trod at h
    rw [ht] at h
    split at h <;> simp_all
/-- the bits of a cell -/
def bitsOf (w : World) (a : Addr) (i : Nat) : Nat := match w.cell? (a.add i) with | some (.float .f64 b) => b | _ => 0
theorem slice_floats {t e : TypeId} {fuel : Nat} {A : Option Addr} {len cap : Nat} {x : DataW H × List MemPlace} (ht : P.underlying t = some (.slice e)) (he : P.underlying e = some (.float .f64)) (hc : P.cellsOf e = 1)
    (h : DataW.trod enc P w base spare held fuel t [.slice A len cap] = some x) : ∃ l : List Nat, l.length = len ∧ len ≤ cap ∧ FS w A l := by
  rcases DataW.trod_slice ht h with ⟨h0, _⟩ | ⟨a, len', cap', elems, rest, n, _, h0, _, hb, hl, hm, hlen, hel, hsp, hns⟩
  · simp at h0
    obtain ⟨rfl, rfl, rfl⟩ := h0
    exact ⟨[], rfl, Nat.le_refl _, ⟨fun i h1 h2 => by simp at h2; omega⟩⟩
  · simp at h0
    obtain ⟨rfl, rfl, rfl⟩ := h0
    refine ⟨(List.range len).map (bitsOf w a), by simp, hl, ⟨fun i h1 h2 => ⟨a, rfl, ?_⟩⟩⟩
    simp only [List.length_map, List.length_range] at h2
    have hi : i.toNat < len := by omega
    have h3 := hel i.toNat hi
    rw [hc, Nat.mul_one, List.getElem?_eq_getElem (by omega), Option.bind_eq_some_iff] at h3
    obtain ⟨cs', hcs, hy'⟩ := h3
    obtain ⟨m, rfl, _, hw⟩ := trod_float he hy'
    have h4 := cell_of_cells?_one hcs
    have h5 : fat ((List.range len).map (bitsOf w a)) i = m := by
      unfold fat
      rw [List.getD, List.getElem?_map, List.getElem?_range hi]
      simp [bitsOf, h4]
    rw [h5]
    refine ⟨h4, ?_⟩
    simp only [Lit.wf, decide_eq_true_eq] at hw
    exact hw
end
end Go.Proofs.Ytnobckgfihlckaa.FW
