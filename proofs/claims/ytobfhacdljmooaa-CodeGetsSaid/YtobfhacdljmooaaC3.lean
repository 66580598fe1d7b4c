/- Numbers as bytes: GetInt from any place on. -/
import Derived.Test.YtobfhacdljmooaaC2
namespace Go.Proofs.Ytobfhacdljmooaa.C
open Go.RowKit Go.Proofs.YtobfhacdljmooaaW.PrintWords Go.Proofs.YtobfhacdljmooaaW.PrintLast Go.Proofs.YtobfhacdljmooaaW.PrintMore Go.Proofs.Ytobfhacdljmooaa.Sq Go.Proofs.Ytobfhacdljmooaa.CM
set_option linter.unusedVariables false
set_option linter.unusedSimpArgs false
def get.f (l0 : List Int) (a1 : Int) : Option (Int × Int × Bool) := if l0.length < 1000000 then if Bytes l0 then some (getN l0 a1) else none else none
set_option maxHeartbeats 8000000 in
set_option maxRecDepth 100000 in
theorem get.calls (A0 : Option Addr) (c0 : Nat) (l0 : List Int) (a1 : Int) (r1 : Int) (r2 : Int) (r3 : Bool) (w : World) (hr0 : Kd.C (Kd.int .u8) w A0 l0.length l0) (hc0 : l0.length ≤ c0) (h : get.f l0 a1 = some (r1, r2, r3)) :
    Calls Try.prog 21 #[.slice A0 l0.length c0, .int .i64 a1] w fun e w' => e = .returned (.tuple #[.int .i64 r1, .int .i64 r2, .bool r3]) ∧ Drawn0 w w' := by
  unfold get.f at h
  by_cases hl : l0.length < 1000000
  · rw [if_pos hl] at h
    by_cases hb : Bytes l0
    · rw [if_pos hb] at h
      have h' := Option.some.inj h
      by_cases h0 : a1 < 0
      · unfold getN at h'
        rw [if_pos (.inl h0)] at h'
        obtain ⟨rfl, rfl, rfl⟩ : 0 = r1 ∧ 0 = r2 ∧ false = r3 := by cases h'; exact ⟨rfl, rfl, rfl⟩
        have c1 : decide (a1 < 0) = true := decide_eq_true h0
        clear h h' hb hr0 hc0 hl h0
        go_enter Try.func21, Try.ntmps21
        go_wp2
        go_ret3
        exact ⟨rfl, Drawn0.refl _⟩
      · by_cases h1 : (l0.length : Int) < a1
        · unfold getN at h'
          rw [if_pos (.inr h1)] at h'
          obtain ⟨rfl, rfl, rfl⟩ : 0 = r1 ∧ 0 = r2 ∧ false = r3 := by cases h'; exact ⟨rfl, rfl, rfl⟩
          have c1 : decide (a1 < 0) = false := decide_eq_false h0
          have c2 : decide ((l0.length : Int) < a1) = true := decide_eq_true h1
          clear h h' hb hr0 hc0 hl h0 h1
          go_enter Try.func21, Try.ntmps21
          go_wp2
          go_ret3
          exact ⟨rfl, Drawn0.refl _⟩
        · obtain ⟨m, rfl⟩ := Int.eq_ofNat_of_zero_le (show 0 ≤ a1 by omega)
          refine (get_in A0 c0 l0 m w hr0 hc0 hl (by omega) hb).mono ?_
          rintro e w' ⟨rfl, rfl⟩
          rw [h']
          exact ⟨rfl, Drawn0.refl _⟩
    · rw [if_neg hb] at h; cases h
  · rw [if_neg hl] at h; cases h
end Go.Proofs.Ytobfhacdljmooaa.C
