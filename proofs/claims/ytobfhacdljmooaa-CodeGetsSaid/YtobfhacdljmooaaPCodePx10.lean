-- written for this claim by wip/pr/hand.py (the kit's print, with contracts proved by hand)
import Derived.Test.YtobfhacdljmooaaPCodePx0
import Derived.Test.YtobfhacdljmooaaSq
namespace Go.Proofs.Ytobfhacdljmooaa.PCodeP
open Go.RowKit Go.Proofs.YtobfhacdljmooaaW.PrintWords Go.Proofs.YtobfhacdljmooaaW.PrintLast Go.Proofs.YtobfhacdljmooaaW.PrintMore Go.Proofs.Ytobfhacdljmooaa.Sq
attribute [local go_sem] max2_int min2_int max_two min_two max_three min_three max_four min_four   -- for this text's walks alone
set_option linter.unusedVariables false
set_option linter.unusedSimpArgs false

/-! ### trommellaw39_num: function 39 -/
def trommellaw39_num.f (a0 : Int) : Option (Int) := some a0
set_option maxHeartbeats 8000000 in
set_option maxRecDepth 100000 in
theorem trommellaw39_num.calls (a0 : Int) (r : Int) (w : World) (h : trommellaw39_num.f a0 = some r) :
    Calls Try.prog 39 #[.int .i64 a0] w fun e w' => e = .returned (.int .i64 r) ∧ Drawn0 w w' := by
  have H : (some a0) = some r := h
  clear h
  obtain rfl := Option.some.inj H
  go_enter Try.func39, Try.ntmps39
  go_wp2
  go_ret
  exact ⟨by first | rfl | (simp; done) | (simp [*]; done), by repeat (first | exact Drawn0.refl _ | apply Drawn0.step)⟩

end Go.Proofs.Ytobfhacdljmooaa.PCodeP
