-- written for this claim by wip/pr/hand.py (the kit's print, with contracts proved by hand)
import Derived.Test.YtobfhacdljmooaaPCodePx0
import Derived.Test.YtobfhacdljmooaaSq
import Derived.Test.YtobfhacdljmooaaPCodePx2
import Derived.Test.YtobfhacdljmooaaPCodePx4
import Derived.Test.YtobfhacdljmooaaPCodePx6
import Derived.Test.YtobfhacdljmooaaPCodePx9
import Derived.Test.YtobfhacdljmooaaPCodePx10
import Derived.Test.YtobfhacdljmooaaPCodePx14
namespace Go.Proofs.Ytobfhacdljmooaa.PCodeP
open Go.RowKit Go.Proofs.YtobfhacdljmooaaW.PrintWords Go.Proofs.YtobfhacdljmooaaW.PrintLast Go.Proofs.YtobfhacdljmooaaW.PrintMore Go.Proofs.Ytobfhacdljmooaa.Sq
attribute [local go_sem] max2_int min2_int max_two min_two max_three min_three max_four min_four   -- for this text's walks alone
set_option linter.unusedVariables false
set_option linter.unusedSimpArgs false

/-! ### trommellaw39_CodeGets: function 8 -/
def trommellaw39_CodeGets.j0 : Nat → List Int → Int → Bool → List (S87) → Bool → Int → Int → Int → Int → Int → Int → List Int → Option (Bool)
  | 0, _, _, _, _, _, _, _, _, _, _, _, _ => none
  | k + 1, x0, x6, x30, x454000, x454001, x454002, x454003, x454004, x454005, x454006, x454007, x454008 => if x30 = true then (some false) else (if x6 = 0 then ((code_Put.f k x454000 x454001 x454002 x454003 x454004 x454005 x454006 x454007 x454008).bind fun t471 => (if (strOfNums t471).toList = (strOfNums x0).toList then ((trommellaw39_live.f).bind fun t474 => (some t474)) else (some false))) else ((trommellaw39_live.f).bind fun t475 => (some t475)))
def trommellaw39_CodeGets.f (k : Nat) (l0 : List Int) : Option (Bool) := if (l0.length : Int) > 1000 then ((trommellaw39_live.f).bind fun t438 => (some t438)) else ((code_Get.f k l0).bind fun bt439 => ((trommelref39_Get.f k l0).bind fun bt454 => ((trommelref39_Same.f k bt439.1 bt439.2.1 bt439.2.2.1 bt439.2.2.2.1 bt439.2.2.2.2.1 bt439.2.2.2.2.2.1 bt439.2.2.2.2.2.2.1 bt439.2.2.2.2.2.2.2.1 bt439.2.2.2.2.2.2.2.2.1 bt454.1 bt454.2.1 bt454.2.2.1 bt454.2.2.2.1 bt454.2.2.2.2.1 bt454.2.2.2.2.2.1 bt454.2.2.2.2.2.2.1 bt454.2.2.2.2.2.2.2.1 bt454.2.2.2.2.2.2.2.2.1).bind fun t469 => (if t469 = true then ((trommellaw39_num.f bt439.2.2.2.2.2.2.2.2.2).bind fun t470 => (trommellaw39_CodeGets.j0 k l0 bt454.2.2.2.2.2.2.2.2.2 (t470 != bt454.2.2.2.2.2.2.2.2.2) bt439.1 bt439.2.1 bt439.2.2.1 bt439.2.2.2.1 bt439.2.2.2.2.1 bt439.2.2.2.2.2.1 bt439.2.2.2.2.2.2.1 bt439.2.2.2.2.2.2.2.1 bt439.2.2.2.2.2.2.2.2.1)) else (trommellaw39_CodeGets.j0 k l0 bt454.2.2.2.2.2.2.2.2.2 true bt439.1 bt439.2.1 bt439.2.2.1 bt439.2.2.2.1 bt439.2.2.2.2.1 bt439.2.2.2.2.2.1 bt439.2.2.2.2.2.2.1 bt439.2.2.2.2.2.2.2.1 bt439.2.2.2.2.2.2.2.2.1)))))
theorem trommellaw39_CodeGets.mono_l : ∀ k, (∀ y0 y1 y2 y3 y4 y5 y6 y7 y8 y9 y10 y11, LeO (trommellaw39_CodeGets.j0 k y0 y1 y2 y3 y4 y5 y6 y7 y8 y9 y10 y11) (trommellaw39_CodeGets.j0 (k + 1) y0 y1 y2 y3 y4 y5 y6 y7 y8 y9 y10 y11))
  | 0 => fun _ _ _ _ _ _ _ _ _ _ _ _ r h => by simp [trommellaw39_CodeGets.j0] at h
  | k + 1 => by
    have ih0 := trommellaw39_CodeGets.mono_l k
    · intro y0 y1 y2 y3 y4 y5 y6 y7 y8 y9 y10 y11
      unfold trommellaw39_CodeGets.j0
      repeat' first
      | (with_reducible exact ih0 _ _ _ _ _ _ _ _ _ _ _ _)
      | (with_reducible exact code_Get.mono _ _)
      | (with_reducible exact code_Put.mono _ _ _ _ _ _ _ _ _ _)
      | (with_reducible exact trommelref39_Get.mono _ _)
      | (with_reducible exact trommelref39_Same.mono _ _ _ _ _ _ _ _ _ _ _ _ _ _ _ _ _ _ _)
      | (with_reducible exact LeO.refl _)
      | (with_reducible exact LeO.none _)
      | (with_reducible refine LeO.ite ?_ ?_)
      | (with_reducible refine LeO.bind ?_ (fun _ => ?_))
      | exact ih0 _ _ _ _ _ _ _ _ _ _ _ _
      | exact code_Get.mono _ _
      | exact code_Put.mono _ _ _ _ _ _ _ _ _ _
      | exact trommelref39_Get.mono _ _
      | exact trommelref39_Same.mono _ _ _ _ _ _ _ _ _ _ _ _ _ _ _ _ _ _ _
      | exact LeO.none _
      | refine LeO.ite ?_ ?_
      | refine LeO.bind ?_ (fun _ => ?_)
theorem trommellaw39_CodeGets.mono : ∀ a0 k, LeO (trommellaw39_CodeGets.f k a0) (trommellaw39_CodeGets.f (k + 1) a0) := by
  intro a0 k
  have ih0 := trommellaw39_CodeGets.mono_l k
  unfold trommellaw39_CodeGets.f
  repeat' first
      | (with_reducible exact ih0 _ _ _ _ _ _ _ _ _ _ _ _)
      | (with_reducible exact code_Get.mono _ _)
      | (with_reducible exact code_Put.mono _ _ _ _ _ _ _ _ _ _)
      | (with_reducible exact trommelref39_Get.mono _ _)
      | (with_reducible exact trommelref39_Same.mono _ _ _ _ _ _ _ _ _ _ _ _ _ _ _ _ _ _ _)
      | (with_reducible exact LeO.refl _)
      | (with_reducible exact LeO.none _)
      | (with_reducible refine LeO.ite ?_ ?_)
      | (with_reducible refine LeO.bind ?_ (fun _ => ?_))
      | exact ih0 _ _ _ _ _ _ _ _ _ _ _ _
      | exact code_Get.mono _ _
      | exact code_Put.mono _ _ _ _ _ _ _ _ _ _
      | exact trommelref39_Get.mono _ _
      | exact trommelref39_Same.mono _ _ _ _ _ _ _ _ _ _ _ _ _ _ _ _ _ _ _
      | exact LeO.none _
      | refine LeO.ite ?_ ?_
      | refine LeO.bind ?_ (fun _ => ?_)
def trommellaw39_CodeGets.T7 : Bool × List (List Nat × List Nat) := (true, [([], []), ([0], [0]), ([1], [1]), ([2], [2]), ([3, 2, 2], [2, 3]), ([4, 2], [2, 4]), ([2], [2]), ([6, 2], [2, 6]), ([5, 7, 2], [2, 5, 7]), ([2, 8], [2, 8]), ([9, 4], [9]), ([10, 10], [10]), ([10, 11], [10, 11]), ([12, 11, 0, 1, 2, 3, 4, 5, 6, 7, 8, 9, 10, 11, 12], [12])])
def trommellaw39_CodeGets.B7 : List Nat := [0, 1, 3, 7, 15, 31, 7, 71, 255, 511, 1023, 2047, 4095, 8191]
theorem trommellaw39_CodeGets.tab7 : rtab .any (opsOf Try.f8 7) = trommellaw39_CodeGets.T7 := by kernel_rfl
theorem trommellaw39_CodeGets.bits7 : waitsOk trommellaw39_CodeGets.T7.2 trommellaw39_CodeGets.B7 = true := by kernel_rfl
set_option maxHeartbeats 8000000 in
set_option maxRecDepth 100000 in
theorem trommellaw39_CodeGets.calls (k : Nat) (A0 : Option Addr) (c0 : Nat) (l0 : List Int) (r : Bool) (w : World) (hr0 : Kd.C (Kd.int .u8) w A0 l0.length l0) (hc0 : l0.length ≤ c0) (h : trommellaw39_CodeGets.f k l0 = some r) :
    Calls Try.prog 8 #[.slice A0 l0.length c0] w fun e w' => e = .returned (.bool r) ∧ Below w.heap.size w w' := by
  have hu63 := Try.underlying63
  have HR0 := Aside0.mk hr0
  have HC0 := Aside0.mk hc0
  clear hr0 hc0
  have HB := Aside0.mk (Below.refl w.heap.size w)
  have H : (if (l0.length : Int) > 1000 then ((trommellaw39_live.f).bind fun t438 => (some t438)) else ((code_Get.f k l0).bind fun bt439 => ((trommelref39_Get.f k l0).bind fun bt454 => ((trommelref39_Same.f k bt439.1 bt439.2.1 bt439.2.2.1 bt439.2.2.2.1 bt439.2.2.2.2.1 bt439.2.2.2.2.2.1 bt439.2.2.2.2.2.2.1 bt439.2.2.2.2.2.2.2.1 bt439.2.2.2.2.2.2.2.2.1 bt454.1 bt454.2.1 bt454.2.2.1 bt454.2.2.2.1 bt454.2.2.2.2.1 bt454.2.2.2.2.2.1 bt454.2.2.2.2.2.2.1 bt454.2.2.2.2.2.2.2.1 bt454.2.2.2.2.2.2.2.2.1).bind fun t469 => (if t469 = true then ((trommellaw39_num.f bt439.2.2.2.2.2.2.2.2.2).bind fun t470 => (trommellaw39_CodeGets.j0 k l0 bt454.2.2.2.2.2.2.2.2.2 (t470 != bt454.2.2.2.2.2.2.2.2.2) bt439.1 bt439.2.1 bt439.2.2.1 bt439.2.2.2.1 bt439.2.2.2.2.1 bt439.2.2.2.2.2.1 bt439.2.2.2.2.2.2.1 bt439.2.2.2.2.2.2.2.1 bt439.2.2.2.2.2.2.2.2.1)) else (trommellaw39_CodeGets.j0 k l0 bt454.2.2.2.2.2.2.2.2.2 true bt439.1 bt439.2.1 bt439.2.2.1 bt439.2.2.2.1 bt439.2.2.2.2.1 bt439.2.2.2.2.2.1 bt439.2.2.2.2.2.2.1 bt439.2.2.2.2.2.2.2.1 bt439.2.2.2.2.2.2.2.2.1)))))) = some r := h
  clear h
  by_cases c2 : (l0.length : Int) > 1000
  · rw [if_pos c2] at H
    have c2b0 : decide (1000 < (l0.length : Int)) = true := decide_eq_true c2
    have c2b1 : decide (1000 < l0.length) = true := decide_eq_true (by omega)
    clear c2
    replace H := Option.bind_eq_some_iff.mp H
    obtain ⟨t438, A30, H⟩ := H
    replace H : (some t438) = some r := H
    have A3 := Aside0.mk A30
    clear A30
    obtain rfl := Option.some.inj H
    go_enter Try.func8, Try.ntmps8
    go_wp2_with (first | ((with_reducible refine gate_callee (f := 16) rfl ?_); refine goesL_ (some 10) rfl rfl Try.func16 (by kernel_rfl) rfl #[] rfl (by (try simp only [List.map_toArray, List.map_cons, List.map_nil]); first | done | rfl | (simp only [List.length_drop, List.length_take]; rfl)) ?_; (with_reducible refine (trommellaw39_live.calls  t438 _ A3.out).mono ?_); rintro e w4 ⟨rfl, hb⟩; refine ⟨_, rfl, ?_⟩; have n0_ := Lb HB hb; clear HB; have HB := n0_; clear n0_; (try clear hb); (try clear hb2); (try clear hk); (try clear hi)))
    go_ret
    exact ⟨by first | rfl | (simp [errW_none, errW_some] <;> rfl) | (simp [*, errW_none, errW_some] <;> rfl), by repeat (first | (with_reducible first | exact HB.out | apply below_alloc | apply pw_below_drewN | apply below_drew1) | exact HB.out)⟩
  · rw [if_neg c2] at H
    have c2b0 : decide (1000 < (l0.length : Int)) = false := decide_eq_false c2
    have c2b1 : decide (1000 < l0.length) = false := decide_eq_false (by omega)
    clear c2
    replace H := Option.bind_eq_some_iff.mp H
    obtain ⟨⟨t439, t442, t443, t444, t445, t446, t447, t448, t449, t452⟩, A50, H⟩ := H
    replace H : ((trommelref39_Get.f k l0).bind fun bt454 => ((trommelref39_Same.f k t439 t442 t443 t444 t445 t446 t447 t448 t449 bt454.1 bt454.2.1 bt454.2.2.1 bt454.2.2.2.1 bt454.2.2.2.2.1 bt454.2.2.2.2.2.1 bt454.2.2.2.2.2.2.1 bt454.2.2.2.2.2.2.2.1 bt454.2.2.2.2.2.2.2.2.1).bind fun t469 => (if t469 = true then ((trommellaw39_num.f t452).bind fun t470 => (trommellaw39_CodeGets.j0 k l0 bt454.2.2.2.2.2.2.2.2.2 (t470 != bt454.2.2.2.2.2.2.2.2.2) t439 t442 t443 t444 t445 t446 t447 t448 t449)) else (trommellaw39_CodeGets.j0 k l0 bt454.2.2.2.2.2.2.2.2.2 true t439 t442 t443 t444 t445 t446 t447 t448 t449)))) = some r := H
    have A5 := Aside0.mk A50
    clear A50
    replace H := Option.bind_eq_some_iff.mp H
    obtain ⟨⟨t454, t457, t458, t459, t460, t461, t462, t463, t464, t467⟩, A60, H⟩ := H
    replace H : ((trommelref39_Same.f k t439 t442 t443 t444 t445 t446 t447 t448 t449 t454 t457 t458 t459 t460 t461 t462 t463 t464).bind fun t469 => (if t469 = true then ((trommellaw39_num.f t452).bind fun t470 => (trommellaw39_CodeGets.j0 k l0 t467 (t470 != t467) t439 t442 t443 t444 t445 t446 t447 t448 t449)) else (trommellaw39_CodeGets.j0 k l0 t467 true t439 t442 t443 t444 t445 t446 t447 t448 t449))) = some r := H
    have A6 := Aside0.mk A60
    clear A60
    have HC7 := Aside0.mk H
    clear H
    go_enter Try.func8, Try.ntmps8
    go_upto_region 5 with (first | ((with_reducible refine gate_callee (f := 36) rfl ?_); refine goesL_ (some 13) rfl rfl Try.func36 (by kernel_rfl) rfl #[.slice A0 l0.length c0] rfl (by (try simp only [List.map_toArray, List.map_cons, List.map_nil]); first | done | rfl | (simp only [List.length_drop, List.length_take]; rfl)) ?_; (with_reducible refine (code_Get.calls k _ _ l0 t439 t442 t443 t444 t445 t446 t447 t448 t449 t452 _ ?side1 ?side2 A5.out).mono ?_); (case side1 => repeat (first | exact HR0.out | (with_reducible refine Kd.C_alloc ?_ _) | (with_reducible refine Kd.C_drewN ?_ _) | (with_reducible refine Kd.C_drew ?_))); (case side2 => exact HC0.out); rintro e w8 ⟨v440, v450, rfl, ho0, ho1, hb⟩; refine ⟨_, rfl, ?_⟩; have n0_ := Aside0.mk (Kd.R_lower ho0 (Lz HB)); have n1_ := Aside0.mk (Kd.R_lower ho1 (Lz HB)); have n2_ := Lb HB hb; clear HB; have HO441 := n0_; have HO451 := n1_; have HB := n2_; clear n0_ n1_ n2_; (try clear hb); (try clear hb2); (try clear hk); (try clear hi); (try clear ho0); (try clear ho1)) | ((with_reducible refine gate_dst (N := 3) rfl ?_); refine box_event ?hg (N := 3) ?hd (cs := #[.slice none 0 0, .bool false, .int .i64 0, .int .i64 0, .int .i64 0, .int .i64 0, .int .i64 0, .int .i64 0, .slice none 0 0]) (t := 63) ?hr ?_; (case hd => rfl); (case hg => rfl); (case hr => first | (go_simp; done) | (go_simp; rfl)); intro gb453 hg w9 hbox hb; have n0_ := Rb HO441 hb; have n1_ := Rb HO451 hb; have n2_ := Lb HB hb; have n3_ := Aside0.mk (hbox); have n4_ := Aside0.mk ((by rw [hg]; exact (Lz HB) : w.heap.size ≤ gb453)); have n5_ := Aside0.mk ((by rw [hg]; exact (Lz HB) : w.heap.size ≤ gb453)); clear HO441 HO451 HB; have HO441 := n0_; have HO451 := n1_; have HB := n2_; have BK453 := n3_; have GW453 := n4_; have GE453 := n5_; clear n0_ n1_ n2_ n3_ n4_ n5_; clear hb hbox hg; obtain ⟨Ao10, co10, eo10⟩ := Kd.R_slice HO441.out; subst eo10; have hcz11_0 : w9.cell? ⟨gb453, 0, none⟩ = some (.slice none 0 0) := (blk_cell BK453.out 0).trans rfl; have hcz11_1 : w9.cell? ⟨gb453, 1, none⟩ = some (.bool false) := (blk_cell BK453.out 1).trans rfl; have hcz11_2 : w9.cell? ⟨gb453, 2, none⟩ = some (.int .i64 0) := (blk_cell BK453.out 2).trans rfl; have hcz11_3 : w9.cell? ⟨gb453, 3, none⟩ = some (.int .i64 0) := (blk_cell BK453.out 3).trans rfl; have hcz11_4 : w9.cell? ⟨gb453, 4, none⟩ = some (.int .i64 0) := (blk_cell BK453.out 4).trans rfl; have hcz11_5 : w9.cell? ⟨gb453, 5, none⟩ = some (.int .i64 0) := (blk_cell BK453.out 5).trans rfl; have hcz11_6 : w9.cell? ⟨gb453, 6, none⟩ = some (.int .i64 0) := (blk_cell BK453.out 6).trans rfl; have hcz11_7 : w9.cell? ⟨gb453, 7, none⟩ = some (.int .i64 0) := (blk_cell BK453.out 7).trans rfl; have hcz11_8 : w9.cell? ⟨gb453, 8, none⟩ = some (.slice none 0 0) := (blk_cell BK453.out 8).trans rfl; have hfz11_0 := blk_frozen BK453.out 0; have hfz11_1 := blk_frozen BK453.out 1; have hfz11_2 := blk_frozen BK453.out 2; have hfz11_3 := blk_frozen BK453.out 3; have hfz11_4 := blk_frozen BK453.out 4; have hfz11_5 := blk_frozen BK453.out 5; have hfz11_6 := blk_frozen BK453.out 6; have hfz11_7 := blk_frozen BK453.out 7; have hfz11_8 := blk_frozen BK453.out 8; obtain ⟨Ao12, co12, eo12⟩ := Kd.R_slice HO451.out; subst eo12) | ((with_reducible refine gate_callee (f := 40) rfl ?_); refine goesL_ (some 18) rfl rfl Try.func40 (by kernel_rfl) rfl #[.slice A0 l0.length c0] rfl (by (try simp only [List.map_toArray, List.map_cons, List.map_nil]); first | done | rfl | (simp only [List.length_drop, List.length_take]; rfl)) ?_; (with_reducible refine (trommelref39_Get.calls k _ _ l0 t454 t457 t458 t459 t460 t461 t462 t463 t464 t467 _ ?side1 ?side2 A6.out).mono ?_); (case side1 => exact Kd.C_below HR0.out (Ls HB)); (case side2 => exact HC0.out); rintro e w13 ⟨v455, v465, rfl, ho0, ho1, hb⟩; refine ⟨_, rfl, ?_⟩; have n0_ := Aside0.mk (Kd.R_mono (Kd.R_told (Kd.R_told (Kd.R_old (Rs ((Kd.R_mono (Kd.R_far (p := ⟨gb453, 8, none⟩) (Kd.R_far (p := ⟨gb453, 7, none⟩) (Kd.R_far (p := ⟨gb453, 6, none⟩) (Kd.R_far (p := ⟨gb453, 5, none⟩) (Kd.R_far (p := ⟨gb453, 4, none⟩) (Kd.R_far (p := ⟨gb453, 3, none⟩) (Kd.R_far (p := ⟨gb453, 2, none⟩) (Kd.R_far (p := ⟨gb453, 1, none⟩) (Kd.R_far (p := ⟨gb453, 0, none⟩) (Kd.R_types HO441.out BK453.out (by decide)) (fun _ hk => hk.2) (.slice Ao10 t439.length co10)) (fun _ hk => hk.2) (.bool t442)) (fun _ hk => hk.2) (.int .i64 t443)) (fun _ hk => hk.2) (.int .i64 t444)) (fun _ hk => hk.2) (.int .i64 t445)) (fun _ hk => hk.2) (.int .i64 t446)) (fun _ hk => hk.2) (.int .i64 t447)) (fun _ hk => hk.2) (.int .i64 t448)) (fun _ hk => hk.2) (.slice Ao12 t449.length co12)) (fun _ h_ => h_.1)))) hb) (Kd.R_base ho0)) (Kd.R_base ho1)) (fun _ h_ => h_.1)); have n1_ := Aside0.mk (Kd.R_elder' (Rs ((Kd.R_mono (Kd.R_far (p := ⟨gb453, 8, none⟩) (Kd.R_far (p := ⟨gb453, 7, none⟩) (Kd.R_far (p := ⟨gb453, 6, none⟩) (Kd.R_far (p := ⟨gb453, 5, none⟩) (Kd.R_far (p := ⟨gb453, 4, none⟩) (Kd.R_far (p := ⟨gb453, 3, none⟩) (Kd.R_far (p := ⟨gb453, 2, none⟩) (Kd.R_far (p := ⟨gb453, 1, none⟩) (Kd.R_far (p := ⟨gb453, 0, none⟩) (Kd.R_types HO451.out BK453.out (by decide)) (fun _ hk => hk.2) (.slice Ao10 t439.length co10)) (fun _ hk => hk.2) (.bool t442)) (fun _ hk => hk.2) (.int .i64 t443)) (fun _ hk => hk.2) (.int .i64 t444)) (fun _ hk => hk.2) (.int .i64 t445)) (fun _ hk => hk.2) (.int .i64 t446)) (fun _ hk => hk.2) (.int .i64 t447)) (fun _ hk => hk.2) (.int .i64 t448)) (fun _ hk => hk.2) (.slice Ao12 t449.length co12)) (fun _ h_ => h_.1)))) (Kd.R_base ho1) hb); have n2_ := Aside0.mk (Kd.R_lower (Kd.R_new' (Kd.R_new' ho0 (Kd.R_lt (Rs ((Kd.R_mono (Kd.R_far (p := ⟨gb453, 8, none⟩) (Kd.R_far (p := ⟨gb453, 7, none⟩) (Kd.R_far (p := ⟨gb453, 6, none⟩) (Kd.R_far (p := ⟨gb453, 5, none⟩) (Kd.R_far (p := ⟨gb453, 4, none⟩) (Kd.R_far (p := ⟨gb453, 3, none⟩) (Kd.R_far (p := ⟨gb453, 2, none⟩) (Kd.R_far (p := ⟨gb453, 1, none⟩) (Kd.R_far (p := ⟨gb453, 0, none⟩) (Kd.R_types HO441.out BK453.out (by decide)) (fun _ hk => hk.2) (.slice Ao10 t439.length co10)) (fun _ hk => hk.2) (.bool t442)) (fun _ hk => hk.2) (.int .i64 t443)) (fun _ hk => hk.2) (.int .i64 t444)) (fun _ hk => hk.2) (.int .i64 t445)) (fun _ hk => hk.2) (.int .i64 t446)) (fun _ hk => hk.2) (.int .i64 t447)) (fun _ hk => hk.2) (.int .i64 t448)) (fun _ hk => hk.2) (.slice Ao12 t449.length co12)) (fun _ h_ => h_.1)))))) (Kd.R_lt (Rs ((Kd.R_mono (Kd.R_far (p := ⟨gb453, 8, none⟩) (Kd.R_far (p := ⟨gb453, 7, none⟩) (Kd.R_far (p := ⟨gb453, 6, none⟩) (Kd.R_far (p := ⟨gb453, 5, none⟩) (Kd.R_far (p := ⟨gb453, 4, none⟩) (Kd.R_far (p := ⟨gb453, 3, none⟩) (Kd.R_far (p := ⟨gb453, 2, none⟩) (Kd.R_far (p := ⟨gb453, 1, none⟩) (Kd.R_far (p := ⟨gb453, 0, none⟩) (Kd.R_types HO451.out BK453.out (by decide)) (fun _ hk => hk.2) (.slice Ao10 t439.length co10)) (fun _ hk => hk.2) (.bool t442)) (fun _ hk => hk.2) (.int .i64 t443)) (fun _ hk => hk.2) (.int .i64 t444)) (fun _ hk => hk.2) (.int .i64 t445)) (fun _ hk => hk.2) (.int .i64 t446)) (fun _ hk => hk.2) (.int .i64 t447)) (fun _ hk => hk.2) (.int .i64 t448)) (fun _ hk => hk.2) (.slice Ao12 t449.length co12)) (fun _ h_ => h_.1)))))) (Lz HB)); have n3_ := Aside0.mk (Kd.R_lower (Kd.R_new' ho1 (Kd.R_lt (Rs ((Kd.R_mono (Kd.R_far (p := ⟨gb453, 8, none⟩) (Kd.R_far (p := ⟨gb453, 7, none⟩) (Kd.R_far (p := ⟨gb453, 6, none⟩) (Kd.R_far (p := ⟨gb453, 5, none⟩) (Kd.R_far (p := ⟨gb453, 4, none⟩) (Kd.R_far (p := ⟨gb453, 3, none⟩) (Kd.R_far (p := ⟨gb453, 2, none⟩) (Kd.R_far (p := ⟨gb453, 1, none⟩) (Kd.R_far (p := ⟨gb453, 0, none⟩) (Kd.R_types HO451.out BK453.out (by decide)) (fun _ hk => hk.2) (.slice Ao10 t439.length co10)) (fun _ hk => hk.2) (.bool t442)) (fun _ hk => hk.2) (.int .i64 t443)) (fun _ hk => hk.2) (.int .i64 t444)) (fun _ hk => hk.2) (.int .i64 t445)) (fun _ hk => hk.2) (.int .i64 t446)) (fun _ hk => hk.2) (.int .i64 t447)) (fun _ hk => hk.2) (.int .i64 t448)) (fun _ hk => hk.2) (.slice Ao12 t449.length co12)) (fun _ h_ => h_.1)))))) (Lz HB)); have n4_ := Aside0.mk (blk_below (g := gb453) (o := .cells #[.slice Ao10 t439.length co10, .bool t442, .int .i64 t443, .int .i64 t444, .int .i64 t445, .int .i64 t446, .int .i64 t447, .int .i64 t448, .slice Ao12 t449.length co12] 63 (0, 0)) (by (with_reducible repeat (first | refine blk_drewN ?_ _ | refine blk_drew ?_ | refine blk_alloc ?_ _)); refine blk_put (cs := #[.slice Ao10 t439.length co10, .bool t442, .int .i64 t443, .int .i64 t444, .int .i64 t445, .int .i64 t446, .int .i64 t447, .int .i64 t448, .slice none 0 0]) ?_ 8 _ rfl; (with_reducible repeat (first | refine blk_drewN ?_ _ | refine blk_drew ?_ | refine blk_alloc ?_ _)); refine blk_put (cs := #[.slice Ao10 t439.length co10, .bool t442, .int .i64 t443, .int .i64 t444, .int .i64 t445, .int .i64 t446, .int .i64 t447, .int .i64 0, .slice none 0 0]) ?_ 7 _ rfl; (with_reducible repeat (first | refine blk_drewN ?_ _ | refine blk_drew ?_ | refine blk_alloc ?_ _)); refine blk_put (cs := #[.slice Ao10 t439.length co10, .bool t442, .int .i64 t443, .int .i64 t444, .int .i64 t445, .int .i64 t446, .int .i64 0, .int .i64 0, .slice none 0 0]) ?_ 6 _ rfl; (with_reducible repeat (first | refine blk_drewN ?_ _ | refine blk_drew ?_ | refine blk_alloc ?_ _)); refine blk_put (cs := #[.slice Ao10 t439.length co10, .bool t442, .int .i64 t443, .int .i64 t444, .int .i64 t445, .int .i64 0, .int .i64 0, .int .i64 0, .slice none 0 0]) ?_ 5 _ rfl; (with_reducible repeat (first | refine blk_drewN ?_ _ | refine blk_drew ?_ | refine blk_alloc ?_ _)); refine blk_put (cs := #[.slice Ao10 t439.length co10, .bool t442, .int .i64 t443, .int .i64 t444, .int .i64 0, .int .i64 0, .int .i64 0, .int .i64 0, .slice none 0 0]) ?_ 4 _ rfl; (with_reducible repeat (first | refine blk_drewN ?_ _ | refine blk_drew ?_ | refine blk_alloc ?_ _)); refine blk_put (cs := #[.slice Ao10 t439.length co10, .bool t442, .int .i64 t443, .int .i64 0, .int .i64 0, .int .i64 0, .int .i64 0, .int .i64 0, .slice none 0 0]) ?_ 3 _ rfl; (with_reducible repeat (first | refine blk_drewN ?_ _ | refine blk_drew ?_ | refine blk_alloc ?_ _)); refine blk_put (cs := #[.slice Ao10 t439.length co10, .bool t442, .int .i64 0, .int .i64 0, .int .i64 0, .int .i64 0, .int .i64 0, .int .i64 0, .slice none 0 0]) ?_ 2 _ rfl; (with_reducible repeat (first | refine blk_drewN ?_ _ | refine blk_drew ?_ | refine blk_alloc ?_ _)); refine blk_put (cs := #[.slice Ao10 t439.length co10, .bool false, .int .i64 0, .int .i64 0, .int .i64 0, .int .i64 0, .int .i64 0, .int .i64 0, .slice none 0 0]) ?_ 1 _ rfl; (with_reducible repeat (first | refine blk_drewN ?_ _ | refine blk_drew ?_ | refine blk_alloc ?_ _)); refine blk_put (cs := #[.slice none 0 0, .bool false, .int .i64 0, .int .i64 0, .int .i64 0, .int .i64 0, .int .i64 0, .int .i64 0, .slice none 0 0]) ?_ 0 _ rfl; (with_reducible repeat (first | refine blk_drewN ?_ _ | refine blk_drew ?_ | refine blk_alloc ?_ _)); exact BK453.out) hb); have n5_ := Lb HB hb; clear HO441 HO451 BK453 HB; have HO441 := n0_; have HO451 := n1_; have HO456 := n2_; have HO466 := n3_; have BK453 := n4_; have HB := n5_; clear n0_ n1_ n2_ n3_ n4_ n5_; (try clear hb); (try clear hb2); (try clear hk); (try clear hi); (try clear ho0); (try clear ho1)) | ((with_reducible refine gate_dst (N := 5) rfl ?_); refine box_event ?hg (N := 5) ?hd (cs := #[.slice none 0 0, .bool false, .int .i64 0, .int .i64 0, .int .i64 0, .int .i64 0, .int .i64 0, .int .i64 0, .slice none 0 0]) (t := 63) ?hr ?_; (case hd => rfl); (case hg => rfl); (case hr => first | (go_simp; done) | (go_simp; rfl)); intro gb468 hg w14 hbox hb; have n0_ := Rb HO441 hb; have n1_ := Rb HO451 hb; have n2_ := Rb HO456 hb; have n3_ := Rb HO466 hb; have n4_ := Bb BK453 hb; have n5_ := Lb HB hb; have n6_ := Aside0.mk (hbox); have n7_ := Aside0.mk ((by rw [hg]; exact (Lz HB) : w.heap.size ≤ gb468)); have n8_ := Aside0.mk ((by rw [hg]; exact (Lz HB) : w.heap.size ≤ gb468)); have n9_ := Aside0.mk ((by rw [hg]; exact Nat.ne_of_lt (blk_lt (g := gb453) (o := .cells #[.slice Ao10 t439.length co10, .bool t442, .int .i64 t443, .int .i64 t444, .int .i64 t445, .int .i64 t446, .int .i64 t447, .int .i64 t448, .slice Ao12 t449.length co12] 63 (0, 0)) (Bs BK453.out)) : gb453 ≠ gb468)); have n10_ := Aside0.mk ((by rw [hg]; exact Nat.ne_of_gt (blk_lt (g := gb453) (o := .cells #[.slice Ao10 t439.length co10, .bool t442, .int .i64 t443, .int .i64 t444, .int .i64 t445, .int .i64 t446, .int .i64 t447, .int .i64 t448, .slice Ao12 t449.length co12] 63 (0, 0)) (Bs BK453.out)) : gb468 ≠ gb453)); clear HO441 HO451 HO456 HO466 BK453 HB; have HO441 := n0_; have HO451 := n1_; have HO456 := n2_; have HO466 := n3_; have BK453 := n4_; have HB := n5_; have BK468 := n6_; have GW468 := n7_; have GE468 := n8_; have NB453_468 := n9_; have NB468_453 := n10_; clear n0_ n1_ n2_ n3_ n4_ n5_ n6_ n7_ n8_ n9_ n10_; clear hb hbox hg; obtain ⟨Ao15, co15, eo15⟩ := Kd.R_slice HO456.out; subst eo15; have hnb16 := NB468_453.out; have hnc16 := NB453_468.out; have hcz17_0 : w14.cell? ⟨gb468, 0, none⟩ = some (.slice none 0 0) := (blk_cell BK468.out 0).trans rfl; have hcz17_1 : w14.cell? ⟨gb468, 1, none⟩ = some (.bool false) := (blk_cell BK468.out 1).trans rfl; have hcz17_2 : w14.cell? ⟨gb468, 2, none⟩ = some (.int .i64 0) := (blk_cell BK468.out 2).trans rfl; have hcz17_3 : w14.cell? ⟨gb468, 3, none⟩ = some (.int .i64 0) := (blk_cell BK468.out 3).trans rfl; have hcz17_4 : w14.cell? ⟨gb468, 4, none⟩ = some (.int .i64 0) := (blk_cell BK468.out 4).trans rfl; have hcz17_5 : w14.cell? ⟨gb468, 5, none⟩ = some (.int .i64 0) := (blk_cell BK468.out 5).trans rfl; have hcz17_6 : w14.cell? ⟨gb468, 6, none⟩ = some (.int .i64 0) := (blk_cell BK468.out 6).trans rfl; have hcz17_7 : w14.cell? ⟨gb468, 7, none⟩ = some (.int .i64 0) := (blk_cell BK468.out 7).trans rfl; have hcz17_8 : w14.cell? ⟨gb468, 8, none⟩ = some (.slice none 0 0) := (blk_cell BK468.out 8).trans rfl; have hfz17_0 := blk_frozen BK468.out 0; have hfz17_1 := blk_frozen BK468.out 1; have hfz17_2 := blk_frozen BK468.out 2; have hfz17_3 := blk_frozen BK468.out 3; have hfz17_4 := blk_frozen BK468.out 4; have hfz17_5 := blk_frozen BK468.out 5; have hfz17_6 := blk_frozen BK468.out 6; have hfz17_7 := blk_frozen BK468.out 7; have hfz17_8 := blk_frozen BK468.out 8; obtain ⟨Ao18, co18, eo18⟩ := Kd.R_slice HO466.out; subst eo18))
    (try simp only [Act.put, List.setIfInBounds_toArray, List.set_cons_zero, List.set_cons_succ])
    go_cut [30] (fun v30 wc => ∃ (kq : Nat) (x30_6 : Bool), v30 = .bool x30_6 ∧ Aside0 (trommellaw39_CodeGets.j0 kq l0 t467 x30_6 t439 t442 t443 t444 t445 t446 t447 t448 t449 = some r) ∧ Aside0 (kq ≤ k) ∧ Aside0 (Kd.R k87 87 wc w.heap.size (fun k_ => some k_ ≠ ((.slice Ao12 t449.length co12) : Value).ownBlock ∧ some k_ ≠ ((.slice Ao15 t454.length co15) : Value).ownBlock ∧ some k_ ≠ ((.slice Ao18 t464.length co18) : Value).ownBlock) (.slice Ao10 t439.length co10) t439) ∧ Aside0 (Kd.R (Kd.int .i64) 3 wc w.heap.size (fun k_ => some k_ ≠ ((.slice Ao18 t464.length co18) : Value).ownBlock) (.slice Ao12 t449.length co12) t449) ∧ Aside0 (Kd.R k87 87 wc w.heap.size (fun k_ => some k_ ≠ ((.slice Ao10 t439.length co10) : Value).ownBlock ∧ some k_ ≠ ((.slice Ao12 t449.length co12) : Value).ownBlock ∧ some k_ ≠ ((.slice Ao18 t464.length co18) : Value).ownBlock) (.slice Ao15 t454.length co15) t454) ∧ Aside0 (Kd.R (Kd.int .i64) 3 wc w.heap.size (fun k_ => some k_ ≠ ((.slice Ao12 t449.length co12) : Value).ownBlock) (.slice Ao18 t464.length co18) t464) ∧ Aside0 (wc.heap[gb453]? = some (.cells #[(.slice Ao10 t439.length co10), .bool t442, .int .i64 t443, .int .i64 t444, .int .i64 t445, .int .i64 t446, .int .i64 t447, .int .i64 t448, (.slice Ao12 t449.length co12)] 63 (0, 0))) ∧ Aside0 (wc.heap[gb468]? = some (.cells #[(.slice Ao15 t454.length co15), .bool t457, .int .i64 t458, .int .i64 t459, .int .i64 t460, .int .i64 t461, .int .i64 t462, .int .i64 t463, (.slice Ao18 t464.length co18)] 63 (0, 0))) ∧ Aside0 (Below w.heap.size w wc))
    case first =>
      have H := HC7.out
      clear HC7
      replace H := Option.bind_eq_some_iff.mp H
      obtain ⟨t469, A190, H⟩ := H
      replace H : (if t469 = true then ((trommellaw39_num.f t452).bind fun t470 => (trommellaw39_CodeGets.j0 k l0 t467 (t470 != t467) t439 t442 t443 t444 t445 t446 t447 t448 t449)) else (trommellaw39_CodeGets.j0 k l0 t467 true t439 t442 t443 t444 t445 t446 t447 t448 t449)) = some r := H
      have A19 := Aside0.mk A190
      clear A190
      by_cases c20 : t469 = true
      · subst c20
        have H1 : ((trommellaw39_num.f t452).bind fun t470 => (trommellaw39_CodeGets.j0 k l0 t467 (t470 != t467) t439 t442 t443 t444 t445 t446 t447 t448 t449)) = some r := by rw [if_pos rfl] at H; exact H
        clear H
        have H := H1
        clear H1
        replace H := Option.bind_eq_some_iff.mp H
        obtain ⟨t470, A210, H⟩ := H
        replace H : (trommellaw39_CodeGets.j0 k l0 t467 (t470 != t467) t439 t442 t443 t444 t445 t446 t447 t448 t449) = some r := H
        have A21 := Aside0.mk A210
        clear A210
        have H' := Aside0.mk H
        clear H
        have hnb22 := NB453_468.out
        have hnc22 := NB468_453.out
        have hcz23_0 : w14.cell? ⟨gb453, 0, none⟩ = some (.slice Ao10 t439.length co10) := (blk_cell BK453.out 0).trans rfl
        have hcz23_1 : w14.cell? ⟨gb453, 1, none⟩ = some (.bool t442) := (blk_cell BK453.out 1).trans rfl
        have hcz23_2 : w14.cell? ⟨gb453, 2, none⟩ = some (.int .i64 t443) := (blk_cell BK453.out 2).trans rfl
        have hcz23_3 : w14.cell? ⟨gb453, 3, none⟩ = some (.int .i64 t444) := (blk_cell BK453.out 3).trans rfl
        have hcz23_4 : w14.cell? ⟨gb453, 4, none⟩ = some (.int .i64 t445) := (blk_cell BK453.out 4).trans rfl
        have hcz23_5 : w14.cell? ⟨gb453, 5, none⟩ = some (.int .i64 t446) := (blk_cell BK453.out 5).trans rfl
        have hcz23_6 : w14.cell? ⟨gb453, 6, none⟩ = some (.int .i64 t447) := (blk_cell BK453.out 6).trans rfl
        have hcz23_7 : w14.cell? ⟨gb453, 7, none⟩ = some (.int .i64 t448) := (blk_cell BK453.out 7).trans rfl
        have hcz23_8 : w14.cell? ⟨gb453, 8, none⟩ = some (.slice Ao12 t449.length co12) := (blk_cell BK453.out 8).trans rfl
        have hfz23_0 := blk_frozen BK453.out 0
        have hfz23_1 := blk_frozen BK453.out 1
        have hfz23_2 := blk_frozen BK453.out 2
        have hfz23_3 := blk_frozen BK453.out 3
        have hfz23_4 := blk_frozen BK453.out 4
        have hfz23_5 := blk_frozen BK453.out 5
        have hfz23_6 := blk_frozen BK453.out 6
        have hfz23_7 := blk_frozen BK453.out 7
        have hfz23_8 := blk_frozen BK453.out 8
        have hcz24_0 : w14.cell? ⟨gb468, 0, none⟩ = some (.slice none 0 0) := (blk_cell BK468.out 0).trans rfl
        have hcz24_1 : w14.cell? ⟨gb468, 1, none⟩ = some (.bool false) := (blk_cell BK468.out 1).trans rfl
        have hcz24_2 : w14.cell? ⟨gb468, 2, none⟩ = some (.int .i64 0) := (blk_cell BK468.out 2).trans rfl
        have hcz24_3 : w14.cell? ⟨gb468, 3, none⟩ = some (.int .i64 0) := (blk_cell BK468.out 3).trans rfl
        have hcz24_4 : w14.cell? ⟨gb468, 4, none⟩ = some (.int .i64 0) := (blk_cell BK468.out 4).trans rfl
        have hcz24_5 : w14.cell? ⟨gb468, 5, none⟩ = some (.int .i64 0) := (blk_cell BK468.out 5).trans rfl
        have hcz24_6 : w14.cell? ⟨gb468, 6, none⟩ = some (.int .i64 0) := (blk_cell BK468.out 6).trans rfl
        have hcz24_7 : w14.cell? ⟨gb468, 7, none⟩ = some (.int .i64 0) := (blk_cell BK468.out 7).trans rfl
        have hcz24_8 : w14.cell? ⟨gb468, 8, none⟩ = some (.slice none 0 0) := (blk_cell BK468.out 8).trans rfl
        have hfz24_0 := blk_frozen BK468.out 0
        have hfz24_1 := blk_frozen BK468.out 1
        have hfz24_2 := blk_frozen BK468.out 2
        have hfz24_3 := blk_frozen BK468.out 3
        have hfz24_4 := blk_frozen BK468.out 4
        have hfz24_5 := blk_frozen BK468.out 5
        have hfz24_6 := blk_frozen BK468.out 6
        have hfz24_7 := blk_frozen BK468.out 7
        have hfz24_8 := blk_frozen BK468.out 8
        go_wp2_with (first | ((with_reducible refine gate_callee (f := 38) rfl ?_); refine goesL_ (some 23) rfl rfl Try.func38 (by kernel_rfl) rfl #[.agg #[.slice Ao10 t439.length co10, .bool t442, .int .i64 t443, .int .i64 t444, .int .i64 t445, .int .i64 t446, .int .i64 t447, .int .i64 t448, .slice Ao12 t449.length co12], .agg #[.slice Ao15 t454.length co15, .bool t457, .int .i64 t458, .int .i64 t459, .int .i64 t460, .int .i64 t461, .int .i64 t462, .int .i64 t463, .slice Ao18 t464.length co18]] rfl (by (try simp only [List.map_toArray, List.map_cons, List.map_nil]); first | done | rfl | (simp only [List.length_drop, List.length_take]; rfl)) ?_; (with_reducible refine (trommelref39_Same.calls k _ _ t439 t442 t443 t444 t445 t446 t447 t448 _ _ t449 _ _ t454 t457 t458 t459 t460 t461 t462 t463 _ _ t464 true _ ?side1 ?side2 ?side3 ?side4 ?side5 ?side6 ?side7 ?side8 A19.out).mono ?_); (case side1 => refine (Kd.R_reads' (e := 87) (base := w.heap.size) (ok := fun k_ => ((some k_ ≠ (.slice Ao12 t449.length co12 : Value).ownBlock ∧ some k_ ≠ (.slice Ao15 t454.length co15 : Value).ownBlock) ∧ some k_ ≠ (.slice Ao18 t464.length co18 : Value).ownBlock)) (n := t439.length) (c := co10) ?_).2.2; exact (Rs ((Kd.R_mono (Kd.R_far (p := ⟨gb468, 8, none⟩) (Kd.R_far (p := ⟨gb468, 7, none⟩) (Kd.R_far (p := ⟨gb468, 6, none⟩) (Kd.R_far (p := ⟨gb468, 5, none⟩) (Kd.R_far (p := ⟨gb468, 4, none⟩) (Kd.R_far (p := ⟨gb468, 3, none⟩) (Kd.R_far (p := ⟨gb468, 2, none⟩) (Kd.R_far (p := ⟨gb468, 1, none⟩) (Kd.R_far (p := ⟨gb468, 0, none⟩) (Kd.R_types HO441.out BK468.out (by decide)) (fun _ hk => hk.2) (.slice Ao15 t454.length co15)) (fun _ hk => hk.2) (.bool t457)) (fun _ hk => hk.2) (.int .i64 t458)) (fun _ hk => hk.2) (.int .i64 t459)) (fun _ hk => hk.2) (.int .i64 t460)) (fun _ hk => hk.2) (.int .i64 t461)) (fun _ hk => hk.2) (.int .i64 t462)) (fun _ hk => hk.2) (.int .i64 t463)) (fun _ hk => hk.2) (.slice Ao18 t464.length co18)) (fun _ h_ => h_.1))))); (case side2 => exact (Kd.R_reads' HO441.out).2.1); (case side3 => refine (Kd.R_reads' (e := 3) (base := w.heap.size) (ok := fun k_ => (True ∧ some k_ ≠ (.slice Ao18 t464.length co18 : Value).ownBlock)) (n := t449.length) (c := co12) ?_).2.2; exact (Rs ((Kd.R_mono (Kd.R_far (p := ⟨gb468, 8, none⟩) (Kd.R_far (p := ⟨gb468, 7, none⟩) (Kd.R_far (p := ⟨gb468, 6, none⟩) (Kd.R_far (p := ⟨gb468, 5, none⟩) (Kd.R_far (p := ⟨gb468, 4, none⟩) (Kd.R_far (p := ⟨gb468, 3, none⟩) (Kd.R_far (p := ⟨gb468, 2, none⟩) (Kd.R_far (p := ⟨gb468, 1, none⟩) (Kd.R_far (p := ⟨gb468, 0, none⟩) (Kd.R_types HO451.out BK468.out (by decide)) (fun _ hk => hk.2) (.slice Ao15 t454.length co15)) (fun _ hk => hk.2) (.bool t457)) (fun _ hk => hk.2) (.int .i64 t458)) (fun _ hk => hk.2) (.int .i64 t459)) (fun _ hk => hk.2) (.int .i64 t460)) (fun _ hk => hk.2) (.int .i64 t461)) (fun _ hk => hk.2) (.int .i64 t462)) (fun _ hk => hk.2) (.int .i64 t463)) (fun _ hk => hk.2) (.slice Ao18 t464.length co18)) (fun _ h_ => h_.1))))); (case side4 => exact (Kd.R_reads' HO451.out).2.1); (case side5 => refine (Kd.R_reads' (e := 87) (base := w.heap.size) (ok := fun k_ => ((some k_ ≠ (.slice Ao18 t464.length co18 : Value).ownBlock ∧ some k_ ≠ (.slice Ao10 t439.length co10 : Value).ownBlock) ∧ some k_ ≠ (.slice Ao12 t449.length co12 : Value).ownBlock)) (n := t454.length) (c := co15) ?_).2.2; exact (Rs ((Kd.R_mono (Kd.R_far (p := ⟨gb468, 8, none⟩) (Kd.R_far (p := ⟨gb468, 7, none⟩) (Kd.R_far (p := ⟨gb468, 6, none⟩) (Kd.R_far (p := ⟨gb468, 5, none⟩) (Kd.R_far (p := ⟨gb468, 4, none⟩) (Kd.R_far (p := ⟨gb468, 3, none⟩) (Kd.R_far (p := ⟨gb468, 2, none⟩) (Kd.R_far (p := ⟨gb468, 1, none⟩) (Kd.R_far (p := ⟨gb468, 0, none⟩) (Kd.R_types HO456.out BK468.out (by decide)) (fun _ hk => hk.2) (.slice Ao15 t454.length co15)) (fun _ hk => hk.2) (.bool t457)) (fun _ hk => hk.2) (.int .i64 t458)) (fun _ hk => hk.2) (.int .i64 t459)) (fun _ hk => hk.2) (.int .i64 t460)) (fun _ hk => hk.2) (.int .i64 t461)) (fun _ hk => hk.2) (.int .i64 t462)) (fun _ hk => hk.2) (.int .i64 t463)) (fun _ hk => hk.2) (.slice Ao18 t464.length co18)) (fun _ h_ => h_.1))))); (case side6 => exact (Kd.R_reads' HO456.out).2.1); (case side7 => refine (Kd.R_reads' (e := 3) (base := w.heap.size) (ok := fun k_ => (True ∧ some k_ ≠ (.slice Ao12 t449.length co12 : Value).ownBlock)) (n := t464.length) (c := co18) ?_).2.2; exact (Rs ((Kd.R_mono (Kd.R_far (p := ⟨gb468, 8, none⟩) (Kd.R_far (p := ⟨gb468, 7, none⟩) (Kd.R_far (p := ⟨gb468, 6, none⟩) (Kd.R_far (p := ⟨gb468, 5, none⟩) (Kd.R_far (p := ⟨gb468, 4, none⟩) (Kd.R_far (p := ⟨gb468, 3, none⟩) (Kd.R_far (p := ⟨gb468, 2, none⟩) (Kd.R_far (p := ⟨gb468, 1, none⟩) (Kd.R_far (p := ⟨gb468, 0, none⟩) (Kd.R_types HO466.out BK468.out (by decide)) (fun _ hk => hk.2) (.slice Ao15 t454.length co15)) (fun _ hk => hk.2) (.bool t457)) (fun _ hk => hk.2) (.int .i64 t458)) (fun _ hk => hk.2) (.int .i64 t459)) (fun _ hk => hk.2) (.int .i64 t460)) (fun _ hk => hk.2) (.int .i64 t461)) (fun _ hk => hk.2) (.int .i64 t462)) (fun _ hk => hk.2) (.int .i64 t463)) (fun _ hk => hk.2) (.slice Ao18 t464.length co18)) (fun _ h_ => h_.1))))); (case side8 => exact (Kd.R_reads' HO466.out).2.1); rintro e w25 ⟨rfl, hb⟩; refine ⟨_, rfl, ?_⟩; have n0_ := Aside0.mk (Kd.R_below (Rs ((Kd.R_mono (Kd.R_far (p := ⟨gb468, 8, none⟩) (Kd.R_far (p := ⟨gb468, 7, none⟩) (Kd.R_far (p := ⟨gb468, 6, none⟩) (Kd.R_far (p := ⟨gb468, 5, none⟩) (Kd.R_far (p := ⟨gb468, 4, none⟩) (Kd.R_far (p := ⟨gb468, 3, none⟩) (Kd.R_far (p := ⟨gb468, 2, none⟩) (Kd.R_far (p := ⟨gb468, 1, none⟩) (Kd.R_far (p := ⟨gb468, 0, none⟩) (Kd.R_types HO441.out BK468.out (by decide)) (fun _ hk => hk.2) (.slice Ao15 t454.length co15)) (fun _ hk => hk.2) (.bool t457)) (fun _ hk => hk.2) (.int .i64 t458)) (fun _ hk => hk.2) (.int .i64 t459)) (fun _ hk => hk.2) (.int .i64 t460)) (fun _ hk => hk.2) (.int .i64 t461)) (fun _ hk => hk.2) (.int .i64 t462)) (fun _ hk => hk.2) (.int .i64 t463)) (fun _ hk => hk.2) (.slice Ao18 t464.length co18)) (fun _ h_ => h_.1)))) hb); have n1_ := Aside0.mk (Kd.R_below (Rs ((Kd.R_mono (Kd.R_far (p := ⟨gb468, 8, none⟩) (Kd.R_far (p := ⟨gb468, 7, none⟩) (Kd.R_far (p := ⟨gb468, 6, none⟩) (Kd.R_far (p := ⟨gb468, 5, none⟩) (Kd.R_far (p := ⟨gb468, 4, none⟩) (Kd.R_far (p := ⟨gb468, 3, none⟩) (Kd.R_far (p := ⟨gb468, 2, none⟩) (Kd.R_far (p := ⟨gb468, 1, none⟩) (Kd.R_far (p := ⟨gb468, 0, none⟩) (Kd.R_types HO451.out BK468.out (by decide)) (fun _ hk => hk.2) (.slice Ao15 t454.length co15)) (fun _ hk => hk.2) (.bool t457)) (fun _ hk => hk.2) (.int .i64 t458)) (fun _ hk => hk.2) (.int .i64 t459)) (fun _ hk => hk.2) (.int .i64 t460)) (fun _ hk => hk.2) (.int .i64 t461)) (fun _ hk => hk.2) (.int .i64 t462)) (fun _ hk => hk.2) (.int .i64 t463)) (fun _ hk => hk.2) (.slice Ao18 t464.length co18)) (fun _ h_ => h_.1)))) hb); have n2_ := Aside0.mk (Kd.R_below (Rs ((Kd.R_mono (Kd.R_far (p := ⟨gb468, 8, none⟩) (Kd.R_far (p := ⟨gb468, 7, none⟩) (Kd.R_far (p := ⟨gb468, 6, none⟩) (Kd.R_far (p := ⟨gb468, 5, none⟩) (Kd.R_far (p := ⟨gb468, 4, none⟩) (Kd.R_far (p := ⟨gb468, 3, none⟩) (Kd.R_far (p := ⟨gb468, 2, none⟩) (Kd.R_far (p := ⟨gb468, 1, none⟩) (Kd.R_far (p := ⟨gb468, 0, none⟩) (Kd.R_types HO456.out BK468.out (by decide)) (fun _ hk => hk.2) (.slice Ao15 t454.length co15)) (fun _ hk => hk.2) (.bool t457)) (fun _ hk => hk.2) (.int .i64 t458)) (fun _ hk => hk.2) (.int .i64 t459)) (fun _ hk => hk.2) (.int .i64 t460)) (fun _ hk => hk.2) (.int .i64 t461)) (fun _ hk => hk.2) (.int .i64 t462)) (fun _ hk => hk.2) (.int .i64 t463)) (fun _ hk => hk.2) (.slice Ao18 t464.length co18)) (fun _ h_ => h_.1)))) hb); have n3_ := Aside0.mk (Kd.R_below (Rs ((Kd.R_mono (Kd.R_far (p := ⟨gb468, 8, none⟩) (Kd.R_far (p := ⟨gb468, 7, none⟩) (Kd.R_far (p := ⟨gb468, 6, none⟩) (Kd.R_far (p := ⟨gb468, 5, none⟩) (Kd.R_far (p := ⟨gb468, 4, none⟩) (Kd.R_far (p := ⟨gb468, 3, none⟩) (Kd.R_far (p := ⟨gb468, 2, none⟩) (Kd.R_far (p := ⟨gb468, 1, none⟩) (Kd.R_far (p := ⟨gb468, 0, none⟩) (Kd.R_types HO466.out BK468.out (by decide)) (fun _ hk => hk.2) (.slice Ao15 t454.length co15)) (fun _ hk => hk.2) (.bool t457)) (fun _ hk => hk.2) (.int .i64 t458)) (fun _ hk => hk.2) (.int .i64 t459)) (fun _ hk => hk.2) (.int .i64 t460)) (fun _ hk => hk.2) (.int .i64 t461)) (fun _ hk => hk.2) (.int .i64 t462)) (fun _ hk => hk.2) (.int .i64 t463)) (fun _ hk => hk.2) (.slice Ao18 t464.length co18)) (fun _ h_ => h_.1)))) hb); have n4_ := Aside0.mk (blk_below (g := gb453) (o := .cells #[.slice Ao10 t439.length co10, .bool t442, .int .i64 t443, .int .i64 t444, .int .i64 t445, .int .i64 t446, .int .i64 t447, .int .i64 t448, .slice Ao12 t449.length co12] 63 (0, 0)) (by (with_reducible repeat (first | refine blk_drewN ?_ _ | refine blk_drew ?_ | refine blk_alloc ?_ _)); refine blk_far ?_ NB453_468.out _; (with_reducible repeat (first | refine blk_drewN ?_ _ | refine blk_drew ?_ | refine blk_alloc ?_ _)); refine blk_far ?_ NB453_468.out _; (with_reducible repeat (first | refine blk_drewN ?_ _ | refine blk_drew ?_ | refine blk_alloc ?_ _)); refine blk_far ?_ NB453_468.out _; (with_reducible repeat (first | refine blk_drewN ?_ _ | refine blk_drew ?_ | refine blk_alloc ?_ _)); refine blk_far ?_ NB453_468.out _; (with_reducible repeat (first | refine blk_drewN ?_ _ | refine blk_drew ?_ | refine blk_alloc ?_ _)); refine blk_far ?_ NB453_468.out _; (with_reducible repeat (first | refine blk_drewN ?_ _ | refine blk_drew ?_ | refine blk_alloc ?_ _)); refine blk_far ?_ NB453_468.out _; (with_reducible repeat (first | refine blk_drewN ?_ _ | refine blk_drew ?_ | refine blk_alloc ?_ _)); refine blk_far ?_ NB453_468.out _; (with_reducible repeat (first | refine blk_drewN ?_ _ | refine blk_drew ?_ | refine blk_alloc ?_ _)); refine blk_far ?_ NB453_468.out _; (with_reducible repeat (first | refine blk_drewN ?_ _ | refine blk_drew ?_ | refine blk_alloc ?_ _)); refine blk_far ?_ NB453_468.out _; (with_reducible repeat (first | refine blk_drewN ?_ _ | refine blk_drew ?_ | refine blk_alloc ?_ _)); exact BK453.out) hb); have n5_ := Aside0.mk (blk_below (g := gb468) (o := .cells #[.slice Ao15 t454.length co15, .bool t457, .int .i64 t458, .int .i64 t459, .int .i64 t460, .int .i64 t461, .int .i64 t462, .int .i64 t463, .slice Ao18 t464.length co18] 63 (0, 0)) (by (with_reducible repeat (first | refine blk_drewN ?_ _ | refine blk_drew ?_ | refine blk_alloc ?_ _)); refine blk_put (cs := #[.slice Ao15 t454.length co15, .bool t457, .int .i64 t458, .int .i64 t459, .int .i64 t460, .int .i64 t461, .int .i64 t462, .int .i64 t463, .slice none 0 0]) ?_ 8 _ rfl; (with_reducible repeat (first | refine blk_drewN ?_ _ | refine blk_drew ?_ | refine blk_alloc ?_ _)); refine blk_put (cs := #[.slice Ao15 t454.length co15, .bool t457, .int .i64 t458, .int .i64 t459, .int .i64 t460, .int .i64 t461, .int .i64 t462, .int .i64 0, .slice none 0 0]) ?_ 7 _ rfl; (with_reducible repeat (first | refine blk_drewN ?_ _ | refine blk_drew ?_ | refine blk_alloc ?_ _)); refine blk_put (cs := #[.slice Ao15 t454.length co15, .bool t457, .int .i64 t458, .int .i64 t459, .int .i64 t460, .int .i64 t461, .int .i64 0, .int .i64 0, .slice none 0 0]) ?_ 6 _ rfl; (with_reducible repeat (first | refine blk_drewN ?_ _ | refine blk_drew ?_ | refine blk_alloc ?_ _)); refine blk_put (cs := #[.slice Ao15 t454.length co15, .bool t457, .int .i64 t458, .int .i64 t459, .int .i64 t460, .int .i64 0, .int .i64 0, .int .i64 0, .slice none 0 0]) ?_ 5 _ rfl; (with_reducible repeat (first | refine blk_drewN ?_ _ | refine blk_drew ?_ | refine blk_alloc ?_ _)); refine blk_put (cs := #[.slice Ao15 t454.length co15, .bool t457, .int .i64 t458, .int .i64 t459, .int .i64 0, .int .i64 0, .int .i64 0, .int .i64 0, .slice none 0 0]) ?_ 4 _ rfl; (with_reducible repeat (first | refine blk_drewN ?_ _ | refine blk_drew ?_ | refine blk_alloc ?_ _)); refine blk_put (cs := #[.slice Ao15 t454.length co15, .bool t457, .int .i64 t458, .int .i64 0, .int .i64 0, .int .i64 0, .int .i64 0, .int .i64 0, .slice none 0 0]) ?_ 3 _ rfl; (with_reducible repeat (first | refine blk_drewN ?_ _ | refine blk_drew ?_ | refine blk_alloc ?_ _)); refine blk_put (cs := #[.slice Ao15 t454.length co15, .bool t457, .int .i64 0, .int .i64 0, .int .i64 0, .int .i64 0, .int .i64 0, .int .i64 0, .slice none 0 0]) ?_ 2 _ rfl; (with_reducible repeat (first | refine blk_drewN ?_ _ | refine blk_drew ?_ | refine blk_alloc ?_ _)); refine blk_put (cs := #[.slice Ao15 t454.length co15, .bool false, .int .i64 0, .int .i64 0, .int .i64 0, .int .i64 0, .int .i64 0, .int .i64 0, .slice none 0 0]) ?_ 1 _ rfl; (with_reducible repeat (first | refine blk_drewN ?_ _ | refine blk_drew ?_ | refine blk_alloc ?_ _)); refine blk_put (cs := #[.slice none 0 0, .bool false, .int .i64 0, .int .i64 0, .int .i64 0, .int .i64 0, .int .i64 0, .int .i64 0, .slice none 0 0]) ?_ 0 _ rfl; (with_reducible repeat (first | refine blk_drewN ?_ _ | refine blk_drew ?_ | refine blk_alloc ?_ _)); exact BK468.out) hb); have n6_ := Lb HB hb; clear HO441 HO451 HO456 HO466 BK453 BK468 HB; have HO441 := n0_; have HO451 := n1_; have HO456 := n2_; have HO466 := n3_; have BK453 := n4_; have BK468 := n5_; have HB := n6_; clear n0_ n1_ n2_ n3_ n4_ n5_ n6_; (try clear hb); (try clear hb2); (try clear hk); (try clear hi)) | (go_at_call 39; (with_reducible refine (trommellaw39_num.calls t452 t470 _ A21.out).mono ?_); rintro e w' ⟨rfl, ⟨nd, rfl⟩⟩))
        go_meet
        case rel => exact ⟨_, ((t470 != t467)), (by first | rfl | (simp; done) | (simp [*]; done)), H', ⟨by first | omega | exact Nat.le_refl _⟩, ⟨by (with_reducible repeat (first | apply Kd.R_alloc | apply Kd.R_drewN | apply Kd.R_drew)); exact Kd.R_mono HO441.out (fun _ hk => ⟨hk.1.1, ⟨hk.1.2, hk.2⟩⟩)⟩, ⟨by (with_reducible repeat (first | apply Kd.R_alloc | apply Kd.R_drewN | apply Kd.R_drew)); exact Kd.R_mono HO451.out (fun _ hk => hk.2)⟩, ⟨by (with_reducible repeat (first | apply Kd.R_alloc | apply Kd.R_drewN | apply Kd.R_drew)); exact Kd.R_mono HO456.out (fun _ hk => ⟨hk.1.2, ⟨hk.2, hk.1.1⟩⟩)⟩, ⟨by (with_reducible repeat (first | apply Kd.R_alloc | apply Kd.R_drewN | apply Kd.R_drew)); exact Kd.R_mono HO466.out (fun _ hk => hk.2)⟩, ⟨Bs BK453.out⟩, ⟨Bs BK468.out⟩, ⟨Ls HB⟩⟩
      · replace c20 := Bool.eq_false_iff.mpr c20
        subst c20
        have H1 : (trommellaw39_CodeGets.j0 k l0 t467 true t439 t442 t443 t444 t445 t446 t447 t448 t449) = some r := by rw [if_neg (show ¬ (false = true) by decide)] at H; exact H
        clear H
        have H := H1
        clear H1
        have H' := Aside0.mk H
        clear H
        have hnb26 := NB453_468.out
        have hnc26 := NB468_453.out
        have hcz27_0 : w14.cell? ⟨gb453, 0, none⟩ = some (.slice Ao10 t439.length co10) := (blk_cell BK453.out 0).trans rfl
        have hcz27_1 : w14.cell? ⟨gb453, 1, none⟩ = some (.bool t442) := (blk_cell BK453.out 1).trans rfl
        have hcz27_2 : w14.cell? ⟨gb453, 2, none⟩ = some (.int .i64 t443) := (blk_cell BK453.out 2).trans rfl
        have hcz27_3 : w14.cell? ⟨gb453, 3, none⟩ = some (.int .i64 t444) := (blk_cell BK453.out 3).trans rfl
        have hcz27_4 : w14.cell? ⟨gb453, 4, none⟩ = some (.int .i64 t445) := (blk_cell BK453.out 4).trans rfl
        have hcz27_5 : w14.cell? ⟨gb453, 5, none⟩ = some (.int .i64 t446) := (blk_cell BK453.out 5).trans rfl
        have hcz27_6 : w14.cell? ⟨gb453, 6, none⟩ = some (.int .i64 t447) := (blk_cell BK453.out 6).trans rfl
        have hcz27_7 : w14.cell? ⟨gb453, 7, none⟩ = some (.int .i64 t448) := (blk_cell BK453.out 7).trans rfl
        have hcz27_8 : w14.cell? ⟨gb453, 8, none⟩ = some (.slice Ao12 t449.length co12) := (blk_cell BK453.out 8).trans rfl
        have hfz27_0 := blk_frozen BK453.out 0
        have hfz27_1 := blk_frozen BK453.out 1
        have hfz27_2 := blk_frozen BK453.out 2
        have hfz27_3 := blk_frozen BK453.out 3
        have hfz27_4 := blk_frozen BK453.out 4
        have hfz27_5 := blk_frozen BK453.out 5
        have hfz27_6 := blk_frozen BK453.out 6
        have hfz27_7 := blk_frozen BK453.out 7
        have hfz27_8 := blk_frozen BK453.out 8
        have hcz28_0 : w14.cell? ⟨gb468, 0, none⟩ = some (.slice none 0 0) := (blk_cell BK468.out 0).trans rfl
        have hcz28_1 : w14.cell? ⟨gb468, 1, none⟩ = some (.bool false) := (blk_cell BK468.out 1).trans rfl
        have hcz28_2 : w14.cell? ⟨gb468, 2, none⟩ = some (.int .i64 0) := (blk_cell BK468.out 2).trans rfl
        have hcz28_3 : w14.cell? ⟨gb468, 3, none⟩ = some (.int .i64 0) := (blk_cell BK468.out 3).trans rfl
        have hcz28_4 : w14.cell? ⟨gb468, 4, none⟩ = some (.int .i64 0) := (blk_cell BK468.out 4).trans rfl
        have hcz28_5 : w14.cell? ⟨gb468, 5, none⟩ = some (.int .i64 0) := (blk_cell BK468.out 5).trans rfl
        have hcz28_6 : w14.cell? ⟨gb468, 6, none⟩ = some (.int .i64 0) := (blk_cell BK468.out 6).trans rfl
        have hcz28_7 : w14.cell? ⟨gb468, 7, none⟩ = some (.int .i64 0) := (blk_cell BK468.out 7).trans rfl
        have hcz28_8 : w14.cell? ⟨gb468, 8, none⟩ = some (.slice none 0 0) := (blk_cell BK468.out 8).trans rfl
        have hfz28_0 := blk_frozen BK468.out 0
        have hfz28_1 := blk_frozen BK468.out 1
        have hfz28_2 := blk_frozen BK468.out 2
        have hfz28_3 := blk_frozen BK468.out 3
        have hfz28_4 := blk_frozen BK468.out 4
        have hfz28_5 := blk_frozen BK468.out 5
        have hfz28_6 := blk_frozen BK468.out 6
        have hfz28_7 := blk_frozen BK468.out 7
        have hfz28_8 := blk_frozen BK468.out 8
        go_wp2_with (first | ((with_reducible refine gate_callee (f := 38) rfl ?_); refine goesL_ (some 23) rfl rfl Try.func38 (by kernel_rfl) rfl #[.agg #[.slice Ao10 t439.length co10, .bool t442, .int .i64 t443, .int .i64 t444, .int .i64 t445, .int .i64 t446, .int .i64 t447, .int .i64 t448, .slice Ao12 t449.length co12], .agg #[.slice Ao15 t454.length co15, .bool t457, .int .i64 t458, .int .i64 t459, .int .i64 t460, .int .i64 t461, .int .i64 t462, .int .i64 t463, .slice Ao18 t464.length co18]] rfl (by (try simp only [List.map_toArray, List.map_cons, List.map_nil]); first | done | rfl | (simp only [List.length_drop, List.length_take]; rfl)) ?_; (with_reducible refine (trommelref39_Same.calls k _ _ t439 t442 t443 t444 t445 t446 t447 t448 _ _ t449 _ _ t454 t457 t458 t459 t460 t461 t462 t463 _ _ t464 false _ ?side1 ?side2 ?side3 ?side4 ?side5 ?side6 ?side7 ?side8 A19.out).mono ?_); (case side1 => refine (Kd.R_reads' (e := 87) (base := w.heap.size) (ok := fun k_ => ((some k_ ≠ (.slice Ao12 t449.length co12 : Value).ownBlock ∧ some k_ ≠ (.slice Ao15 t454.length co15 : Value).ownBlock) ∧ some k_ ≠ (.slice Ao18 t464.length co18 : Value).ownBlock)) (n := t439.length) (c := co10) ?_).2.2; exact (Rs ((Kd.R_mono (Kd.R_far (p := ⟨gb468, 8, none⟩) (Kd.R_far (p := ⟨gb468, 7, none⟩) (Kd.R_far (p := ⟨gb468, 6, none⟩) (Kd.R_far (p := ⟨gb468, 5, none⟩) (Kd.R_far (p := ⟨gb468, 4, none⟩) (Kd.R_far (p := ⟨gb468, 3, none⟩) (Kd.R_far (p := ⟨gb468, 2, none⟩) (Kd.R_far (p := ⟨gb468, 1, none⟩) (Kd.R_far (p := ⟨gb468, 0, none⟩) (Kd.R_types HO441.out BK468.out (by decide)) (fun _ hk => hk.2) (.slice Ao15 t454.length co15)) (fun _ hk => hk.2) (.bool t457)) (fun _ hk => hk.2) (.int .i64 t458)) (fun _ hk => hk.2) (.int .i64 t459)) (fun _ hk => hk.2) (.int .i64 t460)) (fun _ hk => hk.2) (.int .i64 t461)) (fun _ hk => hk.2) (.int .i64 t462)) (fun _ hk => hk.2) (.int .i64 t463)) (fun _ hk => hk.2) (.slice Ao18 t464.length co18)) (fun _ h_ => h_.1))))); (case side2 => exact (Kd.R_reads' HO441.out).2.1); (case side3 => refine (Kd.R_reads' (e := 3) (base := w.heap.size) (ok := fun k_ => (True ∧ some k_ ≠ (.slice Ao18 t464.length co18 : Value).ownBlock)) (n := t449.length) (c := co12) ?_).2.2; exact (Rs ((Kd.R_mono (Kd.R_far (p := ⟨gb468, 8, none⟩) (Kd.R_far (p := ⟨gb468, 7, none⟩) (Kd.R_far (p := ⟨gb468, 6, none⟩) (Kd.R_far (p := ⟨gb468, 5, none⟩) (Kd.R_far (p := ⟨gb468, 4, none⟩) (Kd.R_far (p := ⟨gb468, 3, none⟩) (Kd.R_far (p := ⟨gb468, 2, none⟩) (Kd.R_far (p := ⟨gb468, 1, none⟩) (Kd.R_far (p := ⟨gb468, 0, none⟩) (Kd.R_types HO451.out BK468.out (by decide)) (fun _ hk => hk.2) (.slice Ao15 t454.length co15)) (fun _ hk => hk.2) (.bool t457)) (fun _ hk => hk.2) (.int .i64 t458)) (fun _ hk => hk.2) (.int .i64 t459)) (fun _ hk => hk.2) (.int .i64 t460)) (fun _ hk => hk.2) (.int .i64 t461)) (fun _ hk => hk.2) (.int .i64 t462)) (fun _ hk => hk.2) (.int .i64 t463)) (fun _ hk => hk.2) (.slice Ao18 t464.length co18)) (fun _ h_ => h_.1))))); (case side4 => exact (Kd.R_reads' HO451.out).2.1); (case side5 => refine (Kd.R_reads' (e := 87) (base := w.heap.size) (ok := fun k_ => ((some k_ ≠ (.slice Ao18 t464.length co18 : Value).ownBlock ∧ some k_ ≠ (.slice Ao10 t439.length co10 : Value).ownBlock) ∧ some k_ ≠ (.slice Ao12 t449.length co12 : Value).ownBlock)) (n := t454.length) (c := co15) ?_).2.2; exact (Rs ((Kd.R_mono (Kd.R_far (p := ⟨gb468, 8, none⟩) (Kd.R_far (p := ⟨gb468, 7, none⟩) (Kd.R_far (p := ⟨gb468, 6, none⟩) (Kd.R_far (p := ⟨gb468, 5, none⟩) (Kd.R_far (p := ⟨gb468, 4, none⟩) (Kd.R_far (p := ⟨gb468, 3, none⟩) (Kd.R_far (p := ⟨gb468, 2, none⟩) (Kd.R_far (p := ⟨gb468, 1, none⟩) (Kd.R_far (p := ⟨gb468, 0, none⟩) (Kd.R_types HO456.out BK468.out (by decide)) (fun _ hk => hk.2) (.slice Ao15 t454.length co15)) (fun _ hk => hk.2) (.bool t457)) (fun _ hk => hk.2) (.int .i64 t458)) (fun _ hk => hk.2) (.int .i64 t459)) (fun _ hk => hk.2) (.int .i64 t460)) (fun _ hk => hk.2) (.int .i64 t461)) (fun _ hk => hk.2) (.int .i64 t462)) (fun _ hk => hk.2) (.int .i64 t463)) (fun _ hk => hk.2) (.slice Ao18 t464.length co18)) (fun _ h_ => h_.1))))); (case side6 => exact (Kd.R_reads' HO456.out).2.1); (case side7 => refine (Kd.R_reads' (e := 3) (base := w.heap.size) (ok := fun k_ => (True ∧ some k_ ≠ (.slice Ao12 t449.length co12 : Value).ownBlock)) (n := t464.length) (c := co18) ?_).2.2; exact (Rs ((Kd.R_mono (Kd.R_far (p := ⟨gb468, 8, none⟩) (Kd.R_far (p := ⟨gb468, 7, none⟩) (Kd.R_far (p := ⟨gb468, 6, none⟩) (Kd.R_far (p := ⟨gb468, 5, none⟩) (Kd.R_far (p := ⟨gb468, 4, none⟩) (Kd.R_far (p := ⟨gb468, 3, none⟩) (Kd.R_far (p := ⟨gb468, 2, none⟩) (Kd.R_far (p := ⟨gb468, 1, none⟩) (Kd.R_far (p := ⟨gb468, 0, none⟩) (Kd.R_types HO466.out BK468.out (by decide)) (fun _ hk => hk.2) (.slice Ao15 t454.length co15)) (fun _ hk => hk.2) (.bool t457)) (fun _ hk => hk.2) (.int .i64 t458)) (fun _ hk => hk.2) (.int .i64 t459)) (fun _ hk => hk.2) (.int .i64 t460)) (fun _ hk => hk.2) (.int .i64 t461)) (fun _ hk => hk.2) (.int .i64 t462)) (fun _ hk => hk.2) (.int .i64 t463)) (fun _ hk => hk.2) (.slice Ao18 t464.length co18)) (fun _ h_ => h_.1))))); (case side8 => exact (Kd.R_reads' HO466.out).2.1); rintro e w29 ⟨rfl, hb⟩; refine ⟨_, rfl, ?_⟩; have n0_ := Aside0.mk (Kd.R_below (Rs ((Kd.R_mono (Kd.R_far (p := ⟨gb468, 8, none⟩) (Kd.R_far (p := ⟨gb468, 7, none⟩) (Kd.R_far (p := ⟨gb468, 6, none⟩) (Kd.R_far (p := ⟨gb468, 5, none⟩) (Kd.R_far (p := ⟨gb468, 4, none⟩) (Kd.R_far (p := ⟨gb468, 3, none⟩) (Kd.R_far (p := ⟨gb468, 2, none⟩) (Kd.R_far (p := ⟨gb468, 1, none⟩) (Kd.R_far (p := ⟨gb468, 0, none⟩) (Kd.R_types HO441.out BK468.out (by decide)) (fun _ hk => hk.2) (.slice Ao15 t454.length co15)) (fun _ hk => hk.2) (.bool t457)) (fun _ hk => hk.2) (.int .i64 t458)) (fun _ hk => hk.2) (.int .i64 t459)) (fun _ hk => hk.2) (.int .i64 t460)) (fun _ hk => hk.2) (.int .i64 t461)) (fun _ hk => hk.2) (.int .i64 t462)) (fun _ hk => hk.2) (.int .i64 t463)) (fun _ hk => hk.2) (.slice Ao18 t464.length co18)) (fun _ h_ => h_.1)))) hb); have n1_ := Aside0.mk (Kd.R_below (Rs ((Kd.R_mono (Kd.R_far (p := ⟨gb468, 8, none⟩) (Kd.R_far (p := ⟨gb468, 7, none⟩) (Kd.R_far (p := ⟨gb468, 6, none⟩) (Kd.R_far (p := ⟨gb468, 5, none⟩) (Kd.R_far (p := ⟨gb468, 4, none⟩) (Kd.R_far (p := ⟨gb468, 3, none⟩) (Kd.R_far (p := ⟨gb468, 2, none⟩) (Kd.R_far (p := ⟨gb468, 1, none⟩) (Kd.R_far (p := ⟨gb468, 0, none⟩) (Kd.R_types HO451.out BK468.out (by decide)) (fun _ hk => hk.2) (.slice Ao15 t454.length co15)) (fun _ hk => hk.2) (.bool t457)) (fun _ hk => hk.2) (.int .i64 t458)) (fun _ hk => hk.2) (.int .i64 t459)) (fun _ hk => hk.2) (.int .i64 t460)) (fun _ hk => hk.2) (.int .i64 t461)) (fun _ hk => hk.2) (.int .i64 t462)) (fun _ hk => hk.2) (.int .i64 t463)) (fun _ hk => hk.2) (.slice Ao18 t464.length co18)) (fun _ h_ => h_.1)))) hb); have n2_ := Aside0.mk (Kd.R_below (Rs ((Kd.R_mono (Kd.R_far (p := ⟨gb468, 8, none⟩) (Kd.R_far (p := ⟨gb468, 7, none⟩) (Kd.R_far (p := ⟨gb468, 6, none⟩) (Kd.R_far (p := ⟨gb468, 5, none⟩) (Kd.R_far (p := ⟨gb468, 4, none⟩) (Kd.R_far (p := ⟨gb468, 3, none⟩) (Kd.R_far (p := ⟨gb468, 2, none⟩) (Kd.R_far (p := ⟨gb468, 1, none⟩) (Kd.R_far (p := ⟨gb468, 0, none⟩) (Kd.R_types HO456.out BK468.out (by decide)) (fun _ hk => hk.2) (.slice Ao15 t454.length co15)) (fun _ hk => hk.2) (.bool t457)) (fun _ hk => hk.2) (.int .i64 t458)) (fun _ hk => hk.2) (.int .i64 t459)) (fun _ hk => hk.2) (.int .i64 t460)) (fun _ hk => hk.2) (.int .i64 t461)) (fun _ hk => hk.2) (.int .i64 t462)) (fun _ hk => hk.2) (.int .i64 t463)) (fun _ hk => hk.2) (.slice Ao18 t464.length co18)) (fun _ h_ => h_.1)))) hb); have n3_ := Aside0.mk (Kd.R_below (Rs ((Kd.R_mono (Kd.R_far (p := ⟨gb468, 8, none⟩) (Kd.R_far (p := ⟨gb468, 7, none⟩) (Kd.R_far (p := ⟨gb468, 6, none⟩) (Kd.R_far (p := ⟨gb468, 5, none⟩) (Kd.R_far (p := ⟨gb468, 4, none⟩) (Kd.R_far (p := ⟨gb468, 3, none⟩) (Kd.R_far (p := ⟨gb468, 2, none⟩) (Kd.R_far (p := ⟨gb468, 1, none⟩) (Kd.R_far (p := ⟨gb468, 0, none⟩) (Kd.R_types HO466.out BK468.out (by decide)) (fun _ hk => hk.2) (.slice Ao15 t454.length co15)) (fun _ hk => hk.2) (.bool t457)) (fun _ hk => hk.2) (.int .i64 t458)) (fun _ hk => hk.2) (.int .i64 t459)) (fun _ hk => hk.2) (.int .i64 t460)) (fun _ hk => hk.2) (.int .i64 t461)) (fun _ hk => hk.2) (.int .i64 t462)) (fun _ hk => hk.2) (.int .i64 t463)) (fun _ hk => hk.2) (.slice Ao18 t464.length co18)) (fun _ h_ => h_.1)))) hb); have n4_ := Aside0.mk (blk_below (g := gb453) (o := .cells #[.slice Ao10 t439.length co10, .bool t442, .int .i64 t443, .int .i64 t444, .int .i64 t445, .int .i64 t446, .int .i64 t447, .int .i64 t448, .slice Ao12 t449.length co12] 63 (0, 0)) (by (with_reducible repeat (first | refine blk_drewN ?_ _ | refine blk_drew ?_ | refine blk_alloc ?_ _)); refine blk_far ?_ NB453_468.out _; (with_reducible repeat (first | refine blk_drewN ?_ _ | refine blk_drew ?_ | refine blk_alloc ?_ _)); refine blk_far ?_ NB453_468.out _; (with_reducible repeat (first | refine blk_drewN ?_ _ | refine blk_drew ?_ | refine blk_alloc ?_ _)); refine blk_far ?_ NB453_468.out _; (with_reducible repeat (first | refine blk_drewN ?_ _ | refine blk_drew ?_ | refine blk_alloc ?_ _)); refine blk_far ?_ NB453_468.out _; (with_reducible repeat (first | refine blk_drewN ?_ _ | refine blk_drew ?_ | refine blk_alloc ?_ _)); refine blk_far ?_ NB453_468.out _; (with_reducible repeat (first | refine blk_drewN ?_ _ | refine blk_drew ?_ | refine blk_alloc ?_ _)); refine blk_far ?_ NB453_468.out _; (with_reducible repeat (first | refine blk_drewN ?_ _ | refine blk_drew ?_ | refine blk_alloc ?_ _)); refine blk_far ?_ NB453_468.out _; (with_reducible repeat (first | refine blk_drewN ?_ _ | refine blk_drew ?_ | refine blk_alloc ?_ _)); refine blk_far ?_ NB453_468.out _; (with_reducible repeat (first | refine blk_drewN ?_ _ | refine blk_drew ?_ | refine blk_alloc ?_ _)); refine blk_far ?_ NB453_468.out _; (with_reducible repeat (first | refine blk_drewN ?_ _ | refine blk_drew ?_ | refine blk_alloc ?_ _)); exact BK453.out) hb); have n5_ := Aside0.mk (blk_below (g := gb468) (o := .cells #[.slice Ao15 t454.length co15, .bool t457, .int .i64 t458, .int .i64 t459, .int .i64 t460, .int .i64 t461, .int .i64 t462, .int .i64 t463, .slice Ao18 t464.length co18] 63 (0, 0)) (by (with_reducible repeat (first | refine blk_drewN ?_ _ | refine blk_drew ?_ | refine blk_alloc ?_ _)); refine blk_put (cs := #[.slice Ao15 t454.length co15, .bool t457, .int .i64 t458, .int .i64 t459, .int .i64 t460, .int .i64 t461, .int .i64 t462, .int .i64 t463, .slice none 0 0]) ?_ 8 _ rfl; (with_reducible repeat (first | refine blk_drewN ?_ _ | refine blk_drew ?_ | refine blk_alloc ?_ _)); refine blk_put (cs := #[.slice Ao15 t454.length co15, .bool t457, .int .i64 t458, .int .i64 t459, .int .i64 t460, .int .i64 t461, .int .i64 t462, .int .i64 0, .slice none 0 0]) ?_ 7 _ rfl; (with_reducible repeat (first | refine blk_drewN ?_ _ | refine blk_drew ?_ | refine blk_alloc ?_ _)); refine blk_put (cs := #[.slice Ao15 t454.length co15, .bool t457, .int .i64 t458, .int .i64 t459, .int .i64 t460, .int .i64 t461, .int .i64 0, .int .i64 0, .slice none 0 0]) ?_ 6 _ rfl; (with_reducible repeat (first | refine blk_drewN ?_ _ | refine blk_drew ?_ | refine blk_alloc ?_ _)); refine blk_put (cs := #[.slice Ao15 t454.length co15, .bool t457, .int .i64 t458, .int .i64 t459, .int .i64 t460, .int .i64 0, .int .i64 0, .int .i64 0, .slice none 0 0]) ?_ 5 _ rfl; (with_reducible repeat (first | refine blk_drewN ?_ _ | refine blk_drew ?_ | refine blk_alloc ?_ _)); refine blk_put (cs := #[.slice Ao15 t454.length co15, .bool t457, .int .i64 t458, .int .i64 t459, .int .i64 0, .int .i64 0, .int .i64 0, .int .i64 0, .slice none 0 0]) ?_ 4 _ rfl; (with_reducible repeat (first | refine blk_drewN ?_ _ | refine blk_drew ?_ | refine blk_alloc ?_ _)); refine blk_put (cs := #[.slice Ao15 t454.length co15, .bool t457, .int .i64 t458, .int .i64 0, .int .i64 0, .int .i64 0, .int .i64 0, .int .i64 0, .slice none 0 0]) ?_ 3 _ rfl; (with_reducible repeat (first | refine blk_drewN ?_ _ | refine blk_drew ?_ | refine blk_alloc ?_ _)); refine blk_put (cs := #[.slice Ao15 t454.length co15, .bool t457, .int .i64 0, .int .i64 0, .int .i64 0, .int .i64 0, .int .i64 0, .int .i64 0, .slice none 0 0]) ?_ 2 _ rfl; (with_reducible repeat (first | refine blk_drewN ?_ _ | refine blk_drew ?_ | refine blk_alloc ?_ _)); refine blk_put (cs := #[.slice Ao15 t454.length co15, .bool false, .int .i64 0, .int .i64 0, .int .i64 0, .int .i64 0, .int .i64 0, .int .i64 0, .slice none 0 0]) ?_ 1 _ rfl; (with_reducible repeat (first | refine blk_drewN ?_ _ | refine blk_drew ?_ | refine blk_alloc ?_ _)); refine blk_put (cs := #[.slice none 0 0, .bool false, .int .i64 0, .int .i64 0, .int .i64 0, .int .i64 0, .int .i64 0, .int .i64 0, .slice none 0 0]) ?_ 0 _ rfl; (with_reducible repeat (first | refine blk_drewN ?_ _ | refine blk_drew ?_ | refine blk_alloc ?_ _)); exact BK468.out) hb); have n6_ := Lb HB hb; clear HO441 HO451 HO456 HO466 BK453 BK468 HB; have HO441 := n0_; have HO451 := n1_; have HO456 := n2_; have HO466 := n3_; have BK453 := n4_; have BK468 := n5_; have HB := n6_; clear n0_ n1_ n2_ n3_ n4_ n5_ n6_; (try clear hb); (try clear hb2); (try clear hk); (try clear hi)))
        go_meet
        case rel => exact ⟨_, (true), (by first | rfl | (simp; done) | (simp [*]; done)), H', ⟨by first | omega | exact Nat.le_refl _⟩, ⟨by (with_reducible repeat (first | apply Kd.R_alloc | apply Kd.R_drewN | apply Kd.R_drew)); exact Kd.R_mono HO441.out (fun _ hk => ⟨hk.1.1, ⟨hk.1.2, hk.2⟩⟩)⟩, ⟨by (with_reducible repeat (first | apply Kd.R_alloc | apply Kd.R_drewN | apply Kd.R_drew)); exact Kd.R_mono HO451.out (fun _ hk => hk.2)⟩, ⟨by (with_reducible repeat (first | apply Kd.R_alloc | apply Kd.R_drewN | apply Kd.R_drew)); exact Kd.R_mono HO456.out (fun _ hk => ⟨hk.1.2, ⟨hk.2, hk.1.1⟩⟩)⟩, ⟨by (with_reducible repeat (first | apply Kd.R_alloc | apply Kd.R_drewN | apply Kd.R_drew)); exact Kd.R_mono HO466.out (fun _ hk => hk.2)⟩, ⟨Bs BK453.out⟩, ⟨Bs BK468.out⟩, ⟨Ls HB⟩⟩
    case rest =>
      clear HC7
      try clear c1; try clear c2; try clear c2b0; try clear c2b1; try clear p2; try clear c3; try clear c4; try clear c8; try clear c16; try clear c20; try clear c22; try clear c26; try clear hcz11_0; try clear hcz11_1; try clear hcz11_2; try clear hcz11_3; try clear hcz11_4; try clear hcz11_5; try clear hcz11_6; try clear hcz11_7; try clear hcz11_8; try clear hcz17_0; try clear hcz17_1; try clear hcz17_2; try clear hcz17_3; try clear hcz17_4; try clear hcz17_5; try clear hcz17_6; try clear hcz17_7; try clear hcz17_8; try clear hcz23_0; try clear hcz23_1; try clear hcz23_2; try clear hcz23_3; try clear hcz23_4; try clear hcz23_5; try clear hcz23_6; try clear hcz23_7; try clear hcz23_8; try clear hcz24_0; try clear hcz24_1; try clear hcz24_2; try clear hcz24_3; try clear hcz24_4; try clear hcz24_5; try clear hcz24_6; try clear hcz24_7; try clear hcz24_8; try clear hcz27_0; try clear hcz27_1; try clear hcz27_2; try clear hcz27_3; try clear hcz27_4; try clear hcz27_5; try clear hcz27_6; try clear hcz27_7; try clear hcz27_8; try clear hcz28_0; try clear hcz28_1; try clear hcz28_2; try clear hcz28_3; try clear hcz28_4; try clear hcz28_5; try clear hcz28_6; try clear hcz28_7; try clear hcz28_8; try clear hfz11_0; try clear hfz11_1; try clear hfz11_2; try clear hfz11_3; try clear hfz11_4; try clear hfz11_5; try clear hfz11_6; try clear hfz11_7; try clear hfz11_8; try clear hfz17_0; try clear hfz17_1; try clear hfz17_2; try clear hfz17_3; try clear hfz17_4; try clear hfz17_5; try clear hfz17_6; try clear hfz17_7; try clear hfz17_8; try clear hfz23_0; try clear hfz23_1; try clear hfz23_2; try clear hfz23_3; try clear hfz23_4; try clear hfz23_5; try clear hfz23_6; try clear hfz23_7; try clear hfz23_8; try clear hfz24_0; try clear hfz24_1; try clear hfz24_2; try clear hfz24_3; try clear hfz24_4; try clear hfz24_5; try clear hfz24_6; try clear hfz24_7; try clear hfz24_8; try clear hfz27_0; try clear hfz27_1; try clear hfz27_2; try clear hfz27_3; try clear hfz27_4; try clear hfz27_5; try clear hfz27_6; try clear hfz27_7; try clear hfz27_8; try clear hfz28_0; try clear hfz28_1; try clear hfz28_2; try clear hfz28_3; try clear hfz28_4; try clear hfz28_5; try clear hfz28_6; try clear hfz28_7; try clear hfz28_8
      obtain ⟨kq, x30_6, rfl, HA, HJ6, HO_454000, HO_454008, HO_469000, HO_469008, BK453, BK468, HB⟩ := hcut
      cases kq with
      | zero => exact absurd HA.out (by simp [trommellaw39_CodeGets.j0])
      | succ kj6 =>
        have H := HA.out
        clear HA
        simp only [trommellaw39_CodeGets.j0] at H
        by_cases c30 : x30_6 = true
        · subst c30
          have H1 : (some false) = some r := by rw [if_pos rfl] at H; exact H
          clear H
          have H := H1
          clear H1
          obtain rfl := Option.some.inj H
          go_wp2
          go_ret
          exact ⟨by first | rfl | (simp [errW_none, errW_some] <;> rfl) | (simp [*, errW_none, errW_some] <;> rfl), by repeat (first | (with_reducible first | exact HB.out | apply below_alloc | apply pw_below_drewN | apply below_drew1 | refine below_set ?_ GE453.out | refine below_set ?_ GE468.out) | exact HB.out)⟩
        · replace c30 := Bool.eq_false_iff.mpr c30
          subst c30
          have H1 : (if t467 = 0 then ((code_Put.f kj6 t439 t442 t443 t444 t445 t446 t447 t448 t449).bind fun t471 => (if (strOfNums t471).toList = (strOfNums l0).toList then ((trommellaw39_live.f).bind fun t474 => (some t474)) else (some false))) else ((trommellaw39_live.f).bind fun t475 => (some t475))) = some r := by rw [if_neg (show ¬ (false = true) by decide)] at H; exact H
          clear H
          have H := H1
          clear H1
          by_cases c31 : t467 = 0
          · rw [if_pos c31] at H
            have c31b0 : (t467 == 0) = true := beq_iff_eq.mpr c31
            have c31b1 : (t467 != 0) = false := bne_eq_false_iff_eq.mpr c31
            clear c31
            replace H := Option.bind_eq_some_iff.mp H
            obtain ⟨t471, A320, H⟩ := H
            replace H : (if (strOfNums t471).toList = (strOfNums l0).toList then ((trommellaw39_live.f).bind fun t474 => (some t474)) else (some false)) = some r := H
            have A32 := Aside0.mk A320
            clear A320
            by_cases c33 : (strOfNums t471).toList = (strOfNums l0).toList
            · rw [if_pos c33] at H
              have c33b0 : ((strOfNums t471).toList == (strOfNums l0).toList) = true := beq_iff_eq.mpr c33
              have c33b1 : ((strOfNums t471).toList != (strOfNums l0).toList) = false := bne_eq_false_iff_eq.mpr c33
              clear c33
              replace H := Option.bind_eq_some_iff.mp H
              obtain ⟨t474, A340, H⟩ := H
              replace H : (some t474) = some r := H
              have A34 := Aside0.mk A340
              clear A340
              obtain rfl := Option.some.inj H
              try go_wp2
              replace HO_454000 := Aside0.mk (Kd.R_drew HO_454000.out)
              replace HO_454008 := Aside0.mk (Kd.R_drew HO_454008.out)
              replace HO_469000 := Aside0.mk (Kd.R_drew HO_469000.out)
              replace HO_469008 := Aside0.mk (Kd.R_drew HO_469008.out)
              replace BK453 := Aside0.mk (blk_drew BK453.out)
              replace BK468 := Aside0.mk (blk_drew BK468.out)
              replace HB := Aside0.mk (below_drew1 HB.out)
              refine start_ (n := 14) (S := fun w' => w'.cell? ⟨gb453, 0, none⟩ = some (.slice Ao10 t439.length co10) ∧ w'.cell? ⟨gb453, 1, none⟩ = some (.bool t442) ∧ w'.cell? ⟨gb453, 2, none⟩ = some (.int .i64 t443) ∧ w'.cell? ⟨gb453, 3, none⟩ = some (.int .i64 t444) ∧ w'.cell? ⟨gb453, 4, none⟩ = some (.int .i64 t445) ∧ w'.cell? ⟨gb453, 5, none⟩ = some (.int .i64 t446) ∧ w'.cell? ⟨gb453, 6, none⟩ = some (.int .i64 t447) ∧ w'.cell? ⟨gb453, 7, none⟩ = some (.int .i64 t448) ∧ w'.cell? ⟨gb453, 8, none⟩ = some (.slice Ao12 t449.length co12) ∧ (convert 36 9 (.slice A0 l0.length c0)).run Try.prog w' = .ok (.string (strOfNums l0)) w') (ds := []) #[F, F, F, F, F, F, F, F, F, F, F, F, F, F] (by kernel_rfl) rfl rfl ⟨(blk_cell BK453.out 0).trans rfl, (blk_cell BK453.out 1).trans rfl, (blk_cell BK453.out 2).trans rfl, (blk_cell BK453.out 3).trans rfl, (blk_cell BK453.out 4).trans rfl, (blk_cell BK453.out 5).trans rfl, (blk_cell BK453.out 6).trans rfl, (blk_cell BK453.out 7).trans rfl, (blk_cell BK453.out 8).trans rfl, Kd.C_string (P := Try.prog) (A := A0) (c := c0) Try.underlying36 Try.underlying5 Try.underlying9 (Kd.C_below HR0.out HB.out)⟩ (fun hHeld => ?_); refine with_tabW trommellaw39_CodeGets.tab7 trommellaw39_CodeGets.bits7 (fun HT_ HW_ => ?_)
              generalize wc.drew = w35 at HO_454000 HO_454008 HO_469000 HO_469008 BK453 BK468 HB hHeld ⊢
              refine pure_ (i := 0) (N := some 31) (v := ?_) (a' := ?_) #[T, F, F, F, F, F, F, F, F, F, F, F, F, F] rfl rfl (any_of HT_.out (by kernel_rfl)) (fun _ _ _ h => h) (Or.inl ⟨by rfl, ?_⟩) ?_ ?_; rotate_left; (· intro w'; go_simp; with_reducible rfl); rotate_left; (· simp only [Act.put, sq]; rfl)
              refine pure_ (i := 1) (N := some 32) (v := ?_) (a' := ?_) #[T, T, F, F, F, F, F, F, F, F, F, F, F, F] rfl rfl (any_of HT_.out (by kernel_rfl)) (fun _ _ _ h => h) (Or.inl ⟨by rfl, ?_⟩) ?_ ?_; rotate_left; (· intro w'; go_simp; with_reducible rfl); rotate_left; (· simp only [Act.put, sq]; rfl)
              refine pure_ (i := 2) (N := some 33) (v := ?_) (a' := ?_) #[T, T, T, F, F, F, F, F, F, F, F, F, F, F] rfl rfl (any_of HT_.out (by kernel_rfl)) (fun _ _ _ h => h) (Or.inl ⟨by rfl, ?_⟩) ?_ ?_; rotate_left; (· intro w'; go_simp; with_reducible rfl); rotate_left; (· simp only [Act.put, sq]; rfl)
              refine pure_ (i := 6) (N := some 37) (v := ?_) (a' := ?_) #[T, T, T, F, F, F, T, F, F, F, F, F, F, F] rfl rfl (any_of HT_.out (by kernel_rfl)) (fun _ _ _ h => h) (Or.inl ⟨by rfl, ?_⟩) ?_ ?_; rotate_left; (· intro w'; go_simp; with_reducible rfl); rotate_left; (· simp only [Act.put, sq]; rfl)
              refine take_ (i := 7) (N := some 38) (v := ?_) (a' := ?_) #[T, T, T, F, F, F, T, T, F, F, F, F, F, F] rfl rfl (take_ofW HT_.out HW_.out (by kernel_rfl)) (fun _ _ _ h => h) (Or.inl ⟨by rfl, ?_⟩) hHeld ?_ ?_; rotate_left; (· rintro w' ⟨s0, s1, s2, s3, s4, s5, s6, s7, s8, s9⟩; go_simp; with_reducible rfl); rotate_left; (· simp only [Act.put, sq]; rfl)
              refine take_ (i := 3) (N := some 34) (v := ?_) (a' := ?_) #[T, T, T, T, F, F, T, T, F, F, F, F, F, F] rfl rfl (take_ofW HT_.out HW_.out (by kernel_rfl)) (fun _ _ _ h => h) (Or.inl ⟨by rfl, ?_⟩) hHeld ?_ ?_; rotate_left; (· rintro w' ⟨s0, s1, s2, s3, s4, s5, s6, s7, s8, s9⟩; go_simp; with_reducible rfl); rotate_left; (· simp only [Act.put, sq]; rfl)
              refine one_ (i := 4) (N := some 35) #[T, T, T, T, T, F, T, T, F, F, F, F, F, F] rfl rfl (one_of HT_.out (by kernel_rfl)) (by decide) (fun K hK => ?_)
              refine goes_ Try.func35 (by kernel_rfl) rfl #[.agg #[.slice Ao10 t439.length co10, .bool t442, .int .i64 t443, .int .i64 t444, .int .i64 t445, .int .i64 t446, .int .i64 t447, .int .i64 t448, .slice Ao12 t449.length co12]] (by rfl) rfl rfl (by (try simp only [List.map_toArray, List.map_cons, List.map_nil]); first | done | rfl | (simp only [List.length_drop, List.length_take]; rfl)) ?_
              with_reducible refine (code_Put.calls kj6 _ _ t439 t442 t443 t444 t445 t446 t447 t448 _ _ t449 t471 _ ?side1 ?side2 ?side3 ?side4 A32.out).mono ?_
              (case side1 => exact Cs (Kd.R_reads' HO_454000.out).2.2)
              (case side2 => exact (Kd.R_reads' HO_454000.out).2.1)
              (case side3 => exact Cs (Kd.R_reads' HO_454008.out).2.2)
              (case side4 => exact (Kd.R_reads' HO_454008.out).2.1)
              rintro e w36 ⟨v472, rfl, ho0, hb⟩
              refine ⟨_, rfl, ?_⟩
              replace HO_454000 := Rb HO_454000 hb
              replace HO_454008 := Rb HO_454008 hb
              replace HO_469000 := Rb HO_469000 hb
              replace HO_469008 := Rb HO_469008 hb
              have HO473 := Aside0.mk (Kd.R_lower ho0 (Lz HB))
              replace BK453 := Bb BK453 hb
              replace BK468 := Bb BK468 hb
              replace HB := Lb HB hb
              try clear hb; try clear hb2; try clear hk; try clear hi; try clear ho0
              refine hK.out _ _ ⟨(blk_cell BK453.out 0).trans rfl, (blk_cell BK453.out 1).trans rfl, (blk_cell BK453.out 2).trans rfl, (blk_cell BK453.out 3).trans rfl, (blk_cell BK453.out 4).trans rfl, (blk_cell BK453.out 5).trans rfl, (blk_cell BK453.out 6).trans rfl, (blk_cell BK453.out 7).trans rfl, (blk_cell BK453.out 8).trans rfl, Kd.C_string (P := Try.prog) (A := A0) (c := c0) Try.underlying36 Try.underlying5 Try.underlying9 (Kd.C_below HR0.out HB.out)⟩ (fun hHeld => ?_)
              clear hK K
              refine norm_ (a' := ?_) ?_ ?_; rotate_left; (· show Act.put _ (some 35) _ = _; simp only [Act.put, sq]; rfl)
              refine one_ (i := 5) (N := some 36) #[T, T, T, T, T, T, T, T, F, F, F, F, F, F] rfl rfl (one_of HT_.out (by kernel_rfl)) (by decide) (fun K hK => ?_)
              have hcv37 := own_string (P := Try.prog) Try.underlying36 Try.underlying5 Try.underlying9 (Kd.own_of_R HO473.out)
              refine value_ (w1 := ?_) (v := ?_) (by rfl) rfl ?_ ?_
              rotate_left 2
              · go_simp
                constructor
                · rfl
                · rfl
              clear hcv37
              refine hK.out _ _ ⟨(blk_cell BK453.out 0).trans rfl, (blk_cell BK453.out 1).trans rfl, (blk_cell BK453.out 2).trans rfl, (blk_cell BK453.out 3).trans rfl, (blk_cell BK453.out 4).trans rfl, (blk_cell BK453.out 5).trans rfl, (blk_cell BK453.out 6).trans rfl, (blk_cell BK453.out 7).trans rfl, (blk_cell BK453.out 8).trans rfl, Kd.C_string (P := Try.prog) (A := A0) (c := c0) Try.underlying36 Try.underlying5 Try.underlying9 (Kd.C_below HR0.out HB.out)⟩ (fun hHeld => ?_)
              clear hK K
              refine norm_ (a' := ?_) ?_ ?_; rotate_left; (· show Act.put _ (some 36) _ = _; simp only [Act.put, sq]; rfl)
              refine pure_ (i := 8) (N := some 39) (v := ?_) (a' := ?_) #[T, T, T, T, T, T, T, T, T, F, F, F, F, F] rfl rfl (any_of HT_.out (by kernel_rfl)) (fun _ _ _ h => h) (Or.inl ⟨by rfl, ?_⟩) ?_ ?_; rotate_left; (· intro w'; go_simp; with_reducible rfl); rotate_left; (· simp only [Act.put, sq]; rfl)
              refine pure_ (i := 9) (N := some 40) (v := ?_) (a' := ?_) #[T, T, T, T, T, T, T, T, T, T, F, F, F, F] rfl rfl (any_of HT_.out (by kernel_rfl)) (fun _ _ _ h => h) (Or.inl ⟨by rfl, ?_⟩) ?_ ?_; rotate_left; (· intro w'; go_simp; with_reducible rfl); rotate_left; (· simp only [Act.put, sq]; rfl)
              refine pure_ (i := 10) (N := some 41) (v := ?_) (a' := ?_) #[T, T, T, T, T, T, T, T, T, T, T, F, F, F] rfl rfl (any_of HT_.out (by kernel_rfl)) (fun _ _ _ h => h) (Or.inl ⟨by rfl, ?_⟩) ?_ ?_; rotate_left; (· intro w'; go_simp; with_reducible rfl); rotate_left; (· simp only [Act.put, sq]; rfl)
              refine one_ (i := 11) (N := some 42) #[T, T, T, T, T, T, T, T, T, T, T, T, F, F] rfl rfl (one_of HT_.out (by kernel_rfl)) (by decide) (fun K hK => ?_)
              refine goes_ Try.func16 (by kernel_rfl) rfl #[] (by rfl) rfl rfl (by (try simp only [List.map_toArray, List.map_cons, List.map_nil]); first | done | rfl | (simp only [List.length_drop, List.length_take]; rfl)) ?_
              with_reducible refine (trommellaw39_live.calls  t474 _ A34.out).mono ?_
              rintro e w40 ⟨rfl, hb⟩
              refine ⟨_, rfl, ?_⟩
              replace HO_454000 := Rb HO_454000 hb
              replace HO_454008 := Rb HO_454008 hb
              replace HO_469000 := Rb HO_469000 hb
              replace HO_469008 := Rb HO_469008 hb
              replace HO473 := Rb HO473 hb
              replace BK453 := Bb BK453 hb
              replace BK468 := Bb BK468 hb
              replace HB := Lb HB hb
              try clear hb; try clear hb2; try clear hk; try clear hi
              refine hK.out _ _ ⟨(blk_cell BK453.out 0).trans rfl, (blk_cell BK453.out 1).trans rfl, (blk_cell BK453.out 2).trans rfl, (blk_cell BK453.out 3).trans rfl, (blk_cell BK453.out 4).trans rfl, (blk_cell BK453.out 5).trans rfl, (blk_cell BK453.out 6).trans rfl, (blk_cell BK453.out 7).trans rfl, (blk_cell BK453.out 8).trans rfl, Kd.C_string (P := Try.prog) (A := A0) (c := c0) Try.underlying36 Try.underlying5 Try.underlying9 (Kd.C_below HR0.out HB.out)⟩ (fun hHeld => ?_)
              clear hK K
              refine norm_ (a' := ?_) ?_ ?_; rotate_left; (· show Act.put _ (some 42) _ = _; simp only [Act.put, sq]; rfl)
              refine pure_ (i := 12) (N := some 43) (v := ?_) (a' := ?_) #[T, T, T, T, T, T, T, T, T, T, T, T, T, F] rfl rfl (any_of HT_.out (by kernel_rfl)) (fun _ _ _ h => h) (Or.inl ⟨by rfl, ?_⟩) ?_ ?_; rotate_left; (· intro w'; go_simp; with_reducible rfl); rotate_left; (· simp only [Act.put, sq]; rfl)
              refine pure_ (i := 13) (N := some 2) (v := ?_) (a' := ?_) #[T, T, T, T, T, T, T, T, T, T, T, T, T, T] rfl rfl (any_of HT_.out (by kernel_rfl)) (fun _ _ _ h => h) (Or.inl ⟨by rfl, ?_⟩) ?_ ?_; rotate_left; (· intro w'; go_simp; with_reducible rfl); rotate_left; (· simp only [Act.put, sq]; rfl)
              refine done_ (done_of HT_.out (by kernel_rfl)) ?_
              try go_wp2
              go_ret
              exact ⟨by first | rfl | (simp [errW_none, errW_some] <;> rfl) | (simp [*, errW_none, errW_some] <;> rfl), by repeat (first | (with_reducible first | exact HB.out | apply below_alloc | apply pw_below_drewN | apply below_drew1 | refine below_set ?_ GE453.out | refine below_set ?_ GE468.out) | exact HB.out)⟩
            · rw [if_neg c33] at H
              have c33b0 : ((strOfNums t471).toList == (strOfNums l0).toList) = false := beq_eq_false_iff_ne.mpr c33
              have c33b1 : ((strOfNums t471).toList != (strOfNums l0).toList) = true := bne_iff_ne.mpr c33
              obtain rfl := Option.some.inj H
              try go_wp2
              replace HO_454000 := Aside0.mk (Kd.R_drew HO_454000.out)
              replace HO_454008 := Aside0.mk (Kd.R_drew HO_454008.out)
              replace HO_469000 := Aside0.mk (Kd.R_drew HO_469000.out)
              replace HO_469008 := Aside0.mk (Kd.R_drew HO_469008.out)
              replace BK453 := Aside0.mk (blk_drew BK453.out)
              replace BK468 := Aside0.mk (blk_drew BK468.out)
              replace HB := Aside0.mk (below_drew1 HB.out)
              refine start_ (n := 14) (S := fun w' => w'.cell? ⟨gb453, 0, none⟩ = some (.slice Ao10 t439.length co10) ∧ w'.cell? ⟨gb453, 1, none⟩ = some (.bool t442) ∧ w'.cell? ⟨gb453, 2, none⟩ = some (.int .i64 t443) ∧ w'.cell? ⟨gb453, 3, none⟩ = some (.int .i64 t444) ∧ w'.cell? ⟨gb453, 4, none⟩ = some (.int .i64 t445) ∧ w'.cell? ⟨gb453, 5, none⟩ = some (.int .i64 t446) ∧ w'.cell? ⟨gb453, 6, none⟩ = some (.int .i64 t447) ∧ w'.cell? ⟨gb453, 7, none⟩ = some (.int .i64 t448) ∧ w'.cell? ⟨gb453, 8, none⟩ = some (.slice Ao12 t449.length co12) ∧ (convert 36 9 (.slice A0 l0.length c0)).run Try.prog w' = .ok (.string (strOfNums l0)) w') (ds := []) #[F, F, F, F, F, F, F, F, F, F, F, F, F, F] (by kernel_rfl) rfl rfl ⟨(blk_cell BK453.out 0).trans rfl, (blk_cell BK453.out 1).trans rfl, (blk_cell BK453.out 2).trans rfl, (blk_cell BK453.out 3).trans rfl, (blk_cell BK453.out 4).trans rfl, (blk_cell BK453.out 5).trans rfl, (blk_cell BK453.out 6).trans rfl, (blk_cell BK453.out 7).trans rfl, (blk_cell BK453.out 8).trans rfl, Kd.C_string (P := Try.prog) (A := A0) (c := c0) Try.underlying36 Try.underlying5 Try.underlying9 (Kd.C_below HR0.out HB.out)⟩ (fun hHeld => ?_); refine with_tabW trommellaw39_CodeGets.tab7 trommellaw39_CodeGets.bits7 (fun HT_ HW_ => ?_)
              generalize wc.drew = w41 at HO_454000 HO_454008 HO_469000 HO_469008 BK453 BK468 HB hHeld ⊢
              refine pure_ (i := 0) (N := some 31) (v := ?_) (a' := ?_) #[T, F, F, F, F, F, F, F, F, F, F, F, F, F] rfl rfl (any_of HT_.out (by kernel_rfl)) (fun _ _ _ h => h) (Or.inl ⟨by rfl, ?_⟩) ?_ ?_; rotate_left; (· intro w'; go_simp; with_reducible rfl); rotate_left; (· simp only [Act.put, sq]; rfl)
              refine pure_ (i := 1) (N := some 32) (v := ?_) (a' := ?_) #[T, T, F, F, F, F, F, F, F, F, F, F, F, F] rfl rfl (any_of HT_.out (by kernel_rfl)) (fun _ _ _ h => h) (Or.inl ⟨by rfl, ?_⟩) ?_ ?_; rotate_left; (· intro w'; go_simp; with_reducible rfl); rotate_left; (· simp only [Act.put, sq]; rfl)
              refine pure_ (i := 2) (N := some 33) (v := ?_) (a' := ?_) #[T, T, T, F, F, F, F, F, F, F, F, F, F, F] rfl rfl (any_of HT_.out (by kernel_rfl)) (fun _ _ _ h => h) (Or.inl ⟨by rfl, ?_⟩) ?_ ?_; rotate_left; (· intro w'; go_simp; with_reducible rfl); rotate_left; (· simp only [Act.put, sq]; rfl)
              refine pure_ (i := 6) (N := some 37) (v := ?_) (a' := ?_) #[T, T, T, F, F, F, T, F, F, F, F, F, F, F] rfl rfl (any_of HT_.out (by kernel_rfl)) (fun _ _ _ h => h) (Or.inl ⟨by rfl, ?_⟩) ?_ ?_; rotate_left; (· intro w'; go_simp; with_reducible rfl); rotate_left; (· simp only [Act.put, sq]; rfl)
              refine take_ (i := 7) (N := some 38) (v := ?_) (a' := ?_) #[T, T, T, F, F, F, T, T, F, F, F, F, F, F] rfl rfl (take_ofW HT_.out HW_.out (by kernel_rfl)) (fun _ _ _ h => h) (Or.inl ⟨by rfl, ?_⟩) hHeld ?_ ?_; rotate_left; (· rintro w' ⟨s0, s1, s2, s3, s4, s5, s6, s7, s8, s9⟩; go_simp; with_reducible rfl); rotate_left; (· simp only [Act.put, sq]; rfl)
              refine take_ (i := 3) (N := some 34) (v := ?_) (a' := ?_) #[T, T, T, T, F, F, T, T, F, F, F, F, F, F] rfl rfl (take_ofW HT_.out HW_.out (by kernel_rfl)) (fun _ _ _ h => h) (Or.inl ⟨by rfl, ?_⟩) hHeld ?_ ?_; rotate_left; (· rintro w' ⟨s0, s1, s2, s3, s4, s5, s6, s7, s8, s9⟩; go_simp; with_reducible rfl); rotate_left; (· simp only [Act.put, sq]; rfl)
              refine one_ (i := 4) (N := some 35) #[T, T, T, T, T, F, T, T, F, F, F, F, F, F] rfl rfl (one_of HT_.out (by kernel_rfl)) (by decide) (fun K hK => ?_)
              refine goes_ Try.func35 (by kernel_rfl) rfl #[.agg #[.slice Ao10 t439.length co10, .bool t442, .int .i64 t443, .int .i64 t444, .int .i64 t445, .int .i64 t446, .int .i64 t447, .int .i64 t448, .slice Ao12 t449.length co12]] (by rfl) rfl rfl (by (try simp only [List.map_toArray, List.map_cons, List.map_nil]); first | done | rfl | (simp only [List.length_drop, List.length_take]; rfl)) ?_
              with_reducible refine (code_Put.calls kj6 _ _ t439 t442 t443 t444 t445 t446 t447 t448 _ _ t449 t471 _ ?side1 ?side2 ?side3 ?side4 A32.out).mono ?_
              (case side1 => exact Cs (Kd.R_reads' HO_454000.out).2.2)
              (case side2 => exact (Kd.R_reads' HO_454000.out).2.1)
              (case side3 => exact Cs (Kd.R_reads' HO_454008.out).2.2)
              (case side4 => exact (Kd.R_reads' HO_454008.out).2.1)
              rintro e w42 ⟨v472, rfl, ho0, hb⟩
              refine ⟨_, rfl, ?_⟩
              replace HO_454000 := Rb HO_454000 hb
              replace HO_454008 := Rb HO_454008 hb
              replace HO_469000 := Rb HO_469000 hb
              replace HO_469008 := Rb HO_469008 hb
              have HO473 := Aside0.mk (Kd.R_lower ho0 (Lz HB))
              replace BK453 := Bb BK453 hb
              replace BK468 := Bb BK468 hb
              replace HB := Lb HB hb
              try clear hb; try clear hb2; try clear hk; try clear hi; try clear ho0
              refine hK.out _ _ ⟨(blk_cell BK453.out 0).trans rfl, (blk_cell BK453.out 1).trans rfl, (blk_cell BK453.out 2).trans rfl, (blk_cell BK453.out 3).trans rfl, (blk_cell BK453.out 4).trans rfl, (blk_cell BK453.out 5).trans rfl, (blk_cell BK453.out 6).trans rfl, (blk_cell BK453.out 7).trans rfl, (blk_cell BK453.out 8).trans rfl, Kd.C_string (P := Try.prog) (A := A0) (c := c0) Try.underlying36 Try.underlying5 Try.underlying9 (Kd.C_below HR0.out HB.out)⟩ (fun hHeld => ?_)
              clear hK K
              refine norm_ (a' := ?_) ?_ ?_; rotate_left; (· show Act.put _ (some 35) _ = _; simp only [Act.put, sq]; rfl)
              refine one_ (i := 5) (N := some 36) #[T, T, T, T, T, T, T, T, F, F, F, F, F, F] rfl rfl (one_of HT_.out (by kernel_rfl)) (by decide) (fun K hK => ?_)
              have hcv43 := own_string (P := Try.prog) Try.underlying36 Try.underlying5 Try.underlying9 (Kd.own_of_R HO473.out)
              refine value_ (w1 := ?_) (v := ?_) (by rfl) rfl ?_ ?_
              rotate_left 2
              · go_simp
                constructor
                · rfl
                · rfl
              clear hcv43
              refine hK.out _ _ ⟨(blk_cell BK453.out 0).trans rfl, (blk_cell BK453.out 1).trans rfl, (blk_cell BK453.out 2).trans rfl, (blk_cell BK453.out 3).trans rfl, (blk_cell BK453.out 4).trans rfl, (blk_cell BK453.out 5).trans rfl, (blk_cell BK453.out 6).trans rfl, (blk_cell BK453.out 7).trans rfl, (blk_cell BK453.out 8).trans rfl, Kd.C_string (P := Try.prog) (A := A0) (c := c0) Try.underlying36 Try.underlying5 Try.underlying9 (Kd.C_below HR0.out HB.out)⟩ (fun hHeld => ?_)
              clear hK K
              refine norm_ (a' := ?_) ?_ ?_; rotate_left; (· show Act.put _ (some 36) _ = _; simp only [Act.put, sq]; rfl)
              refine pure_ (i := 8) (N := some 39) (v := ?_) (a' := ?_) #[T, T, T, T, T, T, T, T, T, F, F, F, F, F] rfl rfl (any_of HT_.out (by kernel_rfl)) (fun _ _ _ h => h) (Or.inl ⟨by rfl, ?_⟩) ?_ ?_; rotate_left; (· intro w'; go_simp; with_reducible rfl); rotate_left; (· simp only [Act.put, sq]; rfl)
              refine pure_ (i := 9) (N := some 40) (v := ?_) (a' := ?_) #[T, T, T, T, T, T, T, T, T, T, F, F, F, F] rfl rfl (any_of HT_.out (by kernel_rfl)) (fun _ _ _ h => h) (Or.inl ⟨by rfl, ?_⟩) ?_ ?_; rotate_left; (· intro w'; go_simp; with_reducible rfl); rotate_left; (· simp only [Act.put, sq]; rfl)
              refine pure_ (i := 10) (N := some 41) (v := ?_) (a' := ?_) #[T, T, T, T, T, T, T, T, T, T, T, F, F, F] rfl rfl (any_of HT_.out (by kernel_rfl)) (fun _ _ _ h => h) (Or.inl ⟨by rfl, ?_⟩) ?_ ?_; rotate_left; (· intro w'; go_simp; with_reducible rfl); rotate_left; (· simp only [Act.put, sq]; rfl)
              refine pure_ (i := 11) (N := some 42) (v := undef) (a' := ?_) #[T, T, T, T, T, T, T, T, T, T, T, T, F, F] rfl rfl (any_of HT_.out (by kernel_rfl)) (fun _ _ _ h => h) (Or.inr ⟨by rfl, rfl⟩) ?_ ?_
              rotate_left; (· simp only [Act.put, sq]; rfl)
              refine pure_ (i := 12) (N := some 43) (v := ?_) (a' := ?_) #[T, T, T, T, T, T, T, T, T, T, T, T, T, F] rfl rfl (any_of HT_.out (by kernel_rfl)) (fun _ _ _ h => h) (Or.inl ⟨by rfl, ?_⟩) ?_ ?_; rotate_left; (· intro w'; go_simp; with_reducible rfl); rotate_left; (· simp only [Act.put, sq]; rfl)
              refine pure_ (i := 13) (N := some 2) (v := ?_) (a' := ?_) #[T, T, T, T, T, T, T, T, T, T, T, T, T, T] rfl rfl (any_of HT_.out (by kernel_rfl)) (fun _ _ _ h => h) (Or.inl ⟨by rfl, ?_⟩) ?_ ?_; rotate_left; (· intro w'; go_simp; with_reducible rfl); rotate_left; (· simp only [Act.put, sq]; rfl)
              refine done_ (done_of HT_.out (by kernel_rfl)) ?_
              try go_wp2
              go_ret
              exact ⟨by first | rfl | (simp [errW_none, errW_some] <;> rfl) | (simp [*, errW_none, errW_some] <;> rfl), by repeat (first | (with_reducible first | exact HB.out | apply below_alloc | apply pw_below_drewN | apply below_drew1 | refine below_set ?_ GE453.out | refine below_set ?_ GE468.out) | exact HB.out)⟩
          · rw [if_neg c31] at H
            have c31b0 : (t467 == 0) = false := beq_eq_false_iff_ne.mpr c31
            have c31b1 : (t467 != 0) = true := bne_iff_ne.mpr c31
            replace H := Option.bind_eq_some_iff.mp H
            obtain ⟨t475, A460, H⟩ := H
            replace H : (some t475) = some r := H
            have A46 := Aside0.mk A460
            clear A460
            obtain rfl := Option.some.inj H
            try go_wp2
            replace HO_454000 := Aside0.mk (Kd.R_drew HO_454000.out)
            replace HO_454008 := Aside0.mk (Kd.R_drew HO_454008.out)
            replace HO_469000 := Aside0.mk (Kd.R_drew HO_469000.out)
            replace HO_469008 := Aside0.mk (Kd.R_drew HO_469008.out)
            replace BK453 := Aside0.mk (blk_drew BK453.out)
            replace BK468 := Aside0.mk (blk_drew BK468.out)
            replace HB := Aside0.mk (below_drew1 HB.out)
            refine start_ (n := 14) (S := fun w' => True) (ds := []) #[F, F, F, F, F, F, F, F, F, F, F, F, F, F] (by kernel_rfl) rfl rfl trivial (fun hHeld => ?_); refine with_tabW trommellaw39_CodeGets.tab7 trommellaw39_CodeGets.bits7 (fun HT_ HW_ => ?_)
            generalize wc.drew = w47 at HO_454000 HO_454008 HO_469000 HO_469008 BK453 BK468 HB hHeld ⊢
            refine pure_ (i := 0) (N := some 31) (v := ?_) (a' := ?_) #[T, F, F, F, F, F, F, F, F, F, F, F, F, F] rfl rfl (any_of HT_.out (by kernel_rfl)) (fun _ _ _ h => h) (Or.inl ⟨by rfl, ?_⟩) ?_ ?_; rotate_left; (· intro w'; go_simp; with_reducible rfl); rotate_left; (· simp only [Act.put, sq]; rfl)
            refine pure_ (i := 1) (N := some 32) (v := ?_) (a' := ?_) #[T, T, F, F, F, F, F, F, F, F, F, F, F, F] rfl rfl (any_of HT_.out (by kernel_rfl)) (fun _ _ _ h => h) (Or.inl ⟨by rfl, ?_⟩) ?_ ?_; rotate_left; (· intro w'; go_simp; with_reducible rfl); rotate_left; (· simp only [Act.put, sq]; rfl)
            refine pure_ (i := 2) (N := some 33) (v := ?_) (a' := ?_) #[T, T, T, F, F, F, F, F, F, F, F, F, F, F] rfl rfl (any_of HT_.out (by kernel_rfl)) (fun _ _ _ h => h) (Or.inl ⟨by rfl, ?_⟩) ?_ ?_; rotate_left; (· intro w'; go_simp; with_reducible rfl); rotate_left; (· simp only [Act.put, sq]; rfl)
            refine pure_ (i := 3) (N := some 34) (v := undef) (a' := ?_) #[T, T, T, T, F, F, F, F, F, F, F, F, F, F] rfl rfl (any_of HT_.out (by kernel_rfl)) (fun _ _ _ h => h) (Or.inr ⟨by rfl, rfl⟩) ?_ ?_
            rotate_left; (· simp only [Act.put, sq]; rfl)
            refine pure_ (i := 4) (N := some 35) (v := undef) (a' := ?_) #[T, T, T, T, T, F, F, F, F, F, F, F, F, F] rfl rfl (any_of HT_.out (by kernel_rfl)) (fun _ _ _ h => h) (Or.inr ⟨by rfl, rfl⟩) ?_ ?_
            rotate_left; (· simp only [Act.put, sq]; rfl)
            refine pure_ (i := 5) (N := some 36) (v := undef) (a' := ?_) #[T, T, T, T, T, T, F, F, F, F, F, F, F, F] rfl rfl (any_of HT_.out (by kernel_rfl)) (fun _ _ _ h => h) (Or.inr ⟨by rfl, rfl⟩) ?_ ?_
            rotate_left; (· simp only [Act.put, sq]; rfl)
            refine pure_ (i := 6) (N := some 37) (v := undef) (a' := ?_) #[T, T, T, T, T, T, T, F, F, F, F, F, F, F] rfl rfl (any_of HT_.out (by kernel_rfl)) (fun _ _ _ h => h) (Or.inr ⟨by rfl, rfl⟩) ?_ ?_
            rotate_left; (· simp only [Act.put, sq]; rfl)
            refine pure_ (i := 7) (N := some 38) (v := undef) (a' := ?_) #[T, T, T, T, T, T, T, T, F, F, F, F, F, F] rfl rfl (any_of HT_.out (by kernel_rfl)) (fun _ _ _ h => h) (Or.inr ⟨by rfl, rfl⟩) ?_ ?_
            rotate_left; (· simp only [Act.put, sq]; rfl)
            refine pure_ (i := 8) (N := some 39) (v := undef) (a' := ?_) #[T, T, T, T, T, T, T, T, T, F, F, F, F, F] rfl rfl (any_of HT_.out (by kernel_rfl)) (fun _ _ _ h => h) (Or.inr ⟨by rfl, rfl⟩) ?_ ?_
            rotate_left; (· simp only [Act.put, sq]; rfl)
            refine pure_ (i := 9) (N := some 40) (v := ?_) (a' := ?_) #[T, T, T, T, T, T, T, T, T, T, F, F, F, F] rfl rfl (any_of HT_.out (by kernel_rfl)) (fun _ _ _ h => h) (Or.inl ⟨by rfl, ?_⟩) ?_ ?_; rotate_left; (· intro w'; go_simp; with_reducible rfl); rotate_left; (· simp only [Act.put, sq]; rfl)
            refine pure_ (i := 10) (N := some 41) (v := ?_) (a' := ?_) #[T, T, T, T, T, T, T, T, T, T, T, F, F, F] rfl rfl (any_of HT_.out (by kernel_rfl)) (fun _ _ _ h => h) (Or.inl ⟨by rfl, ?_⟩) ?_ ?_; rotate_left; (· intro w'; go_simp; with_reducible rfl); rotate_left; (· simp only [Act.put, sq]; rfl)
            refine one_ (i := 11) (N := some 42) #[T, T, T, T, T, T, T, T, T, T, T, T, F, F] rfl rfl (one_of HT_.out (by kernel_rfl)) (by decide) (fun K hK => ?_)
            refine goes_ Try.func16 (by kernel_rfl) rfl #[] (by rfl) rfl rfl (by (try simp only [List.map_toArray, List.map_cons, List.map_nil]); first | done | rfl | (simp only [List.length_drop, List.length_take]; rfl)) ?_
            with_reducible refine (trommellaw39_live.calls  t475 _ A46.out).mono ?_
            rintro e w48 ⟨rfl, hb⟩
            refine ⟨_, rfl, ?_⟩
            replace HO_454000 := Rb HO_454000 hb
            replace HO_454008 := Rb HO_454008 hb
            replace HO_469000 := Rb HO_469000 hb
            replace HO_469008 := Rb HO_469008 hb
            replace BK453 := Bb BK453 hb
            replace BK468 := Bb BK468 hb
            replace HB := Lb HB hb
            try clear hb; try clear hb2; try clear hk; try clear hi
            refine hK.out _ _ trivial (fun hHeld => ?_)
            clear hK K
            refine norm_ (a' := ?_) ?_ ?_; rotate_left; (· show Act.put _ (some 42) _ = _; simp only [Act.put, sq]; rfl)
            refine pure_ (i := 12) (N := some 43) (v := ?_) (a' := ?_) #[T, T, T, T, T, T, T, T, T, T, T, T, T, F] rfl rfl (any_of HT_.out (by kernel_rfl)) (fun _ _ _ h => h) (Or.inl ⟨by rfl, ?_⟩) ?_ ?_; rotate_left; (· intro w'; go_simp; with_reducible rfl); rotate_left; (· simp only [Act.put, sq]; rfl)
            refine pure_ (i := 13) (N := some 2) (v := ?_) (a' := ?_) #[T, T, T, T, T, T, T, T, T, T, T, T, T, T] rfl rfl (any_of HT_.out (by kernel_rfl)) (fun _ _ _ h => h) (Or.inl ⟨by rfl, ?_⟩) ?_ ?_; rotate_left; (· intro w'; go_simp; with_reducible rfl); rotate_left; (· simp only [Act.put, sq]; rfl)
            refine done_ (done_of HT_.out (by kernel_rfl)) ?_
            try go_wp2
            go_ret
            exact ⟨by first | rfl | (simp [errW_none, errW_some] <;> rfl) | (simp [*, errW_none, errW_some] <;> rfl), by repeat (first | (with_reducible first | exact HB.out | apply below_alloc | apply pw_below_drewN | apply below_drew1 | refine below_set ?_ GE453.out | refine below_set ?_ GE468.out) | exact HB.out)⟩

/-- THE ONE PURE STATEMENT of trommellaw39_CodeGets: yours. -/
def trommellaw39_CodeGets.Pure : Prop := ∀ (l0 : List Int), l0.length ≤ maxLen → l0.length * 1 ≤ 140737488351232 → (∀ x ∈ l0, (Lit.int .u8 x).wf = true) → ∃ k, trommellaw39_CodeGets.f k l0 = some true
theorem trommellaw39_CodeGets.walk (P : trommellaw39_CodeGets.Pure) (a0 : Option Addr) (len0 cap0 : Nat) (z0 : List Int) (w : World) (w0 : (a0 = none ∧ len0 = 0 ∧ cap0 = 0 ∧ z0 = []) ∨ ∃ x, a0 = some x ∧ len0 ≤ cap0 ∧ cap0 ≤ maxLen ∧ z0.length = cap0 ∧ (∀ i, i < z0.length → w.cell? (x.add i) = some (.int .u8 (z0.getD i 0))) ∧ ∀ n ∈ z0, (Lit.int .u8 n).wf = true) (y0 : len0 * 1 ≤ 140737488351232) :
    Calls Try.prog 8 #[.slice a0 len0 cap0] w fun e w' => e = .returned (.bool true) ∧ Below w.heap.size w w' := by
  obtain ⟨l0, rfl, hr0, hm0, hw0, hc0⟩ := ReadsInt.ofRowC w0
  obtain ⟨k, h⟩ := P l0 hm0 y0 hw0
  refine (trommellaw39_CodeGets.calls k _ _ l0 true w (Kd.C_of_reads (d := (0 : Int)) (h1 := fun _ => rfl) hr0) hc0 h).mono ?_
  rintro e w' ⟨rfl, hd⟩
  exact ⟨rfl, hd⟩

end Go.Proofs.Ytobfhacdljmooaa.PCodeP
