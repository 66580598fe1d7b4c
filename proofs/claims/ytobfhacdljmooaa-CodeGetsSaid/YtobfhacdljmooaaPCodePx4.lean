-- written for this claim by wip/pr/hand.py (the kit's print, with contracts proved by hand)
import Derived.Test.YtobfhacdljmooaaPCodePx0
import Derived.Test.YtobfhacdljmooaaSq
import Derived.Test.YtobfhacdljmooaaPCodePx2
import Derived.Test.YtobfhacdljmooaaPCodePx3
namespace Go.Proofs.Ytobfhacdljmooaa.PCodeP
open Go.RowKit Go.Proofs.YtobfhacdljmooaaW.PrintWords Go.Proofs.YtobfhacdljmooaaW.PrintLast Go.Proofs.YtobfhacdljmooaaW.PrintMore Go.Proofs.Ytobfhacdljmooaa.Sq
attribute [local go_sem] max2_int min2_int max_two min_two max_three min_three max_four min_four   -- for this text's walks alone
set_option linter.unusedVariables false
set_option linter.unusedSimpArgs false

/-! ### code_Put: function 35 -/
mutual
def code_Put.j0 : Nat → Int → List (S87) → Bool → Int → Int → Int → Int → Int → Int → List Int → Option (List Int)
  | 0, _, _, _, _, _, _, _, _, _, _ => none
  | k + 1, x3, x121000, x121001, x121002, x121003, x121004, x121005, x121006, x121007, x121008 => (some (([x3, x121002, x121003, x121004, x121005, x121006, x121007] : List Int) : List Int)).bind fun y122 => (code_Put.l0 k ([] : List Int) y122 (y122.length : Int) 0 x121000 x121001 x121002 x121003 x121004 x121005 x121006 x121007 x121008)
def code_Put.l0 : Nat → List Int → List Int → Int → Int → List (S87) → Bool → Int → Int → Int → Int → Int → Int → List Int → Option (List Int)
  | 0, _, _, _, _, _, _, _, _, _, _, _, _, _ => none
  | k + 1, x5, x29, x30, x31, x121000, x121001, x121002, x121003, x121004, x121005, x121006, x121007, x121008 => if x31 < x30 then (if 0 ≤ x31 then (if x31 < (x29.length : Int) then ((code_PutInt.f x5 (rd x29 x31)).bind fun t126 => (code_Put.l0 k t126 x29 x30 (wrap64 (x31 + 1)) x121000 x121001 x121002 x121003 x121004 x121005 x121006 x121007 x121008)) else (none)) else (none)) else ((code_PutInts.f k x5 x121008).bind fun t129 => ((code_PutInt.f t129 (x121000.length : Int)).bind fun t132 => (code_Put.l1 k t132 x121000 (x121000.length : Int) 0)))
def code_Put.l1 : Nat → List Int → List (S87) → Int → Int → Option (List Int)
  | 0, _, _, _, _ => none
  | k + 1, x5, x48, x49, x50 => if x50 < x49 then (if 0 ≤ x50 then (if x50 < (x48.length : Int) then ((code_PutInt.f x5 ((rd_T87 x48 x50).f0)).bind fun t137 => ((code_PutInt.f t137 (((rd_T87 x48 x50).f1).length : Int)).bind fun t140 => (code_Put.l2 k t140 x48 x49 x50 ((rd_T87 x48 x50).f1) (((rd_T87 x48 x50).f1).length : Int) 0))) else (none)) else (none)) else (some x5)
def code_Put.l2 : Nat → List Int → List (S87) → Int → Int → List (S89) → Int → Int → Option (List Int)
  | 0, _, _, _, _, _, _, _ => none
  | k + 1, x5, x48, x49, x50, x63, x64, x65 => if x65 < x64 then (if 0 ≤ x65 then (if x65 < (x63.length : Int) then ((code_PutInt.f x5 ((rd_T89 x63 x65).f0)).bind fun t145 => ((code_PutInt.f t145 ((rd_T89 x63 x65).f1)).bind fun t148 => ((code_PutInts.f k t148 ((rd_T89 x63 x65).f2)).bind fun t151 => (code_Put.l2 k t151 x48 x49 x50 x63 x64 (wrap64 (x65 + 1)))))) else (none)) else (none)) else (code_Put.l1 k x5 x48 x49 (wrap64 (x50 + 1)))
end
def code_Put.f (k : Nat) (l0_0 : List (S87)) (a0_1 : Bool) (a0_2 : Int) (a0_3 : Int) (a0_4 : Int) (a0_5 : Int) (a0_6 : Int) (a0_7 : Int) (l0_8 : List Int) : Option (List Int) := if a0_1 = true then (code_Put.j0 k 1 l0_0 a0_1 a0_2 a0_3 a0_4 a0_5 a0_6 a0_7 l0_8) else (code_Put.j0 k 0 l0_0 a0_1 a0_2 a0_3 a0_4 a0_5 a0_6 a0_7 l0_8)
theorem code_Put.mono_l : ∀ k, (∀ y0 y1 y2 y3 y4 y5 y6 y7 y8 y9, LeO (code_Put.j0 k y0 y1 y2 y3 y4 y5 y6 y7 y8 y9) (code_Put.j0 (k + 1) y0 y1 y2 y3 y4 y5 y6 y7 y8 y9)) ∧ (∀ y0 y1 y2 y3 y4 y5 y6 y7 y8 y9 y10 y11 y12, LeO (code_Put.l0 k y0 y1 y2 y3 y4 y5 y6 y7 y8 y9 y10 y11 y12) (code_Put.l0 (k + 1) y0 y1 y2 y3 y4 y5 y6 y7 y8 y9 y10 y11 y12)) ∧ (∀ y0 y1 y2 y3, LeO (code_Put.l1 k y0 y1 y2 y3) (code_Put.l1 (k + 1) y0 y1 y2 y3)) ∧ (∀ y0 y1 y2 y3 y4 y5 y6, LeO (code_Put.l2 k y0 y1 y2 y3 y4 y5 y6) (code_Put.l2 (k + 1) y0 y1 y2 y3 y4 y5 y6))
  | 0 => ⟨fun _ _ _ _ _ _ _ _ _ _ r h => by simp [code_Put.j0] at h, fun _ _ _ _ _ _ _ _ _ _ _ _ _ r h => by simp [code_Put.l0] at h, fun _ _ _ _ r h => by simp [code_Put.l1] at h, fun _ _ _ _ _ _ _ r h => by simp [code_Put.l2] at h⟩
  | k + 1 => by
    obtain ⟨ih0, ih1, ih2, ih3⟩ := code_Put.mono_l k
    refine ⟨?_, ?_, ?_, ?_⟩
    · intro y0 y1 y2 y3 y4 y5 y6 y7 y8 y9
      unfold code_Put.j0
      repeat' first
      | (with_reducible exact ih0 _ _ _ _ _ _ _ _ _ _)
      | (with_reducible exact ih1 _ _ _ _ _ _ _ _ _ _ _ _ _)
      | (with_reducible exact ih2 _ _ _ _)
      | (with_reducible exact ih3 _ _ _ _ _ _ _)
      | (with_reducible exact code_PutInts.mono _ _ _)
      | (with_reducible exact LeO.refl _)
      | (with_reducible exact LeO.none _)
      | (with_reducible refine LeO.ite ?_ ?_)
      | (with_reducible refine LeO.bind ?_ (fun _ => ?_))
      | exact ih0 _ _ _ _ _ _ _ _ _ _
      | exact ih1 _ _ _ _ _ _ _ _ _ _ _ _ _
      | exact ih2 _ _ _ _
      | exact ih3 _ _ _ _ _ _ _
      | exact code_PutInts.mono _ _ _
      | exact LeO.none _
      | refine LeO.ite ?_ ?_
      | refine LeO.bind ?_ (fun _ => ?_)
    · intro y0 y1 y2 y3 y4 y5 y6 y7 y8 y9 y10 y11 y12
      unfold code_Put.l0
      repeat' first
      | (with_reducible exact ih0 _ _ _ _ _ _ _ _ _ _)
      | (with_reducible exact ih1 _ _ _ _ _ _ _ _ _ _ _ _ _)
      | (with_reducible exact ih2 _ _ _ _)
      | (with_reducible exact ih3 _ _ _ _ _ _ _)
      | (with_reducible exact code_PutInts.mono _ _ _)
      | (with_reducible exact LeO.refl _)
      | (with_reducible exact LeO.none _)
      | (with_reducible refine LeO.ite ?_ ?_)
      | (with_reducible refine LeO.bind ?_ (fun _ => ?_))
      | exact ih0 _ _ _ _ _ _ _ _ _ _
      | exact ih1 _ _ _ _ _ _ _ _ _ _ _ _ _
      | exact ih2 _ _ _ _
      | exact ih3 _ _ _ _ _ _ _
      | exact code_PutInts.mono _ _ _
      | exact LeO.none _
      | refine LeO.ite ?_ ?_
      | refine LeO.bind ?_ (fun _ => ?_)
    · intro y0 y1 y2 y3
      unfold code_Put.l1
      repeat' first
      | (with_reducible exact ih0 _ _ _ _ _ _ _ _ _ _)
      | (with_reducible exact ih1 _ _ _ _ _ _ _ _ _ _ _ _ _)
      | (with_reducible exact ih2 _ _ _ _)
      | (with_reducible exact ih3 _ _ _ _ _ _ _)
      | (with_reducible exact code_PutInts.mono _ _ _)
      | (with_reducible exact LeO.refl _)
      | (with_reducible exact LeO.none _)
      | (with_reducible refine LeO.ite ?_ ?_)
      | (with_reducible refine LeO.bind ?_ (fun _ => ?_))
      | exact ih0 _ _ _ _ _ _ _ _ _ _
      | exact ih1 _ _ _ _ _ _ _ _ _ _ _ _ _
      | exact ih2 _ _ _ _
      | exact ih3 _ _ _ _ _ _ _
      | exact code_PutInts.mono _ _ _
      | exact LeO.none _
      | refine LeO.ite ?_ ?_
      | refine LeO.bind ?_ (fun _ => ?_)
    · intro y0 y1 y2 y3 y4 y5 y6
      unfold code_Put.l2
      repeat' first
      | (with_reducible exact ih0 _ _ _ _ _ _ _ _ _ _)
      | (with_reducible exact ih1 _ _ _ _ _ _ _ _ _ _ _ _ _)
      | (with_reducible exact ih2 _ _ _ _)
      | (with_reducible exact ih3 _ _ _ _ _ _ _)
      | (with_reducible exact code_PutInts.mono _ _ _)
      | (with_reducible exact LeO.refl _)
      | (with_reducible exact LeO.none _)
      | (with_reducible refine LeO.ite ?_ ?_)
      | (with_reducible refine LeO.bind ?_ (fun _ => ?_))
      | exact ih0 _ _ _ _ _ _ _ _ _ _
      | exact ih1 _ _ _ _ _ _ _ _ _ _ _ _ _
      | exact ih2 _ _ _ _
      | exact ih3 _ _ _ _ _ _ _
      | exact code_PutInts.mono _ _ _
      | exact LeO.none _
      | refine LeO.ite ?_ ?_
      | refine LeO.bind ?_ (fun _ => ?_)
theorem code_Put.mono : ∀ a0 a1 a2 a3 a4 a5 a6 a7 a8 k, LeO (code_Put.f k a0 a1 a2 a3 a4 a5 a6 a7 a8) (code_Put.f (k + 1) a0 a1 a2 a3 a4 a5 a6 a7 a8) := by
  intro a0 a1 a2 a3 a4 a5 a6 a7 a8 k
  obtain ⟨ih0, ih1, ih2, ih3⟩ := code_Put.mono_l k
  unfold code_Put.f
  repeat' first
      | (with_reducible exact ih0 _ _ _ _ _ _ _ _ _ _)
      | (with_reducible exact ih1 _ _ _ _ _ _ _ _ _ _ _ _ _)
      | (with_reducible exact ih2 _ _ _ _)
      | (with_reducible exact ih3 _ _ _ _ _ _ _)
      | (with_reducible exact code_PutInts.mono _ _ _)
      | (with_reducible exact LeO.refl _)
      | (with_reducible exact LeO.none _)
      | (with_reducible refine LeO.ite ?_ ?_)
      | (with_reducible refine LeO.bind ?_ (fun _ => ?_))
      | exact ih0 _ _ _ _ _ _ _ _ _ _
      | exact ih1 _ _ _ _ _ _ _ _ _ _ _ _ _
      | exact ih2 _ _ _ _
      | exact ih3 _ _ _ _ _ _ _
      | exact code_PutInts.mono _ _ _
      | exact LeO.none _
      | refine LeO.ite ?_ ?_
      | refine LeO.bind ?_ (fun _ => ?_)
def code_Put.T11 : Bool × List (List Nat × List Nat) := (true, [([], []), ([], []), ([1], [1]), ([0, 2], [0, 2]), ([], []), ([4], [4]), ([5], [5]), ([3, 6, 3], [3, 6]), ([7, 7, 0, 1, 2, 3, 4, 5, 6, 7], [0, 7])])
def code_Put.B11 : List Nat := [0, 0, 2, 7, 0, 16, 48, 127, 255]
theorem code_Put.tab11 : rtab .any (opsOf Try.f35 11) = code_Put.T11 := by kernel_rfl
theorem code_Put.bits11 : waitsOk code_Put.T11.2 code_Put.B11 = true := by kernel_rfl
def code_Put.T15 : Bool × List (List Nat × List Nat) := (true, [([], []), ([], []), ([1], [1]), ([0, 2], [0, 2]), ([], []), ([4], [4]), ([5], [5]), ([3, 6, 3], [3, 6]), ([7, 7, 0, 1, 2, 3, 4, 5, 6, 7], [0, 7])])
def code_Put.B15 : List Nat := [0, 0, 2, 7, 0, 16, 48, 127, 255]
theorem code_Put.tab15 : rtab .any (opsOf Try.f35 15) = code_Put.T15 := by kernel_rfl
theorem code_Put.bits15 : waitsOk code_Put.T15.2 code_Put.B15 = true := by kernel_rfl
def code_Put.T19 : Bool × List (List Nat × List Nat) := (true, [([], []), ([], []), ([1], [1]), ([0, 2], [0, 2]), ([], []), ([4], [4]), ([3, 5, 3], [3, 5]), ([], []), ([7], [7]), ([6, 8, 6], [6, 8]), ([9, 9, 0, 1, 2, 3, 4, 5, 6, 7, 8, 9], [0, 9])])
def code_Put.B19 : List Nat := [0, 0, 2, 7, 0, 16, 63, 0, 128, 511, 1023]
theorem code_Put.tab19 : rtab .any (opsOf Try.f35 19) = code_Put.T19 := by kernel_rfl
theorem code_Put.bits19 : waitsOk code_Put.T19.2 code_Put.B19 = true := by kernel_rfl
set_option maxHeartbeats 8000000 in
set_option maxRecDepth 100000 in
theorem code_Put.calls (k : Nat) (A0_0 : Option Addr) (c0_0 : Nat) (l0_0 : List (S87)) (a0_1 : Bool) (a0_2 : Int) (a0_3 : Int) (a0_4 : Int) (a0_5 : Int) (a0_6 : Int) (a0_7 : Int) (A0_8 : Option Addr) (c0_8 : Nat) (l0_8 : List Int) (r : List Int) (w : World) (hr0_0 : Kd.C k87 w A0_0 l0_0.length l0_0) (hc0_0 : l0_0.length ≤ c0_0) (hr0_8 : Kd.C (Kd.int .i64) w A0_8 l0_8.length l0_8) (hc0_8 : l0_8.length ≤ c0_8) (h : code_Put.f k l0_0 a0_1 a0_2 a0_3 a0_4 a0_5 a0_6 a0_7 l0_8 = some r) :
    Calls Try.prog 35 #[.agg #[.slice A0_0 l0_0.length c0_0, .bool a0_1, .int .i64 a0_2, .int .i64 a0_3, .int .i64 a0_4, .int .i64 a0_5, .int .i64 a0_6, .int .i64 a0_7, .slice A0_8 l0_8.length c0_8]] w fun e w' => ∃ v0_ : Value, e = .returned (v0_) ∧ Kd.R (Kd.int .u8) 5 w' w.heap.size (fun _ => True) v0_ r ∧ Below w.heap.size w w' := by
  have hu63 := Try.underlying63
  have hu61 := Try.underlying61
  have hu87 := Try.underlying87
  have hu89 := Try.underlying89
  have HR0_0 := Aside0.mk hr0_0
  have HC0_0 := Aside0.mk hc0_0
  clear hr0_0 hc0_0
  have HR0_8 := Aside0.mk hr0_8
  have HC0_8 := Aside0.mk hc0_8
  clear hr0_8 hc0_8
  have HB := Aside0.mk (Below.refl w.heap.size w)
  have H : (if a0_1 = true then (code_Put.j0 k 1 l0_0 a0_1 a0_2 a0_3 a0_4 a0_5 a0_6 a0_7 l0_8) else (code_Put.j0 k 0 l0_0 a0_1 a0_2 a0_3 a0_4 a0_5 a0_6 a0_7 l0_8)) = some r := h
  clear h
  have HC2 := Aside0.mk H
  clear H
  go_enter Try.func35, Try.ntmps35
  go_upto_if 13 with (first | ((with_reducible refine gate_dst (N := 1) rfl ?_); refine box_event ?hg (N := 1) ?hd (cs := #[.slice A0_0 l0_0.length c0_0, .bool a0_1, .int .i64 a0_2, .int .i64 a0_3, .int .i64 a0_4, .int .i64 a0_5, .int .i64 a0_6, .int .i64 a0_7, .slice A0_8 l0_8.length c0_8]) (t := 63) ?hr ?_; (case hd => rfl); (case hg => rfl); (case hr => first | (go_simp; done) | (go_simp; rfl)); intro gb120 hg w3 hbox hb; have n0_ := Lb HB hb; have n1_ := Aside0.mk (hbox); have n2_ := Aside0.mk ((by rw [hg]; exact (Lz HB) : w.heap.size ≤ gb120)); have n3_ := Aside0.mk ((by rw [hg]; exact (Lz HB) : w.heap.size ≤ gb120)); clear HB; have HB := n0_; have BK120 := n1_; have GW120 := n2_; have GE120 := n3_; clear n0_ n1_ n2_ n3_; clear hb hbox hg; have hcz4_0 : w3.cell? ⟨gb120, 0, none⟩ = some (.slice A0_0 l0_0.length c0_0) := (blk_cell BK120.out 0).trans rfl; have hcz4_1 : w3.cell? ⟨gb120, 1, none⟩ = some (.bool a0_1) := (blk_cell BK120.out 1).trans rfl; have hcz4_2 : w3.cell? ⟨gb120, 2, none⟩ = some (.int .i64 a0_2) := (blk_cell BK120.out 2).trans rfl; have hcz4_3 : w3.cell? ⟨gb120, 3, none⟩ = some (.int .i64 a0_3) := (blk_cell BK120.out 3).trans rfl; have hcz4_4 : w3.cell? ⟨gb120, 4, none⟩ = some (.int .i64 a0_4) := (blk_cell BK120.out 4).trans rfl; have hcz4_5 : w3.cell? ⟨gb120, 5, none⟩ = some (.int .i64 a0_5) := (blk_cell BK120.out 5).trans rfl; have hcz4_6 : w3.cell? ⟨gb120, 6, none⟩ = some (.int .i64 a0_6) := (blk_cell BK120.out 6).trans rfl; have hcz4_7 : w3.cell? ⟨gb120, 7, none⟩ = some (.int .i64 a0_7) := (blk_cell BK120.out 7).trans rfl; have hcz4_8 : w3.cell? ⟨gb120, 8, none⟩ = some (.slice A0_8 l0_8.length c0_8) := (blk_cell BK120.out 8).trans rfl; have hfz4_0 := blk_frozen BK120.out 0; have hfz4_1 := blk_frozen BK120.out 1; have hfz4_2 := blk_frozen BK120.out 2; have hfz4_3 := blk_frozen BK120.out 3; have hfz4_4 := blk_frozen BK120.out 4; have hfz4_5 := blk_frozen BK120.out 5; have hfz4_6 := blk_frozen BK120.out 6; have hfz4_7 := blk_frozen BK120.out 7; have hfz4_8 := blk_frozen BK120.out 8))
  (try simp only [Act.put, List.setIfInBounds_toArray, List.set_cons_zero, List.set_cons_succ])
  go_cut [3] (fun v3 wc => ∃ (kq : Nat) (x3_1 : Int), v3 = .int .i64 x3_1 ∧ Aside0 (code_Put.j0 kq x3_1 l0_0 a0_1 a0_2 a0_3 a0_4 a0_5 a0_6 a0_7 l0_8 = some r) ∧ Aside0 (kq ≤ k) ∧ Aside0 (wc.heap[gb120]? = some (.cells #[(.slice A0_0 l0_0.length c0_0), .bool a0_1, .int .i64 a0_2, .int .i64 a0_3, .int .i64 a0_4, .int .i64 a0_5, .int .i64 a0_6, .int .i64 a0_7, (.slice A0_8 l0_8.length c0_8)] 63 (0, 0))) ∧ Aside0 (Below w.heap.size w wc))
  case first =>
    have H := HC2.out
    clear HC2
    by_cases c5 : a0_1 = true
    · subst c5
      have H1 : (code_Put.j0 k 1 l0_0 true a0_2 a0_3 a0_4 a0_5 a0_6 a0_7 l0_8) = some r := by rw [if_pos rfl] at H; exact H
      clear H
      have H := H1
      clear H1
      have H' := Aside0.mk H
      clear H
      go_wp2
      go_meet
      case rel => exact ⟨_, (1), (by first | rfl | (simp; done) | (simp [*]; done)), H', ⟨by first | omega | exact Nat.le_refl _⟩, ⟨Bs BK120.out⟩, ⟨Ls HB⟩⟩
    · replace c5 := Bool.eq_false_iff.mpr c5
      subst c5
      have H1 : (code_Put.j0 k 0 l0_0 false a0_2 a0_3 a0_4 a0_5 a0_6 a0_7 l0_8) = some r := by rw [if_neg (show ¬ (false = true) by decide)] at H; exact H
      clear H
      have H := H1
      clear H1
      have H' := Aside0.mk H
      clear H
      go_wp2
      go_meet
      case rel => exact ⟨_, (0), (by first | rfl | (simp; done) | (simp [*]; done)), H', ⟨by first | omega | exact Nat.le_refl _⟩, ⟨Bs BK120.out⟩, ⟨Ls HB⟩⟩
  case rest =>
    clear HC2
    try clear p2; try clear c3; try clear c5; try clear hcz4_0; try clear hcz4_1; try clear hcz4_2; try clear hcz4_3; try clear hcz4_4; try clear hcz4_5; try clear hcz4_6; try clear hcz4_7; try clear hcz4_8; try clear hfz4_0; try clear hfz4_1; try clear hfz4_2; try clear hfz4_3; try clear hfz4_4; try clear hfz4_5; try clear hfz4_6; try clear hfz4_7; try clear hfz4_8
    obtain ⟨kq, x3_1, rfl, HA, HJ1, BK120, HB⟩ := hcut
    cases kq with
    | zero => exact absurd HA.out (by simp [code_Put.j0])
    | succ kj1 =>
      have H := HA.out
      clear HA
      simp only [code_Put.j0] at H
      obtain ⟨y122, hy122⟩ : ∃ y_ : List Int, y_ = (([x3_1, a0_2, a0_3, a0_4, a0_5, a0_6, a0_7] : List Int)) := ⟨_, rfl⟩
      replace H : (code_Put.l0 kj1 ([] : List Int) y122 (y122.length : Int) 0 l0_0 a0_1 a0_2 a0_3 a0_4 a0_5 a0_6 a0_7 l0_8) = some r := by first | (rw [hy122]; with_reducible exact H) | (have H2_ := (Option.bind_some _ _).symm.trans H; rw [hy122]; with_reducible exact H2_) | (have H2_ := (Option.bind_some _ _).symm.trans H; with_reducible exact H2_) | with_reducible exact H | (rw [hy122]; exact H) | exact H
      have Ny122 := Aside0.mk hy122
      clear hy122
      have H' := Aside0.mk H
      clear H
      have hcz6_0 : wc.cell? ⟨gb120, 0, none⟩ = some (.slice A0_0 l0_0.length c0_0) := (blk_cell BK120.out 0).trans rfl
      have hcz6_1 : wc.cell? ⟨gb120, 1, none⟩ = some (.bool a0_1) := (blk_cell BK120.out 1).trans rfl
      have hcz6_2 : wc.cell? ⟨gb120, 2, none⟩ = some (.int .i64 a0_2) := (blk_cell BK120.out 2).trans rfl
      have hcz6_3 : wc.cell? ⟨gb120, 3, none⟩ = some (.int .i64 a0_3) := (blk_cell BK120.out 3).trans rfl
      have hcz6_4 : wc.cell? ⟨gb120, 4, none⟩ = some (.int .i64 a0_4) := (blk_cell BK120.out 4).trans rfl
      have hcz6_5 : wc.cell? ⟨gb120, 5, none⟩ = some (.int .i64 a0_5) := (blk_cell BK120.out 5).trans rfl
      have hcz6_6 : wc.cell? ⟨gb120, 6, none⟩ = some (.int .i64 a0_6) := (blk_cell BK120.out 6).trans rfl
      have hcz6_7 : wc.cell? ⟨gb120, 7, none⟩ = some (.int .i64 a0_7) := (blk_cell BK120.out 7).trans rfl
      have hcz6_8 : wc.cell? ⟨gb120, 8, none⟩ = some (.slice A0_8 l0_8.length c0_8) := (blk_cell BK120.out 8).trans rfl
      have hfz6_0 := blk_frozen BK120.out 0
      have hfz6_1 := blk_frozen BK120.out 1
      have hfz6_2 := blk_frozen BK120.out 2
      have hfz6_3 := blk_frozen BK120.out 3
      have hfz6_4 := blk_frozen BK120.out 4
      have hfz6_5 := blk_frozen BK120.out 5
      have hfz6_6 := blk_frozen BK120.out 6
      have hfz6_7 := blk_frozen BK120.out 7
      have hfz6_8 := blk_frozen BK120.out 8
      go_wp2_with (first | ((with_reducible refine gate_dst (N := 4) rfl ?_); refine box_event ?hg (N := 4) ?hd (cs := #[.int .i64 0, .int .i64 0, .int .i64 0, .int .i64 0, .int .i64 0, .int .i64 0]) (t := 61) ?hr ?_; (case hd => rfl); (case hg => rfl); (case hr => first | (go_simp; done) | (go_simp; rfl)); intro gb121 hg w7 hbox hb; have n0_ := Bb BK120 hb; have n1_ := Lb HB hb; have n2_ := Aside0.mk (hbox); have n3_ := Aside0.mk ((by rw [hg]; exact (Lz HB) : w.heap.size ≤ gb121)); have n4_ := Aside0.mk ((by rw [hg]; exact (Lz HB) : w.heap.size ≤ gb121)); have n5_ := Aside0.mk ((by rw [hg]; exact Nat.ne_of_lt (blk_lt (g := gb120) (o := .cells #[.slice A0_0 l0_0.length c0_0, .bool a0_1, .int .i64 a0_2, .int .i64 a0_3, .int .i64 a0_4, .int .i64 a0_5, .int .i64 a0_6, .int .i64 a0_7, .slice A0_8 l0_8.length c0_8] 63 (0, 0)) (Bs BK120.out)) : gb120 ≠ gb121)); have n6_ := Aside0.mk ((by rw [hg]; exact Nat.ne_of_gt (blk_lt (g := gb120) (o := .cells #[.slice A0_0 l0_0.length c0_0, .bool a0_1, .int .i64 a0_2, .int .i64 a0_3, .int .i64 a0_4, .int .i64 a0_5, .int .i64 a0_6, .int .i64 a0_7, .slice A0_8 l0_8.length c0_8] 63 (0, 0)) (Bs BK120.out)) : gb121 ≠ gb120)); clear BK120 HB; have BK120 := n0_; have HB := n1_; have BK121 := n2_; have GW121 := n3_; have GE121 := n4_; have NB120_121 := n5_; have NB121_120 := n6_; clear n0_ n1_ n2_ n3_ n4_ n5_ n6_; clear hb hbox hg; have hnb8 := NB121_120.out; have hnc8 := NB120_121.out; have hcz9_0 : w7.cell? ⟨gb121, 0, none⟩ = some (.int .i64 0) := (blk_cell BK121.out 0).trans rfl; have hcz9_1 : w7.cell? ⟨gb121, 1, none⟩ = some (.int .i64 0) := (blk_cell BK121.out 1).trans rfl; have hcz9_2 : w7.cell? ⟨gb121, 2, none⟩ = some (.int .i64 0) := (blk_cell BK121.out 2).trans rfl; have hcz9_3 : w7.cell? ⟨gb121, 3, none⟩ = some (.int .i64 0) := (blk_cell BK121.out 3).trans rfl; have hcz9_4 : w7.cell? ⟨gb121, 4, none⟩ = some (.int .i64 0) := (blk_cell BK121.out 4).trans rfl; have hcz9_5 : w7.cell? ⟨gb121, 5, none⟩ = some (.int .i64 0) := (blk_cell BK121.out 5).trans rfl; have hfz9_0 := blk_frozen BK121.out 0; have hfz9_1 := blk_frozen BK121.out 1; have hfz9_2 := blk_frozen BK121.out 2; have hfz9_3 := blk_frozen BK121.out 3; have hfz9_4 := blk_frozen BK121.out 4; have hfz9_5 := blk_frozen BK121.out 5) | ((with_reducible refine gate_dst (N := 29) rfl ?_); refine Kd.R_lit (Kd.int .i64) _ 3 ?hg (N := 29) ?hd (xs := ([x3_1, a0_2, a0_3, a0_4, a0_5, a0_6, a0_7] : List Int)) (inner := [.int .i64 x3_1, .int .i64 a0_2, .int .i64 a0_3, .int .i64 a0_4, .int .i64 a0_5, .int .i64 a0_6, .int .i64 a0_7]) (ok := fun _ => True) (okp := fun _ => True) ?hr ?hp (fun _ hk => hk) trivial (Below.refl _ _) (Nat.le_refl _) (by simp) ?_; (case hd => rfl); (case hg => rfl); (case hr => first | (go_simp; done) | (go_simp; rfl)); (case hp => exact (Reps.one (show Kd.M (Kd.int .i64) _ _ _ x3_1 [.int .i64 x3_1] from rfl) (Reps.one (show Kd.M (Kd.int .i64) _ _ _ a0_2 [.int .i64 a0_2] from rfl) (Reps.one (show Kd.M (Kd.int .i64) _ _ _ a0_3 [.int .i64 a0_3] from rfl) (Reps.one (show Kd.M (Kd.int .i64) _ _ _ a0_4 [.int .i64 a0_4] from rfl) (Reps.one (show Kd.M (Kd.int .i64) _ _ _ a0_5 [.int .i64 a0_5] from rfl) (Reps.one (show Kd.M (Kd.int .i64) _ _ _ a0_6 [.int .i64 a0_6] from rfl) (Reps.one (show Kd.M (Kd.int .i64) _ _ _ a0_7 [.int .i64 a0_7] from rfl) (Reps.none _ _))))))))); intro v123 w10 ho11 hb hg_ hnew_; clear hg_ hnew_; (first | rw [← Ny122.out] at ho11 | (simp only [Int.reduceToNat] at ho11; rw [← Ny122.out] at ho11)); have n0_ := Aside0.mk (Kd.R_lower ho11 (Lz HB)); have n1_ := Aside0.mk (blk_below (g := gb120) (o := .cells #[.slice A0_0 l0_0.length c0_0, .bool a0_1, .int .i64 a0_2, .int .i64 a0_3, .int .i64 a0_4, .int .i64 a0_5, .int .i64 a0_6, .int .i64 a0_7, .slice A0_8 l0_8.length c0_8] 63 (0, 0)) (by (with_reducible repeat (first | refine blk_drewN ?_ _ | refine blk_drew ?_ | refine blk_alloc ?_ _)); refine blk_far ?_ NB120_121.out _; (with_reducible repeat (first | refine blk_drewN ?_ _ | refine blk_drew ?_ | refine blk_alloc ?_ _)); refine blk_far ?_ NB120_121.out _; (with_reducible repeat (first | refine blk_drewN ?_ _ | refine blk_drew ?_ | refine blk_alloc ?_ _)); refine blk_far ?_ NB120_121.out _; (with_reducible repeat (first | refine blk_drewN ?_ _ | refine blk_drew ?_ | refine blk_alloc ?_ _)); refine blk_far ?_ NB120_121.out _; (with_reducible repeat (first | refine blk_drewN ?_ _ | refine blk_drew ?_ | refine blk_alloc ?_ _)); refine blk_far ?_ NB120_121.out _; (with_reducible repeat (first | refine blk_drewN ?_ _ | refine blk_drew ?_ | refine blk_alloc ?_ _)); refine blk_far ?_ NB120_121.out _; (with_reducible repeat (first | refine blk_drewN ?_ _ | refine blk_drew ?_ | refine blk_alloc ?_ _)); exact BK120.out) hb); have n2_ := Aside0.mk (blk_below (g := gb121) (o := .cells #[.int .i64 a0_2, .int .i64 a0_3, .int .i64 a0_4, .int .i64 a0_5, .int .i64 a0_6, .int .i64 a0_7] 61 (0, 0)) (by (with_reducible repeat (first | refine blk_drewN ?_ _ | refine blk_drew ?_ | refine blk_alloc ?_ _)); refine blk_put (cs := #[.int .i64 a0_2, .int .i64 a0_3, .int .i64 a0_4, .int .i64 a0_5, .int .i64 a0_6, .int .i64 0]) ?_ 5 _ rfl; (with_reducible repeat (first | refine blk_drewN ?_ _ | refine blk_drew ?_ | refine blk_alloc ?_ _)); refine blk_put (cs := #[.int .i64 a0_2, .int .i64 a0_3, .int .i64 a0_4, .int .i64 a0_5, .int .i64 0, .int .i64 0]) ?_ 4 _ rfl; (with_reducible repeat (first | refine blk_drewN ?_ _ | refine blk_drew ?_ | refine blk_alloc ?_ _)); refine blk_put (cs := #[.int .i64 a0_2, .int .i64 a0_3, .int .i64 a0_4, .int .i64 0, .int .i64 0, .int .i64 0]) ?_ 3 _ rfl; (with_reducible repeat (first | refine blk_drewN ?_ _ | refine blk_drew ?_ | refine blk_alloc ?_ _)); refine blk_put (cs := #[.int .i64 a0_2, .int .i64 a0_3, .int .i64 0, .int .i64 0, .int .i64 0, .int .i64 0]) ?_ 2 _ rfl; (with_reducible repeat (first | refine blk_drewN ?_ _ | refine blk_drew ?_ | refine blk_alloc ?_ _)); refine blk_put (cs := #[.int .i64 a0_2, .int .i64 0, .int .i64 0, .int .i64 0, .int .i64 0, .int .i64 0]) ?_ 1 _ rfl; (with_reducible repeat (first | refine blk_drewN ?_ _ | refine blk_drew ?_ | refine blk_alloc ?_ _)); refine blk_put (cs := #[.int .i64 0, .int .i64 0, .int .i64 0, .int .i64 0, .int .i64 0, .int .i64 0]) ?_ 0 _ rfl; (with_reducible repeat (first | refine blk_drewN ?_ _ | refine blk_drew ?_ | refine blk_alloc ?_ _)); exact BK121.out) hb); have n3_ := Lb HB hb; clear BK120 BK121 HB; have HO124 := n0_; have BK120 := n1_; have BK121 := n2_; have HB := n3_; clear n0_ n1_ n2_ n3_; clear hb ho11; obtain ⟨Ao12, co12, eo12⟩ := Kd.R_slice HO124.out; subst eo12))
      go_loopg [5, 31] kj1 (fun kq v5 v31 w' => ∃ (x5_2 : List Int) (x31_2 : Int), v31 = .int .i64 x31_2 ∧ Aside0 (code_Put.l0 kq x5_2 y122 (y122.length : Int) x31_2 l0_0 a0_1 a0_2 a0_3 a0_4 a0_5 a0_6 a0_7 l0_8 = some r) ∧ Aside0 (kq ≤ kj1) ∧ Aside0 (Kd.R (Kd.int .u8) 5 w' w.heap.size (fun _ => True) v5 x5_2) ∧ Aside0 (Kd.R (Kd.int .i64) 3 w' w.heap.size (fun _ => True) (.slice Ao12 y122.length co12) y122) ∧ Aside0 (w'.heap[gb120]? = some (.cells #[(.slice A0_0 l0_0.length c0_0), .bool a0_1, .int .i64 a0_2, .int .i64 a0_3, .int .i64 a0_4, .int .i64 a0_5, .int .i64 a0_6, .int .i64 a0_7, (.slice A0_8 l0_8.length c0_8)] 63 (0, 0))) ∧ Aside0 (w'.heap[gb121]? = some (.cells #[.int .i64 a0_2, .int .i64 a0_3, .int .i64 a0_4, .int .i64 a0_5, .int .i64 a0_6, .int .i64 a0_7] 61 (0, 0))) ∧ Aside0 (Below w.heap.size w w'))
      case atStart => exact ⟨(([] : List Int)), (0), (by first | rfl | (simp; done) | (simp [*]; done)), H', ⟨Nat.le_refl _⟩, ⟨by first | exact Kd.R_nil _ _ _ _ _ | exact Kd.N_nil _ _ _ _ _ | exact Kd.V_nil _ _ _ _ _ | exact Kd.Q_nil _ _ _ _ _ | exact Kd.S_nil _ _ _ _ _⟩, ⟨Rs HO124.out⟩, ⟨Bs BK120.out⟩, ⟨Bs BK121.out⟩, ⟨Ls HB⟩⟩
      case round =>
        clear H'
        try clear p2; try clear c3; try clear c5; try clear c8; try clear hcz4_0; try clear hcz4_1; try clear hcz4_2; try clear hcz4_3; try clear hcz4_4; try clear hcz4_5; try clear hcz4_6; try clear hcz4_7; try clear hcz4_8; try clear hcz6_0; try clear hcz6_1; try clear hcz6_2; try clear hcz6_3; try clear hcz6_4; try clear hcz6_5; try clear hcz6_6; try clear hcz6_7; try clear hcz6_8; try clear hcz9_0; try clear hcz9_1; try clear hcz9_2; try clear hcz9_3; try clear hcz9_4; try clear hcz9_5; try clear hfz4_0; try clear hfz4_1; try clear hfz4_2; try clear hfz4_3; try clear hfz4_4; try clear hfz4_5; try clear hfz4_6; try clear hfz4_7; try clear hfz4_8; try clear hfz6_0; try clear hfz6_1; try clear hfz6_2; try clear hfz6_3; try clear hfz6_4; try clear hfz6_5; try clear hfz6_6; try clear hfz6_7; try clear hfz6_8; try clear hfz9_0; try clear hfz9_1; try clear hfz9_2; try clear hfz9_3; try clear hfz9_4; try clear hfz9_5; try clear p2
        obtain ⟨x5_2, x31_2, rfl, HA, HK2, HO_5, HO_29, BK120, BK121, HB⟩ := hrel
        cases gk with
        | zero => exact absurd HA.out (by simp [code_Put.l0])
        | succ k2 =>
          have H := HA.out
          clear HA
          simp only [code_Put.l0] at H
          by_cases c13 : x31_2 < (y122.length : Int)
          · rw [if_pos c13] at H
            have c13b0 : decide (x31_2 < (y122.length : Int)) = true := decide_eq_true c13
            clear c13
            refine bc (p := (0 ≤ x31_2)) (fun c14 => ?_) (fun c14 => ?_)
            · rw [if_neg c14] at H
              exact absurd H (by simp)
            rw [if_pos c14] at H
            have c14b0 : decide (0 ≤ x31_2) = true := decide_eq_true c14
            clear c14
            refine bc (p := (x31_2 < (y122.length : Int))) (fun c15 => ?_) (fun c15 => ?_)
            · rw [if_neg c15] at H
              exact absurd H (by simp)
            rw [if_pos c15] at H
            have c15b0 : decide (x31_2 < (y122.length : Int)) = true := decide_eq_true c15
            clear c15
            replace H := Option.bind_eq_some_iff.mp H
            obtain ⟨t126, A160, H⟩ := H
            replace H : (code_Put.l0 k2 t126 y122 (y122.length : Int) (wrap64 (x31_2 + 1)) l0_0 a0_1 a0_2 a0_3 a0_4 a0_5 a0_6 a0_7 l0_8) = some r := H
            have A16 := Aside0.mk A160
            clear A160
            have H' := Aside0.mk H
            clear H
            have p125 : 0 ≤ (x31_2 : Int) := of_decide_eq_true (by first | (with_reducible assumption) | assumption)
            have q125 : x31_2 < (y122.length : Int) := of_decide_eq_true (by first | (with_reducible assumption) | assumption)
            obtain ⟨ad125, e125, hx125_0⟩ := Kd.at_int (Kd.R_reads' HO_29.out).2.2 x31_2 p125 q125
            cases e125
            replace p125 := eq_true p125
            replace q125 := eq_true q125
            obtain ⟨Ao17, co17, eo17⟩ := Kd.R_slice HO_5.out
            subst eo17
            go_wp2_with (first | ((with_reducible refine gate_callee (f := 17) rfl ?_); refine goesL_ (some 37) rfl rfl Try.func17 (by kernel_rfl) rfl #[.slice Ao17 x5_2.length co17, .int .i64 (rd y122 x31_2)] rfl (by (try simp only [List.map_toArray, List.map_cons, List.map_nil]); first | done | rfl | (simp only [List.length_drop, List.length_take]; rfl)) ?_; (with_reducible refine (code_PutInt.calls _ _ x5_2 (rd y122 x31_2) t126 _ ?side1 ?side2 A16.out).mono ?_); (case side1 => exact Cs (Kd.R_reads' HO_5.out).2.2); (case side2 => exact (Kd.R_reads' HO_5.out).2.1); rintro e w18 ⟨v127, rfl, ho0, hb⟩; refine ⟨_, rfl, ?_⟩; have n0_ := Aside0.mk (Kd.R_elder' (Rs HO_5.out) (Kd.R_base ho0) hb); have n1_ := Rb HO_29 hb; have n2_ := Aside0.mk (Kd.R_lower (Kd.R_new' ho0 (Kd.R_lt (Rs HO_5.out))) (Lz HB)); have n3_ := Bb BK120 hb; have n4_ := Bb BK121 hb; have n5_ := Lb HB hb; clear HO_5 HO_29 BK120 BK121 HB; have HO_5 := n0_; have HO_29 := n1_; have HO128 := n2_; have BK120 := n3_; have BK121 := n4_; have HB := n5_; clear n0_ n1_ n2_ n3_ n4_ n5_; (try clear hb); (try clear hb2); (try clear hk); (try clear hi); (try clear ho0)))
            go_roundg k2
            case measure => have := HJ1.out; have := HK2.out; omega
            case rel => exact ⟨(t126), (wrap64 (x31_2 + 1)), (by first | rfl | (simp; done) | (simp [*]; done)), H', ⟨by have := HJ1.out; have := HK2.out; omega⟩, ⟨by (with_reducible repeat (first | apply Kd.R_alloc | apply Kd.R_drewN | apply Kd.R_drew)); exact Kd.R_mono HO128.out (fun _ hk => trivial)⟩, ⟨Rs HO_29.out⟩, ⟨Bs BK120.out⟩, ⟨Bs BK121.out⟩, ⟨Ls HB⟩⟩
          · rw [if_neg c13] at H
            have c13b0 : decide (x31_2 < (y122.length : Int)) = false := decide_eq_false c13
            clear c13
            replace H := Option.bind_eq_some_iff.mp H
            obtain ⟨t129, A190, H⟩ := H
            replace H : ((code_PutInt.f t129 (l0_0.length : Int)).bind fun t132 => (code_Put.l1 k2 t132 l0_0 (l0_0.length : Int) 0)) = some r := H
            have A19 := Aside0.mk A190
            clear A190
            replace H := Option.bind_eq_some_iff.mp H
            obtain ⟨t132, A200, H⟩ := H
            replace H : (code_Put.l1 k2 t132 l0_0 (l0_0.length : Int) 0) = some r := H
            have A20 := Aside0.mk A200
            clear A200
            have H' := Aside0.mk H
            clear H
            try go_wp2
            replace HO_5 := Aside0.mk (Kd.R_drew HO_5.out)
            replace HO_29 := Aside0.mk (Kd.R_drew HO_29.out)
            replace BK120 := Aside0.mk (blk_drew BK120.out)
            replace BK121 := Aside0.mk (blk_drew BK121.out)
            replace HB := Aside0.mk (below_drew1 HB.out)
            obtain ⟨Ao22, co22, eo22⟩ := Kd.R_slice HO_5.out
            (first | subst eo22 | (injection eo22 with f1_ f2_ f3_; have f4_ := f1_.symm; have f5_ := f3_.symm; clear f1_ f2_ f3_; subst f4_; subst f5_))
            refine start_ (n := 9) (S := fun w' => w'.cell? ⟨gb120, 0, none⟩ = some (.slice A0_0 l0_0.length c0_0) ∧ w'.cell? ⟨gb120, 1, none⟩ = some (.bool a0_1) ∧ w'.cell? ⟨gb120, 2, none⟩ = some (.int .i64 a0_2) ∧ w'.cell? ⟨gb120, 3, none⟩ = some (.int .i64 a0_3) ∧ w'.cell? ⟨gb120, 4, none⟩ = some (.int .i64 a0_4) ∧ w'.cell? ⟨gb120, 5, none⟩ = some (.int .i64 a0_5) ∧ w'.cell? ⟨gb120, 6, none⟩ = some (.int .i64 a0_6) ∧ w'.cell? ⟨gb120, 7, none⟩ = some (.int .i64 a0_7) ∧ w'.cell? ⟨gb120, 8, none⟩ = some (.slice A0_8 l0_8.length c0_8)) (ds := []) #[F, F, F, F, F, F, F, F, F] (by kernel_rfl) rfl rfl ⟨(blk_cell BK120.out 0).trans rfl, (blk_cell BK120.out 1).trans rfl, (blk_cell BK120.out 2).trans rfl, (blk_cell BK120.out 3).trans rfl, (blk_cell BK120.out 4).trans rfl, (blk_cell BK120.out 5).trans rfl, (blk_cell BK120.out 6).trans rfl, (blk_cell BK120.out 7).trans rfl, (blk_cell BK120.out 8).trans rfl⟩ (fun hHeld => ?_); refine with_tabW code_Put.tab11 code_Put.bits11 (fun HT_ HW_ => ?_)
            generalize wr.drew = w21 at HO_5 HO_29 BK120 BK121 HB hHeld ⊢
            refine pure_ (i := 0) (N := some 39) (v := ?_) (a' := ?_) #[T, F, F, F, F, F, F, F, F] rfl rfl (any_of HT_.out (by kernel_rfl)) (fun _ _ _ h => h) (Or.inl ⟨by rfl, ?_⟩) ?_ ?_; rotate_left; (· intro w'; go_simp; with_reducible rfl); rotate_left; (· simp only [Act.put, sq]; rfl)
            refine pure_ (i := 1) (N := some 40) (v := ?_) (a' := ?_) #[T, T, F, F, F, F, F, F, F] rfl rfl (any_of HT_.out (by kernel_rfl)) (fun _ _ _ h => h) (Or.inl ⟨by rfl, ?_⟩) ?_ ?_; rotate_left; (· intro w'; go_simp; with_reducible rfl); rotate_left; (· simp only [Act.put, sq]; rfl)
            refine pure_ (i := 4) (N := some 43) (v := ?_) (a' := ?_) #[T, T, F, F, T, F, F, F, F] rfl rfl (any_of HT_.out (by kernel_rfl)) (fun _ _ _ h => h) (Or.inl ⟨by rfl, ?_⟩) ?_ ?_; rotate_left; (· intro w'; go_simp; with_reducible rfl); rotate_left; (· simp only [Act.put, sq]; rfl)
            refine take_ (i := 2) (N := some 41) (v := ?_) (a' := ?_) #[T, T, T, F, T, F, F, F, F] rfl rfl (take_ofW HT_.out HW_.out (by kernel_rfl)) (fun _ _ _ h => h) (Or.inl ⟨by rfl, ?_⟩) hHeld ?_ ?_; rotate_left; (· rintro w' ⟨s0, s1, s2, s3, s4, s5, s6, s7, s8⟩; go_simp; with_reducible rfl); rotate_left; (· simp only [Act.put, sq]; rfl)
            refine take_ (i := 5) (N := some 44) (v := ?_) (a' := ?_) #[T, T, T, F, T, T, F, F, F] rfl rfl (take_ofW HT_.out HW_.out (by kernel_rfl)) (fun _ _ _ h => h) (Or.inl ⟨by rfl, ?_⟩) hHeld ?_ ?_; rotate_left; (· rintro w' ⟨s0, s1, s2, s3, s4, s5, s6, s7, s8⟩; go_simp; with_reducible rfl); rotate_left; (· simp only [Act.put, sq]; rfl)
            refine pure_ (i := 6) (N := some 45) (v := ?_) (a' := ?_) #[T, T, T, F, T, T, T, F, F] rfl rfl (any_of HT_.out (by kernel_rfl)) (fun _ _ _ h => h) (Or.inl ⟨by rfl, ?_⟩) ?_ ?_; rotate_left; (· intro w'; go_simp; with_reducible rfl); rotate_left; (· simp only [Act.put, sq]; rfl)
            refine one_ (i := 3) (N := some 42) #[T, T, T, T, T, T, T, F, F] rfl rfl (one_of HT_.out (by kernel_rfl)) (by decide) (fun K hK => ?_)
            refine goes_ Try.func18 (by kernel_rfl) rfl #[.slice Ao22 x5_2.length co22, .slice A0_8 l0_8.length c0_8] (by rfl) rfl rfl (by (try simp only [List.map_toArray, List.map_cons, List.map_nil]); first | done | rfl | (simp only [List.length_drop, List.length_take]; rfl)) ?_
            with_reducible refine (code_PutInts.calls k2 _ _ x5_2 _ _ l0_8 t129 _ ?side1 ?side2 ?side3 ?side4 A19.out).mono ?_
            (case side1 => exact Cs (Kd.R_reads' HO_5.out).2.2)
            (case side2 => exact (Kd.R_reads' HO_5.out).2.1)
            (case side3 => repeat (first | exact (Kd.C_below HR0_8.out HB.out) | (with_reducible refine Kd.C_alloc ?_ _) | (with_reducible refine Kd.C_drewN ?_ _) | (with_reducible refine Kd.C_drew ?_)))
            (case side4 => exact HC0_8.out)
            rintro e w23 ⟨v130, rfl, ho0, hb⟩
            refine ⟨_, rfl, ?_⟩
            replace HO_29 := Rb HO_29 hb
            have HO131 := Aside0.mk (Kd.R_lower (Kd.R_new' ho0 (Kd.R_lt (Rs HO_5.out))) (Lz HB))
            replace HO_5 := Aside0.mk (Kd.R_elder' (Rs HO_5.out) (Kd.R_base ho0) hb)
            replace BK120 := Bb BK120 hb
            replace BK121 := Bb BK121 hb
            replace HB := Lb HB hb
            try clear hb; try clear hb2; try clear hk; try clear hi; try clear ho0
            obtain ⟨Ao24, co24, eo24⟩ := Kd.R_slice HO131.out
            (first | subst eo24 | (injection eo24 with f1_ f2_ f3_; have f4_ := f1_.symm; have f5_ := f3_.symm; clear f1_ f2_ f3_; subst f4_; subst f5_))
            refine hK.out _ _ ⟨(blk_cell BK120.out 0).trans rfl, (blk_cell BK120.out 1).trans rfl, (blk_cell BK120.out 2).trans rfl, (blk_cell BK120.out 3).trans rfl, (blk_cell BK120.out 4).trans rfl, (blk_cell BK120.out 5).trans rfl, (blk_cell BK120.out 6).trans rfl, (blk_cell BK120.out 7).trans rfl, (blk_cell BK120.out 8).trans rfl⟩ (fun hHeld => ?_)
            clear hK K
            refine norm_ (a' := ?_) ?_ ?_; rotate_left; (· show Act.put _ (some 42) _ = _; simp only [Act.put, sq]; rfl)
            refine one_ (i := 7) (N := some 46) #[T, T, T, T, T, T, T, T, F] rfl rfl (one_of HT_.out (by kernel_rfl)) (by decide) (fun K hK => ?_)
            refine goes_ Try.func17 (by kernel_rfl) rfl #[.slice Ao24 t129.length co24, .int .i64 (l0_0.length : Int)] (by rfl) rfl rfl (by (try simp only [List.map_toArray, List.map_cons, List.map_nil]); first | done | rfl | (simp only [List.length_drop, List.length_take]; rfl)) ?_
            with_reducible refine (code_PutInt.calls _ _ t129 (l0_0.length : Int) t132 _ ?side1 ?side2 A20.out).mono ?_
            (case side1 => exact Cs (Kd.R_reads' HO131.out).2.2)
            (case side2 => exact (Kd.R_reads' HO131.out).2.1)
            rintro e w25 ⟨v133, rfl, ho0, hb⟩
            refine ⟨_, rfl, ?_⟩
            replace HO_29 := Rb HO_29 hb
            have HO134 := Aside0.mk (Kd.R_lower (Kd.R_new' (Kd.R_new' ho0 (Kd.R_lt (Rs HO_5.out))) (Kd.R_lt (Rs HO131.out))) (Lz HB))
            replace HO_5 := Aside0.mk (Kd.R_elder' (Rs HO_5.out) (Kd.R_base ho0) hb)
            replace HO131 := Aside0.mk (Kd.R_elder' (Rs HO131.out) (Kd.R_base ho0) hb)
            replace BK120 := Bb BK120 hb
            replace BK121 := Bb BK121 hb
            replace HB := Lb HB hb
            try clear hb; try clear hb2; try clear hk; try clear hi; try clear ho0
            refine hK.out _ _ ⟨(blk_cell BK120.out 0).trans rfl, (blk_cell BK120.out 1).trans rfl, (blk_cell BK120.out 2).trans rfl, (blk_cell BK120.out 3).trans rfl, (blk_cell BK120.out 4).trans rfl, (blk_cell BK120.out 5).trans rfl, (blk_cell BK120.out 6).trans rfl, (blk_cell BK120.out 7).trans rfl, (blk_cell BK120.out 8).trans rfl⟩ (fun hHeld => ?_)
            clear hK K
            refine norm_ (a' := ?_) ?_ ?_; rotate_left; (· show Act.put _ (some 46) _ = _; simp only [Act.put, sq]; rfl)
            refine pure_ (i := 8) (N := some 5) (v := ?_) (a' := ?_) #[T, T, T, T, T, T, T, T, T] rfl rfl (any_of HT_.out (by kernel_rfl)) (fun _ _ _ h => h) (Or.inl ⟨by rfl, ?_⟩) ?_ ?_; rotate_left; (· intro w'; go_simp; with_reducible rfl); rotate_left; (· simp only [Act.put, sq]; rfl)
            refine done_ (done_of HT_.out (by kernel_rfl)) ?_
            have hnb26 := NB120_121.out
            have hnc26 := NB121_120.out
            have hcz27_0 : w25.cell? ⟨gb120, 0, none⟩ = some (.slice A0_0 l0_0.length c0_0) := (blk_cell BK120.out 0).trans rfl
            have hcz27_1 : w25.cell? ⟨gb120, 1, none⟩ = some (.bool a0_1) := (blk_cell BK120.out 1).trans rfl
            have hcz27_2 : w25.cell? ⟨gb120, 2, none⟩ = some (.int .i64 a0_2) := (blk_cell BK120.out 2).trans rfl
            have hcz27_3 : w25.cell? ⟨gb120, 3, none⟩ = some (.int .i64 a0_3) := (blk_cell BK120.out 3).trans rfl
            have hcz27_4 : w25.cell? ⟨gb120, 4, none⟩ = some (.int .i64 a0_4) := (blk_cell BK120.out 4).trans rfl
            have hcz27_5 : w25.cell? ⟨gb120, 5, none⟩ = some (.int .i64 a0_5) := (blk_cell BK120.out 5).trans rfl
            have hcz27_6 : w25.cell? ⟨gb120, 6, none⟩ = some (.int .i64 a0_6) := (blk_cell BK120.out 6).trans rfl
            have hcz27_7 : w25.cell? ⟨gb120, 7, none⟩ = some (.int .i64 a0_7) := (blk_cell BK120.out 7).trans rfl
            have hcz27_8 : w25.cell? ⟨gb120, 8, none⟩ = some (.slice A0_8 l0_8.length c0_8) := (blk_cell BK120.out 8).trans rfl
            have hfz27_0 := blk_frozen BK120.out 0
            have hfz27_1 := blk_frozen BK120.out 1
            have hfz27_2 := blk_frozen BK120.out 2
            have hfz27_3 := blk_frozen BK120.out 3
            have hfz27_4 := blk_frozen BK120.out 4
            have hfz27_5 := blk_frozen BK120.out 5
            have hfz27_6 := blk_frozen BK120.out 6
            have hfz27_7 := blk_frozen BK120.out 7
            have hfz27_8 := blk_frozen BK120.out 8
            try go_wp2
            go_loopg [5, 50] k2 (fun kq v5 v50 w' => ∃ (x5_3 : List Int) (x50_3 : Int), v50 = .int .i64 x50_3 ∧ Aside0 (code_Put.l1 kq x5_3 l0_0 (l0_0.length : Int) x50_3 = some r) ∧ Aside0 (kq ≤ k2) ∧ Aside0 (Kd.R (Kd.int .u8) 5 w' w.heap.size (fun _ => True) v5 x5_3) ∧ Aside0 (w'.heap[gb120]? = some (.cells #[(.slice A0_0 l0_0.length c0_0), .bool a0_1, .int .i64 a0_2, .int .i64 a0_3, .int .i64 a0_4, .int .i64 a0_5, .int .i64 a0_6, .int .i64 a0_7, (.slice A0_8 l0_8.length c0_8)] 63 (0, 0))) ∧ Aside0 (w'.heap[gb121]? = some (.cells #[.int .i64 a0_2, .int .i64 a0_3, .int .i64 a0_4, .int .i64 a0_5, .int .i64 a0_6, .int .i64 a0_7] 61 (0, 0))) ∧ Aside0 (Below w.heap.size w w'))
            case atStart => exact ⟨(t132), (0), (by first | rfl | (simp; done) | (simp [*]; done)), H', ⟨Nat.le_refl _⟩, ⟨by (with_reducible repeat (first | apply Kd.R_alloc | apply Kd.R_drewN | apply Kd.R_drew)); exact Kd.R_mono HO134.out (fun _ hk => trivial)⟩, ⟨Bs BK120.out⟩, ⟨Bs BK121.out⟩, ⟨Ls HB⟩⟩
            case round =>
              clear H'
              try clear c1; try clear p1; try clear q1; try clear hx1; try clear c2; try clear p2; try clear c3; try clear c5; try clear p6; try clear c8; try clear p12; try clear q12; try clear hx12; try clear c13; try clear c13b0; try clear c14; try clear c14b0; try clear c15; try clear c15b0; try clear c17; try clear c18; try clear c26; try clear hcz27_0; try clear hcz27_1; try clear hcz27_2; try clear hcz27_3; try clear hcz27_4; try clear hcz27_5; try clear hcz27_6; try clear hcz27_7; try clear hcz27_8; try clear hcz4_0; try clear hcz4_1; try clear hcz4_2; try clear hcz4_3; try clear hcz4_4; try clear hcz4_5; try clear hcz4_6; try clear hcz4_7; try clear hcz4_8; try clear hcz6_0; try clear hcz6_1; try clear hcz6_2; try clear hcz6_3; try clear hcz6_4; try clear hcz6_5; try clear hcz6_6; try clear hcz6_7; try clear hcz6_8; try clear hcz9_0; try clear hcz9_1; try clear hcz9_2; try clear hcz9_3; try clear hcz9_4; try clear hcz9_5; try clear hfz27_0; try clear hfz27_1; try clear hfz27_2; try clear hfz27_3; try clear hfz27_4; try clear hfz27_5; try clear hfz27_6; try clear hfz27_7; try clear hfz27_8; try clear hfz4_0; try clear hfz4_1; try clear hfz4_2; try clear hfz4_3; try clear hfz4_4; try clear hfz4_5; try clear hfz4_6; try clear hfz4_7; try clear hfz4_8; try clear hfz6_0; try clear hfz6_1; try clear hfz6_2; try clear hfz6_3; try clear hfz6_4; try clear hfz6_5; try clear hfz6_6; try clear hfz6_7; try clear hfz6_8; try clear hfz9_0; try clear hfz9_1; try clear hfz9_2; try clear hfz9_3; try clear hfz9_4; try clear hfz9_5; try clear hx125_0; try clear p125; try clear p2; try clear q125
              obtain ⟨x5_3, x50_3, rfl, HA, HK3, HO_5, BK120, BK121, HB⟩ := hrel
              cases gk with
              | zero => exact absurd HA.out (by simp [code_Put.l1])
              | succ k3 =>
                have H := HA.out
                clear HA
                simp only [code_Put.l1] at H
                by_cases c28 : x50_3 < (l0_0.length : Int)
                · rw [if_pos c28] at H
                  have c28b0 : decide (x50_3 < (l0_0.length : Int)) = true := decide_eq_true c28
                  clear c28
                  refine bc (p := (0 ≤ x50_3)) (fun c29 => ?_) (fun c29 => ?_)
                  · rw [if_neg c29] at H
                    exact absurd H (by simp)
                  rw [if_pos c29] at H
                  have c29b0 : decide (0 ≤ x50_3) = true := decide_eq_true c29
                  clear c29
                  refine bc (p := (x50_3 < (l0_0.length : Int))) (fun c30 => ?_) (fun c30 => ?_)
                  · rw [if_neg c30] at H
                    exact absurd H (by simp)
                  rw [if_pos c30] at H
                  have c30b0 : decide (x50_3 < (l0_0.length : Int)) = true := decide_eq_true c30
                  clear c30
                  replace H := Option.bind_eq_some_iff.mp H
                  obtain ⟨t137, A310, H⟩ := H
                  replace H : ((code_PutInt.f t137 (((rd_T87 l0_0 x50_3).f1).length : Int)).bind fun t140 => (code_Put.l2 k3 t140 l0_0 (l0_0.length : Int) x50_3 ((rd_T87 l0_0 x50_3).f1) (((rd_T87 l0_0 x50_3).f1).length : Int) 0)) = some r := H
                  have A31 := Aside0.mk A310
                  clear A310
                  replace H := Option.bind_eq_some_iff.mp H
                  obtain ⟨t140, A320, H⟩ := H
                  replace H : (code_Put.l2 k3 t140 l0_0 (l0_0.length : Int) x50_3 ((rd_T87 l0_0 x50_3).f1) (((rd_T87 l0_0 x50_3).f1).length : Int) 0) = some r := H
                  have A32 := Aside0.mk A320
                  clear A320
                  have H' := Aside0.mk H
                  clear H
                  have p135 : 0 ≤ (x50_3 : Int) := of_decide_eq_true (by first | (with_reducible assumption) | assumption)
                  have q135 : x50_3 < (l0_0.length : Int) := of_decide_eq_true (by first | (with_reducible assumption) | assumption)
                  obtain ⟨ad135, A135_1, c135_1, e135, hx135_0, hx135_1, hl135_1, hi135_1⟩ := at_T87 HR0_0.out x50_3 p135 q135
                  cases e135
                  replace hx135_0 := (HB.out.cell (World.block_lt_of_cell? w _ hx135_0)).trans hx135_0
                  replace hx135_1 := (HB.out.cell (World.block_lt_of_cell? w _ hx135_1)).trans hx135_1
                  have HR135_1 := Aside0.mk hi135_1
                  have HC135_1 := Aside0.mk hl135_1
                  clear hi135_1 hl135_1
                  replace p135 := eq_true p135
                  replace q135 := eq_true q135
                  try go_wp2_with (first | ((with_reducible refine gate_dst (N := 9) rfl ?_); refine box_event ?hg (N := 9) ?hd (cs := #[.int .i64 0, .slice none 0 0]) (t := 87) ?hr ?_; (case hd => rfl); (case hg => rfl); (case hr => first | (go_simp; done) | (go_simp; rfl)); intro gb136 hg w33 hbox hb; have n0_ := Rb HO_5 hb; have n1_ := Aside0.mk (blk_below (g := gb120) (o := .cells #[.slice (some ad135) l0_0.length c0_0, .bool a0_1, .int .i64 a0_2, .int .i64 a0_3, .int .i64 a0_4, .int .i64 a0_5, .int .i64 a0_6, .int .i64 a0_7, .slice A0_8 l0_8.length c0_8] 63 (0, 0)) (Bs BK120.out) hb); have n2_ := Bb BK121 hb; have n3_ := Lb HB hb; have n4_ := Aside0.mk (hbox); have n5_ := Aside0.mk ((by rw [hg]; exact (Lz HB) : w.heap.size ≤ gb136)); have n6_ := Aside0.mk ((by rw [hg]; exact (Lz HB) : w.heap.size ≤ gb136)); have n7_ := Aside0.mk ((by rw [hg]; exact Nat.ne_of_lt (blk_lt (g := gb120) (o := .cells #[.slice (some ad135) l0_0.length c0_0, .bool a0_1, .int .i64 a0_2, .int .i64 a0_3, .int .i64 a0_4, .int .i64 a0_5, .int .i64 a0_6, .int .i64 a0_7, .slice A0_8 l0_8.length c0_8] 63 (0, 0)) (Bs BK120.out)) : gb120 ≠ gb136)); have n8_ := Aside0.mk ((by rw [hg]; exact Nat.ne_of_gt (blk_lt (g := gb120) (o := .cells #[.slice (some ad135) l0_0.length c0_0, .bool a0_1, .int .i64 a0_2, .int .i64 a0_3, .int .i64 a0_4, .int .i64 a0_5, .int .i64 a0_6, .int .i64 a0_7, .slice A0_8 l0_8.length c0_8] 63 (0, 0)) (Bs BK120.out)) : gb136 ≠ gb120)); have n9_ := Aside0.mk ((by rw [hg]; exact Nat.ne_of_lt (blk_lt (g := gb121) (o := .cells #[.int .i64 a0_2, .int .i64 a0_3, .int .i64 a0_4, .int .i64 a0_5, .int .i64 a0_6, .int .i64 a0_7] 61 (0, 0)) (Bs BK121.out)) : gb121 ≠ gb136)); have n10_ := Aside0.mk ((by rw [hg]; exact Nat.ne_of_gt (blk_lt (g := gb121) (o := .cells #[.int .i64 a0_2, .int .i64 a0_3, .int .i64 a0_4, .int .i64 a0_5, .int .i64 a0_6, .int .i64 a0_7] 61 (0, 0)) (Bs BK121.out)) : gb136 ≠ gb121)); clear HO_5 BK120 BK121 HB; have HO_5 := n0_; have BK120 := n1_; have BK121 := n2_; have HB := n3_; have BK136 := n4_; have GW136 := n5_; have GE136 := n6_; have NB120_136 := n7_; have NB136_120 := n8_; have NB121_136 := n9_; have NB136_121 := n10_; clear n0_ n1_ n2_ n3_ n4_ n5_ n6_ n7_ n8_ n9_ n10_; clear hb hbox hg; have hnb34 := NB136_120.out; have hnc34 := NB120_136.out; have hnb35 := NB136_121.out; have hnc35 := NB121_136.out; have hcz36_0 : w33.cell? ⟨gb136, 0, none⟩ = some (.int .i64 0) := (blk_cell BK136.out 0).trans rfl; have hcz36_1 : w33.cell? ⟨gb136, 1, none⟩ = some (.slice none 0 0) := (blk_cell BK136.out 1).trans rfl; have hfz36_0 := blk_frozen BK136.out 0; have hfz36_1 := blk_frozen BK136.out 1))
                  have n0_ : Aside0 (Kd.R (Kd.int .u8) 5 ((w33.setCell ⟨gb136, 0, none⟩ (.int .i64 ((rd_T87 l0_0 x50_3).f0))).setCell ⟨gb136, 1, none⟩ (.slice A135_1 ((rd_T87 l0_0 x50_3).f1).length c135_1)) w.heap.size (fun _ => True) u5 x5_3) := ⟨by (with_reducible repeat (first | apply Kd.R_alloc | apply Kd.R_drewN | apply Kd.R_drew)); exact Kd.R_mono (Kd.R_far (p := ⟨gb136, 1, none⟩) (Kd.R_far (p := ⟨gb136, 0, none⟩) (Kd.R_types HO_5.out BK136.out (by decide)) (fun _ hk => hk.2) (.int .i64 ((rd_T87 l0_0 x50_3).f0))) (fun _ hk => hk.2) (.slice A135_1 ((rd_T87 l0_0 x50_3).f1).length c135_1)) (fun _ hk => trivial)⟩
                  have n1_ : Aside0 (((w33.setCell ⟨gb136, 0, none⟩ (.int .i64 ((rd_T87 l0_0 x50_3).f0))).setCell ⟨gb136, 1, none⟩ (.slice A135_1 ((rd_T87 l0_0 x50_3).f1).length c135_1)).heap[gb120]? = some (.cells #[.slice (some ad135) l0_0.length c0_0, .bool a0_1, .int .i64 a0_2, .int .i64 a0_3, .int .i64 a0_4, .int .i64 a0_5, .int .i64 a0_6, .int .i64 a0_7, .slice A0_8 l0_8.length c0_8] 63 (0, 0))) := ⟨by (with_reducible repeat (first | refine blk_drewN ?_ _ | refine blk_drew ?_ | refine blk_alloc ?_ _)); refine blk_far ?_ NB120_136.out _; (with_reducible repeat (first | refine blk_drewN ?_ _ | refine blk_drew ?_ | refine blk_alloc ?_ _)); refine blk_far ?_ NB120_136.out _; (with_reducible repeat (first | refine blk_drewN ?_ _ | refine blk_drew ?_ | refine blk_alloc ?_ _)); exact BK120.out⟩
                  have n2_ : Aside0 (((w33.setCell ⟨gb136, 0, none⟩ (.int .i64 ((rd_T87 l0_0 x50_3).f0))).setCell ⟨gb136, 1, none⟩ (.slice A135_1 ((rd_T87 l0_0 x50_3).f1).length c135_1)).heap[gb121]? = some (.cells #[.int .i64 a0_2, .int .i64 a0_3, .int .i64 a0_4, .int .i64 a0_5, .int .i64 a0_6, .int .i64 a0_7] 61 (0, 0))) := ⟨by (with_reducible repeat (first | refine blk_drewN ?_ _ | refine blk_drew ?_ | refine blk_alloc ?_ _)); refine blk_far ?_ NB121_136.out _; (with_reducible repeat (first | refine blk_drewN ?_ _ | refine blk_drew ?_ | refine blk_alloc ?_ _)); refine blk_far ?_ NB121_136.out _; (with_reducible repeat (first | refine blk_drewN ?_ _ | refine blk_drew ?_ | refine blk_alloc ?_ _)); exact BK121.out⟩
                  have n3_ : Aside0 (((w33.setCell ⟨gb136, 0, none⟩ (.int .i64 ((rd_T87 l0_0 x50_3).f0))).setCell ⟨gb136, 1, none⟩ (.slice A135_1 ((rd_T87 l0_0 x50_3).f1).length c135_1)).heap[gb136]? = some (.cells #[.int .i64 ((rd_T87 l0_0 x50_3).f0), .slice A135_1 ((rd_T87 l0_0 x50_3).f1).length c135_1] 87 (0, 0))) := ⟨by (with_reducible repeat (first | refine blk_drewN ?_ _ | refine blk_drew ?_ | refine blk_alloc ?_ _)); refine blk_put (cs := #[.int .i64 ((rd_T87 l0_0 x50_3).f0), .slice none 0 0]) ?_ 1 _ rfl; (with_reducible repeat (first | refine blk_drewN ?_ _ | refine blk_drew ?_ | refine blk_alloc ?_ _)); refine blk_put (cs := #[.int .i64 0, .slice none 0 0]) ?_ 0 _ rfl; (with_reducible repeat (first | refine blk_drewN ?_ _ | refine blk_drew ?_ | refine blk_alloc ?_ _)); exact BK136.out⟩
                  have n4_ : Aside0 (Below w.heap.size w ((w33.setCell ⟨gb136, 0, none⟩ (.int .i64 ((rd_T87 l0_0 x50_3).f0))).setCell ⟨gb136, 1, none⟩ (.slice A135_1 ((rd_T87 l0_0 x50_3).f1).length c135_1))) := ⟨Ls HB⟩
                  try clear HO_5; try clear BK120; try clear BK121; try clear BK136; try clear HB
                  generalize ((w33.setCell ⟨gb136, 0, none⟩ (.int .i64 ((rd_T87 l0_0 x50_3).f0))).setCell ⟨gb136, 1, none⟩ (.slice A135_1 ((rd_T87 l0_0 x50_3).f1).length c135_1)) = w37 at n0_ n1_ n2_ n3_ n4_ ⊢
                  have HO_5 := n0_; have BK120 := n1_; have BK121 := n2_; have BK136 := n3_; have HB := n4_
                  clear n0_ n1_ n2_ n3_ n4_
                  replace HO_5 := Aside0.mk (Kd.R_drew HO_5.out)
                  replace BK120 := Aside0.mk (blk_drew BK120.out)
                  replace BK121 := Aside0.mk (blk_drew BK121.out)
                  replace BK136 := Aside0.mk (blk_drew BK136.out)
                  replace HB := Aside0.mk (below_drew1 HB.out)
                  obtain ⟨Ao39, co39, eo39⟩ := Kd.R_slice HO_5.out
                  (first | subst eo39 | (injection eo39 with f1_ f2_ f3_; have f4_ := f1_.symm; have f5_ := f3_.symm; clear f1_ f2_ f3_; subst f4_; subst f5_))
                  refine start_ (n := 9) (S := fun w' => w'.cell? ⟨gb136, 0, none⟩ = some (.int .i64 ((rd_T87 l0_0 x50_3).f0)) ∧ w'.cell? ⟨gb136, 1, none⟩ = some (.slice A135_1 ((rd_T87 l0_0 x50_3).f1).length c135_1)) (ds := []) #[F, F, F, F, F, F, F, F, F] (by kernel_rfl) rfl rfl ⟨(blk_cell BK136.out 0).trans rfl, (blk_cell BK136.out 1).trans rfl⟩ (fun hHeld => ?_); refine with_tabW code_Put.tab15 code_Put.bits15 (fun HT_ HW_ => ?_)
                  generalize w37.drew = w38 at HO_5 BK120 BK121 BK136 HB hHeld ⊢
                  refine pure_ (i := 0) (N := some 54) (v := ?_) (a' := ?_) #[T, F, F, F, F, F, F, F, F] rfl rfl (any_of HT_.out (by kernel_rfl)) (fun _ _ _ h => h) (Or.inl ⟨by rfl, ?_⟩) ?_ ?_; rotate_left; (· intro w'; go_simp; with_reducible rfl); rotate_left; (· simp only [Act.put, sq]; rfl)
                  refine pure_ (i := 1) (N := some 55) (v := ?_) (a' := ?_) #[T, T, F, F, F, F, F, F, F] rfl rfl (any_of HT_.out (by kernel_rfl)) (fun _ _ _ h => h) (Or.inl ⟨by rfl, ?_⟩) ?_ ?_; rotate_left; (· intro w'; go_simp; with_reducible rfl); rotate_left; (· simp only [Act.put, sq]; rfl)
                  refine pure_ (i := 4) (N := some 58) (v := ?_) (a' := ?_) #[T, T, F, F, T, F, F, F, F] rfl rfl (any_of HT_.out (by kernel_rfl)) (fun _ _ _ h => h) (Or.inl ⟨by rfl, ?_⟩) ?_ ?_; rotate_left; (· intro w'; go_simp; with_reducible rfl); rotate_left; (· simp only [Act.put, sq]; rfl)
                  refine take_ (i := 2) (N := some 56) (v := ?_) (a' := ?_) #[T, T, T, F, T, F, F, F, F] rfl rfl (take_ofW HT_.out HW_.out (by kernel_rfl)) (fun _ _ _ h => h) (Or.inl ⟨by rfl, ?_⟩) hHeld ?_ ?_; rotate_left; (· rintro w' ⟨s0, s1⟩; go_simp; with_reducible rfl); rotate_left; (· simp only [Act.put, sq]; rfl)
                  refine take_ (i := 5) (N := some 59) (v := ?_) (a' := ?_) #[T, T, T, F, T, T, F, F, F] rfl rfl (take_ofW HT_.out HW_.out (by kernel_rfl)) (fun _ _ _ h => h) (Or.inl ⟨by rfl, ?_⟩) hHeld ?_ ?_; rotate_left; (· rintro w' ⟨s0, s1⟩; go_simp; with_reducible rfl); rotate_left; (· simp only [Act.put, sq]; rfl)
                  refine pure_ (i := 6) (N := some 60) (v := ?_) (a' := ?_) #[T, T, T, F, T, T, T, F, F] rfl rfl (any_of HT_.out (by kernel_rfl)) (fun _ _ _ h => h) (Or.inl ⟨by rfl, ?_⟩) ?_ ?_; rotate_left; (· intro w'; go_simp; with_reducible rfl); rotate_left; (· simp only [Act.put, sq]; rfl)
                  refine one_ (i := 3) (N := some 57) #[T, T, T, T, T, T, T, F, F] rfl rfl (one_of HT_.out (by kernel_rfl)) (by decide) (fun K hK => ?_)
                  refine goes_ Try.func17 (by kernel_rfl) rfl #[.slice Ao39 x5_3.length co39, .int .i64 ((rd_T87 l0_0 x50_3).f0)] (by rfl) rfl rfl (by (try simp only [List.map_toArray, List.map_cons, List.map_nil]); first | done | rfl | (simp only [List.length_drop, List.length_take]; rfl)) ?_
                  with_reducible refine (code_PutInt.calls _ _ x5_3 ((rd_T87 l0_0 x50_3).f0) t137 _ ?side1 ?side2 A31.out).mono ?_
                  (case side1 => exact Cs (Kd.R_reads' HO_5.out).2.2)
                  (case side2 => exact (Kd.R_reads' HO_5.out).2.1)
                  rintro e w40 ⟨v138, rfl, ho0, hb⟩
                  refine ⟨_, rfl, ?_⟩
                  have HO139 := Aside0.mk (Kd.R_lower (Kd.R_new' ho0 (Kd.R_lt (Rs HO_5.out))) (Lz HB))
                  replace HO_5 := Aside0.mk (Kd.R_elder' (Rs HO_5.out) (Kd.R_base ho0) hb)
                  replace BK120 := Aside0.mk (blk_below (g := gb120) (o := .cells #[.slice (some ad135) l0_0.length c0_0, .bool a0_1, .int .i64 a0_2, .int .i64 a0_3, .int .i64 a0_4, .int .i64 a0_5, .int .i64 a0_6, .int .i64 a0_7, .slice A0_8 l0_8.length c0_8] 63 (0, 0)) (Bs BK120.out) hb)
                  replace BK121 := Bb BK121 hb
                  replace BK136 := Aside0.mk (blk_below (g := gb136) (o := .cells #[.int .i64 ((rd_T87 l0_0 x50_3).f0), .slice A135_1 ((rd_T87 l0_0 x50_3).f1).length c135_1] 87 (0, 0)) (Bs BK136.out) hb)
                  replace HB := Lb HB hb
                  try clear hb; try clear hb2; try clear hk; try clear hi; try clear ho0
                  obtain ⟨Ao41, co41, eo41⟩ := Kd.R_slice HO139.out
                  (first | subst eo41 | (injection eo41 with f1_ f2_ f3_; have f4_ := f1_.symm; have f5_ := f3_.symm; clear f1_ f2_ f3_; subst f4_; subst f5_))
                  refine hK.out _ _ ⟨(blk_cell BK136.out 0).trans rfl, (blk_cell BK136.out 1).trans rfl⟩ (fun hHeld => ?_)
                  clear hK K
                  refine norm_ (a' := ?_) ?_ ?_; rotate_left; (· show Act.put _ (some 57) _ = _; simp only [Act.put, sq]; rfl)
                  refine one_ (i := 7) (N := some 61) #[T, T, T, T, T, T, T, T, F] rfl rfl (one_of HT_.out (by kernel_rfl)) (by decide) (fun K hK => ?_)
                  refine goes_ Try.func17 (by kernel_rfl) rfl #[.slice Ao41 t137.length co41, .int .i64 (((rd_T87 l0_0 x50_3).f1).length : Int)] (by rfl) rfl rfl (by (try simp only [List.map_toArray, List.map_cons, List.map_nil]); first | done | rfl | (simp only [List.length_drop, List.length_take]; rfl)) ?_
                  with_reducible refine (code_PutInt.calls _ _ t137 (((rd_T87 l0_0 x50_3).f1).length : Int) t140 _ ?side1 ?side2 A32.out).mono ?_
                  (case side1 => exact Cs (Kd.R_reads' HO139.out).2.2)
                  (case side2 => exact (Kd.R_reads' HO139.out).2.1)
                  rintro e w42 ⟨v141, rfl, ho0, hb⟩
                  refine ⟨_, rfl, ?_⟩
                  have HO142 := Aside0.mk (Kd.R_lower (Kd.R_new' (Kd.R_new' ho0 (Kd.R_lt (Rs HO_5.out))) (Kd.R_lt (Rs HO139.out))) (Lz HB))
                  replace HO_5 := Aside0.mk (Kd.R_elder' (Rs HO_5.out) (Kd.R_base ho0) hb)
                  replace HO139 := Aside0.mk (Kd.R_elder' (Rs HO139.out) (Kd.R_base ho0) hb)
                  replace BK120 := Aside0.mk (blk_below (g := gb120) (o := .cells #[.slice (some ad135) l0_0.length c0_0, .bool a0_1, .int .i64 a0_2, .int .i64 a0_3, .int .i64 a0_4, .int .i64 a0_5, .int .i64 a0_6, .int .i64 a0_7, .slice A0_8 l0_8.length c0_8] 63 (0, 0)) (Bs BK120.out) hb)
                  replace BK121 := Bb BK121 hb
                  replace BK136 := Aside0.mk (blk_below (g := gb136) (o := .cells #[.int .i64 ((rd_T87 l0_0 x50_3).f0), .slice A135_1 ((rd_T87 l0_0 x50_3).f1).length c135_1] 87 (0, 0)) (Bs BK136.out) hb)
                  replace HB := Lb HB hb
                  try clear hb; try clear hb2; try clear hk; try clear hi; try clear ho0
                  refine hK.out _ _ ⟨(blk_cell BK136.out 0).trans rfl, (blk_cell BK136.out 1).trans rfl⟩ (fun hHeld => ?_)
                  clear hK K
                  refine norm_ (a' := ?_) ?_ ?_; rotate_left; (· show Act.put _ (some 61) _ = _; simp only [Act.put, sq]; rfl)
                  refine pure_ (i := 8) (N := some 5) (v := ?_) (a' := ?_) #[T, T, T, T, T, T, T, T, T] rfl rfl (any_of HT_.out (by kernel_rfl)) (fun _ _ _ h => h) (Or.inl ⟨by rfl, ?_⟩) ?_ ?_; rotate_left; (· intro w'; go_simp; with_reducible rfl); rotate_left; (· simp only [Act.put, sq]; rfl)
                  refine done_ (done_of HT_.out (by kernel_rfl)) ?_
                  have hcz43_0 : w42.cell? ⟨gb136, 0, none⟩ = some (.int .i64 ((rd_T87 l0_0 x50_3).f0)) := (blk_cell BK136.out 0).trans rfl
                  have hcz43_1 : w42.cell? ⟨gb136, 1, none⟩ = some (.slice A135_1 ((rd_T87 l0_0 x50_3).f1).length c135_1) := (blk_cell BK136.out 1).trans rfl
                  have hfz43_0 := blk_frozen BK136.out 0
                  have hfz43_1 := blk_frozen BK136.out 1
                  try go_wp2
                  go_loopg [5, 65] k3 (fun kq v5 v65 w' => ∃ (x5_4 : List Int) (x65_4 : Int), v65 = .int .i64 x65_4 ∧ Aside0 (code_Put.l2 kq x5_4 l0_0 (l0_0.length : Int) x50_3 ((rd_T87 l0_0 x50_3).f1) (((rd_T87 l0_0 x50_3).f1).length : Int) x65_4 = some r) ∧ Aside0 (kq ≤ k3) ∧ Aside0 (Kd.R (Kd.int .u8) 5 w' w.heap.size (fun _ => True) v5 x5_4) ∧ Aside0 (w'.heap[gb120]? = some (.cells #[(.slice (some ad135) l0_0.length c0_0), .bool a0_1, .int .i64 a0_2, .int .i64 a0_3, .int .i64 a0_4, .int .i64 a0_5, .int .i64 a0_6, .int .i64 a0_7, (.slice A0_8 l0_8.length c0_8)] 63 (0, 0))) ∧ Aside0 (w'.heap[gb121]? = some (.cells #[.int .i64 a0_2, .int .i64 a0_3, .int .i64 a0_4, .int .i64 a0_5, .int .i64 a0_6, .int .i64 a0_7] 61 (0, 0))) ∧ Aside0 (w'.heap[gb136]? = some (.cells #[.int .i64 ((rd_T87 l0_0 x50_3).f0), (.slice A135_1 ((rd_T87 l0_0 x50_3).f1).length c135_1)] 87 (0, 0))) ∧ Aside0 (Below w.heap.size w w'))
                  case atStart => exact ⟨(t140), (0), (by first | rfl | (simp; done) | (simp [*]; done)), H', ⟨Nat.le_refl _⟩, ⟨by (with_reducible repeat (first | apply Kd.R_alloc | apply Kd.R_drewN | apply Kd.R_drew)); exact Kd.R_mono HO142.out (fun _ hk => trivial)⟩, ⟨Bs BK120.out⟩, ⟨Bs BK121.out⟩, ⟨Bs BK136.out⟩, ⟨Ls HB⟩⟩
                  case round =>
                    clear H'
                    try clear c1; try clear p1; try clear q1; try clear hx1; try clear c2; try clear p2; try clear c3; try clear c5; try clear p6; try clear c8; try clear p12; try clear q12; try clear hx12; try clear c13; try clear c13b0; try clear p13; try clear q13; try clear hx13; try clear c14; try clear c14b0; try clear c15; try clear c15b0; try clear c17; try clear c18; try clear c26; try clear c28; try clear c28b0; try clear c29; try clear c29b0; try clear c30; try clear c30b0; try clear c34; try clear c35; try clear hcz27_0; try clear hcz27_1; try clear hcz27_2; try clear hcz27_3; try clear hcz27_4; try clear hcz27_5; try clear hcz27_6; try clear hcz27_7; try clear hcz27_8; try clear hcz36_0; try clear hcz36_1; try clear hcz43_0; try clear hcz43_1; try clear hcz4_0; try clear hcz4_1; try clear hcz4_2; try clear hcz4_3; try clear hcz4_4; try clear hcz4_5; try clear hcz4_6; try clear hcz4_7; try clear hcz4_8; try clear hcz6_0; try clear hcz6_1; try clear hcz6_2; try clear hcz6_3; try clear hcz6_4; try clear hcz6_5; try clear hcz6_6; try clear hcz6_7; try clear hcz6_8; try clear hcz9_0; try clear hcz9_1; try clear hcz9_2; try clear hcz9_3; try clear hcz9_4; try clear hcz9_5; try clear hfz27_0; try clear hfz27_1; try clear hfz27_2; try clear hfz27_3; try clear hfz27_4; try clear hfz27_5; try clear hfz27_6; try clear hfz27_7; try clear hfz27_8; try clear hfz36_0; try clear hfz36_1; try clear hfz43_0; try clear hfz43_1; try clear hfz4_0; try clear hfz4_1; try clear hfz4_2; try clear hfz4_3; try clear hfz4_4; try clear hfz4_5; try clear hfz4_6; try clear hfz4_7; try clear hfz4_8; try clear hfz6_0; try clear hfz6_1; try clear hfz6_2; try clear hfz6_3; try clear hfz6_4; try clear hfz6_5; try clear hfz6_6; try clear hfz6_7; try clear hfz6_8; try clear hfz9_0; try clear hfz9_1; try clear hfz9_2; try clear hfz9_3; try clear hfz9_4; try clear hfz9_5; try clear hx125_0; try clear hx135_0; try clear hx135_1; try clear p1; try clear p12; try clear p125; try clear p135; try clear p2; try clear p6; try clear q1; try clear q12; try clear q125; try clear q135
                    obtain ⟨x5_4, x65_4, rfl, HA, HK4, HO_5, BK120, BK121, BK136, HB⟩ := hrel
                    cases gk with
                    | zero => exact absurd HA.out (by simp [code_Put.l2])
                    | succ k4 =>
                      have H := HA.out
                      clear HA
                      simp only [code_Put.l2] at H
                      by_cases c44 : x65_4 < (((rd_T87 l0_0 x50_3).f1).length : Int)
                      · rw [if_pos c44] at H
                        have c44b0 : decide (x65_4 < (((rd_T87 l0_0 x50_3).f1).length : Int)) = true := decide_eq_true c44
                        clear c44
                        refine bc (p := (0 ≤ x65_4)) (fun c45 => ?_) (fun c45 => ?_)
                        · rw [if_neg c45] at H
                          exact absurd H (by simp)
                        rw [if_pos c45] at H
                        have c45b0 : decide (0 ≤ x65_4) = true := decide_eq_true c45
                        clear c45
                        refine bc (p := (x65_4 < (((rd_T87 l0_0 x50_3).f1).length : Int))) (fun c46 => ?_) (fun c46 => ?_)
                        · rw [if_neg c46] at H
                          exact absurd H (by simp)
                        rw [if_pos c46] at H
                        have c46b0 : decide (x65_4 < (((rd_T87 l0_0 x50_3).f1).length : Int)) = true := decide_eq_true c46
                        clear c46
                        replace H := Option.bind_eq_some_iff.mp H
                        obtain ⟨t145, A470, H⟩ := H
                        replace H : ((code_PutInt.f t145 ((rd_T89 ((rd_T87 l0_0 x50_3).f1) x65_4).f1)).bind fun t148 => ((code_PutInts.f k4 t148 ((rd_T89 ((rd_T87 l0_0 x50_3).f1) x65_4).f2)).bind fun t151 => (code_Put.l2 k4 t151 l0_0 (l0_0.length : Int) x50_3 ((rd_T87 l0_0 x50_3).f1) (((rd_T87 l0_0 x50_3).f1).length : Int) (wrap64 (x65_4 + 1))))) = some r := H
                        have A47 := Aside0.mk A470
                        clear A470
                        replace H := Option.bind_eq_some_iff.mp H
                        obtain ⟨t148, A480, H⟩ := H
                        replace H : ((code_PutInts.f k4 t148 ((rd_T89 ((rd_T87 l0_0 x50_3).f1) x65_4).f2)).bind fun t151 => (code_Put.l2 k4 t151 l0_0 (l0_0.length : Int) x50_3 ((rd_T87 l0_0 x50_3).f1) (((rd_T87 l0_0 x50_3).f1).length : Int) (wrap64 (x65_4 + 1)))) = some r := H
                        have A48 := Aside0.mk A480
                        clear A480
                        replace H := Option.bind_eq_some_iff.mp H
                        obtain ⟨t151, A490, H⟩ := H
                        replace H : (code_Put.l2 k4 t151 l0_0 (l0_0.length : Int) x50_3 ((rd_T87 l0_0 x50_3).f1) (((rd_T87 l0_0 x50_3).f1).length : Int) (wrap64 (x65_4 + 1))) = some r := H
                        have A49 := Aside0.mk A490
                        clear A490
                        have H' := Aside0.mk H
                        clear H
                        have p143 : 0 ≤ (x65_4 : Int) := of_decide_eq_true (by first | (with_reducible assumption) | assumption)
                        have q143 : x65_4 < (((rd_T87 l0_0 x50_3).f1).length : Int) := of_decide_eq_true (by first | (with_reducible assumption) | assumption)
                        obtain ⟨ad143, A143_2, c143_2, e143, hx143_0, hx143_1, hx143_2, hl143_2, hi143_2⟩ := at_T89 HR135_1.out x65_4 p143 q143
                        cases e143
                        replace hx143_0 := (HB.out.cell (World.block_lt_of_cell? w _ hx143_0)).trans hx143_0
                        replace hx143_1 := (HB.out.cell (World.block_lt_of_cell? w _ hx143_1)).trans hx143_1
                        replace hx143_2 := (HB.out.cell (World.block_lt_of_cell? w _ hx143_2)).trans hx143_2
                        have HR143_2 := Aside0.mk hi143_2
                        have HC143_2 := Aside0.mk hl143_2
                        clear hi143_2 hl143_2
                        replace p143 := eq_true p143
                        replace q143 := eq_true q143
                        try go_wp2_with (first | ((with_reducible refine gate_dst (N := 11) rfl ?_); refine box_event ?hg (N := 11) ?hd (cs := #[.int .i64 0, .int .i64 0, .slice none 0 0]) (t := 89) ?hr ?_; (case hd => rfl); (case hg => rfl); (case hr => first | (go_simp; done) | (go_simp; rfl)); intro gb144 hg w50 hbox hb; have n0_ := Rb HO_5 hb; have n1_ := Aside0.mk (blk_below (g := gb120) (o := .cells #[.slice (some ad135) l0_0.length c0_0, .bool a0_1, .int .i64 a0_2, .int .i64 a0_3, .int .i64 a0_4, .int .i64 a0_5, .int .i64 a0_6, .int .i64 a0_7, .slice A0_8 l0_8.length c0_8] 63 (0, 0)) (Bs BK120.out) hb); have n2_ := Bb BK121 hb; have n3_ := Aside0.mk (blk_below (g := gb136) (o := .cells #[.int .i64 ((rd_T87 l0_0 x50_3).f0), .slice (some ad143) ((rd_T87 l0_0 x50_3).f1).length c135_1] 87 (0, 0)) (Bs BK136.out) hb); have n4_ := Lb HB hb; have n5_ := Aside0.mk (hbox); have n6_ := Aside0.mk ((by rw [hg]; exact (Lz HB) : w.heap.size ≤ gb144)); have n7_ := Aside0.mk ((by rw [hg]; exact (Lz HB) : w.heap.size ≤ gb144)); have n8_ := Aside0.mk ((by rw [hg]; exact Nat.ne_of_lt (blk_lt (g := gb120) (o := .cells #[.slice (some ad135) l0_0.length c0_0, .bool a0_1, .int .i64 a0_2, .int .i64 a0_3, .int .i64 a0_4, .int .i64 a0_5, .int .i64 a0_6, .int .i64 a0_7, .slice A0_8 l0_8.length c0_8] 63 (0, 0)) (Bs BK120.out)) : gb120 ≠ gb144)); have n9_ := Aside0.mk ((by rw [hg]; exact Nat.ne_of_gt (blk_lt (g := gb120) (o := .cells #[.slice (some ad135) l0_0.length c0_0, .bool a0_1, .int .i64 a0_2, .int .i64 a0_3, .int .i64 a0_4, .int .i64 a0_5, .int .i64 a0_6, .int .i64 a0_7, .slice A0_8 l0_8.length c0_8] 63 (0, 0)) (Bs BK120.out)) : gb144 ≠ gb120)); have n10_ := Aside0.mk ((by rw [hg]; exact Nat.ne_of_lt (blk_lt (g := gb121) (o := .cells #[.int .i64 a0_2, .int .i64 a0_3, .int .i64 a0_4, .int .i64 a0_5, .int .i64 a0_6, .int .i64 a0_7] 61 (0, 0)) (Bs BK121.out)) : gb121 ≠ gb144)); have n11_ := Aside0.mk ((by rw [hg]; exact Nat.ne_of_gt (blk_lt (g := gb121) (o := .cells #[.int .i64 a0_2, .int .i64 a0_3, .int .i64 a0_4, .int .i64 a0_5, .int .i64 a0_6, .int .i64 a0_7] 61 (0, 0)) (Bs BK121.out)) : gb144 ≠ gb121)); have n12_ := Aside0.mk ((by rw [hg]; exact Nat.ne_of_lt (blk_lt (g := gb136) (o := .cells #[.int .i64 ((rd_T87 l0_0 x50_3).f0), .slice (some ad143) ((rd_T87 l0_0 x50_3).f1).length c135_1] 87 (0, 0)) (Bs BK136.out)) : gb136 ≠ gb144)); have n13_ := Aside0.mk ((by rw [hg]; exact Nat.ne_of_gt (blk_lt (g := gb136) (o := .cells #[.int .i64 ((rd_T87 l0_0 x50_3).f0), .slice (some ad143) ((rd_T87 l0_0 x50_3).f1).length c135_1] 87 (0, 0)) (Bs BK136.out)) : gb144 ≠ gb136)); clear HO_5 BK120 BK121 BK136 HB; have HO_5 := n0_; have BK120 := n1_; have BK121 := n2_; have BK136 := n3_; have HB := n4_; have BK144 := n5_; have GW144 := n6_; have GE144 := n7_; have NB120_144 := n8_; have NB144_120 := n9_; have NB121_144 := n10_; have NB144_121 := n11_; have NB136_144 := n12_; have NB144_136 := n13_; clear n0_ n1_ n2_ n3_ n4_ n5_ n6_ n7_ n8_ n9_ n10_ n11_ n12_ n13_; clear hb hbox hg; have hnb51 := NB144_120.out; have hnc51 := NB120_144.out; have hnb52 := NB144_121.out; have hnc52 := NB121_144.out; have hnb53 := NB144_136.out; have hnc53 := NB136_144.out; have hcz54_0 : w50.cell? ⟨gb144, 0, none⟩ = some (.int .i64 0) := (blk_cell BK144.out 0).trans rfl; have hcz54_1 : w50.cell? ⟨gb144, 1, none⟩ = some (.int .i64 0) := (blk_cell BK144.out 1).trans rfl; have hcz54_2 : w50.cell? ⟨gb144, 2, none⟩ = some (.slice none 0 0) := (blk_cell BK144.out 2).trans rfl; have hfz54_0 := blk_frozen BK144.out 0; have hfz54_1 := blk_frozen BK144.out 1; have hfz54_2 := blk_frozen BK144.out 2))
                        have n0_ : Aside0 (Kd.R (Kd.int .u8) 5 (((w50.setCell ⟨gb144, 0, none⟩ (.int .i64 ((rd_T89 ((rd_T87 l0_0 x50_3).f1) x65_4).f0))).setCell ⟨gb144, 1, none⟩ (.int .i64 ((rd_T89 ((rd_T87 l0_0 x50_3).f1) x65_4).f1))).setCell ⟨gb144, 2, none⟩ (.slice A143_2 ((rd_T89 ((rd_T87 l0_0 x50_3).f1) x65_4).f2).length c143_2)) w.heap.size (fun _ => True) u5 x5_4) := ⟨by (with_reducible repeat (first | apply Kd.R_alloc | apply Kd.R_drewN | apply Kd.R_drew)); exact Kd.R_mono (Kd.R_far (p := ⟨gb144, 2, none⟩) (Kd.R_far (p := ⟨gb144, 1, none⟩) (Kd.R_far (p := ⟨gb144, 0, none⟩) (Kd.R_types HO_5.out BK144.out (by decide)) (fun _ hk => hk.2) (.int .i64 ((rd_T89 ((rd_T87 l0_0 x50_3).f1) x65_4).f0))) (fun _ hk => hk.2) (.int .i64 ((rd_T89 ((rd_T87 l0_0 x50_3).f1) x65_4).f1))) (fun _ hk => hk.2) (.slice A143_2 ((rd_T89 ((rd_T87 l0_0 x50_3).f1) x65_4).f2).length c143_2)) (fun _ hk => trivial)⟩
                        have n1_ : Aside0 ((((w50.setCell ⟨gb144, 0, none⟩ (.int .i64 ((rd_T89 ((rd_T87 l0_0 x50_3).f1) x65_4).f0))).setCell ⟨gb144, 1, none⟩ (.int .i64 ((rd_T89 ((rd_T87 l0_0 x50_3).f1) x65_4).f1))).setCell ⟨gb144, 2, none⟩ (.slice A143_2 ((rd_T89 ((rd_T87 l0_0 x50_3).f1) x65_4).f2).length c143_2)).heap[gb120]? = some (.cells #[.slice (some ad135) l0_0.length c0_0, .bool a0_1, .int .i64 a0_2, .int .i64 a0_3, .int .i64 a0_4, .int .i64 a0_5, .int .i64 a0_6, .int .i64 a0_7, .slice A0_8 l0_8.length c0_8] 63 (0, 0))) := ⟨by (with_reducible repeat (first | refine blk_drewN ?_ _ | refine blk_drew ?_ | refine blk_alloc ?_ _)); refine blk_far ?_ NB120_144.out _; (with_reducible repeat (first | refine blk_drewN ?_ _ | refine blk_drew ?_ | refine blk_alloc ?_ _)); refine blk_far ?_ NB120_144.out _; (with_reducible repeat (first | refine blk_drewN ?_ _ | refine blk_drew ?_ | refine blk_alloc ?_ _)); refine blk_far ?_ NB120_144.out _; (with_reducible repeat (first | refine blk_drewN ?_ _ | refine blk_drew ?_ | refine blk_alloc ?_ _)); exact BK120.out⟩
                        have n2_ : Aside0 ((((w50.setCell ⟨gb144, 0, none⟩ (.int .i64 ((rd_T89 ((rd_T87 l0_0 x50_3).f1) x65_4).f0))).setCell ⟨gb144, 1, none⟩ (.int .i64 ((rd_T89 ((rd_T87 l0_0 x50_3).f1) x65_4).f1))).setCell ⟨gb144, 2, none⟩ (.slice A143_2 ((rd_T89 ((rd_T87 l0_0 x50_3).f1) x65_4).f2).length c143_2)).heap[gb121]? = some (.cells #[.int .i64 a0_2, .int .i64 a0_3, .int .i64 a0_4, .int .i64 a0_5, .int .i64 a0_6, .int .i64 a0_7] 61 (0, 0))) := ⟨by (with_reducible repeat (first | refine blk_drewN ?_ _ | refine blk_drew ?_ | refine blk_alloc ?_ _)); refine blk_far ?_ NB121_144.out _; (with_reducible repeat (first | refine blk_drewN ?_ _ | refine blk_drew ?_ | refine blk_alloc ?_ _)); refine blk_far ?_ NB121_144.out _; (with_reducible repeat (first | refine blk_drewN ?_ _ | refine blk_drew ?_ | refine blk_alloc ?_ _)); refine blk_far ?_ NB121_144.out _; (with_reducible repeat (first | refine blk_drewN ?_ _ | refine blk_drew ?_ | refine blk_alloc ?_ _)); exact BK121.out⟩
                        have n3_ : Aside0 ((((w50.setCell ⟨gb144, 0, none⟩ (.int .i64 ((rd_T89 ((rd_T87 l0_0 x50_3).f1) x65_4).f0))).setCell ⟨gb144, 1, none⟩ (.int .i64 ((rd_T89 ((rd_T87 l0_0 x50_3).f1) x65_4).f1))).setCell ⟨gb144, 2, none⟩ (.slice A143_2 ((rd_T89 ((rd_T87 l0_0 x50_3).f1) x65_4).f2).length c143_2)).heap[gb136]? = some (.cells #[.int .i64 ((rd_T87 l0_0 x50_3).f0), .slice (some ad143) ((rd_T87 l0_0 x50_3).f1).length c135_1] 87 (0, 0))) := ⟨by (with_reducible repeat (first | refine blk_drewN ?_ _ | refine blk_drew ?_ | refine blk_alloc ?_ _)); refine blk_far ?_ NB136_144.out _; (with_reducible repeat (first | refine blk_drewN ?_ _ | refine blk_drew ?_ | refine blk_alloc ?_ _)); refine blk_far ?_ NB136_144.out _; (with_reducible repeat (first | refine blk_drewN ?_ _ | refine blk_drew ?_ | refine blk_alloc ?_ _)); refine blk_far ?_ NB136_144.out _; (with_reducible repeat (first | refine blk_drewN ?_ _ | refine blk_drew ?_ | refine blk_alloc ?_ _)); exact BK136.out⟩
                        have n4_ : Aside0 ((((w50.setCell ⟨gb144, 0, none⟩ (.int .i64 ((rd_T89 ((rd_T87 l0_0 x50_3).f1) x65_4).f0))).setCell ⟨gb144, 1, none⟩ (.int .i64 ((rd_T89 ((rd_T87 l0_0 x50_3).f1) x65_4).f1))).setCell ⟨gb144, 2, none⟩ (.slice A143_2 ((rd_T89 ((rd_T87 l0_0 x50_3).f1) x65_4).f2).length c143_2)).heap[gb144]? = some (.cells #[.int .i64 ((rd_T89 ((rd_T87 l0_0 x50_3).f1) x65_4).f0), .int .i64 ((rd_T89 ((rd_T87 l0_0 x50_3).f1) x65_4).f1), .slice A143_2 ((rd_T89 ((rd_T87 l0_0 x50_3).f1) x65_4).f2).length c143_2] 89 (0, 0))) := ⟨by (with_reducible repeat (first | refine blk_drewN ?_ _ | refine blk_drew ?_ | refine blk_alloc ?_ _)); refine blk_put (cs := #[.int .i64 ((rd_T89 ((rd_T87 l0_0 x50_3).f1) x65_4).f0), .int .i64 ((rd_T89 ((rd_T87 l0_0 x50_3).f1) x65_4).f1), .slice none 0 0]) ?_ 2 _ rfl; (with_reducible repeat (first | refine blk_drewN ?_ _ | refine blk_drew ?_ | refine blk_alloc ?_ _)); refine blk_put (cs := #[.int .i64 ((rd_T89 ((rd_T87 l0_0 x50_3).f1) x65_4).f0), .int .i64 0, .slice none 0 0]) ?_ 1 _ rfl; (with_reducible repeat (first | refine blk_drewN ?_ _ | refine blk_drew ?_ | refine blk_alloc ?_ _)); refine blk_put (cs := #[.int .i64 0, .int .i64 0, .slice none 0 0]) ?_ 0 _ rfl; (with_reducible repeat (first | refine blk_drewN ?_ _ | refine blk_drew ?_ | refine blk_alloc ?_ _)); exact BK144.out⟩
                        have n5_ : Aside0 (Below w.heap.size w (((w50.setCell ⟨gb144, 0, none⟩ (.int .i64 ((rd_T89 ((rd_T87 l0_0 x50_3).f1) x65_4).f0))).setCell ⟨gb144, 1, none⟩ (.int .i64 ((rd_T89 ((rd_T87 l0_0 x50_3).f1) x65_4).f1))).setCell ⟨gb144, 2, none⟩ (.slice A143_2 ((rd_T89 ((rd_T87 l0_0 x50_3).f1) x65_4).f2).length c143_2))) := ⟨Ls HB⟩
                        try clear HO_5; try clear BK120; try clear BK121; try clear BK136; try clear BK144; try clear HB
                        generalize (((w50.setCell ⟨gb144, 0, none⟩ (.int .i64 ((rd_T89 ((rd_T87 l0_0 x50_3).f1) x65_4).f0))).setCell ⟨gb144, 1, none⟩ (.int .i64 ((rd_T89 ((rd_T87 l0_0 x50_3).f1) x65_4).f1))).setCell ⟨gb144, 2, none⟩ (.slice A143_2 ((rd_T89 ((rd_T87 l0_0 x50_3).f1) x65_4).f2).length c143_2)) = w55 at n0_ n1_ n2_ n3_ n4_ n5_ ⊢
                        have HO_5 := n0_; have BK120 := n1_; have BK121 := n2_; have BK136 := n3_; have BK144 := n4_; have HB := n5_
                        clear n0_ n1_ n2_ n3_ n4_ n5_
                        replace HO_5 := Aside0.mk (Kd.R_drew HO_5.out)
                        replace BK120 := Aside0.mk (blk_drew BK120.out)
                        replace BK121 := Aside0.mk (blk_drew BK121.out)
                        replace BK136 := Aside0.mk (blk_drew BK136.out)
                        replace BK144 := Aside0.mk (blk_drew BK144.out)
                        replace HB := Aside0.mk (below_drew1 HB.out)
                        obtain ⟨Ao57, co57, eo57⟩ := Kd.R_slice HO_5.out
                        (first | subst eo57 | (injection eo57 with f1_ f2_ f3_; have f4_ := f1_.symm; have f5_ := f3_.symm; clear f1_ f2_ f3_; subst f4_; subst f5_))
                        refine start_ (n := 11) (S := fun w' => w'.cell? ⟨gb144, 0, none⟩ = some (.int .i64 ((rd_T89 ((rd_T87 l0_0 x50_3).f1) x65_4).f0)) ∧ w'.cell? ⟨gb144, 1, none⟩ = some (.int .i64 ((rd_T89 ((rd_T87 l0_0 x50_3).f1) x65_4).f1)) ∧ w'.cell? ⟨gb144, 2, none⟩ = some (.slice A143_2 ((rd_T89 ((rd_T87 l0_0 x50_3).f1) x65_4).f2).length c143_2)) (ds := []) #[F, F, F, F, F, F, F, F, F, F, F] (by kernel_rfl) rfl rfl ⟨(blk_cell BK144.out 0).trans rfl, (blk_cell BK144.out 1).trans rfl, (blk_cell BK144.out 2).trans rfl⟩ (fun hHeld => ?_); refine with_tabW code_Put.tab19 code_Put.bits19 (fun HT_ HW_ => ?_)
                        generalize w55.drew = w56 at HO_5 BK120 BK121 BK136 BK144 HB hHeld ⊢
                        refine pure_ (i := 0) (N := some 69) (v := ?_) (a' := ?_) #[T, F, F, F, F, F, F, F, F, F, F] rfl rfl (any_of HT_.out (by kernel_rfl)) (fun _ _ _ h => h) (Or.inl ⟨by rfl, ?_⟩) ?_ ?_; rotate_left; (· intro w'; go_simp; with_reducible rfl); rotate_left; (· simp only [Act.put, sq]; rfl)
                        refine pure_ (i := 1) (N := some 70) (v := ?_) (a' := ?_) #[T, T, F, F, F, F, F, F, F, F, F] rfl rfl (any_of HT_.out (by kernel_rfl)) (fun _ _ _ h => h) (Or.inl ⟨by rfl, ?_⟩) ?_ ?_; rotate_left; (· intro w'; go_simp; with_reducible rfl); rotate_left; (· simp only [Act.put, sq]; rfl)
                        refine pure_ (i := 4) (N := some 73) (v := ?_) (a' := ?_) #[T, T, F, F, T, F, F, F, F, F, F] rfl rfl (any_of HT_.out (by kernel_rfl)) (fun _ _ _ h => h) (Or.inl ⟨by rfl, ?_⟩) ?_ ?_; rotate_left; (· intro w'; go_simp; with_reducible rfl); rotate_left; (· simp only [Act.put, sq]; rfl)
                        refine pure_ (i := 7) (N := some 76) (v := ?_) (a' := ?_) #[T, T, F, F, T, F, F, T, F, F, F] rfl rfl (any_of HT_.out (by kernel_rfl)) (fun _ _ _ h => h) (Or.inl ⟨by rfl, ?_⟩) ?_ ?_; rotate_left; (· intro w'; go_simp; with_reducible rfl); rotate_left; (· simp only [Act.put, sq]; rfl)
                        refine take_ (i := 2) (N := some 71) (v := ?_) (a' := ?_) #[T, T, T, F, T, F, F, T, F, F, F] rfl rfl (take_ofW HT_.out HW_.out (by kernel_rfl)) (fun _ _ _ h => h) (Or.inl ⟨by rfl, ?_⟩) hHeld ?_ ?_; rotate_left; (· rintro w' ⟨s0, s1, s2⟩; go_simp; with_reducible rfl); rotate_left; (· simp only [Act.put, sq]; rfl)
                        refine take_ (i := 5) (N := some 74) (v := ?_) (a' := ?_) #[T, T, T, F, T, T, F, T, F, F, F] rfl rfl (take_ofW HT_.out HW_.out (by kernel_rfl)) (fun _ _ _ h => h) (Or.inl ⟨by rfl, ?_⟩) hHeld ?_ ?_; rotate_left; (· rintro w' ⟨s0, s1, s2⟩; go_simp; with_reducible rfl); rotate_left; (· simp only [Act.put, sq]; rfl)
                        refine take_ (i := 8) (N := some 77) (v := ?_) (a' := ?_) #[T, T, T, F, T, T, F, T, T, F, F] rfl rfl (take_ofW HT_.out HW_.out (by kernel_rfl)) (fun _ _ _ h => h) (Or.inl ⟨by rfl, ?_⟩) hHeld ?_ ?_; rotate_left; (· rintro w' ⟨s0, s1, s2⟩; go_simp; with_reducible rfl); rotate_left; (· simp only [Act.put, sq]; rfl)
                        refine one_ (i := 3) (N := some 72) #[T, T, T, T, T, T, F, T, T, F, F] rfl rfl (one_of HT_.out (by kernel_rfl)) (by decide) (fun K hK => ?_)
                        refine goes_ Try.func17 (by kernel_rfl) rfl #[.slice Ao57 x5_4.length co57, .int .i64 ((rd_T89 ((rd_T87 l0_0 x50_3).f1) x65_4).f0)] (by rfl) rfl rfl (by (try simp only [List.map_toArray, List.map_cons, List.map_nil]); first | done | rfl | (simp only [List.length_drop, List.length_take]; rfl)) ?_
                        with_reducible refine (code_PutInt.calls _ _ x5_4 ((rd_T89 ((rd_T87 l0_0 x50_3).f1) x65_4).f0) t145 _ ?side1 ?side2 A47.out).mono ?_
                        (case side1 => exact Cs (Kd.R_reads' HO_5.out).2.2)
                        (case side2 => exact (Kd.R_reads' HO_5.out).2.1)
                        rintro e w58 ⟨v146, rfl, ho0, hb⟩
                        refine ⟨_, rfl, ?_⟩
                        have HO147 := Aside0.mk (Kd.R_lower (Kd.R_new' ho0 (Kd.R_lt (Rs HO_5.out))) (Lz HB))
                        replace HO_5 := Aside0.mk (Kd.R_elder' (Rs HO_5.out) (Kd.R_base ho0) hb)
                        replace BK120 := Aside0.mk (blk_below (g := gb120) (o := .cells #[.slice (some ad135) l0_0.length c0_0, .bool a0_1, .int .i64 a0_2, .int .i64 a0_3, .int .i64 a0_4, .int .i64 a0_5, .int .i64 a0_6, .int .i64 a0_7, .slice A0_8 l0_8.length c0_8] 63 (0, 0)) (Bs BK120.out) hb)
                        replace BK121 := Bb BK121 hb
                        replace BK136 := Aside0.mk (blk_below (g := gb136) (o := .cells #[.int .i64 ((rd_T87 l0_0 x50_3).f0), .slice (some ad143) ((rd_T87 l0_0 x50_3).f1).length c135_1] 87 (0, 0)) (Bs BK136.out) hb)
                        replace BK144 := Aside0.mk (blk_below (g := gb144) (o := .cells #[.int .i64 ((rd_T89 ((rd_T87 l0_0 x50_3).f1) x65_4).f0), .int .i64 ((rd_T89 ((rd_T87 l0_0 x50_3).f1) x65_4).f1), .slice A143_2 ((rd_T89 ((rd_T87 l0_0 x50_3).f1) x65_4).f2).length c143_2] 89 (0, 0)) (Bs BK144.out) hb)
                        replace HB := Lb HB hb
                        try clear hb; try clear hb2; try clear hk; try clear hi; try clear ho0
                        obtain ⟨Ao59, co59, eo59⟩ := Kd.R_slice HO147.out
                        (first | subst eo59 | (injection eo59 with f1_ f2_ f3_; have f4_ := f1_.symm; have f5_ := f3_.symm; clear f1_ f2_ f3_; subst f4_; subst f5_))
                        refine hK.out _ _ ⟨(blk_cell BK144.out 0).trans rfl, (blk_cell BK144.out 1).trans rfl, (blk_cell BK144.out 2).trans rfl⟩ (fun hHeld => ?_)
                        clear hK K
                        refine norm_ (a' := ?_) ?_ ?_; rotate_left; (· show Act.put _ (some 72) _ = _; simp only [Act.put, sq]; rfl)
                        refine one_ (i := 6) (N := some 75) #[T, T, T, T, T, T, T, T, T, F, F] rfl rfl (one_of HT_.out (by kernel_rfl)) (by decide) (fun K hK => ?_)
                        refine goes_ Try.func17 (by kernel_rfl) rfl #[.slice Ao59 t145.length co59, .int .i64 ((rd_T89 ((rd_T87 l0_0 x50_3).f1) x65_4).f1)] (by rfl) rfl rfl (by (try simp only [List.map_toArray, List.map_cons, List.map_nil]); first | done | rfl | (simp only [List.length_drop, List.length_take]; rfl)) ?_
                        with_reducible refine (code_PutInt.calls _ _ t145 ((rd_T89 ((rd_T87 l0_0 x50_3).f1) x65_4).f1) t148 _ ?side1 ?side2 A48.out).mono ?_
                        (case side1 => exact Cs (Kd.R_reads' HO147.out).2.2)
                        (case side2 => exact (Kd.R_reads' HO147.out).2.1)
                        rintro e w60 ⟨v149, rfl, ho0, hb⟩
                        refine ⟨_, rfl, ?_⟩
                        have HO150 := Aside0.mk (Kd.R_lower (Kd.R_new' (Kd.R_new' ho0 (Kd.R_lt (Rs HO_5.out))) (Kd.R_lt (Rs HO147.out))) (Lz HB))
                        replace HO_5 := Aside0.mk (Kd.R_elder' (Rs HO_5.out) (Kd.R_base ho0) hb)
                        replace HO147 := Aside0.mk (Kd.R_elder' (Rs HO147.out) (Kd.R_base ho0) hb)
                        replace BK120 := Aside0.mk (blk_below (g := gb120) (o := .cells #[.slice (some ad135) l0_0.length c0_0, .bool a0_1, .int .i64 a0_2, .int .i64 a0_3, .int .i64 a0_4, .int .i64 a0_5, .int .i64 a0_6, .int .i64 a0_7, .slice A0_8 l0_8.length c0_8] 63 (0, 0)) (Bs BK120.out) hb)
                        replace BK121 := Bb BK121 hb
                        replace BK136 := Aside0.mk (blk_below (g := gb136) (o := .cells #[.int .i64 ((rd_T87 l0_0 x50_3).f0), .slice (some ad143) ((rd_T87 l0_0 x50_3).f1).length c135_1] 87 (0, 0)) (Bs BK136.out) hb)
                        replace BK144 := Aside0.mk (blk_below (g := gb144) (o := .cells #[.int .i64 ((rd_T89 ((rd_T87 l0_0 x50_3).f1) x65_4).f0), .int .i64 ((rd_T89 ((rd_T87 l0_0 x50_3).f1) x65_4).f1), .slice A143_2 ((rd_T89 ((rd_T87 l0_0 x50_3).f1) x65_4).f2).length c143_2] 89 (0, 0)) (Bs BK144.out) hb)
                        replace HB := Lb HB hb
                        try clear hb; try clear hb2; try clear hk; try clear hi; try clear ho0
                        obtain ⟨Ao61, co61, eo61⟩ := Kd.R_slice HO150.out
                        (first | subst eo61 | (injection eo61 with f1_ f2_ f3_; have f4_ := f1_.symm; have f5_ := f3_.symm; clear f1_ f2_ f3_; subst f4_; subst f5_))
                        refine hK.out _ _ ⟨(blk_cell BK144.out 0).trans rfl, (blk_cell BK144.out 1).trans rfl, (blk_cell BK144.out 2).trans rfl⟩ (fun hHeld => ?_)
                        clear hK K
                        refine norm_ (a' := ?_) ?_ ?_; rotate_left; (· show Act.put _ (some 75) _ = _; simp only [Act.put, sq]; rfl)
                        refine one_ (i := 9) (N := some 78) #[T, T, T, T, T, T, T, T, T, T, F] rfl rfl (one_of HT_.out (by kernel_rfl)) (by decide) (fun K hK => ?_)
                        refine goes_ Try.func18 (by kernel_rfl) rfl #[.slice Ao61 t148.length co61, .slice A143_2 ((rd_T89 ((rd_T87 l0_0 x50_3).f1) x65_4).f2).length c143_2] (by rfl) rfl rfl (by (try simp only [List.map_toArray, List.map_cons, List.map_nil]); first | done | rfl | (simp only [List.length_drop, List.length_take]; rfl)) ?_
                        with_reducible refine (code_PutInts.calls k4 _ _ t148 _ _ ((rd_T89 ((rd_T87 l0_0 x50_3).f1) x65_4).f2) t151 _ ?side1 ?side2 ?side3 ?side4 A49.out).mono ?_
                        (case side1 => exact Cs (Kd.R_reads' HO150.out).2.2)
                        (case side2 => exact (Kd.R_reads' HO150.out).2.1)
                        (case side3 => repeat (first | exact (Kd.C_below HR143_2.out HB.out) | (with_reducible refine Kd.C_alloc ?_ _) | (with_reducible refine Kd.C_drewN ?_ _) | (with_reducible refine Kd.C_drew ?_)))
                        (case side4 => exact HC143_2.out)
                        rintro e w62 ⟨v152, rfl, ho0, hb⟩
                        refine ⟨_, rfl, ?_⟩
                        have HO153 := Aside0.mk (Kd.R_lower (Kd.R_new' (Kd.R_new' (Kd.R_new' ho0 (Kd.R_lt (Rs HO_5.out))) (Kd.R_lt (Rs HO147.out))) (Kd.R_lt (Rs HO150.out))) (Lz HB))
                        replace HO_5 := Aside0.mk (Kd.R_elder' (Rs HO_5.out) (Kd.R_base ho0) hb)
                        replace HO147 := Aside0.mk (Kd.R_elder' (Rs HO147.out) (Kd.R_base ho0) hb)
                        replace HO150 := Aside0.mk (Kd.R_elder' (Rs HO150.out) (Kd.R_base ho0) hb)
                        replace BK120 := Aside0.mk (blk_below (g := gb120) (o := .cells #[.slice (some ad135) l0_0.length c0_0, .bool a0_1, .int .i64 a0_2, .int .i64 a0_3, .int .i64 a0_4, .int .i64 a0_5, .int .i64 a0_6, .int .i64 a0_7, .slice A0_8 l0_8.length c0_8] 63 (0, 0)) (Bs BK120.out) hb)
                        replace BK121 := Bb BK121 hb
                        replace BK136 := Aside0.mk (blk_below (g := gb136) (o := .cells #[.int .i64 ((rd_T87 l0_0 x50_3).f0), .slice (some ad143) ((rd_T87 l0_0 x50_3).f1).length c135_1] 87 (0, 0)) (Bs BK136.out) hb)
                        replace BK144 := Aside0.mk (blk_below (g := gb144) (o := .cells #[.int .i64 ((rd_T89 ((rd_T87 l0_0 x50_3).f1) x65_4).f0), .int .i64 ((rd_T89 ((rd_T87 l0_0 x50_3).f1) x65_4).f1), .slice A143_2 ((rd_T89 ((rd_T87 l0_0 x50_3).f1) x65_4).f2).length c143_2] 89 (0, 0)) (Bs BK144.out) hb)
                        replace HB := Lb HB hb
                        try clear hb; try clear hb2; try clear hk; try clear hi; try clear ho0
                        refine hK.out _ _ ⟨(blk_cell BK144.out 0).trans rfl, (blk_cell BK144.out 1).trans rfl, (blk_cell BK144.out 2).trans rfl⟩ (fun hHeld => ?_)
                        clear hK K
                        refine norm_ (a' := ?_) ?_ ?_; rotate_left; (· show Act.put _ (some 78) _ = _; simp only [Act.put, sq]; rfl)
                        refine pure_ (i := 10) (N := some 5) (v := ?_) (a' := ?_) #[T, T, T, T, T, T, T, T, T, T, T] rfl rfl (any_of HT_.out (by kernel_rfl)) (fun _ _ _ h => h) (Or.inl ⟨by rfl, ?_⟩) ?_ ?_; rotate_left; (· intro w'; go_simp; with_reducible rfl); rotate_left; (· simp only [Act.put, sq]; rfl)
                        refine done_ (done_of HT_.out (by kernel_rfl)) ?_
                        try go_wp2
                        go_roundg k4
                        case measure => have := HJ1.out; have := HK2.out; have := HK3.out; have := HK4.out; omega
                        case rel => exact ⟨(t151), (wrap64 (x65_4 + 1)), (by first | rfl | (simp; done) | (simp [*]; done)), H', ⟨by have := HJ1.out; have := HK2.out; have := HK3.out; have := HK4.out; omega⟩, ⟨by (with_reducible repeat (first | apply Kd.R_alloc | apply Kd.R_drewN | apply Kd.R_drew)); exact Kd.R_mono HO153.out (fun _ hk => trivial)⟩, ⟨Bs BK120.out⟩, ⟨Bs BK121.out⟩, ⟨Bs BK136.out⟩, ⟨Ls HB⟩⟩
                      · rw [if_neg c44] at H
                        have c44b0 : decide (x65_4 < (((rd_T87 l0_0 x50_3).f1).length : Int)) = false := decide_eq_false c44
                        clear c44
                        have H' := Aside0.mk H
                        clear H
                        go_wp2
                        go_roundg k4
                        case measure => have := HJ1.out; have := HK2.out; have := HK3.out; have := HK4.out; omega
                        case rel => exact ⟨(x5_4), (wrap64 (x50_3 + 1)), (by first | rfl | (simp; done) | (simp [*]; done)), H', ⟨by have := HJ1.out; have := HK2.out; have := HK3.out; have := HK4.out; omega⟩, ⟨Rs HO_5.out⟩, ⟨Bs BK120.out⟩, ⟨Bs BK121.out⟩, ⟨Ls HB⟩⟩
                · rw [if_neg c28] at H
                  have c28b0 : decide (x50_3 < (l0_0.length : Int)) = false := decide_eq_false c28
                  clear c28
                  obtain rfl := Option.some.inj H
                  go_wp2
                  go_ret
                  exact ⟨_, by first | rfl | (simp [errW_none, errW_some] <;> rfl) | (simp [*, errW_none, errW_some] <;> rfl), by (with_reducible repeat (first | apply Kd.R_alloc | apply Kd.R_drewN | apply Kd.R_drew)); exact HO_5.out, by repeat (first | (with_reducible first | exact HB.out | apply below_alloc | apply pw_below_drewN | apply below_drew1 | refine below_set ?_ GE120.out | refine below_set ?_ GE121.out) | exact HB.out)⟩

end Go.Proofs.Ytobfhacdljmooaa.PCodeP
