-- written for this claim by wip/pr/hand.py (the kit's print, with contracts proved by hand)
import Derived.Test.YtobfhacdljmooaaPCodePx0
import Derived.Test.YtobfhacdljmooaaSq
import Derived.Test.YtobfhacdljmooaaPCodePx12
import Derived.Test.YtobfhacdljmooaaPCodePx13
namespace Go.Proofs.Ytobfhacdljmooaa.PCodeP
open Go.RowKit Go.Proofs.YtobfhacdljmooaaW.PrintWords Go.Proofs.YtobfhacdljmooaaW.PrintLast Go.Proofs.YtobfhacdljmooaaW.PrintMore Go.Proofs.Ytobfhacdljmooaa.Sq
attribute [local go_sem] max2_int min2_int max_two min_two max_three min_three max_four min_four   -- for this text's walks alone
set_option linter.unusedVariables false
set_option linter.unusedSimpArgs false

/-! ### trommelref39_Get: function 40 -/
mutual
def trommelref39_Get.l0 : Nat → List Int → List Int → Int → Int → Option ((List (S87)) × Bool × Int × Int × Int × Int × Int × Int × List Int × Int)
  | 0, _, _, _, _ => none
  | k + 1, x0, x4, x5, x6 => if x6 < 7 then ((trommelref39_GetInt.f k x0 x5).bind fun bt404 => (if bt404.2.2 = true then (if x4.length < 17592186044416 then (trommelref39_Get.l0 k x0 (x4 ++ [bt404.1]) bt404.2.1 (wrap64 (x6 + 1))) else (none)) else (some (([] : List (S87)), false, 0, 0, 0, 0, 0, 0, ([] : List Int), 7)))) else ((trommelref39_GetInts.f k x0 x5).bind fun bt410 => (if bt410.2.2 = true then (if 0 < (x4.length : Int) then (if (rd x4 0) < 0 then (trommelref39_Get.j1 k x0 x4 bt410.1 bt410.2.1 true) else (trommelref39_Get.j1 k x0 x4 bt410.1 bt410.2.1 (decide ((rd x4 0) > 1)))) else (none)) else (trommelref39_Get.j1 k x0 x4 bt410.1 bt410.2.1 true)))
def trommelref39_Get.j1 : Nat → List Int → List Int → List Int → Int → Bool → Option ((List (S87)) × Bool × Int × Int × Int × Int × Int × Int × List Int × Int)
  | 0, _, _, _, _, _ => none
  | k + 1, x0, x4, x10, x11, x60 => if x60 = true then (some (([] : List (S87)), false, 0, 0, 0, 0, 0, 0, ([] : List Int), 7)) else (if 0 < (x4.length : Int) then (if 1 < (x4.length : Int) then (if 2 < (x4.length : Int) then (if 3 < (x4.length : Int) then (if 4 < (x4.length : Int) then (if 5 < (x4.length : Int) then (if 6 < (x4.length : Int) then ((trommelref39_Count.f k x0 x11).bind fun bt425 => (if bt425.2.2 = true then (trommelref39_Get.l1 k x0 bt425.1 bt425.2.1 0 ([] : List (S87)) ((rd x4 0) == 1) (rd x4 1) (rd x4 2) (rd x4 3) (rd x4 4) (rd x4 5) (rd x4 6) x10) else (some (([] : List (S87)), false, 0, 0, 0, 0, 0, 0, ([] : List Int), 7)))) else (none)) else (none)) else (none)) else (none)) else (none)) else (none)) else (none))
def trommelref39_Get.l1 : Nat → List Int → Int → Int → Int → List (S87) → Bool → Int → Int → Int → Int → Int → Int → List Int → Option ((List (S87)) × Bool × Int × Int × Int × Int × Int × Int × List Int × Int)
  | 0, _, _, _, _, _, _, _, _, _, _, _, _, _ => none
  | k + 1, x0, x14, x15, x17, x425000, x425001, x425002, x425003, x425004, x425005, x425006, x425007, x425008 => if x17 < x14 then ((trommelref39_stat.f k x0 x15).bind fun bt428 => (if bt428.2.2.2 = true then (if x425000.length < 4398046511104 then (trommelref39_Get.l1 k x0 x14 bt428.2.2.1 (wrap64 (x17 + 1)) (x425000 ++ [(⟨bt428.1, bt428.2.1⟩ : S87)]) x425001 x425002 x425003 x425004 x425005 x425006 x425007 x425008) else (none)) else (some (([] : List (S87)), false, 0, 0, 0, 0, 0, 0, ([] : List Int), 7)))) else (if x15 = (x0.length : Int) then (some (x425000, x425001, x425002, x425003, x425004, x425005, x425006, x425007, x425008, 0)) else (some (([] : List (S87)), false, 0, 0, 0, 0, 0, 0, ([] : List Int), 7)))
end
def trommelref39_Get.f (k : Nat) (l0 : List Int) : Option ((List (S87)) × Bool × Int × Int × Int × Int × Int × Int × List Int × Int) := trommelref39_Get.l0 k l0 ([] : List Int) 0 0
theorem trommelref39_Get.mono_l : ∀ k, (∀ y0 y1 y2 y3, LeO (trommelref39_Get.l0 k y0 y1 y2 y3) (trommelref39_Get.l0 (k + 1) y0 y1 y2 y3)) ∧ (∀ y0 y1 y2 y3 y4, LeO (trommelref39_Get.j1 k y0 y1 y2 y3 y4) (trommelref39_Get.j1 (k + 1) y0 y1 y2 y3 y4)) ∧ (∀ y0 y1 y2 y3 y4 y5 y6 y7 y8 y9 y10 y11 y12, LeO (trommelref39_Get.l1 k y0 y1 y2 y3 y4 y5 y6 y7 y8 y9 y10 y11 y12) (trommelref39_Get.l1 (k + 1) y0 y1 y2 y3 y4 y5 y6 y7 y8 y9 y10 y11 y12))
  | 0 => ⟨fun _ _ _ _ r h => by simp [trommelref39_Get.l0] at h, fun _ _ _ _ _ r h => by simp [trommelref39_Get.j1] at h, fun _ _ _ _ _ _ _ _ _ _ _ _ _ r h => by simp [trommelref39_Get.l1] at h⟩
  | k + 1 => by
    obtain ⟨ih0, ih1, ih2⟩ := trommelref39_Get.mono_l k
    refine ⟨?_, ?_, ?_⟩
    · intro y0 y1 y2 y3
      unfold trommelref39_Get.l0
      repeat' first
      | (with_reducible exact ih0 _ _ _ _)
      | (with_reducible exact ih1 _ _ _ _ _)
      | (with_reducible exact ih2 _ _ _ _ _ _ _ _ _ _ _ _ _)
      | (with_reducible exact trommelref39_Count.mono _ _ _)
      | (with_reducible exact trommelref39_GetInt.mono _ _ _)
      | (with_reducible exact trommelref39_GetInts.mono _ _ _)
      | (with_reducible exact trommelref39_stat.mono _ _ _)
      | (with_reducible exact LeO.refl _)
      | (with_reducible exact LeO.none _)
      | (with_reducible refine LeO.ite ?_ ?_)
      | (with_reducible refine LeO.bind ?_ (fun _ => ?_))
      | exact ih0 _ _ _ _
      | exact ih1 _ _ _ _ _
      | exact ih2 _ _ _ _ _ _ _ _ _ _ _ _ _
      | exact trommelref39_Count.mono _ _ _
      | exact trommelref39_GetInt.mono _ _ _
      | exact trommelref39_GetInts.mono _ _ _
      | exact trommelref39_stat.mono _ _ _
      | exact LeO.none _
      | refine LeO.ite ?_ ?_
      | refine LeO.bind ?_ (fun _ => ?_)
    · intro y0 y1 y2 y3 y4
      unfold trommelref39_Get.j1
      repeat' first
      | (with_reducible exact ih0 _ _ _ _)
      | (with_reducible exact ih1 _ _ _ _ _)
      | (with_reducible exact ih2 _ _ _ _ _ _ _ _ _ _ _ _ _)
      | (with_reducible exact trommelref39_Count.mono _ _ _)
      | (with_reducible exact trommelref39_GetInt.mono _ _ _)
      | (with_reducible exact trommelref39_GetInts.mono _ _ _)
      | (with_reducible exact trommelref39_stat.mono _ _ _)
      | (with_reducible exact LeO.refl _)
      | (with_reducible exact LeO.none _)
      | (with_reducible refine LeO.ite ?_ ?_)
      | (with_reducible refine LeO.bind ?_ (fun _ => ?_))
      | exact ih0 _ _ _ _
      | exact ih1 _ _ _ _ _
      | exact ih2 _ _ _ _ _ _ _ _ _ _ _ _ _
      | exact trommelref39_Count.mono _ _ _
      | exact trommelref39_GetInt.mono _ _ _
      | exact trommelref39_GetInts.mono _ _ _
      | exact trommelref39_stat.mono _ _ _
      | exact LeO.none _
      | refine LeO.ite ?_ ?_
      | refine LeO.bind ?_ (fun _ => ?_)
    · intro y0 y1 y2 y3 y4 y5 y6 y7 y8 y9 y10 y11 y12
      unfold trommelref39_Get.l1
      repeat' first
      | (with_reducible exact ih0 _ _ _ _)
      | (with_reducible exact ih1 _ _ _ _ _)
      | (with_reducible exact ih2 _ _ _ _ _ _ _ _ _ _ _ _ _)
      | (with_reducible exact trommelref39_Count.mono _ _ _)
      | (with_reducible exact trommelref39_GetInt.mono _ _ _)
      | (with_reducible exact trommelref39_GetInts.mono _ _ _)
      | (with_reducible exact trommelref39_stat.mono _ _ _)
      | (with_reducible exact LeO.refl _)
      | (with_reducible exact LeO.none _)
      | (with_reducible refine LeO.ite ?_ ?_)
      | (with_reducible refine LeO.bind ?_ (fun _ => ?_))
      | exact ih0 _ _ _ _
      | exact ih1 _ _ _ _ _
      | exact ih2 _ _ _ _ _ _ _ _ _ _ _ _ _
      | exact trommelref39_Count.mono _ _ _
      | exact trommelref39_GetInt.mono _ _ _
      | exact trommelref39_GetInts.mono _ _ _
      | exact trommelref39_stat.mono _ _ _
      | exact LeO.none _
      | refine LeO.ite ?_ ?_
      | refine LeO.bind ?_ (fun _ => ?_)
theorem trommelref39_Get.mono : ∀ a0 k, LeO (trommelref39_Get.f k a0) (trommelref39_Get.f (k + 1) a0) := by
  intro a0 k
  obtain ⟨ih0, ih1, ih2⟩ := trommelref39_Get.mono_l k
  unfold trommelref39_Get.f
  repeat' first
      | (with_reducible exact ih0 _ _ _ _)
      | (with_reducible exact ih1 _ _ _ _ _)
      | (with_reducible exact ih2 _ _ _ _ _ _ _ _ _ _ _ _ _)
      | (with_reducible exact trommelref39_Count.mono _ _ _)
      | (with_reducible exact trommelref39_GetInt.mono _ _ _)
      | (with_reducible exact trommelref39_GetInts.mono _ _ _)
      | (with_reducible exact trommelref39_stat.mono _ _ _)
      | (with_reducible exact LeO.refl _)
      | (with_reducible exact LeO.none _)
      | (with_reducible refine LeO.ite ?_ ?_)
      | (with_reducible refine LeO.bind ?_ (fun _ => ?_))
      | exact ih0 _ _ _ _
      | exact ih1 _ _ _ _ _
      | exact ih2 _ _ _ _ _ _ _ _ _ _ _ _ _
      | exact trommelref39_Count.mono _ _ _
      | exact trommelref39_GetInt.mono _ _ _
      | exact trommelref39_GetInts.mono _ _ _
      | exact trommelref39_stat.mono _ _ _
      | exact LeO.none _
      | refine LeO.ite ?_ ?_
      | refine LeO.bind ?_ (fun _ => ?_)
def trommelref39_Get.T14 : Bool × List (List Nat × List Nat) := (true, [([], []), ([0], [0]), ([1], [1]), ([2], [2]), ([], []), ([4], [4]), ([5], [5]), ([], []), ([7], [7]), ([8], [8]), ([], []), ([10], [10]), ([11], [11]), ([], []), ([13], [13]), ([14], [14]), ([], []), ([16], [16]), ([17], [17]), ([], []), ([19], [19]), ([20], [20]), ([6, 9, 12, 15, 18, 21], [6, 9, 12, 15, 18, 21]), ([], []), ([3, 22, 23], [3, 22, 23]), ([], []), ([25, 24, 0, 1, 2, 3, 4, 5, 6, 7, 8, 9, 10, 11, 12, 13, 14, 15, 16, 17, 18, 19, 20, 21, 22, 23, 24, 25], [24, 25])])
def trommelref39_Get.B14 : List Nat := [0, 1, 3, 7, 0, 16, 48, 0, 128, 384, 0, 1024, 3072, 0, 8192, 24576, 0, 65536, 196608, 0, 524288, 1572864, 4194288, 0, 16777215, 0, 67108863]
theorem trommelref39_Get.tab14 : rtab .any (opsOf Try.f40 14) = trommelref39_Get.T14 := by kernel_rfl
theorem trommelref39_Get.bits14 : waitsOk trommelref39_Get.T14.2 trommelref39_Get.B14 = true := by kernel_rfl
/-- a cell of another block, behind nine stores into a block -/
theorem far9 {w : World} {q : Addr} {g : Nat} {x v0 v1 v2 v3 v4 v5 v6 v7 v8 : Value} {i0 i1 i2 i3 i4 i5 i6 i7 i8 : Nat} (hne : q.block ≠ g) (h : w.cell? q = some x) :
    (((((((((w.setCell ⟨g, i0, none⟩ v0).setCell ⟨g, i1, none⟩ v1).setCell ⟨g, i2, none⟩ v2).setCell ⟨g, i3, none⟩ v3).setCell ⟨g, i4, none⟩ v4).setCell ⟨g, i5, none⟩ v5).setCell ⟨g, i6, none⟩ v6).setCell ⟨g, i7, none⟩ v7).setCell ⟨g, i8, none⟩ v8).cell? q = some x := by
  rw [cell_far hne, cell_far hne, cell_far hne, cell_far hne, cell_far hne, cell_far hne, cell_far hne, cell_far hne, cell_far hne]
  exact h
set_option maxHeartbeats 8000000 in
set_option maxRecDepth 100000 in
theorem trommelref39_Get.calls (k : Nat) (A0 : Option Addr) (c0 : Nat) (l0 : List Int) (r1 : List (S87)) (r2 : Bool) (r3 : Int) (r4 : Int) (r5 : Int) (r6 : Int) (r7 : Int) (r8 : Int) (r9 : List Int) (r10 : Int) (w : World) (hr0 : Kd.C (Kd.int .u8) w A0 l0.length l0) (hc0 : l0.length ≤ c0) (h : trommelref39_Get.f k l0 = some (r1, r2, r3, r4, r5, r6, r7, r8, r9, r10)) :
    Calls Try.prog 40 #[.slice A0 l0.length c0] w fun e w' => ∃ v0_ v8_ : Value, e = .returned (.tuple #[.agg #[v0_, .bool r2, .int .i64 r3, .int .i64 r4, .int .i64 r5, .int .i64 r6, .int .i64 r7, .int .i64 r8, v8_], .int .i64 r10]) ∧ Kd.R k87 87 w' w.heap.size (fun k_ => some k_ ≠ (v8_ : Value).ownBlock) v0_ r1 ∧ Kd.R (Kd.int .i64) 3 w' w.heap.size (fun _ => True) v8_ r9 ∧ Below w.heap.size w w' := by
  have hu63 := Try.underlying63
  have hu61 := Try.underlying61
  have hu87 := Try.underlying87
  have HR0 := Aside0.mk hr0
  have HC0 := Aside0.mk hc0
  clear hr0 hc0
  have HB := Aside0.mk (Below.refl w.heap.size w)
  have H : (trommelref39_Get.l0 k l0 ([] : List Int) 0 0) = some (r1, r2, r3, r4, r5, r6, r7, r8, r9, r10) := h
  clear h
  have H' := Aside0.mk H
  clear H
  go_enter Try.func40, Try.ntmps40
  go_wp2_with (first | ((with_reducible refine gate_dst (N := 2) rfl ?_); refine box_event ?hg (N := 2) ?hd (cs := #[.slice none 0 0, .bool false, .int .i64 0, .int .i64 0, .int .i64 0, .int .i64 0, .int .i64 0, .int .i64 0, .slice none 0 0]) (t := 63) ?hr ?_; (case hd => rfl); (case hg => rfl); (case hr => first | (go_simp; done) | (go_simp; rfl)); intro gb403 hg w2 hbox hb; have n0_ := Lb HB hb; have n1_ := Aside0.mk (hbox); have n2_ := Aside0.mk ((by rw [hg]; exact (Lz HB) : w.heap.size ≤ gb403)); have n3_ := Aside0.mk ((by rw [hg]; exact (Lz HB) : w.heap.size ≤ gb403)); clear HB; have HB := n0_; have BK403 := n1_; have GW403 := n2_; have GE403 := n3_; clear n0_ n1_ n2_ n3_; clear hb hbox hg))
  go_loopg [4, 5, 6] k (fun kq v4 v5 v6 w' => ∃ (x4_1 : List Int) (x5_1 : Int) (x6_1 : Int) (x404001_1 : Bool) (x404002_1 : Int) (x404003_1 : Int) (x404004_1 : Int) (x404005_1 : Int) (x404006_1 : Int) (x404007_1 : Int), v5 = .int .i64 x5_1 ∧ v6 = .int .i64 x6_1 ∧ Aside0 (trommelref39_Get.l0 kq l0 x4_1 x5_1 x6_1 = some (r1, r2, r3, r4, r5, r6, r7, r8, r9, r10)) ∧ Aside0 (kq ≤ k) ∧ Aside0 (Kd.R (Kd.int .i64) 3 w' w.heap.size (fun _ => True) v4 x4_1) ∧ Aside0 (w'.heap[gb403]? = some (.cells #[(.slice none 0 0), .bool x404001_1, .int .i64 x404002_1, .int .i64 x404003_1, .int .i64 x404004_1, .int .i64 x404005_1, .int .i64 x404006_1, .int .i64 x404007_1, (.slice none 0 0)] 63 (0, 0))) ∧ Aside0 (Below w.heap.size w w'))
  case atStart => exact ⟨(([] : List Int)), (0), (0), (false), (0), (0), (0), (0), (0), (0), (by first | rfl | (simp; done) | (simp [*]; done)), (by first | rfl | (simp; done) | (simp [*]; done)), H', ⟨Nat.le_refl _⟩, ⟨by first | exact Kd.R_nil _ _ _ _ _ | exact Kd.N_nil _ _ _ _ _ | exact Kd.V_nil _ _ _ _ _ | exact Kd.Q_nil _ _ _ _ _ | exact Kd.S_nil _ _ _ _ _⟩, ⟨Bs BK403.out⟩, ⟨Ls HB⟩⟩
  case round =>
    clear H'
    try clear p2
    obtain ⟨x4_1, x5_1, x6_1, x404001_1, x404002_1, x404003_1, x404004_1, x404005_1, x404006_1, x404007_1, rfl, rfl, HA, HK1, HO_4, BK403, HB⟩ := hrel
    cases gk with
    | zero => exact absurd HA.out (by simp [trommelref39_Get.l0])
    | succ k1 =>
      have H := HA.out
      clear HA
      simp only [trommelref39_Get.l0] at H
      by_cases c3 : x6_1 < 7
      · rw [if_pos c3] at H
        have c3b0 : decide (x6_1 < 7) = true := decide_eq_true c3
        clear c3
        replace H := Option.bind_eq_some_iff.mp H
        obtain ⟨⟨t404, t405, t406⟩, A40, H⟩ := H
        replace H : (if t406 = true then (if x4_1.length < 17592186044416 then (trommelref39_Get.l0 k1 l0 (x4_1 ++ [t404]) t405 (wrap64 (x6_1 + 1))) else (none)) else (some (([] : List (S87)), false, 0, 0, 0, 0, 0, 0, ([] : List Int), 7))) = some (r1, r2, r3, r4, r5, r6, r7, r8, r9, r10) := H
        have A4 := Aside0.mk A40
        clear A40
        by_cases c5 : t406 = true
        · subst c5
          have H1 : (if x4_1.length < 17592186044416 then (trommelref39_Get.l0 k1 l0 (x4_1 ++ [t404]) t405 (wrap64 (x6_1 + 1))) else (none)) = some (r1, r2, r3, r4, r5, r6, r7, r8, r9, r10) := by rw [if_pos rfl] at H; exact H
          clear H
          have H := H1
          clear H1
          refine bc (p := (x4_1.length < 17592186044416)) (fun c6 => ?_) (fun c6 => ?_)
          · rw [if_neg c6] at H
            exact absurd H (by simp)
          rw [if_pos c6] at H
          have LMc6 := Aside0.mk c6
          clear c6
          obtain ⟨y407, hy407⟩ : ∃ y_ : List Int, y_ = (x4_1 ++ [t404]) := ⟨_, rfl⟩
          replace H : (trommelref39_Get.l0 k1 l0 y407 t405 (wrap64 (x6_1 + 1))) = some (r1, r2, r3, r4, r5, r6, r7, r8, r9, r10) := by first | (rw [hy407]; with_reducible exact H) | (have H2_ := (Option.bind_some _ _).symm.trans H; rw [hy407]; with_reducible exact H2_) | (have H2_ := (Option.bind_some _ _).symm.trans H; with_reducible exact H2_) | with_reducible exact H | (rw [hy407]; exact H) | exact H
          have Ny407 := Aside0.mk hy407
          clear hy407
          have H' := Aside0.mk H
          clear H
          go_wp2_with (first | ((with_reducible refine gate_callee (f := 24) rfl ?_); refine goesL_ (some 28) rfl rfl Try.func24 (by kernel_rfl) rfl #[.slice A0 l0.length c0, .int .i64 x5_1] rfl (by (try simp only [List.map_toArray, List.map_cons, List.map_nil]); first | done | rfl | (simp only [List.length_drop, List.length_take]; rfl)) ?_; (with_reducible refine (trommelref39_GetInt.calls k1 _ _ l0 x5_1 t404 t405 true _ ?side1 ?side2 A4.out).mono ?_); (case side1 => repeat (first | exact (Kd.C_below HR0.out HB.out) | (with_reducible refine Kd.C_alloc ?_ _) | (with_reducible refine Kd.C_drewN ?_ _) | (with_reducible refine Kd.C_drew ?_))); (case side2 => exact HC0.out); rintro e w7 ⟨rfl, hb⟩; refine ⟨_, rfl, ?_⟩; have n0_ := Rb HO_4 hb; have n1_ := Bb BK403 hb; have n2_ := Lb HB hb; clear HO_4 BK403 HB; have HO_4 := n0_; have BK403 := n1_; have HB := n2_; clear n0_ n1_ n2_; (try clear hb); (try clear hb2); (try clear hk); (try clear hi)) | ((with_reducible refine gate_builtin (b := .append) (xs := #[.tmp 35, .tmp 37]) rfl ?_); at_builtin; refine Kd.R_append (Kd.int .i64) (w0 := w) w.heap.size rfl (.tmp 35) (.tmp 37) 37 3 (.int .i64 0) 8 rfl Try.underlying37 info3 rfl (by decide) (by omega) u4 x4_1 t404 [.int .i64 t404] (fun _ => True) (fun _ => False) rfl rfl ?aP (fun _ hk => hk.elim) ?aF ?aO ?aB ?aS ?aL ?_; (case aP => exact rfl); (case aB => exact (Ls HB)); (case aF => exact (fun _ _ => trivial)); (case aO => exact (Rs HO_4.out)); (case aS => exact (Lz HB)); (case aL => have := LMc6.out; omega); intro v408 w8 ho hb hg hat; rw [← Ny407.out] at ho; have n0_ := Aside0.mk (blk_grown (g := gb403) (o := .cells #[.slice none 0 0, .bool x404001_1, .int .i64 x404002_1, .int .i64 x404003_1, .int .i64 x404004_1, .int .i64 x404005_1, .int .i64 x404006_1, .int .i64 x404007_1, .slice none 0 0] 63 (0, 0)) (Bs BK403.out) hg (Kd.R_ne HO_4.out BK403.out (by decide))); have n1_ := Aside0.mk (hb); have n2_ := Aside0.mk (ho); clear BK403 HB HO_4; have BK403 := n0_; have HB := n1_; have HO409 := n2_; clear n0_ n1_ n2_; clear ho hb hg hat))
          go_roundg k1
          case measure => have := HK1.out; omega
          case rel => exact ⟨(y407), (t405), (wrap64 (x6_1 + 1)), (x404001_1), (x404002_1), (x404003_1), (x404004_1), (x404005_1), (x404006_1), (x404007_1), (by first | rfl | (simp; done) | (simp [*]; done)), (by first | rfl | (simp; done) | (simp [*]; done)), H', ⟨by have := HK1.out; omega⟩, ⟨Rs HO409.out⟩, ⟨Bs BK403.out⟩, ⟨Ls HB⟩⟩
        · replace c5 := Bool.eq_false_iff.mpr c5
          subst c5
          have H1 : (some (([] : List (S87)), false, 0, 0, 0, 0, 0, 0, ([] : List Int), 7)) = some (r1, r2, r3, r4, r5, r6, r7, r8, r9, r10) := by rw [if_neg (show ¬ (false = true) by decide)] at H; exact H
          clear H
          have H := H1
          clear H1
          simp only [Option.some.injEq, Prod.mk.injEq] at H
          obtain ⟨rfl, rfl, rfl, rfl, rfl, rfl, rfl, rfl, rfl, rfl⟩ := H
          go_wp2_with (first | ((with_reducible refine gate_callee (f := 24) rfl ?_); refine goesL_ (some 28) rfl rfl Try.func24 (by kernel_rfl) rfl #[.slice A0 l0.length c0, .int .i64 x5_1] rfl (by (try simp only [List.map_toArray, List.map_cons, List.map_nil]); first | done | rfl | (simp only [List.length_drop, List.length_take]; rfl)) ?_; (with_reducible refine (trommelref39_GetInt.calls k1 _ _ l0 x5_1 t404 t405 false _ ?side1 ?side2 A4.out).mono ?_); (case side1 => repeat (first | exact (Kd.C_below HR0.out HB.out) | (with_reducible refine Kd.C_alloc ?_ _) | (with_reducible refine Kd.C_drewN ?_ _) | (with_reducible refine Kd.C_drew ?_))); (case side2 => exact HC0.out); rintro e w9 ⟨rfl, hb⟩; refine ⟨_, rfl, ?_⟩; have n0_ := Rb HO_4 hb; have n1_ := Bb BK403 hb; have n2_ := Lb HB hb; clear HO_4 BK403 HB; have HO_4 := n0_; have BK403 := n1_; have HB := n2_; clear n0_ n1_ n2_; (try clear hb); (try clear hb2); (try clear hk); (try clear hi); have hcz10_0 : w9.cell? ⟨gb403, 0, none⟩ = some (.slice none 0 0) := (blk_cell BK403.out 0).trans rfl; have hcz10_1 : w9.cell? ⟨gb403, 1, none⟩ = some (.bool x404001_1) := (blk_cell BK403.out 1).trans rfl; have hcz10_2 : w9.cell? ⟨gb403, 2, none⟩ = some (.int .i64 x404002_1) := (blk_cell BK403.out 2).trans rfl; have hcz10_3 : w9.cell? ⟨gb403, 3, none⟩ = some (.int .i64 x404003_1) := (blk_cell BK403.out 3).trans rfl; have hcz10_4 : w9.cell? ⟨gb403, 4, none⟩ = some (.int .i64 x404004_1) := (blk_cell BK403.out 4).trans rfl; have hcz10_5 : w9.cell? ⟨gb403, 5, none⟩ = some (.int .i64 x404005_1) := (blk_cell BK403.out 5).trans rfl; have hcz10_6 : w9.cell? ⟨gb403, 6, none⟩ = some (.int .i64 x404006_1) := (blk_cell BK403.out 6).trans rfl; have hcz10_7 : w9.cell? ⟨gb403, 7, none⟩ = some (.int .i64 x404007_1) := (blk_cell BK403.out 7).trans rfl; have hcz10_8 : w9.cell? ⟨gb403, 8, none⟩ = some (.slice none 0 0) := (blk_cell BK403.out 8).trans rfl; have hfz10_0 := blk_frozen BK403.out 0; have hfz10_1 := blk_frozen BK403.out 1; have hfz10_2 := blk_frozen BK403.out 2; have hfz10_3 := blk_frozen BK403.out 3; have hfz10_4 := blk_frozen BK403.out 4; have hfz10_5 := blk_frozen BK403.out 5; have hfz10_6 := blk_frozen BK403.out 6; have hfz10_7 := blk_frozen BK403.out 7; have hfz10_8 := blk_frozen BK403.out 8))
          refine bodyPost_ret (results_ct rfl _ _ gb403 63 #[.slice none 0 0, .bool false, .int .i64 0, .int .i64 0, .int .i64 0, .int .i64 0, .int .i64 0, .int .i64 0, .slice none 0 0] (0, 0) _ rfl (by (with_reducible repeat (first | refine blk_drewN ?_ _ | refine blk_drew ?_ | refine blk_alloc ?_ _)); refine blk_put (cs := #[.slice none 0 0, .bool false, .int .i64 0, .int .i64 0, .int .i64 0, .int .i64 0, .int .i64 0, .int .i64 0, .slice none 0 0]) ?_ 8 _ rfl; (with_reducible repeat (first | refine blk_drewN ?_ _ | refine blk_drew ?_ | refine blk_alloc ?_ _)); refine blk_put (cs := #[.slice none 0 0, .bool false, .int .i64 0, .int .i64 0, .int .i64 0, .int .i64 0, .int .i64 0, .int .i64 x404007_1, .slice none 0 0]) ?_ 7 _ rfl; (with_reducible repeat (first | refine blk_drewN ?_ _ | refine blk_drew ?_ | refine blk_alloc ?_ _)); refine blk_put (cs := #[.slice none 0 0, .bool false, .int .i64 0, .int .i64 0, .int .i64 0, .int .i64 0, .int .i64 x404006_1, .int .i64 x404007_1, .slice none 0 0]) ?_ 6 _ rfl; (with_reducible repeat (first | refine blk_drewN ?_ _ | refine blk_drew ?_ | refine blk_alloc ?_ _)); refine blk_put (cs := #[.slice none 0 0, .bool false, .int .i64 0, .int .i64 0, .int .i64 0, .int .i64 x404005_1, .int .i64 x404006_1, .int .i64 x404007_1, .slice none 0 0]) ?_ 5 _ rfl; (with_reducible repeat (first | refine blk_drewN ?_ _ | refine blk_drew ?_ | refine blk_alloc ?_ _)); refine blk_put (cs := #[.slice none 0 0, .bool false, .int .i64 0, .int .i64 0, .int .i64 x404004_1, .int .i64 x404005_1, .int .i64 x404006_1, .int .i64 x404007_1, .slice none 0 0]) ?_ 4 _ rfl; (with_reducible repeat (first | refine blk_drewN ?_ _ | refine blk_drew ?_ | refine blk_alloc ?_ _)); refine blk_put (cs := #[.slice none 0 0, .bool false, .int .i64 0, .int .i64 x404003_1, .int .i64 x404004_1, .int .i64 x404005_1, .int .i64 x404006_1, .int .i64 x404007_1, .slice none 0 0]) ?_ 3 _ rfl; (with_reducible repeat (first | refine blk_drewN ?_ _ | refine blk_drew ?_ | refine blk_alloc ?_ _)); refine blk_put (cs := #[.slice none 0 0, .bool false, .int .i64 x404002_1, .int .i64 x404003_1, .int .i64 x404004_1, .int .i64 x404005_1, .int .i64 x404006_1, .int .i64 x404007_1, .slice none 0 0]) ?_ 2 _ rfl; (with_reducible repeat (first | refine blk_drewN ?_ _ | refine blk_drew ?_ | refine blk_alloc ?_ _)); refine blk_put (cs := #[.slice none 0 0, .bool x404001_1, .int .i64 x404002_1, .int .i64 x404003_1, .int .i64 x404004_1, .int .i64 x404005_1, .int .i64 x404006_1, .int .i64 x404007_1, .slice none 0 0]) ?_ 1 _ rfl; (with_reducible repeat (first | refine blk_drewN ?_ _ | refine blk_drew ?_ | refine blk_alloc ?_ _)); refine blk_put (cs := #[.slice none 0 0, .bool x404001_1, .int .i64 x404002_1, .int .i64 x404003_1, .int .i64 x404004_1, .int .i64 x404005_1, .int .i64 x404006_1, .int .i64 x404007_1, .slice none 0 0]) ?_ 0 _ rfl; (with_reducible repeat (first | refine blk_drewN ?_ _ | refine blk_drew ?_ | refine blk_alloc ?_ _)); exact BK403.out) Try.underlying63 rfl (by kernel_rfl)) rfl ?_
          exact ⟨_, _, by first | rfl | (simp [errW_none, errW_some] <;> rfl) | (simp [*, errW_none, errW_some] <;> rfl), by first | exact Kd.R_nil _ _ _ _ _ | exact Kd.N_nil _ _ _ _ _ | exact Kd.V_nil _ _ _ _ _ | exact Kd.Q_nil _ _ _ _ _ | exact Kd.S_nil _ _ _ _ _, by first | exact Kd.R_nil _ _ _ _ _ | exact Kd.N_nil _ _ _ _ _ | exact Kd.V_nil _ _ _ _ _ | exact Kd.Q_nil _ _ _ _ _ | exact Kd.S_nil _ _ _ _ _, by repeat (first | (with_reducible first | exact HB.out | apply below_alloc | apply pw_below_drewN | apply below_drew1 | refine below_set ?_ GE403.out) | exact HB.out)⟩
      · rw [if_neg c3] at H
        have c3b0 : decide (x6_1 < 7) = false := decide_eq_false c3
        clear c3
        replace H := Option.bind_eq_some_iff.mp H
        obtain ⟨⟨t410, t411, t412⟩, A110, H⟩ := H
        replace H : (if t412 = true then (if 0 < (x4_1.length : Int) then (if (rd x4_1 0) < 0 then (trommelref39_Get.j1 k1 l0 x4_1 t410 t411 true) else (trommelref39_Get.j1 k1 l0 x4_1 t410 t411 (decide ((rd x4_1 0) > 1)))) else (none)) else (trommelref39_Get.j1 k1 l0 x4_1 t410 t411 true)) = some (r1, r2, r3, r4, r5, r6, r7, r8, r9, r10) := H
        have A11 := Aside0.mk A110
        clear A110
        have HC12 := Aside0.mk H
        clear H
        go_upto_region 12 with (first | ((with_reducible refine gate_callee (f := 25) rfl ?_); refine goesL_ (some 43) rfl rfl Try.func25 (by kernel_rfl) rfl #[.slice A0 l0.length c0, .int .i64 x5_1] rfl (by (try simp only [List.map_toArray, List.map_cons, List.map_nil]); first | done | rfl | (simp only [List.length_drop, List.length_take]; rfl)) ?_; (with_reducible refine (trommelref39_GetInts.calls k1 _ _ l0 x5_1 t410 t411 t412 _ ?side1 ?side2 A11.out).mono ?_); (case side1 => repeat (first | exact (Kd.C_below HR0.out HB.out) | (with_reducible refine Kd.C_alloc ?_ _) | (with_reducible refine Kd.C_drewN ?_ _) | (with_reducible refine Kd.C_drew ?_))); (case side2 => exact HC0.out); rintro e w13 ⟨v413, rfl, ho0, hb⟩; refine ⟨_, rfl, ?_⟩; have n0_ := Aside0.mk (Kd.R_elder' (Rs HO_4.out) (Kd.R_base ho0) hb); have n1_ := Aside0.mk (Kd.R_lower (Kd.R_new' ho0 (Kd.R_lt (Rs HO_4.out))) (Lz HB)); have n2_ := Bb BK403 hb; have n3_ := Lb HB hb; clear HO_4 BK403 HB; have HO_4 := n0_; have HO414 := n1_; have BK403 := n2_; have HB := n3_; clear n0_ n1_ n2_ n3_; (try clear hb); (try clear hb2); (try clear hk); (try clear hi); (try clear ho0)))
        (try simp only [Act.put, List.setIfInBounds_toArray, List.set_cons_zero, List.set_cons_succ])
        go_cut [60] (fun v60 wc => ∃ (kq : Nat) (x60_11 : Bool), v60 = .bool x60_11 ∧ Aside0 (trommelref39_Get.j1 kq l0 x4_1 t410 t411 x60_11 = some (r1, r2, r3, r4, r5, r6, r7, r8, r9, r10)) ∧ Aside0 (kq ≤ k1) ∧ Aside0 (Kd.R (Kd.int .i64) 3 wc w.heap.size (fun k_ => some k_ ≠ (v413 : Value).ownBlock) u4 x4_1) ∧ Aside0 (Kd.R (Kd.int .i64) 3 wc w.heap.size (fun k_ => some k_ ≠ (u4 : Value).ownBlock) v413 t410) ∧ Aside0 (wc.heap[gb403]? = some (.cells #[(.slice none 0 0), .bool x404001_1, .int .i64 x404002_1, .int .i64 x404003_1, .int .i64 x404004_1, .int .i64 x404005_1, .int .i64 x404006_1, .int .i64 x404007_1, (.slice none 0 0)] 63 (0, 0))) ∧ Aside0 (Below w.heap.size w wc))
        case first =>
          have H := HC12.out
          clear HC12
          by_cases c14 : t412 = true
          · subst c14
            have H1 : (if 0 < (x4_1.length : Int) then (if (rd x4_1 0) < 0 then (trommelref39_Get.j1 k1 l0 x4_1 t410 t411 true) else (trommelref39_Get.j1 k1 l0 x4_1 t410 t411 (decide ((rd x4_1 0) > 1)))) else (none)) = some (r1, r2, r3, r4, r5, r6, r7, r8, r9, r10) := by rw [if_pos rfl] at H; exact H
            clear H
            have H := H1
            clear H1
            refine bc (p := (0 < (x4_1.length : Int))) (fun c15 => ?_) (fun c15 => ?_)
            · rw [if_neg c15] at H
              exact absurd H (by simp)
            rw [if_pos c15] at H
            have c15b0 : decide (0 < (x4_1.length : Int)) = true := decide_eq_true c15
            have c15b1 : decide (0 < x4_1.length) = true := decide_eq_true (by omega)
            clear c15
            (first | rw [c15b0] | (simp only [i64_w, i32_w]; rw [c15b0]) | skip)
            by_cases c16 : (rd x4_1 0) < 0
            · rw [if_pos c16] at H
              have c16b0 : decide ((rd x4_1 0) < 0) = true := decide_eq_true c16
              clear c16
              have H' := Aside0.mk H
              clear H
              obtain ⟨Ao17, co17, eo17⟩ := Kd.R_slice HO_4.out
              subst eo17
              have p415 : 0 ≤ (0 : Int) := (by omega)
              have q415 : 0 < (x4_1.length : Int) := of_decide_eq_true (by first | (with_reducible assumption) | assumption)
              obtain ⟨ad415, e415, hx415_0⟩ := Kd.at_int (Kd.R_reads' HO_4.out).2.2 0 p415 q415
              cases e415
              have qi415 : (0 < x4_1.length) = True := eq_true (by omega)
              (try rw [show ((0 : Int)).toNat = 0 from rfl] at hx415_0)
              (try rw [Addr.add_zero'] at hx415_0)
              replace p415 := eq_true p415
              replace q415 := eq_true q415
              go_wp2
              go_meet
              case rel => exact ⟨_, (true), (by first | rfl | (simp; done) | (simp [*]; done)), H', ⟨by have := HK1.out; first | omega | exact Nat.le_refl _⟩, ⟨by (with_reducible repeat (first | apply Kd.R_alloc | apply Kd.R_drewN | apply Kd.R_drew)); exact Kd.R_mono HO_4.out (fun _ hk => hk.2)⟩, ⟨by (with_reducible repeat (first | apply Kd.R_alloc | apply Kd.R_drewN | apply Kd.R_drew)); exact Kd.R_mono HO414.out (fun _ hk => hk.2)⟩, ⟨Bs BK403.out⟩, ⟨Ls HB⟩⟩
            · rw [if_neg c16] at H
              have c16b0 : decide ((rd x4_1 0) < 0) = false := decide_eq_false c16
              clear c16
              have H' := Aside0.mk H
              clear H
              obtain ⟨Ao18, co18, eo18⟩ := Kd.R_slice HO_4.out
              subst eo18
              have p415 : 0 ≤ (0 : Int) := (by omega)
              have q415 : 0 < (x4_1.length : Int) := of_decide_eq_true (by first | (with_reducible assumption) | assumption)
              obtain ⟨ad415, e415, hx415_0⟩ := Kd.at_int (Kd.R_reads' HO_4.out).2.2 0 p415 q415
              cases e415
              have qi415 : (0 < x4_1.length) = True := eq_true (by omega)
              (try rw [show ((0 : Int)).toNat = 0 from rfl] at hx415_0)
              (try rw [Addr.add_zero'] at hx415_0)
              replace p415 := eq_true p415
              replace q415 := eq_true q415
              have p416 : 0 ≤ (0 : Int) := (by omega)
              have q416 : 0 < (x4_1.length : Int) := of_decide_eq_true (by first | (with_reducible assumption) | assumption)
              obtain ⟨ad416, e416, hx416_0⟩ := Kd.at_int (Kd.R_reads' HO_4.out).2.2 0 p416 q416
              obtain rfl : ad415 = ad416 := (by injection e416)
              have qi416 : (0 < x4_1.length) = True := eq_true (by omega)
              (try rw [show ((0 : Int)).toNat = 0 from rfl] at hx416_0)
              (try rw [Addr.add_zero'] at hx416_0)
              replace p416 := eq_true p416
              replace q416 := eq_true q416
              go_wp2
              go_meet
              case rel => exact ⟨_, (decide ((rd x4_1 0) > 1)), (by first | rfl | (simp; done) | (simp [*]; done)), H', ⟨by have := HK1.out; first | omega | exact Nat.le_refl _⟩, ⟨by (with_reducible repeat (first | apply Kd.R_alloc | apply Kd.R_drewN | apply Kd.R_drew)); exact Kd.R_mono HO_4.out (fun _ hk => hk.2)⟩, ⟨by (with_reducible repeat (first | apply Kd.R_alloc | apply Kd.R_drewN | apply Kd.R_drew)); exact Kd.R_mono HO414.out (fun _ hk => hk.2)⟩, ⟨Bs BK403.out⟩, ⟨Ls HB⟩⟩
          · replace c14 := Bool.eq_false_iff.mpr c14
            subst c14
            have H1 : (trommelref39_Get.j1 k1 l0 x4_1 t410 t411 true) = some (r1, r2, r3, r4, r5, r6, r7, r8, r9, r10) := by rw [if_neg (show ¬ (false = true) by decide)] at H; exact H
            clear H
            have H := H1
            clear H1
            have H' := Aside0.mk H
            clear H
            go_wp2
            go_meet
            case rel => exact ⟨_, (true), (by first | rfl | (simp; done) | (simp [*]; done)), H', ⟨by have := HK1.out; first | omega | exact Nat.le_refl _⟩, ⟨by (with_reducible repeat (first | apply Kd.R_alloc | apply Kd.R_drewN | apply Kd.R_drew)); exact Kd.R_mono HO_4.out (fun _ hk => hk.2)⟩, ⟨by (with_reducible repeat (first | apply Kd.R_alloc | apply Kd.R_drewN | apply Kd.R_drew)); exact Kd.R_mono HO414.out (fun _ hk => hk.2)⟩, ⟨Bs BK403.out⟩, ⟨Ls HB⟩⟩
        case rest =>
          clear HC12
          try clear c1; try clear c2; try clear p2; try clear c3; try clear c3b0; try clear c4; try clear p4; try clear q4; try clear hx4; try clear qi4; try clear c5; try clear c6; try clear p6; try clear c14; try clear c15; try clear c15b0; try clear c15b1; try clear c16; try clear c16b0; try clear hcz10_0; try clear hcz10_1; try clear hcz10_2; try clear hcz10_3; try clear hcz10_4; try clear hcz10_5; try clear hcz10_6; try clear hcz10_7; try clear hcz10_8; try clear hfz10_0; try clear hfz10_1; try clear hfz10_2; try clear hfz10_3; try clear hfz10_4; try clear hfz10_5; try clear hfz10_6; try clear hfz10_7; try clear hfz10_8; try clear hx415_0; try clear hx416_0; try clear p2; try clear p415; try clear p416; try clear q415; try clear q416
          obtain ⟨kq, x60_11, rfl, HA, HJ11, HO_4, HO_10, BK403, HB⟩ := hcut
          cases kq with
          | zero => exact absurd HA.out (by simp [trommelref39_Get.j1])
          | succ kj11 =>
            have H := HA.out
            clear HA
            simp only [trommelref39_Get.j1] at H
            by_cases c19 : x60_11 = true
            · subst c19
              have H1 : (some (([] : List (S87)), false, 0, 0, 0, 0, 0, 0, ([] : List Int), 7)) = some (r1, r2, r3, r4, r5, r6, r7, r8, r9, r10) := by rw [if_pos rfl] at H; exact H
              clear H
              have H := H1
              clear H1
              simp only [Option.some.injEq, Prod.mk.injEq] at H
              obtain ⟨rfl, rfl, rfl, rfl, rfl, rfl, rfl, rfl, rfl, rfl⟩ := H
              have hcz20_0 : wc.cell? ⟨gb403, 0, none⟩ = some (.slice none 0 0) := (blk_cell BK403.out 0).trans rfl
              have hcz20_1 : wc.cell? ⟨gb403, 1, none⟩ = some (.bool x404001_1) := (blk_cell BK403.out 1).trans rfl
              have hcz20_2 : wc.cell? ⟨gb403, 2, none⟩ = some (.int .i64 x404002_1) := (blk_cell BK403.out 2).trans rfl
              have hcz20_3 : wc.cell? ⟨gb403, 3, none⟩ = some (.int .i64 x404003_1) := (blk_cell BK403.out 3).trans rfl
              have hcz20_4 : wc.cell? ⟨gb403, 4, none⟩ = some (.int .i64 x404004_1) := (blk_cell BK403.out 4).trans rfl
              have hcz20_5 : wc.cell? ⟨gb403, 5, none⟩ = some (.int .i64 x404005_1) := (blk_cell BK403.out 5).trans rfl
              have hcz20_6 : wc.cell? ⟨gb403, 6, none⟩ = some (.int .i64 x404006_1) := (blk_cell BK403.out 6).trans rfl
              have hcz20_7 : wc.cell? ⟨gb403, 7, none⟩ = some (.int .i64 x404007_1) := (blk_cell BK403.out 7).trans rfl
              have hcz20_8 : wc.cell? ⟨gb403, 8, none⟩ = some (.slice none 0 0) := (blk_cell BK403.out 8).trans rfl
              have hfz20_0 := blk_frozen BK403.out 0
              have hfz20_1 := blk_frozen BK403.out 1
              have hfz20_2 := blk_frozen BK403.out 2
              have hfz20_3 := blk_frozen BK403.out 3
              have hfz20_4 := blk_frozen BK403.out 4
              have hfz20_5 := blk_frozen BK403.out 5
              have hfz20_6 := blk_frozen BK403.out 6
              have hfz20_7 := blk_frozen BK403.out 7
              have hfz20_8 := blk_frozen BK403.out 8
              go_wp2
              refine bodyPost_ret (results_ct rfl _ _ gb403 63 #[.slice none 0 0, .bool false, .int .i64 0, .int .i64 0, .int .i64 0, .int .i64 0, .int .i64 0, .int .i64 0, .slice none 0 0] (0, 0) _ rfl (by (with_reducible repeat (first | refine blk_drewN ?_ _ | refine blk_drew ?_ | refine blk_alloc ?_ _)); refine blk_put (cs := #[.slice none 0 0, .bool false, .int .i64 0, .int .i64 0, .int .i64 0, .int .i64 0, .int .i64 0, .int .i64 0, .slice none 0 0]) ?_ 8 _ rfl; (with_reducible repeat (first | refine blk_drewN ?_ _ | refine blk_drew ?_ | refine blk_alloc ?_ _)); refine blk_put (cs := #[.slice none 0 0, .bool false, .int .i64 0, .int .i64 0, .int .i64 0, .int .i64 0, .int .i64 0, .int .i64 x404007_1, .slice none 0 0]) ?_ 7 _ rfl; (with_reducible repeat (first | refine blk_drewN ?_ _ | refine blk_drew ?_ | refine blk_alloc ?_ _)); refine blk_put (cs := #[.slice none 0 0, .bool false, .int .i64 0, .int .i64 0, .int .i64 0, .int .i64 0, .int .i64 x404006_1, .int .i64 x404007_1, .slice none 0 0]) ?_ 6 _ rfl; (with_reducible repeat (first | refine blk_drewN ?_ _ | refine blk_drew ?_ | refine blk_alloc ?_ _)); refine blk_put (cs := #[.slice none 0 0, .bool false, .int .i64 0, .int .i64 0, .int .i64 0, .int .i64 x404005_1, .int .i64 x404006_1, .int .i64 x404007_1, .slice none 0 0]) ?_ 5 _ rfl; (with_reducible repeat (first | refine blk_drewN ?_ _ | refine blk_drew ?_ | refine blk_alloc ?_ _)); refine blk_put (cs := #[.slice none 0 0, .bool false, .int .i64 0, .int .i64 0, .int .i64 x404004_1, .int .i64 x404005_1, .int .i64 x404006_1, .int .i64 x404007_1, .slice none 0 0]) ?_ 4 _ rfl; (with_reducible repeat (first | refine blk_drewN ?_ _ | refine blk_drew ?_ | refine blk_alloc ?_ _)); refine blk_put (cs := #[.slice none 0 0, .bool false, .int .i64 0, .int .i64 x404003_1, .int .i64 x404004_1, .int .i64 x404005_1, .int .i64 x404006_1, .int .i64 x404007_1, .slice none 0 0]) ?_ 3 _ rfl; (with_reducible repeat (first | refine blk_drewN ?_ _ | refine blk_drew ?_ | refine blk_alloc ?_ _)); refine blk_put (cs := #[.slice none 0 0, .bool false, .int .i64 x404002_1, .int .i64 x404003_1, .int .i64 x404004_1, .int .i64 x404005_1, .int .i64 x404006_1, .int .i64 x404007_1, .slice none 0 0]) ?_ 2 _ rfl; (with_reducible repeat (first | refine blk_drewN ?_ _ | refine blk_drew ?_ | refine blk_alloc ?_ _)); refine blk_put (cs := #[.slice none 0 0, .bool x404001_1, .int .i64 x404002_1, .int .i64 x404003_1, .int .i64 x404004_1, .int .i64 x404005_1, .int .i64 x404006_1, .int .i64 x404007_1, .slice none 0 0]) ?_ 1 _ rfl; (with_reducible repeat (first | refine blk_drewN ?_ _ | refine blk_drew ?_ | refine blk_alloc ?_ _)); refine blk_put (cs := #[.slice none 0 0, .bool x404001_1, .int .i64 x404002_1, .int .i64 x404003_1, .int .i64 x404004_1, .int .i64 x404005_1, .int .i64 x404006_1, .int .i64 x404007_1, .slice none 0 0]) ?_ 0 _ rfl; (with_reducible repeat (first | refine blk_drewN ?_ _ | refine blk_drew ?_ | refine blk_alloc ?_ _)); exact BK403.out) Try.underlying63 rfl (by kernel_rfl)) rfl ?_
              exact ⟨_, _, by first | rfl | (simp [errW_none, errW_some] <;> rfl) | (simp [*, errW_none, errW_some] <;> rfl), by first | exact Kd.R_nil _ _ _ _ _ | exact Kd.N_nil _ _ _ _ _ | exact Kd.V_nil _ _ _ _ _ | exact Kd.Q_nil _ _ _ _ _ | exact Kd.S_nil _ _ _ _ _, by first | exact Kd.R_nil _ _ _ _ _ | exact Kd.N_nil _ _ _ _ _ | exact Kd.V_nil _ _ _ _ _ | exact Kd.Q_nil _ _ _ _ _ | exact Kd.S_nil _ _ _ _ _, by repeat (first | (with_reducible first | exact HB.out | apply below_alloc | apply pw_below_drewN | apply below_drew1 | refine below_set ?_ GE403.out) | exact HB.out)⟩
            · replace c19 := Bool.eq_false_iff.mpr c19
              subst c19
              have H1 : (if 0 < (x4_1.length : Int) then (if 1 < (x4_1.length : Int) then (if 2 < (x4_1.length : Int) then (if 3 < (x4_1.length : Int) then (if 4 < (x4_1.length : Int) then (if 5 < (x4_1.length : Int) then (if 6 < (x4_1.length : Int) then ((trommelref39_Count.f kj11 l0 t411).bind fun bt425 => (if bt425.2.2 = true then (trommelref39_Get.l1 kj11 l0 bt425.1 bt425.2.1 0 ([] : List (S87)) ((rd x4_1 0) == 1) (rd x4_1 1) (rd x4_1 2) (rd x4_1 3) (rd x4_1 4) (rd x4_1 5) (rd x4_1 6) t410) else (some (([] : List (S87)), false, 0, 0, 0, 0, 0, 0, ([] : List Int), 7)))) else (none)) else (none)) else (none)) else (none)) else (none)) else (none)) else (none)) = some (r1, r2, r3, r4, r5, r6, r7, r8, r9, r10) := by rw [if_neg (show ¬ (false = true) by decide)] at H; exact H
              clear H
              have H := H1
              clear H1
              refine bc (p := (0 < (x4_1.length : Int))) (fun c21 => ?_) (fun c21 => ?_)
              · rw [if_neg c21] at H
                exact absurd H (by simp)
              rw [if_pos c21] at H
              have c21b0 : decide (0 < (x4_1.length : Int)) = true := decide_eq_true c21
              have c21b1 : decide (0 < x4_1.length) = true := decide_eq_true (by omega)
              clear c21
              refine bc (p := (1 < (x4_1.length : Int))) (fun c22 => ?_) (fun c22 => ?_)
              · rw [if_neg c22] at H
                exact absurd H (by simp)
              rw [if_pos c22] at H
              have c22b0 : decide (1 < (x4_1.length : Int)) = true := decide_eq_true c22
              have c22b1 : decide (1 < x4_1.length) = true := decide_eq_true (by omega)
              clear c22
              refine bc (p := (2 < (x4_1.length : Int))) (fun c23 => ?_) (fun c23 => ?_)
              · rw [if_neg c23] at H
                exact absurd H (by simp)
              rw [if_pos c23] at H
              have c23b0 : decide (2 < (x4_1.length : Int)) = true := decide_eq_true c23
              have c23b1 : decide (2 < x4_1.length) = true := decide_eq_true (by omega)
              clear c23
              refine bc (p := (3 < (x4_1.length : Int))) (fun c24 => ?_) (fun c24 => ?_)
              · rw [if_neg c24] at H
                exact absurd H (by simp)
              rw [if_pos c24] at H
              have c24b0 : decide (3 < (x4_1.length : Int)) = true := decide_eq_true c24
              have c24b1 : decide (3 < x4_1.length) = true := decide_eq_true (by omega)
              clear c24
              refine bc (p := (4 < (x4_1.length : Int))) (fun c25 => ?_) (fun c25 => ?_)
              · rw [if_neg c25] at H
                exact absurd H (by simp)
              rw [if_pos c25] at H
              have c25b0 : decide (4 < (x4_1.length : Int)) = true := decide_eq_true c25
              have c25b1 : decide (4 < x4_1.length) = true := decide_eq_true (by omega)
              clear c25
              refine bc (p := (5 < (x4_1.length : Int))) (fun c26 => ?_) (fun c26 => ?_)
              · rw [if_neg c26] at H
                exact absurd H (by simp)
              rw [if_pos c26] at H
              have c26b0 : decide (5 < (x4_1.length : Int)) = true := decide_eq_true c26
              have c26b1 : decide (5 < x4_1.length) = true := decide_eq_true (by omega)
              clear c26
              refine bc (p := (6 < (x4_1.length : Int))) (fun c27 => ?_) (fun c27 => ?_)
              · rw [if_neg c27] at H
                exact absurd H (by simp)
              rw [if_pos c27] at H
              have c27b0 : decide (6 < (x4_1.length : Int)) = true := decide_eq_true c27
              have c27b1 : decide (6 < x4_1.length) = true := decide_eq_true (by omega)
              clear c27
              replace H := Option.bind_eq_some_iff.mp H
              obtain ⟨⟨t425, t426, t427⟩, A280, H⟩ := H
              replace H : (if t427 = true then (trommelref39_Get.l1 kj11 l0 t425 t426 0 ([] : List (S87)) ((rd x4_1 0) == 1) (rd x4_1 1) (rd x4_1 2) (rd x4_1 3) (rd x4_1 4) (rd x4_1 5) (rd x4_1 6) t410) else (some (([] : List (S87)), false, 0, 0, 0, 0, 0, 0, ([] : List Int), 7))) = some (r1, r2, r3, r4, r5, r6, r7, r8, r9, r10) := H
              have A28 := Aside0.mk A280
              clear A280
              by_cases c29 : t427 = true
              · subst c29
                have H1 : (trommelref39_Get.l1 kj11 l0 t425 t426 0 ([] : List (S87)) ((rd x4_1 0) == 1) (rd x4_1 1) (rd x4_1 2) (rd x4_1 3) (rd x4_1 4) (rd x4_1 5) (rd x4_1 6) t410) = some (r1, r2, r3, r4, r5, r6, r7, r8, r9, r10) := by rw [if_pos rfl] at H; exact H
                clear H
                have H := H1
                clear H1
                have H' := Aside0.mk H
                clear H
                try go_wp2
                replace HO_4 := Aside0.mk (Kd.R_drew HO_4.out)
                replace HO_10 := Aside0.mk (Kd.R_drew HO_10.out)
                replace BK403 := Aside0.mk (blk_drew BK403.out)
                replace HB := Aside0.mk (below_drew1 HB.out)
                obtain ⟨Ao31, co31, eo31⟩ := Kd.R_slice HO_4.out
                (first | subst eo31 | (injection eo31 with f1_ f2_ f3_; have f4_ := f1_.symm; have f5_ := f3_.symm; clear f1_ f2_ f3_; subst f4_; subst f5_))
                have p417 : 0 ≤ (0 : Int) := (by omega)
                have q417 : 0 < (x4_1.length : Int) := of_decide_eq_true (by first | (with_reducible assumption) | assumption)
                obtain ⟨ad417, e417, hx417_0⟩ := Kd.at_int (Kd.R_reads' HO_4.out).2.2 0 p417 q417
                cases e417
                have qi417 : (0 < x4_1.length) = True := eq_true (by omega)
                (try rw [show ((0 : Int)).toNat = 0 from rfl] at hx417_0)
                (try rw [Addr.add_zero'] at hx417_0)
                replace p417 := eq_true p417
                replace q417 := eq_true q417
                have p418 : 0 ≤ (1 : Int) := (by omega)
                have q418 : 1 < (x4_1.length : Int) := of_decide_eq_true (by first | (with_reducible assumption) | assumption)
                obtain ⟨ad418, e418, hx418_0⟩ := Kd.at_int (Kd.R_reads' HO_4.out).2.2 1 p418 q418
                obtain rfl : ad417 = ad418 := (by injection e418)
                (try simp only [show (1 : Int).toNat = 1 from rfl, Nat.reduceMul, Nat.reduceEqDiff, Go.Addr.add, ↓reduceIte] at hx418_0)
                have qi418 : (1 < x4_1.length) = True := eq_true (by omega)
                (try rw [show ((1 : Int)).toNat = 1 from rfl] at hx418_0)
                replace p418 := eq_true p418
                replace q418 := eq_true q418
                have p419 : 0 ≤ (2 : Int) := (by omega)
                have q419 : 2 < (x4_1.length : Int) := of_decide_eq_true (by first | (with_reducible assumption) | assumption)
                obtain ⟨ad419, e419, hx419_0⟩ := Kd.at_int (Kd.R_reads' HO_4.out).2.2 2 p419 q419
                obtain rfl : ad417 = ad419 := (by injection e419)
                (try simp only [show (2 : Int).toNat = 2 from rfl, Nat.reduceMul, Nat.reduceEqDiff, Go.Addr.add, ↓reduceIte] at hx419_0)
                have qi419 : (2 < x4_1.length) = True := eq_true (by omega)
                (try rw [show ((2 : Int)).toNat = 2 from rfl] at hx419_0)
                replace p419 := eq_true p419
                replace q419 := eq_true q419
                have p420 : 0 ≤ (3 : Int) := (by omega)
                have q420 : 3 < (x4_1.length : Int) := of_decide_eq_true (by first | (with_reducible assumption) | assumption)
                obtain ⟨ad420, e420, hx420_0⟩ := Kd.at_int (Kd.R_reads' HO_4.out).2.2 3 p420 q420
                obtain rfl : ad417 = ad420 := (by injection e420)
                (try simp only [show (3 : Int).toNat = 3 from rfl, Nat.reduceMul, Nat.reduceEqDiff, Go.Addr.add, ↓reduceIte] at hx420_0)
                have qi420 : (3 < x4_1.length) = True := eq_true (by omega)
                (try rw [show ((3 : Int)).toNat = 3 from rfl] at hx420_0)
                replace p420 := eq_true p420
                replace q420 := eq_true q420
                have p421 : 0 ≤ (4 : Int) := (by omega)
                have q421 : 4 < (x4_1.length : Int) := of_decide_eq_true (by first | (with_reducible assumption) | assumption)
                obtain ⟨ad421, e421, hx421_0⟩ := Kd.at_int (Kd.R_reads' HO_4.out).2.2 4 p421 q421
                obtain rfl : ad417 = ad421 := (by injection e421)
                (try simp only [show (4 : Int).toNat = 4 from rfl, Nat.reduceMul, Nat.reduceEqDiff, Go.Addr.add, ↓reduceIte] at hx421_0)
                have qi421 : (4 < x4_1.length) = True := eq_true (by omega)
                (try rw [show ((4 : Int)).toNat = 4 from rfl] at hx421_0)
                replace p421 := eq_true p421
                replace q421 := eq_true q421
                have p422 : 0 ≤ (5 : Int) := (by omega)
                have q422 : 5 < (x4_1.length : Int) := of_decide_eq_true (by first | (with_reducible assumption) | assumption)
                obtain ⟨ad422, e422, hx422_0⟩ := Kd.at_int (Kd.R_reads' HO_4.out).2.2 5 p422 q422
                obtain rfl : ad417 = ad422 := (by injection e422)
                (try simp only [show (5 : Int).toNat = 5 from rfl, Nat.reduceMul, Nat.reduceEqDiff, Go.Addr.add, ↓reduceIte] at hx422_0)
                have qi422 : (5 < x4_1.length) = True := eq_true (by omega)
                (try rw [show ((5 : Int)).toNat = 5 from rfl] at hx422_0)
                replace p422 := eq_true p422
                replace q422 := eq_true q422
                have p423 : 0 ≤ (6 : Int) := (by omega)
                have q423 : 6 < (x4_1.length : Int) := of_decide_eq_true (by first | (with_reducible assumption) | assumption)
                obtain ⟨ad423, e423, hx423_0⟩ := Kd.at_int (Kd.R_reads' HO_4.out).2.2 6 p423 q423
                obtain rfl : ad417 = ad423 := (by injection e423)
                (try simp only [show (6 : Int).toNat = 6 from rfl, Nat.reduceMul, Nat.reduceEqDiff, Go.Addr.add, ↓reduceIte] at hx423_0)
                have qi423 : (6 < x4_1.length) = True := eq_true (by omega)
                (try rw [show ((6 : Int)).toNat = 6 from rfl] at hx423_0)
                replace p423 := eq_true p423
                replace q423 := eq_true q423
                obtain ⟨Ao32, co32, eo32⟩ := Kd.R_slice HO_10.out
                (first | subst eo32 | (injection eo32 with f1_ f2_ f3_; have f4_ := f1_.symm; have f5_ := f3_.symm; clear f1_ f2_ f3_; subst f4_; subst f5_))
                refine start_ (n := 27) (S := fun w' => w'.cell? ad417 = some (.int .i64 (rd x4_1 0)) ∧ w'.cell? ⟨ad417.block, ad417.off + 1, none⟩ = some (.int .i64 (rd x4_1 1)) ∧ w'.cell? ⟨ad417.block, ad417.off + 2, none⟩ = some (.int .i64 (rd x4_1 2)) ∧ w'.cell? ⟨ad417.block, ad417.off + 3, none⟩ = some (.int .i64 (rd x4_1 3)) ∧ w'.cell? ⟨ad417.block, ad417.off + 4, none⟩ = some (.int .i64 (rd x4_1 4)) ∧ w'.cell? ⟨ad417.block, ad417.off + 5, none⟩ = some (.int .i64 (rd x4_1 5)) ∧ w'.cell? ⟨ad417.block, ad417.off + 6, none⟩ = some (.int .i64 (rd x4_1 6))) (ds := []) #[F, F, F, F, F, F, F, F, F, F, F, F, F, F, F, F, F, F, F, F, F, F, F, F, F, F, F] (by kernel_rfl) rfl rfl ⟨hx417_0, hx418_0, hx419_0, hx420_0, hx421_0, hx422_0, hx423_0⟩ (fun hHeld => ?_); refine with_tabW trommelref39_Get.tab14 trommelref39_Get.bits14 (fun HT_ HW_ => ?_)
                generalize wc.drew = w30 at HO_4 HO_10 BK403 HB hx417_0 hx418_0 hx419_0 hx420_0 hx421_0 hx422_0 hx423_0 hHeld ⊢
                refine pure_ (i := 0) (N := some 62) (v := ?_) (a' := ?_) #[T, F, F, F, F, F, F, F, F, F, F, F, F, F, F, F, F, F, F, F, F, F, F, F, F, F, F] rfl rfl (any_of HT_.out (by kernel_rfl)) (fun _ _ _ h => h) (Or.inl ⟨by rfl, ?_⟩) ?_ ?_; rotate_left; (· intro w'; go_simp; with_reducible rfl); rotate_left; (· simp only [Act.put, sq]; rfl)
                refine pure_ (i := 1) (N := some 63) (v := ?_) (a' := ?_) #[T, T, F, F, F, F, F, F, F, F, F, F, F, F, F, F, F, F, F, F, F, F, F, F, F, F, F] rfl rfl (any_of HT_.out (by kernel_rfl)) (fun _ _ _ h => h) (Or.inl ⟨by rfl, ?_⟩) ?_ ?_; rotate_left; (· intro w'; go_simp; with_reducible rfl); rotate_left; (· simp only [Act.put, sq]; rfl)
                refine pure_ (i := 4) (N := some 66) (v := ?_) (a' := ?_) #[T, T, F, F, T, F, F, F, F, F, F, F, F, F, F, F, F, F, F, F, F, F, F, F, F, F, F] rfl rfl (any_of HT_.out (by kernel_rfl)) (fun _ _ _ h => h) (Or.inl ⟨by rfl, ?_⟩) ?_ ?_; rotate_left; (· intro w'; go_simp; with_reducible rfl); rotate_left; (· simp only [Act.put, sq]; rfl)
                refine pure_ (i := 5) (N := some 67) (v := ?_) (a' := ?_) #[T, T, F, F, T, T, F, F, F, F, F, F, F, F, F, F, F, F, F, F, F, F, F, F, F, F, F] rfl rfl (any_of HT_.out (by kernel_rfl)) (fun _ _ _ h => h) (Or.inl ⟨by rfl, ?_⟩) ?_ ?_; rotate_left; (· intro w'; go_simp; with_reducible rfl); rotate_left; (· simp only [Act.put, sq]; rfl)
                refine pure_ (i := 7) (N := some 69) (v := ?_) (a' := ?_) #[T, T, F, F, T, T, F, T, F, F, F, F, F, F, F, F, F, F, F, F, F, F, F, F, F, F, F] rfl rfl (any_of HT_.out (by kernel_rfl)) (fun _ _ _ h => h) (Or.inl ⟨by rfl, ?_⟩) ?_ ?_; rotate_left; (· intro w'; go_simp; with_reducible rfl); rotate_left; (· simp only [Act.put, sq]; rfl)
                refine pure_ (i := 8) (N := some 70) (v := ?_) (a' := ?_) #[T, T, F, F, T, T, F, T, T, F, F, F, F, F, F, F, F, F, F, F, F, F, F, F, F, F, F] rfl rfl (any_of HT_.out (by kernel_rfl)) (fun _ _ _ h => h) (Or.inl ⟨by rfl, ?_⟩) ?_ ?_; rotate_left; (· intro w'; go_simp; with_reducible rfl); rotate_left; (· simp only [Act.put, sq]; rfl)
                refine pure_ (i := 10) (N := some 72) (v := ?_) (a' := ?_) #[T, T, F, F, T, T, F, T, T, F, T, F, F, F, F, F, F, F, F, F, F, F, F, F, F, F, F] rfl rfl (any_of HT_.out (by kernel_rfl)) (fun _ _ _ h => h) (Or.inl ⟨by rfl, ?_⟩) ?_ ?_; rotate_left; (· intro w'; go_simp; with_reducible rfl); rotate_left; (· simp only [Act.put, sq]; rfl)
                refine pure_ (i := 11) (N := some 73) (v := ?_) (a' := ?_) #[T, T, F, F, T, T, F, T, T, F, T, T, F, F, F, F, F, F, F, F, F, F, F, F, F, F, F] rfl rfl (any_of HT_.out (by kernel_rfl)) (fun _ _ _ h => h) (Or.inl ⟨by rfl, ?_⟩) ?_ ?_; rotate_left; (· intro w'; go_simp; with_reducible rfl); rotate_left; (· simp only [Act.put, sq]; rfl)
                refine pure_ (i := 13) (N := some 75) (v := ?_) (a' := ?_) #[T, T, F, F, T, T, F, T, T, F, T, T, F, T, F, F, F, F, F, F, F, F, F, F, F, F, F] rfl rfl (any_of HT_.out (by kernel_rfl)) (fun _ _ _ h => h) (Or.inl ⟨by rfl, ?_⟩) ?_ ?_; rotate_left; (· intro w'; go_simp; with_reducible rfl); rotate_left; (· simp only [Act.put, sq]; rfl)
                refine pure_ (i := 14) (N := some 76) (v := ?_) (a' := ?_) #[T, T, F, F, T, T, F, T, T, F, T, T, F, T, T, F, F, F, F, F, F, F, F, F, F, F, F] rfl rfl (any_of HT_.out (by kernel_rfl)) (fun _ _ _ h => h) (Or.inl ⟨by rfl, ?_⟩) ?_ ?_; rotate_left; (· intro w'; go_simp; with_reducible rfl); rotate_left; (· simp only [Act.put, sq]; rfl)
                refine pure_ (i := 16) (N := some 78) (v := ?_) (a' := ?_) #[T, T, F, F, T, T, F, T, T, F, T, T, F, T, T, F, T, F, F, F, F, F, F, F, F, F, F] rfl rfl (any_of HT_.out (by kernel_rfl)) (fun _ _ _ h => h) (Or.inl ⟨by rfl, ?_⟩) ?_ ?_; rotate_left; (· intro w'; go_simp; with_reducible rfl); rotate_left; (· simp only [Act.put, sq]; rfl)
                refine pure_ (i := 17) (N := some 79) (v := ?_) (a' := ?_) #[T, T, F, F, T, T, F, T, T, F, T, T, F, T, T, F, T, T, F, F, F, F, F, F, F, F, F] rfl rfl (any_of HT_.out (by kernel_rfl)) (fun _ _ _ h => h) (Or.inl ⟨by rfl, ?_⟩) ?_ ?_; rotate_left; (· intro w'; go_simp; with_reducible rfl); rotate_left; (· simp only [Act.put, sq]; rfl)
                refine pure_ (i := 19) (N := some 81) (v := ?_) (a' := ?_) #[T, T, F, F, T, T, F, T, T, F, T, T, F, T, T, F, T, T, F, T, F, F, F, F, F, F, F] rfl rfl (any_of HT_.out (by kernel_rfl)) (fun _ _ _ h => h) (Or.inl ⟨by rfl, ?_⟩) ?_ ?_; rotate_left; (· intro w'; go_simp; with_reducible rfl); rotate_left; (· simp only [Act.put, sq]; rfl)
                refine pure_ (i := 20) (N := some 82) (v := ?_) (a' := ?_) #[T, T, F, F, T, T, F, T, T, F, T, T, F, T, T, F, T, T, F, T, T, F, F, F, F, F, F] rfl rfl (any_of HT_.out (by kernel_rfl)) (fun _ _ _ h => h) (Or.inl ⟨by rfl, ?_⟩) ?_ ?_; rotate_left; (· intro w'; go_simp; with_reducible rfl); rotate_left; (· simp only [Act.put, sq]; rfl)
                refine pure_ (i := 23) (N := some 85) (v := ?_) (a' := ?_) #[T, T, F, F, T, T, F, T, T, F, T, T, F, T, T, F, T, T, F, T, T, F, F, T, F, F, F] rfl rfl (any_of HT_.out (by kernel_rfl)) (fun _ _ _ h => h) (Or.inl ⟨by rfl, ?_⟩) ?_ ?_; rotate_left; (· intro w'; go_simp; with_reducible rfl); rotate_left; (· simp only [Act.put, sq]; rfl)
                refine take_ (i := 2) (N := some 64) (v := ?_) (a' := ?_) #[T, T, T, F, T, T, F, T, T, F, T, T, F, T, T, F, T, T, F, T, T, F, F, T, F, F, F] rfl rfl (take_ofW HT_.out HW_.out (by kernel_rfl)) (fun _ _ _ h => h) (Or.inl ⟨by rfl, ?_⟩) hHeld ?_ ?_; rotate_left; (· rintro w' ⟨s0, s1, s2, s3, s4, s5, s6⟩; go_simp; with_reducible rfl); rotate_left; (· simp only [Act.put, sq]; rfl)
                refine pure_ (i := 3) (N := some 65) (v := ?_) (a' := ?_) #[T, T, T, T, T, T, F, T, T, F, T, T, F, T, T, F, T, T, F, T, T, F, F, T, F, F, F] rfl rfl (any_of HT_.out (by kernel_rfl)) (fun _ _ _ h => h) (Or.inl ⟨by rfl, ?_⟩) ?_ ?_; rotate_left; (· intro w'; go_simp; with_reducible rfl); rotate_left; (· simp only [Act.put, sq]; rfl)
                refine take_ (i := 6) (N := some 68) (v := ?_) (a' := ?_) #[T, T, T, T, T, T, T, T, T, F, T, T, F, T, T, F, T, T, F, T, T, F, F, T, F, F, F] rfl rfl (take_ofW HT_.out HW_.out (by kernel_rfl)) (fun _ _ _ h => h) (Or.inl ⟨by rfl, ?_⟩) hHeld ?_ ?_; rotate_left; (· rintro w' ⟨s0, s1, s2, s3, s4, s5, s6⟩; go_simp; with_reducible rfl); rotate_left; (· simp only [Act.put, sq]; rfl)
                refine take_ (i := 9) (N := some 71) (v := ?_) (a' := ?_) #[T, T, T, T, T, T, T, T, T, T, T, T, F, T, T, F, T, T, F, T, T, F, F, T, F, F, F] rfl rfl (take_ofW HT_.out HW_.out (by kernel_rfl)) (fun _ _ _ h => h) (Or.inl ⟨by rfl, ?_⟩) hHeld ?_ ?_; rotate_left; (· rintro w' ⟨s0, s1, s2, s3, s4, s5, s6⟩; go_simp; with_reducible rfl); rotate_left; (· simp only [Act.put, sq]; rfl)
                refine take_ (i := 12) (N := some 74) (v := ?_) (a' := ?_) #[T, T, T, T, T, T, T, T, T, T, T, T, T, T, T, F, T, T, F, T, T, F, F, T, F, F, F] rfl rfl (take_ofW HT_.out HW_.out (by kernel_rfl)) (fun _ _ _ h => h) (Or.inl ⟨by rfl, ?_⟩) hHeld ?_ ?_; rotate_left; (· rintro w' ⟨s0, s1, s2, s3, s4, s5, s6⟩; go_simp; with_reducible rfl); rotate_left; (· simp only [Act.put, sq]; rfl)
                refine take_ (i := 15) (N := some 77) (v := ?_) (a' := ?_) #[T, T, T, T, T, T, T, T, T, T, T, T, T, T, T, T, T, T, F, T, T, F, F, T, F, F, F] rfl rfl (take_ofW HT_.out HW_.out (by kernel_rfl)) (fun _ _ _ h => h) (Or.inl ⟨by rfl, ?_⟩) hHeld ?_ ?_; rotate_left; (· rintro w' ⟨s0, s1, s2, s3, s4, s5, s6⟩; go_simp; with_reducible rfl); rotate_left; (· simp only [Act.put, sq]; rfl)
                refine take_ (i := 18) (N := some 80) (v := ?_) (a' := ?_) #[T, T, T, T, T, T, T, T, T, T, T, T, T, T, T, T, T, T, T, T, T, F, F, T, F, F, F] rfl rfl (take_ofW HT_.out HW_.out (by kernel_rfl)) (fun _ _ _ h => h) (Or.inl ⟨by rfl, ?_⟩) hHeld ?_ ?_; rotate_left; (· rintro w' ⟨s0, s1, s2, s3, s4, s5, s6⟩; go_simp; with_reducible rfl); rotate_left; (· simp only [Act.put, sq]; rfl)
                refine take_ (i := 21) (N := some 83) (v := ?_) (a' := ?_) #[T, T, T, T, T, T, T, T, T, T, T, T, T, T, T, T, T, T, T, T, T, T, F, T, F, F, F] rfl rfl (take_ofW HT_.out HW_.out (by kernel_rfl)) (fun _ _ _ h => h) (Or.inl ⟨by rfl, ?_⟩) hHeld ?_ ?_; rotate_left; (· rintro w' ⟨s0, s1, s2, s3, s4, s5, s6⟩; go_simp; with_reducible rfl); rotate_left; (· simp only [Act.put, sq]; rfl)
                refine pure_ (i := 22) (N := some 84) (v := ?_) (a' := ?_) #[T, T, T, T, T, T, T, T, T, T, T, T, T, T, T, T, T, T, T, T, T, T, T, T, F, F, F] rfl rfl (any_of HT_.out (by kernel_rfl)) (fun _ _ _ h => h) (Or.inl ⟨by rfl, ?_⟩) ?_ ?_; rotate_left; (· intro w'; go_simp; with_reducible rfl); rotate_left; (· simp only [Act.put, sq]; rfl)
                refine pure_ (i := 24) (N := some 86) (v := ?_) (a' := ?_) #[T, T, T, T, T, T, T, T, T, T, T, T, T, T, T, T, T, T, T, T, T, T, T, T, T, F, F] rfl rfl (any_of HT_.out (by kernel_rfl)) (fun _ _ _ h => h) (Or.inl ⟨by rfl, ?_⟩) ?_ ?_; rotate_left; (· intro w'; go_simp; with_reducible rfl); rotate_left; (· simp only [Act.put, sq]; rfl)
                refine one_ (i := 25) (N := some 13) #[T, T, T, T, T, T, T, T, T, T, T, T, T, T, T, T, T, T, T, T, T, T, T, T, T, T, F] rfl rfl (one_of HT_.out (by kernel_rfl)) (by decide) (fun K hK => ?_)
                refine box_step ?hg (N := 13) ?hd (cs := #[.slice none 0 0, .bool false, .int .i64 0, .int .i64 0, .int .i64 0, .int .i64 0, .int .i64 0, .int .i64 0, .slice none 0 0]) (t := 63) ?hr ?_; (case hd => rfl); (case hg => rfl); (case hr => first | (go_simp; done) | (go_simp; rfl))
                intro gb424 hg w33 hbox hb
                have HS0_ := (hb.cell (World.block_lt_of_cell? _ _ (hHeld.1))).trans (hHeld.1)
                have HS1_ := (hb.cell (World.block_lt_of_cell? _ _ (hHeld.2.1))).trans (hHeld.2.1)
                have HS2_ := (hb.cell (World.block_lt_of_cell? _ _ (hHeld.2.2.1))).trans (hHeld.2.2.1)
                have HS3_ := (hb.cell (World.block_lt_of_cell? _ _ (hHeld.2.2.2.1))).trans (hHeld.2.2.2.1)
                have HS4_ := (hb.cell (World.block_lt_of_cell? _ _ (hHeld.2.2.2.2.1))).trans (hHeld.2.2.2.2.1)
                have HS5_ := (hb.cell (World.block_lt_of_cell? _ _ (hHeld.2.2.2.2.2.1))).trans (hHeld.2.2.2.2.2.1)
                have HS6_ := (hb.cell (World.block_lt_of_cell? _ _ (hHeld.2.2.2.2.2.2))).trans (hHeld.2.2.2.2.2.2)
                replace HO_4 := Rb HO_4 hb
                replace HO_10 := Rb HO_10 hb
                have BK424 := Aside0.mk (hbox)
                have GW424 := Aside0.mk ((by rw [hg]; exact (Lz HB) : w.heap.size ≤ gb424))
                have GE424 := Aside0.mk ((by rw [hg]; exact (Lz HB) : w.heap.size ≤ gb424))
                replace HB := Lb HB hb
                have NB403_424 := Aside0.mk ((by rw [hg]; exact Nat.ne_of_lt (blk_lt (g := gb403) (o := .cells #[.slice none 0 0, .bool x404001_1, .int .i64 x404002_1, .int .i64 x404003_1, .int .i64 x404004_1, .int .i64 x404005_1, .int .i64 x404006_1, .int .i64 x404007_1, .slice none 0 0] 63 (0, 0)) (Bs BK403.out)) : gb403 ≠ gb424))
                have NB424_403 := Aside0.mk ((by rw [hg]; exact Nat.ne_of_gt (blk_lt (g := gb403) (o := .cells #[.slice none 0 0, .bool x404001_1, .int .i64 x404002_1, .int .i64 x404003_1, .int .i64 x404004_1, .int .i64 x404005_1, .int .i64 x404006_1, .int .i64 x404007_1, .slice none 0 0] 63 (0, 0)) (Bs BK403.out)) : gb424 ≠ gb403))
                replace BK403 := Bb BK403 hb
                clear hb hbox hg
                refine hK.out _ _ ⟨HS0_, HS1_, HS2_, HS3_, HS4_, HS5_, HS6_⟩ (fun hHeld => ?_)
                clear hK K
                refine norm_ (a' := ?_) ?_ ?_; rotate_left; (· show Act.put _ (some 13) _ = _; simp only [Act.put, sq]; rfl)
                refine one_ (i := 26) (N := none) #[T, T, T, T, T, T, T, T, T, T, T, T, T, T, T, T, T, T, T, T, T, T, T, T, T, T, T] rfl rfl (one_of HT_.out (by kernel_rfl)) (by decide) (fun K hK => ?_)
                have hs34 : w33.cell? ⟨gb424, 0, none⟩ = some (.slice none 0 0) := (blk_cell BK424.out 0).trans rfl
                have hfs34 := blk_frozen BK424.out 0
                have hns34_0 := NB403_424.out
                have hms34_0 := NB424_403.out
                have hs35 : w33.cell? ⟨gb424, 1, none⟩ = some (.bool false) := (blk_cell BK424.out 1).trans rfl
                have hfs35 := blk_frozen BK424.out 1
                have hns35_0 := NB403_424.out
                have hms35_0 := NB424_403.out
                have hs36 : w33.cell? ⟨gb424, 2, none⟩ = some (.int .i64 0) := (blk_cell BK424.out 2).trans rfl
                have hfs36 := blk_frozen BK424.out 2
                have hns36_0 := NB403_424.out
                have hms36_0 := NB424_403.out
                have hs37 : w33.cell? ⟨gb424, 3, none⟩ = some (.int .i64 0) := (blk_cell BK424.out 3).trans rfl
                have hfs37 := blk_frozen BK424.out 3
                have hns37_0 := NB403_424.out
                have hms37_0 := NB424_403.out
                have hs38 : w33.cell? ⟨gb424, 4, none⟩ = some (.int .i64 0) := (blk_cell BK424.out 4).trans rfl
                have hfs38 := blk_frozen BK424.out 4
                have hns38_0 := NB403_424.out
                have hms38_0 := NB424_403.out
                have hs39 : w33.cell? ⟨gb424, 5, none⟩ = some (.int .i64 0) := (blk_cell BK424.out 5).trans rfl
                have hfs39 := blk_frozen BK424.out 5
                have hns39_0 := NB403_424.out
                have hms39_0 := NB424_403.out
                have hs40 : w33.cell? ⟨gb424, 6, none⟩ = some (.int .i64 0) := (blk_cell BK424.out 6).trans rfl
                have hfs40 := blk_frozen BK424.out 6
                have hns40_0 := NB403_424.out
                have hms40_0 := NB424_403.out
                have hs41 : w33.cell? ⟨gb424, 7, none⟩ = some (.int .i64 0) := (blk_cell BK424.out 7).trans rfl
                have hfs41 := blk_frozen BK424.out 7
                have hns41_0 := NB403_424.out
                have hms41_0 := NB424_403.out
                have hs42 : w33.cell? ⟨gb424, 8, none⟩ = some (.slice none 0 0) := (blk_cell BK424.out 8).trans rfl
                have hfs42 := blk_frozen BK424.out 8
                have hns42_0 := NB403_424.out
                have hms42_0 := NB424_403.out
                refine skip_ (w1 := ?_) (by rfl) rfl ?_ ?_
                rotate_left
                · go_simp
                  rfl
                have hne_ : ad417.block ≠ gb424 := Kd.own_blk (Kd.R_ne HO_4.out BK424.out (by decide))
                refine hK.out _ _ ⟨far9 hne_ hHeld.1, far9 hne_ hHeld.2.1, far9 hne_ hHeld.2.2.1, far9 hne_ hHeld.2.2.2.1, far9 hne_ hHeld.2.2.2.2.1, far9 hne_ hHeld.2.2.2.2.2.1, far9 hne_ hHeld.2.2.2.2.2.2⟩ (fun hHeld => ?_)
                clear hK K
                refine done_ (done_of HT_.out (by kernel_rfl)) ?_
                try go_wp2_with (first | ((with_reducible refine gate_callee (f := 45) rfl ?_); refine goesL_ (some 90) rfl rfl Try.func45 (by kernel_rfl) rfl #[.slice A0 l0.length c0, .int .i64 t411] rfl (by (try simp only [List.map_toArray, List.map_cons, List.map_nil]); first | done | rfl | (simp only [List.length_drop, List.length_take]; rfl)) ?_; (with_reducible refine (trommelref39_Count.calls kj11 _ _ l0 t411 t425 t426 true _ ?side1 ?side2 A28.out).mono ?_); (case side1 => exact Kd.C_below HR0.out (Ls HB)); (case side2 => exact HC0.out); rintro e w43 ⟨rfl, hb⟩; refine ⟨_, rfl, ?_⟩; have n0_ := Aside0.mk (Kd.R_below (Rs ((Kd.R_mono (Kd.R_far (p := ⟨gb424, 8, none⟩) (Kd.R_far (p := ⟨gb424, 7, none⟩) (Kd.R_far (p := ⟨gb424, 6, none⟩) (Kd.R_far (p := ⟨gb424, 5, none⟩) (Kd.R_far (p := ⟨gb424, 4, none⟩) (Kd.R_far (p := ⟨gb424, 3, none⟩) (Kd.R_far (p := ⟨gb424, 2, none⟩) (Kd.R_far (p := ⟨gb424, 1, none⟩) (Kd.R_far (p := ⟨gb424, 0, none⟩) (Kd.R_types HO_4.out BK424.out (by decide)) (fun _ hk => hk.2) (.slice none 0 0)) (fun _ hk => hk.2) (.bool ((rd x4_1 0) == 1))) (fun _ hk => hk.2) (.int .i64 (rd x4_1 1))) (fun _ hk => hk.2) (.int .i64 (rd x4_1 2))) (fun _ hk => hk.2) (.int .i64 (rd x4_1 3))) (fun _ hk => hk.2) (.int .i64 (rd x4_1 4))) (fun _ hk => hk.2) (.int .i64 (rd x4_1 5))) (fun _ hk => hk.2) (.int .i64 (rd x4_1 6))) (fun _ hk => hk.2) (.slice Ao32 t410.length co32)) (fun _ h_ => h_.1)))) hb); have n1_ := Aside0.mk (Kd.R_below (Rs ((Kd.R_mono (Kd.R_far (p := ⟨gb424, 8, none⟩) (Kd.R_far (p := ⟨gb424, 7, none⟩) (Kd.R_far (p := ⟨gb424, 6, none⟩) (Kd.R_far (p := ⟨gb424, 5, none⟩) (Kd.R_far (p := ⟨gb424, 4, none⟩) (Kd.R_far (p := ⟨gb424, 3, none⟩) (Kd.R_far (p := ⟨gb424, 2, none⟩) (Kd.R_far (p := ⟨gb424, 1, none⟩) (Kd.R_far (p := ⟨gb424, 0, none⟩) (Kd.R_types HO_10.out BK424.out (by decide)) (fun _ hk => hk.2) (.slice none 0 0)) (fun _ hk => hk.2) (.bool ((rd x4_1 0) == 1))) (fun _ hk => hk.2) (.int .i64 (rd x4_1 1))) (fun _ hk => hk.2) (.int .i64 (rd x4_1 2))) (fun _ hk => hk.2) (.int .i64 (rd x4_1 3))) (fun _ hk => hk.2) (.int .i64 (rd x4_1 4))) (fun _ hk => hk.2) (.int .i64 (rd x4_1 5))) (fun _ hk => hk.2) (.int .i64 (rd x4_1 6))) (fun _ hk => hk.2) (.slice Ao32 t410.length co32)) (fun _ h_ => h_.1)))) hb); have n2_ := Aside0.mk (blk_below (g := gb403) (o := .cells #[.slice none 0 0, .bool x404001_1, .int .i64 x404002_1, .int .i64 x404003_1, .int .i64 x404004_1, .int .i64 x404005_1, .int .i64 x404006_1, .int .i64 x404007_1, .slice none 0 0] 63 (0, 0)) (by (with_reducible repeat (first | refine blk_drewN ?_ _ | refine blk_drew ?_ | refine blk_alloc ?_ _)); refine blk_far ?_ NB403_424.out _; (with_reducible repeat (first | refine blk_drewN ?_ _ | refine blk_drew ?_ | refine blk_alloc ?_ _)); refine blk_far ?_ NB403_424.out _; (with_reducible repeat (first | refine blk_drewN ?_ _ | refine blk_drew ?_ | refine blk_alloc ?_ _)); refine blk_far ?_ NB403_424.out _; (with_reducible repeat (first | refine blk_drewN ?_ _ | refine blk_drew ?_ | refine blk_alloc ?_ _)); refine blk_far ?_ NB403_424.out _; (with_reducible repeat (first | refine blk_drewN ?_ _ | refine blk_drew ?_ | refine blk_alloc ?_ _)); refine blk_far ?_ NB403_424.out _; (with_reducible repeat (first | refine blk_drewN ?_ _ | refine blk_drew ?_ | refine blk_alloc ?_ _)); refine blk_far ?_ NB403_424.out _; (with_reducible repeat (first | refine blk_drewN ?_ _ | refine blk_drew ?_ | refine blk_alloc ?_ _)); refine blk_far ?_ NB403_424.out _; (with_reducible repeat (first | refine blk_drewN ?_ _ | refine blk_drew ?_ | refine blk_alloc ?_ _)); refine blk_far ?_ NB403_424.out _; (with_reducible repeat (first | refine blk_drewN ?_ _ | refine blk_drew ?_ | refine blk_alloc ?_ _)); refine blk_far ?_ NB403_424.out _; (with_reducible repeat (first | refine blk_drewN ?_ _ | refine blk_drew ?_ | refine blk_alloc ?_ _)); exact BK403.out) hb); have n3_ := Aside0.mk (blk_below (g := gb424) (o := .cells #[.slice none 0 0, .bool ((rd x4_1 0) == 1), .int .i64 (rd x4_1 1), .int .i64 (rd x4_1 2), .int .i64 (rd x4_1 3), .int .i64 (rd x4_1 4), .int .i64 (rd x4_1 5), .int .i64 (rd x4_1 6), .slice Ao32 t410.length co32] 63 (0, 0)) (by (with_reducible repeat (first | refine blk_drewN ?_ _ | refine blk_drew ?_ | refine blk_alloc ?_ _)); refine blk_put (cs := #[.slice none 0 0, .bool ((rd x4_1 0) == 1), .int .i64 (rd x4_1 1), .int .i64 (rd x4_1 2), .int .i64 (rd x4_1 3), .int .i64 (rd x4_1 4), .int .i64 (rd x4_1 5), .int .i64 (rd x4_1 6), .slice none 0 0]) ?_ 8 _ rfl; (with_reducible repeat (first | refine blk_drewN ?_ _ | refine blk_drew ?_ | refine blk_alloc ?_ _)); refine blk_put (cs := #[.slice none 0 0, .bool ((rd x4_1 0) == 1), .int .i64 (rd x4_1 1), .int .i64 (rd x4_1 2), .int .i64 (rd x4_1 3), .int .i64 (rd x4_1 4), .int .i64 (rd x4_1 5), .int .i64 0, .slice none 0 0]) ?_ 7 _ rfl; (with_reducible repeat (first | refine blk_drewN ?_ _ | refine blk_drew ?_ | refine blk_alloc ?_ _)); refine blk_put (cs := #[.slice none 0 0, .bool ((rd x4_1 0) == 1), .int .i64 (rd x4_1 1), .int .i64 (rd x4_1 2), .int .i64 (rd x4_1 3), .int .i64 (rd x4_1 4), .int .i64 0, .int .i64 0, .slice none 0 0]) ?_ 6 _ rfl; (with_reducible repeat (first | refine blk_drewN ?_ _ | refine blk_drew ?_ | refine blk_alloc ?_ _)); refine blk_put (cs := #[.slice none 0 0, .bool ((rd x4_1 0) == 1), .int .i64 (rd x4_1 1), .int .i64 (rd x4_1 2), .int .i64 (rd x4_1 3), .int .i64 0, .int .i64 0, .int .i64 0, .slice none 0 0]) ?_ 5 _ rfl; (with_reducible repeat (first | refine blk_drewN ?_ _ | refine blk_drew ?_ | refine blk_alloc ?_ _)); refine blk_put (cs := #[.slice none 0 0, .bool ((rd x4_1 0) == 1), .int .i64 (rd x4_1 1), .int .i64 (rd x4_1 2), .int .i64 0, .int .i64 0, .int .i64 0, .int .i64 0, .slice none 0 0]) ?_ 4 _ rfl; (with_reducible repeat (first | refine blk_drewN ?_ _ | refine blk_drew ?_ | refine blk_alloc ?_ _)); refine blk_put (cs := #[.slice none 0 0, .bool ((rd x4_1 0) == 1), .int .i64 (rd x4_1 1), .int .i64 0, .int .i64 0, .int .i64 0, .int .i64 0, .int .i64 0, .slice none 0 0]) ?_ 3 _ rfl; (with_reducible repeat (first | refine blk_drewN ?_ _ | refine blk_drew ?_ | refine blk_alloc ?_ _)); refine blk_put (cs := #[.slice none 0 0, .bool ((rd x4_1 0) == 1), .int .i64 0, .int .i64 0, .int .i64 0, .int .i64 0, .int .i64 0, .int .i64 0, .slice none 0 0]) ?_ 2 _ rfl; (with_reducible repeat (first | refine blk_drewN ?_ _ | refine blk_drew ?_ | refine blk_alloc ?_ _)); refine blk_put (cs := #[.slice none 0 0, .bool false, .int .i64 0, .int .i64 0, .int .i64 0, .int .i64 0, .int .i64 0, .int .i64 0, .slice none 0 0]) ?_ 1 _ rfl; (with_reducible repeat (first | refine blk_drewN ?_ _ | refine blk_drew ?_ | refine blk_alloc ?_ _)); refine blk_put (cs := #[.slice none 0 0, .bool false, .int .i64 0, .int .i64 0, .int .i64 0, .int .i64 0, .int .i64 0, .int .i64 0, .slice none 0 0]) ?_ 0 _ rfl; (with_reducible repeat (first | refine blk_drewN ?_ _ | refine blk_drew ?_ | refine blk_alloc ?_ _)); exact BK424.out) hb); have n4_ := Lb HB hb; clear HO_4 HO_10 BK403 BK424 HB; have HO_4 := n0_; have HO_10 := n1_; have BK403 := n2_; have BK424 := n3_; have HB := n4_; clear n0_ n1_ n2_ n3_ n4_; (try clear hb); (try clear hb2); (try clear hk); (try clear hi)))
                go_loopg [15, 17] kj11 (fun kq v15 v17 w' => ∃ (x15_3 : Int) (x17_3 : Int) (x404001_3 : Bool) (x404002_3 : Int) (x404003_3 : Int) (x404004_3 : Int) (x404005_3 : Int) (x404006_3 : Int) (x404007_3 : Int) (x425000_3 : List (S87)) (u425000 : Value), v15 = .int .i64 x15_3 ∧ v17 = .int .i64 x17_3 ∧ Aside0 (trommelref39_Get.l1 kq l0 t425 x15_3 x17_3 x425000_3 ((rd x4_1 0) == 1) (rd x4_1 1) (rd x4_1 2) (rd x4_1 3) (rd x4_1 4) (rd x4_1 5) (rd x4_1 6) t410 = some (r1, r2, r3, r4, r5, r6, r7, r8, r9, r10)) ∧ Aside0 (kq ≤ kj11) ∧ Aside0 (Kd.R k87 87 w' w.heap.size (fun k_ => some k_ ≠ ((.slice Ao32 t410.length co32) : Value).ownBlock) u425000 x425000_3) ∧ Aside0 (Kd.R (Kd.int .i64) 3 w' w.heap.size (fun _ => True) (.slice Ao32 t410.length co32) t410) ∧ Aside0 (w'.heap[gb403]? = some (.cells #[(.slice none 0 0), .bool x404001_3, .int .i64 x404002_3, .int .i64 x404003_3, .int .i64 x404004_3, .int .i64 x404005_3, .int .i64 x404006_3, .int .i64 x404007_3, (.slice none 0 0)] 63 (0, 0))) ∧ Aside0 (w'.heap[gb424]? = some (.cells #[u425000, .bool ((rd x4_1 0) == 1), .int .i64 (rd x4_1 1), .int .i64 (rd x4_1 2), .int .i64 (rd x4_1 3), .int .i64 (rd x4_1 4), .int .i64 (rd x4_1 5), .int .i64 (rd x4_1 6), (.slice Ao32 t410.length co32)] 63 (0, 0))) ∧ Aside0 (Below w.heap.size w w'))
                case atStart => exact ⟨(t426), (0), (x404001_1), (x404002_1), (x404003_1), (x404004_1), (x404005_1), (x404006_1), (x404007_1), (([] : List (S87))), (.slice none 0 0), (by first | rfl | (simp; done) | (simp [*]; done)), (by first | rfl | (simp; done) | (simp [*]; done)), H', ⟨Nat.le_refl _⟩, ⟨by first | exact Kd.R_nil _ _ _ _ _ | exact Kd.N_nil _ _ _ _ _ | exact Kd.V_nil _ _ _ _ _ | exact Kd.Q_nil _ _ _ _ _ | exact Kd.S_nil _ _ _ _ _⟩, ⟨by (with_reducible repeat (first | apply Kd.R_alloc | apply Kd.R_drewN | apply Kd.R_drew)); exact Kd.R_mono HO_10.out (fun _ hk => trivial)⟩, ⟨Bs BK403.out⟩, ⟨Bs BK424.out⟩, ⟨Ls HB⟩⟩
                case round =>
                  clear H'
                  try clear c1; try clear c2; try clear p2; try clear c3; try clear c3b0; try clear c4; try clear p4; try clear q4; try clear hx4; try clear qi4; try clear c5; try clear c6; try clear p6; try clear c14; try clear c15; try clear c15b0; try clear c15b1; try clear c16; try clear c16b0; try clear c19; try clear c21; try clear c21b0; try clear c21b1; try clear c22; try clear c22b0; try clear c22b1; try clear c23; try clear c23b0; try clear c23b1; try clear c24; try clear c24b0; try clear c24b1; try clear c25; try clear c25b0; try clear c25b1; try clear c26; try clear c26b0; try clear c26b1; try clear c27; try clear c27b0; try clear c27b1; try clear c29; try clear p41; try clear q41; try clear hx41; try clear qi41; try clear p42; try clear q42; try clear hx42; try clear qi42; try clear hcz10_0; try clear hcz10_1; try clear hcz10_2; try clear hcz10_3; try clear hcz10_4; try clear hcz10_5; try clear hcz10_6; try clear hcz10_7; try clear hcz10_8; try clear hcz20_0; try clear hcz20_1; try clear hcz20_2; try clear hcz20_3; try clear hcz20_4; try clear hcz20_5; try clear hcz20_6; try clear hcz20_7; try clear hcz20_8; try clear hfz10_0; try clear hfz10_1; try clear hfz10_2; try clear hfz10_3; try clear hfz10_4; try clear hfz10_5; try clear hfz10_6; try clear hfz10_7; try clear hfz10_8; try clear hfz20_0; try clear hfz20_1; try clear hfz20_2; try clear hfz20_3; try clear hfz20_4; try clear hfz20_5; try clear hfz20_6; try clear hfz20_7; try clear hfz20_8; try clear hx415_0; try clear hx416_0; try clear hx417_0; try clear hx418_0; try clear hx419_0; try clear hx420_0; try clear hx421_0; try clear hx422_0; try clear hx423_0; try clear p2; try clear p4; try clear p415; try clear p416; try clear p417; try clear p418; try clear p419; try clear p420; try clear p421; try clear p422; try clear p423; try clear p6; try clear q4; try clear q415; try clear q416; try clear q417; try clear q418; try clear q419; try clear q420; try clear q421; try clear q422; try clear q423
                  obtain ⟨x15_3, x17_3, x404001_3, x404002_3, x404003_3, x404004_3, x404005_3, x404006_3, x404007_3, x425000_3, u425000, rfl, rfl, HA, HK3, HO_425000, HO_425008, BK403, BK424, HB⟩ := hrel
                  cases gk with
                  | zero => exact absurd HA.out (by simp [trommelref39_Get.l1])
                  | succ k3 =>
                    have H := HA.out
                    clear HA
                    simp only [trommelref39_Get.l1] at H
                    by_cases c44 : x17_3 < t425
                    · rw [if_pos c44] at H
                      have c44b0 : decide (x17_3 < t425) = true := decide_eq_true c44
                      clear c44
                      replace H := Option.bind_eq_some_iff.mp H
                      obtain ⟨⟨t428, t429, t432, t433⟩, A450, H⟩ := H
                      replace H : (if t433 = true then (if x425000_3.length < 4398046511104 then (trommelref39_Get.l1 k3 l0 t425 t432 (wrap64 (x17_3 + 1)) (x425000_3 ++ [(⟨t428, t429⟩ : S87)]) ((rd x4_1 0) == 1) (rd x4_1 1) (rd x4_1 2) (rd x4_1 3) (rd x4_1 4) (rd x4_1 5) (rd x4_1 6) t410) else (none)) else (some (([] : List (S87)), false, 0, 0, 0, 0, 0, 0, ([] : List Int), 7))) = some (r1, r2, r3, r4, r5, r6, r7, r8, r9, r10) := H
                      have A45 := Aside0.mk A450
                      clear A450
                      by_cases c46 : t433 = true
                      · subst c46
                        have H1 : (if x425000_3.length < 4398046511104 then (trommelref39_Get.l1 k3 l0 t425 t432 (wrap64 (x17_3 + 1)) (x425000_3 ++ [(⟨t428, t429⟩ : S87)]) ((rd x4_1 0) == 1) (rd x4_1 1) (rd x4_1 2) (rd x4_1 3) (rd x4_1 4) (rd x4_1 5) (rd x4_1 6) t410) else (none)) = some (r1, r2, r3, r4, r5, r6, r7, r8, r9, r10) := by rw [if_pos rfl] at H; exact H
                        clear H
                        have H := H1
                        clear H1
                        refine bc (p := (x425000_3.length < 4398046511104)) (fun c47 => ?_) (fun c47 => ?_)
                        · rw [if_neg c47] at H
                          exact absurd H (by simp)
                        rw [if_pos c47] at H
                        have LMc47 := Aside0.mk c47
                        clear c47
                        obtain ⟨y435, hy435⟩ : ∃ y_ : List (S87), y_ = (x425000_3 ++ [(⟨t428, t429⟩ : S87)]) := ⟨_, rfl⟩
                        replace H : (trommelref39_Get.l1 k3 l0 t425 t432 (wrap64 (x17_3 + 1)) y435 ((rd x4_1 0) == 1) (rd x4_1 1) (rd x4_1 2) (rd x4_1 3) (rd x4_1 4) (rd x4_1 5) (rd x4_1 6) t410) = some (r1, r2, r3, r4, r5, r6, r7, r8, r9, r10) := by first | (rw [hy435]; with_reducible exact H) | (have H2_ := (Option.bind_some _ _).symm.trans H; rw [hy435]; with_reducible exact H2_) | (have H2_ := (Option.bind_some _ _).symm.trans H; with_reducible exact H2_) | with_reducible exact H | (rw [hy435]; exact H) | exact H
                        have Ny435 := Aside0.mk hy435
                        clear hy435
                        have H' := Aside0.mk H
                        clear H
                        go_wp2_with (first | ((with_reducible refine gate_callee (f := 54) rfl ?_); refine goesL_ (some 105) rfl rfl Try.func54 (by kernel_rfl) rfl #[.slice A0 l0.length c0, .int .i64 x15_3] rfl (by (try simp only [List.map_toArray, List.map_cons, List.map_nil]); first | done | rfl | (simp only [List.length_drop, List.length_take]; rfl)) ?_; (with_reducible refine (trommelref39_stat.calls k3 _ _ l0 x15_3 t428 t429 t432 true _ ?side1 ?side2 A45.out).mono ?_); (case side1 => repeat (first | exact (Kd.C_below HR0.out HB.out) | (with_reducible refine Kd.C_alloc ?_ _) | (with_reducible refine Kd.C_drewN ?_ _) | (with_reducible refine Kd.C_drew ?_))); (case side2 => exact HC0.out); rintro e w48 ⟨v430, rfl, ho0, hb⟩; refine ⟨_, rfl, ?_⟩; have n0_ := Aside0.mk (Kd.R_elder' (Rs HO_425000.out) (Kd.S_base ho0) hb); have n1_ := Rb HO_425008 hb; have n2_ := Aside0.mk (Kd.S_lower (Kd.S_new' ho0 (Kd.R_lt (Rs HO_425008.out))) (Lz HB)); have n3_ := Bb BK403 hb; have n4_ := Aside0.mk (blk_below (g := gb424) (o := .cells #[u425000, .bool ((rd x4_1 0) == 1), .int .i64 (rd x4_1 1), .int .i64 (rd x4_1 2), .int .i64 (rd x4_1 3), .int .i64 (rd x4_1 4), .int .i64 (rd x4_1 5), .int .i64 (rd x4_1 6), .slice Ao32 t410.length co32] 63 (0, 0)) (Bs BK424.out) hb); have n5_ := Lb HB hb; clear HO_425000 HO_425008 BK403 BK424 HB; have HO_425000 := n0_; have HO_425008 := n1_; have HO431 := n2_; have BK403 := n3_; have BK424 := n4_; have HB := n5_; clear n0_ n1_ n2_ n3_ n4_ n5_; (try clear hb); (try clear hb2); (try clear hk); (try clear hi); (try clear ho0)) | ((with_reducible refine gate_dst (N := 18) rfl ?_); refine box_event ?hg (N := 18) ?hd (cs := #[.int .i64 0, .slice none 0 0]) (t := 87) ?hr ?_; (case hd => rfl); (case hg => rfl); (case hr => first | (go_simp; done) | (go_simp; rfl)); intro gb434 hg w49 hbox hb; have n0_ := Aside0.mk (Kd.R_below (Kd.R_elderB (Rs HO_425000.out) gb434 (Nat.le_of_eq hg.symm)) hb); have n1_ := Rb HO_425008 hb; have n2_ := Aside0.mk (Kd.S_below (by (with_reducible repeat (first | apply Kd.S_alloc | apply Kd.S_drewN | apply Kd.S_drew)); exact HO431.out) hb); have n3_ := Bb BK403 hb; have n4_ := Aside0.mk (blk_below (g := gb424) (o := .cells #[u425000, .bool ((rd x4_1 0) == 1), .int .i64 (rd x4_1 1), .int .i64 (rd x4_1 2), .int .i64 (rd x4_1 3), .int .i64 (rd x4_1 4), .int .i64 (rd x4_1 5), .int .i64 (rd x4_1 6), .slice Ao32 t410.length co32] 63 (0, 0)) (Bs BK424.out) hb); have n5_ := Lb HB hb; have n6_ := Aside0.mk (hbox); have n7_ := Aside0.mk ((by rw [hg]; exact (Lz HB) : w.heap.size ≤ gb434)); have n8_ := Aside0.mk ((by rw [hg]; exact (Lz HB) : w.heap.size ≤ gb434)); have n9_ := Aside0.mk ((by rw [hg]; exact Nat.ne_of_lt (blk_lt (g := gb403) (o := .cells #[.slice none 0 0, .bool x404001_3, .int .i64 x404002_3, .int .i64 x404003_3, .int .i64 x404004_3, .int .i64 x404005_3, .int .i64 x404006_3, .int .i64 x404007_3, .slice none 0 0] 63 (0, 0)) (Bs BK403.out)) : gb403 ≠ gb434)); have n10_ := Aside0.mk ((by rw [hg]; exact Nat.ne_of_gt (blk_lt (g := gb403) (o := .cells #[.slice none 0 0, .bool x404001_3, .int .i64 x404002_3, .int .i64 x404003_3, .int .i64 x404004_3, .int .i64 x404005_3, .int .i64 x404006_3, .int .i64 x404007_3, .slice none 0 0] 63 (0, 0)) (Bs BK403.out)) : gb434 ≠ gb403)); have n11_ := Aside0.mk ((by rw [hg]; exact Nat.ne_of_lt (blk_lt (g := gb424) (o := .cells #[u425000, .bool ((rd x4_1 0) == 1), .int .i64 (rd x4_1 1), .int .i64 (rd x4_1 2), .int .i64 (rd x4_1 3), .int .i64 (rd x4_1 4), .int .i64 (rd x4_1 5), .int .i64 (rd x4_1 6), .slice Ao32 t410.length co32] 63 (0, 0)) (Bs BK424.out)) : gb424 ≠ gb434)); have n12_ := Aside0.mk ((by rw [hg]; exact Nat.ne_of_gt (blk_lt (g := gb424) (o := .cells #[u425000, .bool ((rd x4_1 0) == 1), .int .i64 (rd x4_1 1), .int .i64 (rd x4_1 2), .int .i64 (rd x4_1 3), .int .i64 (rd x4_1 4), .int .i64 (rd x4_1 5), .int .i64 (rd x4_1 6), .slice Ao32 t410.length co32] 63 (0, 0)) (Bs BK424.out)) : gb434 ≠ gb424)); clear HO_425000 HO_425008 HO431 BK403 BK424 HB; have HO_425000 := n0_; have HO_425008 := n1_; have HO431 := n2_; have BK403 := n3_; have BK424 := n4_; have HB := n5_; have BK434 := n6_; have GW434 := n7_; have GE434 := n8_; have NB403_434 := n9_; have NB434_403 := n10_; have NB424_434 := n11_; have NB434_424 := n12_; clear n0_ n1_ n2_ n3_ n4_ n5_ n6_ n7_ n8_ n9_ n10_ n11_ n12_; clear hb hbox hg; have hnb50 := NB434_403.out; have hnc50 := NB403_434.out; have hnb51 := NB434_424.out; have hnc51 := NB424_434.out; have hcz52_0 : w49.cell? ⟨gb434, 0, none⟩ = some (.int .i64 0) := (blk_cell BK434.out 0).trans rfl; have hcz52_1 : w49.cell? ⟨gb434, 1, none⟩ = some (.slice none 0 0) := (blk_cell BK434.out 1).trans rfl; have hfz52_0 := blk_frozen BK434.out 0; have hfz52_1 := blk_frozen BK434.out 1; obtain ⟨Ao53, co53, eo53⟩ := Kd.S_slice HO431.out; subst eo53) | ((with_reducible refine gate_store (t := 87) (p := 18) rfl ?_); refine store_event (t := 87) (p := 18) (v := ?vo_w54) (w1 := ((w49.setCell ⟨gb434, 0, none⟩ (.int .i64 t428)).setCell ⟨gb434, 1, none⟩ (.slice Ao53 t429.length co53))) ?hg ?ho ?hn ?hr ?_; (case ho => rfl); (case hg => rfl); (case hn => rfl); (case hr => first | (go_simp; done) | (go_simp; rfl)); intro w54 hw; have n0_ : Aside0 (Kd.R k87 87 w54 w.heap.size (fun k_ => some k_ ≠ (.slice Ao32 t410.length co32 : Value).ownBlock ∧ some k_ ≠ (.slice Ao53 t429.length co53 : Value).ownBlock ∧ k_ ≠ gb434) u425000 x425000_3) := ⟨(by rw [hw]; exact (Rs (Kd.R_mono (Kd.R_far (p := ⟨gb434, 1, none⟩) (Kd.R_far (p := ⟨gb434, 0, none⟩) (Kd.R_mono HO_425000.out (fun k_ hk => (⟨hk, hk.2⟩ : _ ∧ k_ ≠ gb434))) (fun _ hk => hk.2) (.int .i64 t428)) (fun _ hk => hk.2) (.slice Ao53 t429.length co53)) (fun _ hk => ⟨hk.1.1.1, ⟨hk.1.1.2, hk.1.2⟩⟩))))⟩; have n1_ : Aside0 (Kd.R (Kd.int .i64) 3 w54 w.heap.size (fun _ => True) (.slice Ao32 t410.length co32) t410) := ⟨(by rw [hw]; exact (Rs (Kd.R_mono (Kd.R_far (p := ⟨gb434, 1, none⟩) (Kd.R_far (p := ⟨gb434, 0, none⟩) (Kd.R_types HO_425008.out BK434.out (by decide)) (fun _ hk => hk.2) (.int .i64 t428)) (fun _ hk => hk.2) (.slice Ao53 t429.length co53)) (fun _ hk => trivial))))⟩; have n2_ : Aside0 (Kd.S k89 89 w54 w.heap.size (fun k_ => some k_ ≠ (.slice Ao32 t410.length co32 : Value).ownBlock) (.slice Ao53 t429.length co53) t429) := ⟨(by rw [hw]; exact (by (with_reducible repeat (first | apply Kd.S_alloc | apply Kd.S_drewN | apply Kd.S_drew)); exact Kd.S_mono (Kd.S_far (p := ⟨gb434, 1, none⟩) (Kd.S_far (p := ⟨gb434, 0, none⟩) (Kd.S_types HO431.out BK434.out (by decide)) (fun _ hk => hk.2) (.int .i64 t428)) (fun _ hk => hk.2) (.slice Ao53 t429.length co53)) (fun _ hk => hk.1.2)))⟩; have n3_ : Aside0 (w54.heap[gb403]? = some (.cells #[.slice none 0 0, .bool x404001_3, .int .i64 x404002_3, .int .i64 x404003_3, .int .i64 x404004_3, .int .i64 x404005_3, .int .i64 x404006_3, .int .i64 x404007_3, .slice none 0 0] 63 (0, 0))) := ⟨(by rw [hw]; exact (by (with_reducible repeat (first | refine blk_drewN ?_ _ | refine blk_drew ?_ | refine blk_alloc ?_ _)); refine blk_far ?_ NB403_434.out _; (with_reducible repeat (first | refine blk_drewN ?_ _ | refine blk_drew ?_ | refine blk_alloc ?_ _)); refine blk_far ?_ NB403_434.out _; (with_reducible repeat (first | refine blk_drewN ?_ _ | refine blk_drew ?_ | refine blk_alloc ?_ _)); exact BK403.out))⟩; have n4_ : Aside0 (w54.heap[gb424]? = some (.cells #[u425000, .bool ((rd x4_1 0) == 1), .int .i64 (rd x4_1 1), .int .i64 (rd x4_1 2), .int .i64 (rd x4_1 3), .int .i64 (rd x4_1 4), .int .i64 (rd x4_1 5), .int .i64 (rd x4_1 6), .slice Ao32 t410.length co32] 63 (0, 0))) := ⟨(by rw [hw]; exact (by (with_reducible repeat (first | refine blk_drewN ?_ _ | refine blk_drew ?_ | refine blk_alloc ?_ _)); refine blk_far ?_ NB424_434.out _; (with_reducible repeat (first | refine blk_drewN ?_ _ | refine blk_drew ?_ | refine blk_alloc ?_ _)); refine blk_far ?_ NB424_434.out _; (with_reducible repeat (first | refine blk_drewN ?_ _ | refine blk_drew ?_ | refine blk_alloc ?_ _)); exact BK424.out))⟩; have n5_ : Aside0 (w54.heap[gb434]? = some (.cells #[.int .i64 t428, .slice Ao53 t429.length co53] 87 (0, 0))) := ⟨(by rw [hw]; exact (by (with_reducible repeat (first | refine blk_drewN ?_ _ | refine blk_drew ?_ | refine blk_alloc ?_ _)); refine blk_put (cs := #[.int .i64 t428, .slice none 0 0]) ?_ 1 _ rfl; (with_reducible repeat (first | refine blk_drewN ?_ _ | refine blk_drew ?_ | refine blk_alloc ?_ _)); refine blk_put (cs := #[.int .i64 0, .slice none 0 0]) ?_ 0 _ rfl; (with_reducible repeat (first | refine blk_drewN ?_ _ | refine blk_drew ?_ | refine blk_alloc ?_ _)); exact BK434.out))⟩; have n6_ : Aside0 (Below w.heap.size w w54) := ⟨(by rw [hw]; exact (Ls HB))⟩; clear hw HO_425000 HO_425008 HO431 BK403 BK424 BK434 HB; have HO_425000 := n0_; have HO_425008 := n1_; have HO431 := n2_; have BK403 := n3_; have BK424 := n4_; have BK434 := n5_; have HB := n6_; clear n0_ n1_ n2_ n3_ n4_ n5_ n6_; have hnb55 := NB424_403.out; have hnc55 := NB403_424.out; have hcz56_0 : w54.cell? ⟨gb424, 0, none⟩ = some (u425000) := (blk_cell BK424.out 0).trans rfl; have hcz56_1 : w54.cell? ⟨gb424, 1, none⟩ = some (.bool ((rd x4_1 0) == 1)) := (blk_cell BK424.out 1).trans rfl; have hcz56_2 : w54.cell? ⟨gb424, 2, none⟩ = some (.int .i64 (rd x4_1 1)) := (blk_cell BK424.out 2).trans rfl; have hcz56_3 : w54.cell? ⟨gb424, 3, none⟩ = some (.int .i64 (rd x4_1 2)) := (blk_cell BK424.out 3).trans rfl; have hcz56_4 : w54.cell? ⟨gb424, 4, none⟩ = some (.int .i64 (rd x4_1 3)) := (blk_cell BK424.out 4).trans rfl; have hcz56_5 : w54.cell? ⟨gb424, 5, none⟩ = some (.int .i64 (rd x4_1 4)) := (blk_cell BK424.out 5).trans rfl; have hcz56_6 : w54.cell? ⟨gb424, 6, none⟩ = some (.int .i64 (rd x4_1 5)) := (blk_cell BK424.out 6).trans rfl; have hcz56_7 : w54.cell? ⟨gb424, 7, none⟩ = some (.int .i64 (rd x4_1 6)) := (blk_cell BK424.out 7).trans rfl; have hcz56_8 : w54.cell? ⟨gb424, 8, none⟩ = some (.slice Ao32 t410.length co32) := (blk_cell BK424.out 8).trans rfl; have hfz56_0 := blk_frozen BK424.out 0; have hfz56_1 := blk_frozen BK424.out 1; have hfz56_2 := blk_frozen BK424.out 2; have hfz56_3 := blk_frozen BK424.out 3; have hfz56_4 := blk_frozen BK424.out 4; have hfz56_5 := blk_frozen BK424.out 5; have hfz56_6 := blk_frozen BK424.out 6; have hfz56_7 := blk_frozen BK424.out 7; have hfz56_8 := blk_frozen BK424.out 8; have hcz57_0 : w54.cell? ⟨gb434, 0, none⟩ = some (.int .i64 t428) := (blk_cell BK434.out 0).trans rfl; have hcz57_1 : w54.cell? ⟨gb434, 1, none⟩ = some (.slice Ao53 t429.length co53) := (blk_cell BK434.out 1).trans rfl; have hfz57_0 := blk_frozen BK434.out 0; have hfz57_1 := blk_frozen BK434.out 1) | ((with_reducible refine gate_builtin (b := .append) (xs := #[.tmp 113, .tmp 115]) rfl ?_); at_builtin; refine Kd.R_append k87 (w0 := w) w.heap.size rfl (.tmp 113) (.tmp 115) 59 87 (.agg #[(.int .i64 0), (.slice none 0 0)]) 32 rfl Try.underlying59 info87 rfl (by decide) (by omega) u425000 x425000_3 (⟨t428, t429⟩ : S87) [.int .i64 t428, .slice Ao53 t429.length co53] (fun k_ => some k_ ≠ (.slice Ao32 t410.length co32 : Value).ownBlock ∧ k_ ≠ gb434) (fun k_ => ((fun k_ => some k_ ≠ (.slice Ao32 t410.length co32 : Value).ownBlock ∧ k_ ≠ gb434)) k_ ∧ some k_ ≠ (u425000 : Value).ownBlock) rfl rfl ?aP (fun _ hk => hk) ?aF ?aO ?aB ?aS ?aL ?_; (case aP => exact k87_mkM _ _ _ (⟨t428, t429⟩ : S87) (Kd.R_mono (Kd.R_types (Kd.R_apart' ((Kd.S_R HO431.out)) (Kd.R_typed HO_425000.out) (by decide)) BK434.out (by decide)) (fun k_ hk => ⟨⟨hk.1.1, hk.2⟩, hk.1.2⟩))); (case aB => exact (Ls HB)); (case aF => exact (fun k_ hk => ⟨Kd.fresh' (Kd.R_lt (Rs HO_425008.out)) k_ hk, Kd.freshB (g := gb434) (o := .cells #[.int .i64 t428, .slice Ao53 t429.length co53] 87 (0, 0)) (Bs BK434.out) k_ hk⟩)); (case aO => exact (Rs (Kd.R_mono HO_425000.out (fun _ hk => ⟨hk.1, hk.2.2⟩)))); (case aS => exact (Lz HB)); (case aL => have := LMc47.out; omega); intro v436 w58 ho hb hg hat; rw [← Ny435.out] at ho; have n0_ := Aside0.mk (Kd.R_over' (Rs HO_425008.out) (Kd.R_typed (Rs HO_425000.out)) (by decide) hg); have n1_ := Aside0.mk (blk_grown (g := gb403) (o := .cells #[.slice none 0 0, .bool x404001_3, .int .i64 x404002_3, .int .i64 x404003_3, .int .i64 x404004_3, .int .i64 x404005_3, .int .i64 x404006_3, .int .i64 x404007_3, .slice none 0 0] 63 (0, 0)) (Bs BK403.out) hg (Kd.R_ne HO_425000.out BK403.out (by decide))); have n2_ := Aside0.mk (blk_grown (g := gb424) (o := .cells #[u425000, .bool ((rd x4_1 0) == 1), .int .i64 (rd x4_1 1), .int .i64 (rd x4_1 2), .int .i64 (rd x4_1 3), .int .i64 (rd x4_1 4), .int .i64 (rd x4_1 5), .int .i64 (rd x4_1 6), .slice Ao32 t410.length co32] 63 (0, 0)) (Bs BK424.out) hg (Kd.R_ne HO_425000.out BK424.out (by decide))); have n3_ := Aside0.mk (blk_grown (g := gb434) (o := .cells #[.int .i64 t428, .slice Ao53 t429.length co53] 87 (0, 0)) (Bs BK434.out) hg (Kd.R_away HO_425000.out (fun _ hk => hk.2.2))); have n4_ := Aside0.mk (hb); have n5_ := Aside0.mk (ho); clear HO_425008 BK403 BK424 BK434 HB HO_425000 HO431; have HO_425008 := n0_; have BK403 := n1_; have BK424 := n2_; have BK434 := n3_; have HB := n4_; have HO437 := n5_; clear n0_ n1_ n2_ n3_ n4_ n5_; clear ho hb hg hat; obtain ⟨Ao59, co59, eo59⟩ := Kd.R_slice HO437.out; subst eo59; have hcz60_0 : w58.cell? ⟨gb424, 0, none⟩ = some (u425000) := (blk_cell BK424.out 0).trans rfl; have hcz60_1 : w58.cell? ⟨gb424, 1, none⟩ = some (.bool ((rd x4_1 0) == 1)) := (blk_cell BK424.out 1).trans rfl; have hcz60_2 : w58.cell? ⟨gb424, 2, none⟩ = some (.int .i64 (rd x4_1 1)) := (blk_cell BK424.out 2).trans rfl; have hcz60_3 : w58.cell? ⟨gb424, 3, none⟩ = some (.int .i64 (rd x4_1 2)) := (blk_cell BK424.out 3).trans rfl; have hcz60_4 : w58.cell? ⟨gb424, 4, none⟩ = some (.int .i64 (rd x4_1 3)) := (blk_cell BK424.out 4).trans rfl; have hcz60_5 : w58.cell? ⟨gb424, 5, none⟩ = some (.int .i64 (rd x4_1 4)) := (blk_cell BK424.out 5).trans rfl; have hcz60_6 : w58.cell? ⟨gb424, 6, none⟩ = some (.int .i64 (rd x4_1 5)) := (blk_cell BK424.out 6).trans rfl; have hcz60_7 : w58.cell? ⟨gb424, 7, none⟩ = some (.int .i64 (rd x4_1 6)) := (blk_cell BK424.out 7).trans rfl; have hcz60_8 : w58.cell? ⟨gb424, 8, none⟩ = some (.slice Ao32 t410.length co32) := (blk_cell BK424.out 8).trans rfl; have hfz60_0 := blk_frozen BK424.out 0; have hfz60_1 := blk_frozen BK424.out 1; have hfz60_2 := blk_frozen BK424.out 2; have hfz60_3 := blk_frozen BK424.out 3; have hfz60_4 := blk_frozen BK424.out 4; have hfz60_5 := blk_frozen BK424.out 5; have hfz60_6 := blk_frozen BK424.out 6; have hfz60_7 := blk_frozen BK424.out 7; have hfz60_8 := blk_frozen BK424.out 8))
                        go_roundg k3
                        case measure => have := HK1.out; have := HJ11.out; have := HK3.out; omega
                        case rel => exact ⟨(t432), (wrap64 (x17_3 + 1)), (x404001_3), (x404002_3), (x404003_3), (x404004_3), (x404005_3), (x404006_3), (x404007_3), (y435), (.slice Ao59 y435.length co59), (by first | rfl | (simp; done) | (simp [*]; done)), (by first | rfl | (simp; done) | (simp [*]; done)), H', ⟨by have := HK1.out; have := HJ11.out; have := HK3.out; omega⟩, ⟨by (with_reducible repeat (first | apply Kd.R_alloc | apply Kd.R_drewN | apply Kd.R_drew)); exact Kd.R_mono (Kd.R_far (p := ⟨gb424, 0, none⟩) (Kd.R_types HO437.out BK424.out (by decide)) (fun _ hk => hk.2) (.slice Ao59 y435.length co59)) (fun _ hk => hk.1.1)⟩, ⟨by (with_reducible repeat (first | apply Kd.R_alloc | apply Kd.R_drewN | apply Kd.R_drew)); exact Kd.R_mono (Kd.R_far (p := ⟨gb424, 0, none⟩) (Kd.R_types HO_425008.out BK424.out (by decide)) (fun _ hk => hk.2) (.slice Ao59 y435.length co59)) (fun _ hk => trivial)⟩, ⟨by (with_reducible repeat (first | refine blk_drewN ?_ _ | refine blk_drew ?_ | refine blk_alloc ?_ _)); refine blk_far ?_ NB403_424.out _; (with_reducible repeat (first | refine blk_drewN ?_ _ | refine blk_drew ?_ | refine blk_alloc ?_ _)); exact BK403.out⟩, ⟨by (with_reducible repeat (first | refine blk_drewN ?_ _ | refine blk_drew ?_ | refine blk_alloc ?_ _)); refine blk_put (cs := #[u425000, .bool ((rd x4_1 0) == 1), .int .i64 (rd x4_1 1), .int .i64 (rd x4_1 2), .int .i64 (rd x4_1 3), .int .i64 (rd x4_1 4), .int .i64 (rd x4_1 5), .int .i64 (rd x4_1 6), .slice Ao32 t410.length co32]) ?_ 0 _ rfl; (with_reducible repeat (first | refine blk_drewN ?_ _ | refine blk_drew ?_ | refine blk_alloc ?_ _)); exact BK424.out⟩, ⟨Ls HB⟩⟩
                      · replace c46 := Bool.eq_false_iff.mpr c46
                        subst c46
                        have H1 : (some (([] : List (S87)), false, 0, 0, 0, 0, 0, 0, ([] : List Int), 7)) = some (r1, r2, r3, r4, r5, r6, r7, r8, r9, r10) := by rw [if_neg (show ¬ (false = true) by decide)] at H; exact H
                        clear H
                        have H := H1
                        clear H1
                        simp only [Option.some.injEq, Prod.mk.injEq] at H
                        obtain ⟨rfl, rfl, rfl, rfl, rfl, rfl, rfl, rfl, rfl, rfl⟩ := H
                        go_wp2_with (first | ((with_reducible refine gate_callee (f := 54) rfl ?_); refine goesL_ (some 105) rfl rfl Try.func54 (by kernel_rfl) rfl #[.slice A0 l0.length c0, .int .i64 x15_3] rfl (by (try simp only [List.map_toArray, List.map_cons, List.map_nil]); first | done | rfl | (simp only [List.length_drop, List.length_take]; rfl)) ?_; (with_reducible refine (trommelref39_stat.calls k3 _ _ l0 x15_3 t428 t429 t432 false _ ?side1 ?side2 A45.out).mono ?_); (case side1 => repeat (first | exact (Kd.C_below HR0.out HB.out) | (with_reducible refine Kd.C_alloc ?_ _) | (with_reducible refine Kd.C_drewN ?_ _) | (with_reducible refine Kd.C_drew ?_))); (case side2 => exact HC0.out); rintro e w61 ⟨v430, rfl, ho0, hb⟩; refine ⟨_, rfl, ?_⟩; have n0_ := Aside0.mk (Kd.R_elder' (Rs HO_425000.out) (Kd.S_base ho0) hb); have n1_ := Rb HO_425008 hb; have n2_ := Aside0.mk (Kd.S_lower (Kd.S_new' ho0 (Kd.R_lt (Rs HO_425008.out))) (Lz HB)); have n3_ := Bb BK403 hb; have n4_ := Aside0.mk (blk_below (g := gb424) (o := .cells #[u425000, .bool ((rd x4_1 0) == 1), .int .i64 (rd x4_1 1), .int .i64 (rd x4_1 2), .int .i64 (rd x4_1 3), .int .i64 (rd x4_1 4), .int .i64 (rd x4_1 5), .int .i64 (rd x4_1 6), .slice Ao32 t410.length co32] 63 (0, 0)) (Bs BK424.out) hb); have n5_ := Lb HB hb; clear HO_425000 HO_425008 BK403 BK424 HB; have HO_425000 := n0_; have HO_425008 := n1_; have HO431 := n2_; have BK403 := n3_; have BK424 := n4_; have HB := n5_; clear n0_ n1_ n2_ n3_ n4_ n5_; (try clear hb); (try clear hb2); (try clear hk); (try clear hi); (try clear ho0)) | ((with_reducible refine gate_dst (N := 18) rfl ?_); refine box_event ?hg (N := 18) ?hd (cs := #[.int .i64 0, .slice none 0 0]) (t := 87) ?hr ?_; (case hd => rfl); (case hg => rfl); (case hr => first | (go_simp; done) | (go_simp; rfl)); intro gb434 hg w62 hbox hb; have n0_ := Aside0.mk (Kd.R_below (Kd.R_elderB (Rs HO_425000.out) gb434 (Nat.le_of_eq hg.symm)) hb); have n1_ := Rb HO_425008 hb; have n2_ := Aside0.mk (Kd.S_below (by (with_reducible repeat (first | apply Kd.S_alloc | apply Kd.S_drewN | apply Kd.S_drew)); exact HO431.out) hb); have n3_ := Bb BK403 hb; have n4_ := Aside0.mk (blk_below (g := gb424) (o := .cells #[u425000, .bool ((rd x4_1 0) == 1), .int .i64 (rd x4_1 1), .int .i64 (rd x4_1 2), .int .i64 (rd x4_1 3), .int .i64 (rd x4_1 4), .int .i64 (rd x4_1 5), .int .i64 (rd x4_1 6), .slice Ao32 t410.length co32] 63 (0, 0)) (Bs BK424.out) hb); have n5_ := Lb HB hb; have n6_ := Aside0.mk (hbox); have n7_ := Aside0.mk ((by rw [hg]; exact (Lz HB) : w.heap.size ≤ gb434)); have n8_ := Aside0.mk ((by rw [hg]; exact (Lz HB) : w.heap.size ≤ gb434)); have n9_ := Aside0.mk ((by rw [hg]; exact Nat.ne_of_lt (blk_lt (g := gb403) (o := .cells #[.slice none 0 0, .bool x404001_3, .int .i64 x404002_3, .int .i64 x404003_3, .int .i64 x404004_3, .int .i64 x404005_3, .int .i64 x404006_3, .int .i64 x404007_3, .slice none 0 0] 63 (0, 0)) (Bs BK403.out)) : gb403 ≠ gb434)); have n10_ := Aside0.mk ((by rw [hg]; exact Nat.ne_of_gt (blk_lt (g := gb403) (o := .cells #[.slice none 0 0, .bool x404001_3, .int .i64 x404002_3, .int .i64 x404003_3, .int .i64 x404004_3, .int .i64 x404005_3, .int .i64 x404006_3, .int .i64 x404007_3, .slice none 0 0] 63 (0, 0)) (Bs BK403.out)) : gb434 ≠ gb403)); have n11_ := Aside0.mk ((by rw [hg]; exact Nat.ne_of_lt (blk_lt (g := gb424) (o := .cells #[u425000, .bool ((rd x4_1 0) == 1), .int .i64 (rd x4_1 1), .int .i64 (rd x4_1 2), .int .i64 (rd x4_1 3), .int .i64 (rd x4_1 4), .int .i64 (rd x4_1 5), .int .i64 (rd x4_1 6), .slice Ao32 t410.length co32] 63 (0, 0)) (Bs BK424.out)) : gb424 ≠ gb434)); have n12_ := Aside0.mk ((by rw [hg]; exact Nat.ne_of_gt (blk_lt (g := gb424) (o := .cells #[u425000, .bool ((rd x4_1 0) == 1), .int .i64 (rd x4_1 1), .int .i64 (rd x4_1 2), .int .i64 (rd x4_1 3), .int .i64 (rd x4_1 4), .int .i64 (rd x4_1 5), .int .i64 (rd x4_1 6), .slice Ao32 t410.length co32] 63 (0, 0)) (Bs BK424.out)) : gb434 ≠ gb424)); clear HO_425000 HO_425008 HO431 BK403 BK424 HB; have HO_425000 := n0_; have HO_425008 := n1_; have HO431 := n2_; have BK403 := n3_; have BK424 := n4_; have HB := n5_; have BK434 := n6_; have GW434 := n7_; have GE434 := n8_; have NB403_434 := n9_; have NB434_403 := n10_; have NB424_434 := n11_; have NB434_424 := n12_; clear n0_ n1_ n2_ n3_ n4_ n5_ n6_ n7_ n8_ n9_ n10_ n11_ n12_; clear hb hbox hg; have hnb63 := NB434_403.out; have hnc63 := NB403_434.out; have hnb64 := NB434_424.out; have hnc64 := NB424_434.out; have hcz65_0 : w62.cell? ⟨gb434, 0, none⟩ = some (.int .i64 0) := (blk_cell BK434.out 0).trans rfl; have hcz65_1 : w62.cell? ⟨gb434, 1, none⟩ = some (.slice none 0 0) := (blk_cell BK434.out 1).trans rfl; have hfz65_0 := blk_frozen BK434.out 0; have hfz65_1 := blk_frozen BK434.out 1; obtain ⟨Ao66, co66, eo66⟩ := Kd.S_slice HO431.out; subst eo66; have hnb67 := NB403_424.out; have hnc67 := NB424_403.out; have hcz68_0 : w62.cell? ⟨gb403, 0, none⟩ = some (.slice none 0 0) := (blk_cell BK403.out 0).trans rfl; have hcz68_1 : w62.cell? ⟨gb403, 1, none⟩ = some (.bool x404001_3) := (blk_cell BK403.out 1).trans rfl; have hcz68_2 : w62.cell? ⟨gb403, 2, none⟩ = some (.int .i64 x404002_3) := (blk_cell BK403.out 2).trans rfl; have hcz68_3 : w62.cell? ⟨gb403, 3, none⟩ = some (.int .i64 x404003_3) := (blk_cell BK403.out 3).trans rfl; have hcz68_4 : w62.cell? ⟨gb403, 4, none⟩ = some (.int .i64 x404004_3) := (blk_cell BK403.out 4).trans rfl; have hcz68_5 : w62.cell? ⟨gb403, 5, none⟩ = some (.int .i64 x404005_3) := (blk_cell BK403.out 5).trans rfl; have hcz68_6 : w62.cell? ⟨gb403, 6, none⟩ = some (.int .i64 x404006_3) := (blk_cell BK403.out 6).trans rfl; have hcz68_7 : w62.cell? ⟨gb403, 7, none⟩ = some (.int .i64 x404007_3) := (blk_cell BK403.out 7).trans rfl; have hcz68_8 : w62.cell? ⟨gb403, 8, none⟩ = some (.slice none 0 0) := (blk_cell BK403.out 8).trans rfl; have hfz68_0 := blk_frozen BK403.out 0; have hfz68_1 := blk_frozen BK403.out 1; have hfz68_2 := blk_frozen BK403.out 2; have hfz68_3 := blk_frozen BK403.out 3; have hfz68_4 := blk_frozen BK403.out 4; have hfz68_5 := blk_frozen BK403.out 5; have hfz68_6 := blk_frozen BK403.out 6; have hfz68_7 := blk_frozen BK403.out 7; have hfz68_8 := blk_frozen BK403.out 8))
                        refine bodyPost_ret (results_ct rfl _ _ gb403 63 #[.slice none 0 0, .bool false, .int .i64 0, .int .i64 0, .int .i64 0, .int .i64 0, .int .i64 0, .int .i64 0, .slice none 0 0] (0, 0) _ rfl (by (with_reducible repeat (first | refine blk_drewN ?_ _ | refine blk_drew ?_ | refine blk_alloc ?_ _)); refine blk_put (cs := #[.slice none 0 0, .bool false, .int .i64 0, .int .i64 0, .int .i64 0, .int .i64 0, .int .i64 0, .int .i64 0, .slice none 0 0]) ?_ 8 _ rfl; (with_reducible repeat (first | refine blk_drewN ?_ _ | refine blk_drew ?_ | refine blk_alloc ?_ _)); refine blk_put (cs := #[.slice none 0 0, .bool false, .int .i64 0, .int .i64 0, .int .i64 0, .int .i64 0, .int .i64 0, .int .i64 x404007_3, .slice none 0 0]) ?_ 7 _ rfl; (with_reducible repeat (first | refine blk_drewN ?_ _ | refine blk_drew ?_ | refine blk_alloc ?_ _)); refine blk_put (cs := #[.slice none 0 0, .bool false, .int .i64 0, .int .i64 0, .int .i64 0, .int .i64 0, .int .i64 x404006_3, .int .i64 x404007_3, .slice none 0 0]) ?_ 6 _ rfl; (with_reducible repeat (first | refine blk_drewN ?_ _ | refine blk_drew ?_ | refine blk_alloc ?_ _)); refine blk_put (cs := #[.slice none 0 0, .bool false, .int .i64 0, .int .i64 0, .int .i64 0, .int .i64 x404005_3, .int .i64 x404006_3, .int .i64 x404007_3, .slice none 0 0]) ?_ 5 _ rfl; (with_reducible repeat (first | refine blk_drewN ?_ _ | refine blk_drew ?_ | refine blk_alloc ?_ _)); refine blk_put (cs := #[.slice none 0 0, .bool false, .int .i64 0, .int .i64 0, .int .i64 x404004_3, .int .i64 x404005_3, .int .i64 x404006_3, .int .i64 x404007_3, .slice none 0 0]) ?_ 4 _ rfl; (with_reducible repeat (first | refine blk_drewN ?_ _ | refine blk_drew ?_ | refine blk_alloc ?_ _)); refine blk_put (cs := #[.slice none 0 0, .bool false, .int .i64 0, .int .i64 x404003_3, .int .i64 x404004_3, .int .i64 x404005_3, .int .i64 x404006_3, .int .i64 x404007_3, .slice none 0 0]) ?_ 3 _ rfl; (with_reducible repeat (first | refine blk_drewN ?_ _ | refine blk_drew ?_ | refine blk_alloc ?_ _)); refine blk_put (cs := #[.slice none 0 0, .bool false, .int .i64 x404002_3, .int .i64 x404003_3, .int .i64 x404004_3, .int .i64 x404005_3, .int .i64 x404006_3, .int .i64 x404007_3, .slice none 0 0]) ?_ 2 _ rfl; (with_reducible repeat (first | refine blk_drewN ?_ _ | refine blk_drew ?_ | refine blk_alloc ?_ _)); refine blk_put (cs := #[.slice none 0 0, .bool x404001_3, .int .i64 x404002_3, .int .i64 x404003_3, .int .i64 x404004_3, .int .i64 x404005_3, .int .i64 x404006_3, .int .i64 x404007_3, .slice none 0 0]) ?_ 1 _ rfl; (with_reducible repeat (first | refine blk_drewN ?_ _ | refine blk_drew ?_ | refine blk_alloc ?_ _)); refine blk_put (cs := #[.slice none 0 0, .bool x404001_3, .int .i64 x404002_3, .int .i64 x404003_3, .int .i64 x404004_3, .int .i64 x404005_3, .int .i64 x404006_3, .int .i64 x404007_3, .slice none 0 0]) ?_ 0 _ rfl; (with_reducible repeat (first | refine blk_drewN ?_ _ | refine blk_drew ?_ | refine blk_alloc ?_ _)); refine blk_far ?_ NB403_434.out _; (with_reducible repeat (first | refine blk_drewN ?_ _ | refine blk_drew ?_ | refine blk_alloc ?_ _)); refine blk_far ?_ NB403_434.out _; (with_reducible repeat (first | refine blk_drewN ?_ _ | refine blk_drew ?_ | refine blk_alloc ?_ _)); exact BK403.out) Try.underlying63 rfl (by kernel_rfl)) rfl ?_
                        exact ⟨_, _, by first | rfl | (simp [errW_none, errW_some] <;> rfl) | (simp [*, errW_none, errW_some] <;> rfl), by first | exact Kd.R_nil _ _ _ _ _ | exact Kd.N_nil _ _ _ _ _ | exact Kd.V_nil _ _ _ _ _ | exact Kd.Q_nil _ _ _ _ _ | exact Kd.S_nil _ _ _ _ _, by first | exact Kd.R_nil _ _ _ _ _ | exact Kd.N_nil _ _ _ _ _ | exact Kd.V_nil _ _ _ _ _ | exact Kd.Q_nil _ _ _ _ _ | exact Kd.S_nil _ _ _ _ _, by repeat (first | (with_reducible first | exact HB.out | apply below_alloc | apply pw_below_drewN | apply below_drew1 | refine below_set ?_ GE403.out | refine below_set ?_ GE424.out | refine below_set ?_ GE434.out) | exact HB.out)⟩
                    · rw [if_neg c44] at H
                      have c44b0 : decide (x17_3 < t425) = false := decide_eq_false c44
                      clear c44
                      by_cases c69 : x15_3 = (l0.length : Int)
                      · rw [if_pos c69] at H
                        have c69b0 : (x15_3 == (l0.length : Int)) = true := beq_iff_eq.mpr c69
                        have c69b1 : (x15_3 != (l0.length : Int)) = false := bne_eq_false_iff_eq.mpr c69
                        clear c69
                        simp only [Option.some.injEq, Prod.mk.injEq] at H
                        obtain ⟨rfl, rfl, rfl, rfl, rfl, rfl, rfl, rfl, rfl, rfl⟩ := H
                        have hnb70 := NB424_403.out
                        have hnc70 := NB403_424.out
                        have hcz71_0 : wr.cell? ⟨gb424, 0, none⟩ = some (u425000) := (blk_cell BK424.out 0).trans rfl
                        have hcz71_1 : wr.cell? ⟨gb424, 1, none⟩ = some (.bool ((rd x4_1 0) == 1)) := (blk_cell BK424.out 1).trans rfl
                        have hcz71_2 : wr.cell? ⟨gb424, 2, none⟩ = some (.int .i64 (rd x4_1 1)) := (blk_cell BK424.out 2).trans rfl
                        have hcz71_3 : wr.cell? ⟨gb424, 3, none⟩ = some (.int .i64 (rd x4_1 2)) := (blk_cell BK424.out 3).trans rfl
                        have hcz71_4 : wr.cell? ⟨gb424, 4, none⟩ = some (.int .i64 (rd x4_1 3)) := (blk_cell BK424.out 4).trans rfl
                        have hcz71_5 : wr.cell? ⟨gb424, 5, none⟩ = some (.int .i64 (rd x4_1 4)) := (blk_cell BK424.out 5).trans rfl
                        have hcz71_6 : wr.cell? ⟨gb424, 6, none⟩ = some (.int .i64 (rd x4_1 5)) := (blk_cell BK424.out 6).trans rfl
                        have hcz71_7 : wr.cell? ⟨gb424, 7, none⟩ = some (.int .i64 (rd x4_1 6)) := (blk_cell BK424.out 7).trans rfl
                        have hcz71_8 : wr.cell? ⟨gb424, 8, none⟩ = some (.slice Ao32 t410.length co32) := (blk_cell BK424.out 8).trans rfl
                        have hfz71_0 := blk_frozen BK424.out 0
                        have hfz71_1 := blk_frozen BK424.out 1
                        have hfz71_2 := blk_frozen BK424.out 2
                        have hfz71_3 := blk_frozen BK424.out 3
                        have hfz71_4 := blk_frozen BK424.out 4
                        have hfz71_5 := blk_frozen BK424.out 5
                        have hfz71_6 := blk_frozen BK424.out 6
                        have hfz71_7 := blk_frozen BK424.out 7
                        have hfz71_8 := blk_frozen BK424.out 8
                        obtain ⟨Ao72, co72, eo72⟩ := Kd.R_slice HO_425000.out
                        subst eo72
                        have hcz73_0 : wr.cell? ⟨gb403, 0, none⟩ = some (.slice none 0 0) := (blk_cell BK403.out 0).trans rfl
                        have hcz73_1 : wr.cell? ⟨gb403, 1, none⟩ = some (.bool x404001_3) := (blk_cell BK403.out 1).trans rfl
                        have hcz73_2 : wr.cell? ⟨gb403, 2, none⟩ = some (.int .i64 x404002_3) := (blk_cell BK403.out 2).trans rfl
                        have hcz73_3 : wr.cell? ⟨gb403, 3, none⟩ = some (.int .i64 x404003_3) := (blk_cell BK403.out 3).trans rfl
                        have hcz73_4 : wr.cell? ⟨gb403, 4, none⟩ = some (.int .i64 x404004_3) := (blk_cell BK403.out 4).trans rfl
                        have hcz73_5 : wr.cell? ⟨gb403, 5, none⟩ = some (.int .i64 x404005_3) := (blk_cell BK403.out 5).trans rfl
                        have hcz73_6 : wr.cell? ⟨gb403, 6, none⟩ = some (.int .i64 x404006_3) := (blk_cell BK403.out 6).trans rfl
                        have hcz73_7 : wr.cell? ⟨gb403, 7, none⟩ = some (.int .i64 x404007_3) := (blk_cell BK403.out 7).trans rfl
                        have hcz73_8 : wr.cell? ⟨gb403, 8, none⟩ = some (.slice none 0 0) := (blk_cell BK403.out 8).trans rfl
                        have hfz73_0 := blk_frozen BK403.out 0
                        have hfz73_1 := blk_frozen BK403.out 1
                        have hfz73_2 := blk_frozen BK403.out 2
                        have hfz73_3 := blk_frozen BK403.out 3
                        have hfz73_4 := blk_frozen BK403.out 4
                        have hfz73_5 := blk_frozen BK403.out 5
                        have hfz73_6 := blk_frozen BK403.out 6
                        have hfz73_7 := blk_frozen BK403.out 7
                        have hfz73_8 := blk_frozen BK403.out 8
                        go_wp2
                        refine bodyPost_ret (results_ct rfl _ _ gb403 63 #[.slice Ao72 x425000_3.length co72, .bool ((rd x4_1 0) == 1), .int .i64 (rd x4_1 1), .int .i64 (rd x4_1 2), .int .i64 (rd x4_1 3), .int .i64 (rd x4_1 4), .int .i64 (rd x4_1 5), .int .i64 (rd x4_1 6), .slice Ao32 t410.length co32] (0, 0) _ rfl (by (with_reducible repeat (first | refine blk_drewN ?_ _ | refine blk_drew ?_ | refine blk_alloc ?_ _)); refine blk_put (cs := #[.slice Ao72 x425000_3.length co72, .bool ((rd x4_1 0) == 1), .int .i64 (rd x4_1 1), .int .i64 (rd x4_1 2), .int .i64 (rd x4_1 3), .int .i64 (rd x4_1 4), .int .i64 (rd x4_1 5), .int .i64 (rd x4_1 6), .slice none 0 0]) ?_ 8 _ rfl; (with_reducible repeat (first | refine blk_drewN ?_ _ | refine blk_drew ?_ | refine blk_alloc ?_ _)); refine blk_put (cs := #[.slice Ao72 x425000_3.length co72, .bool ((rd x4_1 0) == 1), .int .i64 (rd x4_1 1), .int .i64 (rd x4_1 2), .int .i64 (rd x4_1 3), .int .i64 (rd x4_1 4), .int .i64 (rd x4_1 5), .int .i64 x404007_3, .slice none 0 0]) ?_ 7 _ rfl; (with_reducible repeat (first | refine blk_drewN ?_ _ | refine blk_drew ?_ | refine blk_alloc ?_ _)); refine blk_put (cs := #[.slice Ao72 x425000_3.length co72, .bool ((rd x4_1 0) == 1), .int .i64 (rd x4_1 1), .int .i64 (rd x4_1 2), .int .i64 (rd x4_1 3), .int .i64 (rd x4_1 4), .int .i64 x404006_3, .int .i64 x404007_3, .slice none 0 0]) ?_ 6 _ rfl; (with_reducible repeat (first | refine blk_drewN ?_ _ | refine blk_drew ?_ | refine blk_alloc ?_ _)); refine blk_put (cs := #[.slice Ao72 x425000_3.length co72, .bool ((rd x4_1 0) == 1), .int .i64 (rd x4_1 1), .int .i64 (rd x4_1 2), .int .i64 (rd x4_1 3), .int .i64 x404005_3, .int .i64 x404006_3, .int .i64 x404007_3, .slice none 0 0]) ?_ 5 _ rfl; (with_reducible repeat (first | refine blk_drewN ?_ _ | refine blk_drew ?_ | refine blk_alloc ?_ _)); refine blk_put (cs := #[.slice Ao72 x425000_3.length co72, .bool ((rd x4_1 0) == 1), .int .i64 (rd x4_1 1), .int .i64 (rd x4_1 2), .int .i64 x404004_3, .int .i64 x404005_3, .int .i64 x404006_3, .int .i64 x404007_3, .slice none 0 0]) ?_ 4 _ rfl; (with_reducible repeat (first | refine blk_drewN ?_ _ | refine blk_drew ?_ | refine blk_alloc ?_ _)); refine blk_put (cs := #[.slice Ao72 x425000_3.length co72, .bool ((rd x4_1 0) == 1), .int .i64 (rd x4_1 1), .int .i64 x404003_3, .int .i64 x404004_3, .int .i64 x404005_3, .int .i64 x404006_3, .int .i64 x404007_3, .slice none 0 0]) ?_ 3 _ rfl; (with_reducible repeat (first | refine blk_drewN ?_ _ | refine blk_drew ?_ | refine blk_alloc ?_ _)); refine blk_put (cs := #[.slice Ao72 x425000_3.length co72, .bool ((rd x4_1 0) == 1), .int .i64 x404002_3, .int .i64 x404003_3, .int .i64 x404004_3, .int .i64 x404005_3, .int .i64 x404006_3, .int .i64 x404007_3, .slice none 0 0]) ?_ 2 _ rfl; (with_reducible repeat (first | refine blk_drewN ?_ _ | refine blk_drew ?_ | refine blk_alloc ?_ _)); refine blk_put (cs := #[.slice Ao72 x425000_3.length co72, .bool x404001_3, .int .i64 x404002_3, .int .i64 x404003_3, .int .i64 x404004_3, .int .i64 x404005_3, .int .i64 x404006_3, .int .i64 x404007_3, .slice none 0 0]) ?_ 1 _ rfl; (with_reducible repeat (first | refine blk_drewN ?_ _ | refine blk_drew ?_ | refine blk_alloc ?_ _)); refine blk_put (cs := #[.slice none 0 0, .bool x404001_3, .int .i64 x404002_3, .int .i64 x404003_3, .int .i64 x404004_3, .int .i64 x404005_3, .int .i64 x404006_3, .int .i64 x404007_3, .slice none 0 0]) ?_ 0 _ rfl; (with_reducible repeat (first | refine blk_drewN ?_ _ | refine blk_drew ?_ | refine blk_alloc ?_ _)); exact BK403.out) Try.underlying63 rfl (by kernel_rfl)) rfl ?_
                        exact ⟨_, _, by first | rfl | (simp [errW_none, errW_some] <;> rfl) | (simp [*, errW_none, errW_some] <;> rfl), by (with_reducible repeat (first | apply Kd.R_alloc | apply Kd.R_drewN | apply Kd.R_drew)); exact Kd.R_mono (Kd.R_far (p := ⟨gb403, 8, none⟩) (Kd.R_far (p := ⟨gb403, 7, none⟩) (Kd.R_far (p := ⟨gb403, 6, none⟩) (Kd.R_far (p := ⟨gb403, 5, none⟩) (Kd.R_far (p := ⟨gb403, 4, none⟩) (Kd.R_far (p := ⟨gb403, 3, none⟩) (Kd.R_far (p := ⟨gb403, 2, none⟩) (Kd.R_far (p := ⟨gb403, 1, none⟩) (Kd.R_far (p := ⟨gb403, 0, none⟩) (Kd.R_types HO_425000.out BK403.out (by decide)) (fun _ hk => hk.2) (.slice Ao72 x425000_3.length co72)) (fun _ hk => hk.2) (.bool ((rd x4_1 0) == 1))) (fun _ hk => hk.2) (.int .i64 (rd x4_1 1))) (fun _ hk => hk.2) (.int .i64 (rd x4_1 2))) (fun _ hk => hk.2) (.int .i64 (rd x4_1 3))) (fun _ hk => hk.2) (.int .i64 (rd x4_1 4))) (fun _ hk => hk.2) (.int .i64 (rd x4_1 5))) (fun _ hk => hk.2) (.int .i64 (rd x4_1 6))) (fun _ hk => hk.2) (.slice Ao32 t410.length co32)) (fun _ hk => hk.1), by (with_reducible repeat (first | apply Kd.R_alloc | apply Kd.R_drewN | apply Kd.R_drew)); exact Kd.R_mono (Kd.R_far (p := ⟨gb403, 8, none⟩) (Kd.R_far (p := ⟨gb403, 7, none⟩) (Kd.R_far (p := ⟨gb403, 6, none⟩) (Kd.R_far (p := ⟨gb403, 5, none⟩) (Kd.R_far (p := ⟨gb403, 4, none⟩) (Kd.R_far (p := ⟨gb403, 3, none⟩) (Kd.R_far (p := ⟨gb403, 2, none⟩) (Kd.R_far (p := ⟨gb403, 1, none⟩) (Kd.R_far (p := ⟨gb403, 0, none⟩) (Kd.R_types HO_425008.out BK403.out (by decide)) (fun _ hk => hk.2) (.slice Ao72 x425000_3.length co72)) (fun _ hk => hk.2) (.bool ((rd x4_1 0) == 1))) (fun _ hk => hk.2) (.int .i64 (rd x4_1 1))) (fun _ hk => hk.2) (.int .i64 (rd x4_1 2))) (fun _ hk => hk.2) (.int .i64 (rd x4_1 3))) (fun _ hk => hk.2) (.int .i64 (rd x4_1 4))) (fun _ hk => hk.2) (.int .i64 (rd x4_1 5))) (fun _ hk => hk.2) (.int .i64 (rd x4_1 6))) (fun _ hk => hk.2) (.slice Ao32 t410.length co32)) (fun _ hk => trivial), by repeat (first | (with_reducible first | exact HB.out | apply below_alloc | apply pw_below_drewN | apply below_drew1 | refine below_set ?_ GE403.out | refine below_set ?_ GE424.out) | exact HB.out)⟩
                      · rw [if_neg c69] at H
                        have c69b0 : (x15_3 == (l0.length : Int)) = false := beq_eq_false_iff_ne.mpr c69
                        have c69b1 : (x15_3 != (l0.length : Int)) = true := bne_iff_ne.mpr c69
                        simp only [Option.some.injEq, Prod.mk.injEq] at H
                        obtain ⟨rfl, rfl, rfl, rfl, rfl, rfl, rfl, rfl, rfl, rfl⟩ := H
                        have hnb74 := NB403_424.out
                        have hnc74 := NB424_403.out
                        have hcz75_0 : wr.cell? ⟨gb403, 0, none⟩ = some (.slice none 0 0) := (blk_cell BK403.out 0).trans rfl
                        have hcz75_1 : wr.cell? ⟨gb403, 1, none⟩ = some (.bool x404001_3) := (blk_cell BK403.out 1).trans rfl
                        have hcz75_2 : wr.cell? ⟨gb403, 2, none⟩ = some (.int .i64 x404002_3) := (blk_cell BK403.out 2).trans rfl
                        have hcz75_3 : wr.cell? ⟨gb403, 3, none⟩ = some (.int .i64 x404003_3) := (blk_cell BK403.out 3).trans rfl
                        have hcz75_4 : wr.cell? ⟨gb403, 4, none⟩ = some (.int .i64 x404004_3) := (blk_cell BK403.out 4).trans rfl
                        have hcz75_5 : wr.cell? ⟨gb403, 5, none⟩ = some (.int .i64 x404005_3) := (blk_cell BK403.out 5).trans rfl
                        have hcz75_6 : wr.cell? ⟨gb403, 6, none⟩ = some (.int .i64 x404006_3) := (blk_cell BK403.out 6).trans rfl
                        have hcz75_7 : wr.cell? ⟨gb403, 7, none⟩ = some (.int .i64 x404007_3) := (blk_cell BK403.out 7).trans rfl
                        have hcz75_8 : wr.cell? ⟨gb403, 8, none⟩ = some (.slice none 0 0) := (blk_cell BK403.out 8).trans rfl
                        have hfz75_0 := blk_frozen BK403.out 0
                        have hfz75_1 := blk_frozen BK403.out 1
                        have hfz75_2 := blk_frozen BK403.out 2
                        have hfz75_3 := blk_frozen BK403.out 3
                        have hfz75_4 := blk_frozen BK403.out 4
                        have hfz75_5 := blk_frozen BK403.out 5
                        have hfz75_6 := blk_frozen BK403.out 6
                        have hfz75_7 := blk_frozen BK403.out 7
                        have hfz75_8 := blk_frozen BK403.out 8
                        go_wp2
                        refine bodyPost_ret (results_ct rfl _ _ gb403 63 #[.slice none 0 0, .bool false, .int .i64 0, .int .i64 0, .int .i64 0, .int .i64 0, .int .i64 0, .int .i64 0, .slice none 0 0] (0, 0) _ rfl (by (with_reducible repeat (first | refine blk_drewN ?_ _ | refine blk_drew ?_ | refine blk_alloc ?_ _)); refine blk_put (cs := #[.slice none 0 0, .bool false, .int .i64 0, .int .i64 0, .int .i64 0, .int .i64 0, .int .i64 0, .int .i64 0, .slice none 0 0]) ?_ 8 _ rfl; (with_reducible repeat (first | refine blk_drewN ?_ _ | refine blk_drew ?_ | refine blk_alloc ?_ _)); refine blk_put (cs := #[.slice none 0 0, .bool false, .int .i64 0, .int .i64 0, .int .i64 0, .int .i64 0, .int .i64 0, .int .i64 x404007_3, .slice none 0 0]) ?_ 7 _ rfl; (with_reducible repeat (first | refine blk_drewN ?_ _ | refine blk_drew ?_ | refine blk_alloc ?_ _)); refine blk_put (cs := #[.slice none 0 0, .bool false, .int .i64 0, .int .i64 0, .int .i64 0, .int .i64 0, .int .i64 x404006_3, .int .i64 x404007_3, .slice none 0 0]) ?_ 6 _ rfl; (with_reducible repeat (first | refine blk_drewN ?_ _ | refine blk_drew ?_ | refine blk_alloc ?_ _)); refine blk_put (cs := #[.slice none 0 0, .bool false, .int .i64 0, .int .i64 0, .int .i64 0, .int .i64 x404005_3, .int .i64 x404006_3, .int .i64 x404007_3, .slice none 0 0]) ?_ 5 _ rfl; (with_reducible repeat (first | refine blk_drewN ?_ _ | refine blk_drew ?_ | refine blk_alloc ?_ _)); refine blk_put (cs := #[.slice none 0 0, .bool false, .int .i64 0, .int .i64 0, .int .i64 x404004_3, .int .i64 x404005_3, .int .i64 x404006_3, .int .i64 x404007_3, .slice none 0 0]) ?_ 4 _ rfl; (with_reducible repeat (first | refine blk_drewN ?_ _ | refine blk_drew ?_ | refine blk_alloc ?_ _)); refine blk_put (cs := #[.slice none 0 0, .bool false, .int .i64 0, .int .i64 x404003_3, .int .i64 x404004_3, .int .i64 x404005_3, .int .i64 x404006_3, .int .i64 x404007_3, .slice none 0 0]) ?_ 3 _ rfl; (with_reducible repeat (first | refine blk_drewN ?_ _ | refine blk_drew ?_ | refine blk_alloc ?_ _)); refine blk_put (cs := #[.slice none 0 0, .bool false, .int .i64 x404002_3, .int .i64 x404003_3, .int .i64 x404004_3, .int .i64 x404005_3, .int .i64 x404006_3, .int .i64 x404007_3, .slice none 0 0]) ?_ 2 _ rfl; (with_reducible repeat (first | refine blk_drewN ?_ _ | refine blk_drew ?_ | refine blk_alloc ?_ _)); refine blk_put (cs := #[.slice none 0 0, .bool x404001_3, .int .i64 x404002_3, .int .i64 x404003_3, .int .i64 x404004_3, .int .i64 x404005_3, .int .i64 x404006_3, .int .i64 x404007_3, .slice none 0 0]) ?_ 1 _ rfl; (with_reducible repeat (first | refine blk_drewN ?_ _ | refine blk_drew ?_ | refine blk_alloc ?_ _)); refine blk_put (cs := #[.slice none 0 0, .bool x404001_3, .int .i64 x404002_3, .int .i64 x404003_3, .int .i64 x404004_3, .int .i64 x404005_3, .int .i64 x404006_3, .int .i64 x404007_3, .slice none 0 0]) ?_ 0 _ rfl; (with_reducible repeat (first | refine blk_drewN ?_ _ | refine blk_drew ?_ | refine blk_alloc ?_ _)); exact BK403.out) Try.underlying63 rfl (by kernel_rfl)) rfl ?_
                        exact ⟨_, _, by first | rfl | (simp [errW_none, errW_some] <;> rfl) | (simp [*, errW_none, errW_some] <;> rfl), by first | exact Kd.R_nil _ _ _ _ _ | exact Kd.N_nil _ _ _ _ _ | exact Kd.V_nil _ _ _ _ _ | exact Kd.Q_nil _ _ _ _ _ | exact Kd.S_nil _ _ _ _ _, by first | exact Kd.R_nil _ _ _ _ _ | exact Kd.N_nil _ _ _ _ _ | exact Kd.V_nil _ _ _ _ _ | exact Kd.Q_nil _ _ _ _ _ | exact Kd.S_nil _ _ _ _ _, by repeat (first | (with_reducible first | exact HB.out | apply below_alloc | apply pw_below_drewN | apply below_drew1 | refine below_set ?_ GE403.out | refine below_set ?_ GE424.out) | exact HB.out)⟩
              · replace c29 := Bool.eq_false_iff.mpr c29
                subst c29
                have H1 : (some (([] : List (S87)), false, 0, 0, 0, 0, 0, 0, ([] : List Int), 7)) = some (r1, r2, r3, r4, r5, r6, r7, r8, r9, r10) := by rw [if_neg (show ¬ (false = true) by decide)] at H; exact H
                clear H
                have H := H1
                clear H1
                simp only [Option.some.injEq, Prod.mk.injEq] at H
                obtain ⟨rfl, rfl, rfl, rfl, rfl, rfl, rfl, rfl, rfl, rfl⟩ := H
                try go_wp2
                replace HO_4 := Aside0.mk (Kd.R_drew HO_4.out)
                replace HO_10 := Aside0.mk (Kd.R_drew HO_10.out)
                replace BK403 := Aside0.mk (blk_drew BK403.out)
                replace HB := Aside0.mk (below_drew1 HB.out)
                obtain ⟨Ao77, co77, eo77⟩ := Kd.R_slice HO_4.out
                (first | subst eo77 | (injection eo77 with f1_ f2_ f3_; have f4_ := f1_.symm; have f5_ := f3_.symm; clear f1_ f2_ f3_; subst f4_; subst f5_))
                have p417 : 0 ≤ (0 : Int) := (by omega)
                have q417 : 0 < (x4_1.length : Int) := of_decide_eq_true (by first | (with_reducible assumption) | assumption)
                obtain ⟨ad417, e417, hx417_0⟩ := Kd.at_int (Kd.R_reads' HO_4.out).2.2 0 p417 q417
                cases e417
                have qi417 : (0 < x4_1.length) = True := eq_true (by omega)
                (try rw [show ((0 : Int)).toNat = 0 from rfl] at hx417_0)
                (try rw [Addr.add_zero'] at hx417_0)
                replace p417 := eq_true p417
                replace q417 := eq_true q417
                have p418 : 0 ≤ (1 : Int) := (by omega)
                have q418 : 1 < (x4_1.length : Int) := of_decide_eq_true (by first | (with_reducible assumption) | assumption)
                obtain ⟨ad418, e418, hx418_0⟩ := Kd.at_int (Kd.R_reads' HO_4.out).2.2 1 p418 q418
                obtain rfl : ad417 = ad418 := (by injection e418)
                (try simp only [show (1 : Int).toNat = 1 from rfl, Nat.reduceMul, Nat.reduceEqDiff, Go.Addr.add, ↓reduceIte] at hx418_0)
                have qi418 : (1 < x4_1.length) = True := eq_true (by omega)
                (try rw [show ((1 : Int)).toNat = 1 from rfl] at hx418_0)
                replace p418 := eq_true p418
                replace q418 := eq_true q418
                have p419 : 0 ≤ (2 : Int) := (by omega)
                have q419 : 2 < (x4_1.length : Int) := of_decide_eq_true (by first | (with_reducible assumption) | assumption)
                obtain ⟨ad419, e419, hx419_0⟩ := Kd.at_int (Kd.R_reads' HO_4.out).2.2 2 p419 q419
                obtain rfl : ad417 = ad419 := (by injection e419)
                (try simp only [show (2 : Int).toNat = 2 from rfl, Nat.reduceMul, Nat.reduceEqDiff, Go.Addr.add, ↓reduceIte] at hx419_0)
                have qi419 : (2 < x4_1.length) = True := eq_true (by omega)
                (try rw [show ((2 : Int)).toNat = 2 from rfl] at hx419_0)
                replace p419 := eq_true p419
                replace q419 := eq_true q419
                have p420 : 0 ≤ (3 : Int) := (by omega)
                have q420 : 3 < (x4_1.length : Int) := of_decide_eq_true (by first | (with_reducible assumption) | assumption)
                obtain ⟨ad420, e420, hx420_0⟩ := Kd.at_int (Kd.R_reads' HO_4.out).2.2 3 p420 q420
                obtain rfl : ad417 = ad420 := (by injection e420)
                (try simp only [show (3 : Int).toNat = 3 from rfl, Nat.reduceMul, Nat.reduceEqDiff, Go.Addr.add, ↓reduceIte] at hx420_0)
                have qi420 : (3 < x4_1.length) = True := eq_true (by omega)
                (try rw [show ((3 : Int)).toNat = 3 from rfl] at hx420_0)
                replace p420 := eq_true p420
                replace q420 := eq_true q420
                have p421 : 0 ≤ (4 : Int) := (by omega)
                have q421 : 4 < (x4_1.length : Int) := of_decide_eq_true (by first | (with_reducible assumption) | assumption)
                obtain ⟨ad421, e421, hx421_0⟩ := Kd.at_int (Kd.R_reads' HO_4.out).2.2 4 p421 q421
                obtain rfl : ad417 = ad421 := (by injection e421)
                (try simp only [show (4 : Int).toNat = 4 from rfl, Nat.reduceMul, Nat.reduceEqDiff, Go.Addr.add, ↓reduceIte] at hx421_0)
                have qi421 : (4 < x4_1.length) = True := eq_true (by omega)
                (try rw [show ((4 : Int)).toNat = 4 from rfl] at hx421_0)
                replace p421 := eq_true p421
                replace q421 := eq_true q421
                have p422 : 0 ≤ (5 : Int) := (by omega)
                have q422 : 5 < (x4_1.length : Int) := of_decide_eq_true (by first | (with_reducible assumption) | assumption)
                obtain ⟨ad422, e422, hx422_0⟩ := Kd.at_int (Kd.R_reads' HO_4.out).2.2 5 p422 q422
                obtain rfl : ad417 = ad422 := (by injection e422)
                (try simp only [show (5 : Int).toNat = 5 from rfl, Nat.reduceMul, Nat.reduceEqDiff, Go.Addr.add, ↓reduceIte] at hx422_0)
                have qi422 : (5 < x4_1.length) = True := eq_true (by omega)
                (try rw [show ((5 : Int)).toNat = 5 from rfl] at hx422_0)
                replace p422 := eq_true p422
                replace q422 := eq_true q422
                have p423 : 0 ≤ (6 : Int) := (by omega)
                have q423 : 6 < (x4_1.length : Int) := of_decide_eq_true (by first | (with_reducible assumption) | assumption)
                obtain ⟨ad423, e423, hx423_0⟩ := Kd.at_int (Kd.R_reads' HO_4.out).2.2 6 p423 q423
                obtain rfl : ad417 = ad423 := (by injection e423)
                (try simp only [show (6 : Int).toNat = 6 from rfl, Nat.reduceMul, Nat.reduceEqDiff, Go.Addr.add, ↓reduceIte] at hx423_0)
                have qi423 : (6 < x4_1.length) = True := eq_true (by omega)
                (try rw [show ((6 : Int)).toNat = 6 from rfl] at hx423_0)
                replace p423 := eq_true p423
                replace q423 := eq_true q423
                obtain ⟨Ao78, co78, eo78⟩ := Kd.R_slice HO_10.out
                (first | subst eo78 | (injection eo78 with f1_ f2_ f3_; have f4_ := f1_.symm; have f5_ := f3_.symm; clear f1_ f2_ f3_; subst f4_; subst f5_))
                refine start_ (n := 27) (S := fun w' => w'.cell? ad417 = some (.int .i64 (rd x4_1 0)) ∧ w'.cell? ⟨ad417.block, ad417.off + 1, none⟩ = some (.int .i64 (rd x4_1 1)) ∧ w'.cell? ⟨ad417.block, ad417.off + 2, none⟩ = some (.int .i64 (rd x4_1 2)) ∧ w'.cell? ⟨ad417.block, ad417.off + 3, none⟩ = some (.int .i64 (rd x4_1 3)) ∧ w'.cell? ⟨ad417.block, ad417.off + 4, none⟩ = some (.int .i64 (rd x4_1 4)) ∧ w'.cell? ⟨ad417.block, ad417.off + 5, none⟩ = some (.int .i64 (rd x4_1 5)) ∧ w'.cell? ⟨ad417.block, ad417.off + 6, none⟩ = some (.int .i64 (rd x4_1 6))) (ds := []) #[F, F, F, F, F, F, F, F, F, F, F, F, F, F, F, F, F, F, F, F, F, F, F, F, F, F, F] (by kernel_rfl) rfl rfl ⟨hx417_0, hx418_0, hx419_0, hx420_0, hx421_0, hx422_0, hx423_0⟩ (fun hHeld => ?_); refine with_tabW trommelref39_Get.tab14 trommelref39_Get.bits14 (fun HT_ HW_ => ?_)
                generalize wc.drew = w76 at HO_4 HO_10 BK403 HB hx417_0 hx418_0 hx419_0 hx420_0 hx421_0 hx422_0 hx423_0 hHeld ⊢
                refine pure_ (i := 0) (N := some 62) (v := ?_) (a' := ?_) #[T, F, F, F, F, F, F, F, F, F, F, F, F, F, F, F, F, F, F, F, F, F, F, F, F, F, F] rfl rfl (any_of HT_.out (by kernel_rfl)) (fun _ _ _ h => h) (Or.inl ⟨by rfl, ?_⟩) ?_ ?_; rotate_left; (· intro w'; go_simp; with_reducible rfl); rotate_left; (· simp only [Act.put, sq]; rfl)
                refine pure_ (i := 1) (N := some 63) (v := ?_) (a' := ?_) #[T, T, F, F, F, F, F, F, F, F, F, F, F, F, F, F, F, F, F, F, F, F, F, F, F, F, F] rfl rfl (any_of HT_.out (by kernel_rfl)) (fun _ _ _ h => h) (Or.inl ⟨by rfl, ?_⟩) ?_ ?_; rotate_left; (· intro w'; go_simp; with_reducible rfl); rotate_left; (· simp only [Act.put, sq]; rfl)
                refine pure_ (i := 4) (N := some 66) (v := ?_) (a' := ?_) #[T, T, F, F, T, F, F, F, F, F, F, F, F, F, F, F, F, F, F, F, F, F, F, F, F, F, F] rfl rfl (any_of HT_.out (by kernel_rfl)) (fun _ _ _ h => h) (Or.inl ⟨by rfl, ?_⟩) ?_ ?_; rotate_left; (· intro w'; go_simp; with_reducible rfl); rotate_left; (· simp only [Act.put, sq]; rfl)
                refine pure_ (i := 5) (N := some 67) (v := ?_) (a' := ?_) #[T, T, F, F, T, T, F, F, F, F, F, F, F, F, F, F, F, F, F, F, F, F, F, F, F, F, F] rfl rfl (any_of HT_.out (by kernel_rfl)) (fun _ _ _ h => h) (Or.inl ⟨by rfl, ?_⟩) ?_ ?_; rotate_left; (· intro w'; go_simp; with_reducible rfl); rotate_left; (· simp only [Act.put, sq]; rfl)
                refine pure_ (i := 7) (N := some 69) (v := ?_) (a' := ?_) #[T, T, F, F, T, T, F, T, F, F, F, F, F, F, F, F, F, F, F, F, F, F, F, F, F, F, F] rfl rfl (any_of HT_.out (by kernel_rfl)) (fun _ _ _ h => h) (Or.inl ⟨by rfl, ?_⟩) ?_ ?_; rotate_left; (· intro w'; go_simp; with_reducible rfl); rotate_left; (· simp only [Act.put, sq]; rfl)
                refine pure_ (i := 8) (N := some 70) (v := ?_) (a' := ?_) #[T, T, F, F, T, T, F, T, T, F, F, F, F, F, F, F, F, F, F, F, F, F, F, F, F, F, F] rfl rfl (any_of HT_.out (by kernel_rfl)) (fun _ _ _ h => h) (Or.inl ⟨by rfl, ?_⟩) ?_ ?_; rotate_left; (· intro w'; go_simp; with_reducible rfl); rotate_left; (· simp only [Act.put, sq]; rfl)
                refine pure_ (i := 10) (N := some 72) (v := ?_) (a' := ?_) #[T, T, F, F, T, T, F, T, T, F, T, F, F, F, F, F, F, F, F, F, F, F, F, F, F, F, F] rfl rfl (any_of HT_.out (by kernel_rfl)) (fun _ _ _ h => h) (Or.inl ⟨by rfl, ?_⟩) ?_ ?_; rotate_left; (· intro w'; go_simp; with_reducible rfl); rotate_left; (· simp only [Act.put, sq]; rfl)
                refine pure_ (i := 11) (N := some 73) (v := ?_) (a' := ?_) #[T, T, F, F, T, T, F, T, T, F, T, T, F, F, F, F, F, F, F, F, F, F, F, F, F, F, F] rfl rfl (any_of HT_.out (by kernel_rfl)) (fun _ _ _ h => h) (Or.inl ⟨by rfl, ?_⟩) ?_ ?_; rotate_left; (· intro w'; go_simp; with_reducible rfl); rotate_left; (· simp only [Act.put, sq]; rfl)
                refine pure_ (i := 13) (N := some 75) (v := ?_) (a' := ?_) #[T, T, F, F, T, T, F, T, T, F, T, T, F, T, F, F, F, F, F, F, F, F, F, F, F, F, F] rfl rfl (any_of HT_.out (by kernel_rfl)) (fun _ _ _ h => h) (Or.inl ⟨by rfl, ?_⟩) ?_ ?_; rotate_left; (· intro w'; go_simp; with_reducible rfl); rotate_left; (· simp only [Act.put, sq]; rfl)
                refine pure_ (i := 14) (N := some 76) (v := ?_) (a' := ?_) #[T, T, F, F, T, T, F, T, T, F, T, T, F, T, T, F, F, F, F, F, F, F, F, F, F, F, F] rfl rfl (any_of HT_.out (by kernel_rfl)) (fun _ _ _ h => h) (Or.inl ⟨by rfl, ?_⟩) ?_ ?_; rotate_left; (· intro w'; go_simp; with_reducible rfl); rotate_left; (· simp only [Act.put, sq]; rfl)
                refine pure_ (i := 16) (N := some 78) (v := ?_) (a' := ?_) #[T, T, F, F, T, T, F, T, T, F, T, T, F, T, T, F, T, F, F, F, F, F, F, F, F, F, F] rfl rfl (any_of HT_.out (by kernel_rfl)) (fun _ _ _ h => h) (Or.inl ⟨by rfl, ?_⟩) ?_ ?_; rotate_left; (· intro w'; go_simp; with_reducible rfl); rotate_left; (· simp only [Act.put, sq]; rfl)
                refine pure_ (i := 17) (N := some 79) (v := ?_) (a' := ?_) #[T, T, F, F, T, T, F, T, T, F, T, T, F, T, T, F, T, T, F, F, F, F, F, F, F, F, F] rfl rfl (any_of HT_.out (by kernel_rfl)) (fun _ _ _ h => h) (Or.inl ⟨by rfl, ?_⟩) ?_ ?_; rotate_left; (· intro w'; go_simp; with_reducible rfl); rotate_left; (· simp only [Act.put, sq]; rfl)
                refine pure_ (i := 19) (N := some 81) (v := ?_) (a' := ?_) #[T, T, F, F, T, T, F, T, T, F, T, T, F, T, T, F, T, T, F, T, F, F, F, F, F, F, F] rfl rfl (any_of HT_.out (by kernel_rfl)) (fun _ _ _ h => h) (Or.inl ⟨by rfl, ?_⟩) ?_ ?_; rotate_left; (· intro w'; go_simp; with_reducible rfl); rotate_left; (· simp only [Act.put, sq]; rfl)
                refine pure_ (i := 20) (N := some 82) (v := ?_) (a' := ?_) #[T, T, F, F, T, T, F, T, T, F, T, T, F, T, T, F, T, T, F, T, T, F, F, F, F, F, F] rfl rfl (any_of HT_.out (by kernel_rfl)) (fun _ _ _ h => h) (Or.inl ⟨by rfl, ?_⟩) ?_ ?_; rotate_left; (· intro w'; go_simp; with_reducible rfl); rotate_left; (· simp only [Act.put, sq]; rfl)
                refine pure_ (i := 23) (N := some 85) (v := ?_) (a' := ?_) #[T, T, F, F, T, T, F, T, T, F, T, T, F, T, T, F, T, T, F, T, T, F, F, T, F, F, F] rfl rfl (any_of HT_.out (by kernel_rfl)) (fun _ _ _ h => h) (Or.inl ⟨by rfl, ?_⟩) ?_ ?_; rotate_left; (· intro w'; go_simp; with_reducible rfl); rotate_left; (· simp only [Act.put, sq]; rfl)
                refine take_ (i := 2) (N := some 64) (v := ?_) (a' := ?_) #[T, T, T, F, T, T, F, T, T, F, T, T, F, T, T, F, T, T, F, T, T, F, F, T, F, F, F] rfl rfl (take_ofW HT_.out HW_.out (by kernel_rfl)) (fun _ _ _ h => h) (Or.inl ⟨by rfl, ?_⟩) hHeld ?_ ?_; rotate_left; (· rintro w' ⟨s0, s1, s2, s3, s4, s5, s6⟩; go_simp; with_reducible rfl); rotate_left; (· simp only [Act.put, sq]; rfl)
                refine pure_ (i := 3) (N := some 65) (v := ?_) (a' := ?_) #[T, T, T, T, T, T, F, T, T, F, T, T, F, T, T, F, T, T, F, T, T, F, F, T, F, F, F] rfl rfl (any_of HT_.out (by kernel_rfl)) (fun _ _ _ h => h) (Or.inl ⟨by rfl, ?_⟩) ?_ ?_; rotate_left; (· intro w'; go_simp; with_reducible rfl); rotate_left; (· simp only [Act.put, sq]; rfl)
                refine take_ (i := 6) (N := some 68) (v := ?_) (a' := ?_) #[T, T, T, T, T, T, T, T, T, F, T, T, F, T, T, F, T, T, F, T, T, F, F, T, F, F, F] rfl rfl (take_ofW HT_.out HW_.out (by kernel_rfl)) (fun _ _ _ h => h) (Or.inl ⟨by rfl, ?_⟩) hHeld ?_ ?_; rotate_left; (· rintro w' ⟨s0, s1, s2, s3, s4, s5, s6⟩; go_simp; with_reducible rfl); rotate_left; (· simp only [Act.put, sq]; rfl)
                refine take_ (i := 9) (N := some 71) (v := ?_) (a' := ?_) #[T, T, T, T, T, T, T, T, T, T, T, T, F, T, T, F, T, T, F, T, T, F, F, T, F, F, F] rfl rfl (take_ofW HT_.out HW_.out (by kernel_rfl)) (fun _ _ _ h => h) (Or.inl ⟨by rfl, ?_⟩) hHeld ?_ ?_; rotate_left; (· rintro w' ⟨s0, s1, s2, s3, s4, s5, s6⟩; go_simp; with_reducible rfl); rotate_left; (· simp only [Act.put, sq]; rfl)
                refine take_ (i := 12) (N := some 74) (v := ?_) (a' := ?_) #[T, T, T, T, T, T, T, T, T, T, T, T, T, T, T, F, T, T, F, T, T, F, F, T, F, F, F] rfl rfl (take_ofW HT_.out HW_.out (by kernel_rfl)) (fun _ _ _ h => h) (Or.inl ⟨by rfl, ?_⟩) hHeld ?_ ?_; rotate_left; (· rintro w' ⟨s0, s1, s2, s3, s4, s5, s6⟩; go_simp; with_reducible rfl); rotate_left; (· simp only [Act.put, sq]; rfl)
                refine take_ (i := 15) (N := some 77) (v := ?_) (a' := ?_) #[T, T, T, T, T, T, T, T, T, T, T, T, T, T, T, T, T, T, F, T, T, F, F, T, F, F, F] rfl rfl (take_ofW HT_.out HW_.out (by kernel_rfl)) (fun _ _ _ h => h) (Or.inl ⟨by rfl, ?_⟩) hHeld ?_ ?_; rotate_left; (· rintro w' ⟨s0, s1, s2, s3, s4, s5, s6⟩; go_simp; with_reducible rfl); rotate_left; (· simp only [Act.put, sq]; rfl)
                refine take_ (i := 18) (N := some 80) (v := ?_) (a' := ?_) #[T, T, T, T, T, T, T, T, T, T, T, T, T, T, T, T, T, T, T, T, T, F, F, T, F, F, F] rfl rfl (take_ofW HT_.out HW_.out (by kernel_rfl)) (fun _ _ _ h => h) (Or.inl ⟨by rfl, ?_⟩) hHeld ?_ ?_; rotate_left; (· rintro w' ⟨s0, s1, s2, s3, s4, s5, s6⟩; go_simp; with_reducible rfl); rotate_left; (· simp only [Act.put, sq]; rfl)
                refine take_ (i := 21) (N := some 83) (v := ?_) (a' := ?_) #[T, T, T, T, T, T, T, T, T, T, T, T, T, T, T, T, T, T, T, T, T, T, F, T, F, F, F] rfl rfl (take_ofW HT_.out HW_.out (by kernel_rfl)) (fun _ _ _ h => h) (Or.inl ⟨by rfl, ?_⟩) hHeld ?_ ?_; rotate_left; (· rintro w' ⟨s0, s1, s2, s3, s4, s5, s6⟩; go_simp; with_reducible rfl); rotate_left; (· simp only [Act.put, sq]; rfl)
                refine pure_ (i := 22) (N := some 84) (v := ?_) (a' := ?_) #[T, T, T, T, T, T, T, T, T, T, T, T, T, T, T, T, T, T, T, T, T, T, T, T, F, F, F] rfl rfl (any_of HT_.out (by kernel_rfl)) (fun _ _ _ h => h) (Or.inl ⟨by rfl, ?_⟩) ?_ ?_; rotate_left; (· intro w'; go_simp; with_reducible rfl); rotate_left; (· simp only [Act.put, sq]; rfl)
                refine pure_ (i := 24) (N := some 86) (v := ?_) (a' := ?_) #[T, T, T, T, T, T, T, T, T, T, T, T, T, T, T, T, T, T, T, T, T, T, T, T, T, F, F] rfl rfl (any_of HT_.out (by kernel_rfl)) (fun _ _ _ h => h) (Or.inl ⟨by rfl, ?_⟩) ?_ ?_; rotate_left; (· intro w'; go_simp; with_reducible rfl); rotate_left; (· simp only [Act.put, sq]; rfl)
                refine one_ (i := 25) (N := some 13) #[T, T, T, T, T, T, T, T, T, T, T, T, T, T, T, T, T, T, T, T, T, T, T, T, T, T, F] rfl rfl (one_of HT_.out (by kernel_rfl)) (by decide) (fun K hK => ?_)
                refine box_step ?hg (N := 13) ?hd (cs := #[.slice none 0 0, .bool false, .int .i64 0, .int .i64 0, .int .i64 0, .int .i64 0, .int .i64 0, .int .i64 0, .slice none 0 0]) (t := 63) ?hr ?_; (case hd => rfl); (case hg => rfl); (case hr => first | (go_simp; done) | (go_simp; rfl))
                intro gb424 hg w79 hbox hb
                have HS0_ := (hb.cell (World.block_lt_of_cell? _ _ (hHeld.1))).trans (hHeld.1)
                have HS1_ := (hb.cell (World.block_lt_of_cell? _ _ (hHeld.2.1))).trans (hHeld.2.1)
                have HS2_ := (hb.cell (World.block_lt_of_cell? _ _ (hHeld.2.2.1))).trans (hHeld.2.2.1)
                have HS3_ := (hb.cell (World.block_lt_of_cell? _ _ (hHeld.2.2.2.1))).trans (hHeld.2.2.2.1)
                have HS4_ := (hb.cell (World.block_lt_of_cell? _ _ (hHeld.2.2.2.2.1))).trans (hHeld.2.2.2.2.1)
                have HS5_ := (hb.cell (World.block_lt_of_cell? _ _ (hHeld.2.2.2.2.2.1))).trans (hHeld.2.2.2.2.2.1)
                have HS6_ := (hb.cell (World.block_lt_of_cell? _ _ (hHeld.2.2.2.2.2.2))).trans (hHeld.2.2.2.2.2.2)
                replace HO_4 := Rb HO_4 hb
                replace HO_10 := Rb HO_10 hb
                have BK424 := Aside0.mk (hbox)
                have GW424 := Aside0.mk ((by rw [hg]; exact (Lz HB) : w.heap.size ≤ gb424))
                have GE424 := Aside0.mk ((by rw [hg]; exact (Lz HB) : w.heap.size ≤ gb424))
                replace HB := Lb HB hb
                have NB403_424 := Aside0.mk ((by rw [hg]; exact Nat.ne_of_lt (blk_lt (g := gb403) (o := .cells #[.slice none 0 0, .bool x404001_1, .int .i64 x404002_1, .int .i64 x404003_1, .int .i64 x404004_1, .int .i64 x404005_1, .int .i64 x404006_1, .int .i64 x404007_1, .slice none 0 0] 63 (0, 0)) (Bs BK403.out)) : gb403 ≠ gb424))
                have NB424_403 := Aside0.mk ((by rw [hg]; exact Nat.ne_of_gt (blk_lt (g := gb403) (o := .cells #[.slice none 0 0, .bool x404001_1, .int .i64 x404002_1, .int .i64 x404003_1, .int .i64 x404004_1, .int .i64 x404005_1, .int .i64 x404006_1, .int .i64 x404007_1, .slice none 0 0] 63 (0, 0)) (Bs BK403.out)) : gb424 ≠ gb403))
                replace BK403 := Bb BK403 hb
                clear hb hbox hg
                refine hK.out _ _ ⟨HS0_, HS1_, HS2_, HS3_, HS4_, HS5_, HS6_⟩ (fun hHeld => ?_)
                clear hK K
                refine norm_ (a' := ?_) ?_ ?_; rotate_left; (· show Act.put _ (some 13) _ = _; simp only [Act.put, sq]; rfl)
                refine one_ (i := 26) (N := none) #[T, T, T, T, T, T, T, T, T, T, T, T, T, T, T, T, T, T, T, T, T, T, T, T, T, T, T] rfl rfl (one_of HT_.out (by kernel_rfl)) (by decide) (fun K hK => ?_)
                have hs80 : w79.cell? ⟨gb424, 0, none⟩ = some (.slice none 0 0) := (blk_cell BK424.out 0).trans rfl
                have hfs80 := blk_frozen BK424.out 0
                have hns80_0 := NB403_424.out
                have hms80_0 := NB424_403.out
                have hs81 : w79.cell? ⟨gb424, 1, none⟩ = some (.bool false) := (blk_cell BK424.out 1).trans rfl
                have hfs81 := blk_frozen BK424.out 1
                have hns81_0 := NB403_424.out
                have hms81_0 := NB424_403.out
                have hs82 : w79.cell? ⟨gb424, 2, none⟩ = some (.int .i64 0) := (blk_cell BK424.out 2).trans rfl
                have hfs82 := blk_frozen BK424.out 2
                have hns82_0 := NB403_424.out
                have hms82_0 := NB424_403.out
                have hs83 : w79.cell? ⟨gb424, 3, none⟩ = some (.int .i64 0) := (blk_cell BK424.out 3).trans rfl
                have hfs83 := blk_frozen BK424.out 3
                have hns83_0 := NB403_424.out
                have hms83_0 := NB424_403.out
                have hs84 : w79.cell? ⟨gb424, 4, none⟩ = some (.int .i64 0) := (blk_cell BK424.out 4).trans rfl
                have hfs84 := blk_frozen BK424.out 4
                have hns84_0 := NB403_424.out
                have hms84_0 := NB424_403.out
                have hs85 : w79.cell? ⟨gb424, 5, none⟩ = some (.int .i64 0) := (blk_cell BK424.out 5).trans rfl
                have hfs85 := blk_frozen BK424.out 5
                have hns85_0 := NB403_424.out
                have hms85_0 := NB424_403.out
                have hs86 : w79.cell? ⟨gb424, 6, none⟩ = some (.int .i64 0) := (blk_cell BK424.out 6).trans rfl
                have hfs86 := blk_frozen BK424.out 6
                have hns86_0 := NB403_424.out
                have hms86_0 := NB424_403.out
                have hs87 : w79.cell? ⟨gb424, 7, none⟩ = some (.int .i64 0) := (blk_cell BK424.out 7).trans rfl
                have hfs87 := blk_frozen BK424.out 7
                have hns87_0 := NB403_424.out
                have hms87_0 := NB424_403.out
                have hs88 : w79.cell? ⟨gb424, 8, none⟩ = some (.slice none 0 0) := (blk_cell BK424.out 8).trans rfl
                have hfs88 := blk_frozen BK424.out 8
                have hns88_0 := NB403_424.out
                have hms88_0 := NB424_403.out
                refine skip_ (w1 := ?_) (by rfl) rfl ?_ ?_
                rotate_left
                · go_simp
                  rfl
                have hne_ : ad417.block ≠ gb424 := Kd.own_blk (Kd.R_ne HO_4.out BK424.out (by decide))
                refine hK.out _ _ ⟨far9 hne_ hHeld.1, far9 hne_ hHeld.2.1, far9 hne_ hHeld.2.2.1, far9 hne_ hHeld.2.2.2.1, far9 hne_ hHeld.2.2.2.2.1, far9 hne_ hHeld.2.2.2.2.2.1, far9 hne_ hHeld.2.2.2.2.2.2⟩ (fun hHeld => ?_)
                clear hK K
                refine done_ (done_of HT_.out (by kernel_rfl)) ?_
                try go_wp2_with (first | ((with_reducible refine gate_callee (f := 45) rfl ?_); refine goesL_ (some 90) rfl rfl Try.func45 (by kernel_rfl) rfl #[.slice A0 l0.length c0, .int .i64 t411] rfl (by (try simp only [List.map_toArray, List.map_cons, List.map_nil]); first | done | rfl | (simp only [List.length_drop, List.length_take]; rfl)) ?_; (with_reducible refine (trommelref39_Count.calls kj11 _ _ l0 t411 t425 t426 false _ ?side1 ?side2 A28.out).mono ?_); (case side1 => exact Kd.C_below HR0.out (Ls HB)); (case side2 => exact HC0.out); rintro e w89 ⟨rfl, hb⟩; refine ⟨_, rfl, ?_⟩; have n0_ := Aside0.mk (Kd.R_below (Rs ((Kd.R_mono (Kd.R_far (p := ⟨gb424, 8, none⟩) (Kd.R_far (p := ⟨gb424, 7, none⟩) (Kd.R_far (p := ⟨gb424, 6, none⟩) (Kd.R_far (p := ⟨gb424, 5, none⟩) (Kd.R_far (p := ⟨gb424, 4, none⟩) (Kd.R_far (p := ⟨gb424, 3, none⟩) (Kd.R_far (p := ⟨gb424, 2, none⟩) (Kd.R_far (p := ⟨gb424, 1, none⟩) (Kd.R_far (p := ⟨gb424, 0, none⟩) (Kd.R_types HO_4.out BK424.out (by decide)) (fun _ hk => hk.2) (.slice none 0 0)) (fun _ hk => hk.2) (.bool ((rd x4_1 0) == 1))) (fun _ hk => hk.2) (.int .i64 (rd x4_1 1))) (fun _ hk => hk.2) (.int .i64 (rd x4_1 2))) (fun _ hk => hk.2) (.int .i64 (rd x4_1 3))) (fun _ hk => hk.2) (.int .i64 (rd x4_1 4))) (fun _ hk => hk.2) (.int .i64 (rd x4_1 5))) (fun _ hk => hk.2) (.int .i64 (rd x4_1 6))) (fun _ hk => hk.2) (.slice Ao78 t410.length co78)) (fun _ h_ => h_.1)))) hb); have n1_ := Aside0.mk (Kd.R_below (Rs ((Kd.R_mono (Kd.R_far (p := ⟨gb424, 8, none⟩) (Kd.R_far (p := ⟨gb424, 7, none⟩) (Kd.R_far (p := ⟨gb424, 6, none⟩) (Kd.R_far (p := ⟨gb424, 5, none⟩) (Kd.R_far (p := ⟨gb424, 4, none⟩) (Kd.R_far (p := ⟨gb424, 3, none⟩) (Kd.R_far (p := ⟨gb424, 2, none⟩) (Kd.R_far (p := ⟨gb424, 1, none⟩) (Kd.R_far (p := ⟨gb424, 0, none⟩) (Kd.R_types HO_10.out BK424.out (by decide)) (fun _ hk => hk.2) (.slice none 0 0)) (fun _ hk => hk.2) (.bool ((rd x4_1 0) == 1))) (fun _ hk => hk.2) (.int .i64 (rd x4_1 1))) (fun _ hk => hk.2) (.int .i64 (rd x4_1 2))) (fun _ hk => hk.2) (.int .i64 (rd x4_1 3))) (fun _ hk => hk.2) (.int .i64 (rd x4_1 4))) (fun _ hk => hk.2) (.int .i64 (rd x4_1 5))) (fun _ hk => hk.2) (.int .i64 (rd x4_1 6))) (fun _ hk => hk.2) (.slice Ao78 t410.length co78)) (fun _ h_ => h_.1)))) hb); have n2_ := Aside0.mk (blk_below (g := gb403) (o := .cells #[.slice none 0 0, .bool x404001_1, .int .i64 x404002_1, .int .i64 x404003_1, .int .i64 x404004_1, .int .i64 x404005_1, .int .i64 x404006_1, .int .i64 x404007_1, .slice none 0 0] 63 (0, 0)) (by (with_reducible repeat (first | refine blk_drewN ?_ _ | refine blk_drew ?_ | refine blk_alloc ?_ _)); refine blk_far ?_ NB403_424.out _; (with_reducible repeat (first | refine blk_drewN ?_ _ | refine blk_drew ?_ | refine blk_alloc ?_ _)); refine blk_far ?_ NB403_424.out _; (with_reducible repeat (first | refine blk_drewN ?_ _ | refine blk_drew ?_ | refine blk_alloc ?_ _)); refine blk_far ?_ NB403_424.out _; (with_reducible repeat (first | refine blk_drewN ?_ _ | refine blk_drew ?_ | refine blk_alloc ?_ _)); refine blk_far ?_ NB403_424.out _; (with_reducible repeat (first | refine blk_drewN ?_ _ | refine blk_drew ?_ | refine blk_alloc ?_ _)); refine blk_far ?_ NB403_424.out _; (with_reducible repeat (first | refine blk_drewN ?_ _ | refine blk_drew ?_ | refine blk_alloc ?_ _)); refine blk_far ?_ NB403_424.out _; (with_reducible repeat (first | refine blk_drewN ?_ _ | refine blk_drew ?_ | refine blk_alloc ?_ _)); refine blk_far ?_ NB403_424.out _; (with_reducible repeat (first | refine blk_drewN ?_ _ | refine blk_drew ?_ | refine blk_alloc ?_ _)); refine blk_far ?_ NB403_424.out _; (with_reducible repeat (first | refine blk_drewN ?_ _ | refine blk_drew ?_ | refine blk_alloc ?_ _)); refine blk_far ?_ NB403_424.out _; (with_reducible repeat (first | refine blk_drewN ?_ _ | refine blk_drew ?_ | refine blk_alloc ?_ _)); exact BK403.out) hb); have n3_ := Aside0.mk (blk_below (g := gb424) (o := .cells #[.slice none 0 0, .bool ((rd x4_1 0) == 1), .int .i64 (rd x4_1 1), .int .i64 (rd x4_1 2), .int .i64 (rd x4_1 3), .int .i64 (rd x4_1 4), .int .i64 (rd x4_1 5), .int .i64 (rd x4_1 6), .slice Ao78 t410.length co78] 63 (0, 0)) (by (with_reducible repeat (first | refine blk_drewN ?_ _ | refine blk_drew ?_ | refine blk_alloc ?_ _)); refine blk_put (cs := #[.slice none 0 0, .bool ((rd x4_1 0) == 1), .int .i64 (rd x4_1 1), .int .i64 (rd x4_1 2), .int .i64 (rd x4_1 3), .int .i64 (rd x4_1 4), .int .i64 (rd x4_1 5), .int .i64 (rd x4_1 6), .slice none 0 0]) ?_ 8 _ rfl; (with_reducible repeat (first | refine blk_drewN ?_ _ | refine blk_drew ?_ | refine blk_alloc ?_ _)); refine blk_put (cs := #[.slice none 0 0, .bool ((rd x4_1 0) == 1), .int .i64 (rd x4_1 1), .int .i64 (rd x4_1 2), .int .i64 (rd x4_1 3), .int .i64 (rd x4_1 4), .int .i64 (rd x4_1 5), .int .i64 0, .slice none 0 0]) ?_ 7 _ rfl; (with_reducible repeat (first | refine blk_drewN ?_ _ | refine blk_drew ?_ | refine blk_alloc ?_ _)); refine blk_put (cs := #[.slice none 0 0, .bool ((rd x4_1 0) == 1), .int .i64 (rd x4_1 1), .int .i64 (rd x4_1 2), .int .i64 (rd x4_1 3), .int .i64 (rd x4_1 4), .int .i64 0, .int .i64 0, .slice none 0 0]) ?_ 6 _ rfl; (with_reducible repeat (first | refine blk_drewN ?_ _ | refine blk_drew ?_ | refine blk_alloc ?_ _)); refine blk_put (cs := #[.slice none 0 0, .bool ((rd x4_1 0) == 1), .int .i64 (rd x4_1 1), .int .i64 (rd x4_1 2), .int .i64 (rd x4_1 3), .int .i64 0, .int .i64 0, .int .i64 0, .slice none 0 0]) ?_ 5 _ rfl; (with_reducible repeat (first | refine blk_drewN ?_ _ | refine blk_drew ?_ | refine blk_alloc ?_ _)); refine blk_put (cs := #[.slice none 0 0, .bool ((rd x4_1 0) == 1), .int .i64 (rd x4_1 1), .int .i64 (rd x4_1 2), .int .i64 0, .int .i64 0, .int .i64 0, .int .i64 0, .slice none 0 0]) ?_ 4 _ rfl; (with_reducible repeat (first | refine blk_drewN ?_ _ | refine blk_drew ?_ | refine blk_alloc ?_ _)); refine blk_put (cs := #[.slice none 0 0, .bool ((rd x4_1 0) == 1), .int .i64 (rd x4_1 1), .int .i64 0, .int .i64 0, .int .i64 0, .int .i64 0, .int .i64 0, .slice none 0 0]) ?_ 3 _ rfl; (with_reducible repeat (first | refine blk_drewN ?_ _ | refine blk_drew ?_ | refine blk_alloc ?_ _)); refine blk_put (cs := #[.slice none 0 0, .bool ((rd x4_1 0) == 1), .int .i64 0, .int .i64 0, .int .i64 0, .int .i64 0, .int .i64 0, .int .i64 0, .slice none 0 0]) ?_ 2 _ rfl; (with_reducible repeat (first | refine blk_drewN ?_ _ | refine blk_drew ?_ | refine blk_alloc ?_ _)); refine blk_put (cs := #[.slice none 0 0, .bool false, .int .i64 0, .int .i64 0, .int .i64 0, .int .i64 0, .int .i64 0, .int .i64 0, .slice none 0 0]) ?_ 1 _ rfl; (with_reducible repeat (first | refine blk_drewN ?_ _ | refine blk_drew ?_ | refine blk_alloc ?_ _)); refine blk_put (cs := #[.slice none 0 0, .bool false, .int .i64 0, .int .i64 0, .int .i64 0, .int .i64 0, .int .i64 0, .int .i64 0, .slice none 0 0]) ?_ 0 _ rfl; (with_reducible repeat (first | refine blk_drewN ?_ _ | refine blk_drew ?_ | refine blk_alloc ?_ _)); exact BK424.out) hb); have n4_ := Lb HB hb; clear HO_4 HO_10 BK403 BK424 HB; have HO_4 := n0_; have HO_10 := n1_; have BK403 := n2_; have BK424 := n3_; have HB := n4_; clear n0_ n1_ n2_ n3_ n4_; (try clear hb); (try clear hb2); (try clear hk); (try clear hi); have hnb90 := NB403_424.out; have hnc90 := NB424_403.out; have hcz91_0 : w89.cell? ⟨gb403, 0, none⟩ = some (.slice none 0 0) := (blk_cell BK403.out 0).trans rfl; have hcz91_1 : w89.cell? ⟨gb403, 1, none⟩ = some (.bool x404001_1) := (blk_cell BK403.out 1).trans rfl; have hcz91_2 : w89.cell? ⟨gb403, 2, none⟩ = some (.int .i64 x404002_1) := (blk_cell BK403.out 2).trans rfl; have hcz91_3 : w89.cell? ⟨gb403, 3, none⟩ = some (.int .i64 x404003_1) := (blk_cell BK403.out 3).trans rfl; have hcz91_4 : w89.cell? ⟨gb403, 4, none⟩ = some (.int .i64 x404004_1) := (blk_cell BK403.out 4).trans rfl; have hcz91_5 : w89.cell? ⟨gb403, 5, none⟩ = some (.int .i64 x404005_1) := (blk_cell BK403.out 5).trans rfl; have hcz91_6 : w89.cell? ⟨gb403, 6, none⟩ = some (.int .i64 x404006_1) := (blk_cell BK403.out 6).trans rfl; have hcz91_7 : w89.cell? ⟨gb403, 7, none⟩ = some (.int .i64 x404007_1) := (blk_cell BK403.out 7).trans rfl; have hcz91_8 : w89.cell? ⟨gb403, 8, none⟩ = some (.slice none 0 0) := (blk_cell BK403.out 8).trans rfl; have hfz91_0 := blk_frozen BK403.out 0; have hfz91_1 := blk_frozen BK403.out 1; have hfz91_2 := blk_frozen BK403.out 2; have hfz91_3 := blk_frozen BK403.out 3; have hfz91_4 := blk_frozen BK403.out 4; have hfz91_5 := blk_frozen BK403.out 5; have hfz91_6 := blk_frozen BK403.out 6; have hfz91_7 := blk_frozen BK403.out 7; have hfz91_8 := blk_frozen BK403.out 8))
                refine bodyPost_ret (results_ct rfl _ _ gb403 63 #[.slice none 0 0, .bool false, .int .i64 0, .int .i64 0, .int .i64 0, .int .i64 0, .int .i64 0, .int .i64 0, .slice none 0 0] (0, 0) _ rfl (by (with_reducible repeat (first | refine blk_drewN ?_ _ | refine blk_drew ?_ | refine blk_alloc ?_ _)); refine blk_put (cs := #[.slice none 0 0, .bool false, .int .i64 0, .int .i64 0, .int .i64 0, .int .i64 0, .int .i64 0, .int .i64 0, .slice none 0 0]) ?_ 8 _ rfl; (with_reducible repeat (first | refine blk_drewN ?_ _ | refine blk_drew ?_ | refine blk_alloc ?_ _)); refine blk_put (cs := #[.slice none 0 0, .bool false, .int .i64 0, .int .i64 0, .int .i64 0, .int .i64 0, .int .i64 0, .int .i64 x404007_1, .slice none 0 0]) ?_ 7 _ rfl; (with_reducible repeat (first | refine blk_drewN ?_ _ | refine blk_drew ?_ | refine blk_alloc ?_ _)); refine blk_put (cs := #[.slice none 0 0, .bool false, .int .i64 0, .int .i64 0, .int .i64 0, .int .i64 0, .int .i64 x404006_1, .int .i64 x404007_1, .slice none 0 0]) ?_ 6 _ rfl; (with_reducible repeat (first | refine blk_drewN ?_ _ | refine blk_drew ?_ | refine blk_alloc ?_ _)); refine blk_put (cs := #[.slice none 0 0, .bool false, .int .i64 0, .int .i64 0, .int .i64 0, .int .i64 x404005_1, .int .i64 x404006_1, .int .i64 x404007_1, .slice none 0 0]) ?_ 5 _ rfl; (with_reducible repeat (first | refine blk_drewN ?_ _ | refine blk_drew ?_ | refine blk_alloc ?_ _)); refine blk_put (cs := #[.slice none 0 0, .bool false, .int .i64 0, .int .i64 0, .int .i64 x404004_1, .int .i64 x404005_1, .int .i64 x404006_1, .int .i64 x404007_1, .slice none 0 0]) ?_ 4 _ rfl; (with_reducible repeat (first | refine blk_drewN ?_ _ | refine blk_drew ?_ | refine blk_alloc ?_ _)); refine blk_put (cs := #[.slice none 0 0, .bool false, .int .i64 0, .int .i64 x404003_1, .int .i64 x404004_1, .int .i64 x404005_1, .int .i64 x404006_1, .int .i64 x404007_1, .slice none 0 0]) ?_ 3 _ rfl; (with_reducible repeat (first | refine blk_drewN ?_ _ | refine blk_drew ?_ | refine blk_alloc ?_ _)); refine blk_put (cs := #[.slice none 0 0, .bool false, .int .i64 x404002_1, .int .i64 x404003_1, .int .i64 x404004_1, .int .i64 x404005_1, .int .i64 x404006_1, .int .i64 x404007_1, .slice none 0 0]) ?_ 2 _ rfl; (with_reducible repeat (first | refine blk_drewN ?_ _ | refine blk_drew ?_ | refine blk_alloc ?_ _)); refine blk_put (cs := #[.slice none 0 0, .bool x404001_1, .int .i64 x404002_1, .int .i64 x404003_1, .int .i64 x404004_1, .int .i64 x404005_1, .int .i64 x404006_1, .int .i64 x404007_1, .slice none 0 0]) ?_ 1 _ rfl; (with_reducible repeat (first | refine blk_drewN ?_ _ | refine blk_drew ?_ | refine blk_alloc ?_ _)); refine blk_put (cs := #[.slice none 0 0, .bool x404001_1, .int .i64 x404002_1, .int .i64 x404003_1, .int .i64 x404004_1, .int .i64 x404005_1, .int .i64 x404006_1, .int .i64 x404007_1, .slice none 0 0]) ?_ 0 _ rfl; (with_reducible repeat (first | refine blk_drewN ?_ _ | refine blk_drew ?_ | refine blk_alloc ?_ _)); exact BK403.out) Try.underlying63 rfl (by kernel_rfl)) rfl ?_
                exact ⟨_, _, by first | rfl | (simp [errW_none, errW_some] <;> rfl) | (simp [*, errW_none, errW_some] <;> rfl), by first | exact Kd.R_nil _ _ _ _ _ | exact Kd.N_nil _ _ _ _ _ | exact Kd.V_nil _ _ _ _ _ | exact Kd.Q_nil _ _ _ _ _ | exact Kd.S_nil _ _ _ _ _, by first | exact Kd.R_nil _ _ _ _ _ | exact Kd.N_nil _ _ _ _ _ | exact Kd.V_nil _ _ _ _ _ | exact Kd.Q_nil _ _ _ _ _ | exact Kd.S_nil _ _ _ _ _, by repeat (first | (with_reducible first | exact HB.out | apply below_alloc | apply pw_below_drewN | apply below_drew1 | refine below_set ?_ GE403.out | refine below_set ?_ GE424.out) | exact HB.out)⟩
end Go.Proofs.Ytobfhacdljmooaa.PCodeP
