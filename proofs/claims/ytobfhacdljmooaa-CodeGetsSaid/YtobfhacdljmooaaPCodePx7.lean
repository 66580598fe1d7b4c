-- written for this claim by wip/pr/hand.py (the kit's print, with contracts proved by hand)
import Derived.Test.YtobfhacdljmooaaPCodePx0
import Derived.Test.YtobfhacdljmooaaSq
import Derived.Test.YtobfhacdljmooaaPCodePx6
namespace Go.Proofs.Ytobfhacdljmooaa.PCodeP
open Go.RowKit Go.Proofs.YtobfhacdljmooaaW.PrintWords Go.Proofs.YtobfhacdljmooaaW.PrintLast Go.Proofs.YtobfhacdljmooaaW.PrintMore Go.Proofs.Ytobfhacdljmooaa.Sq
attribute [local go_sem] max2_int min2_int max_two min_two max_three min_three max_four min_four   -- for this text's walks alone
set_option linter.unusedVariables false
set_option linter.unusedSimpArgs false

/-! ### trommelref39_Bytes: function 37 -/
mutual
def trommelref39_Bytes.j0 : Nat → List Int → List (S87) → Bool → Int → Int → Int → Int → Int → Int → List Int → Option (List Int)
  | 0, _, _, _, _, _, _, _, _, _, _ => none
  | k + 1, x3, x244000, x244001, x244002, x244003, x244004, x244005, x244006, x244007, x244008 => trommelref39_Bytes.l0 k x3 (([x244002, x244003, x244004, x244005, x244006, x244007] : List Int)) 0 x244000 x244001 x244002 x244003 x244004 x244005 x244006 x244007 x244008
def trommelref39_Bytes.l0 : Nat → List Int → List Int → Int → List (S87) → Bool → Int → Int → Int → Int → Int → Int → List Int → Option (List Int)
  | 0, _, _, _, _, _, _, _, _, _, _, _, _ => none
  | k + 1, x3, x4, x5, x244000, x244001, x244002, x244003, x244004, x244005, x244006, x244007, x244008 => if x5 < (x4.length : Int) then (if 0 ≤ x5 then ((trommelref39_Int.f (rd x4 x5)).bind fun t254 => (if x3.length + t254.length < 140737488355328 then (trommelref39_Bytes.l0 k (x3 ++ t254) x4 (wrap64 (x5 + 1)) x244000 x244001 x244002 x244003 x244004 x244005 x244006 x244007 x244008) else (none))) else (none)) else ((trommelref39_Ints.f k x244008).bind fun t260 => (if x3.length + t260.length < 140737488355328 then ((some (x3 ++ t260 : List Int)).bind fun y263 => ((trommelref39_Int.f (x244000.length : Int)).bind fun t266 => (if y263.length + t266.length < 140737488355328 then (trommelref39_Bytes.l1 k (y263 ++ t266) 0 x244000 x244001 x244002 x244003 x244004 x244005 x244006 x244007 x244008) else (none)))) else (none)))
def trommelref39_Bytes.l1 : Nat → List Int → Int → List (S87) → Bool → Int → Int → Int → Int → Int → Int → List Int → Option (List Int)
  | 0, _, _, _, _, _, _, _, _, _, _, _ => none
  | k + 1, x3, x6, x244000, x244001, x244002, x244003, x244004, x244005, x244006, x244007, x244008 => if x6 < (x244000.length : Int) then (if 0 ≤ x6 then ((trommelref39_Int.f ((rd_T87 x244000 x6).f0)).bind fun t274 => (if x3.length + t274.length < 140737488355328 then ((some (x3 ++ t274 : List Int)).bind fun y277 => ((trommelref39_Int.f (((rd_T87 x244000 x6).f1).length : Int)).bind fun t280 => (if y277.length + t280.length < 140737488355328 then (trommelref39_Bytes.l2 k (y277 ++ t280) x6 0 x244000 x244001 x244002 x244003 x244004 x244005 x244006 x244007 x244008 ((rd_T87 x244000 x6).f0) ((rd_T87 x244000 x6).f1)) else (none)))) else (none))) else (none)) else (some x3)
def trommelref39_Bytes.l2 : Nat → List Int → Int → Int → List (S87) → Bool → Int → Int → Int → Int → Int → Int → List Int → Int → List (S89) → Option (List Int)
  | 0, _, _, _, _, _, _, _, _, _, _, _, _, _, _ => none
  | k + 1, x3, x6, x8, x244000, x244001, x244002, x244003, x244004, x244005, x244006, x244007, x244008, x274000, x274001 => if x8 < (x274001.length : Int) then (if 0 ≤ x8 then ((trommelref39_Int.f ((rd_T89 x274001 x8).f0)).bind fun t287 => (if x3.length + t287.length < 140737488355328 then ((some (x3 ++ t287 : List Int)).bind fun y290 => ((trommelref39_Int.f ((rd_T89 x274001 x8).f1)).bind fun t294 => (if y290.length + t294.length < 140737488355328 then ((some (y290 ++ t294 : List Int)).bind fun y297 => ((trommelref39_Ints.f k ((rd_T89 x274001 x8).f2)).bind fun t301 => (if y297.length + t301.length < 140737488355328 then (trommelref39_Bytes.l2 k (y297 ++ t301) x6 (wrap64 (x8 + 1)) x244000 x244001 x244002 x244003 x244004 x244005 x244006 x244007 x244008 x274000 x274001) else (none)))) else (none)))) else (none))) else (none)) else (trommelref39_Bytes.l1 k x3 (wrap64 (x6 + 1)) x244000 x244001 x244002 x244003 x244004 x244005 x244006 x244007 x244008)
end
def trommelref39_Bytes.f (k : Nat) (l0_0 : List (S87)) (a0_1 : Bool) (a0_2 : Int) (a0_3 : Int) (a0_4 : Int) (a0_5 : Int) (a0_6 : Int) (a0_7 : Int) (l0_8 : List Int) : Option (List Int) := (trommelref39_Int.f 0).bind fun t244 => (if a0_1 = true then ((trommelref39_Int.f 1).bind fun t247 => (trommelref39_Bytes.j0 k t247 l0_0 a0_1 a0_2 a0_3 a0_4 a0_5 a0_6 a0_7 l0_8)) else (trommelref39_Bytes.j0 k t244 l0_0 a0_1 a0_2 a0_3 a0_4 a0_5 a0_6 a0_7 l0_8))
theorem trommelref39_Bytes.mono_l : ∀ k, (∀ y0 y1 y2 y3 y4 y5 y6 y7 y8 y9, LeO (trommelref39_Bytes.j0 k y0 y1 y2 y3 y4 y5 y6 y7 y8 y9) (trommelref39_Bytes.j0 (k + 1) y0 y1 y2 y3 y4 y5 y6 y7 y8 y9)) ∧ (∀ y0 y1 y2 y3 y4 y5 y6 y7 y8 y9 y10 y11, LeO (trommelref39_Bytes.l0 k y0 y1 y2 y3 y4 y5 y6 y7 y8 y9 y10 y11) (trommelref39_Bytes.l0 (k + 1) y0 y1 y2 y3 y4 y5 y6 y7 y8 y9 y10 y11)) ∧ (∀ y0 y1 y2 y3 y4 y5 y6 y7 y8 y9 y10, LeO (trommelref39_Bytes.l1 k y0 y1 y2 y3 y4 y5 y6 y7 y8 y9 y10) (trommelref39_Bytes.l1 (k + 1) y0 y1 y2 y3 y4 y5 y6 y7 y8 y9 y10)) ∧ (∀ y0 y1 y2 y3 y4 y5 y6 y7 y8 y9 y10 y11 y12 y13, LeO (trommelref39_Bytes.l2 k y0 y1 y2 y3 y4 y5 y6 y7 y8 y9 y10 y11 y12 y13) (trommelref39_Bytes.l2 (k + 1) y0 y1 y2 y3 y4 y5 y6 y7 y8 y9 y10 y11 y12 y13))
  | 0 => ⟨fun _ _ _ _ _ _ _ _ _ _ r h => by simp [trommelref39_Bytes.j0] at h, fun _ _ _ _ _ _ _ _ _ _ _ _ r h => by simp [trommelref39_Bytes.l0] at h, fun _ _ _ _ _ _ _ _ _ _ _ r h => by simp [trommelref39_Bytes.l1] at h, fun _ _ _ _ _ _ _ _ _ _ _ _ _ _ r h => by simp [trommelref39_Bytes.l2] at h⟩
  | k + 1 => by
    obtain ⟨ih0, ih1, ih2, ih3⟩ := trommelref39_Bytes.mono_l k
    refine ⟨?_, ?_, ?_, ?_⟩
    · intro y0 y1 y2 y3 y4 y5 y6 y7 y8 y9
      unfold trommelref39_Bytes.j0
      repeat' first
      | (with_reducible exact ih0 _ _ _ _ _ _ _ _ _ _)
      | (with_reducible exact ih1 _ _ _ _ _ _ _ _ _ _ _ _)
      | (with_reducible exact ih2 _ _ _ _ _ _ _ _ _ _ _)
      | (with_reducible exact ih3 _ _ _ _ _ _ _ _ _ _ _ _ _ _)
      | (with_reducible exact trommelref39_Ints.mono _ _)
      | (with_reducible exact LeO.refl _)
      | (with_reducible exact LeO.none _)
      | (with_reducible refine LeO.ite ?_ ?_)
      | (with_reducible refine LeO.bind ?_ (fun _ => ?_))
      | exact ih0 _ _ _ _ _ _ _ _ _ _
      | exact ih1 _ _ _ _ _ _ _ _ _ _ _ _
      | exact ih2 _ _ _ _ _ _ _ _ _ _ _
      | exact ih3 _ _ _ _ _ _ _ _ _ _ _ _ _ _
      | exact trommelref39_Ints.mono _ _
      | exact LeO.none _
      | refine LeO.ite ?_ ?_
      | refine LeO.bind ?_ (fun _ => ?_)
    · intro y0 y1 y2 y3 y4 y5 y6 y7 y8 y9 y10 y11
      unfold trommelref39_Bytes.l0
      repeat' first
      | (with_reducible exact ih0 _ _ _ _ _ _ _ _ _ _)
      | (with_reducible exact ih1 _ _ _ _ _ _ _ _ _ _ _ _)
      | (with_reducible exact ih2 _ _ _ _ _ _ _ _ _ _ _)
      | (with_reducible exact ih3 _ _ _ _ _ _ _ _ _ _ _ _ _ _)
      | (with_reducible exact trommelref39_Ints.mono _ _)
      | (with_reducible exact LeO.refl _)
      | (with_reducible exact LeO.none _)
      | (with_reducible refine LeO.ite ?_ ?_)
      | (with_reducible refine LeO.bind ?_ (fun _ => ?_))
      | exact ih0 _ _ _ _ _ _ _ _ _ _
      | exact ih1 _ _ _ _ _ _ _ _ _ _ _ _
      | exact ih2 _ _ _ _ _ _ _ _ _ _ _
      | exact ih3 _ _ _ _ _ _ _ _ _ _ _ _ _ _
      | exact trommelref39_Ints.mono _ _
      | exact LeO.none _
      | refine LeO.ite ?_ ?_
      | refine LeO.bind ?_ (fun _ => ?_)
    · intro y0 y1 y2 y3 y4 y5 y6 y7 y8 y9 y10
      unfold trommelref39_Bytes.l1
      repeat' first
      | (with_reducible exact ih0 _ _ _ _ _ _ _ _ _ _)
      | (with_reducible exact ih1 _ _ _ _ _ _ _ _ _ _ _ _)
      | (with_reducible exact ih2 _ _ _ _ _ _ _ _ _ _ _)
      | (with_reducible exact ih3 _ _ _ _ _ _ _ _ _ _ _ _ _ _)
      | (with_reducible exact trommelref39_Ints.mono _ _)
      | (with_reducible exact LeO.refl _)
      | (with_reducible exact LeO.none _)
      | (with_reducible refine LeO.ite ?_ ?_)
      | (with_reducible refine LeO.bind ?_ (fun _ => ?_))
      | exact ih0 _ _ _ _ _ _ _ _ _ _
      | exact ih1 _ _ _ _ _ _ _ _ _ _ _ _
      | exact ih2 _ _ _ _ _ _ _ _ _ _ _
      | exact ih3 _ _ _ _ _ _ _ _ _ _ _ _ _ _
      | exact trommelref39_Ints.mono _ _
      | exact LeO.none _
      | refine LeO.ite ?_ ?_
      | refine LeO.bind ?_ (fun _ => ?_)
    · intro y0 y1 y2 y3 y4 y5 y6 y7 y8 y9 y10 y11 y12 y13
      unfold trommelref39_Bytes.l2
      repeat' first
      | (with_reducible exact ih0 _ _ _ _ _ _ _ _ _ _)
      | (with_reducible exact ih1 _ _ _ _ _ _ _ _ _ _ _ _)
      | (with_reducible exact ih2 _ _ _ _ _ _ _ _ _ _ _)
      | (with_reducible exact ih3 _ _ _ _ _ _ _ _ _ _ _ _ _ _)
      | (with_reducible exact trommelref39_Ints.mono _ _)
      | (with_reducible exact LeO.refl _)
      | (with_reducible exact LeO.none _)
      | (with_reducible refine LeO.ite ?_ ?_)
      | (with_reducible refine LeO.bind ?_ (fun _ => ?_))
      | exact ih0 _ _ _ _ _ _ _ _ _ _
      | exact ih1 _ _ _ _ _ _ _ _ _ _ _ _
      | exact ih2 _ _ _ _ _ _ _ _ _ _ _
      | exact ih3 _ _ _ _ _ _ _ _ _ _ _ _ _ _
      | exact trommelref39_Ints.mono _ _
      | exact LeO.none _
      | refine LeO.ite ?_ ?_
      | refine LeO.bind ?_ (fun _ => ?_)
theorem trommelref39_Bytes.mono : ∀ a0 a1 a2 a3 a4 a5 a6 a7 a8 k, LeO (trommelref39_Bytes.f k a0 a1 a2 a3 a4 a5 a6 a7 a8) (trommelref39_Bytes.f (k + 1) a0 a1 a2 a3 a4 a5 a6 a7 a8) := by
  intro a0 a1 a2 a3 a4 a5 a6 a7 a8 k
  obtain ⟨ih0, ih1, ih2, ih3⟩ := trommelref39_Bytes.mono_l k
  unfold trommelref39_Bytes.f
  repeat' first
      | (with_reducible exact ih0 _ _ _ _ _ _ _ _ _ _)
      | (with_reducible exact ih1 _ _ _ _ _ _ _ _ _ _ _ _)
      | (with_reducible exact ih2 _ _ _ _ _ _ _ _ _ _ _)
      | (with_reducible exact ih3 _ _ _ _ _ _ _ _ _ _ _ _ _ _)
      | (with_reducible exact trommelref39_Ints.mono _ _)
      | (with_reducible exact LeO.refl _)
      | (with_reducible exact LeO.none _)
      | (with_reducible refine LeO.ite ?_ ?_)
      | (with_reducible refine LeO.bind ?_ (fun _ => ?_))
      | exact ih0 _ _ _ _ _ _ _ _ _ _
      | exact ih1 _ _ _ _ _ _ _ _ _ _ _ _
      | exact ih2 _ _ _ _ _ _ _ _ _ _ _
      | exact ih3 _ _ _ _ _ _ _ _ _ _ _ _ _ _
      | exact trommelref39_Ints.mono _ _
      | exact LeO.none _
      | refine LeO.ite ?_ ?_
      | refine LeO.bind ?_ (fun _ => ?_)
set_option maxHeartbeats 8000000 in
set_option maxRecDepth 100000 in
theorem trommelref39_Bytes.calls (k : Nat) (A0_0 : Option Addr) (c0_0 : Nat) (l0_0 : List (S87)) (a0_1 : Bool) (a0_2 : Int) (a0_3 : Int) (a0_4 : Int) (a0_5 : Int) (a0_6 : Int) (a0_7 : Int) (A0_8 : Option Addr) (c0_8 : Nat) (l0_8 : List Int) (r : List Int) (w : World) (hr0_0 : Kd.C k87 w A0_0 l0_0.length l0_0) (hc0_0 : l0_0.length ≤ c0_0) (hr0_8 : Kd.C (Kd.int .i64) w A0_8 l0_8.length l0_8) (hc0_8 : l0_8.length ≤ c0_8) (h : trommelref39_Bytes.f k l0_0 a0_1 a0_2 a0_3 a0_4 a0_5 a0_6 a0_7 l0_8 = some r) :
    Calls Try.prog 37 #[.agg #[.slice A0_0 l0_0.length c0_0, .bool a0_1, .int .i64 a0_2, .int .i64 a0_3, .int .i64 a0_4, .int .i64 a0_5, .int .i64 a0_6, .int .i64 a0_7, .slice A0_8 l0_8.length c0_8]] w fun e w' => ∃ v0_ : Value, e = .returned (v0_) ∧ Kd.R (Kd.int .u8) 5 w' w.heap.size (fun _ => True) v0_ r ∧ Below w.heap.size w w' := by
  have hu63 := Try.underlying63
  have hu87 := Try.underlying87
  have HR0_0 := Aside0.mk hr0_0
  have HC0_0 := Aside0.mk hc0_0
  clear hr0_0 hc0_0
  have HR0_8 := Aside0.mk hr0_8
  have HC0_8 := Aside0.mk hc0_8
  clear hr0_8 hc0_8
  have HB := Aside0.mk (Below.refl w.heap.size w)
  have H : ((trommelref39_Int.f 0).bind fun t244 => (if a0_1 = true then ((trommelref39_Int.f 1).bind fun t247 => (trommelref39_Bytes.j0 k t247 l0_0 a0_1 a0_2 a0_3 a0_4 a0_5 a0_6 a0_7 l0_8)) else (trommelref39_Bytes.j0 k t244 l0_0 a0_1 a0_2 a0_3 a0_4 a0_5 a0_6 a0_7 l0_8))) = some r := h
  clear h
  replace H := Option.bind_eq_some_iff.mp H
  obtain ⟨t244, A20, H⟩ := H
  replace H : (if a0_1 = true then ((trommelref39_Int.f 1).bind fun t247 => (trommelref39_Bytes.j0 k t247 l0_0 a0_1 a0_2 a0_3 a0_4 a0_5 a0_6 a0_7 l0_8)) else (trommelref39_Bytes.j0 k t244 l0_0 a0_1 a0_2 a0_3 a0_4 a0_5 a0_6 a0_7 l0_8)) = some r := H
  have A2 := Aside0.mk A20
  clear A20
  have HC3 := Aside0.mk H
  clear H
  go_enter Try.func37, Try.ntmps37
  go_upto_if 11 with (first | ((with_reducible refine gate_dst (N := 1) rfl ?_); refine box_event ?hg (N := 1) ?hd (cs := #[.slice A0_0 l0_0.length c0_0, .bool a0_1, .int .i64 a0_2, .int .i64 a0_3, .int .i64 a0_4, .int .i64 a0_5, .int .i64 a0_6, .int .i64 a0_7, .slice A0_8 l0_8.length c0_8]) (t := 63) ?hr ?_; (case hd => rfl); (case hg => rfl); (case hr => first | (go_simp; done) | (go_simp; rfl)); intro gb243 hg w4 hbox hb; have n0_ := Lb HB hb; have n1_ := Aside0.mk (hbox); have n2_ := Aside0.mk ((by rw [hg]; exact (Lz HB) : w.heap.size ≤ gb243)); have n3_ := Aside0.mk ((by rw [hg]; exact (Lz HB) : w.heap.size ≤ gb243)); clear HB; have HB := n0_; have BK243 := n1_; have GW243 := n2_; have GE243 := n3_; clear n0_ n1_ n2_ n3_; clear hb hbox hg) | ((with_reducible refine gate_callee (f := 19) rfl ?_); refine goesL_ (some 9) rfl rfl Try.func19 (by kernel_rfl) rfl #[.int .i64 0] rfl (by (try simp only [List.map_toArray, List.map_cons, List.map_nil]); first | done | rfl | (simp only [List.length_drop, List.length_take]; rfl)) ?_; (with_reducible refine (trommelref39_Int.calls 0 t244 _ A2.out).mono ?_); rintro e w5 ⟨v245, rfl, ho0, hb⟩; refine ⟨_, rfl, ?_⟩; have n0_ := Aside0.mk (Kd.R_lower ho0 (Lz HB)); have n1_ := Bb BK243 hb; have n2_ := Lb HB hb; clear BK243 HB; have HO246 := n0_; have BK243 := n1_; have HB := n2_; clear n0_ n1_ n2_; (try clear hb); (try clear hb2); (try clear hk); (try clear hi); (try clear ho0); have hcz6_0 : w5.cell? ⟨gb243, 0, none⟩ = some (.slice A0_0 l0_0.length c0_0) := (blk_cell BK243.out 0).trans rfl; have hcz6_1 : w5.cell? ⟨gb243, 1, none⟩ = some (.bool a0_1) := (blk_cell BK243.out 1).trans rfl; have hcz6_2 : w5.cell? ⟨gb243, 2, none⟩ = some (.int .i64 a0_2) := (blk_cell BK243.out 2).trans rfl; have hcz6_3 : w5.cell? ⟨gb243, 3, none⟩ = some (.int .i64 a0_3) := (blk_cell BK243.out 3).trans rfl; have hcz6_4 : w5.cell? ⟨gb243, 4, none⟩ = some (.int .i64 a0_4) := (blk_cell BK243.out 4).trans rfl; have hcz6_5 : w5.cell? ⟨gb243, 5, none⟩ = some (.int .i64 a0_5) := (blk_cell BK243.out 5).trans rfl; have hcz6_6 : w5.cell? ⟨gb243, 6, none⟩ = some (.int .i64 a0_6) := (blk_cell BK243.out 6).trans rfl; have hcz6_7 : w5.cell? ⟨gb243, 7, none⟩ = some (.int .i64 a0_7) := (blk_cell BK243.out 7).trans rfl; have hcz6_8 : w5.cell? ⟨gb243, 8, none⟩ = some (.slice A0_8 l0_8.length c0_8) := (blk_cell BK243.out 8).trans rfl; have hfz6_0 := blk_frozen BK243.out 0; have hfz6_1 := blk_frozen BK243.out 1; have hfz6_2 := blk_frozen BK243.out 2; have hfz6_3 := blk_frozen BK243.out 3; have hfz6_4 := blk_frozen BK243.out 4; have hfz6_5 := blk_frozen BK243.out 5; have hfz6_6 := blk_frozen BK243.out 6; have hfz6_7 := blk_frozen BK243.out 7; have hfz6_8 := blk_frozen BK243.out 8))
  (try simp only [Act.put, List.setIfInBounds_toArray, List.set_cons_zero, List.set_cons_succ])
  go_cut [3] (fun v3 wc => ∃ (kq : Nat) (x3_2 : List Int), Aside0 (trommelref39_Bytes.j0 kq x3_2 l0_0 a0_1 a0_2 a0_3 a0_4 a0_5 a0_6 a0_7 l0_8 = some r) ∧ Aside0 (kq ≤ k) ∧ Aside0 (Kd.R (Kd.int .u8) 5 wc w.heap.size (fun _ => True) v3 x3_2) ∧ Aside0 (wc.heap[gb243]? = some (.cells #[(.slice A0_0 l0_0.length c0_0), .bool a0_1, .int .i64 a0_2, .int .i64 a0_3, .int .i64 a0_4, .int .i64 a0_5, .int .i64 a0_6, .int .i64 a0_7, (.slice A0_8 l0_8.length c0_8)] 63 (0, 0))) ∧ Aside0 (Below w.heap.size w wc))
  case first =>
    have H := HC3.out
    clear HC3
    by_cases c7 : a0_1 = true
    · subst c7
      have H1 : ((trommelref39_Int.f 1).bind fun t247 => (trommelref39_Bytes.j0 k t247 l0_0 true a0_2 a0_3 a0_4 a0_5 a0_6 a0_7 l0_8)) = some r := by rw [if_pos rfl] at H; exact H
      clear H
      have H := H1
      clear H1
      replace H := Option.bind_eq_some_iff.mp H
      obtain ⟨t247, A80, H⟩ := H
      replace H : (trommelref39_Bytes.j0 k t247 l0_0 true a0_2 a0_3 a0_4 a0_5 a0_6 a0_7 l0_8) = some r := H
      have A8 := Aside0.mk A80
      clear A80
      have H' := Aside0.mk H
      clear H
      go_wp2_with (first | ((with_reducible refine gate_callee (f := 19) rfl ?_); refine goesL_ (some 12) rfl rfl Try.func19 (by kernel_rfl) rfl #[.int .i64 1] rfl (by (try simp only [List.map_toArray, List.map_cons, List.map_nil]); first | done | rfl | (simp only [List.length_drop, List.length_take]; rfl)) ?_; (with_reducible refine (trommelref39_Int.calls 1 t247 _ A8.out).mono ?_); rintro e w9 ⟨v248, rfl, ho0, hb⟩; refine ⟨_, rfl, ?_⟩; have n0_ := Aside0.mk (Kd.R_elder' (Rs HO246.out) (Kd.R_base ho0) hb); have n1_ := Aside0.mk (Kd.R_lower (Kd.R_new' ho0 (Kd.R_lt (Rs HO246.out))) (Lz HB)); have n2_ := Bb BK243 hb; have n3_ := Lb HB hb; clear HO246 BK243 HB; have HO246 := n0_; have HO249 := n1_; have BK243 := n2_; have HB := n3_; clear n0_ n1_ n2_ n3_; (try clear hb); (try clear hb2); (try clear hk); (try clear hi); (try clear ho0)))
      go_meet
      case rel => exact ⟨_, (t247), H', ⟨by first | omega | exact Nat.le_refl _⟩, ⟨by (with_reducible repeat (first | apply Kd.R_alloc | apply Kd.R_drewN | apply Kd.R_drew)); exact Kd.R_mono HO249.out (fun _ hk => trivial)⟩, ⟨Bs BK243.out⟩, ⟨Ls HB⟩⟩
    · replace c7 := Bool.eq_false_iff.mpr c7
      subst c7
      have H1 : (trommelref39_Bytes.j0 k t244 l0_0 false a0_2 a0_3 a0_4 a0_5 a0_6 a0_7 l0_8) = some r := by rw [if_neg (show ¬ (false = true) by decide)] at H; exact H
      clear H
      have H := H1
      clear H1
      have H' := Aside0.mk H
      clear H
      go_wp2
      go_meet
      case rel => exact ⟨_, (t244), H', ⟨by first | omega | exact Nat.le_refl _⟩, ⟨Rs HO246.out⟩, ⟨Bs BK243.out⟩, ⟨Ls HB⟩⟩
  case rest =>
    clear HC3
    try clear c1; try clear p2; try clear c3; try clear c7; try clear hcz6_0; try clear hcz6_1; try clear hcz6_2; try clear hcz6_3; try clear hcz6_4; try clear hcz6_5; try clear hcz6_6; try clear hcz6_7; try clear hcz6_8; try clear hfz6_0; try clear hfz6_1; try clear hfz6_2; try clear hfz6_3; try clear hfz6_4; try clear hfz6_5; try clear hfz6_6; try clear hfz6_7; try clear hfz6_8
    obtain ⟨kq, x3_2, HA, HJ2, HO_3, BK243, HB⟩ := hcut
    cases kq with
    | zero => exact absurd HA.out (by simp [trommelref39_Bytes.j0])
    | succ kj2 =>
      have H := HA.out
      clear HA
      simp only [trommelref39_Bytes.j0] at H
      obtain ⟨y250, hy250⟩ : ∃ y_ : List Int, y_ = (([a0_2, a0_3, a0_4, a0_5, a0_6, a0_7] : List Int)) := ⟨_, rfl⟩
      replace H : (trommelref39_Bytes.l0 kj2 x3_2 y250 0 l0_0 a0_1 a0_2 a0_3 a0_4 a0_5 a0_6 a0_7 l0_8) = some r := by first | (rw [hy250]; with_reducible exact H) | (have H2_ := (Option.bind_some _ _).symm.trans H; rw [hy250]; with_reducible exact H2_) | (have H2_ := (Option.bind_some _ _).symm.trans H; with_reducible exact H2_) | with_reducible exact H | (rw [hy250]; exact H) | exact H
      have Ny250 := Aside0.mk hy250
      clear hy250
      have H' := Aside0.mk H
      clear H
      have hcz10_0 : wc.cell? ⟨gb243, 0, none⟩ = some (.slice A0_0 l0_0.length c0_0) := (blk_cell BK243.out 0).trans rfl
      have hcz10_1 : wc.cell? ⟨gb243, 1, none⟩ = some (.bool a0_1) := (blk_cell BK243.out 1).trans rfl
      have hcz10_2 : wc.cell? ⟨gb243, 2, none⟩ = some (.int .i64 a0_2) := (blk_cell BK243.out 2).trans rfl
      have hcz10_3 : wc.cell? ⟨gb243, 3, none⟩ = some (.int .i64 a0_3) := (blk_cell BK243.out 3).trans rfl
      have hcz10_4 : wc.cell? ⟨gb243, 4, none⟩ = some (.int .i64 a0_4) := (blk_cell BK243.out 4).trans rfl
      have hcz10_5 : wc.cell? ⟨gb243, 5, none⟩ = some (.int .i64 a0_5) := (blk_cell BK243.out 5).trans rfl
      have hcz10_6 : wc.cell? ⟨gb243, 6, none⟩ = some (.int .i64 a0_6) := (blk_cell BK243.out 6).trans rfl
      have hcz10_7 : wc.cell? ⟨gb243, 7, none⟩ = some (.int .i64 a0_7) := (blk_cell BK243.out 7).trans rfl
      have hcz10_8 : wc.cell? ⟨gb243, 8, none⟩ = some (.slice A0_8 l0_8.length c0_8) := (blk_cell BK243.out 8).trans rfl
      have hfz10_0 := blk_frozen BK243.out 0
      have hfz10_1 := blk_frozen BK243.out 1
      have hfz10_2 := blk_frozen BK243.out 2
      have hfz10_3 := blk_frozen BK243.out 3
      have hfz10_4 := blk_frozen BK243.out 4
      have hfz10_5 := blk_frozen BK243.out 5
      have hfz10_6 := blk_frozen BK243.out 6
      have hfz10_7 := blk_frozen BK243.out 7
      have hfz10_8 := blk_frozen BK243.out 8
      go_wp2_with (first | ((with_reducible refine gate_dst (N := 31) rfl ?_); refine Kd.R_lit (Kd.int .i64) _ 3 ?hg (N := 31) ?hd (xs := ([a0_2, a0_3, a0_4, a0_5, a0_6, a0_7] : List Int)) (inner := [.int .i64 a0_2, .int .i64 a0_3, .int .i64 a0_4, .int .i64 a0_5, .int .i64 a0_6, .int .i64 a0_7]) (ok := fun _ => True) (okp := fun _ => True) ?hr ?hp (fun _ hk => hk) trivial (Below.refl _ _) (Nat.le_refl _) (by simp) ?_; (case hd => rfl); (case hg => rfl); (case hr => first | (go_simp; done) | (go_simp; rfl)); (case hp => exact (Reps.one (show Kd.M (Kd.int .i64) _ _ _ a0_2 [.int .i64 a0_2] from rfl) (Reps.one (show Kd.M (Kd.int .i64) _ _ _ a0_3 [.int .i64 a0_3] from rfl) (Reps.one (show Kd.M (Kd.int .i64) _ _ _ a0_4 [.int .i64 a0_4] from rfl) (Reps.one (show Kd.M (Kd.int .i64) _ _ _ a0_5 [.int .i64 a0_5] from rfl) (Reps.one (show Kd.M (Kd.int .i64) _ _ _ a0_6 [.int .i64 a0_6] from rfl) (Reps.one (show Kd.M (Kd.int .i64) _ _ _ a0_7 [.int .i64 a0_7] from rfl) (Reps.none _ _)))))))); intro v251 w11 ho12 hb hg_ hnew_; clear hg_ hnew_; (first | rw [← Ny250.out] at ho12 | (simp only [Int.reduceToNat] at ho12; rw [← Ny250.out] at ho12)); have n0_ := Rb HO_3 hb; have n1_ := Aside0.mk (Kd.R_lower ho12 (Lz HB)); have n2_ := Bb BK243 hb; have n3_ := Lb HB hb; clear HO_3 BK243 HB; have HO_3 := n0_; have HO252 := n1_; have BK243 := n2_; have HB := n3_; clear n0_ n1_ n2_ n3_; clear hb ho12))
      go_loopg [3, 5] kj2 (fun kq v3 v5 w' => ∃ (x3_2 : List Int) (x5_2 : Int), v5 = .int .i64 x5_2 ∧ Aside0 (trommelref39_Bytes.l0 kq x3_2 y250 x5_2 l0_0 a0_1 a0_2 a0_3 a0_4 a0_5 a0_6 a0_7 l0_8 = some r) ∧ Aside0 (kq ≤ kj2) ∧ Aside0 (Kd.R (Kd.int .u8) 5 w' w.heap.size (fun _ => True) v3 x3_2) ∧ Aside0 (Kd.R (Kd.int .i64) 3 w' w.heap.size (fun _ => True) v251 y250) ∧ Aside0 (w'.heap[gb243]? = some (.cells #[(.slice A0_0 l0_0.length c0_0), .bool a0_1, .int .i64 a0_2, .int .i64 a0_3, .int .i64 a0_4, .int .i64 a0_5, .int .i64 a0_6, .int .i64 a0_7, (.slice A0_8 l0_8.length c0_8)] 63 (0, 0))) ∧ Aside0 (Below w.heap.size w w'))
      case atStart => exact ⟨(x3_2), (0), (by first | rfl | (simp; done) | (simp [*]; done)), H', ⟨Nat.le_refl _⟩, ⟨Rs HO_3.out⟩, ⟨Rs HO252.out⟩, ⟨Bs BK243.out⟩, ⟨Ls HB⟩⟩
      case round =>
        clear H'
        try clear c1; try clear p2; try clear c3; try clear c7; try clear hcz10_0; try clear hcz10_1; try clear hcz10_2; try clear hcz10_3; try clear hcz10_4; try clear hcz10_5; try clear hcz10_6; try clear hcz10_7; try clear hcz10_8; try clear hcz6_0; try clear hcz6_1; try clear hcz6_2; try clear hcz6_3; try clear hcz6_4; try clear hcz6_5; try clear hcz6_6; try clear hcz6_7; try clear hcz6_8; try clear hfz10_0; try clear hfz10_1; try clear hfz10_2; try clear hfz10_3; try clear hfz10_4; try clear hfz10_5; try clear hfz10_6; try clear hfz10_7; try clear hfz10_8; try clear hfz6_0; try clear hfz6_1; try clear hfz6_2; try clear hfz6_3; try clear hfz6_4; try clear hfz6_5; try clear hfz6_6; try clear hfz6_7; try clear hfz6_8; try clear p2
        obtain ⟨x3_2, x5_2, rfl, HA, HK2, HO_3, HO_4, BK243, HB⟩ := hrel
        cases gk with
        | zero => exact absurd HA.out (by simp [trommelref39_Bytes.l0])
        | succ k2 =>
          have H := HA.out
          clear HA
          simp only [trommelref39_Bytes.l0] at H
          by_cases c13 : x5_2 < (y250.length : Int)
          · rw [if_pos c13] at H
            have c13b0 : decide (x5_2 < (y250.length : Int)) = true := decide_eq_true c13
            clear c13
            refine bc (p := (0 ≤ x5_2)) (fun c14 => ?_) (fun c14 => ?_)
            · rw [if_neg c14] at H
              exact absurd H (by simp)
            rw [if_pos c14] at H
            have c14b0 : decide (0 ≤ x5_2) = true := decide_eq_true c14
            clear c14
            replace H := Option.bind_eq_some_iff.mp H
            obtain ⟨t254, A150, H⟩ := H
            replace H : (if x3_2.length + t254.length < 140737488355328 then (trommelref39_Bytes.l0 k2 (x3_2 ++ t254) y250 (wrap64 (x5_2 + 1)) l0_0 a0_1 a0_2 a0_3 a0_4 a0_5 a0_6 a0_7 l0_8) else (none)) = some r := H
            have A15 := Aside0.mk A150
            clear A150
            refine bc (p := (x3_2.length + t254.length < 140737488355328)) (fun c16 => ?_) (fun c16 => ?_)
            · rw [if_neg c16] at H
              exact absurd H (by simp)
            rw [if_pos c16] at H
            have LMc16 := Aside0.mk c16
            clear c16
            obtain ⟨y257, hy257⟩ : ∃ y_ : List Int, y_ = (x3_2 ++ t254) := ⟨_, rfl⟩
            replace H : (trommelref39_Bytes.l0 k2 y257 y250 (wrap64 (x5_2 + 1)) l0_0 a0_1 a0_2 a0_3 a0_4 a0_5 a0_6 a0_7 l0_8) = some r := by first | (rw [hy257]; with_reducible exact H) | (have H2_ := (Option.bind_some _ _).symm.trans H; rw [hy257]; with_reducible exact H2_) | (have H2_ := (Option.bind_some _ _).symm.trans H; with_reducible exact H2_) | with_reducible exact H | (rw [hy257]; exact H) | exact H
            have Ny257 := Aside0.mk hy257
            clear hy257
            have H' := Aside0.mk H
            clear H
            obtain ⟨Ao17, co17, eo17⟩ := Kd.R_slice HO_4.out
            subst eo17
            have p253 : 0 ≤ (x5_2 : Int) := of_decide_eq_true (by first | (with_reducible assumption) | assumption)
            have q253 : x5_2 < (y250.length : Int) := of_decide_eq_true (by first | (with_reducible assumption) | assumption)
            obtain ⟨ad253, e253, hx253_0⟩ := Kd.at_int (Kd.R_reads' HO_4.out).2.2 x5_2 p253 q253
            cases e253
            replace p253 := eq_true p253
            replace q253 := eq_true q253
            go_wp2_with (first | ((with_reducible refine gate_callee (f := 19) rfl ?_); refine goesL_ (some 43) rfl rfl Try.func19 (by kernel_rfl) rfl #[.int .i64 (rd y250 x5_2)] rfl (by (try simp only [List.map_toArray, List.map_cons, List.map_nil]); first | done | rfl | (simp only [List.length_drop, List.length_take]; rfl)) ?_; (with_reducible refine (trommelref39_Int.calls (rd y250 x5_2) t254 _ A15.out).mono ?_); rintro e w18 ⟨v255, rfl, ho0, hb⟩; refine ⟨_, rfl, ?_⟩; have n0_ := Aside0.mk (Kd.R_elder' (Rs HO_3.out) (Kd.R_base ho0) hb); have n1_ := Rb HO_4 hb; have n2_ := Aside0.mk (Kd.R_lower (Kd.R_new' ho0 (Kd.R_lt (Rs HO_3.out))) (Lz HB)); have n3_ := Bb BK243 hb; have n4_ := Lb HB hb; clear HO_3 HO_4 BK243 HB; have HO_3 := n0_; have HO_4 := n1_; have HO256 := n2_; have BK243 := n3_; have HB := n4_; clear n0_ n1_ n2_ n3_ n4_; (try clear hb); (try clear hb2); (try clear hk); (try clear hi); (try clear ho0); obtain ⟨Ao20, co20, eo20⟩ := Kd.R_slice HO256.out; subst eo20) | ((with_reducible refine gate_builtin (b := .append) (xs := #[.tmp 38, .tmp 43]) rfl ?_); at_builtin; refine Kd.R_append_rows (Kd.int .u8) (w0 := w) w.heap.size rfl (.tmp 38) (.tmp 43) 36 5 (.int .u8 0) 1 rfl Try.underlying36 info5 rfl (by decide) (by omega) u3 x3_2 t254 _ _ _ (fun k_ => some k_ ≠ (.slice Ao20 t254.length co20 : Value).ownBlock) (fun _ => False) rfl rfl ?aO ?aR (fun _ _ h => h) (fun _ h => h.elim) ?aF ?aB ?aS ?aL ?_; (case aR => exact Cs (Kd.R_reads' HO256.out).2.2); (case aB => exact (Ls HB)); (case aF => exact (fun k_ hk => Kd.fresh' (Kd.R_lt (Rs HO256.out)) k_ hk)); (case aO => exact (Rs (Kd.R_mono HO_3.out (fun _ hk => hk.2)))); (case aS => exact (Lz HB)); (case aL => have := LMc16.out; omega); intro v258 w19 ho hb hg hat; rw [← Ny257.out] at ho; have n0_ := Aside0.mk (Kd.R_over' (Rs HO_4.out) (Kd.R_typed (Rs HO_3.out)) (by decide) hg); have n1_ := Aside0.mk (blk_grown (g := gb243) (o := .cells #[.slice A0_0 l0_0.length c0_0, .bool a0_1, .int .i64 a0_2, .int .i64 a0_3, .int .i64 a0_4, .int .i64 a0_5, .int .i64 a0_6, .int .i64 a0_7, .slice A0_8 l0_8.length c0_8] 63 (0, 0)) (Bs BK243.out) hg (Kd.R_ne HO_3.out BK243.out (by decide))); have n2_ := Aside0.mk (Kd.R_after (ok := (fun _ => True)) (Rs HO256.out) hg hat); have n3_ := Aside0.mk (hb); have n4_ := Aside0.mk (ho); clear HO_4 BK243 HO256 HB HO_3; have HO_4 := n0_; have BK243 := n1_; have HO256 := n2_; have HB := n3_; have HO259 := n4_; clear n0_ n1_ n2_ n3_ n4_; clear ho hb hg hat))
            go_roundg k2
            case measure => have := HJ2.out; have := HK2.out; omega
            case rel => exact ⟨(y257), (wrap64 (x5_2 + 1)), (by first | rfl | (simp; done) | (simp [*]; done)), H', ⟨by have := HJ2.out; have := HK2.out; omega⟩, ⟨by (with_reducible repeat (first | apply Kd.R_alloc | apply Kd.R_drewN | apply Kd.R_drew)); exact Kd.R_mono HO259.out (fun _ hk => trivial)⟩, ⟨Rs HO_4.out⟩, ⟨Bs BK243.out⟩, ⟨Ls HB⟩⟩
          · rw [if_neg c13] at H
            have c13b0 : decide (x5_2 < (y250.length : Int)) = false := decide_eq_false c13
            clear c13
            replace H := Option.bind_eq_some_iff.mp H
            obtain ⟨t260, A210, H⟩ := H
            replace H : (if x3_2.length + t260.length < 140737488355328 then ((some (x3_2 ++ t260 : List Int)).bind fun y263 => ((trommelref39_Int.f (l0_0.length : Int)).bind fun t266 => (if y263.length + t266.length < 140737488355328 then (trommelref39_Bytes.l1 k2 (y263 ++ t266) 0 l0_0 a0_1 a0_2 a0_3 a0_4 a0_5 a0_6 a0_7 l0_8) else (none)))) else (none)) = some r := H
            have A21 := Aside0.mk A210
            clear A210
            refine bc (p := (x3_2.length + t260.length < 140737488355328)) (fun c22 => ?_) (fun c22 => ?_)
            · rw [if_neg c22] at H
              exact absurd H (by simp)
            rw [if_pos c22] at H
            have LMc22 := Aside0.mk c22
            clear c22
            obtain ⟨y263, hy263⟩ : ∃ y_ : List Int, y_ = (x3_2 ++ t260) := ⟨_, rfl⟩
            replace H : ((trommelref39_Int.f (l0_0.length : Int)).bind fun t266 => (if y263.length + t266.length < 140737488355328 then (trommelref39_Bytes.l1 k2 (y263 ++ t266) 0 l0_0 a0_1 a0_2 a0_3 a0_4 a0_5 a0_6 a0_7 l0_8) else (none))) = some r := by first | (rw [hy263]; with_reducible exact H) | (have H2_ := (Option.bind_some _ _).symm.trans H; rw [hy263]; with_reducible exact H2_) | (have H2_ := (Option.bind_some _ _).symm.trans H; with_reducible exact H2_) | with_reducible exact H | (rw [hy263]; exact H) | exact H
            have Ny263 := Aside0.mk hy263
            clear hy263
            replace H := Option.bind_eq_some_iff.mp H
            obtain ⟨t266, A230, H⟩ := H
            replace H : (if y263.length + t266.length < 140737488355328 then (trommelref39_Bytes.l1 k2 (y263 ++ t266) 0 l0_0 a0_1 a0_2 a0_3 a0_4 a0_5 a0_6 a0_7 l0_8) else (none)) = some r := H
            have A23 := Aside0.mk A230
            clear A230
            refine bc (p := (y263.length + t266.length < 140737488355328)) (fun c24 => ?_) (fun c24 => ?_)
            · rw [if_neg c24] at H
              exact absurd H (by simp)
            rw [if_pos c24] at H
            have LMc24 := Aside0.mk c24
            clear c24
            obtain ⟨y269, hy269⟩ : ∃ y_ : List Int, y_ = (y263 ++ t266) := ⟨_, rfl⟩
            replace H : (trommelref39_Bytes.l1 k2 y269 0 l0_0 a0_1 a0_2 a0_3 a0_4 a0_5 a0_6 a0_7 l0_8) = some r := by first | (rw [hy269]; with_reducible exact H) | (have H2_ := (Option.bind_some _ _).symm.trans H; rw [hy269]; with_reducible exact H2_) | (have H2_ := (Option.bind_some _ _).symm.trans H; with_reducible exact H2_) | with_reducible exact H | (rw [hy269]; exact H) | exact H
            have Ny269 := Aside0.mk hy269
            clear hy269
            have H' := Aside0.mk H
            clear H
            obtain ⟨Ao25, co25, eo25⟩ := Kd.R_slice HO_4.out
            subst eo25
            have hcz26_0 : wr.cell? ⟨gb243, 0, none⟩ = some (.slice A0_0 l0_0.length c0_0) := (blk_cell BK243.out 0).trans rfl
            have hcz26_1 : wr.cell? ⟨gb243, 1, none⟩ = some (.bool a0_1) := (blk_cell BK243.out 1).trans rfl
            have hcz26_2 : wr.cell? ⟨gb243, 2, none⟩ = some (.int .i64 a0_2) := (blk_cell BK243.out 2).trans rfl
            have hcz26_3 : wr.cell? ⟨gb243, 3, none⟩ = some (.int .i64 a0_3) := (blk_cell BK243.out 3).trans rfl
            have hcz26_4 : wr.cell? ⟨gb243, 4, none⟩ = some (.int .i64 a0_4) := (blk_cell BK243.out 4).trans rfl
            have hcz26_5 : wr.cell? ⟨gb243, 5, none⟩ = some (.int .i64 a0_5) := (blk_cell BK243.out 5).trans rfl
            have hcz26_6 : wr.cell? ⟨gb243, 6, none⟩ = some (.int .i64 a0_6) := (blk_cell BK243.out 6).trans rfl
            have hcz26_7 : wr.cell? ⟨gb243, 7, none⟩ = some (.int .i64 a0_7) := (blk_cell BK243.out 7).trans rfl
            have hcz26_8 : wr.cell? ⟨gb243, 8, none⟩ = some (.slice A0_8 l0_8.length c0_8) := (blk_cell BK243.out 8).trans rfl
            have hfz26_0 := blk_frozen BK243.out 0
            have hfz26_1 := blk_frozen BK243.out 1
            have hfz26_2 := blk_frozen BK243.out 2
            have hfz26_3 := blk_frozen BK243.out 3
            have hfz26_4 := blk_frozen BK243.out 4
            have hfz26_5 := blk_frozen BK243.out 5
            have hfz26_6 := blk_frozen BK243.out 6
            have hfz26_7 := blk_frozen BK243.out 7
            have hfz26_8 := blk_frozen BK243.out 8
            go_wp2_with (first | ((with_reducible refine gate_callee (f := 20) rfl ?_); refine goesL_ (some 48) rfl rfl Try.func20 (by kernel_rfl) rfl #[.slice A0_8 l0_8.length c0_8] rfl (by (try simp only [List.map_toArray, List.map_cons, List.map_nil]); first | done | rfl | (simp only [List.length_drop, List.length_take]; rfl)) ?_; (with_reducible refine (trommelref39_Ints.calls k2 _ _ l0_8 t260 _ ?side1 ?side2 A21.out).mono ?_); (case side1 => repeat (first | exact (Kd.C_below HR0_8.out HB.out) | (with_reducible refine Kd.C_alloc ?_ _) | (with_reducible refine Kd.C_drewN ?_ _) | (with_reducible refine Kd.C_drew ?_))); (case side2 => exact HC0_8.out); rintro e w27 ⟨v261, rfl, ho0, hb⟩; refine ⟨_, rfl, ?_⟩; have n0_ := Aside0.mk (Kd.R_elder' (Rs HO_3.out) (Kd.R_base ho0) hb); have n1_ := Rb HO_4 hb; have n2_ := Aside0.mk (Kd.R_lower (Kd.R_new' ho0 (Kd.R_lt (Rs HO_3.out))) (Lz HB)); have n3_ := Bb BK243 hb; have n4_ := Lb HB hb; clear HO_3 HO_4 BK243 HB; have HO_3 := n0_; have HO_4 := n1_; have HO262 := n2_; have BK243 := n3_; have HB := n4_; clear n0_ n1_ n2_ n3_ n4_; (try clear hb); (try clear hb2); (try clear hk); (try clear hi); (try clear ho0); obtain ⟨Ao29, co29, eo29⟩ := Kd.R_slice HO262.out; subst eo29) | ((with_reducible refine gate_builtin (b := .append) (xs := #[.tmp 45, .tmp 48]) rfl ?_); at_builtin; refine Kd.R_append_rows (Kd.int .u8) (w0 := w) w.heap.size rfl (.tmp 45) (.tmp 48) 36 5 (.int .u8 0) 1 rfl Try.underlying36 info5 rfl (by decide) (by omega) u3 x3_2 t260 _ _ _ (fun k_ => some k_ ≠ (.slice Ao29 t260.length co29 : Value).ownBlock) (fun _ => False) rfl rfl ?aO ?aR (fun _ _ h => h) (fun _ h => h.elim) ?aF ?aB ?aS ?aL ?_; (case aR => exact Cs (Kd.R_reads' HO262.out).2.2); (case aB => exact (Ls HB)); (case aF => exact (fun k_ hk => Kd.fresh' (Kd.R_lt (Rs HO262.out)) k_ hk)); (case aO => exact (Rs (Kd.R_mono HO_3.out (fun _ hk => hk.2)))); (case aS => exact (Lz HB)); (case aL => have := LMc22.out; omega); intro v264 w28 ho hb hg hat; rw [← Ny263.out] at ho; have n0_ := Aside0.mk (Kd.R_over' (Rs HO_4.out) (Kd.R_typed (Rs HO_3.out)) (by decide) hg); have n1_ := Aside0.mk (blk_grown (g := gb243) (o := .cells #[.slice A0_0 l0_0.length c0_0, .bool a0_1, .int .i64 a0_2, .int .i64 a0_3, .int .i64 a0_4, .int .i64 a0_5, .int .i64 a0_6, .int .i64 a0_7, .slice A0_8 l0_8.length c0_8] 63 (0, 0)) (Bs BK243.out) hg (Kd.R_ne HO_3.out BK243.out (by decide))); have n2_ := Aside0.mk (Kd.R_after (ok := (fun _ => True)) (Rs HO262.out) hg hat); have n3_ := Aside0.mk (hb); have n4_ := Aside0.mk (ho); clear HO_4 BK243 HO262 HB HO_3; have HO_4 := n0_; have BK243 := n1_; have HO262 := n2_; have HB := n3_; have HO265 := n4_; clear n0_ n1_ n2_ n3_ n4_; clear ho hb hg hat; have hcz30_0 : w28.cell? ⟨gb243, 0, none⟩ = some (.slice A0_0 l0_0.length c0_0) := (blk_cell BK243.out 0).trans rfl; have hcz30_1 : w28.cell? ⟨gb243, 1, none⟩ = some (.bool a0_1) := (blk_cell BK243.out 1).trans rfl; have hcz30_2 : w28.cell? ⟨gb243, 2, none⟩ = some (.int .i64 a0_2) := (blk_cell BK243.out 2).trans rfl; have hcz30_3 : w28.cell? ⟨gb243, 3, none⟩ = some (.int .i64 a0_3) := (blk_cell BK243.out 3).trans rfl; have hcz30_4 : w28.cell? ⟨gb243, 4, none⟩ = some (.int .i64 a0_4) := (blk_cell BK243.out 4).trans rfl; have hcz30_5 : w28.cell? ⟨gb243, 5, none⟩ = some (.int .i64 a0_5) := (blk_cell BK243.out 5).trans rfl; have hcz30_6 : w28.cell? ⟨gb243, 6, none⟩ = some (.int .i64 a0_6) := (blk_cell BK243.out 6).trans rfl; have hcz30_7 : w28.cell? ⟨gb243, 7, none⟩ = some (.int .i64 a0_7) := (blk_cell BK243.out 7).trans rfl; have hcz30_8 : w28.cell? ⟨gb243, 8, none⟩ = some (.slice A0_8 l0_8.length c0_8) := (blk_cell BK243.out 8).trans rfl; have hfz30_0 := blk_frozen BK243.out 0; have hfz30_1 := blk_frozen BK243.out 1; have hfz30_2 := blk_frozen BK243.out 2; have hfz30_3 := blk_frozen BK243.out 3; have hfz30_4 := blk_frozen BK243.out 4; have hfz30_5 := blk_frozen BK243.out 5; have hfz30_6 := blk_frozen BK243.out 6; have hfz30_7 := blk_frozen BK243.out 7; have hfz30_8 := blk_frozen BK243.out 8) | ((with_reducible refine gate_callee (f := 19) rfl ?_); refine goesL_ (some 54) rfl rfl Try.func19 (by kernel_rfl) rfl #[.int .i64 (l0_0.length : Int)] rfl (by (try simp only [List.map_toArray, List.map_cons, List.map_nil]); first | done | rfl | (simp only [List.length_drop, List.length_take]; rfl)) ?_; (with_reducible refine (trommelref39_Int.calls (l0_0.length : Int) t266 _ A23.out).mono ?_); rintro e w31 ⟨v267, rfl, ho0, hb⟩; refine ⟨_, rfl, ?_⟩; have n0_ := Rb HO_4 hb; have n1_ := Aside0.mk (Kd.R_elder' (Rs HO262.out) (Kd.R_base ho0) hb); have n2_ := Aside0.mk (Kd.R_elder' (Rs HO265.out) (Kd.R_base ho0) hb); have n3_ := Aside0.mk (Kd.R_lower (Kd.R_new' (Kd.R_new' ho0 (Kd.R_lt (Rs HO262.out))) (Kd.R_lt (Rs HO265.out))) (Lz HB)); have n4_ := Bb BK243 hb; have n5_ := Lb HB hb; clear HO_4 HO262 HO265 BK243 HB; have HO_4 := n0_; have HO262 := n1_; have HO265 := n2_; have HO268 := n3_; have BK243 := n4_; have HB := n5_; clear n0_ n1_ n2_ n3_ n4_ n5_; (try clear hb); (try clear hb2); (try clear hk); (try clear hi); (try clear ho0); obtain ⟨Ao33, co33, eo33⟩ := Kd.R_slice HO268.out; subst eo33) | ((with_reducible refine gate_builtin (b := .append) (xs := #[.tmp 50, .tmp 54]) rfl ?_); at_builtin; refine Kd.R_append_rows (Kd.int .u8) (w0 := w) w.heap.size rfl (.tmp 50) (.tmp 54) 36 5 (.int .u8 0) 1 rfl Try.underlying36 info5 rfl (by decide) (by omega) v264 y263 t266 _ _ _ (fun k_ => some k_ ≠ (.slice Ao29 t260.length co29 : Value).ownBlock ∧ some k_ ≠ (.slice Ao33 t266.length co33 : Value).ownBlock) (fun _ => False) rfl rfl ?aO ?aR (fun _ _ h => h) (fun _ h => h.elim) ?aF ?aB ?aS ?aL ?_; (case aR => exact Cs (Kd.R_reads' HO268.out).2.2); (case aB => exact (Ls HB)); (case aF => exact (fun k_ hk => ⟨Kd.fresh' (Kd.R_lt (Rs HO262.out)) k_ hk, Kd.fresh' (Kd.R_lt (Rs HO268.out)) k_ hk⟩)); (case aO => exact (Rs HO265.out)); (case aS => exact (Lz HB)); (case aL => have := LMc24.out; omega); intro v270 w32 ho hb hg hat; rw [← Ny269.out] at ho; have n0_ := Aside0.mk (Kd.R_over' (Rs HO_4.out) (Kd.R_typed (Rs HO265.out)) (by decide) hg); have n1_ := Aside0.mk (blk_grown (g := gb243) (o := .cells #[.slice A0_0 l0_0.length c0_0, .bool a0_1, .int .i64 a0_2, .int .i64 a0_3, .int .i64 a0_4, .int .i64 a0_5, .int .i64 a0_6, .int .i64 a0_7, .slice A0_8 l0_8.length c0_8] 63 (0, 0)) (Bs BK243.out) hg (Kd.R_ne HO265.out BK243.out (by decide))); have n2_ := Aside0.mk (Kd.R_after (ok := (fun k_ => some k_ ≠ (.slice Ao33 t266.length co33 : Value).ownBlock)) (Rs (Kd.R_mono HO262.out (fun _ hk => ⟨hk.2, hk.1.2⟩))) hg hat); have n3_ := Aside0.mk (Kd.R_after (ok := (fun k_ => some k_ ≠ (.slice Ao29 t260.length co29 : Value).ownBlock)) (Rs (Kd.R_mono HO268.out (fun _ hk => ⟨hk.1.2, hk.2⟩))) hg hat); have n4_ := Aside0.mk (hb); have n5_ := Aside0.mk (ho); clear HO_4 BK243 HO262 HO268 HB HO265; have HO_4 := n0_; have BK243 := n1_; have HO262 := n2_; have HO268 := n3_; have HB := n4_; have HO271 := n5_; clear n0_ n1_ n2_ n3_ n4_ n5_; clear ho hb hg hat))
            go_loopg [3, 6] k2 (fun kq v3 v6 w' => ∃ (x3_3 : List Int) (x6_3 : Int), v6 = .int .i64 x6_3 ∧ Aside0 (trommelref39_Bytes.l1 kq x3_3 x6_3 l0_0 a0_1 a0_2 a0_3 a0_4 a0_5 a0_6 a0_7 l0_8 = some r) ∧ Aside0 (kq ≤ k2) ∧ Aside0 (Kd.R (Kd.int .u8) 5 w' w.heap.size (fun _ => True) v3 x3_3) ∧ Aside0 (w'.heap[gb243]? = some (.cells #[(.slice A0_0 l0_0.length c0_0), .bool a0_1, .int .i64 a0_2, .int .i64 a0_3, .int .i64 a0_4, .int .i64 a0_5, .int .i64 a0_6, .int .i64 a0_7, (.slice A0_8 l0_8.length c0_8)] 63 (0, 0))) ∧ Aside0 (Below w.heap.size w w'))
            case atStart => exact ⟨(y269), (0), (by first | rfl | (simp; done) | (simp [*]; done)), H', ⟨Nat.le_refl _⟩, ⟨by (with_reducible repeat (first | apply Kd.R_alloc | apply Kd.R_drewN | apply Kd.R_drew)); exact Kd.R_mono HO271.out (fun _ hk => trivial)⟩, ⟨Bs BK243.out⟩, ⟨Ls HB⟩⟩
            case round =>
              clear H'
              try clear c1; try clear c2; try clear p2; try clear q2; try clear hx2; try clear c3; try clear p6; try clear c7; try clear c13; try clear c13b0; try clear c14; try clear c14b0; try clear c16; try clear c19; try clear c20; try clear c22; try clear c24; try clear p25; try clear q25; try clear hx25; try clear hcz10_0; try clear hcz10_1; try clear hcz10_2; try clear hcz10_3; try clear hcz10_4; try clear hcz10_5; try clear hcz10_6; try clear hcz10_7; try clear hcz10_8; try clear hcz26_0; try clear hcz26_1; try clear hcz26_2; try clear hcz26_3; try clear hcz26_4; try clear hcz26_5; try clear hcz26_6; try clear hcz26_7; try clear hcz26_8; try clear hcz30_0; try clear hcz30_1; try clear hcz30_2; try clear hcz30_3; try clear hcz30_4; try clear hcz30_5; try clear hcz30_6; try clear hcz30_7; try clear hcz30_8; try clear hcz6_0; try clear hcz6_1; try clear hcz6_2; try clear hcz6_3; try clear hcz6_4; try clear hcz6_5; try clear hcz6_6; try clear hcz6_7; try clear hcz6_8; try clear hfz10_0; try clear hfz10_1; try clear hfz10_2; try clear hfz10_3; try clear hfz10_4; try clear hfz10_5; try clear hfz10_6; try clear hfz10_7; try clear hfz10_8; try clear hfz26_0; try clear hfz26_1; try clear hfz26_2; try clear hfz26_3; try clear hfz26_4; try clear hfz26_5; try clear hfz26_6; try clear hfz26_7; try clear hfz26_8; try clear hfz30_0; try clear hfz30_1; try clear hfz30_2; try clear hfz30_3; try clear hfz30_4; try clear hfz30_5; try clear hfz30_6; try clear hfz30_7; try clear hfz30_8; try clear hfz6_0; try clear hfz6_1; try clear hfz6_2; try clear hfz6_3; try clear hfz6_4; try clear hfz6_5; try clear hfz6_6; try clear hfz6_7; try clear hfz6_8; try clear hx253_0; try clear p2; try clear p253; try clear q253
              obtain ⟨x3_3, x6_3, rfl, HA, HK3, HO_3, BK243, HB⟩ := hrel
              cases gk with
              | zero => exact absurd HA.out (by simp [trommelref39_Bytes.l1])
              | succ k3 =>
                have H := HA.out
                clear HA
                simp only [trommelref39_Bytes.l1] at H
                by_cases c34 : x6_3 < (l0_0.length : Int)
                · rw [if_pos c34] at H
                  have c34b0 : decide (x6_3 < (l0_0.length : Int)) = true := decide_eq_true c34
                  clear c34
                  refine bc (p := (0 ≤ x6_3)) (fun c35 => ?_) (fun c35 => ?_)
                  · rw [if_neg c35] at H
                    exact absurd H (by simp)
                  rw [if_pos c35] at H
                  have c35b0 : decide (0 ≤ x6_3) = true := decide_eq_true c35
                  clear c35
                  replace H := Option.bind_eq_some_iff.mp H
                  obtain ⟨t274, A360, H⟩ := H
                  replace H : (if x3_3.length + t274.length < 140737488355328 then ((some (x3_3 ++ t274 : List Int)).bind fun y277 => ((trommelref39_Int.f (((rd_T87 l0_0 x6_3).f1).length : Int)).bind fun t280 => (if y277.length + t280.length < 140737488355328 then (trommelref39_Bytes.l2 k3 (y277 ++ t280) x6_3 0 l0_0 a0_1 a0_2 a0_3 a0_4 a0_5 a0_6 a0_7 l0_8 ((rd_T87 l0_0 x6_3).f0) ((rd_T87 l0_0 x6_3).f1)) else (none)))) else (none)) = some r := H
                  have A36 := Aside0.mk A360
                  clear A360
                  refine bc (p := (x3_3.length + t274.length < 140737488355328)) (fun c37 => ?_) (fun c37 => ?_)
                  · rw [if_neg c37] at H
                    exact absurd H (by simp)
                  rw [if_pos c37] at H
                  have LMc37 := Aside0.mk c37
                  clear c37
                  obtain ⟨y277, hy277⟩ : ∃ y_ : List Int, y_ = (x3_3 ++ t274) := ⟨_, rfl⟩
                  replace H : ((trommelref39_Int.f (((rd_T87 l0_0 x6_3).f1).length : Int)).bind fun t280 => (if y277.length + t280.length < 140737488355328 then (trommelref39_Bytes.l2 k3 (y277 ++ t280) x6_3 0 l0_0 a0_1 a0_2 a0_3 a0_4 a0_5 a0_6 a0_7 l0_8 ((rd_T87 l0_0 x6_3).f0) ((rd_T87 l0_0 x6_3).f1)) else (none))) = some r := by first | (rw [hy277]; with_reducible exact H) | (have H2_ := (Option.bind_some _ _).symm.trans H; rw [hy277]; with_reducible exact H2_) | (have H2_ := (Option.bind_some _ _).symm.trans H; with_reducible exact H2_) | with_reducible exact H | (rw [hy277]; exact H) | exact H
                  have Ny277 := Aside0.mk hy277
                  clear hy277
                  replace H := Option.bind_eq_some_iff.mp H
                  obtain ⟨t280, A380, H⟩ := H
                  replace H : (if y277.length + t280.length < 140737488355328 then (trommelref39_Bytes.l2 k3 (y277 ++ t280) x6_3 0 l0_0 a0_1 a0_2 a0_3 a0_4 a0_5 a0_6 a0_7 l0_8 ((rd_T87 l0_0 x6_3).f0) ((rd_T87 l0_0 x6_3).f1)) else (none)) = some r := H
                  have A38 := Aside0.mk A380
                  clear A380
                  refine bc (p := (y277.length + t280.length < 140737488355328)) (fun c39 => ?_) (fun c39 => ?_)
                  · rw [if_neg c39] at H
                    exact absurd H (by simp)
                  rw [if_pos c39] at H
                  have LMc39 := Aside0.mk c39
                  clear c39
                  obtain ⟨y283, hy283⟩ : ∃ y_ : List Int, y_ = (y277 ++ t280) := ⟨_, rfl⟩
                  replace H : (trommelref39_Bytes.l2 k3 y283 x6_3 0 l0_0 a0_1 a0_2 a0_3 a0_4 a0_5 a0_6 a0_7 l0_8 ((rd_T87 l0_0 x6_3).f0) ((rd_T87 l0_0 x6_3).f1)) = some r := by first | (rw [hy283]; with_reducible exact H) | (have H2_ := (Option.bind_some _ _).symm.trans H; rw [hy283]; with_reducible exact H2_) | (have H2_ := (Option.bind_some _ _).symm.trans H; with_reducible exact H2_) | with_reducible exact H | (rw [hy283]; exact H) | exact H
                  have Ny283 := Aside0.mk hy283
                  clear hy283
                  have H' := Aside0.mk H
                  clear H
                  have hcz40_0 : wr.cell? ⟨gb243, 0, none⟩ = some (.slice A0_0 l0_0.length c0_0) := (blk_cell BK243.out 0).trans rfl
                  have hcz40_1 : wr.cell? ⟨gb243, 1, none⟩ = some (.bool a0_1) := (blk_cell BK243.out 1).trans rfl
                  have hcz40_2 : wr.cell? ⟨gb243, 2, none⟩ = some (.int .i64 a0_2) := (blk_cell BK243.out 2).trans rfl
                  have hcz40_3 : wr.cell? ⟨gb243, 3, none⟩ = some (.int .i64 a0_3) := (blk_cell BK243.out 3).trans rfl
                  have hcz40_4 : wr.cell? ⟨gb243, 4, none⟩ = some (.int .i64 a0_4) := (blk_cell BK243.out 4).trans rfl
                  have hcz40_5 : wr.cell? ⟨gb243, 5, none⟩ = some (.int .i64 a0_5) := (blk_cell BK243.out 5).trans rfl
                  have hcz40_6 : wr.cell? ⟨gb243, 6, none⟩ = some (.int .i64 a0_6) := (blk_cell BK243.out 6).trans rfl
                  have hcz40_7 : wr.cell? ⟨gb243, 7, none⟩ = some (.int .i64 a0_7) := (blk_cell BK243.out 7).trans rfl
                  have hcz40_8 : wr.cell? ⟨gb243, 8, none⟩ = some (.slice A0_8 l0_8.length c0_8) := (blk_cell BK243.out 8).trans rfl
                  have hfz40_0 := blk_frozen BK243.out 0
                  have hfz40_1 := blk_frozen BK243.out 1
                  have hfz40_2 := blk_frozen BK243.out 2
                  have hfz40_3 := blk_frozen BK243.out 3
                  have hfz40_4 := blk_frozen BK243.out 4
                  have hfz40_5 := blk_frozen BK243.out 5
                  have hfz40_6 := blk_frozen BK243.out 6
                  have hfz40_7 := blk_frozen BK243.out 7
                  have hfz40_8 := blk_frozen BK243.out 8
                  have p272 : 0 ≤ (x6_3 : Int) := of_decide_eq_true (by first | (with_reducible assumption) | assumption)
                  have q272 : x6_3 < (l0_0.length : Int) := of_decide_eq_true (by first | (with_reducible assumption) | assumption)
                  obtain ⟨ad272, A272_1, c272_1, e272, hx272_0, hx272_1, hl272_1, hi272_1⟩ := at_T87 HR0_0.out x6_3 p272 q272
                  cases e272
                  replace hx272_0 := (HB.out.cell (World.block_lt_of_cell? w _ hx272_0)).trans hx272_0
                  replace hx272_1 := (HB.out.cell (World.block_lt_of_cell? w _ hx272_1)).trans hx272_1
                  have HR272_1 := Aside0.mk hi272_1
                  have HC272_1 := Aside0.mk hl272_1
                  clear hi272_1 hl272_1
                  replace p272 := eq_true p272
                  replace q272 := eq_true q272
                  go_wp2_with (first | ((with_reducible refine gate_dst (N := 7) rfl ?_); refine box_event ?hg (N := 7) ?hd (cs := #[.int .i64 0, .slice none 0 0]) (t := 87) ?hr ?_; (case hd => rfl); (case hg => rfl); (case hr => first | (go_simp; done) | (go_simp; rfl)); intro gb273 hg w41 hbox hb; have n0_ := Rb HO_3 hb; have n1_ := Aside0.mk (blk_below (g := gb243) (o := .cells #[.slice (some ad272) l0_0.length c0_0, .bool a0_1, .int .i64 a0_2, .int .i64 a0_3, .int .i64 a0_4, .int .i64 a0_5, .int .i64 a0_6, .int .i64 a0_7, .slice A0_8 l0_8.length c0_8] 63 (0, 0)) (Bs BK243.out) hb); have n2_ := Lb HB hb; have n3_ := Aside0.mk (hbox); have n4_ := Aside0.mk ((by rw [hg]; exact (Lz HB) : w.heap.size ≤ gb273)); have n5_ := Aside0.mk ((by rw [hg]; exact (Lz HB) : w.heap.size ≤ gb273)); have n6_ := Aside0.mk ((by rw [hg]; exact Nat.ne_of_lt (blk_lt (g := gb243) (o := .cells #[.slice (some ad272) l0_0.length c0_0, .bool a0_1, .int .i64 a0_2, .int .i64 a0_3, .int .i64 a0_4, .int .i64 a0_5, .int .i64 a0_6, .int .i64 a0_7, .slice A0_8 l0_8.length c0_8] 63 (0, 0)) (Bs BK243.out)) : gb243 ≠ gb273)); have n7_ := Aside0.mk ((by rw [hg]; exact Nat.ne_of_gt (blk_lt (g := gb243) (o := .cells #[.slice (some ad272) l0_0.length c0_0, .bool a0_1, .int .i64 a0_2, .int .i64 a0_3, .int .i64 a0_4, .int .i64 a0_5, .int .i64 a0_6, .int .i64 a0_7, .slice A0_8 l0_8.length c0_8] 63 (0, 0)) (Bs BK243.out)) : gb273 ≠ gb243)); clear HO_3 BK243 HB; have HO_3 := n0_; have BK243 := n1_; have HB := n2_; have BK273 := n3_; have GW273 := n4_; have GE273 := n5_; have NB243_273 := n6_; have NB273_243 := n7_; clear n0_ n1_ n2_ n3_ n4_ n5_ n6_ n7_; clear hb hbox hg; have hnb42 := NB273_243.out; have hnc42 := NB243_273.out; have hcz43_0 : w41.cell? ⟨gb273, 0, none⟩ = some (.int .i64 0) := (blk_cell BK273.out 0).trans rfl; have hcz43_1 : w41.cell? ⟨gb273, 1, none⟩ = some (.slice none 0 0) := (blk_cell BK273.out 1).trans rfl; have hfz43_0 := blk_frozen BK273.out 0; have hfz43_1 := blk_frozen BK273.out 1) | ((with_reducible refine gate_callee (f := 19) rfl ?_); refine goesL_ (some 71) rfl rfl Try.func19 (by kernel_rfl) rfl #[.int .i64 ((rd_T87 l0_0 x6_3).f0)] rfl (by (try simp only [List.map_toArray, List.map_cons, List.map_nil]); first | done | rfl | (simp only [List.length_drop, List.length_take]; rfl)) ?_; (with_reducible refine (trommelref39_Int.calls ((rd_T87 l0_0 x6_3).f0) t274 _ A36.out).mono ?_); rintro e w44 ⟨v275, rfl, ho0, hb⟩; refine ⟨_, rfl, ?_⟩; have n0_ := Aside0.mk (Kd.R_elder' (Rs ((Kd.R_mono (Kd.R_far (p := ⟨gb273, 1, none⟩) (Kd.R_far (p := ⟨gb273, 0, none⟩) (Kd.R_types HO_3.out BK273.out (by decide)) (fun _ hk => hk.2) (.int .i64 ((rd_T87 l0_0 x6_3).f0))) (fun _ hk => hk.2) (.slice A272_1 ((rd_T87 l0_0 x6_3).f1).length c272_1)) (fun _ h_ => h_.1)))) (Kd.R_base ho0) hb); have n1_ := Aside0.mk (Kd.R_lower (Kd.R_new' ho0 (Kd.R_lt (Rs ((Kd.R_mono (Kd.R_far (p := ⟨gb273, 1, none⟩) (Kd.R_far (p := ⟨gb273, 0, none⟩) (Kd.R_types HO_3.out BK273.out (by decide)) (fun _ hk => hk.2) (.int .i64 ((rd_T87 l0_0 x6_3).f0))) (fun _ hk => hk.2) (.slice A272_1 ((rd_T87 l0_0 x6_3).f1).length c272_1)) (fun _ h_ => h_.1)))))) (Lz HB)); have n2_ := Aside0.mk (blk_below (g := gb243) (o := .cells #[.slice (some ad272) l0_0.length c0_0, .bool a0_1, .int .i64 a0_2, .int .i64 a0_3, .int .i64 a0_4, .int .i64 a0_5, .int .i64 a0_6, .int .i64 a0_7, .slice A0_8 l0_8.length c0_8] 63 (0, 0)) (by (with_reducible repeat (first | refine blk_drewN ?_ _ | refine blk_drew ?_ | refine blk_alloc ?_ _)); refine blk_far ?_ NB243_273.out _; (with_reducible repeat (first | refine blk_drewN ?_ _ | refine blk_drew ?_ | refine blk_alloc ?_ _)); refine blk_far ?_ NB243_273.out _; (with_reducible repeat (first | refine blk_drewN ?_ _ | refine blk_drew ?_ | refine blk_alloc ?_ _)); exact BK243.out) hb); have n3_ := Aside0.mk (blk_below (g := gb273) (o := .cells #[.int .i64 ((rd_T87 l0_0 x6_3).f0), .slice A272_1 ((rd_T87 l0_0 x6_3).f1).length c272_1] 87 (0, 0)) (by (with_reducible repeat (first | refine blk_drewN ?_ _ | refine blk_drew ?_ | refine blk_alloc ?_ _)); refine blk_put (cs := #[.int .i64 ((rd_T87 l0_0 x6_3).f0), .slice none 0 0]) ?_ 1 _ rfl; (with_reducible repeat (first | refine blk_drewN ?_ _ | refine blk_drew ?_ | refine blk_alloc ?_ _)); refine blk_put (cs := #[.int .i64 0, .slice none 0 0]) ?_ 0 _ rfl; (with_reducible repeat (first | refine blk_drewN ?_ _ | refine blk_drew ?_ | refine blk_alloc ?_ _)); exact BK273.out) hb); have n4_ := Lb HB hb; clear HO_3 BK243 BK273 HB; have HO_3 := n0_; have HO276 := n1_; have BK243 := n2_; have BK273 := n3_; have HB := n4_; clear n0_ n1_ n2_ n3_ n4_; (try clear hb); (try clear hb2); (try clear hk); (try clear hi); (try clear ho0); obtain ⟨Ao46, co46, eo46⟩ := Kd.R_slice HO276.out; subst eo46) | ((with_reducible refine gate_builtin (b := .append) (xs := #[.tmp 68, .tmp 71]) rfl ?_); at_builtin; refine Kd.R_append_rows (Kd.int .u8) (w0 := w) w.heap.size rfl (.tmp 68) (.tmp 71) 36 5 (.int .u8 0) 1 rfl Try.underlying36 info5 rfl (by decide) (by omega) u3 x3_3 t274 _ _ _ (fun k_ => some k_ ≠ (.slice Ao46 t274.length co46 : Value).ownBlock) (fun _ => False) rfl rfl ?aO ?aR (fun _ _ h => h) (fun _ h => h.elim) ?aF ?aB ?aS ?aL ?_; (case aR => exact Cs (Kd.R_reads' HO276.out).2.2); (case aB => exact (Ls HB)); (case aF => exact (fun k_ hk => Kd.fresh' (Kd.R_lt (Rs HO276.out)) k_ hk)); (case aO => exact (Rs (Kd.R_mono HO_3.out (fun _ hk => hk.2)))); (case aS => exact (Lz HB)); (case aL => have := LMc37.out; omega); intro v278 w45 ho hb hg hat; rw [← Ny277.out] at ho; have n0_ := Aside0.mk (blk_grown (g := gb243) (o := .cells #[.slice (some ad272) l0_0.length c0_0, .bool a0_1, .int .i64 a0_2, .int .i64 a0_3, .int .i64 a0_4, .int .i64 a0_5, .int .i64 a0_6, .int .i64 a0_7, .slice A0_8 l0_8.length c0_8] 63 (0, 0)) (Bs BK243.out) hg (Kd.R_ne HO_3.out BK243.out (by decide))); have n1_ := Aside0.mk (blk_grown (g := gb273) (o := .cells #[.int .i64 ((rd_T87 l0_0 x6_3).f0), .slice A272_1 ((rd_T87 l0_0 x6_3).f1).length c272_1] 87 (0, 0)) (Bs BK273.out) hg (Kd.R_ne HO_3.out BK273.out (by decide))); have n2_ := Aside0.mk (Kd.R_after (ok := (fun _ => True)) (Rs HO276.out) hg hat); have n3_ := Aside0.mk (hb); have n4_ := Aside0.mk (ho); clear BK243 BK273 HO276 HB HO_3; have BK243 := n0_; have BK273 := n1_; have HO276 := n2_; have HB := n3_; have HO279 := n4_; clear n0_ n1_ n2_ n3_ n4_; clear ho hb hg hat; have hcz47_0 : w45.cell? ⟨gb273, 0, none⟩ = some (.int .i64 ((rd_T87 l0_0 x6_3).f0)) := (blk_cell BK273.out 0).trans rfl; have hcz47_1 : w45.cell? ⟨gb273, 1, none⟩ = some (.slice A272_1 ((rd_T87 l0_0 x6_3).f1).length c272_1) := (blk_cell BK273.out 1).trans rfl; have hfz47_0 := blk_frozen BK273.out 0; have hfz47_1 := blk_frozen BK273.out 1) | ((with_reducible refine gate_callee (f := 19) rfl ?_); refine goesL_ (some 77) rfl rfl Try.func19 (by kernel_rfl) rfl #[.int .i64 (((rd_T87 l0_0 x6_3).f1).length : Int)] rfl (by (try simp only [List.map_toArray, List.map_cons, List.map_nil]); first | done | rfl | (simp only [List.length_drop, List.length_take]; rfl)) ?_; (with_reducible refine (trommelref39_Int.calls (((rd_T87 l0_0 x6_3).f1).length : Int) t280 _ A38.out).mono ?_); rintro e w48 ⟨v281, rfl, ho0, hb⟩; refine ⟨_, rfl, ?_⟩; have n0_ := Aside0.mk (Kd.R_elder' (Rs HO276.out) (Kd.R_base ho0) hb); have n1_ := Aside0.mk (Kd.R_elder' (Rs HO279.out) (Kd.R_base ho0) hb); have n2_ := Aside0.mk (Kd.R_lower (Kd.R_new' (Kd.R_new' ho0 (Kd.R_lt (Rs HO276.out))) (Kd.R_lt (Rs HO279.out))) (Lz HB)); have n3_ := Aside0.mk (blk_below (g := gb243) (o := .cells #[.slice (some ad272) l0_0.length c0_0, .bool a0_1, .int .i64 a0_2, .int .i64 a0_3, .int .i64 a0_4, .int .i64 a0_5, .int .i64 a0_6, .int .i64 a0_7, .slice A0_8 l0_8.length c0_8] 63 (0, 0)) (Bs BK243.out) hb); have n4_ := Aside0.mk (blk_below (g := gb273) (o := .cells #[.int .i64 ((rd_T87 l0_0 x6_3).f0), .slice A272_1 ((rd_T87 l0_0 x6_3).f1).length c272_1] 87 (0, 0)) (Bs BK273.out) hb); have n5_ := Lb HB hb; clear HO276 HO279 BK243 BK273 HB; have HO276 := n0_; have HO279 := n1_; have HO282 := n2_; have BK243 := n3_; have BK273 := n4_; have HB := n5_; clear n0_ n1_ n2_ n3_ n4_ n5_; (try clear hb); (try clear hb2); (try clear hk); (try clear hi); (try clear ho0); obtain ⟨Ao50, co50, eo50⟩ := Kd.R_slice HO282.out; subst eo50) | ((with_reducible refine gate_builtin (b := .append) (xs := #[.tmp 73, .tmp 77]) rfl ?_); at_builtin; refine Kd.R_append_rows (Kd.int .u8) (w0 := w) w.heap.size rfl (.tmp 73) (.tmp 77) 36 5 (.int .u8 0) 1 rfl Try.underlying36 info5 rfl (by decide) (by omega) v278 y277 t280 _ _ _ (fun k_ => some k_ ≠ (.slice Ao46 t274.length co46 : Value).ownBlock ∧ some k_ ≠ (.slice Ao50 t280.length co50 : Value).ownBlock) (fun _ => False) rfl rfl ?aO ?aR (fun _ _ h => h) (fun _ h => h.elim) ?aF ?aB ?aS ?aL ?_; (case aR => exact Cs (Kd.R_reads' HO282.out).2.2); (case aB => exact (Ls HB)); (case aF => exact (fun k_ hk => ⟨Kd.fresh' (Kd.R_lt (Rs HO276.out)) k_ hk, Kd.fresh' (Kd.R_lt (Rs HO282.out)) k_ hk⟩)); (case aO => exact (Rs HO279.out)); (case aS => exact (Lz HB)); (case aL => have := LMc39.out; omega); intro v284 w49 ho hb hg hat; rw [← Ny283.out] at ho; have n0_ := Aside0.mk (blk_grown (g := gb243) (o := .cells #[.slice (some ad272) l0_0.length c0_0, .bool a0_1, .int .i64 a0_2, .int .i64 a0_3, .int .i64 a0_4, .int .i64 a0_5, .int .i64 a0_6, .int .i64 a0_7, .slice A0_8 l0_8.length c0_8] 63 (0, 0)) (Bs BK243.out) hg (Kd.R_ne HO279.out BK243.out (by decide))); have n1_ := Aside0.mk (blk_grown (g := gb273) (o := .cells #[.int .i64 ((rd_T87 l0_0 x6_3).f0), .slice A272_1 ((rd_T87 l0_0 x6_3).f1).length c272_1] 87 (0, 0)) (Bs BK273.out) hg (Kd.R_ne HO279.out BK273.out (by decide))); have n2_ := Aside0.mk (Kd.R_after (ok := (fun k_ => some k_ ≠ (.slice Ao50 t280.length co50 : Value).ownBlock)) (Rs (Kd.R_mono HO276.out (fun _ hk => ⟨hk.2, hk.1.2⟩))) hg hat); have n3_ := Aside0.mk (Kd.R_after (ok := (fun k_ => some k_ ≠ (.slice Ao46 t274.length co46 : Value).ownBlock)) (Rs (Kd.R_mono HO282.out (fun _ hk => ⟨hk.1.2, hk.2⟩))) hg hat); have n4_ := Aside0.mk (hb); have n5_ := Aside0.mk (ho); clear BK243 BK273 HO276 HO282 HB HO279; have BK243 := n0_; have BK273 := n1_; have HO276 := n2_; have HO282 := n3_; have HB := n4_; have HO285 := n5_; clear n0_ n1_ n2_ n3_ n4_ n5_; clear ho hb hg hat))
                  go_loopg [3, 8] k3 (fun kq v3 v8 w' => ∃ (x3_4 : List Int) (x8_4 : Int), v8 = .int .i64 x8_4 ∧ Aside0 (trommelref39_Bytes.l2 kq x3_4 x6_3 x8_4 l0_0 a0_1 a0_2 a0_3 a0_4 a0_5 a0_6 a0_7 l0_8 ((rd_T87 l0_0 x6_3).f0) ((rd_T87 l0_0 x6_3).f1) = some r) ∧ Aside0 (kq ≤ k3) ∧ Aside0 (Kd.R (Kd.int .u8) 5 w' w.heap.size (fun _ => True) v3 x3_4) ∧ Aside0 (w'.heap[gb243]? = some (.cells #[(.slice (some ad272) l0_0.length c0_0), .bool a0_1, .int .i64 a0_2, .int .i64 a0_3, .int .i64 a0_4, .int .i64 a0_5, .int .i64 a0_6, .int .i64 a0_7, (.slice A0_8 l0_8.length c0_8)] 63 (0, 0))) ∧ Aside0 (w'.heap[gb273]? = some (.cells #[.int .i64 ((rd_T87 l0_0 x6_3).f0), (.slice A272_1 ((rd_T87 l0_0 x6_3).f1).length c272_1)] 87 (0, 0))) ∧ Aside0 (Below w.heap.size w w'))
                  case atStart => exact ⟨(y283), (0), (by first | rfl | (simp; done) | (simp [*]; done)), H', ⟨Nat.le_refl _⟩, ⟨by (with_reducible repeat (first | apply Kd.R_alloc | apply Kd.R_drewN | apply Kd.R_drew)); exact Kd.R_mono HO285.out (fun _ hk => trivial)⟩, ⟨Bs BK243.out⟩, ⟨Bs BK273.out⟩, ⟨Ls HB⟩⟩
                  case round =>
                    clear H'
                    try clear c1; try clear c2; try clear p2; try clear q2; try clear hx2; try clear c3; try clear c4; try clear p6; try clear c7; try clear c13; try clear c13b0; try clear c14; try clear c14b0; try clear c16; try clear c19; try clear c20; try clear c22; try clear c24; try clear p25; try clear q25; try clear hx25; try clear c27; try clear p27; try clear q27; try clear hx27; try clear c34; try clear c34b0; try clear c35; try clear c35b0; try clear c37; try clear c39; try clear c42; try clear hcz10_0; try clear hcz10_1; try clear hcz10_2; try clear hcz10_3; try clear hcz10_4; try clear hcz10_5; try clear hcz10_6; try clear hcz10_7; try clear hcz10_8; try clear hcz26_0; try clear hcz26_1; try clear hcz26_2; try clear hcz26_3; try clear hcz26_4; try clear hcz26_5; try clear hcz26_6; try clear hcz26_7; try clear hcz26_8; try clear hcz30_0; try clear hcz30_1; try clear hcz30_2; try clear hcz30_3; try clear hcz30_4; try clear hcz30_5; try clear hcz30_6; try clear hcz30_7; try clear hcz30_8; try clear hcz40_0; try clear hcz40_1; try clear hcz40_2; try clear hcz40_3; try clear hcz40_4; try clear hcz40_5; try clear hcz40_6; try clear hcz40_7; try clear hcz40_8; try clear hcz43_0; try clear hcz43_1; try clear hcz47_0; try clear hcz47_1; try clear hcz6_0; try clear hcz6_1; try clear hcz6_2; try clear hcz6_3; try clear hcz6_4; try clear hcz6_5; try clear hcz6_6; try clear hcz6_7; try clear hcz6_8; try clear hfz10_0; try clear hfz10_1; try clear hfz10_2; try clear hfz10_3; try clear hfz10_4; try clear hfz10_5; try clear hfz10_6; try clear hfz10_7; try clear hfz10_8; try clear hfz26_0; try clear hfz26_1; try clear hfz26_2; try clear hfz26_3; try clear hfz26_4; try clear hfz26_5; try clear hfz26_6; try clear hfz26_7; try clear hfz26_8; try clear hfz30_0; try clear hfz30_1; try clear hfz30_2; try clear hfz30_3; try clear hfz30_4; try clear hfz30_5; try clear hfz30_6; try clear hfz30_7; try clear hfz30_8; try clear hfz40_0; try clear hfz40_1; try clear hfz40_2; try clear hfz40_3; try clear hfz40_4; try clear hfz40_5; try clear hfz40_6; try clear hfz40_7; try clear hfz40_8; try clear hfz43_0; try clear hfz43_1; try clear hfz47_0; try clear hfz47_1; try clear hfz6_0; try clear hfz6_1; try clear hfz6_2; try clear hfz6_3; try clear hfz6_4; try clear hfz6_5; try clear hfz6_6; try clear hfz6_7; try clear hfz6_8; try clear hx253_0; try clear hx272_0; try clear hx272_1; try clear p2; try clear p25; try clear p253; try clear p272; try clear p6; try clear q2; try clear q25; try clear q253; try clear q272
                    obtain ⟨x3_4, x8_4, rfl, HA, HK4, HO_3, BK243, BK273, HB⟩ := hrel
                    cases gk with
                    | zero => exact absurd HA.out (by simp [trommelref39_Bytes.l2])
                    | succ k4 =>
                      have H := HA.out
                      clear HA
                      simp only [trommelref39_Bytes.l2] at H
                      by_cases c51 : x8_4 < (((rd_T87 l0_0 x6_3).f1).length : Int)
                      · rw [if_pos c51] at H
                        have c51b0 : decide (x8_4 < (((rd_T87 l0_0 x6_3).f1).length : Int)) = true := decide_eq_true c51
                        clear c51
                        refine bc (p := (0 ≤ x8_4)) (fun c52 => ?_) (fun c52 => ?_)
                        · rw [if_neg c52] at H
                          exact absurd H (by simp)
                        rw [if_pos c52] at H
                        have c52b0 : decide (0 ≤ x8_4) = true := decide_eq_true c52
                        clear c52
                        replace H := Option.bind_eq_some_iff.mp H
                        obtain ⟨t287, A530, H⟩ := H
                        replace H : (if x3_4.length + t287.length < 140737488355328 then ((some (x3_4 ++ t287 : List Int)).bind fun y290 => ((trommelref39_Int.f ((rd_T89 ((rd_T87 l0_0 x6_3).f1) x8_4).f1)).bind fun t294 => (if y290.length + t294.length < 140737488355328 then ((some (y290 ++ t294 : List Int)).bind fun y297 => ((trommelref39_Ints.f k4 ((rd_T89 ((rd_T87 l0_0 x6_3).f1) x8_4).f2)).bind fun t301 => (if y297.length + t301.length < 140737488355328 then (trommelref39_Bytes.l2 k4 (y297 ++ t301) x6_3 (wrap64 (x8_4 + 1)) l0_0 a0_1 a0_2 a0_3 a0_4 a0_5 a0_6 a0_7 l0_8 ((rd_T87 l0_0 x6_3).f0) ((rd_T87 l0_0 x6_3).f1)) else (none)))) else (none)))) else (none)) = some r := H
                        have A53 := Aside0.mk A530
                        clear A530
                        refine bc (p := (x3_4.length + t287.length < 140737488355328)) (fun c54 => ?_) (fun c54 => ?_)
                        · rw [if_neg c54] at H
                          exact absurd H (by simp)
                        rw [if_pos c54] at H
                        have LMc54 := Aside0.mk c54
                        clear c54
                        obtain ⟨y290, hy290⟩ : ∃ y_ : List Int, y_ = (x3_4 ++ t287) := ⟨_, rfl⟩
                        replace H : ((trommelref39_Int.f ((rd_T89 ((rd_T87 l0_0 x6_3).f1) x8_4).f1)).bind fun t294 => (if y290.length + t294.length < 140737488355328 then ((some (y290 ++ t294 : List Int)).bind fun y297 => ((trommelref39_Ints.f k4 ((rd_T89 ((rd_T87 l0_0 x6_3).f1) x8_4).f2)).bind fun t301 => (if y297.length + t301.length < 140737488355328 then (trommelref39_Bytes.l2 k4 (y297 ++ t301) x6_3 (wrap64 (x8_4 + 1)) l0_0 a0_1 a0_2 a0_3 a0_4 a0_5 a0_6 a0_7 l0_8 ((rd_T87 l0_0 x6_3).f0) ((rd_T87 l0_0 x6_3).f1)) else (none)))) else (none))) = some r := by first | (rw [hy290]; with_reducible exact H) | (have H2_ := (Option.bind_some _ _).symm.trans H; rw [hy290]; with_reducible exact H2_) | (have H2_ := (Option.bind_some _ _).symm.trans H; with_reducible exact H2_) | with_reducible exact H | (rw [hy290]; exact H) | exact H
                        have Ny290 := Aside0.mk hy290
                        clear hy290
                        replace H := Option.bind_eq_some_iff.mp H
                        obtain ⟨t294, A550, H⟩ := H
                        replace H : (if y290.length + t294.length < 140737488355328 then ((some (y290 ++ t294 : List Int)).bind fun y297 => ((trommelref39_Ints.f k4 ((rd_T89 ((rd_T87 l0_0 x6_3).f1) x8_4).f2)).bind fun t301 => (if y297.length + t301.length < 140737488355328 then (trommelref39_Bytes.l2 k4 (y297 ++ t301) x6_3 (wrap64 (x8_4 + 1)) l0_0 a0_1 a0_2 a0_3 a0_4 a0_5 a0_6 a0_7 l0_8 ((rd_T87 l0_0 x6_3).f0) ((rd_T87 l0_0 x6_3).f1)) else (none)))) else (none)) = some r := H
                        have A55 := Aside0.mk A550
                        clear A550
                        refine bc (p := (y290.length + t294.length < 140737488355328)) (fun c56 => ?_) (fun c56 => ?_)
                        · rw [if_neg c56] at H
                          exact absurd H (by simp)
                        rw [if_pos c56] at H
                        have LMc56 := Aside0.mk c56
                        clear c56
                        obtain ⟨y297, hy297⟩ : ∃ y_ : List Int, y_ = (y290 ++ t294) := ⟨_, rfl⟩
                        replace H : ((trommelref39_Ints.f k4 ((rd_T89 ((rd_T87 l0_0 x6_3).f1) x8_4).f2)).bind fun t301 => (if y297.length + t301.length < 140737488355328 then (trommelref39_Bytes.l2 k4 (y297 ++ t301) x6_3 (wrap64 (x8_4 + 1)) l0_0 a0_1 a0_2 a0_3 a0_4 a0_5 a0_6 a0_7 l0_8 ((rd_T87 l0_0 x6_3).f0) ((rd_T87 l0_0 x6_3).f1)) else (none))) = some r := by first | (rw [hy297]; with_reducible exact H) | (have H2_ := (Option.bind_some _ _).symm.trans H; rw [hy297]; with_reducible exact H2_) | (have H2_ := (Option.bind_some _ _).symm.trans H; with_reducible exact H2_) | with_reducible exact H | (rw [hy297]; exact H) | exact H
                        have Ny297 := Aside0.mk hy297
                        clear hy297
                        replace H := Option.bind_eq_some_iff.mp H
                        obtain ⟨t301, A570, H⟩ := H
                        replace H : (if y297.length + t301.length < 140737488355328 then (trommelref39_Bytes.l2 k4 (y297 ++ t301) x6_3 (wrap64 (x8_4 + 1)) l0_0 a0_1 a0_2 a0_3 a0_4 a0_5 a0_6 a0_7 l0_8 ((rd_T87 l0_0 x6_3).f0) ((rd_T87 l0_0 x6_3).f1)) else (none)) = some r := H
                        have A57 := Aside0.mk A570
                        clear A570
                        refine bc (p := (y297.length + t301.length < 140737488355328)) (fun c58 => ?_) (fun c58 => ?_)
                        · rw [if_neg c58] at H
                          exact absurd H (by simp)
                        rw [if_pos c58] at H
                        have LMc58 := Aside0.mk c58
                        clear c58
                        obtain ⟨y304, hy304⟩ : ∃ y_ : List Int, y_ = (y297 ++ t301) := ⟨_, rfl⟩
                        replace H : (trommelref39_Bytes.l2 k4 y304 x6_3 (wrap64 (x8_4 + 1)) l0_0 a0_1 a0_2 a0_3 a0_4 a0_5 a0_6 a0_7 l0_8 ((rd_T87 l0_0 x6_3).f0) ((rd_T87 l0_0 x6_3).f1)) = some r := by first | (rw [hy304]; with_reducible exact H) | (have H2_ := (Option.bind_some _ _).symm.trans H; rw [hy304]; with_reducible exact H2_) | (have H2_ := (Option.bind_some _ _).symm.trans H; with_reducible exact H2_) | with_reducible exact H | (rw [hy304]; exact H) | exact H
                        have Ny304 := Aside0.mk hy304
                        clear hy304
                        have H' := Aside0.mk H
                        clear H
                        have hnb59 := NB273_243.out
                        have hnc59 := NB243_273.out
                        have hcz60_0 : wr.cell? ⟨gb273, 0, none⟩ = some (.int .i64 ((rd_T87 l0_0 x6_3).f0)) := (blk_cell BK273.out 0).trans rfl
                        have hcz60_1 : wr.cell? ⟨gb273, 1, none⟩ = some (.slice A272_1 ((rd_T87 l0_0 x6_3).f1).length c272_1) := (blk_cell BK273.out 1).trans rfl
                        have hfz60_0 := blk_frozen BK273.out 0
                        have hfz60_1 := blk_frozen BK273.out 1
                        have p286 : 0 ≤ (x8_4 : Int) := of_decide_eq_true (by first | (with_reducible assumption) | assumption)
                        have q286 : x8_4 < (((rd_T87 l0_0 x6_3).f1).length : Int) := of_decide_eq_true (by first | (with_reducible assumption) | assumption)
                        obtain ⟨ad286, A286_2, c286_2, e286, hx286_0, hx286_1, hx286_2, hl286_2, hi286_2⟩ := at_T89 HR272_1.out x8_4 p286 q286
                        cases e286
                        replace hx286_0 := (HB.out.cell (World.block_lt_of_cell? w _ hx286_0)).trans hx286_0
                        replace hx286_1 := (HB.out.cell (World.block_lt_of_cell? w _ hx286_1)).trans hx286_1
                        replace hx286_2 := (HB.out.cell (World.block_lt_of_cell? w _ hx286_2)).trans hx286_2
                        have HR286_2 := Aside0.mk hi286_2
                        have HC286_2 := Aside0.mk hl286_2
                        clear hi286_2 hl286_2
                        replace p286 := eq_true p286
                        replace q286 := eq_true q286
                        go_wp2_with (first | ((with_reducible refine gate_callee (f := 19) rfl ?_); refine goesL_ (some 93) rfl rfl Try.func19 (by kernel_rfl) rfl #[.int .i64 ((rd_T89 ((rd_T87 l0_0 x6_3).f1) x8_4).f0)] rfl (by (try simp only [List.map_toArray, List.map_cons, List.map_nil]); first | done | rfl | (simp only [List.length_drop, List.length_take]; rfl)) ?_; (with_reducible refine (trommelref39_Int.calls ((rd_T89 ((rd_T87 l0_0 x6_3).f1) x8_4).f0) t287 _ A53.out).mono ?_); rintro e w61 ⟨v288, rfl, ho0, hb⟩; refine ⟨_, rfl, ?_⟩; have n0_ := Aside0.mk (Kd.R_elder' (Rs HO_3.out) (Kd.R_base ho0) hb); have n1_ := Aside0.mk (Kd.R_lower (Kd.R_new' ho0 (Kd.R_lt (Rs HO_3.out))) (Lz HB)); have n2_ := Aside0.mk (blk_below (g := gb243) (o := .cells #[.slice (some ad272) l0_0.length c0_0, .bool a0_1, .int .i64 a0_2, .int .i64 a0_3, .int .i64 a0_4, .int .i64 a0_5, .int .i64 a0_6, .int .i64 a0_7, .slice A0_8 l0_8.length c0_8] 63 (0, 0)) (Bs BK243.out) hb); have n3_ := Aside0.mk (blk_below (g := gb273) (o := .cells #[.int .i64 ((rd_T87 l0_0 x6_3).f0), .slice (some ad286) ((rd_T87 l0_0 x6_3).f1).length c272_1] 87 (0, 0)) (Bs BK273.out) hb); have n4_ := Lb HB hb; clear HO_3 BK243 BK273 HB; have HO_3 := n0_; have HO289 := n1_; have BK243 := n2_; have BK273 := n3_; have HB := n4_; clear n0_ n1_ n2_ n3_ n4_; (try clear hb); (try clear hb2); (try clear hk); (try clear hi); (try clear ho0); obtain ⟨Ao63, co63, eo63⟩ := Kd.R_slice HO289.out; subst eo63) | ((with_reducible refine gate_builtin (b := .append) (xs := #[.tmp 86, .tmp 93]) rfl ?_); at_builtin; refine Kd.R_append_rows (Kd.int .u8) (w0 := w) w.heap.size rfl (.tmp 86) (.tmp 93) 36 5 (.int .u8 0) 1 rfl Try.underlying36 info5 rfl (by decide) (by omega) u3 x3_4 t287 _ _ _ (fun k_ => some k_ ≠ (.slice Ao63 t287.length co63 : Value).ownBlock) (fun _ => False) rfl rfl ?aO ?aR (fun _ _ h => h) (fun _ h => h.elim) ?aF ?aB ?aS ?aL ?_; (case aR => exact Cs (Kd.R_reads' HO289.out).2.2); (case aB => exact (Ls HB)); (case aF => exact (fun k_ hk => Kd.fresh' (Kd.R_lt (Rs HO289.out)) k_ hk)); (case aO => exact (Rs (Kd.R_mono HO_3.out (fun _ hk => hk.2)))); (case aS => exact (Lz HB)); (case aL => have := LMc54.out; omega); intro v291 w62 ho hb hg hat; rw [← Ny290.out] at ho; have n0_ := Aside0.mk (blk_grown (g := gb243) (o := .cells #[.slice (some ad272) l0_0.length c0_0, .bool a0_1, .int .i64 a0_2, .int .i64 a0_3, .int .i64 a0_4, .int .i64 a0_5, .int .i64 a0_6, .int .i64 a0_7, .slice A0_8 l0_8.length c0_8] 63 (0, 0)) (Bs BK243.out) hg (Kd.R_ne HO_3.out BK243.out (by decide))); have n1_ := Aside0.mk (blk_grown (g := gb273) (o := .cells #[.int .i64 ((rd_T87 l0_0 x6_3).f0), .slice (some ad286) ((rd_T87 l0_0 x6_3).f1).length c272_1] 87 (0, 0)) (Bs BK273.out) hg (Kd.R_ne HO_3.out BK273.out (by decide))); have n2_ := Aside0.mk (Kd.R_after (ok := (fun _ => True)) (Rs HO289.out) hg hat); have n3_ := Aside0.mk (hb); have n4_ := Aside0.mk (ho); clear BK243 BK273 HO289 HB HO_3; have BK243 := n0_; have BK273 := n1_; have HO289 := n2_; have HB := n3_; have HO292 := n4_; clear n0_ n1_ n2_ n3_ n4_; clear ho hb hg hat; have hcz64_0 : w62.cell? ⟨gb273, 0, none⟩ = some (.int .i64 ((rd_T87 l0_0 x6_3).f0)) := (blk_cell BK273.out 0).trans rfl; have hcz64_1 : w62.cell? ⟨gb273, 1, none⟩ = some (.slice (some ad286) ((rd_T87 l0_0 x6_3).f1).length c272_1) := (blk_cell BK273.out 1).trans rfl; have hfz64_0 := blk_frozen BK273.out 0; have hfz64_1 := blk_frozen BK273.out 1; have p293 : 0 ≤ (x8_4 : Int) := of_decide_eq_true (by first | (with_reducible assumption) | assumption); have q293 : x8_4 < (((rd_T87 l0_0 x6_3).f1).length : Int) := of_decide_eq_true (by first | (with_reducible assumption) | assumption); obtain ⟨ad293, A293_2, c293_2, e293, hx293_0, hx293_1, hx293_2, hl293_2, hi293_2⟩ := at_T89 HR272_1.out x8_4 p293 q293; obtain rfl : ad286 = ad293 := (by injection e293); replace hx293_0 := (HB.out.cell (World.block_lt_of_cell? w _ hx293_0)).trans hx293_0; replace hx293_1 := (HB.out.cell (World.block_lt_of_cell? w _ hx293_1)).trans hx293_1; replace hx293_2 := (HB.out.cell (World.block_lt_of_cell? w _ hx293_2)).trans hx293_2; have HR293_2 := Aside0.mk hi293_2; have HC293_2 := Aside0.mk hl293_2; clear hi293_2 hl293_2; replace p293 := eq_true p293; replace q293 := eq_true q293) | ((with_reducible refine gate_callee (f := 19) rfl ?_); refine goesL_ (some 102) rfl rfl Try.func19 (by kernel_rfl) rfl #[.int .i64 ((rd_T89 ((rd_T87 l0_0 x6_3).f1) x8_4).f1)] rfl (by (try simp only [List.map_toArray, List.map_cons, List.map_nil]); first | done | rfl | (simp only [List.length_drop, List.length_take]; rfl)) ?_; (with_reducible refine (trommelref39_Int.calls ((rd_T89 ((rd_T87 l0_0 x6_3).f1) x8_4).f1) t294 _ A55.out).mono ?_); rintro e w65 ⟨v295, rfl, ho0, hb⟩; refine ⟨_, rfl, ?_⟩; have n0_ := Aside0.mk (Kd.R_elder' (Rs HO289.out) (Kd.R_base ho0) hb); have n1_ := Aside0.mk (Kd.R_elder' (Rs HO292.out) (Kd.R_base ho0) hb); have n2_ := Aside0.mk (Kd.R_lower (Kd.R_new' (Kd.R_new' ho0 (Kd.R_lt (Rs HO289.out))) (Kd.R_lt (Rs HO292.out))) (Lz HB)); have n3_ := Aside0.mk (blk_below (g := gb243) (o := .cells #[.slice (some ad272) l0_0.length c0_0, .bool a0_1, .int .i64 a0_2, .int .i64 a0_3, .int .i64 a0_4, .int .i64 a0_5, .int .i64 a0_6, .int .i64 a0_7, .slice A0_8 l0_8.length c0_8] 63 (0, 0)) (Bs BK243.out) hb); have n4_ := Aside0.mk (blk_below (g := gb273) (o := .cells #[.int .i64 ((rd_T87 l0_0 x6_3).f0), .slice (some ad286) ((rd_T87 l0_0 x6_3).f1).length c272_1] 87 (0, 0)) (Bs BK273.out) hb); have n5_ := Lb HB hb; clear HO289 HO292 BK243 BK273 HB; have HO289 := n0_; have HO292 := n1_; have HO296 := n2_; have BK243 := n3_; have BK273 := n4_; have HB := n5_; clear n0_ n1_ n2_ n3_ n4_ n5_; (try clear hb); (try clear hb2); (try clear hk); (try clear hi); (try clear ho0); obtain ⟨Ao67, co67, eo67⟩ := Kd.R_slice HO296.out; subst eo67) | ((with_reducible refine gate_builtin (b := .append) (xs := #[.tmp 95, .tmp 102]) rfl ?_); at_builtin; refine Kd.R_append_rows (Kd.int .u8) (w0 := w) w.heap.size rfl (.tmp 95) (.tmp 102) 36 5 (.int .u8 0) 1 rfl Try.underlying36 info5 rfl (by decide) (by omega) v291 y290 t294 _ _ _ (fun k_ => some k_ ≠ (.slice Ao63 t287.length co63 : Value).ownBlock ∧ some k_ ≠ (.slice Ao67 t294.length co67 : Value).ownBlock) (fun _ => False) rfl rfl ?aO ?aR (fun _ _ h => h) (fun _ h => h.elim) ?aF ?aB ?aS ?aL ?_; (case aR => exact Cs (Kd.R_reads' HO296.out).2.2); (case aB => exact (Ls HB)); (case aF => exact (fun k_ hk => ⟨Kd.fresh' (Kd.R_lt (Rs HO289.out)) k_ hk, Kd.fresh' (Kd.R_lt (Rs HO296.out)) k_ hk⟩)); (case aO => exact (Rs HO292.out)); (case aS => exact (Lz HB)); (case aL => have := LMc56.out; omega); intro v298 w66 ho hb hg hat; rw [← Ny297.out] at ho; have n0_ := Aside0.mk (blk_grown (g := gb243) (o := .cells #[.slice (some ad272) l0_0.length c0_0, .bool a0_1, .int .i64 a0_2, .int .i64 a0_3, .int .i64 a0_4, .int .i64 a0_5, .int .i64 a0_6, .int .i64 a0_7, .slice A0_8 l0_8.length c0_8] 63 (0, 0)) (Bs BK243.out) hg (Kd.R_ne HO292.out BK243.out (by decide))); have n1_ := Aside0.mk (blk_grown (g := gb273) (o := .cells #[.int .i64 ((rd_T87 l0_0 x6_3).f0), .slice (some ad286) ((rd_T87 l0_0 x6_3).f1).length c272_1] 87 (0, 0)) (Bs BK273.out) hg (Kd.R_ne HO292.out BK273.out (by decide))); have n2_ := Aside0.mk (Kd.R_after (ok := (fun k_ => some k_ ≠ (.slice Ao67 t294.length co67 : Value).ownBlock)) (Rs (Kd.R_mono HO289.out (fun _ hk => ⟨hk.2, hk.1.2⟩))) hg hat); have n3_ := Aside0.mk (Kd.R_after (ok := (fun k_ => some k_ ≠ (.slice Ao63 t287.length co63 : Value).ownBlock)) (Rs (Kd.R_mono HO296.out (fun _ hk => ⟨hk.1.2, hk.2⟩))) hg hat); have n4_ := Aside0.mk (hb); have n5_ := Aside0.mk (ho); clear BK243 BK273 HO289 HO296 HB HO292; have BK243 := n0_; have BK273 := n1_; have HO289 := n2_; have HO296 := n3_; have HB := n4_; have HO299 := n5_; clear n0_ n1_ n2_ n3_ n4_ n5_; clear ho hb hg hat; have hcz68_0 : w66.cell? ⟨gb273, 0, none⟩ = some (.int .i64 ((rd_T87 l0_0 x6_3).f0)) := (blk_cell BK273.out 0).trans rfl; have hcz68_1 : w66.cell? ⟨gb273, 1, none⟩ = some (.slice (some ad286) ((rd_T87 l0_0 x6_3).f1).length c272_1) := (blk_cell BK273.out 1).trans rfl; have hfz68_0 := blk_frozen BK273.out 0; have hfz68_1 := blk_frozen BK273.out 1; have p300 : 0 ≤ (x8_4 : Int) := of_decide_eq_true (by first | (with_reducible assumption) | assumption); have q300 : x8_4 < (((rd_T87 l0_0 x6_3).f1).length : Int) := of_decide_eq_true (by first | (with_reducible assumption) | assumption); obtain ⟨ad300, A300_2, c300_2, e300, hx300_0, hx300_1, hx300_2, hl300_2, hi300_2⟩ := at_T89 HR272_1.out x8_4 p300 q300; obtain rfl : ad286 = ad300 := (by injection e300); replace hx300_0 := (HB.out.cell (World.block_lt_of_cell? w _ hx300_0)).trans hx300_0; replace hx300_1 := (HB.out.cell (World.block_lt_of_cell? w _ hx300_1)).trans hx300_1; replace hx300_2 := (HB.out.cell (World.block_lt_of_cell? w _ hx300_2)).trans hx300_2; have HR300_2 := Aside0.mk hi300_2; have HC300_2 := Aside0.mk hl300_2; clear hi300_2 hl300_2; replace p300 := eq_true p300; replace q300 := eq_true q300) | ((with_reducible refine gate_callee (f := 20) rfl ?_); refine goesL_ (some 111) rfl rfl Try.func20 (by kernel_rfl) rfl #[.slice A300_2 ((rd_T89 ((rd_T87 l0_0 x6_3).f1) x8_4).f2).length c300_2] rfl (by (try simp only [List.map_toArray, List.map_cons, List.map_nil]); first | done | rfl | (simp only [List.length_drop, List.length_take]; rfl)) ?_; (with_reducible refine (trommelref39_Ints.calls k4 _ _ ((rd_T89 ((rd_T87 l0_0 x6_3).f1) x8_4).f2) t301 _ ?side1 ?side2 A57.out).mono ?_); (case side1 => repeat (first | exact (Kd.C_below HR300_2.out HB.out) | (with_reducible refine Kd.C_alloc ?_ _) | (with_reducible refine Kd.C_drewN ?_ _) | (with_reducible refine Kd.C_drew ?_))); (case side2 => exact HC300_2.out); rintro e w69 ⟨v302, rfl, ho0, hb⟩; refine ⟨_, rfl, ?_⟩; have n0_ := Aside0.mk (Kd.R_elder' (Rs HO289.out) (Kd.R_base ho0) hb); have n1_ := Aside0.mk (Kd.R_elder' (Rs HO296.out) (Kd.R_base ho0) hb); have n2_ := Aside0.mk (Kd.R_elder' (Rs HO299.out) (Kd.R_base ho0) hb); have n3_ := Aside0.mk (Kd.R_lower (Kd.R_new' (Kd.R_new' (Kd.R_new' ho0 (Kd.R_lt (Rs HO289.out))) (Kd.R_lt (Rs HO296.out))) (Kd.R_lt (Rs HO299.out))) (Lz HB)); have n4_ := Aside0.mk (blk_below (g := gb243) (o := .cells #[.slice (some ad272) l0_0.length c0_0, .bool a0_1, .int .i64 a0_2, .int .i64 a0_3, .int .i64 a0_4, .int .i64 a0_5, .int .i64 a0_6, .int .i64 a0_7, .slice A0_8 l0_8.length c0_8] 63 (0, 0)) (Bs BK243.out) hb); have n5_ := Aside0.mk (blk_below (g := gb273) (o := .cells #[.int .i64 ((rd_T87 l0_0 x6_3).f0), .slice (some ad286) ((rd_T87 l0_0 x6_3).f1).length c272_1] 87 (0, 0)) (Bs BK273.out) hb); have n6_ := Lb HB hb; clear HO289 HO296 HO299 BK243 BK273 HB; have HO289 := n0_; have HO296 := n1_; have HO299 := n2_; have HO303 := n3_; have BK243 := n4_; have BK273 := n5_; have HB := n6_; clear n0_ n1_ n2_ n3_ n4_ n5_ n6_; (try clear hb); (try clear hb2); (try clear hk); (try clear hi); (try clear ho0); obtain ⟨Ao71, co71, eo71⟩ := Kd.R_slice HO303.out; subst eo71) | ((with_reducible refine gate_builtin (b := .append) (xs := #[.tmp 104, .tmp 111]) rfl ?_); at_builtin; refine Kd.R_append_rows (Kd.int .u8) (w0 := w) w.heap.size rfl (.tmp 104) (.tmp 111) 36 5 (.int .u8 0) 1 rfl Try.underlying36 info5 rfl (by decide) (by omega) v298 y297 t301 _ _ _ (fun k_ => some k_ ≠ (.slice Ao63 t287.length co63 : Value).ownBlock ∧ some k_ ≠ (.slice Ao67 t294.length co67 : Value).ownBlock ∧ some k_ ≠ (.slice Ao71 t301.length co71 : Value).ownBlock) (fun _ => False) rfl rfl ?aO ?aR (fun _ _ h => h) (fun _ h => h.elim) ?aF ?aB ?aS ?aL ?_; (case aR => exact Cs (Kd.R_reads' HO303.out).2.2); (case aB => exact (Ls HB)); (case aF => exact (fun k_ hk => ⟨Kd.fresh' (Kd.R_lt (Rs HO289.out)) k_ hk, Kd.fresh' (Kd.R_lt (Rs HO296.out)) k_ hk, Kd.fresh' (Kd.R_lt (Rs HO303.out)) k_ hk⟩)); (case aO => exact (Rs (Kd.R_mono HO299.out (fun _ hk => ⟨hk.1.1, ⟨hk.1.2, hk.2⟩⟩)))); (case aS => exact (Lz HB)); (case aL => have := LMc58.out; omega); intro v305 w70 ho hb hg hat; rw [← Ny304.out] at ho; have n0_ := Aside0.mk (blk_grown (g := gb243) (o := .cells #[.slice (some ad272) l0_0.length c0_0, .bool a0_1, .int .i64 a0_2, .int .i64 a0_3, .int .i64 a0_4, .int .i64 a0_5, .int .i64 a0_6, .int .i64 a0_7, .slice A0_8 l0_8.length c0_8] 63 (0, 0)) (Bs BK243.out) hg (Kd.R_ne HO299.out BK243.out (by decide))); have n1_ := Aside0.mk (blk_grown (g := gb273) (o := .cells #[.int .i64 ((rd_T87 l0_0 x6_3).f0), .slice (some ad286) ((rd_T87 l0_0 x6_3).f1).length c272_1] 87 (0, 0)) (Bs BK273.out) hg (Kd.R_ne HO299.out BK273.out (by decide))); have n2_ := Aside0.mk (Kd.R_after (ok := (fun k_ => some k_ ≠ (.slice Ao67 t294.length co67 : Value).ownBlock ∧ some k_ ≠ (.slice Ao71 t301.length co71 : Value).ownBlock)) (Rs (Kd.R_mono HO289.out (fun _ hk => ⟨⟨hk.1.1, hk.2⟩, hk.1.2⟩))) hg hat); have n3_ := Aside0.mk (Kd.R_after (ok := (fun k_ => some k_ ≠ (.slice Ao63 t287.length co63 : Value).ownBlock ∧ some k_ ≠ (.slice Ao71 t301.length co71 : Value).ownBlock)) (Rs (Kd.R_mono HO296.out (fun _ hk => ⟨⟨hk.1.1, hk.2⟩, hk.1.2⟩))) hg hat); have n4_ := Aside0.mk (Kd.R_after (ok := (fun k_ => some k_ ≠ (.slice Ao63 t287.length co63 : Value).ownBlock ∧ some k_ ≠ (.slice Ao67 t294.length co67 : Value).ownBlock)) (Rs (Kd.R_mono HO303.out (fun _ hk => ⟨⟨hk.1.1.2, hk.1.2⟩, hk.2⟩))) hg hat); have n5_ := Aside0.mk (hb); have n6_ := Aside0.mk (ho); clear BK243 BK273 HO289 HO296 HO303 HB HO299; have BK243 := n0_; have BK273 := n1_; have HO289 := n2_; have HO296 := n3_; have HO303 := n4_; have HB := n5_; have HO306 := n6_; clear n0_ n1_ n2_ n3_ n4_ n5_ n6_; clear ho hb hg hat))
                        go_roundg k4
                        case measure => have := HJ2.out; have := HK2.out; have := HK3.out; have := HK4.out; omega
                        case rel => exact ⟨(y304), (wrap64 (x8_4 + 1)), (by first | rfl | (simp; done) | (simp [*]; done)), H', ⟨by have := HJ2.out; have := HK2.out; have := HK3.out; have := HK4.out; omega⟩, ⟨by (with_reducible repeat (first | apply Kd.R_alloc | apply Kd.R_drewN | apply Kd.R_drew)); exact Kd.R_mono HO306.out (fun _ hk => trivial)⟩, ⟨Bs BK243.out⟩, ⟨Bs BK273.out⟩, ⟨Ls HB⟩⟩
                      · rw [if_neg c51] at H
                        have c51b0 : decide (x8_4 < (((rd_T87 l0_0 x6_3).f1).length : Int)) = false := decide_eq_false c51
                        clear c51
                        have H' := Aside0.mk H
                        clear H
                        have hnb72 := NB273_243.out
                        have hnc72 := NB243_273.out
                        have hcz73_0 : wr.cell? ⟨gb273, 0, none⟩ = some (.int .i64 ((rd_T87 l0_0 x6_3).f0)) := (blk_cell BK273.out 0).trans rfl
                        have hcz73_1 : wr.cell? ⟨gb273, 1, none⟩ = some (.slice A272_1 ((rd_T87 l0_0 x6_3).f1).length c272_1) := (blk_cell BK273.out 1).trans rfl
                        have hfz73_0 := blk_frozen BK273.out 0
                        have hfz73_1 := blk_frozen BK273.out 1
                        go_wp2
                        go_roundg k4
                        case measure => have := HJ2.out; have := HK2.out; have := HK3.out; have := HK4.out; omega
                        case rel => exact ⟨(x3_4), (wrap64 (x6_3 + 1)), (by first | rfl | (simp; done) | (simp [*]; done)), H', ⟨by have := HJ2.out; have := HK2.out; have := HK3.out; have := HK4.out; omega⟩, ⟨Rs HO_3.out⟩, ⟨Bs BK243.out⟩, ⟨Ls HB⟩⟩
                · rw [if_neg c34] at H
                  have c34b0 : decide (x6_3 < (l0_0.length : Int)) = false := decide_eq_false c34
                  clear c34
                  obtain rfl := Option.some.inj H
                  have hcz74_0 : wr.cell? ⟨gb243, 0, none⟩ = some (.slice A0_0 l0_0.length c0_0) := (blk_cell BK243.out 0).trans rfl
                  have hcz74_1 : wr.cell? ⟨gb243, 1, none⟩ = some (.bool a0_1) := (blk_cell BK243.out 1).trans rfl
                  have hcz74_2 : wr.cell? ⟨gb243, 2, none⟩ = some (.int .i64 a0_2) := (blk_cell BK243.out 2).trans rfl
                  have hcz74_3 : wr.cell? ⟨gb243, 3, none⟩ = some (.int .i64 a0_3) := (blk_cell BK243.out 3).trans rfl
                  have hcz74_4 : wr.cell? ⟨gb243, 4, none⟩ = some (.int .i64 a0_4) := (blk_cell BK243.out 4).trans rfl
                  have hcz74_5 : wr.cell? ⟨gb243, 5, none⟩ = some (.int .i64 a0_5) := (blk_cell BK243.out 5).trans rfl
                  have hcz74_6 : wr.cell? ⟨gb243, 6, none⟩ = some (.int .i64 a0_6) := (blk_cell BK243.out 6).trans rfl
                  have hcz74_7 : wr.cell? ⟨gb243, 7, none⟩ = some (.int .i64 a0_7) := (blk_cell BK243.out 7).trans rfl
                  have hcz74_8 : wr.cell? ⟨gb243, 8, none⟩ = some (.slice A0_8 l0_8.length c0_8) := (blk_cell BK243.out 8).trans rfl
                  have hfz74_0 := blk_frozen BK243.out 0
                  have hfz74_1 := blk_frozen BK243.out 1
                  have hfz74_2 := blk_frozen BK243.out 2
                  have hfz74_3 := blk_frozen BK243.out 3
                  have hfz74_4 := blk_frozen BK243.out 4
                  have hfz74_5 := blk_frozen BK243.out 5
                  have hfz74_6 := blk_frozen BK243.out 6
                  have hfz74_7 := blk_frozen BK243.out 7
                  have hfz74_8 := blk_frozen BK243.out 8
                  go_wp2
                  go_ret
                  exact ⟨_, by first | rfl | (simp [errW_none, errW_some] <;> rfl) | (simp [*, errW_none, errW_some] <;> rfl), by (with_reducible repeat (first | apply Kd.R_alloc | apply Kd.R_drewN | apply Kd.R_drew)); exact HO_3.out, by repeat (first | (with_reducible first | exact HB.out | apply below_alloc | apply pw_below_drewN | apply below_drew1 | refine below_set ?_ GE243.out) | exact HB.out)⟩
end Go.Proofs.Ytobfhacdljmooaa.PCodeP
