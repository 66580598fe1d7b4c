-- written for this claim by wip/pr/hand.py (the kit's print, with contracts proved by hand)
import Derived.Test.YtobfhacdljmooaaPCodePx0
import Derived.Test.YtobfhacdljmooaaSq
namespace Go.Proofs.Ytobfhacdljmooaa.PCodeP
open Go.RowKit Go.Proofs.YtobfhacdljmooaaW.PrintWords Go.Proofs.YtobfhacdljmooaaW.PrintLast Go.Proofs.YtobfhacdljmooaaW.PrintMore Go.Proofs.Ytobfhacdljmooaa.Sq
attribute [local go_sem] max2_int min2_int max_two min_two max_three min_three max_four min_four   -- for this text's walks alone
set_option linter.unusedVariables false
set_option linter.unusedSimpArgs false

/-! ### slices_Clone_byte_byte: function 43 -/
def slices_Clone_byte_byte.f (l0 : List Int) : Option (List Int) := if l0.length < 140737488355328 then some l0 else none
set_option maxHeartbeats 8000000 in
set_option maxRecDepth 100000 in
theorem slices_Clone_byte_byte.calls (A0 : Option Addr) (c0 : Nat) (l0 : List Int) (r : List Int) (w : World) (hr0 : Kd.C (Kd.int .u8) w A0 l0.length l0) (hc0 : l0.length ≤ c0) (h : slices_Clone_byte_byte.f l0 = some r) :
    Calls Try.prog 43 #[.slice A0 l0.length c0] w fun e w' => ∃ v0_ : Value, e = .returned (v0_) ∧ Kd.R (Kd.int .u8) 5 w' w.heap.size (fun _ => True) v0_ r ∧ Below w.heap.size w w' := by
  unfold slices_Clone_byte_byte.f at h
  refine bc (p := (l0.length < 140737488355328)) (fun hl => ?_) (fun hl => ?_)
  · rw [if_neg hl] at h
    cases h
  rw [if_pos hl] at h
  obtain rfl := Option.some.inj h
  have HL := Aside0.mk hl
  have HR0 := Aside0.mk hr0
  have HB := Aside0.mk (Below.refl w.heap.size w)
  clear h hl hr0 hc0
  have hnil := fun (w : World) (a : Option Addr) (n c : Nat) => Lib.run_eql_slice_nil (P := Try.prog) w 36 5 a n c 0 0 Try.underlying36
  rcases A0 with _ | ad
  · have e0 : l0 = [] := by
      have := HR0.out.2.2
      rcases Nat.eq_zero_or_pos l0.length with h0 | h0
      · exact List.eq_nil_of_length_eq_zero h0
      · obtain ⟨ad, hh, _⟩ := this h0; cases hh
    subst e0
    go_enter Try.func43, Try.ntmps43
    go_wp2
    go_ret
    exact ⟨_, rfl, ⟨fun _ _ => trivial, ⟨[], own_nil _ _ _ _, Reps.none _ _⟩⟩, Below.refl _ _⟩
  · go_enter Try.func43, Try.ntmps43
    go_wp2_with (first | ((with_reducible refine gate_dst (N := 5) rfl ?_); refine Kd.R_lit (Kd.int .u8) _ 5 ?hg (N := 5) ?hd (xs := ([] : List Int)) (inner := []) (ok := fun _ => True) (okp := fun _ => True) ?hr ?hp (fun _ hk => hk) trivial (Below.refl _ _) (Nat.le_refl _) (by simp) ?_; (case hd => rfl); (case hg => rfl); (case hr => first | (go_simp; done) | (go_simp; rfl)); (case hp => exact (Reps.none _ _)); intro v1 w1 ho hb hg_ hnew_; clear hg_ hnew_; have HO := Aside0.mk ho; have HB1 := Aside0.mk hb; clear ho hb) | ((with_reducible refine gate_builtin (b := .append) (xs := #[.tmp 5, .tmp 6]) rfl ?_); at_builtin; refine Kd.R_append_rows (Kd.int .u8) (w0 := w) w.heap.size rfl (.tmp 5) (.tmp 6) 36 5 (.int .u8 0) 1 rfl Try.underlying36 info5 rfl (by decide) (by omega) v1 [] l0 _ _ _ (fun _ => True) (fun _ => False) rfl rfl ?aO ?aR (fun _ _ h => h) (fun _ h => h.elim) ?aF ?aB ?aS ?aL ?_; (case aR => exact (Kd.C_below HR0.out HB1.out)); (case aB => exact HB1.out); (case aF => exact (fun _ _ => trivial)); (case aO => exact HO.out); (case aS => exact below_size HB1.out); (case aL => have := HL.out; simp; omega); intro v2 w2 ho hb hg hat; have HO2 := Aside0.mk ho; have HB2 := Aside0.mk hb; clear ho hb hg hat))
    go_ret
    exact ⟨_, rfl, by simpa using HO2.out, HB2.out⟩
/-! ### code_PutInt: function 17 -/
def code_PutInt.f (l0 : List Int) (a1 : Int) : Option (List Int) := C.put.f l0 a1
theorem code_PutInt.calls (A0 : Option Addr) (c0 : Nat) (l0 : List Int) (a1 : Int) (r : List Int) (w : World) (hr0 : Kd.C (Kd.int .u8) w A0 l0.length l0) (hc0 : l0.length ≤ c0) (h : code_PutInt.f l0 a1 = some r) :
    Calls Try.prog 17 #[.slice A0 l0.length c0, .int .i64 a1] w fun e w' => ∃ v0_ : Value, e = .returned (v0_) ∧ Kd.R (Kd.int .u8) 5 w' w.heap.size (fun _ => True) v0_ r ∧ Below w.heap.size w w' := C.put.calls A0 c0 l0 a1 r w hr0 hc0 h

/-! ### trommellaw39_live: function 16 -/
def trommellaw39_live.f  : Option (Bool) := (code_PutInt.f ([] : List Int) (-65)).bind fun t101 => (some ((strOfNums t101).toList == (strOfNums (([129, 1] : List Int))).toList))
set_option maxHeartbeats 8000000 in
set_option maxRecDepth 100000 in
theorem trommellaw39_live.calls  (r : Bool) (w : World) (h : trommellaw39_live.f  = some r) :
    Calls Try.prog 16 #[] w fun e w' => e = .returned (.bool r) ∧ Below w.heap.size w w' := by
  have HB := Aside0.mk (Below.refl w.heap.size w)
  have H : ((code_PutInt.f ([] : List Int) (-65)).bind fun t101 => (some ((strOfNums t101).toList == (strOfNums (([129, 1] : List Int))).toList))) = some r := h
  clear h
  replace H := Option.bind_eq_some_iff.mp H
  obtain ⟨t101, A10, H⟩ := H
  replace H : (some ((strOfNums t101).toList == (strOfNums (([129, 1] : List Int))).toList)) = some r := H
  have A1 := Aside0.mk A10
  clear A10
  obtain ⟨y104, hy104⟩ : ∃ y_ : List Int, y_ = (([129, 1] : List Int)) := ⟨_, rfl⟩
  replace H : (some ((strOfNums t101).toList == (strOfNums y104).toList)) = some r := by first | (rw [hy104]; with_reducible exact H) | (have H2_ := (Option.bind_some _ _).symm.trans H; rw [hy104]; with_reducible exact H2_) | (have H2_ := (Option.bind_some _ _).symm.trans H; with_reducible exact H2_) | with_reducible exact H | (rw [hy104]; exact H) | exact H
  have Ny104 := Aside0.mk hy104
  clear hy104
  obtain rfl := Option.some.inj H
  go_enter Try.func16, Try.ntmps16
  try go_wp2
  replace HB := Aside0.mk (below_drew1 HB.out)
  refine start_ (n := 6) (S := fun w' => True) (ds := []) #[F, F, F, F, F, F] (by kernel_rfl) rfl rfl trivial (fun hHeld => ?_)
  generalize w.drew = w2 at HB hHeld ⊢
  refine join_ (σ := Value × Value) 2 #[T, T, T, T, F, F] (fun s_ => [(1, s_.1), (2, .string (strOfNums t101)), (3, s_.2), (4, .string (strOfNums y104))]) (fun s_ w' => (Kd.R (Kd.int .u8) 5 w' w.heap.size (fun k_ => some k_ ≠ (s_.2 : Value).ownBlock) s_.1 t101) ∧ (Kd.R (Kd.int .u8) 5 w' w.heap.size (fun k_ => some k_ ≠ (s_.1 : Value).ownBlock) s_.2 y104) ∧ (Below w.heap.size w w')) ?_ ?_
  rotate_left
  · intro hJ0_1_2_3
    refine join_ (σ := Value × Value) 3 #[T, T, T, F, F, F] (fun s_ => [(1, s_.1), (2, .string (strOfNums t101)), (3, s_.2)]) (fun s_ w' => (Kd.R (Kd.int .u8) 5 w' w.heap.size (fun k_ => some k_ ≠ (s_.2 : Value).ownBlock) s_.1 t101) ∧ (Kd.R (Kd.int .u8) 5 w' w.heap.size (fun k_ => some k_ ≠ (s_.1 : Value).ownBlock) s_.2 y104) ∧ (Below w.heap.size w w')) ?_ ?_
    rotate_left
    · intro hJ0_1_2
      refine join_ (σ := Value × Value) 3 #[T, F, T, T, F, F] (fun s_ => [(1, s_.1), (3, s_.2), (4, .string (strOfNums y104))]) (fun s_ w' => (Kd.R (Kd.int .u8) 5 w' w.heap.size (fun k_ => some k_ ≠ (s_.2 : Value).ownBlock) s_.1 t101) ∧ (Kd.R (Kd.int .u8) 5 w' w.heap.size (fun k_ => some k_ ≠ (s_.1 : Value).ownBlock) s_.2 y104) ∧ (Below w.heap.size w w')) ?_ ?_
      rotate_left
      · intro hJ0_2_3
        refine join_ (σ := Value) 4 #[T, T, F, F, F, F] (fun s_ => [(1, s_), (2, .string (strOfNums t101))]) (fun s_ w' => (Kd.R (Kd.int .u8) 5 w' w.heap.size (fun _ => True) s_ t101) ∧ (Below w.heap.size w w')) ?_ ?_
        rotate_left
        · intro hJ0_1
          refine join_ (σ := Value × Value) 4 #[T, F, T, F, F, F] (fun s_ => [(1, s_.1), (3, s_.2)]) (fun s_ w' => (Kd.R (Kd.int .u8) 5 w' w.heap.size (fun k_ => some k_ ≠ (s_.2 : Value).ownBlock) s_.1 t101) ∧ (Kd.R (Kd.int .u8) 5 w' w.heap.size (fun k_ => some k_ ≠ (s_.1 : Value).ownBlock) s_.2 y104) ∧ (Below w.heap.size w w')) ?_ ?_
          rotate_left
          · intro hJ0_2
            refine join_ (σ := Value) 4 #[F, F, T, T, F, F] (fun s_ => [(3, s_), (4, .string (strOfNums y104))]) (fun s_ w' => (Kd.R (Kd.int .u8) 5 w' w.heap.size (fun _ => True) s_ y104) ∧ (Below w.heap.size w w')) ?_ ?_
            rotate_left
            · intro hJ2_3
              refine join_ (σ := Value) 5 #[T, F, F, F, F, F] (fun s_ => [(1, s_)]) (fun s_ w' => (Kd.R (Kd.int .u8) 5 w' w.heap.size (fun _ => True) s_ t101) ∧ (Below w.heap.size w w')) ?_ ?_
              rotate_left
              · intro hJ0
                refine join_ (σ := Value) 5 #[F, F, T, F, F, F] (fun s_ => [(3, s_)]) (fun s_ w' => (Kd.R (Kd.int .u8) 5 w' w.heap.size (fun _ => True) s_ y104) ∧ (Below w.heap.size w w')) ?_ ?_
                rotate_left
                · intro hJ2
                  refine two_ (i := 0) (j := 2) (Ni := some 1) (Nj := some 3) #[T, F, F, F, F, F] #[F, F, T, F, F, F] rfl rfl rfl rfl (by kernel_rfl) (by decide) (by decide) (fun K hK => ?_) (fun K hK => ?_)
                  · skip
                    refine goes_ Try.func17 (by kernel_rfl) rfl #[.slice none 0 0, .int .i64 (-65)] (by rfl) rfl rfl (by (try simp only [List.map_toArray, List.map_cons, List.map_nil]); first | done | rfl | (simp only [List.length_drop, List.length_take]; rfl)) ?_
                    refine (code_PutInt.calls _ _ ([] : List Int) (-65) t101 _ ?side1 ?side2 A1.out).mono ?_
                    (case side1 => exact Kd.C_nil _ _)
                    (case side2 => exact Nat.le_refl _)
                    rintro e w3 ⟨v102, rfl, ho0, hb⟩
                    refine ⟨_, rfl, ?_⟩
                    have HO103 := Aside0.mk (Kd.R_lower ho0 (Lz HB))
                    replace HB := Lb HB hb
                    try clear hb; try clear hb2; try clear hk; try clear hi; try clear ho0
                    refine hK.out _ _ trivial (fun hHeld => ?_)
                    clear hK K
                    refine norm_ (a' := ?_) ?_ ?_; rotate_left; (· show Act.put _ (some 1) _ = _; simp only [Act.put, sq]; rfl)
                    exact norm_ (by first | (simp only [putAll, Act.put, sq0]; done) | (simp only [putAll, Act.put, sq0]; rfl)) (hJ0 (v102) _ ⟨(Rs HO103.out), (Ls HB)⟩)
                  · skip
                    refine Kd.R_lit_step (Kd.int .u8) _ 5 ?hg (N := 3) ?hd (xs := ([129, 1] : List Int)) (inner := [.int .u8 129, .int .u8 1]) (ok := fun _ => True) (okp := fun _ => True) ?hr ?hp (fun _ hk => hk) trivial (Below.refl _ _) (Nat.le_refl _) (by simp) ?_; (case hd => rfl); (case hg => rfl); (case hr => first | (go_simp; done) | (go_simp; rfl)); (case hp => exact (Reps.one (show Kd.M (Kd.int .u8) _ _ _ 129 [.int .u8 129] from rfl) (Reps.one (show Kd.M (Kd.int .u8) _ _ _ 1 [.int .u8 1] from rfl) (Reps.none _ _))))
                    intro v105 w3 ho4 hb hg_ hnew_
                    clear hg_ hnew_
                    (first | rw [← Ny104.out] at ho4 | (simp only [Int.reduceToNat] at ho4; rw [← Ny104.out] at ho4))
                    have HO106 := Aside0.mk (Kd.R_lower ho4 (Lz HB))
                    replace HB := Lb HB hb
                    clear hb ho4
                    refine hK.out _ _ trivial (fun hHeld => ?_)
                    clear hK K
                    refine norm_ (a' := ?_) ?_ ?_; rotate_left; (· show Act.put _ (some 3) _ = _; simp only [Act.put, sq]; rfl)
                    exact norm_ (by first | (simp only [putAll, Act.put, sq0]; done) | (simp only [putAll, Act.put, sq0]; rfl)) (hJ2 (v105) _ ⟨(Rs HO106.out), (Ls HB)⟩)
                · skip
                  rintro v105 w5 ⟨h0_, h1_⟩
                  try dsimp only at h0_ h1_
                  clear HB
                  have HO106 := Aside0.mk h0_; have HB := Aside0.mk h1_
                  clear h0_ h1_
                  have hHeld := trivial
                  refine norm_ (a' := ?_) ?_ ?_; rotate_left; (· simp only [putAll, Act.put, sq0]; rfl)
                  refine two_ (i := 0) (j := 3) (Ni := some 1) (Nj := some 4) #[T, F, T, F, F, F] #[F, F, T, T, F, F] rfl rfl rfl rfl (by kernel_rfl) (by decide) (by decide) (fun K hK => ?_) (fun K hK => ?_)
                  · skip
                    refine goes_ Try.func17 (by kernel_rfl) rfl #[.slice none 0 0, .int .i64 (-65)] (by rfl) rfl rfl (by (try simp only [List.map_toArray, List.map_cons, List.map_nil]); first | done | rfl | (simp only [List.length_drop, List.length_take]; rfl)) ?_
                    refine (code_PutInt.calls _ _ ([] : List Int) (-65) t101 _ ?side1 ?side2 A1.out).mono ?_
                    (case side1 => exact Kd.C_nil _ _)
                    (case side2 => exact Nat.le_refl _)
                    rintro e w6 ⟨v102, rfl, ho0, hb⟩
                    refine ⟨_, rfl, ?_⟩
                    have HO103 := Aside0.mk (Kd.R_lower (Kd.R_new' ho0 (Kd.R_lt (Rs HO106.out))) (Lz HB))
                    replace HO106 := Aside0.mk (Kd.R_elder' (Rs HO106.out) (Kd.R_base ho0) hb)
                    replace HB := Lb HB hb
                    try clear hb; try clear hb2; try clear hk; try clear hi; try clear ho0
                    refine hK.out _ _ trivial (fun hHeld => ?_)
                    clear hK K
                    refine norm_ (a' := ?_) ?_ ?_; rotate_left; (· show Act.put _ (some 1) _ = _; simp only [Act.put, sq]; rfl)
                    exact norm_ (by first | (simp only [putAll, Act.put, sq0]; done) | (simp only [putAll, Act.put, sq0]; rfl)) (hJ0_2 (v102, v105) _ ⟨(Rs (Kd.R_mono HO103.out (fun _ hk => hk.2))), (Rs (Kd.R_mono HO106.out (fun _ hk => hk.2))), (Ls HB)⟩)
                  · skip
                    have hcv6 := own_string (P := Try.prog) Try.underlying36 Try.underlying5 Try.underlying9 (Kd.own_of_R HO106.out)
                    refine value_ (w1 := ?_) (v := ?_) (by rfl) rfl ?_ ?_
                    rotate_left 2
                    · go_simp
                      constructor
                      · rfl
                      · rfl
                    clear hcv6
                    refine hK.out _ _ trivial (fun hHeld => ?_)
                    clear hK K
                    refine norm_ (a' := ?_) ?_ ?_; rotate_left; (· show Act.put _ (some 4) _ = _; simp only [Act.put, sq]; rfl)
                    exact norm_ (by first | (simp only [putAll, Act.put, sq0]; done) | (simp only [putAll, Act.put, sq0]; rfl)) (hJ2_3 (v105) _ ⟨(Rs HO106.out), (Ls HB)⟩)
              · skip
                rintro v102 w4 ⟨h0_, h1_⟩
                try dsimp only at h0_ h1_
                clear HB
                have HO103 := Aside0.mk h0_; have HB := Aside0.mk h1_
                clear h0_ h1_
                have hHeld := trivial
                refine norm_ (a' := ?_) ?_ ?_; rotate_left; (· simp only [putAll, Act.put, sq0]; rfl)
                refine two_ (i := 1) (j := 2) (Ni := some 2) (Nj := some 3) #[T, T, F, F, F, F] #[T, F, T, F, F, F] rfl rfl rfl rfl (by kernel_rfl) (by decide) (by decide) (fun K hK => ?_) (fun K hK => ?_)
                · skip
                  have hcv5 := own_string (P := Try.prog) Try.underlying36 Try.underlying5 Try.underlying9 (Kd.own_of_R HO103.out)
                  refine value_ (w1 := ?_) (v := ?_) (by rfl) rfl ?_ ?_
                  rotate_left 2
                  · go_simp
                    constructor
                    · rfl
                    · rfl
                  clear hcv5
                  refine hK.out _ _ trivial (fun hHeld => ?_)
                  clear hK K
                  refine norm_ (a' := ?_) ?_ ?_; rotate_left; (· show Act.put _ (some 2) _ = _; simp only [Act.put, sq]; rfl)
                  exact norm_ (by first | (simp only [putAll, Act.put, sq0]; done) | (simp only [putAll, Act.put, sq0]; rfl)) (hJ0_1 (v102) _ ⟨(Rs HO103.out), (Ls HB)⟩)
                · skip
                  refine Kd.R_lit_step (Kd.int .u8) _ 5 ?hg (N := 3) ?hd (xs := ([129, 1] : List Int)) (inner := [.int .u8 129, .int .u8 1]) (ok := fun _ => True) (okp := fun _ => True) ?hr ?hp (fun _ hk => hk) trivial (Below.refl _ _) (Nat.le_refl _) (by simp) ?_; (case hd => rfl); (case hg => rfl); (case hr => first | (go_simp; done) | (go_simp; rfl)); (case hp => exact (Reps.one (show Kd.M (Kd.int .u8) _ _ _ 129 [.int .u8 129] from rfl) (Reps.one (show Kd.M (Kd.int .u8) _ _ _ 1 [.int .u8 1] from rfl) (Reps.none _ _))))
                  intro v105 w5 ho6 hb hg_ hnew_
                  clear hg_ hnew_
                  (first | rw [← Ny104.out] at ho6 | (simp only [Int.reduceToNat] at ho6; rw [← Ny104.out] at ho6))
                  have HO106 := Aside0.mk (Kd.R_lower (Kd.R_new' ho6 (Kd.R_lt (Rs HO103.out))) (Lz HB))
                  replace HO103 := Aside0.mk (Kd.R_elder' (Rs HO103.out) (Kd.R_base ho6) hb)
                  replace HB := Lb HB hb
                  clear hb ho6
                  refine hK.out _ _ trivial (fun hHeld => ?_)
                  clear hK K
                  refine norm_ (a' := ?_) ?_ ?_; rotate_left; (· show Act.put _ (some 3) _ = _; simp only [Act.put, sq]; rfl)
                  exact norm_ (by first | (simp only [putAll, Act.put, sq0]; done) | (simp only [putAll, Act.put, sq0]; rfl)) (hJ0_2 (v102, v105) _ ⟨(Rs (Kd.R_mono HO103.out (fun _ hk => hk.2))), (Rs (Kd.R_mono HO106.out (fun _ hk => hk.2))), (Ls HB)⟩)
            · skip
              rintro v105 w6 ⟨h0_, h1_⟩
              try dsimp only at h0_ h1_
              clear HB
              have HO106 := Aside0.mk h0_; have HB := Aside0.mk h1_
              clear h0_ h1_
              have hHeld := trivial
              refine norm_ (a' := ?_) ?_ ?_; rotate_left; (· simp only [putAll, Act.put, sq0]; rfl)
              refine one_ (i := 0) (N := some 1) #[T, F, T, T, F, F] rfl rfl (by kernel_rfl) (by decide) (fun K hK => ?_)
              refine goes_ Try.func17 (by kernel_rfl) rfl #[.slice none 0 0, .int .i64 (-65)] (by rfl) rfl rfl (by (try simp only [List.map_toArray, List.map_cons, List.map_nil]); first | done | rfl | (simp only [List.length_drop, List.length_take]; rfl)) ?_
              refine (code_PutInt.calls _ _ ([] : List Int) (-65) t101 _ ?side1 ?side2 A1.out).mono ?_
              (case side1 => exact Kd.C_nil _ _)
              (case side2 => exact Nat.le_refl _)
              rintro e w7 ⟨v102, rfl, ho0, hb⟩
              refine ⟨_, rfl, ?_⟩
              have HO103 := Aside0.mk (Kd.R_lower (Kd.R_new' ho0 (Kd.R_lt (Rs HO106.out))) (Lz HB))
              replace HO106 := Aside0.mk (Kd.R_elder' (Rs HO106.out) (Kd.R_base ho0) hb)
              replace HB := Lb HB hb
              try clear hb; try clear hb2; try clear hk; try clear hi; try clear ho0
              refine hK.out _ _ trivial (fun hHeld => ?_)
              clear hK K
              refine norm_ (a' := ?_) ?_ ?_; rotate_left; (· show Act.put _ (some 1) _ = _; simp only [Act.put, sq]; rfl)
              exact norm_ (by first | (simp only [putAll, Act.put, sq0]; done) | (simp only [putAll, Act.put, sq0]; rfl)) (hJ0_2_3 (v102, v105) _ ⟨(Rs (Kd.R_mono HO103.out (fun _ hk => hk.2))), (Rs (Kd.R_mono HO106.out (fun _ hk => hk.2))), (Ls HB)⟩)
          · skip
            rintro ⟨v102, v105⟩ w6 ⟨h0_, h1_, h2_⟩
            try dsimp only at h0_ h1_ h2_
            clear HB
            have HO103 := Aside0.mk h0_; have HO106 := Aside0.mk h1_; have HB := Aside0.mk h2_
            clear h0_ h1_ h2_
            have hHeld := trivial
            refine norm_ (a' := ?_) ?_ ?_; rotate_left; (· simp only [putAll, Act.put, sq0]; rfl)
            refine two_ (i := 1) (j := 3) (Ni := some 2) (Nj := some 4) #[T, T, T, F, F, F] #[T, F, T, T, F, F] rfl rfl rfl rfl (by kernel_rfl) (by decide) (by decide) (fun K hK => ?_) (fun K hK => ?_)
            · skip
              have hcv7 := own_string (P := Try.prog) Try.underlying36 Try.underlying5 Try.underlying9 (Kd.own_of_R HO103.out)
              refine value_ (w1 := ?_) (v := ?_) (by rfl) rfl ?_ ?_
              rotate_left 2
              · go_simp
                constructor
                · rfl
                · rfl
              clear hcv7
              refine hK.out _ _ trivial (fun hHeld => ?_)
              clear hK K
              refine norm_ (a' := ?_) ?_ ?_; rotate_left; (· show Act.put _ (some 2) _ = _; simp only [Act.put, sq]; rfl)
              exact norm_ (by first | (simp only [putAll, Act.put, sq0]; done) | (simp only [putAll, Act.put, sq0]; rfl)) (hJ0_1_2 (v102, v105) _ ⟨(Rs HO103.out), (Rs HO106.out), (Ls HB)⟩)
            · skip
              have hcv7 := own_string (P := Try.prog) Try.underlying36 Try.underlying5 Try.underlying9 (Kd.own_of_R HO106.out)
              refine value_ (w1 := ?_) (v := ?_) (by rfl) rfl ?_ ?_
              rotate_left 2
              · go_simp
                constructor
                · rfl
                · rfl
              clear hcv7
              refine hK.out _ _ trivial (fun hHeld => ?_)
              clear hK K
              refine norm_ (a' := ?_) ?_ ?_; rotate_left; (· show Act.put _ (some 4) _ = _; simp only [Act.put, sq]; rfl)
              exact norm_ (by first | (simp only [putAll, Act.put, sq0]; done) | (simp only [putAll, Act.put, sq0]; rfl)) (hJ0_2_3 (v102, v105) _ ⟨(Rs HO103.out), (Rs HO106.out), (Ls HB)⟩)
        · skip
          rintro v102 w5 ⟨h0_, h1_⟩
          try dsimp only at h0_ h1_
          clear HB
          have HO103 := Aside0.mk h0_; have HB := Aside0.mk h1_
          clear h0_ h1_
          have hHeld := trivial
          refine norm_ (a' := ?_) ?_ ?_; rotate_left; (· simp only [putAll, Act.put, sq0]; rfl)
          refine one_ (i := 2) (N := some 3) #[T, T, T, F, F, F] rfl rfl (by kernel_rfl) (by decide) (fun K hK => ?_)
          refine Kd.R_lit_step (Kd.int .u8) _ 5 ?hg (N := 3) ?hd (xs := ([129, 1] : List Int)) (inner := [.int .u8 129, .int .u8 1]) (ok := fun _ => True) (okp := fun _ => True) ?hr ?hp (fun _ hk => hk) trivial (Below.refl _ _) (Nat.le_refl _) (by simp) ?_; (case hd => rfl); (case hg => rfl); (case hr => first | (go_simp; done) | (go_simp; rfl)); (case hp => exact (Reps.one (show Kd.M (Kd.int .u8) _ _ _ 129 [.int .u8 129] from rfl) (Reps.one (show Kd.M (Kd.int .u8) _ _ _ 1 [.int .u8 1] from rfl) (Reps.none _ _))))
          intro v105 w6 ho7 hb hg_ hnew_
          clear hg_ hnew_
          (first | rw [← Ny104.out] at ho7 | (simp only [Int.reduceToNat] at ho7; rw [← Ny104.out] at ho7))
          have HO106 := Aside0.mk (Kd.R_lower (Kd.R_new' ho7 (Kd.R_lt (Rs HO103.out))) (Lz HB))
          replace HO103 := Aside0.mk (Kd.R_elder' (Rs HO103.out) (Kd.R_base ho7) hb)
          replace HB := Lb HB hb
          clear hb ho7
          refine hK.out _ _ trivial (fun hHeld => ?_)
          clear hK K
          refine norm_ (a' := ?_) ?_ ?_; rotate_left; (· show Act.put _ (some 3) _ = _; simp only [Act.put, sq]; rfl)
          exact norm_ (by first | (simp only [putAll, Act.put, sq0]; done) | (simp only [putAll, Act.put, sq0]; rfl)) (hJ0_1_2 (v102, v105) _ ⟨(Rs (Kd.R_mono HO103.out (fun _ hk => hk.2))), (Rs (Kd.R_mono HO106.out (fun _ hk => hk.2))), (Ls HB)⟩)
      · skip
        rintro ⟨v102, v105⟩ w7 ⟨h0_, h1_, h2_⟩
        try dsimp only at h0_ h1_ h2_
        clear HB
        have HO103 := Aside0.mk h0_; have HO106 := Aside0.mk h1_; have HB := Aside0.mk h2_
        clear h0_ h1_ h2_
        have hHeld := trivial
        refine norm_ (a' := ?_) ?_ ?_; rotate_left; (· simp only [putAll, Act.put, sq0]; rfl)
        refine one_ (i := 1) (N := some 2) #[T, T, T, T, F, F] rfl rfl (by kernel_rfl) (by decide) (fun K hK => ?_)
        have hcv8 := own_string (P := Try.prog) Try.underlying36 Try.underlying5 Try.underlying9 (Kd.own_of_R HO103.out)
        refine value_ (w1 := ?_) (v := ?_) (by rfl) rfl ?_ ?_
        rotate_left 2
        · go_simp
          constructor
          · rfl
          · rfl
        clear hcv8
        refine hK.out _ _ trivial (fun hHeld => ?_)
        clear hK K
        refine norm_ (a' := ?_) ?_ ?_; rotate_left; (· show Act.put _ (some 2) _ = _; simp only [Act.put, sq]; rfl)
        exact norm_ (by first | (simp only [putAll, Act.put, sq0]; done) | (simp only [putAll, Act.put, sq0]; rfl)) (hJ0_1_2_3 (v102, v105) _ ⟨(Rs HO103.out), (Rs HO106.out), (Ls HB)⟩)
    · skip
      rintro ⟨v102, v105⟩ w7 ⟨h0_, h1_, h2_⟩
      try dsimp only at h0_ h1_ h2_
      clear HB
      have HO103 := Aside0.mk h0_; have HO106 := Aside0.mk h1_; have HB := Aside0.mk h2_
      clear h0_ h1_ h2_
      have hHeld := trivial
      refine norm_ (a' := ?_) ?_ ?_; rotate_left; (· simp only [putAll, Act.put, sq0]; rfl)
      refine one_ (i := 3) (N := some 4) #[T, T, T, T, F, F] rfl rfl (by kernel_rfl) (by decide) (fun K hK => ?_)
      have hcv8 := own_string (P := Try.prog) Try.underlying36 Try.underlying5 Try.underlying9 (Kd.own_of_R HO106.out)
      refine value_ (w1 := ?_) (v := ?_) (by rfl) rfl ?_ ?_
      rotate_left 2
      · go_simp
        constructor
        · rfl
        · rfl
      clear hcv8
      refine hK.out _ _ trivial (fun hHeld => ?_)
      clear hK K
      refine norm_ (a' := ?_) ?_ ?_; rotate_left; (· show Act.put _ (some 4) _ = _; simp only [Act.put, sq]; rfl)
      exact norm_ (by first | (simp only [putAll, Act.put, sq0]; done) | (simp only [putAll, Act.put, sq0]; rfl)) (hJ0_1_2_3 (v102, v105) _ ⟨(Rs HO103.out), (Rs HO106.out), (Ls HB)⟩)
  rintro ⟨v102, v105⟩ w8 ⟨h0_, h1_, h2_⟩
  try dsimp only at h0_ h1_ h2_
  clear HB
  have HO103 := Aside0.mk h0_; have HO106 := Aside0.mk h1_; have HB := Aside0.mk h2_
  clear h0_ h1_ h2_
  have hHeld := trivial
  refine norm_ (a' := ?_) ?_ ?_; rotate_left; (· simp only [putAll, Act.put, sq0]; rfl)
  refine pure_ (i := 4) (N := some 5) (v := ?_) (a' := ?_) #[T, T, T, T, T, F] rfl rfl (by kernel_rfl) (fun _ _ _ h => h) (Or.inl ⟨by rfl, ?_⟩) ?_ ?_; rotate_left; (· intro w'; go_simp; with_reducible rfl); rotate_left; (· simp only [Act.put, sq]; rfl)
  refine pure_ (i := 5) (N := some 0) (v := ?_) (a' := ?_) #[T, T, T, T, T, T] rfl rfl (by kernel_rfl) (fun _ _ _ h => h) (Or.inl ⟨by rfl, ?_⟩) ?_ ?_; rotate_left; (· intro w'; go_simp; with_reducible rfl); rotate_left; (· simp only [Act.put, sq]; rfl)
  refine done_ (by kernel_rfl) ?_
  try go_wp2
  go_ret
  exact ⟨by first | rfl | (simp [errW_none, errW_some] <;> rfl) | (simp [*, errW_none, errW_some] <;> rfl), by repeat (first | (with_reducible first | exact HB.out | apply below_alloc | apply pw_below_drewN | apply below_drew1) | exact HB.out)⟩

/-! ### trommelref27_Much: function 57 -/
mutual
def trommelref27_Much.l0 : Nat → Int → Int → List (S89) → Option (Bool)
  | 0, _, _, _ => none
  | k + 1, x3, x108000, x108001 => if x3 < (x108001.length : Int) then (trommelref27_Much.j1 k x3 (decide (x3 < 40)) x108000 x108001) else (trommelref27_Much.j1 k x3 false x108000 x108001)
def trommelref27_Much.j1 : Nat → Int → Bool → Int → List (S89) → Option (Bool)
  | 0, _, _, _, _ => none
  | k + 1, x3, x12, x108000, x108001 => if x12 = true then (if 0 ≤ x3 then (if x3 < (x108001.length : Int) then (if (((rd_T89 x108001 x3).f2).length : Int) > 60 then (some true) else (trommelref27_Much.l0 k (wrap64 (x3 + 1)) x108000 x108001)) else (none)) else (none)) else (some (decide ((x108001.length : Int) > 30)))
end
def trommelref27_Much.f (k : Nat) (a0_0 : Int) (l0_1 : List (S89)) : Option (Bool) := trommelref27_Much.l0 k 0 a0_0 l0_1
theorem trommelref27_Much.mono_l : ∀ k, (∀ y0 y1 y2, LeO (trommelref27_Much.l0 k y0 y1 y2) (trommelref27_Much.l0 (k + 1) y0 y1 y2)) ∧ (∀ y0 y1 y2 y3, LeO (trommelref27_Much.j1 k y0 y1 y2 y3) (trommelref27_Much.j1 (k + 1) y0 y1 y2 y3))
  | 0 => ⟨fun _ _ _ r h => by simp [trommelref27_Much.l0] at h, fun _ _ _ _ r h => by simp [trommelref27_Much.j1] at h⟩
  | k + 1 => by
    obtain ⟨ih0, ih1⟩ := trommelref27_Much.mono_l k
    refine ⟨?_, ?_⟩
    · intro y0 y1 y2
      unfold trommelref27_Much.l0
      repeat' first
      | (with_reducible exact ih0 _ _ _)
      | (with_reducible exact ih1 _ _ _ _)
      | (with_reducible exact LeO.refl _)
      | (with_reducible exact LeO.none _)
      | (with_reducible refine LeO.ite ?_ ?_)
      | (with_reducible refine LeO.bind ?_ (fun _ => ?_))
      | exact ih0 _ _ _
      | exact ih1 _ _ _ _
      | exact LeO.none _
      | refine LeO.ite ?_ ?_
      | refine LeO.bind ?_ (fun _ => ?_)
    · intro y0 y1 y2 y3
      unfold trommelref27_Much.j1
      repeat' first
      | (with_reducible exact ih0 _ _ _)
      | (with_reducible exact ih1 _ _ _ _)
      | (with_reducible exact LeO.refl _)
      | (with_reducible exact LeO.none _)
      | (with_reducible refine LeO.ite ?_ ?_)
      | (with_reducible refine LeO.bind ?_ (fun _ => ?_))
      | exact ih0 _ _ _
      | exact ih1 _ _ _ _
      | exact LeO.none _
      | refine LeO.ite ?_ ?_
      | refine LeO.bind ?_ (fun _ => ?_)
theorem trommelref27_Much.mono : ∀ a0 a1 k, LeO (trommelref27_Much.f k a0 a1) (trommelref27_Much.f (k + 1) a0 a1) := by
  intro a0 a1 k
  obtain ⟨ih0, ih1⟩ := trommelref27_Much.mono_l k
  unfold trommelref27_Much.f
  repeat' first
      | (with_reducible exact ih0 _ _ _)
      | (with_reducible exact ih1 _ _ _ _)
      | (with_reducible exact LeO.refl _)
      | (with_reducible exact LeO.none _)
      | (with_reducible refine LeO.ite ?_ ?_)
      | (with_reducible refine LeO.bind ?_ (fun _ => ?_))
      | exact ih0 _ _ _
      | exact ih1 _ _ _ _
      | exact LeO.none _
      | refine LeO.ite ?_ ?_
      | refine LeO.bind ?_ (fun _ => ?_)
set_option maxHeartbeats 8000000 in
set_option maxRecDepth 100000 in
theorem trommelref27_Much.calls (k : Nat) (a0_0 : Int) (A0_1 : Option Addr) (c0_1 : Nat) (l0_1 : List (S89)) (r : Bool) (w : World) (hr0_1 : Kd.C k89 w A0_1 l0_1.length l0_1) (hc0_1 : l0_1.length ≤ c0_1) (h : trommelref27_Much.f k a0_0 l0_1 = some r) :
    Calls Try.prog 57 #[.agg #[.int .i64 a0_0, .slice A0_1 l0_1.length c0_1]] w fun e w' => e = .returned (.bool r) ∧ Below w.heap.size w w' := by
  have hu87 := Try.underlying87
  have HR0_1 := Aside0.mk hr0_1
  have HC0_1 := Aside0.mk hc0_1
  clear hr0_1 hc0_1
  have HB := Aside0.mk (Below.refl w.heap.size w)
  have H : (trommelref27_Much.l0 k 0 a0_0 l0_1) = some r := h
  clear h
  have H' := Aside0.mk H
  clear H
  go_enter Try.func57, Try.ntmps57
  go_wp2_with (first | ((with_reducible refine gate_dst (N := 1) rfl ?_); refine box_event ?hg (N := 1) ?hd (cs := #[.int .i64 a0_0, .slice A0_1 l0_1.length c0_1]) (t := 87) ?hr ?_; (case hd => rfl); (case hg => rfl); (case hr => first | (go_simp; done) | (go_simp; rfl)); intro gb107 hg w2 hbox hb; have n0_ := Lb HB hb; have n1_ := Aside0.mk (hbox); have n2_ := Aside0.mk ((by rw [hg]; exact (Lz HB) : w.heap.size ≤ gb107)); have n3_ := Aside0.mk ((by rw [hg]; exact (Lz HB) : w.heap.size ≤ gb107)); clear HB; have HB := n0_; have BK107 := n1_; have GW107 := n2_; have GE107 := n3_; clear n0_ n1_ n2_ n3_; clear hb hbox hg))
  go_loopg [3] k (fun kq v3 w' => ∃ (x3_1 : Int), v3 = .int .i64 x3_1 ∧ Aside0 (trommelref27_Much.l0 kq x3_1 a0_0 l0_1 = some r) ∧ Aside0 (kq ≤ k) ∧ Aside0 (w'.heap[gb107]? = some (.cells #[.int .i64 a0_0, (.slice A0_1 l0_1.length c0_1)] 87 (0, 0))) ∧ Aside0 (Below w.heap.size w w'))
  case atStart => exact ⟨(0), (by first | rfl | (simp; done) | (simp [*]; done)), H', ⟨Nat.le_refl _⟩, ⟨Bs BK107.out⟩, ⟨Ls HB⟩⟩
  case round =>
    clear H'
    try clear p2
    obtain ⟨x3_1, rfl, HA, HK1, BK107, HB⟩ := hrel
    cases gk with
    | zero => exact absurd HA.out (by simp [trommelref27_Much.l0])
    | succ k1 =>
      have H := HA.out
      clear HA
      simp only [trommelref27_Much.l0] at H
      have HC3 := Aside0.mk H
      clear H
      go_upto_region 2 with (fail)
      go_cut [12] (fun v12 wc => ∃ (kq : Nat) (x12_2 : Bool), v12 = .bool x12_2 ∧ Aside0 (trommelref27_Much.j1 kq x3_1 x12_2 a0_0 l0_1 = some r) ∧ Aside0 (kq ≤ k1) ∧ Aside0 (wc.heap[gb107]? = some (.cells #[.int .i64 a0_0, (.slice A0_1 l0_1.length c0_1)] 87 (0, 0))) ∧ Aside0 (Below w.heap.size w wc))
      case first =>
        have H := HC3.out
        clear HC3
        by_cases c4 : x3_1 < (l0_1.length : Int)
        · rw [if_pos c4] at H
          have c4b0 : decide (x3_1 < (l0_1.length : Int)) = true := decide_eq_true c4
          clear c4
          (first | rw [c4b0] | (simp only [i64_w, i32_w]; rw [c4b0]) | skip)
          have H' := Aside0.mk H
          clear H
          have hcz5_0 : wr.cell? ⟨gb107, 0, none⟩ = some (.int .i64 a0_0) := (blk_cell BK107.out 0).trans rfl
          have hcz5_1 : wr.cell? ⟨gb107, 1, none⟩ = some (.slice A0_1 l0_1.length c0_1) := (blk_cell BK107.out 1).trans rfl
          have hfz5_0 := blk_frozen BK107.out 0
          have hfz5_1 := blk_frozen BK107.out 1
          go_wp2
          go_meet
          case rel => exact ⟨_, (decide (x3_1 < 40)), (by first | rfl | (simp; done) | (simp [*]; done)), H', ⟨by have := HK1.out; first | omega | exact Nat.le_refl _⟩, ⟨Bs BK107.out⟩, ⟨Ls HB⟩⟩
        · rw [if_neg c4] at H
          have c4b0 : decide (x3_1 < (l0_1.length : Int)) = false := decide_eq_false c4
          clear c4
          (first | rw [c4b0] | (simp only [i64_w, i32_w]; rw [c4b0]) | skip)
          have H' := Aside0.mk H
          clear H
          have hcz6_0 : wr.cell? ⟨gb107, 0, none⟩ = some (.int .i64 a0_0) := (blk_cell BK107.out 0).trans rfl
          have hcz6_1 : wr.cell? ⟨gb107, 1, none⟩ = some (.slice A0_1 l0_1.length c0_1) := (blk_cell BK107.out 1).trans rfl
          have hfz6_0 := blk_frozen BK107.out 0
          have hfz6_1 := blk_frozen BK107.out 1
          go_wp2
          go_meet
          case rel => exact ⟨_, (false), (by first | rfl | (simp; done) | (simp [*]; done)), H', ⟨by have := HK1.out; first | omega | exact Nat.le_refl _⟩, ⟨Bs BK107.out⟩, ⟨Ls HB⟩⟩
      case rest =>
        clear HC3
        try clear p2; try clear c4; try clear c4b0; try clear c5; try clear hcz5_0; try clear hcz5_1; try clear hcz6_0; try clear hcz6_1; try clear hfz5_0; try clear hfz5_1; try clear hfz6_0; try clear hfz6_1; try clear p2
        obtain ⟨kq, x12_2, rfl, HA, HJ2, BK107, HB⟩ := hcut
        cases kq with
        | zero => exact absurd HA.out (by simp [trommelref27_Much.j1])
        | succ kj2 =>
          have H := HA.out
          clear HA
          simp only [trommelref27_Much.j1] at H
          by_cases c7 : x12_2 = true
          · subst c7
            have H1 : (if 0 ≤ x3_1 then (if x3_1 < (l0_1.length : Int) then (if (((rd_T89 l0_1 x3_1).f2).length : Int) > 60 then (some true) else (trommelref27_Much.l0 kj2 (wrap64 (x3_1 + 1)) a0_0 l0_1)) else (none)) else (none)) = some r := by rw [if_pos rfl] at H; exact H
            clear H
            have H := H1
            clear H1
            refine bc (p := (0 ≤ x3_1)) (fun c8 => ?_) (fun c8 => ?_)
            · rw [if_neg c8] at H
              exact absurd H (by simp)
            rw [if_pos c8] at H
            have c8b0 : decide (0 ≤ x3_1) = true := decide_eq_true c8
            clear c8
            refine bc (p := (x3_1 < (l0_1.length : Int))) (fun c9 => ?_) (fun c9 => ?_)
            · rw [if_neg c9] at H
              exact absurd H (by simp)
            rw [if_pos c9] at H
            have c9b0 : decide (x3_1 < (l0_1.length : Int)) = true := decide_eq_true c9
            clear c9
            by_cases c10 : (((rd_T89 l0_1 x3_1).f2).length : Int) > 60
            · rw [if_pos c10] at H
              have c10b0 : decide (60 < (((rd_T89 l0_1 x3_1).f2).length : Int)) = true := decide_eq_true c10
              have c10b1 : decide (60 < ((rd_T89 l0_1 x3_1).f2).length) = true := decide_eq_true (by omega)
              clear c10
              obtain rfl := Option.some.inj H
              have hcz11_0 : wc.cell? ⟨gb107, 0, none⟩ = some (.int .i64 a0_0) := (blk_cell BK107.out 0).trans rfl
              have hcz11_1 : wc.cell? ⟨gb107, 1, none⟩ = some (.slice A0_1 l0_1.length c0_1) := (blk_cell BK107.out 1).trans rfl
              have hfz11_0 := blk_frozen BK107.out 0
              have hfz11_1 := blk_frozen BK107.out 1
              have p108 : 0 ≤ (x3_1 : Int) := of_decide_eq_true (by first | (with_reducible assumption) | assumption)
              have q108 : x3_1 < (l0_1.length : Int) := of_decide_eq_true (by first | (with_reducible assumption) | assumption)
              obtain ⟨ad108, A108_2, c108_2, e108, hx108_0, hx108_1, hx108_2, hl108_2, hi108_2⟩ := at_T89 HR0_1.out x3_1 p108 q108
              cases e108
              replace hx108_0 := (HB.out.cell (World.block_lt_of_cell? w _ hx108_0)).trans hx108_0
              replace hx108_1 := (HB.out.cell (World.block_lt_of_cell? w _ hx108_1)).trans hx108_1
              replace hx108_2 := (HB.out.cell (World.block_lt_of_cell? w _ hx108_2)).trans hx108_2
              have HR108_2 := Aside0.mk hi108_2
              have HC108_2 := Aside0.mk hl108_2
              clear hi108_2 hl108_2
              replace p108 := eq_true p108
              replace q108 := eq_true q108
              go_wp2
              go_ret
              exact ⟨by first | rfl | (simp [errW_none, errW_some] <;> rfl) | (simp [*, errW_none, errW_some] <;> rfl), by repeat (first | (with_reducible first | exact HB.out | apply below_alloc | apply pw_below_drewN | apply below_drew1 | refine below_set ?_ GE107.out) | exact HB.out)⟩
            · rw [if_neg c10] at H
              have c10b0 : decide (60 < (((rd_T89 l0_1 x3_1).f2).length : Int)) = false := decide_eq_false c10
              have c10b1 : decide (60 < ((rd_T89 l0_1 x3_1).f2).length) = false := decide_eq_false (by omega)
              clear c10
              have H' := Aside0.mk H
              clear H
              have hcz12_0 : wc.cell? ⟨gb107, 0, none⟩ = some (.int .i64 a0_0) := (blk_cell BK107.out 0).trans rfl
              have hcz12_1 : wc.cell? ⟨gb107, 1, none⟩ = some (.slice A0_1 l0_1.length c0_1) := (blk_cell BK107.out 1).trans rfl
              have hfz12_0 := blk_frozen BK107.out 0
              have hfz12_1 := blk_frozen BK107.out 1
              have p108 : 0 ≤ (x3_1 : Int) := of_decide_eq_true (by first | (with_reducible assumption) | assumption)
              have q108 : x3_1 < (l0_1.length : Int) := of_decide_eq_true (by first | (with_reducible assumption) | assumption)
              obtain ⟨ad108, A108_2, c108_2, e108, hx108_0, hx108_1, hx108_2, hl108_2, hi108_2⟩ := at_T89 HR0_1.out x3_1 p108 q108
              cases e108
              replace hx108_0 := (HB.out.cell (World.block_lt_of_cell? w _ hx108_0)).trans hx108_0
              replace hx108_1 := (HB.out.cell (World.block_lt_of_cell? w _ hx108_1)).trans hx108_1
              replace hx108_2 := (HB.out.cell (World.block_lt_of_cell? w _ hx108_2)).trans hx108_2
              have HR108_2 := Aside0.mk hi108_2
              have HC108_2 := Aside0.mk hl108_2
              clear hi108_2 hl108_2
              replace p108 := eq_true p108
              replace q108 := eq_true q108
              go_wp2
              go_roundg kj2
              case measure => have := HK1.out; have := HJ2.out; omega
              case rel => exact ⟨(wrap64 (x3_1 + 1)), (by first | rfl | (simp; done) | (simp [*]; done)), H', ⟨by have := HK1.out; have := HJ2.out; omega⟩, ⟨Bs BK107.out⟩, ⟨Ls HB⟩⟩
          · replace c7 := Bool.eq_false_iff.mpr c7
            subst c7
            have H1 : (some (decide ((l0_1.length : Int) > 30))) = some r := by rw [if_neg (show ¬ (false = true) by decide)] at H; exact H
            clear H
            have H := H1
            clear H1
            obtain rfl := Option.some.inj H
            have hcz13_0 : wc.cell? ⟨gb107, 0, none⟩ = some (.int .i64 a0_0) := (blk_cell BK107.out 0).trans rfl
            have hcz13_1 : wc.cell? ⟨gb107, 1, none⟩ = some (.slice A0_1 l0_1.length c0_1) := (blk_cell BK107.out 1).trans rfl
            have hfz13_0 := blk_frozen BK107.out 0
            have hfz13_1 := blk_frozen BK107.out 1
            go_wp2
            go_ret
            exact ⟨by first | rfl | (simp [errW_none, errW_some] <;> rfl) | (simp [*, errW_none, errW_some] <;> rfl), by repeat (first | (with_reducible first | exact HB.out | apply below_alloc | apply pw_below_drewN | apply below_drew1 | refine below_set ?_ GE107.out) | exact HB.out)⟩

end Go.Proofs.Ytobfhacdljmooaa.PCodeP
