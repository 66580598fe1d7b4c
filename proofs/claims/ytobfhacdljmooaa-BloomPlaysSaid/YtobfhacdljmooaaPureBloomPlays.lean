/- BloomPlays is proved: for every words, bits, numbers l and h, the filter's words, how many of its bits are 1, and whether h passes, are those of the reference, bit by bit. -/
import Derived.Test.YtobfhacdljmooaaBM5
set_option linter.unusedVariables false
set_option linter.unusedSimpArgs false
namespace Go.Proofs.Ytobfhacdljmooaa.Pure
open Go.RowKit Go.Proofs.Ytobfhacdljmooaa.PBloom Go.Proofs.YtobfhacdljmooaaW.PrintWords Go.Proofs.YtobfhacdljmooaaW.PrintLast

theorem u64_of {a : Int} (h : (Lit.int .u64 a).wf = true) : 0 ≤ a ∧ a < 18446744073709551616 := by
  simp [Lit.wf, IntKind.min, IntKind.max, IntKind.bits, IntKind.signed] at h; omega
theorem refnew_eq (n b : Int) : trommelref18_New.f n b = some (bl (List.replicate (max 1 (min n 4096)).toNat 0), ((max 1 (min b 5)).toNat : Int)) := by
  have hh : ∀ x lo hi : Int, lo ≤ hi → trommelref18_held.f x lo hi = some (max lo (min x hi)) := by
    intro x lo hi h
    unfold trommelref18_held.f
    split
    · congr 1; omega
    · split
      · congr 1; omega
      · congr 1; omega
  unfold trommelref18_New.f
  rw [hh n 1 4096 (by omega), hh b 1 5 (by omega)]
  simp only [Option.bind_some]
  have e : wrap64 (64 * max 1 (min n 4096)) = 64 * max 1 (min n 4096) := w64_in _ (by omega) (by omega)
  rw [e, if_pos (by omega), if_pos (by omega), bl_zeros]
  congr 3
  · congr 1; omega
  · omega
theorem plays_l2 (x : Nat) (hx : x < 18446744073709551616) (ws : List Nat) (hs : Sm ws) (h1 : 1 ≤ ws.length) (h2 : ws.length ≤ 4096) (b : Nat) (hb : b ≤ 5) (d : Nat) : ∀ (i c : Nat), i + d = (bl ws).length → c + ((bl ws).drop i).countP (fun z => z) = popL ws →
    Ev (fun k => trommellaw18_BloomPlays.l2 k (x : Int) (c : Int) (i : Int) (li ws) (b : Int) (bl ws) (b : Int)) true := by
  have hlen := bl_length ws
  have hpc : popL ws ≤ 64 * ws.length := by rw [← bl_count, ← hlen]; exact List.countP_le_length
  induction d with
  | zero =>
    intro i c hi hc
    rw [List.drop_eq_nil_of_le (by omega)] at hc
    obtain rfl : c = popL ws := by simpa using hc
    refine Ev.step (fun k => by simp only [trommellaw18_BloomPlays.l2]; rw [if_neg (by omega)]) (Ev.bind (ones_ev ws hs h2 (b : Int)) ?_)
    simp only [if_true]
    refine Ev.bind (has_ev b hb x (by simpa using hx) ws hs h1 (by omega)) ?_
    refine Ev.bind (refhas_ev ws h1 h2 x hx b hb) ?_
    simp only [beq_self_eq_true, if_true]
    exact Ev.bind live_ev (f := fun _ t => some t) (Ev.now _)
  | succ d ih =>
    intro i c hi hc
    have hl : i < (bl ws).length := by omega
    have hd : (bl ws).drop i = (bl ws).getD i false :: (bl ws).drop (i + 1) := by
      rw [List.drop_eq_getElem_cons hl, List.getD_eq_getElem?_getD, List.getElem?_eq_getElem hl]; rfl
    rw [hd, List.countP_cons] at hc
    have hat : rdOf false (bl ws) (i : Int) = (bl ws).getD i false := by unfold rdOf; rw [Int.toNat_natCast]
    cases e : (bl ws).getD i false with
    | true =>
      rw [e] at hc
      refine Ev.step (fun k => ?_) (ih (i + 1) (c + 1) (by omega) (by simp at hc; omega))
      simp only [trommellaw18_BloomPlays.l2]
      rw [if_pos (by omega), if_pos (by omega), hat, e, if_pos rfl, w64_in ((c : Int) + 1) (by omega) (by omega), w64_in _ (by omega) (by omega)]
      rfl
    | false =>
      rw [e] at hc
      refine Ev.step (fun k => ?_) (ih (i + 1) c (by omega) (by simp at hc; omega))
      simp only [trommellaw18_BloomPlays.l2]
      rw [if_pos (by omega), if_pos (by omega), hat, e, if_neg (by simp), w64_in _ (by omega) (by omega)]
      rfl
theorem plays_l1 (x : Nat) (hx : x < 18446744073709551616) (ws : List Nat) (hs : Sm ws) (h1 : 1 ≤ ws.length) (h2 : ws.length ≤ 4096) (b : Nat) (hb : b ≤ 5) (d : Nat) : ∀ i : Nat, i + d = ws.length →
    Ev (fun k => trommellaw18_BloomPlays.l1 k (x : Int) (li ws) 0 (i : Int) (li ws) (b : Int) (bl ws) (b : Int)) true := by
  induction d with
  | zero =>
    intro i hi
    refine Ev.step (fun k => by simp only [trommellaw18_BloomPlays.l1]; rw [if_neg (by rw [li_length]; omega)]; rfl) (plays_l2 x hx ws hs h1 h2 b hb (bl ws).length 0 0 (by omega) (by simp [bl_count]))
  | succ d ih =>
    intro i hi
    refine Ev.step (fun k => ?_) (Ev.bind (word_ev ws hs i (by omega) h2 (b : Int)) (f := fun k t294 => if ((ws.getD i 0 : Nat) : Int) = t294 then (trommellaw18_BloomPlays.l1 k (x : Int) (li ws) 0 (wrap64 ((i : Int) + 1)) (li ws) (b : Int) (bl ws) (b : Int)) else (some false)) ?_)
    · simp only [trommellaw18_BloomPlays.l1]
      rw [if_pos (by rw [li_length]; omega), if_pos (by omega), rd_li]
    · refine Ev.congr (fun k => ?_) (ih (i + 1) (by omega))
      rw [if_pos rfl, w64_in _ (by omega) (by omega)]
      rfl
theorem plays_l0 (x : Nat) (hx : x < 18446744073709551616) (xs : List Nat) (hxs : Sm xs) (hxl : xs.length ≤ 50) (b : Nat) (hb : b ≤ 5) (d : Nat) : ∀ (i : Nat) (ws : List Nat), i + d = xs.length → Sm ws → 1 ≤ ws.length → ws.length ≤ 4096 →
    Ev (fun k => trommellaw18_BloomPlays.l0 k (li xs) (x : Int) (i : Int) (li ws) (b : Int) (bl ws) (b : Int)) true := by
  induction d with
  | zero =>
    intro i ws hi hs h1 h2
    have e : wrap64 (((bl ws).length : Int) / 64) = ((li ws).length : Int) := by rw [bl_length, li_length, w64_in _ (by omega) (by omega)]; omega
    refine Ev.step (fun k => ?_) (Ev.step (g := fun k => trommellaw18_BloomPlays.j2 k (x : Int) (li ws) false (li ws) (b : Int) (bl ws) (b : Int)) (fun k => ?_) (plays_l1 x hx ws hs h1 h2 b hb ws.length 0 (by omega)))
    · simp only [trommellaw18_BloomPlays.l0]
      rw [if_neg (by rw [li_length]; omega), words_eq ws _ (by omega), Option.bind_some, if_pos e.symm]
      unfold bloom_Bits.f
      rw [Option.bind_some, bne_self_eq_false]
    · simp only [trommellaw18_BloomPlays.j2]
      rw [if_neg (by simp)]
      rfl
  | succ d ih =>
    intro i ws hi hs h1 h2
    have hxi := hxs.at_ i
    have hone : Sm [xs.getD i 0] := by intro y hy; obtain rfl := List.mem_singleton.1 hy; exact hxi
    have e1 := add_ev b hb [xs.getD i 0] hone (by rw [List.length_singleton]; omega) ws hs h1 (by omega)
    have el : li [xs.getD i 0] = [((xs.getD i 0 : Nat) : Int)] := rfl
    have ea : addL b ws [xs.getD i 0] = add1 b ws (xs.getD i 0) := rfl
    have ei : wrap64 ((i : Int) + 1) = ((i + 1 : Nat) : Int) := by rw [w64_in _ (by omega) (by omega)]; rfl
    rw [el, ea] at e1
    have e2 := refadd_ev ws h1 h2 (xs.getD i 0) (by simpa using hxi) b hb
    refine Ev.step (fun k => ?_) (Ev.bind e1 (f := fun k bt280 => (trommelref18_Add.f k (bl ws) (b : Int) ((xs.getD i 0 : Nat) : Int)).bind fun bt285 => trommellaw18_BloomPlays.l0 k (li xs) (x : Int) (wrap64 ((i : Int) + 1)) bt280.1 bt280.2 bt285.1 bt285.2) ?_)
    · simp only [trommellaw18_BloomPlays.l0]
      rw [if_pos (by rw [li_length]; omega), if_pos (by omega), rd_li]
    · refine Ev.bind e2 ?_
      refine Ev.congr (fun k => ?_) (ih (i + 1) (add1 b ws (xs.getD i 0)) (by omega) (hs.add1 _) (by rw [add1_length]; exact h1) (by rw [add1_length]; exact h2))
      simp only [ei]
theorem BloomPlays : trommellaw18_BloomPlays.Pure := by
  intro a0 a1 l2 a3 h0 h1 m2 s2 w2 h3
  obtain ⟨xs, rfl, hxs⟩ := li_of l2 w2
  have hxs' : Sm xs := fun y hy => by simpa using hxs y hy
  obtain ⟨x, rfl⟩ := Int.eq_ofNat_of_zero_le (u64_of h3).1
  have hx : x < 18446744073709551616 := by have := (u64_of h3).2; omega
  have hlive : Ev (fun k => trommellaw18_BloomPlays.j0 k a0 a1 (li xs) (x : Int) true) true := by
    refine Ev.step (fun k => ?_) (Ev.bind live_ev (f := fun _ t => some t) (Ev.now _))
    simp only [trommellaw18_BloomPlays.j0]
    rw [if_pos trivial]
  apply Ev.rounds
  by_cases hl : ((li xs).length : Int) > 50
  · refine Ev.congr (fun k => ?_) hlive
    unfold trommellaw18_BloomPlays.f
    rw [if_pos hl]
  · have hl' : xs.length ≤ 50 := by rw [li_length] at hl; omega
    by_cases hw : a0 > 64
    · by_cases hw' : a0 < 4096
      · refine Ev.congr (fun k => ?_) hlive
        unfold trommellaw18_BloomPlays.f
        rw [if_neg hl, if_pos hw, decide_eq_true hw']
      · have hm : (max 1 (min a0 4096)).toNat = 4096 := by omega
        refine Ev.congr (fun k => ?_) (Ev.step (g := fun k => trommellaw18_BloomPlays.j0 k a0 a1 (li xs) (x : Int) false) (fun k => ?_) (Ev.bind live_ev (f := fun _ t => some t) (Ev.now _)))
        · unfold trommellaw18_BloomPlays.f
          rw [if_neg hl, if_pos hw, decide_eq_false hw']
        · simp only [trommellaw18_BloomPlays.j0]
          rw [if_neg (by simp), if_pos hw, new_eq, hm]
          simp only [Option.bind_some]
          rw [words_eq _ _ (by rw [List.length_replicate]; omega)]
          simp only [Option.bind_some]
          rw [if_pos (by rw [li_length, List.length_replicate]; rfl)]
    · obtain ⟨n, hn, hn1, hn2⟩ : ∃ n : Nat, (max 1 (min a0 4096)).toNat = n ∧ 1 ≤ n ∧ n ≤ 4096 := ⟨_, rfl, by omega, by omega⟩
      obtain ⟨b, hb, hb5⟩ : ∃ b : Nat, (max 1 (min a1 5)).toNat = b ∧ b ≤ 5 := ⟨_, rfl, by omega⟩
      refine Ev.congr (fun k => ?_) (Ev.step (g := fun k => trommellaw18_BloomPlays.j0 k a0 a1 (li xs) (x : Int) false) (fun k => ?_) (plays_l0 x hx xs hxs' hl' b hb5 xs.length 0 (List.replicate n 0) (by omega) (Sm.replicate n) (by simpa using hn1) (by simpa using hn2)))
      · unfold trommellaw18_BloomPlays.f
        rw [if_neg hl, if_neg hw]
      · simp only [trommellaw18_BloomPlays.j0]
        rw [if_neg (by simp), if_neg hw, new_eq, refnew_eq, hn, hb]
        rfl
end Go.Proofs.Ytobfhacdljmooaa.Pure
