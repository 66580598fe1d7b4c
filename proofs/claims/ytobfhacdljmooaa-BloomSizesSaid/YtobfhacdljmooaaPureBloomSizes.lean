/- BloomSizes is proved: for every rows, per, words, bits and number h, the size is the reference's, a filter has no union with one of other length or of other bits, and the zero filter holds nothing. -/
import Derived.Test.YtobfhacdljmooaaBM2
import Derived.Test.YtobfhacdljmooaaPBloomx8
set_option linter.unusedVariables false
set_option linter.unusedSimpArgs false
namespace Go.Proofs.Ytobfhacdljmooaa.Pure
open Go.RowKit Go.Proofs.Ytobfhacdljmooaa.PBloom Go.Proofs.YtobfhacdljmooaaW.PrintWords Go.Proofs.YtobfhacdljmooaaW.PrintLast

theorem byte_of {a : Int} (h : (Lit.int .u8 a).wf = true) : 0 ≤ a ∧ a < 256 := by
  simp [Lit.wf, IntKind.min, IntKind.max, IntKind.bits, IntKind.signed] at h; omega
theorem word_of {a : Int} (h : (Lit.int .u64 a).wf = true) : 0 ≤ a ∧ a < 18446744073709551616 := by
  simp [Lit.wf, IntKind.min, IntKind.max, IntKind.bits, IntKind.signed] at h; omega
theorem size_loop (need : Int) (d : Nat) : ∀ j p : Nat, p = 2 ^ j → j + d = 12 → ∃ r : Int, Ev (fun k => bloom_Size.l0 k need (p : Int)) r ∧ Ev (fun k => trommelref18_Size.l0 k need (p : Int)) r := by
  induction d with
  | zero =>
    intro j p hp hj
    obtain rfl : j = 12 := by omega
    subst hp
    exact ⟨4096, Ev.step (f := fun _ => _) (fun k => by simp only [bloom_Size.l0]; rw [if_neg (by decide)]; rfl) (Ev.now _), Ev.step (f := fun _ => _) (fun k => by simp only [trommelref18_Size.l0]; rw [if_neg (by decide)]) (Ev.now _)⟩
  | succ d ih =>
    intro j p hp hj
    have hp' : p ≤ 2 ^ 11 := by rw [hp]; exact Nat.pow_le_pow_right (by decide) (by omega)
    have hlt : (p : Int) < 4096 := by omega
    have e1 : wrap64 ((p : Int) * 64) = 64 * (p : Int) := by rw [w64_in _ (by omega) (by omega)]; omega
    have e2 : wrap64 (64 * (p : Int)) = 64 * (p : Int) := w64_in _ (by omega) (by omega)
    have e3 : wrap64 ((p : Int) * 2) = ((2 * p : Nat) : Int) := by rw [w64_in _ (by omega) (by omega)]; omega
    have e4 : wrap64 (2 * (p : Int)) = ((2 * p : Nat) : Int) := by rw [w64_in _ (by omega) (by omega)]; omega
    by_cases hn : 64 * (p : Int) < need
    · obtain ⟨r, h1, h2⟩ := ih (j + 1) (2 * p) (by rw [hp, Nat.pow_succ, Nat.mul_comm]) (by omega)
      refine ⟨r, Ev.step (fun k => ?_) h1, Ev.step (fun k => ?_) h2⟩
      · simp only [bloom_Size.l0]
        rw [if_pos hlt, e1, if_pos hn, e3]
      · simp only [trommelref18_Size.l0]
        rw [if_pos hlt, e2, if_neg (by omega), e4]
    · refine ⟨(p : Int), Ev.step (f := fun _ => _) (fun k => ?_) (Ev.now _), Ev.step (f := fun _ => _) (fun k => ?_) (Ev.now _)⟩
      · simp only [bloom_Size.l0]
        rw [if_pos hlt, e1, if_neg hn]
      · simp only [trommelref18_Size.l0]
        rw [if_pos hlt, e2, if_pos (by omega)]
theorem held_eq (a : Int) : trommelref18_held.f a 0 1048576 = some (mn (mx a 0) 1048576) := by
  unfold trommelref18_held.f mn mx
  by_cases h : a < 0
  · rw [if_pos h, if_pos h, if_neg (by decide)]
  · rw [if_neg h, if_neg h]
    by_cases h' : a > 1048576
    · rw [if_pos h', if_pos (by omega)]
    · rw [if_neg h', if_neg (by omega)]
theorem size_both (a0 a1 : Int) : ∃ r : Int, Ev (fun k => bloom_Size.f k a0 a1) r ∧ Ev (fun k => trommelref18_Size.f k a0 a1) r := by
  obtain ⟨r, h1, h2⟩ := size_loop (wrap64 ((mn (mx a0 0) 1048576) * (mn (mx a1 0) 1048576))) 12 0 1 rfl rfl
  refine ⟨r, Ev.congr (fun k => ?_) h1, Ev.congr (fun k => ?_) h2⟩
  · rfl
  · unfold trommelref18_Size.f
    rw [held_eq, held_eq]
    rfl
theorem cap1 (n : Nat) (h : 1 ≤ n) (h' : n ≤ 20) : (max 1 (min (wrap64 ((n : Int) + 1)) 4096)).toNat = n + 1 := by
  have : wrap64 ((n : Int) + 1) = ((n + 1 : Nat) : Int) := by rw [w64_in _ (by omega) (by omega)]; rfl
  rw [this]; omega
theorem cap2 (b : Nat) (h : 1 ≤ b) (h' : b ≤ 5) : (max 1 (min (b : Int) 5)).toNat = b := by omega
theorem cap3 (n : Nat) (h : 1 ≤ n) (h' : n ≤ 20) : (max 1 (min (n : Int) 4096)).toNat = n := by omega
theorem cap4 (b : Nat) (h : 1 ≤ b) (h' : b ≤ 5) : (max 1 (min (wrap64 (Int.tmod (b : Int) 5 + 1)) 5)).toNat = b % 5 + 1 := by
  have : wrap64 (Int.tmod (b : Int) 5 + 1) = ((b % 5 + 1 : Nat) : Int) := by
    rw [Int.tmod_eq_emod_of_nonneg (by omega), w64_in _ (by omega) (by omega)]; omega
  rw [this]; omega
theorem BloomSizes : trommellaw18_BloomSizes.Pure := by
  intro a0 a1 a2 a3 a4 h0 h1 h2 h3 h4
  have b2 := byte_of h2
  have b3 := byte_of h3
  obtain ⟨n, hn, hn1, hn2⟩ : ∃ n : Nat, (max 1 (min (Int.tmod (wrap64 a2) 20) 4096)).toNat = n ∧ 1 ≤ n ∧ n ≤ 20 := by
    refine ⟨_, rfl, by omega, ?_⟩
    have : Int.tmod (wrap64 a2) 20 < 20 := by
      rw [w64_in _ (by omega) (by omega), Int.tmod_eq_emod_of_nonneg (by omega)]; omega
    omega
  obtain ⟨b, hb, hb1, hb5⟩ : ∃ b : Nat, (max 1 (min (Int.tmod (wrap64 a3) 7) 5)).toNat = b ∧ 1 ≤ b ∧ b ≤ 5 := ⟨_, rfl, by omega, by omega⟩
  obtain ⟨x, rfl⟩ := Int.eq_ofNat_of_zero_le (word_of h4).1
  have hx := (word_of h4).2
  have lz : (li (List.replicate n 0)).length = n := by rw [li_length]; simp
  have e1 : (max 1 (min (wrap64 (((li (List.replicate n 0)).length : Int) + 1)) 4096)).toNat = n + 1 := by rw [lz]; exact cap1 n hn1 hn2
  have e2 := cap2 b hb1 hb5
  have e3 : (max 1 (min (((li (List.replicate n 0)).length : Int)) 4096)).toNat = n := by rw [lz]; exact cap3 n hn1 hn2
  have e4 := cap4 b hb1 hb5
  have nb : b % 5 + 1 ≠ b := by omega
  have u1 := union_no (List.replicate n 0) (List.replicate (n + 1) 0) (b : Int) (b : Int) (.inl (by simp))
  have u2 := union_no (List.replicate n 0) (List.replicate n 0) (b : Int) ((b % 5 + 1 : Nat) : Int) (.inr (by omega))
  have hw : bloom_Words.f (li (List.replicate n 0)) (b : Int) = some (li (List.replicate n 0)) := words_eq _ _ (by simp; omega)
  obtain ⟨r, s1, s2⟩ := size_both a0 a1
  have hs0 : ∀ k, bloom_Has.f k ([] : List Int) 0 (x : Int) = some false := fun k => by unfold bloom_Has.f; rw [if_pos (by simp)]
  have ha0 : ∀ k, bloom_Add.f k ([] : List Int) 0 ([(x : Int)] : List Int) = some ([], 0) := fun k => by unfold bloom_Add.f; rw [if_pos (by simp)]
  have hw0 : bloom_Words.f ([] : List Int) 0 = some [] := words_eq [] 0 (by simp)
  have ho0 : Ev (fun k => bloom_Ones.f k ([] : List Int) 0) 0 := Ev.step (f := fun _ => _) (fun k => by unfold bloom_Ones.f; simp only [bloom_Ones.l0]; rw [if_neg (by simp)]) (Ev.now _)
  have hj : Ev (fun k => trommellaw18_BloomSizes.j0 k a0 a1 7 7 true) true := by
    refine Ev.step (fun k => by simp only [trommellaw18_BloomSizes.j0]) (Ev.bind s1 (f := fun k t350 => ((trommelref18_Size.f k a0 a1).bind fun t351 => (if t350 = t351 then ((trommellaw18_code.f 7).bind fun t352 => (if t352 = 7 then ((trommellaw18_code.f 7).bind fun t353 => (if t353 = 7 then (if True then ((trommellaw18_live.f k).bind fun t354 => (some t354)) else (some false)) else (some false))) else (some false))) else (some false)))) ?_)
    refine Ev.bind s2 ?_
    refine Ev.congr (fun k => ?_) (Ev.bind live_ev (f := fun _ t => some t) (Ev.now _))
    simp [trommellaw18_code.f]
  apply Ev.rounds
  unfold trommellaw18_BloomSizes.f
  simp only [new_eq, hn, hb, Option.bind_some, hw, bloom_Bits.f, e1, e2]
  refine Ev.bind u1 ?_
  simp only [e3, e4]
  refine Ev.bind u2 ?_
  refine Ev.congr (fun k => ?_) (Ev.bind ho0 (f := fun k t348 => trommellaw18_BloomSizes.j0 k a0 a1 7 7 ((wrap64 ((wrap64 ((([] : List Int).length : Int) + t348)) + 0)) == 0)) (Ev.congr (fun k => ?_) hj))
  · simp [hs0, ha0, hw0]
  · have : ((wrap64 ((wrap64 ((([] : List Int).length : Int) + 0)) + 0)) == 0) = true := by kernel_rfl
    rw [this]
end Go.Proofs.Ytobfhacdljmooaa.Pure
