/- Plain laws of the filters of bits: the reference's lists of truths are the bits of the words. -/
import Derived.Test.YtobfhacdljmooaaBM3
import Derived.Test.YtobfhacdljmooaaBM4
import Derived.Test.YtobfhacdljmooaaPBloomx6
set_option linter.unusedVariables false
set_option linter.unusedSimpArgs false
namespace Go.Proofs.Ytobfhacdljmooaa.PBloom
open Go.RowKit Go.Proofs.YtobfhacdljmooaaW.PrintWords Go.Proofs.YtobfhacdljmooaaW.PrintLast Go.Proofs.YtobfhacdljmooaaW.PrintMore

/-- the lowest k bits of x, the lowest first -/
def bitsL : Nat → Nat → List Bool
  | 0, _ => []
  | k + 1, x => (x % 2 == 1) :: bitsL k (x / 2)
theorem bitsL_length (k : Nat) : ∀ x, (bitsL k x).length = k := by
  induction k with
  | zero => intro x; rfl
  | succ k ih => intro x; simp [bitsL, ih]
theorem bitsL_at (k : Nat) : ∀ x j, j < k → (bitsL k x)[j]? = some (x.testBit j) := by
  induction k with
  | zero => intro x j h; omega
  | succ k ih =>
    intro x j h
    cases j with
    | zero => simp [bitsL, Nat.testBit_zero]; rw [Bool.eq_iff_iff]; simp
    | succ j => simp only [bitsL, List.getElem?_cons_succ]; rw [ih _ _ (by omega), Nat.testBit_succ]
theorem bitsL_count (k : Nat) : ∀ x, (bitsL k x).countP (fun b => b) = popN k x := by
  induction k with
  | zero => intro x; rfl
  | succ k ih =>
    intro x
    simp only [bitsL, popN, List.countP_cons, ih]
    rcases Nat.mod_two_eq_zero_or_one x with h | h <;> simp [h] <;> omega
def bl : List Nat → List Bool
  | [] => []
  | w :: ws => bitsL 64 w ++ bl ws
theorem bl_length (ws : List Nat) : (bl ws).length = 64 * ws.length := by
  induction ws with
  | nil => rfl
  | cons w ws ih => simp [bl, bitsL_length, ih]; omega
theorem bl_at (ws : List Nat) : ∀ p, p < 64 * ws.length → (bl ws)[p]? = some ((ws.getD (p / 64) 0).testBit (p % 64)) := by
  induction ws with
  | nil => intro p h; simp at h
  | cons w ws ih =>
    intro p h
    simp only [bl]
    by_cases hp : p < 64
    · rw [List.getElem?_append_left (by rw [bitsL_length]; exact hp), bitsL_at 64 w p hp, Nat.div_eq_of_lt hp, Nat.mod_eq_of_lt hp]; rfl
    · rw [List.getElem?_append_right (by rw [bitsL_length]; omega), bitsL_length, ih (p - 64) (by simp at h; omega)]
      rw [show p / 64 = (p - 64) / 64 + 1 by omega, show p % 64 = (p - 64) % 64 by omega]; rfl
theorem bl_set (ws : List Nat) (w j : Nat) (hw : w < ws.length) (hj : j < 64) : (bl ws).set (64 * w + j) true = bl (ws.set w (ws.getD w 0 ||| 2 ^ j)) := by
  apply List.ext_getElem?
  intro p
  have hl : 64 * w + j < (bl ws).length := by rw [bl_length]; omega
  by_cases hp : p < 64 * ws.length
  · rw [bl_at _ p (by rw [List.length_set]; exact hp), getD_set _ _ _ _ hw, List.getElem?_set]
    by_cases e : 64 * w + j = p
    · rw [if_pos e, if_pos (e ▸ hl), if_pos (show w = p / 64 by omega), show p % 64 = j by omega]
      simp [Nat.testBit_or]
    · rw [if_neg e, bl_at _ p hp]
      by_cases e' : w = p / 64
      · rw [if_pos e', ← e']
        have : j ≠ p % 64 := by omega
        simp [Nat.testBit_or, Nat.testBit_two_pow, this]
      · rw [if_neg e']
  · rw [List.getElem?_eq_none (by rw [List.length_set, bl_length]; omega), List.getElem?_eq_none (by rw [bl_length, List.length_set]; omega)]
theorem bl_zeros (n : Nat) : bl (List.replicate n 0) = List.replicate (64 * n) false := by
  induction n with
  | zero => rfl
  | succ n ih =>
    rw [List.replicate_succ]
    simp only [bl, ih]
    have : bitsL 64 0 = List.replicate 64 false := by decide
    rw [this, List.replicate_append_replicate]
    congr 1; omega
def popL : List Nat → Nat
  | [] => 0
  | w :: ws => popN 64 w + popL ws
theorem bl_count (ws : List Nat) : (bl ws).countP (fun b => b) = popL ws := by
  induction ws with
  | nil => rfl
  | cons w ws ih => simp only [bl, popL, List.countP_append, bitsL_count, ih]

/-- the places of the first b numbers of h in word w -/
def pl (w h : Nat) : Nat → List Nat
  | 0 => []
  | b + 1 => pl w h b ++ [64 * w + h / 2 ^ (6 * b) % 64]
theorem pl_length (w h b : Nat) : (pl w h b).length = b := by
  induction b with
  | zero => rfl
  | succ b ih => simp [pl, ih]
theorem pl_at (w h : Nat) (b i : Nat) (hi : i < b) : (pl w h b).getD i 0 = 64 * w + h / 2 ^ (6 * i) % 64 := by
  induction b with
  | zero => omega
  | succ b ih =>
    simp only [pl, List.getD_eq_getElem?_getD]
    by_cases e : i < b
    · rw [List.getElem?_append_left (by rw [pl_length]; exact e), ← List.getD_eq_getElem?_getD, ih e]
    · obtain rfl : i = b := by omega
      rw [List.getElem?_append_right (by rw [pl_length]; omega), pl_length]; simp
theorem ref_bucket (h n : Nat) (hh : h < 18446744073709551616) (hn : 1 ≤ n) (hm : n < 9223372036854775808) : trommelref17_Bucket.f (h : Int) (n : Int) = some ((bk h n : Nat) : Int) := by
  unfold trommelref17_Bucket.f
  have e1 : Int.tdiv (h : Int) 4294967296 = ((h / 4294967296 : Nat) : Int) := by
    rw [Int.tdiv_eq_ediv_of_nonneg (by omega)]; omega
  rw [if_neg (by omega), if_neg (by omega), e1, nat_u64 _ (by omega), w64_in _ (by omega) (by omega)]
  have : Int.tmod ((h / 4294967296 : Nat) : Int) (n : Int) = ((bk h n : Nat) : Int) := by
    rw [Int.tmod_eq_emod_of_nonneg (by omega)]; simp [bk]
  rw [this]
theorem places_loop (w h : Nat) (hh : h < 18446744073709551616) (hw : w < 4096) (L : List Bool) (b : Nat) (hb : b ≤ 5) (d : Nat) : ∀ i : Nat, i + d = b →
    Ev (fun k => trommelref18_places.l0 k ((h / 2 ^ (6 * i) : Nat) : Int) (li (pl w h i)) (w : Int) (i : Int) L (b : Int)) (li (pl w h b)) := by
  induction d with
  | zero =>
    intro i hi
    obtain rfl : i = b := by omega
    refine Ev.step (f := fun _ => _) (fun k => ?_) (Ev.now _)
    simp only [trommelref18_places.l0]
    rw [if_neg (by omega)]
  | succ d ih =>
    intro i hi
    refine Ev.step (fun k => ?_) (ih (i + 1) (by omega))
    simp only [trommelref18_places.l0]
    obtain ⟨q, hq⟩ : ∃ q, q = h / 2 ^ (6 * i) := ⟨_, rfl⟩
    have hqh : q ≤ h := by rw [hq]; exact Nat.div_le_self _ _
    have e0 : h / 2 ^ (6 * (i + 1)) = q / 64 := by
      rw [hq, Nat.div_div_eq_div_mul, show 6 * (i + 1) = 6 * i + 6 by omega, Nat.pow_add]
    have e1 : Int.tdiv (q : Int) 64 = ((q / 64 : Nat) : Int) := by rw [Int.tdiv_eq_ediv_of_nonneg (by omega)]; omega
    have e2 : Int.tmod (q : Int) 64 = ((q % 64 : Nat) : Int) := by rw [Int.tmod_eq_emod_of_nonneg (by omega)]; omega
    rw [← hq, if_pos (by omega), if_pos (by rw [li_length, pl_length]; omega), e0, e1, nat_u64 _ (by omega), e2, w64_in ((q % 64 : Nat) : Int) (by omega) (by omega), w64_in (64 * (w : Int)) (by omega) (by omega), w64_in (64 * (w : Int) + _) (by omega) (by omega), w64_in _ (by omega) (by omega)]
    rw [show (64 * (w : Int) + ((q % 64 : Nat) : Int)) = ((64 * w + q % 64 : Nat) : Int) by omega]
    simp only [pl, li_append, ← hq]
    rfl
theorem places_ev (ws : List Nat) (h1 : 1 ≤ ws.length) (h2 : ws.length ≤ 4096) (h : Nat) (hh : h < 18446744073709551616) (b : Nat) (hb : b ≤ 5) :
    Ev (fun k => trommelref18_places.f k (bl ws) (b : Int) (h : Int)) (li (pl (bk h ws.length) h b)) := by
  have hk := bk_lt h ws.length h1
  have := places_loop (bk h ws.length) h hh (by omega) (bl ws) b hb b 0 (by omega)
  refine Ev.congr (fun k => ?_) this
  unfold trommelref18_places.f
  have e : wrap64 (((bl ws).length : Int) / 64) = (ws.length : Int) := by rw [bl_length, w64_in _ (by omega) (by omega)]; omega
  rw [e, ref_bucket h _ hh h1 (by omega)]
  simp [pl, li]
theorem mk_bits (h : Nat) (ws : List Nat) (w : Nat) (hw : w < ws.length) (i : Nat) : (bl (ws.set w (ws.getD w 0 ||| mk h i))).set (64 * w + h / 2 ^ (6 * i) % 64) true = bl (ws.set w (ws.getD w 0 ||| mk h (i + 1))) := by
  rw [bl_set _ _ _ (by rw [List.length_set]; exact hw) (Nat.mod_lt _ (by decide)), getD_set _ _ _ _ hw, if_pos rfl, List.set_set]
  simp only [mk, Nat.or_assoc]
theorem refadd_loop (ws : List Nat) (h1 : 1 ≤ ws.length) (h2 : ws.length ≤ 4096) (h : Nat) (b : Nat) (hb : b ≤ 5) (L : List Bool) (B : Int) (d : Nat) : ∀ i : Nat, i + d = b →
    Ev (fun k => trommelref18_Add.l0 k (bl (ws.set (bk h ws.length) (ws.getD (bk h ws.length) 0 ||| mk h i))) (li (pl (bk h ws.length) h b)) (i : Int) L B) (bl (add1 b ws h), B) := by
  have hk := bk_lt h ws.length h1
  induction d with
  | zero =>
    intro i hi
    obtain rfl : i = b := by omega
    refine Ev.step (f := fun _ => _) (fun k => ?_) (Ev.now _)
    simp only [trommelref18_Add.l0]
    rw [if_neg (by rw [li_length, pl_length]; omega)]
    rfl
  | succ d ih =>
    intro i hi
    refine Ev.step (fun k => ?_) (ih (i + 1) (by omega))
    simp only [trommelref18_Add.l0]
    have hm : h / 2 ^ (6 * i) % 64 < 64 := Nat.mod_lt _ (by decide)
    rw [if_pos (by rw [li_length, pl_length]; omega), if_pos (by omega), rd_li, pl_at _ _ _ _ (by omega), if_pos (Int.natCast_nonneg _), if_pos (by rw [bl_length, List.length_set]; omega), Int.toNat_natCast, mk_bits _ _ _ hk, w64_in _ (by omega) (by omega)]
    rfl
theorem refadd_ev (ws : List Nat) (h1 : 1 ≤ ws.length) (h2 : ws.length ≤ 4096) (h : Nat) (hh : h < 18446744073709551616) (b : Nat) (hb : b ≤ 5) :
    Ev (fun k => trommelref18_Add.f k (bl ws) (b : Int) (h : Int)) (bl (add1 b ws h), (b : Int)) := by
  have hk := bk_lt h ws.length h1
  have := refadd_loop ws h1 h2 h b hb (bl ws) (b : Int) b 0 (by omega)
  have e : ws.set (bk h ws.length) (ws.getD (bk h ws.length) 0 ||| mk h 0) = ws := by
    simp only [mk, Nat.or_zero]
    rw [List.getD_eq_getElem?_getD, List.getElem?_eq_getElem hk]; simp
  rw [e] at this
  refine Ev.congr (fun k => ?_) (Ev.bind (places_ev ws h1 h2 h hh b hb) (f := fun k t => trommelref18_Add.l0 k (bl ws) t 0 (bl ws) (b : Int)) this)
  unfold trommelref18_Add.f
  simp only [Option.bind_some, List.nil_append]
  rw [if_pos (by simp [bl_length]; omega)]
theorem and_mk (w h i : Nat) : (w &&& mk h (i + 1) == mk h (i + 1)) = ((w &&& mk h i == mk h i) && w.testBit (h / 2 ^ (6 * i) % 64)) := by
  rw [Bool.eq_iff_iff]
  simp only [beq_iff_eq, Bool.and_eq_true, mk]
  constructor
  · intro e
    refine ⟨?_, ?_⟩
    · apply Nat.eq_of_testBit_eq; intro j
      have := congrArg (fun z => z.testBit j) e
      simp only [Nat.testBit_and, Nat.testBit_or] at this ⊢
      cases hm : (mk h i).testBit j with
      | false => simp
      | true => rw [hm] at this; simpa using this
    · have := congrArg (fun z => z.testBit (h / 2 ^ (6 * i) % 64)) e
      simpa [Nat.testBit_and, Nat.testBit_or] using this
  · rintro ⟨e, e'⟩
    apply Nat.eq_of_testBit_eq; intro j
    have := congrArg (fun z => z.testBit j) e
    simp only [Nat.testBit_and, Nat.testBit_or, Nat.testBit_two_pow] at this ⊢
    by_cases hj : h / 2 ^ (6 * i) % 64 = j
    · subst hj; simp [e']
    · simp [hj] at this ⊢; exact this
/-- all of the places from i on pass -/
def passes (w h b : Nat) : Nat → Bool
  | 0 => true
  | d + 1 => w.testBit (h / 2 ^ (6 * (b - (d + 1))) % 64) && passes w h b d
theorem passes_all (w h b : Nat) (d : Nat) : ∀ i, i + d = b → ((w &&& mk h i == mk h i) && passes w h b d) = (w &&& mk h b == mk h b) := by
  induction d with
  | zero => intro i hi; obtain rfl : i = b := by omega
            simp [passes]
  | succ d ih =>
    intro i hi
    rw [← ih (i + 1) (by omega), and_mk]
    simp only [passes]
    rw [show b - (d + 1) = i by omega, Bool.and_assoc]
theorem refhas_loop (ws : List Nat) (h1 : 1 ≤ ws.length) (h2 : ws.length ≤ 4096) (h : Nat) (b : Nat) (hb : b ≤ 5) (B : Int) (d : Nat) : ∀ i : Nat, i + d = b →
    Ev (fun k => trommelref18_Has.l0 k (li (pl (bk h ws.length) h b)) (i : Int) (bl ws) B) (passes (ws.getD (bk h ws.length) 0) h b d) := by
  have hk := bk_lt h ws.length h1
  induction d with
  | zero =>
    intro i hi
    refine Ev.step (f := fun _ => _) (fun k => ?_) (Ev.now _)
    simp only [trommelref18_Has.l0]
    rw [if_neg (by rw [li_length, pl_length]; omega)]
    rfl
  | succ d ih =>
    intro i hi
    have hm : h / 2 ^ (6 * i) % 64 < 64 := Nat.mod_lt _ (by decide)
    obtain ⟨j, hj⟩ : ∃ j, j = h / 2 ^ (6 * i) % 64 := ⟨_, rfl⟩
    rw [← hj] at hm
    have hat : rdOf false (bl ws) ((64 * bk h ws.length + j : Nat) : Int) = (ws.getD (bk h ws.length) 0).testBit j := by
      unfold rdOf
      rw [Int.toNat_natCast, List.getD_eq_getElem?_getD, bl_at _ _ (by omega), show (64 * bk h ws.length + j) / 64 = bk h ws.length by omega, show (64 * bk h ws.length + j) % 64 = j by omega]; rfl
    have hp : passes (ws.getD (bk h ws.length) 0) h b (d + 1) = ((ws.getD (bk h ws.length) 0).testBit j && passes (ws.getD (bk h ws.length) 0) h b d) := by
      simp only [passes]; rw [show b - (d + 1) = i by omega, ← hj]
    rw [hp]
    cases e : (ws.getD (bk h ws.length) 0).testBit j with
    | true =>
      refine Ev.step (fun k => ?_) (by simpa using ih (i + 1) (by omega))
      simp only [trommelref18_Has.l0]
      rw [if_pos (by rw [li_length, pl_length]; omega), if_pos (by omega), rd_li, pl_at _ _ _ _ (by omega), ← hj, if_pos (Int.natCast_nonneg _), if_pos (by rw [bl_length]; omega), hat, e, if_pos rfl, w64_in _ (by omega) (by omega)]
    | false =>
      refine Ev.step (f := fun _ => _) (fun k => ?_) (Ev.now _)
      simp only [trommelref18_Has.l0]
      rw [if_pos (by rw [li_length, pl_length]; omega), if_pos (by omega), rd_li, pl_at _ _ _ _ (by omega), ← hj, if_pos (Int.natCast_nonneg _), if_pos (by rw [bl_length]; omega), hat, e, if_neg (by simp)]
      rfl
theorem refhas_ev (ws : List Nat) (h1 : 1 ≤ ws.length) (h2 : ws.length ≤ 4096) (h : Nat) (hh : h < 18446744073709551616) (b : Nat) (hb : b ≤ 5) :
    Ev (fun k => trommelref18_Has.f k (bl ws) (b : Int) (h : Int)) (hasN b ws h) := by
  have := refhas_loop ws h1 h2 h b hb (b : Int) b 0 (by omega)
  have e := passes_all (ws.getD (bk h ws.length) 0) h b b 0 (by omega)
  simp only [mk, Nat.and_zero, beq_self_eq_true, Bool.true_and] at e
  rw [e] at this
  exact Ev.bind (places_ev ws h1 h2 h hh b hb) this
theorem word_loop (W : Nat) (hW : W < 2 ^ 64) (ws : List Nat) (w : Nat) (hw : w < ws.length) (h2 : ws.length ≤ 4096) (e : ws.getD w 0 = W) (B : Int) (d : Nat) : ∀ j : Int, 0 ≤ j + 1 → j + 1 = d → j < 64 →
    Ev (fun k => trommelref18_Word.l0 k (w : Int) ((W / 2 ^ d : Nat) : Int) j (bl ws) B) (W : Int) := by
  induction d with
  | zero =>
    intro j h0 hj hl
    refine Ev.step (f := fun _ => _) (fun k => ?_) (Ev.now _)
    simp only [trommelref18_Word.l0]
    rw [if_neg (by omega)]; simp
  | succ d ih =>
    intro j h0 hj hl
    obtain rfl : j = (d : Int) := by omega
    refine Ev.step (fun k => ?_) (ih ((d : Int) - 1) (by omega) (by omega) (by omega))
    simp only [trommelref18_Word.l0]
    have hat : rdOf false (bl ws) ((64 * w + d : Nat) : Int) = W.testBit d := by
      unfold rdOf
      rw [Int.toNat_natCast, List.getD_eq_getElem?_getD, bl_at _ _ (by omega), show (64 * w + d) / 64 = w by omega, show (64 * w + d) % 64 = d by omega, e]; rfl
    have hbit : W / 2 ^ d = 2 * (W / 2 ^ (d + 1)) + (W.testBit d).toNat := by
      rw [Nat.testBit_eq_decide_div_mod_eq, Nat.pow_succ, ← Nat.div_div_eq_div_mul]
      have := Nat.div_add_mod (W / 2 ^ d) 2
      rcases Nat.mod_two_eq_zero_or_one (W / 2 ^ d) with h | h <;> simp [h] <;> omega
    have hlt : W / 2 ^ d ≤ W := Nat.div_le_self _ _
    rw [if_pos (by omega), w64_in (64 * (w : Int)) (by omega) (by omega), w64_in (64 * (w : Int) + d) (by omega) (by omega), show 64 * (w : Int) + (d : Int) = ((64 * w + d : Nat) : Int) by omega, if_pos (by omega), if_pos (by rw [bl_length]; omega), hat, w64_in ((d : Int) - 1) (by omega) (by omega)]
    generalize W / 2 ^ (d + 1) = q at hbit
    cases hb : W.testBit d with
    | true =>
      rw [hb] at hbit
      simp only [Bool.toNat_true] at hbit
      rw [if_pos rfl, show (2 : Int) * (q : Int) = ((2 * q : Nat) : Int) by omega, nat_u64 _ (by omega), show ((2 * q : Nat) : Int) + 1 = ((2 * q + 1 : Nat) : Int) by omega, nat_u64 _ (by omega), hbit]
    | false =>
      rw [hb] at hbit
      simp only [Bool.toNat_false, Nat.add_zero] at hbit
      rw [if_neg (by simp), show (2 : Int) * (q : Int) = ((2 * q : Nat) : Int) by omega, nat_u64 _ (by omega), hbit]
theorem word_ev (ws : List Nat) (hs : Sm ws) (w : Nat) (hw : w < ws.length) (h2 : ws.length ≤ 4096) (B : Int) : Ev (fun k => trommelref18_Word.f k (bl ws) B (w : Int)) ((ws.getD w 0 : Nat) : Int) := by
  have hW := hs.at_ w
  have := word_loop (ws.getD w 0) hW ws w hw h2 rfl B 64 63 (by omega) (by omega) (by omega)
  rw [Nat.div_eq_of_lt hW] at this
  exact this
theorem ones_loop (ws : List Nat) (hs : Sm ws) (h2 : ws.length ≤ 4096) (d : Nat) : ∀ (i x : Nat), i + d = ws.length → x ≤ 64 * i →
    Ev (fun k => bloom_Ones.l0 k (x : Int) (li ws) (ws.length : Int) (i : Int)) ((x + popL (ws.drop i) : Nat) : Int) := by
  induction d with
  | zero =>
    intro i x hi hx
    refine Ev.step (f := fun _ => _) (fun k => ?_) (Ev.now _)
    simp only [bloom_Ones.l0]
    rw [if_neg (by omega), List.drop_eq_nil_of_le (by omega)]
    rfl
  | succ d ih =>
    intro i x hi hx
    have hl : i < ws.length := by omega
    have hd : ws.drop i = ws.getD i 0 :: ws.drop (i + 1) := by
      rw [List.drop_eq_getElem_cons hl, List.getD_eq_getElem?_getD, List.getElem?_eq_getElem hl]; rfl
    have hp : popN 64 (ws.getD i 0) ≤ 64 := by
      have h : ∀ k y, popN k y ≤ k := by
        intro k
        induction k with
        | zero => intro y; simp [popN]
        | succ k ih => intro y; have := ih (y / 2); simp only [popN]; omega
      exact h _ _
    have := ih (i + 1) (x + popN 64 (ws.getD i 0)) (by omega) (by omega)
    rw [hd]
    simp only [popL]
    rw [← Nat.add_assoc]
    refine Ev.step (fun k => ?_) this
    simp only [bloom_Ones.l0]
    rw [if_pos (by omega), if_pos (by omega), if_pos (by rw [li_length]; omega), rd_li, ones_eq _ (hs.at_ _)]
    simp only [Option.bind_some]
    rw [show (x : Int) + ((popN 64 (ws.getD i 0) : Nat) : Int) = ((x + popN 64 (ws.getD i 0) : Nat) : Int) by omega, w64_in ((x + popN 64 (ws.getD i 0) : Nat) : Int) (by omega) (by omega), w64_in _ (by omega) (by omega)]
    rfl
theorem ones_ev (ws : List Nat) (hs : Sm ws) (h2 : ws.length ≤ 4096) (B : Int) : Ev (fun k => bloom_Ones.f k (li ws) B) ((popL ws : Nat) : Int) := by
  have := ones_loop ws hs h2 ws.length 0 0 (by omega) (by omega)
  simp only [List.drop_zero, Nat.zero_add] at this
  refine Ev.congr (fun k => ?_) this
  unfold bloom_Ones.f
  rw [li_length]
  rfl
end Go.Proofs.Ytobfhacdljmooaa.PBloom
