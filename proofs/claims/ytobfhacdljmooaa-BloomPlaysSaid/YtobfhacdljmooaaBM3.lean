/- Plain laws of the filters of bits: what each word holds behind any numbers put; what was put passes. -/
import Derived.Test.YtobfhacdljmooaaBM2
import Derived.Test.YtobfhacdljmooaaPBloomx3
set_option linter.unusedVariables false
set_option linter.unusedSimpArgs false
namespace Go.Proofs.Ytobfhacdljmooaa.PBloom
open Go.RowKit Go.Proofs.YtobfhacdljmooaaW.PrintWords Go.Proofs.YtobfhacdljmooaaW.PrintLast Go.Proofs.YtobfhacdljmooaaW.PrintMore

/-- what the numbers xs put into word i of n -/
def orAt (b n : Nat) : List Nat → Nat → Nat
  | [], _ => 0
  | x :: xs, i => (if bk x n = i then mk x b else 0) ||| orAt b n xs i
theorem orAt_append (b n : Nat) (xs ys : List Nat) (i : Nat) : orAt b n (xs ++ ys) i = orAt b n xs i ||| orAt b n ys i := by
  induction xs with
  | nil => simp [orAt]
  | cons x xs ih => simp only [List.cons_append, orAt, ih, Nat.or_assoc]
theorem orAt_mem (b n : Nat) (xs : List Nat) (x : Nat) (h : x ∈ xs) : orAt b n xs (bk x n) ||| mk x b = orAt b n xs (bk x n) := by
  induction xs with
  | nil => cases h
  | cons y xs ih =>
    simp only [orAt]
    rcases List.mem_cons.1 h with rfl | h
    · rw [if_pos rfl]
      apply Nat.eq_of_testBit_eq; intro j
      simp only [Nat.testBit_or]
      cases (mk x b).testBit j <;> simp
    · rw [Nat.or_assoc, ih h]
theorem getD_set (ws : List Nat) (i j v : Nat) (hj : j < ws.length) : (ws.set j v).getD i 0 = if j = i then v else ws.getD i 0 := by
  simp only [List.getD_eq_getElem?_getD, List.getElem?_set]
  by_cases e : j = i
  · subst e; rw [if_pos rfl, if_pos hj, if_pos rfl]; rfl
  · rw [if_neg e, if_neg e]
theorem addL_at (b : Nat) (xs : List Nat) (i : Nat) : ∀ ws : List Nat, 1 ≤ ws.length → (addL b ws xs).getD i 0 = ws.getD i 0 ||| orAt b ws.length xs i := by
  induction xs with
  | nil => intro ws h; simp [addL, orAt]
  | cons x xs ih =>
    intro ws h
    show (addL b (add1 b ws x) xs).getD i 0 = _
    rw [ih _ (by rw [add1_length]; exact h), add1_length]
    simp only [orAt, add1]
    rw [getD_set _ _ _ _ (bk_lt _ _ h)]
    by_cases e : bk x ws.length = i
    · rw [if_pos e, if_pos e, e, Nat.or_assoc]
    · rw [if_neg e, if_neg e, Nat.zero_or]
theorem and_of_or {w m : Nat} (h : w ||| m = w) : w &&& m = m := by
  rw [← h]
  apply Nat.eq_of_testBit_eq; intro j
  simp only [Nat.testBit_or, Nat.testBit_and]
  cases w.testBit j <;> cases m.testBit j <;> rfl
theorem has_of (b : Nat) (ws : List Nat) (x : Nat) (h : ws.getD (bk x ws.length) 0 ||| mk x b = ws.getD (bk x ws.length) 0) : hasN b ws x = true := by
  unfold hasN
  rw [and_of_or h]
  simp
theorem has_put (b : Nat) (ws xs : List Nat) (h1 : 1 ≤ ws.length) (x : Nat) (hx : x ∈ xs) : hasN b (addL b ws xs) x = true := by
  refine has_of b _ x ?_
  rw [addL_length, addL_at b xs _ ws h1, Nat.or_assoc, orAt_mem b ws.length xs x hx]
theorem has_uni (b : Nat) (ws vs xs : List Nat) (h1 : 1 ≤ ws.length) (hl : vs.length = ws.length) (x : Nat) (hx : x ∈ xs) : hasN b (uni (addL b ws xs) vs) x = true := by
  have e : vs.length = (addL b ws xs).length := by rw [addL_length, hl]
  refine has_of b _ x ?_
  rw [uni_length _ _ e, uni_at _ _ e, addL_length, addL_at b xs _ ws h1]
  have := orAt_mem b ws.length xs x hx
  rw [Nat.or_assoc, Nat.or_assoc, Nat.or_comm (vs.getD (bk x ws.length) 0), ← Nat.or_assoc (orAt b ws.length xs (bk x ws.length)), this, Nat.or_assoc]
theorem ext_getD {a c : List Nat} (h : a.length = c.length) (h' : ∀ i, a.getD i 0 = c.getD i 0) : a = c := by
  apply List.ext_getElem h
  intro i h1 h2
  have := h' i
  simpa [List.getD_eq_getElem?_getD, List.getElem?_eq_getElem h1, List.getElem?_eq_getElem h2] using this
theorem uni_comm (a c : List Nat) (h : c.length = a.length) : uni a c = uni c a := by
  refine ext_getD (by rw [uni_length _ _ h, uni_length _ _ h.symm, h]) fun i => ?_
  rw [uni_at _ _ h, uni_at _ _ h.symm, Nat.or_comm]
theorem getD_zeros (n i : Nat) : (List.replicate n 0).getD i 0 = 0 := by
  simp only [List.getD_eq_getElem?_getD, List.getElem?_replicate]
  split <;> rfl
theorem uni_all (b n : Nat) (hn : 1 ≤ n) (xs ys : List Nat) : uni (addL b (List.replicate n 0) xs) (addL b (List.replicate n 0) ys) = addL b (List.replicate n 0) (ys ++ xs) := by
  have e : (addL b (List.replicate n 0) ys).length = (addL b (List.replicate n 0) xs).length := by rw [addL_length, addL_length]
  have h1 : 1 ≤ (List.replicate n 0).length := by simpa using hn
  refine ext_getD (by rw [uni_length _ _ e, addL_length, addL_length]) fun i => ?_
  rw [uni_at _ _ e, addL_at b xs i _ h1, addL_at b ys i _ h1, addL_at b (ys ++ xs) i _ h1, getD_zeros, orAt_append]
  simp [Nat.or_comm]

theorem keeps_l1 (z : List Nat) (hz : z.length < 17592186044416) (d : Nat) : ∀ i : Nat, i + d = z.length → Ev (fun k => trommellaw18_BloomKeeps.l1 k (li z) (li z) (li z) (i : Int)) true := by
  induction d with
  | zero =>
    intro i hi
    refine Ev.step (fun k => ?_) (Ev.bind live_ev (f := fun _ t => some t) (Ev.now _))
    simp only [trommellaw18_BloomKeeps.l1]
    rw [if_neg (by rw [li_length]; omega)]
  | succ d ih =>
    intro i hi
    refine Ev.step (fun k => ?_) (ih (i + 1) (by omega))
    simp only [trommellaw18_BloomKeeps.l1]
    rw [if_pos (by rw [li_length]; omega), if_pos (by omega), if_pos (by rw [li_length]; omega), if_pos trivial, if_pos (by rw [li_length]; omega), if_pos trivial, w64_in _ (by omega) (by omega)]
    rfl
theorem keeps_l0 (b : Nat) (hb : b ≤ 5) (a : List Nat) (ha : Sm a) (hal : a.length ≤ 80) (f u : List Nat) (hf : Sm f) (hu : Sm u) (h1 : 1 ≤ f.length) (h2 : f.length < 17592186044416) (hl : u.length = f.length)
    (hhf : ∀ x ∈ a, hasN b f x = true) (hhu : ∀ x ∈ a, hasN b u x = true) (d : Nat) : ∀ i : Nat, i + d = a.length →
    Ev (fun k => trommellaw18_BloomKeeps.l0 k (li a) (i : Int) (li f) (b : Int) (li u) (b : Int) (li u) (b : Int) (li u) (b : Int)) true := by
  induction d with
  | zero =>
    intro i hi
    refine Ev.step (fun k => ?_) (Ev.step (g := fun k => trommellaw18_BloomKeeps.j1 k (li u) (li u) (li u) false) (fun k => ?_) (keeps_l1 u (by omega) u.length 0 (by omega)))
    · simp only [trommellaw18_BloomKeeps.l0]
      rw [if_neg (by rw [li_length]; omega), words_eq u _ (by omega)]
      simp
    · simp only [trommellaw18_BloomKeeps.j1]
      rw [if_neg (by simp)]
      rfl
  | succ d ih =>
    intro i hi
    have hm : a.getD i 0 ∈ a := by
      rw [List.getD_eq_getElem?_getD, List.getElem?_eq_getElem (show i < a.length by omega)]; exact List.getElem_mem _
    have hx := ha _ hm
    have e1 := has_ev b hb _ hx f hf h1 h2
    have e2 := has_ev b hb _ hx u hu (by omega) (by omega)
    rw [hhf _ hm] at e1
    rw [hhu _ hm] at e2
    refine Ev.step (fun k => ?_) (Ev.bind e1 (f := fun k t => if t = true then ((bloom_Has.f k (li u) (b : Int) ((a.getD i 0 : Nat) : Int)).bind fun t206 => (if t206 = true then (trommellaw18_BloomKeeps.l0 k (li a) (wrap64 ((i : Int) + 1)) (li f) (b : Int) (li u) (b : Int) (li u) (b : Int) (li u) (b : Int)) else (some false))) else (some false)) ?_)
    · simp only [trommellaw18_BloomKeeps.l0]
      rw [if_pos (by rw [li_length]; omega), if_pos (by omega), rd_li]
    · refine Ev.congr (fun k => ?_) (Ev.bind e2 (f := fun k t206 => if t206 = true then (trommellaw18_BloomKeeps.l0 k (li a) (wrap64 ((i : Int) + 1)) (li f) (b : Int) (li u) (b : Int) (li u) (b : Int) (li u) (b : Int)) else (some false)) ?_)
      · rw [if_pos rfl]
      · refine Ev.congr (fun k => ?_) (ih (i + 1) (by omega))
        rw [if_pos rfl, w64_in _ (by omega) (by omega)]
        rfl
end Go.Proofs.Ytobfhacdljmooaa.PBloom
