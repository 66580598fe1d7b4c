/- Plain laws of the filters of bits: what New, Add, Has, Union and Words answer, over lists of numbers. -/
import Derived.Test.YtobfhacdljmooaaBM1
set_option linter.unusedVariables false
set_option linter.unusedSimpArgs false
namespace Go.Proofs.Ytobfhacdljmooaa.PBloom
open Go.RowKit Go.Proofs.YtobfhacdljmooaaW.PrintWords Go.Proofs.YtobfhacdljmooaaW.PrintLast Go.Proofs.YtobfhacdljmooaaW.PrintMore

def Sm (l : List Nat) : Prop := ∀ x ∈ l, x < 2 ^ 64
theorem Sm.at_ {l : List Nat} (h : Sm l) (i : Nat) : l.getD i 0 < 2 ^ 64 := by
  rw [List.getD_eq_getElem?_getD]
  cases e : l[i]? with
  | none => simp
  | some x => exact h x (List.mem_of_getElem? e)
theorem Sm.set_ {l : List Nat} (h : Sm l) (i : Nat) {n : Nat} (hn : n < 2 ^ 64) : Sm (l.set i n) := by
  intro x hx
  rcases List.mem_or_eq_of_mem_set hx with hx | rfl
  · exact h x hx
  · exact hn
theorem Sm.replicate (n : Nat) : Sm (List.replicate n 0) := by
  intro x hx
  obtain rfl := List.eq_of_mem_replicate hx
  decide

def add1 (b : Nat) (ws : List Nat) (x : Nat) : List Nat := ws.set (bk x ws.length) (ws.getD (bk x ws.length) 0 ||| mk x b)
def addL (b : Nat) (ws xs : List Nat) : List Nat := xs.foldl (add1 b) ws
theorem add1_length (b : Nat) (ws : List Nat) (x : Nat) : (add1 b ws x).length = ws.length := by simp [add1]
theorem addL_length (b : Nat) (xs : List Nat) : ∀ ws : List Nat, (addL b ws xs).length = ws.length := by
  induction xs with
  | nil => intro ws; rfl
  | cons x xs ih => intro ws; show (addL b (add1 b ws x) xs).length = _; rw [ih, add1_length]
theorem Sm.add1 {b : Nat} {ws : List Nat} (h : Sm ws) (x : Nat) : Sm (add1 b ws x) := h.set_ _ (Nat.or_lt_two_pow (h.at_ _) (mk_lt _ _))
theorem Sm.addL {b : Nat} (xs : List Nat) : ∀ {ws : List Nat}, Sm ws → Sm (addL b ws xs) := by
  induction xs with
  | nil => intro ws h; exact h
  | cons x xs ih => intro ws h; exact ih (h.add1 x)
def hasN (b : Nat) (ws : List Nat) (x : Nat) : Bool := (ws.getD (bk x ws.length) 0 &&& mk x b) == mk x b
theorem bk_lt (x n : Nat) (h : 1 ≤ n) : bk x n < n := Nat.mod_lt _ (by omega)

theorem mask_at (x : Nat) (hx : x < 2 ^ 64) (b : Nat) (hb : b ≤ 5) (ws : List Nat) (h1 : 1 ≤ ws.length) (h2 : ws.length < 17592186044416) :
    Ev (fun k => bloom_mask.f k (li ws) (b : Int) (x : Int)) (((bk x ws.length : Nat) : Int), ((mk x b : Nat) : Int)) := by
  have := mask_ev x (by simpa using hx) b hb (li ws) (by rw [li_length]; exact h1) (by rw [li_length]; omega)
  rwa [li_length] at this

theorem add_loop (b : Nat) (hb : b ≤ 5) (xs : List Nat) (hxs : Sm xs) (hx : xs.length < 17592186044416) (d : Nat) : ∀ (i : Nat) (ws : List Nat), Sm ws → 1 ≤ ws.length → ws.length < 17592186044416 → i + d = xs.length →
    Ev (fun k => bloom_Add.l0 k (li xs) (xs.length : Int) (i : Int) (li ws) (b : Int)) (li (addL b ws (xs.drop i)), (b : Int)) := by
  induction d with
  | zero =>
    intro i ws hs h1 h2 hi
    refine Ev.step (f := fun _ => _) (fun k => ?_) (Ev.now _)
    simp only [bloom_Add.l0]
    rw [if_neg (by omega), List.drop_eq_nil_of_le (by omega)]
    rfl
  | succ d ih =>
    intro i ws hs h1 h2 hi
    have hl : i < xs.length := by omega
    have hxi := hxs.at_ i
    have hd : xs.drop i = xs.getD i 0 :: xs.drop (i + 1) := by
      rw [List.drop_eq_getElem_cons hl, List.getD_eq_getElem?_getD, List.getElem?_eq_getElem hl]; rfl
    have hk := bk_lt (xs.getD i 0) ws.length h1
    have h := ih (i + 1) (add1 b ws (xs.getD i 0)) (hs.add1 _) (by rw [add1_length]; exact h1) (by rw [add1_length]; exact h2) (by omega)
    rw [hd]
    refine Ev.step (fun k => ?_) (Ev.bind (mask_at _ hxi b hb ws h1 h2) (f := fun k bt => if 0 ≤ bt.1 then (if bt.1 < ((li ws).length : Int) then (bloom_Add.l0 k (li xs) (xs.length : Int) (wrap64 ((i : Int) + 1)) ((li ws).set (bt.1 : Int).toNat (Go.bits .or .u64 (rd (li ws) bt.1) bt.2)) (b : Int)) else none) else none) ?_)
    · simp only [bloom_Add.l0]
      rw [if_pos (by omega), if_pos (by omega), if_pos (by rw [li_length]; omega), rd_li]
    · refine Ev.congr (fun k => ?_) h
      rw [if_pos (by omega), if_pos (by rw [li_length]; omega), Int.toNat_natCast, rd_li, bor _ _ (hs.at_ _) (mk_lt _ _), li_set, w64_in _ (by omega) (by omega)]
      rfl

theorem clone_eq (ws : List Nat) (h : ws.length < 17592186044416) : slices_Clone_uint64_uint64.f (li ws) = some (li ws) := by
  unfold slices_Clone_uint64_uint64.f; rw [if_pos (by rw [li_length]; exact h)]
theorem add_ev (b : Nat) (hb : b ≤ 5) (xs : List Nat) (hxs : Sm xs) (hx : xs.length < 17592186044416) (ws : List Nat) (hs : Sm ws) (h1 : 1 ≤ ws.length) (h2 : ws.length < 17592186044416) :
    Ev (fun k => bloom_Add.f k (li ws) (b : Int) (li xs)) (li (addL b ws xs), (b : Int)) := by
  refine Ev.congr (fun k => ?_) (add_loop b hb xs hxs hx xs.length 0 ws hs h1 h2 (by omega))
  unfold bloom_Add.f
  rw [if_neg (by rw [li_length]; omega), clone_eq ws h2, li_length]
  rfl

theorem has_ev (b : Nat) (hb : b ≤ 5) (x : Nat) (hx : x < 2 ^ 64) (ws : List Nat) (hs : Sm ws) (h1 : 1 ≤ ws.length) (h2 : ws.length < 17592186044416) :
    Ev (fun k => bloom_Has.f k (li ws) (b : Int) (x : Int)) (hasN b ws x) := by
  have hk := bk_lt x ws.length h1
  refine Ev.congr (fun k => ?_) (Ev.bind (mask_at x hx b hb ws h1 h2) (f := fun k bt => if 0 ≤ bt.1 then (if bt.1 < ((li ws).length : Int) then (some ((Go.bits .and .u64 (rd (li ws) bt.1) bt.2) == bt.2)) else none) else none) (Ev.congr (fun k => ?_) (Ev.now _)))
  · unfold bloom_Has.f
    rw [if_neg (by rw [li_length]; omega)]
  · rw [if_pos (by omega), if_pos (by rw [li_length]; omega), rd_li, band _ _ (hs.at_ _) (mk_lt _ _)]
    unfold hasN
    congr 1
    rw [Bool.eq_iff_iff]
    simp only [beq_iff_eq]
    omega

def uni (ws vs : List Nat) : List Nat := List.zipWith (· ||| ·) ws vs
theorem uni_length (ws vs : List Nat) (h : vs.length = ws.length) : (uni ws vs).length = ws.length := by simp [uni, h]
theorem Sm.uni {ws vs : List Nat} (h : Sm ws) (h' : Sm vs) : Sm (uni ws vs) := by
  intro x hx
  obtain ⟨i, hi, rfl⟩ := List.mem_iff_getElem.1 hx
  simp only [PBloom.uni, List.getElem_zipWith]
  exact Nat.or_lt_two_pow (h _ (List.getElem_mem _)) (h' _ (List.getElem_mem _))
theorem uni_at (ws vs : List Nat) (h : vs.length = ws.length) (i : Nat) : (uni ws vs).getD i 0 = ws.getD i 0 ||| vs.getD i 0 := by
  simp only [uni, List.getD_eq_getElem?_getD, List.getElem?_zipWith]
  by_cases hi : i < ws.length
  · rw [List.getElem?_eq_getElem hi, List.getElem?_eq_getElem (by omega)]; rfl
  · rw [List.getElem?_eq_none (by omega), List.getElem?_eq_none (by omega)]; rfl

/-- the first i words of ws joined with those of vs -/
def uniTo (ws vs : List Nat) (i : Nat) : List Nat := (uni ws vs).take i ++ ws.drop i
theorem uniTo_length (ws vs : List Nat) (h : vs.length = ws.length) (i : Nat) (hi : i ≤ ws.length) : (uniTo ws vs i).length = ws.length := by
  simp [uniTo, uni_length ws vs h]; omega
theorem uniTo_at (ws vs : List Nat) (h : vs.length = ws.length) (i : Nat) (hi : i < ws.length) : (uniTo ws vs i).getD i 0 = ws.getD i 0 := by
  simp only [uniTo, List.getD_eq_getElem?_getD]
  rw [List.getElem?_append_right (by simp [uni_length ws vs h]; omega), List.getElem?_drop, List.length_take, uni_length ws vs h]
  congr 2; omega
theorem uniTo_set (ws vs : List Nat) (h : vs.length = ws.length) (i : Nat) (hi : i < ws.length) : (uniTo ws vs i).set i (ws.getD i 0 ||| vs.getD i 0) = uniTo ws vs (i + 1) := by
  rw [← uni_at ws vs h]
  have hu : i < (uni ws vs).length := by rw [uni_length ws vs h]; exact hi
  simp only [uniTo]
  rw [List.set_append_right _ _ (by simp; omega), List.length_take, Nat.min_eq_left (by omega), Nat.sub_self, List.drop_eq_getElem_cons hi, List.set_cons_zero, List.take_succ_eq_append_getElem hu, List.append_assoc, List.getD_eq_getElem?_getD, List.getElem?_eq_getElem hu]
  rfl
theorem Sm.uniTo {ws vs : List Nat} (h : Sm ws) (h' : Sm vs) (i : Nat) : Sm (uniTo ws vs i) := by
  intro x hx
  rcases List.mem_append.1 hx with hx | hx
  · exact h.uni h' x (List.mem_of_mem_take hx)
  · exact h x (List.mem_of_mem_drop hx)

theorem union_loop (ws vs : List Nat) (hs : Sm ws) (hv : Sm vs) (h : vs.length = ws.length) (h2 : ws.length < 17592186044416) (b : Int) (d : Nat) : ∀ i : Nat, i + d = ws.length →
    Ev (fun k => bloom_Union.l0 k (li vs) (vs.length : Int) (i : Int) (li (uniTo ws vs i)) b) (li (uni ws vs), b, 0) := by
  induction d with
  | zero =>
    intro i hi
    refine Ev.step (f := fun _ => _) (fun k => ?_) (Ev.now _)
    simp only [bloom_Union.l0]
    rw [if_neg (by omega)]
    have : uniTo ws vs i = uni ws vs := by
      simp only [uniTo]
      rw [List.drop_eq_nil_of_le (by omega), List.take_of_length_le (by rw [uni_length ws vs h]; omega), List.append_nil]
    rw [this]
  | succ d ih =>
    intro i hi
    refine Ev.step (fun k => ?_) (ih (i + 1) (by omega))
    simp only [bloom_Union.l0]
    rw [if_pos (by omega), if_pos (by omega), if_pos (by rw [li_length]; omega), if_pos (by rw [li_length, uniTo_length ws vs h i (by omega)]; omega), Int.toNat_natCast, rd_li, rd_li, bor _ _ ((hs.uniTo hv i).at_ _) (hv.at_ _), uniTo_at ws vs h i (by omega), li_set, uniTo_set ws vs h i (by omega), w64_in _ (by omega) (by omega)]
    simp
theorem union_ev (ws vs : List Nat) (hs : Sm ws) (hv : Sm vs) (h : vs.length = ws.length) (h2 : ws.length < 17592186044416) (b : Int) :
    Ev (fun k => bloom_Union.f k (li ws) b (li vs) b) (li (uni ws vs), b, 0) := by
  have := union_loop ws vs hs hv h h2 b ws.length 0 (by omega)
  refine Ev.congr (fun k => ?_) (Ev.step (g := fun k => bloom_Union.j0 k (b != b) (li ws) b (li vs) b) (fun k => ?_) this)
  · unfold bloom_Union.f
    rw [if_pos (by rw [li_length, li_length, h])]
  · simp only [bloom_Union.j0]
    rw [if_neg (by simp), clone_eq ws h2]
    simp [uniTo, li_length]
theorem union_no (ws vs : List Nat) (b c : Int) (h : ws.length ≠ vs.length ∨ b ≠ c) : Ev (fun k => bloom_Union.f k (li ws) b (li vs) c) ([], 0, 7) := by
  refine Ev.congr (fun k => ?_) (Ev.step (g := fun k => bloom_Union.j0 k true (li ws) b (li vs) c) (f := fun _ => _) (fun k => ?_) (Ev.now _))
  · unfold bloom_Union.f
    by_cases hl : ((li ws).length : Int) = ((li vs).length : Int)
    · rw [if_pos hl]
      have : b ≠ c := by
        rcases h with h | h
        · simp only [li_length] at hl; omega
        · exact h
      have hb : (b != c) = true := by simpa using this
      rw [hb]
    · rw [if_neg hl]
  · simp [bloom_Union.j0]
theorem words_eq (ws : List Nat) (b : Int) (h : ws.length < 17592186044416) : bloom_Words.f (li ws) b = some (li ws) := by
  unfold bloom_Words.f; rw [clone_eq ws h]; rfl
theorem new_eq (n b : Int) : bloom_New.f n b = some (li (List.replicate (max 1 (min n 4096)).toNat 0), ((max 1 (min b 5)).toNat : Int)) := by
  unfold bloom_New.f mn mx
  have e : (if (4096 : Int) < (if n < 1 then 1 else n) then 4096 else (if n < 1 then 1 else n)) = max 1 (min n 4096) := by
    split <;> split <;> omega
  have e' : (if (5 : Int) < (if b < 1 then 1 else b) then 5 else (if b < 1 then 1 else b)) = ((max 1 (min b 5)).toNat : Int) := by
    split <;> split <;> omega
  rw [e, e', if_pos (by omega), if_pos (by omega)]
  simp [li]
theorem live_ev : Ev (fun k => trommellaw18_live.f k) true := Ev.of (fun k => trommellaw18_live.mono k) (k := 40) (by kernel_rfl)
end Go.Proofs.Ytobfhacdljmooaa.PBloom
