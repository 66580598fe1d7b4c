/- Plain laws of the printed functions of numbers as bytes: what they tell. -/
import Derived.Test.YtobfhacdljmooaaCM2
import Derived.Test.YtobfhacdljmooaaPCodeIx2
import Derived.Test.YtobfhacdljmooaaPCodeIx4
import Derived.Lib.Bytes
set_option linter.unusedVariables false
set_option linter.unusedSimpArgs false
namespace Go.Proofs.Ytobfhacdljmooaa.PCodeI
open Go.RowKit Go.Proofs.YtobfhacdljmooaaW.PrintWords Go.Proofs.YtobfhacdljmooaaW.PrintLast Go.Proofs.Ytobfhacdljmooaa.CM

theorem w64 (x : Int) (h0 : -9223372036854775808 ≤ x) (h1 : x ≤ 9223372036854775807) : wrap64 x = x := by unfold wrap64; omega
theorem rd_mid (p r : List Int) (x : Int) (i : Int) (hi : i = (p.length : Int)) : rd (p ++ x :: r) i = x := by subst hi; unfold rd; simp
theorem str_eq {a b : List Int} (ha : Bytes a) (hb : Bytes b) : (strOfNums a).toList = (strOfNums b).toList ↔ a = b := by
  rw [Lib.strOfNums_toList, Lib.strOfNums_toList]
  unfold Lib.bytesOf
  constructor
  · intro h
    induction a generalizing b with
    | nil => cases b with
      | nil => rfl
      | cons y b => simp at h
    | cons x a ih => cases b with
      | nil => simp at h
      | cons y b =>
        simp only [List.map_cons, List.cons.injEq] at h
        have hx := ha x List.mem_cons_self
        have hy := hb y List.mem_cons_self
        have h1 := congrArg UInt8.toNat h.1
        simp only [UInt8.toNat_ofNat'] at h1
        rw [ih (fun z hz => ha z (List.mem_cons_of_mem _ hz)) (fun z hz => hb z (List.mem_cons_of_mem _ hz)) h.2, show x = y by omega]
  · rintro rfl; rfl
theorem strOfNums_app (a b : List Int) : (strOfNums a ++ strOfNums b).toList = (strOfNums (a ++ b)).toList := by
  rw [ByteArray.toList_eq, ByteArray.data_append, Array.toList_append, ← ByteArray.toList_eq, ← ByteArray.toList_eq, Lib.strOfNums_toList, Lib.strOfNums_toList, Lib.strOfNums_toList]
  simp [Lib.bytesOf]
theorem strOfNums_size (a : List Int) : (strOfNums a).size = a.length := by
  have h := congrArg List.length (Lib.strOfNums_toList a)
  rw [Lib.bytesOf_length] at h
  rw [← h, ByteArray.toList_eq]
  exact (Array.length_toList).symm

theorem put_eq (l : List Int) (n : Int) (hn : In n) (hl : l.length < 1000000) : code_PutInt.f l n = some (l ++ encI n) := by
  unfold code_PutInt.f C.put.f; rw [if_pos hn.1, if_pos hn.2, if_pos hl]; rfl
theorem rint_eq (n : Int) (hn : In n) : trommelref39_Int.f n = some (encI n) := by
  unfold trommelref39_Int.f C.rint.f; rw [if_pos hn.1, if_pos hn.2]; rfl
theorem get_eq (l : List Int) (at_ : Int) (hl : l.length < 1000000) (hb : Bytes l) : code_GetInt.f l at_ = some (getN l at_) := by
  unfold code_GetInt.f C.get.f; rw [if_pos hl, if_pos hb]

theorem puts_l0 (r : List Int) : ∀ (p b : List Int), (∀ x ∈ r, In x) → b.length + 10 * r.length < 1000000 → p.length + r.length < 1000000 → ∀ k, r.length + 1 ≤ k → code_PutInts.l0 k b (p ++ r) ((p ++ r).length : Int) (p.length : Int) = some (b ++ encAll r) := by
  induction r with
  | nil =>
    intro p b _ _ _ k hk
    obtain ⟨k, rfl⟩ : ∃ j, k = j + 1 := ⟨k - 1, by omega⟩
    simp [code_PutInts.l0, encAll]
  | cons x r ih =>
    intro p b hin hb hp k hk
    obtain ⟨k, rfl⟩ : ∃ j, k = j + 1 := ⟨k - 1, by omega⟩
    simp only [List.length_cons] at hk hb hp
    have hx := hin x List.mem_cons_self
    have h10 := encI_ten x hx
    simp only [code_PutInts.l0]
    rw [if_pos (by simp only [List.length_append, List.length_cons]; omega), if_pos (by omega), if_pos (by simp only [List.length_append, List.length_cons]; omega), rd_mid _ _ _ _ rfl, put_eq _ _ hx (by omega), Option.bind_some, w64 _ (by omega) (by omega)]
    have h := ih (p ++ [x]) (b ++ encI x) (fun y hy => hin y (List.mem_cons_of_mem _ hy)) (by rw [List.length_append]; omega) (by rw [List.length_append]; simp only [List.length_cons, List.length_nil]; omega) k (by omega)
    rw [List.append_assoc, List.singleton_append, List.append_assoc, @List.length_append _ p [x]] at h
    exact h
theorem puts_eq (b l : List Int) (hin : ∀ x ∈ l, In x) (hb : b.length + 10 * l.length < 900000) (k : Nat) (hk : l.length + 1 ≤ k) : code_PutInts.f k b l = some (b ++ encL l) := by
  have hI : In (l.length : Int) := ⟨by omega, by omega⟩
  have h10 := encI_ten _ hI
  unfold code_PutInts.f
  rw [put_eq _ _ hI (by omega), Option.bind_some]
  have h := puts_l0 l [] (b ++ encI (l.length : Int)) hin (by rw [List.length_append]; omega) (by simp only [List.length_nil]; omega) k hk
  simp only [List.nil_append, List.length_nil] at h
  rw [show ((0 : Nat) : Int) = 0 from rfl] at h
  rw [h, List.append_assoc]; rfl
theorem rints_l0 (r : List Int) : ∀ (p b : List Int), (∀ x ∈ r, In x) → b.length + 10 * r.length < 1000000 → p.length + r.length < 1000000 → ∀ k, r.length + 1 ≤ k → trommelref39_Ints.l0 k (p ++ r) b (p.length : Int) = some (b ++ encAll r) := by
  induction r with
  | nil =>
    intro p b _ _ _ k hk
    obtain ⟨k, rfl⟩ : ∃ j, k = j + 1 := ⟨k - 1, by omega⟩
    simp [trommelref39_Ints.l0, encAll]
  | cons x r ih =>
    intro p b hin hb hp k hk
    obtain ⟨k, rfl⟩ : ∃ j, k = j + 1 := ⟨k - 1, by omega⟩
    simp only [List.length_cons] at hk hb hp
    have hx := hin x List.mem_cons_self
    have h10 := encI_ten x hx
    simp only [trommelref39_Ints.l0]
    rw [if_pos (by simp only [List.length_append, List.length_cons]; omega), if_pos (by omega), rd_mid _ _ _ _ rfl, rint_eq _ hx, Option.bind_some, if_pos (by omega), w64 _ (by omega) (by omega)]
    have h := ih (p ++ [x]) (b ++ encI x) (fun y hy => hin y (List.mem_cons_of_mem _ hy)) (by rw [List.length_append]; omega) (by rw [List.length_append]; simp only [List.length_cons, List.length_nil]; omega) k (by omega)
    rw [List.append_assoc, List.singleton_append, List.append_assoc, @List.length_append _ p [x]] at h
    exact h
theorem rints_eq (l : List Int) (hin : ∀ x ∈ l, In x) (hb : 10 * l.length < 900000) (k : Nat) (hk : l.length + 1 ≤ k) : trommelref39_Ints.f k l = some (encL l) := by
  have hI : In (l.length : Int) := ⟨by omega, by omega⟩
  have h10 := encI_ten _ hI
  unfold trommelref39_Ints.f
  rw [rint_eq _ hI, Option.bind_some]
  have h := rints_l0 l [] (encI (l.length : Int)) hin (by omega) (by simp only [List.length_nil]; omega) k hk
  simp only [List.nil_append, List.length_nil] at h
  exact h

/-- what a reader's number tells -/
theorem rd_int (l : List Int) (hl : l.length < 1000000) (hb : Bytes l) (at_ : Int) (bad : Bool) : code_reader_int.f l at_ bad = some (if bad = true then (0, at_, true) else if (getN l at_).2.2 = true then ((getN l at_).1, (getN l at_).2.1, false) else (0, at_, true)) := by
  unfold code_reader_int.f
  rw [get_eq l at_ hl hb, Option.bind_some]
  split
  · rfl
  · split <;> rfl
theorem rd_int_bad (l : List Int) (hl : l.length < 1000000) (hb : Bytes l) (at_ : Int) : code_reader_int.f l at_ true = some (0, at_, true) := by rw [rd_int l hl hb, if_pos rfl]
theorem rd_int_ok (l : List Int) (hl : l.length < 1000000) (hb : Bytes l) (at_ : Int) (h : (getN l at_).2.2 = true) : code_reader_int.f l at_ false = some ((getN l at_).1, (getN l at_).2.1, false) := by rw [rd_int l hl hb, if_neg (by simp), if_pos h]
theorem rd_int_no (l : List Int) (hl : l.length < 1000000) (hb : Bytes l) (at_ : Int) (h : ¬ (getN l at_).2.2 = true) : code_reader_int.f l at_ false = some (0, at_, true) := by rw [rd_int l hl hb, if_neg (by simp), if_neg h]
theorem rd_count_bad (l : List Int) (hl : l.length < 1000000) (hb : Bytes l) (at_ : Int) : code_reader_count.f l at_ true = some (0, at_, true) := by
  unfold code_reader_count.f
  rw [rd_int_bad l hl hb, Option.bind_some]
  simp
theorem rd_count_ok (l : List Int) (hl : l.length < 1000000) (hb : Bytes l) (at_ : Int) (n : Nat) (x : Int) (h : countN l at_ = some (n, x)) : code_reader_count.f l at_ false = some ((n : Int), x, false) := by
  unfold countN at h
  by_cases hk : (getN l at_).2.2 = true
  · rw [if_pos hk] at h
    have ho := getN_ok l hb at_ hk
    unfold code_reader_count.f
    rw [rd_int_ok l hl hb at_ hk, Option.bind_some]
    generalize (getN l at_).1 = a at *
    generalize (getN l at_).2.1 = c at *
    by_cases h1 : a < 0
    · rw [if_pos h1] at h; cases h
    · rw [if_neg h1] at h
      by_cases h2 : a > (l.length : Int) - c
      · rw [if_pos h2] at h; cases h
      · rw [if_neg h2] at h
        obtain ⟨rfl, rfl⟩ : a.toNat = n ∧ c = x := by have := Option.some.inj h; cases this; exact ⟨rfl, rfl⟩
        simp only
        rw [if_neg h1, if_neg (by simp), w64 _ (by omega) (by omega), if_neg h2, Int.toNat_of_nonneg (by omega)]
  · rw [if_neg hk] at h; cases h
theorem rd_count_no (l : List Int) (hl : l.length < 1000000) (hb : Bytes l) (at_ : Int) (h : countN l at_ = none) : ∃ x, code_reader_count.f l at_ false = some (0, x, true) := by
  unfold countN at h
  by_cases hk : (getN l at_).2.2 = true
  · rw [if_pos hk] at h
    have ho := getN_ok l hb at_ hk
    unfold code_reader_count.f
    rw [rd_int_ok l hl hb at_ hk, Option.bind_some]
    generalize (getN l at_).1 = a at *
    generalize (getN l at_).2.1 = c at *
    by_cases h1 : a < 0
    · exact ⟨c, by simp only; rw [if_pos h1]⟩
    · rw [if_neg h1] at h
      by_cases h2 : a > (l.length : Int) - c
      · exact ⟨c, by simp only; rw [if_neg h1, if_neg (by simp), w64 _ (by omega) (by omega), if_pos h2]⟩
      · rw [if_neg h2] at h; cases h
  · unfold code_reader_count.f
    rw [rd_int_no l hl hb at_ hk, Option.bind_some]
    exact ⟨at_, by simp⟩
theorem rd_ints_l0 (l : List Int) (hl : l.length < 1000000) (hb : Bytes l) (n : Nat) (hn : n < 2000000) : ∀ (j i : Nat) (acc : List Int) (at_ : Int), i + j = n → acc.length = i → ∀ k, j + 1 ≤ k →
    (∀ m e, getNs j l at_ = some (m, e) → code_reader_ints.l0 k acc (n : Int) (i : Int) l at_ false = some (acc ++ m, e, false)) ∧ (∀ bad, (bad = true ∨ getNs j l at_ = none) → ∃ m e, code_reader_ints.l0 k acc (n : Int) (i : Int) l at_ bad = some (m, e, true)) := by
  intro j
  induction j with
  | zero =>
    intro i acc at_ hi ha k hk
    obtain ⟨k, rfl⟩ : ∃ j, k = j + 1 := ⟨k - 1, by omega⟩
    constructor
    · intro m e h
      simp only [getNs] at h
      obtain ⟨rfl, rfl⟩ : [] = m ∧ at_ = e := by have := Option.some.inj h; cases this; exact ⟨rfl, rfl⟩
      simp only [code_reader_ints.l0]
      rw [if_neg (by omega), List.append_nil]
    · intro bad h
      rcases h with rfl | h
      · exact ⟨acc, at_, by simp only [code_reader_ints.l0]; rw [if_neg (by omega)]⟩
      · simp [getNs] at h
  | succ j ih =>
    intro i acc at_ hi ha k hk
    obtain ⟨k, rfl⟩ : ∃ j, k = j + 1 := ⟨k - 1, by omega⟩
    have hw : wrap64 ((i : Int) + 1) = ((i + 1 : Nat) : Int) := by rw [w64 _ (by omega) (by omega)]; omega
    constructor
    · intro m e h
      simp only [getNs] at h
      by_cases hk2 : (getN l at_).2.2 = true
      · rw [if_pos hk2] at h
        cases hr : getNs j l (getN l at_).2.1 with
        | none => rw [hr] at h; cases h
        | some me =>
          obtain ⟨m', e'⟩ := me
          rw [hr] at h
          obtain ⟨rfl, rfl⟩ : (getN l at_).1 :: m' = m ∧ e' = e := by have := Option.some.inj h; cases this; exact ⟨rfl, rfl⟩
          simp only [code_reader_ints.l0]
          rw [if_pos (by omega), rd_int_ok l hl hb at_ hk2, Option.bind_some, if_pos (by omega), hw]
          rw [(ih (i + 1) (acc ++ [(getN l at_).1]) (getN l at_).2.1 (by omega) (by rw [List.length_append]; simp [ha]) k (by omega)).1 m' e' hr]
          simp
      · rw [if_neg hk2] at h; cases h
    · intro bad h
      simp only [code_reader_ints.l0]
      rw [if_pos (by omega), rd_int l hl hb, Option.bind_some, if_pos (by omega), hw]
      have I := fun (x : Int) (y : Int) => ih (i + 1) (acc ++ [x]) y (by omega) (by rw [List.length_append]; simp [ha]) k (by omega)
      by_cases hbd : bad = true
      · rw [if_pos hbd]
        exact (I 0 at_).2 true (.inl rfl)
      · rw [if_neg hbd]
        have h' : getNs (j + 1) l at_ = none := h.resolve_left hbd
        simp only [getNs] at h'
        by_cases hk2 : (getN l at_).2.2 = true
        · rw [if_pos hk2] at h' ⊢
          refine (I _ _).2 false (.inr ?_)
          cases hr : getNs j l (getN l at_).2.1 with
          | none => rfl
          | some me => rw [hr] at h'; cases h'
        · rw [if_neg hk2]
          exact (I 0 at_).2 true (.inl rfl)
theorem rd_ints_bad (l : List Int) (hl : l.length < 1000000) (hb : Bytes l) (at_ : Int) (k : Nat) (hk : 1 ≤ k) : ∃ m x, code_reader_ints.f k l at_ true = some (m, x, true) := by
  unfold code_reader_ints.f
  rw [rd_count_bad l hl hb, Option.bind_some]
  exact (rd_ints_l0 l hl hb 0 (by omega) 0 0 [] at_ rfl rfl k (by omega)).2 true (.inl rfl)
theorem rd_ints_ok (l : List Int) (hl : l.length < 1000000) (hb : Bytes l) (at_ : Int) (m : List Int) (e : Int) (h : intsN l at_ = some (m, e)) (k : Nat) (hk : l.length + 1 ≤ k) : code_reader_ints.f k l at_ false = some (m, e, false) := by
  unfold intsN at h
  cases hc : countN l at_ with
  | none => rw [hc] at h; cases h
  | some t =>
    obtain ⟨n, x⟩ := t
    rw [hc] at h
    simp only at h
    obtain ⟨p, r, i1, i2, i3, i4, i5⟩ := countN_inv l hb at_ n x hc
    have hn : n ≤ l.length := by rw [i1]; simp only [List.length_append]; omega
    unfold code_reader_ints.f
    rw [rd_count_ok l hl hb at_ n x hc, Option.bind_some]
    have := (rd_ints_l0 l hl hb n (by omega) n 0 [] x (by omega) rfl k (by omega)).1 m e h
    simpa using this
theorem rd_ints_no (l : List Int) (hl : l.length < 1000000) (hb : Bytes l) (at_ : Int) (h : intsN l at_ = none) (k : Nat) (hk : l.length + 1 ≤ k) : ∃ m x, code_reader_ints.f k l at_ false = some (m, x, true) := by
  unfold intsN at h
  cases hc : countN l at_ with
  | none =>
    obtain ⟨x, hx⟩ := rd_count_no l hl hb at_ hc
    unfold code_reader_ints.f
    rw [hx, Option.bind_some]
    exact (rd_ints_l0 l hl hb 0 (by omega) 0 0 [] x rfl rfl k (by omega)).2 true (.inl rfl)
  | some t =>
    obtain ⟨n, x⟩ := t
    rw [hc] at h
    simp only at h
    obtain ⟨p, r, i1, i2, i3, i4, i5⟩ := countN_inv l hb at_ n x hc
    have hn : n ≤ l.length := by rw [i1]; simp only [List.length_append]; omega
    unfold code_reader_ints.f
    rw [rd_count_ok l hl hb at_ n x hc, Option.bind_some]
    exact (rd_ints_l0 l hl hb n (by omega) n 0 [] x (by omega) rfl k (by omega)).2 false (.inr h)
/-- what GetInts tells -/
def gI (l : List Int) (at_ : Int) : List Int × Int × Bool := match intsN l at_ with | some (m, e) => (m, e, true) | none => ([], 0, false)

theorem same_l0 (r : List Int) : ∀ (p : List Int), p.length + r.length < 1000000000 → ∀ k, r.length + 1 ≤ k → trommelref21_SameList.l0 k (p ++ r) (p ++ r) (p.length : Int) = some true := by
  induction r with
  | nil =>
    intro p _ k hk
    obtain ⟨k, rfl⟩ : ∃ j, k = j + 1 := ⟨k - 1, by omega⟩
    simp [trommelref21_SameList.l0]
  | cons x r ih =>
    intro p hp k hk
    obtain ⟨k, rfl⟩ : ∃ j, k = j + 1 := ⟨k - 1, by omega⟩
    simp only [List.length_cons] at hk hp
    simp only [trommelref21_SameList.l0]
    rw [if_pos (by simp only [List.length_append, List.length_cons]; omega), if_pos (by omega), if_pos (by simp only [List.length_append, List.length_cons]; omega), if_true, w64 _ (by omega) (by omega)]
    have h := ih (p ++ [x]) (by rw [List.length_append]; simp only [List.length_cons, List.length_nil]; omega) k (by omega)
    rw [List.append_assoc, List.singleton_append, @List.length_append _ p [x]] at h
    exact h
theorem same_eq (l : List Int) (hl : l.length < 1000000000) (k : Nat) (hk : l.length + 1 ≤ k) : trommelref21_SameList.f k l l = some true := by
  unfold trommelref21_SameList.f
  rw [if_pos rfl]
  exact same_l0 l [] (by simp only [List.length_nil]; omega) k hk

/-- how many bytes from the head on are above 127, at most f -/
def run : Nat → List Int → Nat
  | 0, _ => 0
  | _ + 1, [] => 0
  | f + 1, c :: r => if 127 < c then run f r + 1 else 0
theorem run_le (f : Nat) : ∀ L, run f L ≤ f ∧ run f L ≤ L.length := by
  induction f with
  | zero => intro L; simp [run]
  | succ f ih =>
    intro L
    cases L with
    | nil => simp [run]
    | cons c r =>
      have := ih r
      simp only [run, List.length_cons]
      split <;> omega
theorem run_form (f : Nat) (p : List Int) (c : Int) (r : List Int) : (∀ x ∈ p, 127 < x) → c ≤ 127 → p.length < f → run f (p ++ c :: r) = p.length := by
  induction f generalizing p with
  | zero => intro _ _ h; omega
  | succ f ih =>
    intro hp hc hf
    cases p with
    | nil => simp only [List.nil_append, run]; rw [if_neg (by omega)]; rfl
    | cons x p =>
      simp only [List.cons_append, run, List.length_cons] at hf ⊢
      rw [if_pos (hp x List.mem_cons_self), ih p (fun y hy => hp y (List.mem_cons_of_mem _ hy)) hc (by omega)]
theorem rget_l0 (l : List Int) (hl : l.length < 1000000) (m : Nat) : ∀ (f j : Nat), j + f = 10 → m + j ≤ l.length → ∀ k, trommelref39_GetInt.l0 (k + run f (l.drop (m + j)) + 1) l (m : Int) ((m + j : Nat) : Int) = trommelref39_GetInt.j2 k l (m : Int) ((m + j + run f (l.drop (m + j)) : Nat) : Int) := by
  intro f
  induction f with
  | zero =>
    intro j hj hm k
    simp only [run, Nat.add_zero]
    simp only [trommelref39_GetInt.l0]
    rw [w64 _ (by omega) (by omega)]
    split
    · rw [if_neg (by omega)]
    · rfl
  | succ f ih =>
    intro j hj hm k
    by_cases h1 : m + j = l.length
    · rw [List.drop_eq_nil_of_le (by omega)]
      simp only [run, Nat.add_zero]
      simp only [trommelref39_GetInt.l0]
      rw [if_neg (by omega)]
    · have hd : l.drop (m + j) = rd l ((m + j : Nat) : Int) :: l.drop (m + (j + 1)) := by
        rw [List.drop_eq_getElem_cons (by omega)]
        congr 1
        unfold rd
        rw [List.getD_eq_getElem?_getD, Int.toNat_natCast, List.getElem?_eq_getElem (by omega)]; rfl
      rw [hd]
      simp only [run]
      by_cases h2 : 127 < rd l ((m + j : Nat) : Int)
      · rw [if_pos h2]
        have h := ih (j + 1) (by omega) (by omega) k
        rw [show k + (run f (l.drop (m + (j + 1))) + 1) + 1 = (k + run f (l.drop (m + (j + 1))) + 1) + 1 by omega]
        rw [show m + j + (run f (l.drop (m + (j + 1))) + 1) = m + (j + 1) + run f (l.drop (m + (j + 1))) by omega, ← h]
        generalize run f (l.drop (m + (j + 1))) = R
        rw [trommelref39_GetInt.l0]
        rw [if_pos (by omega), if_pos (by rw [w64 _ (by omega) (by omega)]; omega), if_pos (by omega), if_pos h2]
        congr 1
        rw [w64 _ (by omega) (by omega)]; omega
      · rw [if_neg h2]
        simp only [Nat.add_zero]
        simp only [trommelref39_GetInt.l0]
        rw [if_pos (by omega), if_pos (by rw [w64 _ (by omega) (by omega)]; omega), if_pos (by omega), if_neg h2]
theorem val_snoc (D : List Int) (c : Int) : val (D ++ [c]) = val D + 128 ^ D.length * (c.toNat % 128) := by
  induction D with
  | nil => simp [val]
  | cons x D ih =>
    simp only [List.cons_append, val, ih, List.length_cons, Nat.pow_succ]
    rw [Nat.mul_add, ← Nat.mul_assoc, Nat.mul_comm 128 (128 ^ _)]
    omega
theorem mod_in (a b v M : Nat) : (a % M * b + v) % M = (a * b + v) % M := by
  rw [Nat.add_mod, Nat.mod_mul_mod, ← Nat.add_mod]
theorem rget_l1 (l : List Int) (hl : l.length < 1000000) (hb : Bytes l) (m e : Nat) : ∀ (j : Nat), m + j ≤ l.length → ∀ (z : Nat) (k : Nat), z < 18446744073709551616 → trommelref39_GetInt.l1 (k + j + 1) l (m : Int) (e : Int) (z : Int) ((m : Int) + (j : Int) - 1) = trommelref39_GetInt.l1 (k + 1) l (m : Int) (e : Int) ((((z * 128 ^ j + val ((l.drop m).take j)) % 18446744073709551616 : Nat) : Int)) ((m : Int) - 1) := by
  intro j
  induction j with
  | zero => intro _ z k hz; simp only [List.take_zero, val, Nat.pow_zero, Nat.mul_one, Nat.add_zero]; rw [Nat.mod_eq_of_lt hz]; simp
  | succ j ih =>
    intro hm z k hz
    have hg : (l.drop m)[j]? = some (rd l ((m + j : Nat) : Int)) := by
      rw [List.getElem?_drop]
      unfold rd
      rw [List.getD_eq_getElem?_getD, Int.toNat_natCast, List.getElem?_eq_getElem (by omega)]; rfl
    have hy := hb (rd l ((m + j : Nat) : Int)) (List.mem_of_mem_drop (List.mem_of_getElem? hg))
    have ht : (l.drop m).take (j + 1) = (l.drop m).take j ++ [rd l ((m + j : Nat) : Int)] := by
      rw [List.take_add_one, hg]; rfl
    have hv : val ((l.drop m).take (j + 1)) = val ((l.drop m).take j) + 128 ^ j * ((rd l ((m + j : Nat) : Int)).toNat % 128) := by
      rw [ht, val_snoc, List.length_take, List.length_drop, Nat.min_eq_left (by omega)]
    rw [show k + (j + 1) + 1 = (k + j + 1) + 1 by omega, trommelref39_GetInt.l1]
    rw [show ((m : Int) + ((j + 1 : Nat) : Int) - 1) = ((m + j : Nat) : Int) by omega]
    rw [if_pos (by omega), if_pos (by omega), if_pos (by omega), w64 _ (by omega) (by omega)]
    generalize rd l ((m + j : Nat) : Int) = y at *
    have e1 : IntKind.u64.wrap ((IntKind.u64.wrap ((z : Int) * 128)) + (IntKind.u64.wrap (Int.tmod y 128))) = (((z * 128 + y.toNat % 128) % 18446744073709551616 : Nat) : Int) := by
      rw [Int.tmod_eq_emod_of_nonneg hy.1]
      simp [IntKind.wrap, IntKind.bits, IntKind.signed]
      omega
    rw [e1, show ((m + j : Nat) : Int) - 1 = (m : Int) + (j : Int) - 1 by omega, ih (by omega) _ k (Nat.mod_lt _ (by decide)), mod_in, hv, Nat.add_mul]
    congr 3
    rw [Nat.pow_succ, Nat.mul_assoc z, Nat.mul_comm 128, Nat.mul_comm (128 ^ j) (y.toNat % 128)]
    omega
theorem rget_fin (l : List Int) (hl : l.length < 1000000) (hb : Bytes l) (m e : Nat) (hm : m ≤ e) (he : e < l.length) (z : Nat) (hz : z < 18446744073709551616) (k : Nat) : trommelref39_GetInt.l1 (k + 1) l (m : Int) (e : Int) (z : Int) ((m : Int) - 1) = some (if enc z = (l.take (e + 1)).drop m then (unzig z, (e : Int) + 1, true) else (0, 0, false)) := by
  have hU := unzig_in z hz
  have hE : encI (unzig z) = enc z := by unfold encI; rw [zig_unzig]
  have hs := str_eq (enc_bytes z) (show Bytes ((l.take (e + 1)).drop m) from fun x hx => hb x (List.mem_of_mem_take (List.mem_of_mem_drop hx)))
  have ew : wrap64 ((e : Int) + 1) = ((e + 1 : Nat) : Int) := by rw [w64 _ (by omega) (by omega)]; omega
  simp only [trommelref39_GetInt.l1]
  rw [if_neg (by omega), ew]
  by_cases h2 : z % 2 = 0
  · have e1 : wrap64 (IntKind.u64.wrap (Int.tdiv (z : Int) 2)) = unzig z := by
      unfold unzig; rw [if_pos h2, Int.tdiv_eq_ediv_of_nonneg (by omega)]
      simp [IntKind.wrap, IntKind.bits, IntKind.signed, wrap64]; omega
    rw [if_neg (by rw [Int.tmod_eq_emod_of_nonneg (by omega)]; omega), e1, rint_eq _ hU, Option.bind_some, if_pos (by omega), if_pos (by omega), if_pos (by omega), hE]
    simp only [Int.toNat_natCast]
    by_cases h3 : enc z = (l.take (e + 1)).drop m
    · rw [if_pos (hs.2 h3), if_pos h3]; rfl
    · rw [if_neg (fun h => h3 (hs.1 h)), if_neg h3]
  · have e1 : wrap64 ((wrap64 (-(wrap64 (IntKind.u64.wrap (Int.tdiv (z : Int) 2))))) - 1) = unzig z := by
      unfold unzig; rw [if_neg h2, Int.tdiv_eq_ediv_of_nonneg (by omega)]
      simp [IntKind.wrap, IntKind.bits, IntKind.signed, wrap64]; omega
    rw [if_pos (by rw [Int.tmod_eq_emod_of_nonneg (by omega)]; omega), e1, rint_eq _ hU, Option.bind_some, if_pos (by omega), if_pos (by omega), if_pos (by omega), hE]
    simp only [Int.toNat_natCast]
    by_cases h3 : enc z = (l.take (e + 1)).drop m
    · rw [if_pos (hs.2 h3), if_pos h3]; rfl
    · rw [if_neg (fun h => h3 (hs.1 h)), if_neg h3]
theorem rget_eq (l : List Int) (hl : l.length < 1000000) (hb : Bytes l) (at_ : Int) (k : Nat) (hk : 40 ≤ k) : trommelref39_GetInt.f k l at_ = some (getN l at_) := by
  obtain ⟨k, rfl⟩ : ∃ j, k = j + 1 := ⟨k - 1, by omega⟩
  unfold trommelref39_GetInt.f
  by_cases h0 : at_ < 0
  · rw [if_pos h0]
    simp only [trommelref39_GetInt.j0, if_true]
    unfold getN; rw [if_pos (.inl h0)]
  · rw [if_neg h0]
    by_cases h1 : at_ ≥ (l.length : Int)
    · rw [decide_eq_true h1]
      simp only [trommelref39_GetInt.j0, if_true]
      unfold getN
      by_cases h2 : at_ = (l.length : Int)
      · rw [if_neg (by omega), List.drop_eq_nil_of_le (by omega)]; rfl
      · rw [if_pos (by omega)]
    · rw [decide_eq_false h1]
      obtain ⟨m, rfl⟩ := Int.eq_ofNat_of_zero_le (show 0 ≤ at_ by omega)
      simp only [trommelref39_GetInt.j0]
      rw [if_neg (by simp)]
      have hR := run_le 10 (l.drop (m + 0))
      rw [Nat.add_zero] at hR
      rw [List.length_drop] at hR
      obtain ⟨k', rfl⟩ : ∃ k', k = (k' + 20) + run 10 (l.drop (m + 0)) + 1 := ⟨k - 21 - run 10 (l.drop (m + 0)), by simp only [Nat.add_zero]; omega⟩
      have h2 := rget_l0 l hl m 10 0 rfl (by omega) (k' + 20)
      simp only [Nat.add_zero] at h2 ⊢
      rw [h2]
      have hG : getN l (m : Int) = match getZ 0 0 (l.drop m) with | none => (0, 0, false) | some (z, n) => (unzig z, (m : Int) + n, true) := by
        unfold getN; rw [if_neg (by omega)]; rfl
      obtain ⟨R, hRe⟩ : ∃ R, run 10 (l.drop m) = R := ⟨_, rfl⟩
      rw [hRe] at hR ⊢
      rw [show k' + 20 = (k' + 19) + 1 from rfl]
      simp only [trommelref39_GetInt.j2]
      rw [w64 _ (by omega) (by omega)]
      have hF : ∀ (z n : Nat), getZ 0 0 (l.drop m) = some (z, n) → ∃ r, l.drop m = enc z ++ r ∧ n = (enc z).length ∧ R + 1 = (enc z).length ∧ R < 10 ∧ z < 18446744073709551616 := by
        intro z n h
        obtain ⟨y, r, e1, e2, e3, _, e5⟩ := getZ_inv _ 0 0 z n (fun x hx => hb x (List.mem_of_mem_drop hx)) h
        simp only [Nat.pow_zero, Nat.mul_one, Nat.zero_add] at e2 e3 e5
        subst e2
        have hz := e5 (by omega)
        obtain ⟨p, c, f1, f2, f3⟩ := enc_form z
        have f4 := enc_ten z hz
        rw [f1] at f4
        simp only [List.length_append, List.length_cons, List.length_nil] at f4
        have f5 := run_form 10 p c r f2 f3 (by omega)
        rw [e1, f1, List.append_assoc, List.singleton_append, f5] at hRe
        refine ⟨r, e1, e3, ?_, by omega, hz⟩
        rw [f1]; simp only [List.length_append, List.length_cons, List.length_nil]; omega
      by_cases h3 : m + R = l.length
      · rw [if_pos (by omega)]
        simp only [trommelref39_GetInt.j3, if_true]
        rw [hG]
        cases hg : getZ 0 0 (l.drop m) with
        | none => rfl
        | some zn =>
          obtain ⟨r, g1, g2, g3, _⟩ := hF zn.1 zn.2 hg
          have g5 := congrArg List.length g1
          rw [List.length_drop, List.length_append] at g5
          omega
      · rw [if_neg (by omega)]
        rw [show k' + 19 = (k' + 18) + 1 from rfl]
        simp only [trommelref39_GetInt.j3]
        by_cases h4 : R = 10
        · rw [if_pos (by rw [beq_iff_eq]; omega)]
          rw [hG]
          cases hg : getZ 0 0 (l.drop m) with
          | none => rfl
          | some zn =>
            obtain ⟨r, g1, g2, g3, g4, _⟩ := hF zn.1 zn.2 hg
            omega
        · rw [if_neg (by rw [beq_iff_eq]; omega)]
          have h5 := rget_l1 l hl hb m (m + R) (R + 1) (by omega) 0 (k' + 17 - (R + 1)) (by omega)
          rw [show k' + 17 - (R + 1) + (R + 1) + 1 = k' + 18 by omega, show (m : Int) + ((R + 1 : Nat) : Int) - 1 = ((m + R : Nat) : Int) by omega] at h5
          rw [show ((0 : Nat) : Int) = 0 from rfl] at h5
          rw [h5]
          have hlt : (0 * 128 ^ (R + 1) + val ((l.drop m).take (R + 1))) % 18446744073709551616 < 18446744073709551616 := Nat.mod_lt _ (by decide)
          rw [rget_fin l hl hb m (m + R) (by omega) (by omega) _ hlt]
          congr 1
          have hD : (l.take (m + R + 1)).drop m = (l.drop m).take (R + 1) := by rw [List.drop_take]; congr 1; omega
          rw [hD, hG]
          cases hg : getZ 0 0 (l.drop m) with
          | none =>
            rw [if_neg]
            intro h6
            generalize (0 * 128 ^ (R + 1) + val ((l.drop m).take (R + 1))) % 18446744073709551616 = z at hlt h6
            have h7 := getZ_enc z 0 0 ((l.drop m).drop (R + 1)) (by omega) (fun h => absurd h (by omega))
            rw [h6, List.take_append_drop, hg] at h7
            cases h7
          | some zn =>
            obtain ⟨z, n⟩ := zn
            obtain ⟨r, g1, g2, g3, g4, g5⟩ := hF z n hg
            have h6 : (l.drop m).take (R + 1) = enc z := by rw [g1, g3, List.take_left]
            rw [h6, val_enc, Nat.zero_mul, Nat.zero_add, Nat.mod_eq_of_lt g5, if_pos rfl]
            simp only
            congr 2
            omega
theorem rcount_eq (l : List Int) (hl : l.length < 1000000) (hb : Bytes l) (at_ : Int) (k : Nat) (hk : 40 ≤ k) : trommelref39_Count.f k l at_ = some (match countN l at_ with | some (n, x) => ((n : Int), x, true) | none => (0, 0, false)) := by
  unfold trommelref39_Count.f
  rw [rget_eq l hl hb at_ k hk, Option.bind_some]
  unfold countN
  by_cases hk2 : (getN l at_).2.2 = true
  · have ho := getN_ok l hb at_ hk2
    rw [if_pos hk2, if_pos hk2]
    generalize (getN l at_).1 = a at *
    generalize (getN l at_).2.1 = c at *
    by_cases h1 : a < 0
    · rw [if_pos h1, if_pos h1]
    · rw [if_neg h1, if_neg h1, w64 _ (by omega) (by omega)]
      by_cases h2 : a > (l.length : Int) - c
      · rw [if_pos h2, if_pos h2]
      · rw [if_neg h2, if_neg h2]
        simp only
        rw [Int.toNat_of_nonneg (by omega)]
  · rw [if_neg hk2, if_neg hk2]
theorem rgets_l0 (l : List Int) (hl : l.length < 1000000) (hb : Bytes l) (n : Nat) (hn : n < 2000000) : ∀ (j i : Nat) (acc : List Int) (at_ : Int), i + j = n → acc.length = i → ∀ k, j + 50 ≤ k →
    trommelref39_GetInts.l0 k l (n : Int) at_ acc (i : Int) = some (match getNs j l at_ with | some (m, e) => (acc ++ m, e, true) | none => ([], 0, false)) := by
  intro j
  induction j with
  | zero =>
    intro i acc at_ hi ha k hk
    obtain ⟨k, rfl⟩ : ∃ j, k = j + 1 := ⟨k - 1, by omega⟩
    simp only [trommelref39_GetInts.l0, getNs]
    rw [if_neg (by omega), List.append_nil]
  | succ j ih =>
    intro i acc at_ hi ha k hk
    obtain ⟨k, rfl⟩ : ∃ j, k = j + 1 := ⟨k - 1, by omega⟩
    have hw : wrap64 ((i : Int) + 1) = ((i + 1 : Nat) : Int) := by rw [w64 _ (by omega) (by omega)]; omega
    simp only [trommelref39_GetInts.l0, getNs]
    rw [if_pos (by omega), rget_eq l hl hb at_ k (by omega), Option.bind_some]
    by_cases hk2 : (getN l at_).2.2 = true
    · rw [if_pos hk2, if_pos hk2, if_pos (by omega), hw, ih (i + 1) (acc ++ [(getN l at_).1]) (getN l at_).2.1 (by omega) (by rw [List.length_append]; simp [ha]) k (by omega)]
      cases hr : getNs j l (getN l at_).2.1 with
      | none => rfl
      | some me => simp
    · rw [if_neg hk2, if_neg hk2]
theorem rgets_eq (l : List Int) (hl : l.length < 1000000) (hb : Bytes l) (at_ : Int) (k : Nat) (hk : l.length + 60 ≤ k) : trommelref39_GetInts.f k l at_ = some (gI l at_) := by
  unfold trommelref39_GetInts.f gI intsN
  rw [rcount_eq l hl hb at_ k (by omega), Option.bind_some]
  cases hc : countN l at_ with
  | none => simp
  | some t =>
    obtain ⟨n, x⟩ := t
    obtain ⟨p, r, i1, i2, i3, i4, i5⟩ := countN_inv l hb at_ n x hc
    have hn : n ≤ l.length := by rw [i1]; simp only [List.length_append]; omega
    simp only [if_true]
    have := rgets_l0 l hl hb n (by omega) n 0 [] x (by omega) rfl k (by omega)
    simp only [List.nil_append] at this
    exact this
end Go.Proofs.Ytobfhacdljmooaa.PCodeI
