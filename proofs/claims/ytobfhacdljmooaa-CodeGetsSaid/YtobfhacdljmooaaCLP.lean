/- Plain laws of the printed functions of numbers as bytes: what they tell. -/
import Derived.Test.YtobfhacdljmooaaCM2
import Derived.Test.YtobfhacdljmooaaPCodePx3
import Derived.Test.YtobfhacdljmooaaPCodePx5
import Derived.Test.YtobfhacdljmooaaPCodePx6
import Derived.Test.YtobfhacdljmooaaPCodePx8
import Derived.Lib.Bytes
set_option linter.unusedVariables false
set_option linter.unusedSimpArgs false
namespace Go.Proofs.Ytobfhacdljmooaa.PCodeP
open Go.RowKit Go.Proofs.YtobfhacdljmooaaW.PrintWords Go.Proofs.YtobfhacdljmooaaW.PrintLast Go.Proofs.Ytobfhacdljmooaa.CM

theorem w64 (x : Int) (h0 : -9223372036854775808 ≤ x) (h1 : x ≤ 9223372036854775807) : wrap64 x = x := by unfold wrap64; omega
theorem rd_mid (p r : List Int) (x : Int) (i : Int) (hi : i = (p.length : Int)) : rd (p ++ x :: r) i = x := by subst hi; unfold rd; simp
theorem str_eq {a b : List Int} (ha : Bytes a) (hb : Bytes b) : (strOfNums a).toList = (strOfNums b).toList ↔ a = b := by
  rw [Lib.strOfNums_toList, Lib.strOfNums_toList]
  unfold Lib.bytesOf
  constructor
  · intro h
    induction a generalizing b with
    | nil => cases b with
      | nil => rfl
      | cons y b => simp at h
    | cons x a ih => cases b with
      | nil => simp at h
      | cons y b =>
        simp only [List.map_cons, List.cons.injEq] at h
        have hx := ha x List.mem_cons_self
        have hy := hb y List.mem_cons_self
        have h1 := congrArg UInt8.toNat h.1
        simp only [UInt8.toNat_ofNat'] at h1
        rw [ih (fun z hz => ha z (List.mem_cons_of_mem _ hz)) (fun z hz => hb z (List.mem_cons_of_mem _ hz)) h.2, show x = y by omega]
  · rintro rfl; rfl
theorem strOfNums_app (a b : List Int) : (strOfNums a ++ strOfNums b).toList = (strOfNums (a ++ b)).toList := by
  rw [ByteArray.toList_eq, ByteArray.data_append, Array.toList_append, ← ByteArray.toList_eq, ← ByteArray.toList_eq, Lib.strOfNums_toList, Lib.strOfNums_toList, Lib.strOfNums_toList]
  simp [Lib.bytesOf]
theorem strOfNums_size (a : List Int) : (strOfNums a).size = a.length := by
  have h := congrArg List.length (Lib.strOfNums_toList a)
  rw [Lib.bytesOf_length] at h
  rw [← h, ByteArray.toList_eq]
  exact (Array.length_toList).symm

theorem put_eq (l : List Int) (n : Int) (hn : In n) (hl : l.length < 1000000) : code_PutInt.f l n = some (l ++ encI n) := by
  unfold code_PutInt.f C.put.f; rw [if_pos hn.1, if_pos hn.2, if_pos hl]; rfl
theorem rint_eq (n : Int) (hn : In n) : trommelref39_Int.f n = some (encI n) := by
  unfold trommelref39_Int.f C.rint.f; rw [if_pos hn.1, if_pos hn.2]; rfl
theorem get_eq (l : List Int) (at_ : Int) (hl : l.length < 1000000) (hb : Bytes l) : code_GetInt.f l at_ = some (getN l at_) := by
  unfold code_GetInt.f C.get.f; rw [if_pos hl, if_pos hb]

theorem puts_l0 (r : List Int) : ∀ (p b : List Int), (∀ x ∈ r, In x) → b.length + 10 * r.length < 1000000 → p.length + r.length < 1000000 → ∀ k, r.length + 1 ≤ k → code_PutInts.l0 k b (p ++ r) ((p ++ r).length : Int) (p.length : Int) = some (b ++ encAll r) := by
  induction r with
  | nil =>
    intro p b _ _ _ k hk
    obtain ⟨k, rfl⟩ : ∃ j, k = j + 1 := ⟨k - 1, by omega⟩
    simp [code_PutInts.l0, encAll]
  | cons x r ih =>
    intro p b hin hb hp k hk
    obtain ⟨k, rfl⟩ : ∃ j, k = j + 1 := ⟨k - 1, by omega⟩
    simp only [List.length_cons] at hk hb hp
    have hx := hin x List.mem_cons_self
    have h10 := encI_ten x hx
    simp only [code_PutInts.l0]
    rw [if_pos (by simp only [List.length_append, List.length_cons]; omega), if_pos (by omega), if_pos (by simp only [List.length_append, List.length_cons]; omega), rd_mid _ _ _ _ rfl, put_eq _ _ hx (by omega), Option.bind_some, w64 _ (by omega) (by omega)]
    have h := ih (p ++ [x]) (b ++ encI x) (fun y hy => hin y (List.mem_cons_of_mem _ hy)) (by rw [List.length_append]; omega) (by rw [List.length_append]; simp only [List.length_cons, List.length_nil]; omega) k (by omega)
    rw [List.append_assoc, List.singleton_append, List.append_assoc, @List.length_append _ p [x]] at h
    exact h
theorem puts_eq (b l : List Int) (hin : ∀ x ∈ l, In x) (hb : b.length + 10 * l.length < 900000) (k : Nat) (hk : l.length + 1 ≤ k) : code_PutInts.f k b l = some (b ++ encL l) := by
  have hI : In (l.length : Int) := ⟨by omega, by omega⟩
  have h10 := encI_ten _ hI
  unfold code_PutInts.f
  rw [put_eq _ _ hI (by omega), Option.bind_some]
  have h := puts_l0 l [] (b ++ encI (l.length : Int)) hin (by rw [List.length_append]; omega) (by simp only [List.length_nil]; omega) k hk
  simp only [List.nil_append, List.length_nil] at h
  rw [show ((0 : Nat) : Int) = 0 from rfl] at h
  rw [h, List.append_assoc]; rfl
theorem rints_l0 (r : List Int) : ∀ (p b : List Int), (∀ x ∈ r, In x) → b.length + 10 * r.length < 1000000 → p.length + r.length < 1000000 → ∀ k, r.length + 1 ≤ k → trommelref39_Ints.l0 k (p ++ r) b (p.length : Int) = some (b ++ encAll r) := by
  induction r with
  | nil =>
    intro p b _ _ _ k hk
    obtain ⟨k, rfl⟩ : ∃ j, k = j + 1 := ⟨k - 1, by omega⟩
    simp [trommelref39_Ints.l0, encAll]
  | cons x r ih =>
    intro p b hin hb hp k hk
    obtain ⟨k, rfl⟩ : ∃ j, k = j + 1 := ⟨k - 1, by omega⟩
    simp only [List.length_cons] at hk hb hp
    have hx := hin x List.mem_cons_self
    have h10 := encI_ten x hx
    simp only [trommelref39_Ints.l0]
    rw [if_pos (by simp only [List.length_append, List.length_cons]; omega), if_pos (by omega), rd_mid _ _ _ _ rfl, rint_eq _ hx, Option.bind_some, if_pos (by omega), w64 _ (by omega) (by omega)]
    have h := ih (p ++ [x]) (b ++ encI x) (fun y hy => hin y (List.mem_cons_of_mem _ hy)) (by rw [List.length_append]; omega) (by rw [List.length_append]; simp only [List.length_cons, List.length_nil]; omega) k (by omega)
    rw [List.append_assoc, List.singleton_append, List.append_assoc, @List.length_append _ p [x]] at h
    exact h
theorem rints_eq (l : List Int) (hin : ∀ x ∈ l, In x) (hb : 10 * l.length < 900000) (k : Nat) (hk : l.length + 1 ≤ k) : trommelref39_Ints.f k l = some (encL l) := by
  have hI : In (l.length : Int) := ⟨by omega, by omega⟩
  have h10 := encI_ten _ hI
  unfold trommelref39_Ints.f
  rw [rint_eq _ hI, Option.bind_some]
  have h := rints_l0 l [] (encI (l.length : Int)) hin (by omega) (by simp only [List.length_nil]; omega) k hk
  simp only [List.nil_append, List.length_nil] at h
  exact h

/-- what a reader's number tells -/
theorem rd_int (l : List Int) (hl : l.length < 1000000) (hb : Bytes l) (at_ : Int) (bad : Bool) : code_reader_int.f l at_ bad = some (if bad = true then (0, at_, true) else if (getN l at_).2.2 = true then ((getN l at_).1, (getN l at_).2.1, false) else (0, at_, true)) := by
  unfold code_reader_int.f
  rw [get_eq l at_ hl hb, Option.bind_some]
  split
  · rfl
  · split <;> rfl
theorem rd_int_bad (l : List Int) (hl : l.length < 1000000) (hb : Bytes l) (at_ : Int) : code_reader_int.f l at_ true = some (0, at_, true) := by rw [rd_int l hl hb, if_pos rfl]
theorem rd_int_ok (l : List Int) (hl : l.length < 1000000) (hb : Bytes l) (at_ : Int) (h : (getN l at_).2.2 = true) : code_reader_int.f l at_ false = some ((getN l at_).1, (getN l at_).2.1, false) := by rw [rd_int l hl hb, if_neg (by simp), if_pos h]
theorem rd_int_no (l : List Int) (hl : l.length < 1000000) (hb : Bytes l) (at_ : Int) (h : ¬ (getN l at_).2.2 = true) : code_reader_int.f l at_ false = some (0, at_, true) := by rw [rd_int l hl hb, if_neg (by simp), if_neg h]
theorem rd_count_bad (l : List Int) (hl : l.length < 1000000) (hb : Bytes l) (at_ : Int) : code_reader_count.f l at_ true = some (0, at_, true) := by
  unfold code_reader_count.f
  rw [rd_int_bad l hl hb, Option.bind_some]
  simp
theorem rd_count_ok (l : List Int) (hl : l.length < 1000000) (hb : Bytes l) (at_ : Int) (n : Nat) (x : Int) (h : countN l at_ = some (n, x)) : code_reader_count.f l at_ false = some ((n : Int), x, false) := by
  unfold countN at h
  by_cases hk : (getN l at_).2.2 = true
  · rw [if_pos hk] at h
    have ho := getN_ok l hb at_ hk
    unfold code_reader_count.f
    rw [rd_int_ok l hl hb at_ hk, Option.bind_some]
    generalize (getN l at_).1 = a at *
    generalize (getN l at_).2.1 = c at *
    by_cases h1 : a < 0
    · rw [if_pos h1] at h; cases h
    · rw [if_neg h1] at h
      by_cases h2 : a > (l.length : Int) - c
      · rw [if_pos h2] at h; cases h
      · rw [if_neg h2] at h
        obtain ⟨rfl, rfl⟩ : a.toNat = n ∧ c = x := by have := Option.some.inj h; cases this; exact ⟨rfl, rfl⟩
        simp only
        rw [if_neg h1, if_neg (by simp), w64 _ (by omega) (by omega), if_neg h2, Int.toNat_of_nonneg (by omega)]
  · rw [if_neg hk] at h; cases h
theorem rd_count_no (l : List Int) (hl : l.length < 1000000) (hb : Bytes l) (at_ : Int) (h : countN l at_ = none) : ∃ x, code_reader_count.f l at_ false = some (0, x, true) := by
  unfold countN at h
  by_cases hk : (getN l at_).2.2 = true
  · rw [if_pos hk] at h
    have ho := getN_ok l hb at_ hk
    unfold code_reader_count.f
    rw [rd_int_ok l hl hb at_ hk, Option.bind_some]
    generalize (getN l at_).1 = a at *
    generalize (getN l at_).2.1 = c at *
    by_cases h1 : a < 0
    · exact ⟨c, by simp only; rw [if_pos h1]⟩
    · rw [if_neg h1] at h
      by_cases h2 : a > (l.length : Int) - c
      · exact ⟨c, by simp only; rw [if_neg h1, if_neg (by simp), w64 _ (by omega) (by omega), if_pos h2]⟩
      · rw [if_neg h2] at h; cases h
  · unfold code_reader_count.f
    rw [rd_int_no l hl hb at_ hk, Option.bind_some]
    exact ⟨at_, by simp⟩
theorem rd_ints_l0 (l : List Int) (hl : l.length < 1000000) (hb : Bytes l) (n : Nat) (hn : n < 2000000) : ∀ (j i : Nat) (acc : List Int) (at_ : Int), i + j = n → acc.length = i → ∀ k, j + 1 ≤ k →
    (∀ m e, getNs j l at_ = some (m, e) → code_reader_ints.l0 k acc (n : Int) (i : Int) l at_ false = some (acc ++ m, e, false)) ∧ (∀ bad, (bad = true ∨ getNs j l at_ = none) → ∃ m e, code_reader_ints.l0 k acc (n : Int) (i : Int) l at_ bad = some (m, e, true)) := by
  intro j
  induction j with
  | zero =>
    intro i acc at_ hi ha k hk
    obtain ⟨k, rfl⟩ : ∃ j, k = j + 1 := ⟨k - 1, by omega⟩
    constructor
    · intro m e h
      simp only [getNs] at h
      obtain ⟨rfl, rfl⟩ : [] = m ∧ at_ = e := by have := Option.some.inj h; cases this; exact ⟨rfl, rfl⟩
      simp only [code_reader_ints.l0]
      rw [if_neg (by omega), List.append_nil]
    · intro bad h
      rcases h with rfl | h
      · exact ⟨acc, at_, by simp only [code_reader_ints.l0]; rw [if_neg (by omega)]⟩
      · simp [getNs] at h
  | succ j ih =>
    intro i acc at_ hi ha k hk
    obtain ⟨k, rfl⟩ : ∃ j, k = j + 1 := ⟨k - 1, by omega⟩
    have hw : wrap64 ((i : Int) + 1) = ((i + 1 : Nat) : Int) := by rw [w64 _ (by omega) (by omega)]; omega
    constructor
    · intro m e h
      simp only [getNs] at h
      by_cases hk2 : (getN l at_).2.2 = true
      · rw [if_pos hk2] at h
        cases hr : getNs j l (getN l at_).2.1 with
        | none => rw [hr] at h; cases h
        | some me =>
          obtain ⟨m', e'⟩ := me
          rw [hr] at h
          obtain ⟨rfl, rfl⟩ : (getN l at_).1 :: m' = m ∧ e' = e := by have := Option.some.inj h; cases this; exact ⟨rfl, rfl⟩
          simp only [code_reader_ints.l0]
          rw [if_pos (by omega), rd_int_ok l hl hb at_ hk2, Option.bind_some, if_pos (by omega), hw]
          rw [(ih (i + 1) (acc ++ [(getN l at_).1]) (getN l at_).2.1 (by omega) (by rw [List.length_append]; simp [ha]) k (by omega)).1 m' e' hr]
          simp
      · rw [if_neg hk2] at h; cases h
    · intro bad h
      simp only [code_reader_ints.l0]
      rw [if_pos (by omega), rd_int l hl hb, Option.bind_some, if_pos (by omega), hw]
      have I := fun (x : Int) (y : Int) => ih (i + 1) (acc ++ [x]) y (by omega) (by rw [List.length_append]; simp [ha]) k (by omega)
      by_cases hbd : bad = true
      · rw [if_pos hbd]
        exact (I 0 at_).2 true (.inl rfl)
      · rw [if_neg hbd]
        have h' : getNs (j + 1) l at_ = none := h.resolve_left hbd
        simp only [getNs] at h'
        by_cases hk2 : (getN l at_).2.2 = true
        · rw [if_pos hk2] at h' ⊢
          refine (I _ _).2 false (.inr ?_)
          cases hr : getNs j l (getN l at_).2.1 with
          | none => rfl
          | some me => rw [hr] at h'; cases h'
        · rw [if_neg hk2]
          exact (I 0 at_).2 true (.inl rfl)
theorem rd_ints_bad (l : List Int) (hl : l.length < 1000000) (hb : Bytes l) (at_ : Int) (k : Nat) (hk : 1 ≤ k) : ∃ m x, code_reader_ints.f k l at_ true = some (m, x, true) := by
  unfold code_reader_ints.f
  rw [rd_count_bad l hl hb, Option.bind_some]
  exact (rd_ints_l0 l hl hb 0 (by omega) 0 0 [] at_ rfl rfl k (by omega)).2 true (.inl rfl)
theorem rd_ints_ok (l : List Int) (hl : l.length < 1000000) (hb : Bytes l) (at_ : Int) (m : List Int) (e : Int) (h : intsN l at_ = some (m, e)) (k : Nat) (hk : l.length + 1 ≤ k) : code_reader_ints.f k l at_ false = some (m, e, false) := by
  unfold intsN at h
  cases hc : countN l at_ with
  | none => rw [hc] at h; cases h
  | some t =>
    obtain ⟨n, x⟩ := t
    rw [hc] at h
    simp only at h
    obtain ⟨p, r, i1, i2, i3, i4, i5⟩ := countN_inv l hb at_ n x hc
    have hn : n ≤ l.length := by rw [i1]; simp only [List.length_append]; omega
    unfold code_reader_ints.f
    rw [rd_count_ok l hl hb at_ n x hc, Option.bind_some]
    have := (rd_ints_l0 l hl hb n (by omega) n 0 [] x (by omega) rfl k (by omega)).1 m e h
    simpa using this
theorem rd_ints_no (l : List Int) (hl : l.length < 1000000) (hb : Bytes l) (at_ : Int) (h : intsN l at_ = none) (k : Nat) (hk : l.length + 1 ≤ k) : ∃ m x, code_reader_ints.f k l at_ false = some (m, x, true) := by
  unfold intsN at h
  cases hc : countN l at_ with
  | none =>
    obtain ⟨x, hx⟩ := rd_count_no l hl hb at_ hc
    unfold code_reader_ints.f
    rw [hx, Option.bind_some]
    exact (rd_ints_l0 l hl hb 0 (by omega) 0 0 [] x rfl rfl k (by omega)).2 true (.inl rfl)
  | some t =>
    obtain ⟨n, x⟩ := t
    rw [hc] at h
    simp only at h
    obtain ⟨p, r, i1, i2, i3, i4, i5⟩ := countN_inv l hb at_ n x hc
    have hn : n ≤ l.length := by rw [i1]; simp only [List.length_append]; omega
    unfold code_reader_ints.f
    rw [rd_count_ok l hl hb at_ n x hc, Option.bind_some]
    exact (rd_ints_l0 l hl hb n (by omega) n 0 [] x (by omega) rfl k (by omega)).2 false (.inr h)
/-- what GetInts tells -/
def gI (l : List Int) (at_ : Int) : List Int × Int × Bool := match intsN l at_ with | some (m, e) => (m, e, true) | none => ([], 0, false)

theorem same_l0 (r : List Int) : ∀ (p : List Int), p.length + r.length < 1000000000 → ∀ k, r.length + 1 ≤ k → trommelref21_SameList.l0 k (p ++ r) (p ++ r) (p.length : Int) = some true := by
  induction r with
  | nil =>
    intro p _ k hk
    obtain ⟨k, rfl⟩ : ∃ j, k = j + 1 := ⟨k - 1, by omega⟩
    simp [trommelref21_SameList.l0]
  | cons x r ih =>
    intro p hp k hk
    obtain ⟨k, rfl⟩ : ∃ j, k = j + 1 := ⟨k - 1, by omega⟩
    simp only [List.length_cons] at hk hp
    simp only [trommelref21_SameList.l0]
    rw [if_pos (by simp only [List.length_append, List.length_cons]; omega), if_pos (by omega), if_pos (by simp only [List.length_append, List.length_cons]; omega), if_true, w64 _ (by omega) (by omega)]
    have h := ih (p ++ [x]) (by rw [List.length_append]; simp only [List.length_cons, List.length_nil]; omega) k (by omega)
    rw [List.append_assoc, List.singleton_append, @List.length_append _ p [x]] at h
    exact h
theorem same_eq (l : List Int) (hl : l.length < 1000000000) (k : Nat) (hk : l.length + 1 ≤ k) : trommelref21_SameList.f k l l = some true := by
  unfold trommelref21_SameList.f
  rw [if_pos rfl]
  exact same_l0 l [] (by simp only [List.length_nil]; omega) k hk
end Go.Proofs.Ytobfhacdljmooaa.PCodeP
