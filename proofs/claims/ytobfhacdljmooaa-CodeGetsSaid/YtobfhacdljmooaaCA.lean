/- What the printed functions tell of any bytes: which way to ask they are. -/
import Derived.Test.YtobfhacdljmooaaCLP
import Derived.Test.YtobfhacdljmooaaCM3
import Derived.Test.YtobfhacdljmooaaPCodePx6
set_option linter.unusedVariables false
set_option linter.unusedSimpArgs false
namespace Go.Proofs.Ytobfhacdljmooaa.PCodeP
open Go.RowKit Go.Proofs.YtobfhacdljmooaaW.PrintWords Go.Proofs.YtobfhacdljmooaaW.PrintLast Go.Proofs.Ytobfhacdljmooaa.CM

/-- a column from a place on -/
def colN (l : List Int) (at_ : Int) : Option (S89 × Int) := (sq getO (sq getO intsN) l at_).map fun t => ((⟨t.1.1, t.1.2.1, t.1.2.2⟩ : S89), t.2)
/-- what is said of a table, from a place on -/
def statN (l : List Int) (at_ : Int) : Option (S87 × Int) := (sq getO (cnt colN) l at_).map fun t => ((⟨t.1.1, t.1.2⟩ : S87), t.2)

theorem rd_int_get (l : List Int) (hl : l.length < 1000000) (hb : Bytes l) (at_ : Int) : code_reader_int.f l at_ false = some (match getO l at_ with | some (n, x) => (n, x, false) | none => (0, at_, true)) := by
  rw [rd_int l hl hb, if_neg (by simp)]
  unfold getO
  split <;> rfl
theorem rd_int_some (l : List Int) (hl : l.length < 1000000) (hb : Bytes l) (at_ n x : Int) (h : getO l at_ = some (n, x)) : code_reader_int.f l at_ false = some (n, x, false) := by rw [rd_int_get l hl hb, h]
theorem rd_int_none (l : List Int) (hl : l.length < 1000000) (hb : Bytes l) (at_ : Int) (h : getO l at_ = none) : code_reader_int.f l at_ false = some (0, at_, true) := by rw [rd_int_get l hl hb, h]
theorem rd_col_ok (l : List Int) (hl : l.length < 1000000) (hb : Bytes l) (at_ : Int) (c : S89) (e : Int) (k : Nat) (hk : l.length + 1 ≤ k) (h : colN l at_ = some (c, e)) : ∃ x y, code_reader_int.f l at_ false = some (c.f0, x, false) ∧ code_reader_int.f l x false = some (c.f1, y, false) ∧ code_reader_ints.f k l y false = some (c.f2, e, false) := by
  unfold colN sq at h
  simp only [Option.map_eq_some_iff] at h
  obtain ⟨⟨⟨u, t⟩, z⟩, h, h2⟩ := h
  obtain ⟨⟨u', x⟩, k1, h⟩ := Option.bind_eq_some_iff.mp h
  obtain ⟨⟨t', z'⟩, k2, h⟩ := Option.bind_eq_some_iff.mp h
  obtain ⟨⟨n, y⟩, k3, k2⟩ := Option.bind_eq_some_iff.mp k2
  obtain ⟨⟨m, w⟩, k4, k2⟩ := Option.bind_eq_some_iff.mp k2
  simp only [Option.some.injEq, Prod.mk.injEq] at h h2 k2
  obtain ⟨⟨rfl, rfl⟩, rfl⟩ := h
  obtain ⟨rfl, rfl⟩ := k2
  obtain ⟨rfl, rfl⟩ := h2
  exact ⟨x, y, rd_int_some l hl hb _ _ _ k1, rd_int_some l hl hb _ _ _ k3, rd_ints_ok l hl hb _ _ _ k4 k hk⟩
theorem rd_col_no (l : List Int) (hl : l.length < 1000000) (hb : Bytes l) (at_ : Int) (bad : Bool) (k : Nat) (hk : l.length + 1 ≤ k) (h : bad = true ∨ colN l at_ = none) : ∃ u x b n y b2 m z, code_reader_int.f l at_ bad = some (u, x, b) ∧ code_reader_int.f l x b = some (n, y, b2) ∧ code_reader_ints.f k l y b2 = some (m, z, true) := by
  have B := fun (x : Int) => rd_ints_bad l hl hb x k (by omega)
  cases bad with
  | true =>
    obtain ⟨m, z, e⟩ := B at_
    exact ⟨_, _, _, _, _, _, m, z, rd_int_bad l hl hb at_, rd_int_bad l hl hb at_, e⟩
  | false =>
    have h := h.resolve_left (by simp)
    cases k1 : getO l at_ with
    | none =>
      obtain ⟨m, z, e⟩ := B at_
      exact ⟨_, _, _, _, _, _, m, z, rd_int_none l hl hb at_ k1, rd_int_bad l hl hb at_, e⟩
    | some t =>
      obtain ⟨u, x⟩ := t
      cases k2 : getO l x with
      | none =>
        obtain ⟨m, z, e⟩ := B x
        exact ⟨_, _, _, _, _, _, m, z, rd_int_some l hl hb at_ _ _ k1, rd_int_none l hl hb x k2, e⟩
      | some t =>
        obtain ⟨n, y⟩ := t
        cases k3 : intsN l y with
        | none =>
          obtain ⟨m, z, e⟩ := rd_ints_no l hl hb y k3 k hk
          exact ⟨_, _, _, _, _, _, m, z, rd_int_some l hl hb at_ _ _ k1, rd_int_some l hl hb x _ _ k2, e⟩
        | some t => simp [colN, sq, k1, k2, k3] at h
theorem rd_stat_l0 (l : List Int) (hl : l.length < 1000000) (hb : Bytes l) (n : Nat) (hn : n < 2000000) (r : Int) : ∀ (j i : Nat) (acc : List S89) (at_ : Int), i + j = n → acc.length = i → ∀ k, j + l.length + 2 ≤ k →
    (∀ m e, rep colN j l at_ = some (m, e) → code_reader_stat.l0 k (n : Int) (i : Int) l at_ false r acc = some (r, acc ++ m, e, false)) ∧ (∀ bad, (bad = true ∨ rep colN j l at_ = none) → ∃ m e, code_reader_stat.l0 k (n : Int) (i : Int) l at_ bad r acc = some (r, m, e, true)) := by
  intro j
  induction j with
  | zero =>
    intro i acc at_ hi ha k hk
    obtain ⟨k, rfl⟩ : ∃ j, k = j + 1 := ⟨k - 1, by omega⟩
    constructor
    · intro m e h
      simp only [rep, Option.some.injEq, Prod.mk.injEq] at h
      obtain ⟨rfl, rfl⟩ := h
      simp only [code_reader_stat.l0]
      rw [if_neg (by omega), List.append_nil]
    · intro bad h
      rcases h with rfl | h
      · exact ⟨acc, at_, by simp only [code_reader_stat.l0]; rw [if_neg (by omega)]⟩
      · simp [rep] at h
  | succ j ih =>
    intro i acc at_ hi ha k hk
    obtain ⟨k, rfl⟩ : ∃ j, k = j + 1 := ⟨k - 1, by omega⟩
    have hw : wrap64 ((i : Int) + 1) = ((i + 1 : Nat) : Int) := by rw [w64 _ (by omega) (by omega)]; omega
    constructor
    · intro m e h
      simp only [rep] at h
      obtain ⟨⟨c, x⟩, k1, h⟩ := Option.bind_eq_some_iff.mp h
      obtain ⟨⟨m', e'⟩, k2, h⟩ := Option.bind_eq_some_iff.mp h
      simp only [Option.some.injEq, Prod.mk.injEq] at h
      obtain ⟨rfl, rfl⟩ := h
      obtain ⟨y, z, e1, e2, e3⟩ := rd_col_ok l hl hb at_ c x k (by omega) k1
      simp only [code_reader_stat.l0]
      rw [if_pos (by omega), e1, Option.bind_some, e2, Option.bind_some, e3, Option.bind_some, if_pos (by omega), hw]
      rw [(ih (i + 1) (acc ++ [(⟨c.f0, c.f1, c.f2⟩ : S89)]) x (by omega) (by rw [List.length_append]; simp [ha]) k (by omega)).1 m' e' k2]
      simp
    · intro bad h
      have I := fun (c : S89) (y : Int) => ih (i + 1) (acc ++ [c]) y (by omega) (by rw [List.length_append]; simp [ha]) k (by omega)
      by_cases hbd : bad = true ∨ colN l at_ = none
      · obtain ⟨u, x, b, v, y, b2, m, z, e1, e2, e3⟩ := rd_col_no l hl hb at_ bad k (by omega) hbd
        simp only [code_reader_stat.l0]
        rw [if_pos (by omega), e1, Option.bind_some, e2, Option.bind_some, e3, Option.bind_some, if_pos (by omega), hw]
        exact (I _ z).2 true (.inl rfl)
      · have hb0 : bad = false := Bool.eq_false_iff.mpr (fun h => hbd (.inl h))
        subst hb0
        cases k1 : colN l at_ with
        | none => exact absurd (.inr k1) hbd
        | some t =>
          obtain ⟨c, x⟩ := t
          have h' : rep colN (j + 1) l at_ = none := h.resolve_left (by simp)
          simp only [rep, k1, Option.bind_some] at h'
          obtain ⟨y, z, e1, e2, e3⟩ := rd_col_ok l hl hb at_ c x k (by omega) k1
          simp only [code_reader_stat.l0]
          rw [if_pos (by omega), e1, Option.bind_some, e2, Option.bind_some, e3, Option.bind_some, if_pos (by omega), hw]
          refine (I _ _).2 false (.inr ?_)
          cases hr : rep colN j l x with
          | none => rfl
          | some me => rw [hr] at h'; cases h'
theorem count_le (l : List Int) (hb : Bytes l) (at_ : Int) (n : Nat) (x : Int) (h : countN l at_ = some (n, x)) : n ≤ l.length := by
  obtain ⟨p, r, i1, i2, i3, i4, i5⟩ := countN_inv l hb at_ n x h
  rw [i1]; simp only [List.length_append]; omega
theorem rd_stat_ok (l : List Int) (hl : l.length < 1000000) (hb : Bytes l) (at_ : Int) (s : S87) (e : Int) (k : Nat) (hk : 2 * l.length + 2 ≤ k) (h : statN l at_ = some (s, e)) : code_reader_stat.f k l at_ false = some (s.f0, s.f1, e, false) := by
  unfold statN sq at h
  simp only [Option.map_eq_some_iff] at h
  obtain ⟨⟨⟨u, t⟩, z⟩, h, h2⟩ := h
  obtain ⟨⟨u', x⟩, k1, h⟩ := Option.bind_eq_some_iff.mp h
  obtain ⟨⟨t', z'⟩, k2, h⟩ := Option.bind_eq_some_iff.mp h
  unfold cnt at k2
  obtain ⟨⟨n, y⟩, k3, k2⟩ := Option.bind_eq_some_iff.mp k2
  simp only [Option.some.injEq, Prod.mk.injEq] at h h2
  obtain ⟨⟨rfl, rfl⟩, rfl⟩ := h
  obtain ⟨rfl, rfl⟩ := h2
  have hn := count_le l hb x n y k3
  unfold code_reader_stat.f
  rw [rd_int_some l hl hb _ _ _ k1, Option.bind_some, rd_count_ok l hl hb _ _ _ k3, Option.bind_some]
  have := (rd_stat_l0 l hl hb n (by omega) u' n 0 [] y (by omega) rfl k (by omega)).1 t' z' k2
  simpa using this
theorem rd_stat_no (l : List Int) (hl : l.length < 1000000) (hb : Bytes l) (at_ : Int) (bad : Bool) (k : Nat) (hk : 2 * l.length + 2 ≤ k) (h : bad = true ∨ statN l at_ = none) : ∃ r m z, code_reader_stat.f k l at_ bad = some (r, m, z, true) := by
  have Z := fun (r x : Int) => (rd_stat_l0 l hl hb 0 (by omega) r 0 0 [] x rfl rfl k (by omega)).2 true (.inl rfl)
  unfold code_reader_stat.f
  cases bad with
  | true =>
    rw [rd_int_bad l hl hb, Option.bind_some, rd_count_bad l hl hb, Option.bind_some]
    obtain ⟨m, e, h2⟩ := Z 0 at_
    exact ⟨_, m, e, h2⟩
  | false =>
    have h := h.resolve_left (by simp)
    cases k1 : getO l at_ with
    | none =>
      rw [rd_int_none l hl hb _ k1, Option.bind_some, rd_count_bad l hl hb, Option.bind_some]
      obtain ⟨m, e, h2⟩ := Z 0 at_
      exact ⟨_, m, e, h2⟩
    | some t =>
      obtain ⟨u, x⟩ := t
      rw [rd_int_some l hl hb _ _ _ k1, Option.bind_some]
      cases k2 : countN l x with
      | none =>
        obtain ⟨y, e2⟩ := rd_count_no l hl hb x k2
        rw [e2, Option.bind_some]
        obtain ⟨m, e, h2⟩ := Z u y
        exact ⟨_, m, e, h2⟩
      | some t =>
        obtain ⟨n, y⟩ := t
        have hn := count_le l hb x n y k2
        rw [rd_count_ok l hl hb _ _ _ k2, Option.bind_some]
        have h3 : rep colN n l y = none := by
          cases hr : rep colN n l y with
          | none => rfl
          | some t => simp [statN, sq, cnt, k1, k2, hr] at h
        obtain ⟨m, e, h2⟩ := (rd_stat_l0 l hl hb n (by omega) u n 0 [] y (by omega) rfl k (by omega)).2 false (.inr h3)
        exact ⟨_, m, e, by simpa using h2⟩

/-- all that is told: the seven numbers, the picks, what is said of the tables -/
def H7 : List Int → Int → Option ((Int × Int × Int × Int × Int × Int × Int × List Int × List S87) × Int) := sq getO (sq getO (sq getO (sq getO (sq getO (sq getO (sq getO (sq intsN (cnt statN))))))))
/-- which way to ask the bytes are -/
def askN (l : List Int) : Option (Int × Int × Int × Int × Int × Int × Int × List Int × List S87) := (H7 l 0).bind fun t => if 0 ≤ t.1.1 ∧ t.1.1 ≤ 1 ∧ t.2 = (l.length : Int) then some t.1 else none
abbrev Res := List S87 × Bool × Int × Int × Int × Int × Int × Int × List Int × Int
def err : Res := ([], false, 0, 0, 0, 0, 0, 0, [], 7)
def res : Option (Int × Int × Int × Int × Int × Int × Int × List Int × List S87) → Res
  | none => err
  | some (f, a, b, c, d, e, g, pk, ss) => (ss, f == 1, a, b, c, d, e, g, pk, 0)
/-- the end of the program's way -/
def fin (l : List Int) (f : Int) (ss : List S87) (fo : Bool) (a b c d e g : Int) (pk : List Int) (x : Int) (bad : Bool) : Res :=
  if bad = true then err else if f < 0 then err else if f > 1 then err else if x = (l.length : Int) then (ss, fo, a, b, c, d, e, g, pk, 0) else err
theorem get_l0 (l : List Int) (hl : l.length < 1000000) (hb : Bytes l) (n : Nat) (hn : n < 2000000) (f : Int) (fo : Bool) (a b c d e g : Int) (pk : List Int) : ∀ (j i : Nat) (acc : List S87) (at_ : Int), i + j = n → acc.length = i → ∀ k, j + 2 * l.length + 3 ≤ k →
    (∀ m x, rep statN j l at_ = some (m, x) → code_Get.l0 k l f (n : Int) (i : Int) l at_ false acc fo a b c d e g pk = some (fin l f (acc ++ m) fo a b c d e g pk x false)) ∧ (∀ bad, (bad = true ∨ rep statN j l at_ = none) → code_Get.l0 k l f (n : Int) (i : Int) l at_ bad acc fo a b c d e g pk = some err) := by
  intro j
  induction j with
  | zero =>
    intro i acc at_ hi ha k hk
    obtain ⟨k, rfl⟩ : ∃ j, k = j + 1 := ⟨k - 1, by omega⟩
    have E : ∀ bad, code_Get.l0 (k + 1) l f (n : Int) (i : Int) l at_ bad acc fo a b c d e g pk = some (fin l f acc fo a b c d e g pk at_ bad) := by
      intro bad
      simp only [code_Get.l0]
      rw [if_neg (by omega)]
      unfold fin err
      split
      · rfl
      · split
        · rfl
        · split
          · rfl
          · split <;> rfl
    constructor
    · intro m x h
      simp only [rep, Option.some.injEq, Prod.mk.injEq] at h
      obtain ⟨rfl, rfl⟩ := h
      rw [E, List.append_nil]
    · intro bad h
      rcases h with rfl | h
      · rw [E]; unfold fin; rw [if_pos rfl]
      · simp [rep] at h
  | succ j ih =>
    intro i acc at_ hi ha k hk
    obtain ⟨k, rfl⟩ : ∃ j, k = j + 1 := ⟨k - 1, by omega⟩
    have hw : wrap64 ((i : Int) + 1) = ((i + 1 : Nat) : Int) := by rw [w64 _ (by omega) (by omega)]; omega
    constructor
    · intro m x h
      simp only [rep] at h
      obtain ⟨⟨s, y⟩, k1, h⟩ := Option.bind_eq_some_iff.mp h
      obtain ⟨⟨m', e'⟩, k2, h⟩ := Option.bind_eq_some_iff.mp h
      simp only [Option.some.injEq, Prod.mk.injEq] at h
      obtain ⟨rfl, rfl⟩ := h
      simp only [code_Get.l0]
      rw [if_pos (by omega), rd_stat_ok l hl hb at_ s y k (by omega) k1, Option.bind_some, if_pos (by omega), hw]
      rw [(ih (i + 1) (acc ++ [(⟨s.f0, s.f1⟩ : S87)]) y (by omega) (by rw [List.length_append]; simp [ha]) k (by omega)).1 m' e' k2]
      simp
    · intro bad h
      have I := fun (c : S87) (y : Int) => ih (i + 1) (acc ++ [c]) y (by omega) (by rw [List.length_append]; simp [ha]) k (by omega)
      by_cases hbd : bad = true ∨ statN l at_ = none
      · obtain ⟨r, m, z, e1⟩ := rd_stat_no l hl hb at_ bad k (by omega) hbd
        simp only [code_Get.l0]
        rw [if_pos (by omega), e1, Option.bind_some, if_pos (by omega), hw]
        exact (I _ z).2 true (.inl rfl)
      · have hb0 : bad = false := Bool.eq_false_iff.mpr (fun h => hbd (.inl h))
        subst hb0
        cases k1 : statN l at_ with
        | none => exact absurd (.inr k1) hbd
        | some t =>
          obtain ⟨s, x⟩ := t
          have h' : rep statN (j + 1) l at_ = none := h.resolve_left (by simp)
          simp only [rep, k1, Option.bind_some] at h'
          simp only [code_Get.l0]
          rw [if_pos (by omega), rd_stat_ok l hl hb at_ s x k (by omega) k1, Option.bind_some, if_pos (by omega), hw]
          refine (I _ _).2 false (.inr ?_)
          cases hr : rep statN j l x with
          | none => rfl
          | some me => rw [hr] at h'; cases h'
theorem tail_bad (l : List Int) (hl : l.length < 1000000) (hb : Bytes l) (at_ f : Int) (fo : Bool) (a b c d e g : Int) (k : Nat) (hk : 4 * l.length + 10 ≤ k) :
    ((code_reader_ints.f k l at_ true).bind fun t => (code_reader_count.f l t.2.1 t.2.2).bind fun u => code_Get.l0 k l f u.1 0 l u.2.1 u.2.2 [] fo a b c d e g t.1) = some err := by
  obtain ⟨m, x, e1⟩ := rd_ints_bad l hl hb at_ k (by omega)
  rw [e1, Option.bind_some, rd_count_bad l hl hb, Option.bind_some]
  exact (get_l0 l hl hb 0 (by omega) f fo a b c d e g m 0 0 [] x rfl rfl k (by omega)).2 true (.inl rfl)
theorem tail_ok (l : List Int) (hl : l.length < 1000000) (hb : Bytes l) (at_ f : Int) (fo : Bool) (a b c d e g : Int) (k : Nat) (hk : 4 * l.length + 10 ≤ k) :
    ((code_reader_ints.f k l at_ false).bind fun t => (code_reader_count.f l t.2.1 t.2.2).bind fun u => code_Get.l0 k l f u.1 0 l u.2.1 u.2.2 [] fo a b c d e g t.1) = some (match sq intsN (cnt statN) l at_ with | some ((pk, ss), x) => fin l f ss fo a b c d e g pk x false | none => err) := by
  cases k1 : intsN l at_ with
  | none =>
    obtain ⟨m, x, e1⟩ := rd_ints_no l hl hb at_ k1 k (by omega)
    rw [e1, Option.bind_some, rd_count_bad l hl hb, Option.bind_some]
    have := (get_l0 l hl hb 0 (by omega) f fo a b c d e g m 0 0 [] x rfl rfl k (by omega)).2 true (.inl rfl)
    simp only [sq, k1, Option.bind_none]
    exact this
  | some t =>
    obtain ⟨pk, x⟩ := t
    rw [rd_ints_ok l hl hb at_ pk x k1 k (by omega), Option.bind_some]
    simp only
    cases k2 : countN l x with
    | none =>
      obtain ⟨y, e2⟩ := rd_count_no l hl hb x k2
      rw [e2, Option.bind_some]
      have := (get_l0 l hl hb 0 (by omega) f fo a b c d e g pk 0 0 [] y rfl rfl k (by omega)).2 true (.inl rfl)
      simp only [sq, cnt, k1, k2, Option.bind_none, Option.bind_some]
      exact this
    | some t =>
      obtain ⟨n, y⟩ := t
      have hn := count_le l hb x n y k2
      rw [rd_count_ok l hl hb _ _ _ k2, Option.bind_some]
      have L := get_l0 l hl hb n (by omega) f fo a b c d e g pk n 0 [] y (by omega) rfl k (by omega)
      cases k3 : rep statN n l y with
      | none =>
        have := L.2 false (.inr k3)
        simp only [sq, cnt, k1, k2, k3, Option.bind_none, Option.bind_some]
        exact this
      | some t =>
        obtain ⟨ss, z⟩ := t
        have := L.1 ss z k3
        simp only [sq, cnt, k1, k2, k3, Option.bind_some]
        simpa using this
theorem codeGet_eq (l : List Int) (hl : l.length < 1000000) (hb : Bytes l) (k : Nat) (hk : 4 * l.length + 10 ≤ k) : code_Get.f k l = some (res (askN l)) := by
  have B := rd_int_bad l hl hb
  have T := fun (at_ f : Int) (fo : Bool) (a b c d e g : Int) => tail_bad l hl hb at_ f fo a b c d e g k hk
  unfold code_Get.f fake_mk.f
  rw [Option.bind_some]
  simp only
  have hA : ∀ t, H7 l 0 = t → askN l = t.bind fun t => if 0 ≤ t.1.1 ∧ t.1.1 ≤ 1 ∧ t.2 = (l.length : Int) then some t.1 else none := by rintro t rfl; rfl
  cases h0 : getO l 0 with
  | none =>
    rw [hA none (by simp [H7, sq, h0]), rd_int_none l hl hb _ h0]
    simp only [Option.bind_some, B, T, Option.bind_none, res]
  | some t =>
  obtain ⟨f, x0⟩ := t
  rw [rd_int_some l hl hb _ _ _ h0]
  simp only [Option.bind_some]
  cases h1 : getO l x0 with
  | none =>
    rw [hA none (by simp [H7, sq, h0, h1]), rd_int_none l hl hb _ h1]
    simp only [Option.bind_some, B, T, Option.bind_none, res]
  | some t =>
  obtain ⟨a, x1⟩ := t
  rw [rd_int_some l hl hb _ _ _ h1]
  simp only [Option.bind_some]
  cases h2 : getO l x1 with
  | none =>
    rw [hA none (by simp [H7, sq, h0, h1, h2]), rd_int_none l hl hb _ h2]
    simp only [Option.bind_some, B, T, Option.bind_none, res]
  | some t =>
  obtain ⟨b, x2⟩ := t
  rw [rd_int_some l hl hb _ _ _ h2]
  simp only [Option.bind_some]
  cases h3 : getO l x2 with
  | none =>
    rw [hA none (by simp [H7, sq, h0, h1, h2, h3]), rd_int_none l hl hb _ h3]
    simp only [Option.bind_some, B, T, Option.bind_none, res]
  | some t =>
  obtain ⟨c, x3⟩ := t
  rw [rd_int_some l hl hb _ _ _ h3]
  simp only [Option.bind_some]
  cases h4 : getO l x3 with
  | none =>
    rw [hA none (by simp [H7, sq, h0, h1, h2, h3, h4]), rd_int_none l hl hb _ h4]
    simp only [Option.bind_some, B, T, Option.bind_none, res]
  | some t =>
  obtain ⟨d, x4⟩ := t
  rw [rd_int_some l hl hb _ _ _ h4]
  simp only [Option.bind_some]
  cases h5 : getO l x4 with
  | none =>
    rw [hA none (by simp [H7, sq, h0, h1, h2, h3, h4, h5]), rd_int_none l hl hb _ h5]
    simp only [Option.bind_some, B, T, Option.bind_none, res]
  | some t =>
  obtain ⟨e, x5⟩ := t
  rw [rd_int_some l hl hb _ _ _ h5]
  simp only [Option.bind_some]
  cases h6 : getO l x5 with
  | none =>
    rw [hA none (by simp [H7, sq, h0, h1, h2, h3, h4, h5, h6]), rd_int_none l hl hb _ h6]
    simp only [Option.bind_some, B, T, Option.bind_none, res]
  | some t =>
  obtain ⟨g, x6⟩ := t
  rw [rd_int_some l hl hb _ _ _ h6]
  simp only [Option.bind_some]
  rw [tail_ok l hl hb x6 f (f == 1) a b c d e g k hk]
  congr 1
  cases h7 : sq intsN (cnt statN) l x6 with
  | none => rw [hA none (by simp only [H7]; simp only [sq] at h7 ⊢; simp [h0, h1, h2, h3, h4, h5, h6, h7])]; rfl
  | some t =>
    obtain ⟨⟨pk, ss⟩, x7⟩ := t
    have hH : H7 l 0 = some ((f, a, b, c, d, e, g, pk, ss), x7) := by
      have q6 : sq getO (sq intsN (cnt statN)) l x5 = some ((g, pk, ss), x7) := by rw [sq, h6, Option.bind_some, h7, Option.bind_some]
      have q5 : sq getO (sq getO (sq intsN (cnt statN))) l x4 = some ((e, g, pk, ss), x7) := by rw [sq, h5, Option.bind_some, q6, Option.bind_some]
      have q4 : sq getO (sq getO (sq getO (sq intsN (cnt statN)))) l x3 = some ((d, e, g, pk, ss), x7) := by rw [sq, h4, Option.bind_some, q5, Option.bind_some]
      have q3 : sq getO (sq getO (sq getO (sq getO (sq intsN (cnt statN))))) l x2 = some ((c, d, e, g, pk, ss), x7) := by rw [sq, h3, Option.bind_some, q4, Option.bind_some]
      have q2 : sq getO (sq getO (sq getO (sq getO (sq getO (sq intsN (cnt statN)))))) l x1 = some ((b, c, d, e, g, pk, ss), x7) := by rw [sq, h2, Option.bind_some, q3, Option.bind_some]
      have q1 : sq getO (sq getO (sq getO (sq getO (sq getO (sq getO (sq intsN (cnt statN))))))) l x0 = some ((a, b, c, d, e, g, pk, ss), x7) := by rw [sq, h1, Option.bind_some, q2, Option.bind_some]
      unfold H7
      rw [sq, h0, Option.bind_some, q1, Option.bind_some]
    rw [hA _ hH, Option.bind_some]
    simp only [fin]
    rw [if_neg (by simp)]
    by_cases c1 : f < 0
    · rw [if_pos c1, if_neg (by omega)]; rfl
    · rw [if_neg c1]
      by_cases c2 : f > 1
      · rw [if_pos c2, if_neg (by omega)]; rfl
      · rw [if_neg c2]
        by_cases c3 : x7 = (l.length : Int)
        · rw [if_pos c3, if_pos ⟨by omega, by omega, c3⟩]; rfl
        · rw [if_neg c3, if_neg (by omega)]; rfl
end Go.Proofs.Ytobfhacdljmooaa.PCodeP
