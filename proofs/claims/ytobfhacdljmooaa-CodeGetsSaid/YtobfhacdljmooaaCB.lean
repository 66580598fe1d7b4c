/- What the printed functions tell of a way to ask: its bytes, and that it is the same as itself. -/
import Derived.Test.YtobfhacdljmooaaCA
import Derived.Test.YtobfhacdljmooaaPCodePx4
import Derived.Test.YtobfhacdljmooaaPCodePx9
set_option linter.unusedVariables false
set_option linter.unusedSimpArgs false
namespace Go.Proofs.Ytobfhacdljmooaa.PCodeP
open Go.RowKit Go.Proofs.YtobfhacdljmooaaW.PrintWords Go.Proofs.YtobfhacdljmooaaW.PrintLast Go.Proofs.Ytobfhacdljmooaa.CM

/-- a column's bytes -/
def encCol (c : S89) : List Int := encI c.f0 ++ (encI c.f1 ++ encL c.f2)
/-- a table's bytes -/
def encStat (s : S87) : List Int := encI s.f0 ++ encC encCol s.f1
def OkL (l : List Int) : Prop := (l.length : Int) ≤ 9223372036854775807 ∧ ∀ x ∈ l, In x
def OkCol (c : S89) : Prop := In c.f0 ∧ In c.f1 ∧ OkL c.f2
def OkStat (s : S87) : Prop := In s.f0 ∧ (s.f1.length : Int) ≤ 9223372036854775807 ∧ ∀ c ∈ s.f1, OkCol c
theorem fmt_ints : Fmt intsN encL OkL := by
  have h := Fmt.int.cnt encI_pos
  have e1 : intsN = cnt getO := funext fun l => funext fun a => intsN_cnt l a
  have e2 : encL = encC encI := funext encL_cnt
  rw [e1, e2]; exact h
theorem fmt_col : Fmt colN encCol OkCol :=
  (Fmt.int.sq (Fmt.int.sq fmt_ints)).map (fun t => (⟨t.1, t.2.1, t.2.2⟩ : S89)) (fun c => (c.f0, c.f1, c.f2)) (fun _ => rfl) (fun _ => rfl)
theorem encCol_pos (c : S89) : 1 ≤ (encCol c).length := by have := encI_pos c.f0; unfold encCol; rw [List.length_append]; omega
theorem fmt_stat : Fmt statN encStat OkStat :=
  (Fmt.int.sq (fmt_col.cnt encCol_pos)).map (fun t => (⟨t.1, t.2⟩ : S87)) (fun s => (s.f0, s.f1)) (fun _ => rfl) (fun _ => rfl)
theorem encStat_pos (c : S87) : 1 ≤ (encStat c).length := by have := encI_pos c.f0; unfold encStat; rw [List.length_append]; omega
def OkAsk (t : Int × Int × Int × Int × Int × Int × Int × List Int × List S87) : Prop := In t.1 ∧ In t.2.1 ∧ In t.2.2.1 ∧ In t.2.2.2.1 ∧ In t.2.2.2.2.1 ∧ In t.2.2.2.2.2.1 ∧ In t.2.2.2.2.2.2.1 ∧ OkL t.2.2.2.2.2.2.2.1 ∧ (t.2.2.2.2.2.2.2.2.length : Int) ≤ 9223372036854775807 ∧ ∀ s ∈ t.2.2.2.2.2.2.2.2, OkStat s
/-- all bytes of a way to ask -/
def encA (t : Int × Int × Int × Int × Int × Int × Int × List Int × List S87) : List Int := encI t.1 ++ (encI t.2.1 ++ (encI t.2.2.1 ++ (encI t.2.2.2.1 ++ (encI t.2.2.2.2.1 ++ (encI t.2.2.2.2.2.1 ++ (encI t.2.2.2.2.2.2.1 ++ (encL t.2.2.2.2.2.2.2.1 ++ encC encStat t.2.2.2.2.2.2.2.2)))))))
theorem fmt_ask : Fmt H7 encA OkAsk :=
  Fmt.int.sq (Fmt.int.sq (Fmt.int.sq (Fmt.int.sq (Fmt.int.sq (Fmt.int.sq (Fmt.int.sq (fmt_ints.sq (fmt_stat.cnt encStat_pos))))))))
theorem askN_enc (t : Int × Int × Int × Int × Int × Int × Int × List Int × List S87) (h : OkAsk t) (h0 : 0 ≤ t.1) (h1 : t.1 ≤ 1) : askN (encA t) = some t := by
  have := fmt_ask.enc t h [] [] 0 rfl
  simp only [List.nil_append, List.append_nil] at this
  unfold askN
  rw [this, Option.bind_some, if_pos ⟨h0, h1, by simp⟩]
theorem askN_inv (l : List Int) (hb : Bytes l) (t : Int × Int × Int × Int × Int × Int × Int × List Int × List S87) (h : askN l = some t) : OkAsk t ∧ 0 ≤ t.1 ∧ t.1 ≤ 1 ∧ l = encA t := by
  unfold askN at h
  obtain ⟨⟨u, x⟩, k1, h⟩ := Option.bind_eq_some_iff.mp h
  by_cases c : 0 ≤ u.1 ∧ u.1 ≤ 1 ∧ x = (l.length : Int)
  · rw [if_pos c] at h
    obtain rfl := Option.some.inj h
    obtain ⟨i1, p, r, i2, i3, i4⟩ := fmt_ask.inv l hb 0 u x (by omega) (by omega) k1
    have hp : p = [] := List.eq_nil_of_length_eq_zero (by omega)
    subst hp
    have hr : r = [] := by
      have := congrArg List.length i2
      simp only [List.nil_append, List.length_append] at this
      exact List.eq_nil_of_length_eq_zero (by omega)
    subst hr
    exact ⟨i1, c.1, c.2.1, by simpa using i2⟩
  · rw [if_neg c] at h; cases h

theorem rd89_mid (p r : List S89) (x : S89) (i : Int) (hi : i = (p.length : Int)) : rd_T89 (p ++ x :: r) i = x := by subst hi; unfold rd_T89; simp
theorem rd87_mid (p r : List S87) (x : S87) (i : Int) (hi : i = (p.length : Int)) : rd_T87 (p ++ x :: r) i = x := by subst hi; unfold rd_T87; simp
theorem encL_le (l : List Int) : l.length + 1 ≤ (encL l).length := by have := encAll_len l; have := encI_pos (l.length : Int); unfold encL; rw [List.length_append]; omega

theorem put_l2 (ss : List S87) (n i : Int) (N : Nat) (r : List S89) : ∀ (p : List S89) (b : List Int), (∀ c ∈ r, OkCol c ∧ c.f2.length + 1 ≤ N) → b.length + (encR encCol r).length + 10 * N < 900000 → p.length + r.length < 900000 → ∀ k, N ≤ k →
    code_Put.l2 (k + r.length + 1) b ss n i (p ++ r) ((p ++ r).length : Int) (p.length : Int) = code_Put.l1 k (b ++ encR encCol r) ss n (wrap64 (i + 1)) := by
  induction r with
  | nil =>
    intro p b _ _ _ k hk
    simp only [List.append_nil, List.length_nil, Nat.add_zero, code_Put.l2, encR]
    rw [if_neg (by omega)]
  | cons c r ih =>
    intro p b hin hb hp k hk
    obtain ⟨⟨o1, o2, o3, o4⟩, o5⟩ := hin c List.mem_cons_self
    simp only [encR, List.length_append, List.length_cons] at hb hp
    have hc : (encCol c).length = (encI c.f0).length + ((encI c.f1).length + (encL c.f2).length) := by unfold encCol; simp only [List.length_append]
    rw [show k + (c :: r).length + 1 = (k + r.length + 1) + 1 by simp only [List.length_cons]; omega]
    rw [code_Put.l2]
    rw [if_pos (by simp only [List.length_append, List.length_cons]; omega), if_pos (by omega), if_pos (by simp only [List.length_append, List.length_cons]; omega), rd89_mid _ _ _ _ rfl, put_eq _ _ o1 (by omega), Option.bind_some, put_eq _ _ o2 (by rw [List.length_append]; omega), Option.bind_some, puts_eq _ _ o4 (by rw [List.length_append, List.length_append]; omega) _ (by omega), Option.bind_some, w64 _ (by omega) (by omega)]
    have h := ih (p ++ [c]) (b ++ encI c.f0 ++ encI c.f1 ++ encL c.f2) (fun y hy => hin y (List.mem_cons_of_mem _ hy)) (by simp only [List.length_append]; omega) (by simp only [List.length_append, List.length_cons, List.length_nil]; omega) k hk
    rw [List.append_assoc p [c] r, List.singleton_append, @List.length_append _ p [c]] at h
    simp only [List.length_cons, List.length_nil] at h
    rw [show ((p.length : Int) + 1) = ((p.length + (0 + 1) : Nat) : Int) by omega, h]
    simp [encR, encCol]
theorem put_l1 (N : Nat) (hN : N ≤ 2000) (r : List S87) : ∀ (p : List S87) (b : List Int), (∀ s ∈ r, OkStat s ∧ ∀ c ∈ s.f1, c.f2.length + 1 ≤ N) → b.length + (encR encStat r).length + 10 * N < 800000 → p.length + r.length < 900000 → ∀ k, N + (encR encStat r).length + 1 ≤ k →
    code_Put.l1 k b (p ++ r) ((p ++ r).length : Int) (p.length : Int) = some (b ++ encR encStat r) := by
  induction r with
  | nil =>
    intro p b _ _ _ k hk
    obtain ⟨k, rfl⟩ : ∃ j, k = j + 1 := ⟨k - 1, by omega⟩
    simp [code_Put.l1, encR]
  | cons s r ih =>
    intro p b hin hb hp k hk
    obtain ⟨⟨o1, o2, o3⟩, o5⟩ := hin s List.mem_cons_self
    simp only [encR, List.length_append, List.length_cons] at hb hp hk
    have hs : (encStat s).length = (encI s.f0).length + ((encI (s.f1.length : Int)).length + (encR encCol s.f1).length) := by unfold encStat encC; simp only [List.length_append]
    have hl := encR_len s.f1 encCol_pos
    have p1 := encI_pos s.f0
    have p2 := encI_pos (s.f1.length : Int)
    have hI : In (s.f1.length : Int) := ⟨by omega, by omega⟩
    obtain ⟨k, rfl⟩ : ∃ j, k = (j + s.f1.length + 1) + 1 := ⟨k - s.f1.length - 2, by omega⟩
    rw [code_Put.l1]
    rw [if_pos (by simp only [List.length_append, List.length_cons]; omega), if_pos (by omega), if_pos (by simp only [List.length_append, List.length_cons]; omega), rd87_mid _ _ _ _ rfl, put_eq _ _ o1 (by omega), Option.bind_some, put_eq _ _ hI (by rw [List.length_append]; omega), Option.bind_some]
    have h2 := put_l2 (p ++ s :: r) ((p ++ s :: r).length : Int) (p.length : Int) N s.f1 [] (b ++ encI s.f0 ++ encI (s.f1.length : Int)) (fun c hc => ⟨o3 c hc, o5 c hc⟩) (by simp only [List.length_append]; omega) (by simp only [List.length_nil]; omega) k (by omega)
    simp only [List.nil_append, List.length_nil] at h2
    rw [show ((0 : Nat) : Int) = 0 from rfl] at h2
    rw [h2, w64 _ (by omega) (by omega)]
    have h := ih (p ++ [s]) (b ++ encI s.f0 ++ encI (s.f1.length : Int) ++ encR encCol s.f1) (fun y hy => hin y (List.mem_cons_of_mem _ hy)) (by simp only [List.length_append]; omega) (by simp only [List.length_append, List.length_cons, List.length_nil]; omega) k (by omega)
    rw [List.append_assoc p [s] r, List.singleton_append, @List.length_append _ p [s]] at h
    simp only [List.length_cons, List.length_nil] at h
    rw [show ((p.length : Int) + 1) = ((p.length + (0 + 1) : Nat) : Int) by omega, h]
    simp [encR, encStat, encC]
theorem put_l0 (ss : List S87) (fo : Bool) (a b c d e g : Int) (pk : List Int) (r : List Int) : ∀ (p u : List Int), (∀ x ∈ r, In x) → u.length + 10 * r.length < 900000 → p.length + r.length < 900000 → ∀ k,
    code_Put.l0 (k + r.length + 1) u (p ++ r) ((p ++ r).length : Int) (p.length : Int) ss fo a b c d e g pk = ((code_PutInts.f k (u ++ encAll r) pk).bind fun t => ((code_PutInt.f t (ss.length : Int)).bind fun v => (code_Put.l1 k v ss (ss.length : Int) 0))) := by
  induction r with
  | nil =>
    intro p u _ _ _ k
    simp only [List.append_nil, List.length_nil, Nat.add_zero, code_Put.l0, encAll]
    rw [if_neg (by omega)]
  | cons x r ih =>
    intro p u hin hb hp k
    have hx := hin x List.mem_cons_self
    have h10 := encI_ten x hx
    simp only [List.length_cons] at hb hp
    rw [show k + (x :: r).length + 1 = (k + r.length + 1) + 1 by simp only [List.length_cons]; omega]
    rw [code_Put.l0]
    rw [if_pos (by simp only [List.length_append, List.length_cons]; omega), if_pos (by omega), if_pos (by simp only [List.length_append, List.length_cons]; omega), rd_mid _ _ _ _ rfl, put_eq _ _ hx (by omega), Option.bind_some, w64 _ (by omega) (by omega)]
    have h := ih (p ++ [x]) (u ++ encI x) (fun y hy => hin y (List.mem_cons_of_mem _ hy)) (by rw [List.length_append]; omega) (by simp only [List.length_append, List.length_cons, List.length_nil]; omega) k
    rw [List.append_assoc p [x] r, List.singleton_append, @List.length_append _ p [x]] at h
    simp only [List.length_cons, List.length_nil] at h
    rw [show ((p.length : Int) + 1) = ((p.length + (0 + 1) : Nat) : Int) by omega, h]
    simp [encAll]
/-- the number that says whether all is forced -/
def fo1 (fo : Bool) : Int := if fo = true then 1 else 0
theorem fo1_in (fo : Bool) : In (fo1 fo) ∧ 0 ≤ fo1 fo ∧ fo1 fo ≤ 1 ∧ (fo1 fo == 1) = fo := by cases fo <;> decide
theorem put_ask (ss : List S87) (fo : Bool) (a b c d e g : Int) (pk : List Int) (h : OkAsk (fo1 fo, a, b, c, d, e, g, pk, ss)) (N : Nat) (hN : N ≤ 2000) (h2 : ∀ s ∈ ss, ∀ c ∈ s.f1, c.f2.length + 1 ≤ N) (h3 : pk.length + 1 ≤ N) (hl : (encA (fo1 fo, a, b, c, d, e, g, pk, ss)).length < 500000) (k : Nat) (hk : 600000 ≤ k) :
    code_Put.f k ss fo a b c d e g pk = some (encA (fo1 fo, a, b, c, d, e, g, pk, ss)) := by
  obtain ⟨o1, o2, o3, o4, o5, o6, o7, o8, o9, o10⟩ := h
  simp only at o1 o2 o3 o4 o5 o6 o7 o8 o9 o10
  have hE : (encA (fo1 fo, a, b, c, d, e, g, pk, ss)) = encAll [fo1 fo, a, b, c, d, e, g] ++ encL pk ++ encI (ss.length : Int) ++ encR encStat ss := by
    simp [encA, encAll, encC]
  have hll : (encA (fo1 fo, a, b, c, d, e, g, pk, ss)).length = (encAll [fo1 fo, a, b, c, d, e, g]).length + (encL pk).length + (encI (ss.length : Int)).length + (encR encStat ss).length := by rw [hE]; simp only [List.length_append]
  have hr := encR_len ss encStat_pos
  obtain ⟨k, rfl⟩ : ∃ j, k = (j + [fo1 fo, a, b, c, d, e, g].length + 1) + 1 := ⟨k - 9, by simp; omega⟩
  have hin : ∀ x ∈ [fo1 fo, a, b, c, d, e, g], In x := by
    intro x hx
    simp only [List.mem_cons, List.not_mem_nil, or_false] at hx
    rcases hx with rfl | rfl | rfl | rfl | rfl | rfl | rfl <;> assumption
  have h0 := put_l0 ss fo a b c d e g pk [fo1 fo, a, b, c, d, e, g] [] [] hin (by simp) (by simp) k
  simp only [List.nil_append, List.length_nil] at h0
  rw [show ((0 : Nat) : Int) = 0 from rfl] at h0
  have hJ : code_Put.f (k + [fo1 fo, a, b, c, d, e, g].length + 1 + 1) ss fo a b c d e g pk = code_Put.l0 (k + [fo1 fo, a, b, c, d, e, g].length + 1) [] [fo1 fo, a, b, c, d, e, g] ([fo1 fo, a, b, c, d, e, g].length : Int) 0 ss fo a b c d e g pk := by
    unfold code_Put.f fo1
    cases fo
    · rw [if_neg (by simp)]; simp only [code_Put.j0, Option.bind_some]; rfl
    · rw [if_pos rfl]; simp only [code_Put.j0, Option.bind_some]; rfl
  have e7 : [fo1 fo, a, b, c, d, e, g].length = 7 := rfl
  rw [hJ, h0, puts_eq _ _ o8.2 (by omega) _ (by omega), Option.bind_some, put_eq _ _ ⟨by omega, o9⟩ (by rw [List.length_append]; omega), Option.bind_some]
  have h1 := put_l1 N hN ss [] (encAll [fo1 fo, a, b, c, d, e, g] ++ encL pk ++ encI (ss.length : Int)) (fun s hs => ⟨o10 s hs, h2 s hs⟩) (by simp only [List.length_append]; omega) (by simp only [List.length_nil]; omega) k (by simp only [List.length_cons, List.length_nil] at hk; omega)
  simp only [List.nil_append, List.length_nil] at h1
  rw [show ((0 : Nat) : Int) = 0 from rfl] at h1
  rw [h1, hE]

theorem same_col (c : S89) (hc : c.f2.length < 1000000) (k : Nat) (hk : c.f2.length + 1 ≤ k) : trommelref27_SameCol.f k c.f0 c.f1 c.f2 c.f0 c.f1 c.f2 = some true := by
  unfold trommelref27_SameCol.f
  rw [if_pos rfl, if_pos rfl, same_eq _ (by omega) k hk, Option.bind_some]
theorem same_stat_l0 (u : Int) (N : Nat) (hN : N ≤ 1000000) (r : List S89) : ∀ (p : List S89), (∀ c ∈ r, c.f2.length + 1 ≤ N) → p.length + r.length < 900000 → ∀ k, N + r.length + 1 ≤ k → trommelref27_Same.l0 k (p.length : Int) u (p ++ r) u (p ++ r) = some true := by
  induction r with
  | nil =>
    intro p _ _ k hk
    obtain ⟨k, rfl⟩ : ∃ j, k = j + 1 := ⟨k - 1, by omega⟩
    simp only [trommelref27_Same.l0, List.append_nil]
    rw [if_neg (by omega)]
  | cons c r ih =>
    intro p hin hp k hk
    obtain ⟨k, rfl⟩ : ∃ j, k = j + 1 := ⟨k - 1, by omega⟩
    simp only [List.length_cons] at hp hk
    have hc := hin c List.mem_cons_self
    simp only [trommelref27_Same.l0]
    rw [if_pos (by simp only [List.length_append, List.length_cons]; omega), if_pos (by omega), if_pos (by simp only [List.length_append, List.length_cons]; omega), rd89_mid _ _ _ _ rfl, same_col c (by omega) k (by omega), Option.bind_some, if_pos rfl, w64 _ (by omega) (by omega)]
    have h := ih (p ++ [c]) (fun y hy => hin y (List.mem_cons_of_mem _ hy)) (by simp only [List.length_append, List.length_cons, List.length_nil]; omega) k (by omega)
    rw [List.append_assoc p [c] r, List.singleton_append, @List.length_append _ p [c]] at h
    simp only [List.length_cons, List.length_nil] at h
    rw [show ((p.length : Int) + 1) = ((p.length + (0 + 1) : Nat) : Int) by omega]
    exact h
theorem same_stat (s : S87) (N : Nat) (hN : N ≤ 1000000) (h2 : ∀ c ∈ s.f1, c.f2.length + 1 ≤ N) (hl : s.f1.length < 900000) (k : Nat) (hk : N + s.f1.length + 2 ≤ k) : trommelref27_Same.f k s.f0 s.f1 s.f0 s.f1 = some true := by
  obtain ⟨k, rfl⟩ : ∃ j, k = j + 1 := ⟨k - 1, by omega⟩
  unfold trommelref27_Same.f
  rw [if_pos rfl, bne_self_eq_false]
  simp only [trommelref27_Same.j0]
  rw [if_neg (by simp)]
  exact same_stat_l0 s.f0 N hN s.f1 [] h2 (by simp only [List.length_nil]; omega) k (by omega)
theorem same_ask_l0 (fo : Bool) (a b c d e g : Int) (pk : List Int) (N M : Nat) (hN : N ≤ 1000000) (r : List S87) : ∀ (p : List S87), (∀ s ∈ r, s.f1.length ≤ M ∧ ∀ c ∈ s.f1, c.f2.length + 1 ≤ N) → M < 900000 → p.length + r.length < 900000 → ∀ k, N + M + r.length + 3 ≤ k → trommelref39_Same.l0 k (p.length : Int) (p ++ r) fo a b c d e g pk (p ++ r) fo a b c d e g pk = some true := by
  induction r with
  | nil =>
    intro p _ _ _ k hk
    obtain ⟨k, rfl⟩ : ∃ j, k = j + 1 := ⟨k - 1, by omega⟩
    simp only [trommelref39_Same.l0, List.append_nil]
    rw [if_neg (by omega)]
  | cons s r ih =>
    intro p hin hM hp k hk
    obtain ⟨k, rfl⟩ : ∃ j, k = j + 1 := ⟨k - 1, by omega⟩
    simp only [List.length_cons] at hp hk
    have hc := hin s List.mem_cons_self
    simp only [trommelref39_Same.l0]
    rw [if_pos (by simp only [List.length_append, List.length_cons]; omega), if_pos (by omega), if_pos (by simp only [List.length_append, List.length_cons]; omega), rd87_mid _ _ _ _ rfl, same_stat s N hN hc.2 (by omega) k (by omega), Option.bind_some, if_pos rfl, w64 _ (by omega) (by omega)]
    have h := ih (p ++ [s]) (fun y hy => hin y (List.mem_cons_of_mem _ hy)) hM (by simp only [List.length_append, List.length_cons, List.length_nil]; omega) k (by omega)
    rw [List.append_assoc p [s] r, List.singleton_append, @List.length_append _ p [s]] at h
    simp only [List.length_cons, List.length_nil] at h
    rw [show ((p.length : Int) + 1) = ((p.length + (0 + 1) : Nat) : Int) by omega]
    exact h
theorem same_ask (ss : List S87) (fo : Bool) (a b c d e g : Int) (pk : List Int) (N : Nat) (hN : N ≤ 500000) (h2 : ∀ s ∈ ss, s.f1.length ≤ N ∧ ∀ c ∈ s.f1, c.f2.length + 1 ≤ N) (h3 : pk.length + 1 ≤ N) (h4 : ss.length ≤ N) (k : Nat) (hk : 3 * N + 10 ≤ k) :
    trommelref39_Same.f k ss fo a b c d e g pk ss fo a b c d e g pk = some true := by
  obtain ⟨k, rfl⟩ : ∃ j, k = j + 1 := ⟨k - 1, by omega⟩
  unfold trommelref39_Same.f
  rw [if_neg (by simp), if_neg (by simp), same_eq pk (by omega) (k + 1) (by omega), Option.bind_some, if_pos rfl, bne_self_eq_false]
  simp only [trommelref39_Same.j0]
  rw [if_neg (by simp)]
  exact same_ask_l0 fo a b c d e g pk N N (by omega) ss [] h2 (by omega) (by simp only [List.length_nil]; omega) k (by omega)
end Go.Proofs.Ytobfhacdljmooaa.PCodeP
