/- What the document's printed functions tell of a way to ask: its bytes; and whether it is more than is asked. -/
import Derived.Test.YtobfhacdljmooaaCB
import Derived.Test.YtobfhacdljmooaaPCodePx7
set_option linter.unusedVariables false
set_option linter.unusedSimpArgs false
namespace Go.Proofs.Ytobfhacdljmooaa.PCodeP
open Go.RowKit Go.Proofs.YtobfhacdljmooaaW.PrintWords Go.Proofs.YtobfhacdljmooaaW.PrintLast Go.Proofs.Ytobfhacdljmooaa.CM

theorem bytes_l2 (ss : List S87) (fo : Bool) (a1 a2 a3 a4 a5 a6 : Int) (pk : List Int) (u i : Int) (N : Nat) (hN : N ≤ 2000) (r : List S89) : ∀ (p : List S89) (b : List Int), (∀ c ∈ r, OkCol c ∧ c.f2.length + 1 ≤ N) → b.length + (encR encCol r).length + 10 * N < 900000 → p.length + r.length < 900000 → ∀ k, N ≤ k →
    trommelref39_Bytes.l2 (k + r.length + 1) b i (p.length : Int) ss fo a1 a2 a3 a4 a5 a6 pk u (p ++ r) = trommelref39_Bytes.l1 k (b ++ encR encCol r) (wrap64 (i + 1)) ss fo a1 a2 a3 a4 a5 a6 pk := by
  induction r with
  | nil =>
    intro p b _ _ _ k hk
    rw [List.append_nil, List.length_nil, Nat.add_zero, trommelref39_Bytes.l2, if_neg (by omega)]
    simp [encR]
  | cons c r ih =>
    intro p b hin hb hp k hk
    obtain ⟨⟨o1, o2, o3, o4⟩, o5⟩ := hin c List.mem_cons_self
    simp only [encR, List.length_append, List.length_cons] at hb hp
    have hc : (encCol c).length = (encI c.f0).length + ((encI c.f1).length + (encL c.f2).length) := by unfold encCol; simp only [List.length_append]
    rw [show k + (c :: r).length + 1 = (k + r.length + 1) + 1 by simp only [List.length_cons]; omega]
    rw [trommelref39_Bytes.l2]
    rw [if_pos (by simp only [List.length_append, List.length_cons]; omega), if_pos (by omega), rd89_mid _ _ _ _ rfl, rint_eq _ o1, Option.bind_some, if_pos (by omega), Option.bind_some, rint_eq _ o2, Option.bind_some, if_pos (by rw [List.length_append]; omega), Option.bind_some, rints_eq _ o4 (by omega) _ (by omega), Option.bind_some, if_pos (by simp only [List.length_append]; omega), w64 _ (by omega) (by omega)]
    have h := ih (p ++ [c]) (b ++ encI c.f0 ++ encI c.f1 ++ encL c.f2) (fun y hy => hin y (List.mem_cons_of_mem _ hy)) (by simp only [List.length_append]; omega) (by simp only [List.length_append, List.length_cons, List.length_nil]; omega) k hk
    rw [List.append_assoc p [c] r, List.singleton_append, @List.length_append _ p [c]] at h
    simp only [List.length_cons, List.length_nil] at h
    rw [show ((p.length : Int) + 1) = ((p.length + (0 + 1) : Nat) : Int) by omega, h]
    simp [encR, encCol]
theorem bytes_l1 (fo : Bool) (a1 a2 a3 a4 a5 a6 : Int) (pk : List Int) (N : Nat) (hN : N ≤ 2000) (r : List S87) : ∀ (p : List S87) (b : List Int), (∀ s ∈ r, OkStat s ∧ ∀ c ∈ s.f1, c.f2.length + 1 ≤ N) → b.length + (encR encStat r).length + 10 * N < 800000 → p.length + r.length < 900000 → ∀ k, N + (encR encStat r).length + 1 ≤ k →
    trommelref39_Bytes.l1 k b (p.length : Int) (p ++ r) fo a1 a2 a3 a4 a5 a6 pk = some (b ++ encR encStat r) := by
  induction r with
  | nil =>
    intro p b _ _ _ k hk
    obtain ⟨k, rfl⟩ : ∃ j, k = j + 1 := ⟨k - 1, by omega⟩
    rw [List.append_nil, trommelref39_Bytes.l1, if_neg (by omega)]
    simp [encR]
  | cons s r ih =>
    intro p b hin hb hp k hk
    obtain ⟨⟨o1, o2, o3⟩, o5⟩ := hin s List.mem_cons_self
    simp only [encR, List.length_append, List.length_cons] at hb hp hk
    have hs : (encStat s).length = (encI s.f0).length + ((encI (s.f1.length : Int)).length + (encR encCol s.f1).length) := by unfold encStat encC; simp only [List.length_append]
    have hl := encR_len s.f1 encCol_pos
    have p1 := encI_pos s.f0
    have p2 := encI_pos (s.f1.length : Int)
    have hI : In (s.f1.length : Int) := ⟨by omega, by omega⟩
    obtain ⟨k, rfl⟩ : ∃ j, k = (j + s.f1.length + 1) + 1 := ⟨k - s.f1.length - 2, by omega⟩
    rw [trommelref39_Bytes.l1]
    rw [if_pos (by simp only [List.length_append, List.length_cons]; omega), if_pos (by omega), rd87_mid _ _ _ _ rfl, rint_eq _ o1, Option.bind_some, if_pos (by omega), Option.bind_some, rint_eq _ hI, Option.bind_some, if_pos (by rw [List.length_append]; omega)]
    have h2 := bytes_l2 (p ++ s :: r) fo a1 a2 a3 a4 a5 a6 pk s.f0 (p.length : Int) N hN s.f1 [] (b ++ encI s.f0 ++ encI (s.f1.length : Int)) (fun c hc => ⟨o3 c hc, o5 c hc⟩) (by simp only [List.length_append]; omega) (by simp only [List.length_nil]; omega) k (by omega)
    simp only [List.nil_append, List.length_nil] at h2
    rw [show ((0 : Nat) : Int) = 0 from rfl] at h2
    rw [h2, w64 _ (by omega) (by omega)]
    have h := ih (p ++ [s]) (b ++ encI s.f0 ++ encI (s.f1.length : Int) ++ encR encCol s.f1) (fun y hy => hin y (List.mem_cons_of_mem _ hy)) (by simp only [List.length_append]; omega) (by simp only [List.length_append, List.length_cons, List.length_nil]; omega) k (by omega)
    rw [List.append_assoc p [s] r, List.singleton_append, @List.length_append _ p [s]] at h
    simp only [List.length_cons, List.length_nil] at h
    rw [show ((p.length : Int) + 1) = ((p.length + (0 + 1) : Nat) : Int) by omega, h]
    simp [encR, encStat, encC]
theorem bytes_l0 (ss : List S87) (fo : Bool) (a1 a2 a3 a4 a5 a6 : Int) (pk : List Int) (r : List Int) : ∀ (p u : List Int), (∀ x ∈ r, In x) → u.length + 10 * r.length < 900000 → p.length + r.length < 900000 → ∀ k,
    trommelref39_Bytes.l0 (k + r.length + 1) u (p ++ r) (p.length : Int) ss fo a1 a2 a3 a4 a5 a6 pk = ((trommelref39_Ints.f k pk).bind fun t => (if (u ++ encAll r).length + t.length < 140737488355328 then ((some ((u ++ encAll r) ++ t : List Int)).bind fun y => ((trommelref39_Int.f (ss.length : Int)).bind fun v => (if y.length + v.length < 140737488355328 then (trommelref39_Bytes.l1 k (y ++ v) 0 ss fo a1 a2 a3 a4 a5 a6 pk) else (none)))) else (none))) := by
  induction r with
  | nil =>
    intro p u _ _ _ k
    rw [List.append_nil, List.length_nil, Nat.add_zero, trommelref39_Bytes.l0, if_neg (by omega)]
    simp only [encAll, List.append_nil]
  | cons x r ih =>
    intro p u hin hb hp k
    have hx := hin x List.mem_cons_self
    have h10 := encI_ten x hx
    simp only [List.length_cons] at hb hp
    rw [show k + (x :: r).length + 1 = (k + r.length + 1) + 1 by simp only [List.length_cons]; omega]
    rw [trommelref39_Bytes.l0]
    rw [if_pos (by simp only [List.length_append, List.length_cons]; omega), if_pos (by omega), rd_mid _ _ _ _ rfl, rint_eq _ hx, Option.bind_some, if_pos (by omega), w64 _ (by omega) (by omega)]
    have h := ih (p ++ [x]) (u ++ encI x) (fun y hy => hin y (List.mem_cons_of_mem _ hy)) (by rw [List.length_append]; omega) (by simp only [List.length_append, List.length_cons, List.length_nil]; omega) k
    rw [List.append_assoc p [x] r, List.singleton_append, @List.length_append _ p [x]] at h
    simp only [List.length_cons, List.length_nil] at h
    rw [show ((p.length : Int) + 1) = ((p.length + (0 + 1) : Nat) : Int) by omega, h]
    simp only [encAll, List.append_assoc]
theorem bytes_ask (ss : List S87) (fo : Bool) (a b c d e g : Int) (pk : List Int) (h : OkAsk (fo1 fo, a, b, c, d, e, g, pk, ss)) (N : Nat) (hN : N ≤ 2000) (h2 : ∀ s ∈ ss, ∀ c ∈ s.f1, c.f2.length + 1 ≤ N) (h3 : pk.length + 1 ≤ N) (hl : (encA (fo1 fo, a, b, c, d, e, g, pk, ss)).length < 500000) (k : Nat) (hk : 600000 ≤ k) :
    trommelref39_Bytes.f k ss fo a b c d e g pk = some (encA (fo1 fo, a, b, c, d, e, g, pk, ss)) := by
  obtain ⟨o1, o2, o3, o4, o5, o6, o7, o8, o9, o10⟩ := h
  simp only at o1 o2 o3 o4 o5 o6 o7 o8 o9 o10
  have hE : (encA (fo1 fo, a, b, c, d, e, g, pk, ss)) = (encI (fo1 fo) ++ encAll [a, b, c, d, e, g]) ++ encL pk ++ encI (ss.length : Int) ++ encR encStat ss := by
    simp [encA, encAll, encC]
  have hll : (encA (fo1 fo, a, b, c, d, e, g, pk, ss)).length = (encI (fo1 fo)).length + (encAll [a, b, c, d, e, g]).length + (encL pk).length + (encI (ss.length : Int)).length + (encR encStat ss).length := by rw [hE]; simp only [List.length_append]
  have hr := encR_len ss encStat_pos
  have e7 : [a, b, c, d, e, g].length = 6 := rfl
  have h10 := encI_ten (fo1 fo) o1
  obtain ⟨k, rfl⟩ : ∃ j, k = (j + [a, b, c, d, e, g].length + 1) + 1 := ⟨k - 8, by omega⟩
  have hin : ∀ x ∈ [a, b, c, d, e, g], In x := by
    intro x hx
    simp only [List.mem_cons, List.not_mem_nil, or_false] at hx
    rcases hx with rfl | rfl | rfl | rfl | rfl | rfl <;> assumption
  have h0 := bytes_l0 ss fo a b c d e g pk [a, b, c, d, e, g] [] (encI (fo1 fo)) hin (by omega) (by simp) k
  simp only [List.nil_append, List.length_nil] at h0
  rw [show ((0 : Nat) : Int) = 0 from rfl] at h0
  have hJ : trommelref39_Bytes.f (k + [a, b, c, d, e, g].length + 1 + 1) ss fo a b c d e g pk = trommelref39_Bytes.l0 (k + [a, b, c, d, e, g].length + 1) (encI (fo1 fo)) [a, b, c, d, e, g] 0 ss fo a b c d e g pk := by
    unfold trommelref39_Bytes.f fo1
    rw [rint_eq 0 (by decide), Option.bind_some]
    cases fo
    · rw [if_neg (by simp), trommelref39_Bytes.j0]; rfl
    · rw [if_pos rfl, rint_eq 1 (by decide), Option.bind_some, trommelref39_Bytes.j0]; rfl
  rw [hJ, h0, rints_eq _ o8.2 (by omega) _ (by omega), Option.bind_some, if_pos (by simp only [List.length_append]; omega), Option.bind_some, rint_eq _ ⟨by omega, o9⟩, Option.bind_some, if_pos (by simp only [List.length_append]; omega)]
  have h1 := bytes_l1 fo a b c d e g pk N hN ss [] (encI (fo1 fo) ++ encAll [a, b, c, d, e, g] ++ encL pk ++ encI (ss.length : Int)) (fun s hs => ⟨o10 s hs, h2 s hs⟩) (by simp only [List.length_append]; omega) (by simp only [List.length_nil]; omega) k (by omega)
  simp only [List.nil_append, List.length_nil] at h1
  rw [show ((0 : Nat) : Int) = 0 from rfl] at h1
  rw [h1, hE]

/-- much of a table is told within 45 rounds; if it is not much, it is small -/
theorem much_l0 (u : Int) (cs : List S89) : ∀ (j i : Nat), i + j = 41 → i ≤ cs.length → (∀ q, q < i → (rd_T89 cs (q : Int)).f2.length ≤ 60) → ∀ k, 2 * j + 5 ≤ k → ∃ v, trommelref27_Much.l0 k (i : Int) u cs = some v ∧ (v = false → cs.length ≤ 30 ∧ ∀ q, q < cs.length → (rd_T89 cs (q : Int)).f2.length ≤ 60) := by
  intro j
  induction j with
  | zero =>
    intro i hi hc hq k hk
    obtain ⟨k, rfl⟩ : ∃ j, k = j + 1 + 1 := ⟨k - 2, by omega⟩
    rw [trommelref27_Much.l0]
    have e : (if (i : Int) < (cs.length : Int) then trommelref27_Much.j1 (k + 1) (i : Int) (decide ((i : Int) < 40)) u cs else trommelref27_Much.j1 (k + 1) (i : Int) false u cs) = trommelref27_Much.j1 (k + 1) (i : Int) false u cs := by
      split
      · rw [decide_eq_false (by omega)]
      · rfl
    rw [e, trommelref27_Much.j1, if_neg (by simp)]
    exact ⟨_, rfl, fun h => by simp at h; omega⟩
  | succ j ih =>
    intro i hi hc hq k hk
    obtain ⟨k, rfl⟩ : ∃ j, k = j + 1 + 1 := ⟨k - 2, by omega⟩
    rw [trommelref27_Much.l0]
    by_cases h : i < cs.length
    · rw [if_pos (by omega)]
      by_cases h40 : i < 40
      · rw [decide_eq_true (by omega), trommelref27_Much.j1, if_pos rfl, if_pos (by omega), if_pos (by omega)]
        by_cases h60 : ((rd_T89 cs (i : Int)).f2.length : Int) > 60
        · rw [if_pos h60]; exact ⟨true, rfl, fun h => by cases h⟩
        · rw [if_neg h60, w64 _ (by omega) (by omega)]
          have := ih (i + 1) (by omega) (by omega) (fun q hq2 => by
            by_cases h3 : q = i
            · subst h3; omega
            · exact hq q (by omega)) k (by omega)
          exact this
      · rw [decide_eq_false (by omega), trommelref27_Much.j1, if_neg (by simp)]
        exact ⟨_, rfl, fun h => by simp at h; omega⟩
    · rw [if_neg (by omega), trommelref27_Much.j1, if_neg (by simp)]
      exact ⟨_, rfl, fun h2 => by simp at h2; exact ⟨by omega, fun q h3 => hq q (by omega)⟩⟩
theorem rd89_mem (cs : List S89) (c : S89) (h : c ∈ cs) : ∃ q, q < cs.length ∧ rd_T89 cs (q : Int) = c := by
  obtain ⟨q, hq, rfl⟩ := List.getElem_of_mem h
  exact ⟨q, hq, by unfold rd_T89; rw [Int.toNat_natCast, List.getD_eq_getElem?_getD, List.getElem?_eq_getElem hq]; rfl⟩
theorem rd87_mem (cs : List S87) (c : S87) (h : c ∈ cs) : ∃ q, q < cs.length ∧ rd_T87 cs (q : Int) = c := by
  obtain ⟨q, hq, rfl⟩ := List.getElem_of_mem h
  exact ⟨q, hq, by unfold rd_T87; rw [Int.toNat_natCast, List.getD_eq_getElem?_getD, List.getElem?_eq_getElem hq]; rfl⟩
def Small (cs : List S89) : Prop := cs.length ≤ 30 ∧ ∀ c ∈ cs, c.f2.length ≤ 60
theorem much27 (u : Int) (cs : List S89) (k : Nat) (hk : 100 ≤ k) : ∃ v, trommelref27_Much.f k u cs = some v ∧ (v = false → Small cs) := by
  obtain ⟨v, h1, h2⟩ := much_l0 u cs 41 0 rfl (Nat.zero_le _) (fun q h => by omega) k (by omega)
  refine ⟨v, h1, fun h => ?_⟩
  obtain ⟨h3, h4⟩ := h2 h
  refine ⟨h3, fun c hc => ?_⟩
  obtain ⟨q, hq, rfl⟩ := rd89_mem cs c hc
  exact h4 q hq
theorem much29_l0 (ss : List S87) : ∀ (j i : Nat), i + j = 21 → i ≤ ss.length → (∀ q, q < i → Small (rd_T87 ss (q : Int)).f1) → ∀ k, 2 * j + 110 ≤ k → ∃ v, trommelref29_Much.l0 k ss (i : Int) = some v ∧ (v = false → ss.length ≤ 16 ∧ ∀ q, q < ss.length → Small (rd_T87 ss (q : Int)).f1) := by
  intro j
  induction j with
  | zero =>
    intro i hi hc hq k hk
    obtain ⟨k, rfl⟩ : ∃ j, k = j + 1 + 1 := ⟨k - 2, by omega⟩
    rw [trommelref29_Much.l0]
    have e : (if (i : Int) < (ss.length : Int) then trommelref29_Much.j1 (k + 1) ss (i : Int) (decide ((i : Int) < 20)) else trommelref29_Much.j1 (k + 1) ss (i : Int) false) = trommelref29_Much.j1 (k + 1) ss (i : Int) false := by
      split
      · rw [decide_eq_false (by omega)]
      · rfl
    rw [e, trommelref29_Much.j1, if_neg (by simp)]
    exact ⟨_, rfl, fun h => by simp at h; omega⟩
  | succ j ih =>
    intro i hi hc hq k hk
    obtain ⟨k, rfl⟩ : ∃ j, k = j + 1 + 1 := ⟨k - 2, by omega⟩
    rw [trommelref29_Much.l0]
    by_cases h : i < ss.length
    · rw [if_pos (by omega)]
      by_cases h40 : i < 20
      · obtain ⟨v, m1, m2⟩ := much27 (rd_T87 ss (i : Int)).f0 (rd_T87 ss (i : Int)).f1 k (by omega)
        rw [decide_eq_true (by omega), trommelref29_Much.j1, if_pos rfl, if_pos (by omega), if_pos (by omega), m1, Option.bind_some]
        cases v with
        | true => rw [if_pos rfl]; exact ⟨true, rfl, fun h => by cases h⟩
        | false =>
          rw [if_neg (by simp), w64 _ (by omega) (by omega)]
          have := ih (i + 1) (by omega) (by omega) (fun q hq2 => by
            by_cases h3 : q = i
            · subst h3; exact m2 rfl
            · exact hq q (by omega)) k (by omega)
          exact this
      · rw [decide_eq_false (by omega), trommelref29_Much.j1, if_neg (by simp)]
        exact ⟨_, rfl, fun h => by simp at h; omega⟩
    · rw [if_neg (by omega), trommelref29_Much.j1, if_neg (by simp)]
      exact ⟨_, rfl, fun h2 => by simp at h2; exact ⟨by omega, fun q h3 => hq q (by omega)⟩⟩
theorem much_ask (ss : List S87) (fo : Bool) (a b c d e g : Int) (pk : List Int) (k : Nat) (hk : 200 ≤ k) : ∃ v, trommellaw39_much.f k ss fo a b c d e g pk = some v ∧ (v = false → pk.length ≤ 100 ∧ ss.length ≤ 16 ∧ ∀ s ∈ ss, Small s.f1) := by
  obtain ⟨v, m1, m2⟩ := much29_l0 ss 21 0 rfl (Nat.zero_le _) (fun q h => by omega) k (by omega)
  unfold trommellaw39_much.f trommelref29_Much.f
  rw [show ((0 : Nat) : Int) = 0 from rfl] at m1
  rw [m1, Option.bind_some]
  cases v with
  | true => rw [if_pos rfl]; exact ⟨true, rfl, fun h => by cases h⟩
  | false =>
    rw [if_neg (by simp)]
    refine ⟨_, rfl, fun h => ?_⟩
    simp at h
    obtain ⟨m3, m4⟩ := m2 rfl
    refine ⟨by omega, m3, fun s hs => ?_⟩
    obtain ⟨q, hq, rfl⟩ := rd87_mem ss s hs
    exact m4 q hq
end Go.Proofs.Ytobfhacdljmooaa.PCodeP
