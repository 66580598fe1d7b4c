/- What the document's printed functions tell of any bytes: which way to ask they are. -/
import Derived.Test.YtobfhacdljmooaaCA
import Derived.Test.YtobfhacdljmooaaCLQ
import Derived.Test.YtobfhacdljmooaaPCodePx14
set_option linter.unusedVariables false
set_option linter.unusedSimpArgs false
namespace Go.Proofs.Ytobfhacdljmooaa.PCodeP
open Go.RowKit Go.Proofs.YtobfhacdljmooaaW.PrintWords Go.Proofs.YtobfhacdljmooaaW.PrintLast Go.Proofs.Ytobfhacdljmooaa.CM

theorem rget_o (l : List Int) (at_ : Int) : getN l at_ = match getO l at_ with | some (n, x) => (n, x, true) | none => (0, 0, false) := by
  unfold getO
  by_cases h : (getN l at_).2.2 = true
  · rw [if_pos h]
    simp only
    rw [← h]
  · rw [if_neg h]; exact getN_false l at_ (Bool.eq_false_iff.mpr h)
theorem gI_some {l : List Int} {at_ : Int} {m : List Int} {e : Int} (h : intsN l at_ = some (m, e)) : gI l at_ = (m, e, true) := by unfold gI; rw [h]
theorem gI_none {l : List Int} {at_ : Int} (h : intsN l at_ = none) : gI l at_ = ([], 0, false) := by unfold gI; rw [h]
theorem rcol_eq (l : List Int) (hl : l.length < 1000000) (hb : Bytes l) (at_ : Int) (k : Nat) (hk : l.length + 60 ≤ k) : trommelref39_col.f k l at_ = some (match colN l at_ with | some (c, e) => (c.f0, c.f1, c.f2, e, true) | none => (0, 0, [], 0, false)) := by
  unfold trommelref39_col.f
  rw [rget_eq l hl hb at_ k (by omega), Option.bind_some, rget_eq l hl hb _ k (by omega), Option.bind_some, rgets_eq l hl hb _ k hk, Option.bind_some]
  rw [rget_o l at_]
  cases k1 : getO l at_ with
  | none => simp [colN, sq, k1]
  | some t =>
    obtain ⟨u, x⟩ := t
    simp only
    rw [rget_o l x]
    cases k2 : getO l x with
    | none => simp [colN, sq, k1, k2]
    | some t =>
      obtain ⟨n, y⟩ := t
      cases k3 : intsN l y with
      | none => rw [gI_none k3]; simp [colN, sq, k1, k2, k3]
      | some t =>
        obtain ⟨m, z⟩ := t
        rw [gI_some k3]; simp [colN, sq, k1, k2, k3]
theorem rstat_l0 (l : List Int) (hl : l.length < 1000000) (hb : Bytes l) (n : Nat) (hn : n < 2000000) (r : Int) : ∀ (j i : Nat) (acc : List S89) (at_ : Int), i + j = n → acc.length = i → ∀ k, j + l.length + 61 ≤ k →
    trommelref39_stat.l0 k l (n : Int) at_ (i : Int) r acc = some (match rep colN j l at_ with | some (m, e) => (r, acc ++ m, e, true) | none => (0, [], 0, false)) := by
  intro j
  induction j with
  | zero =>
    intro i acc at_ hi ha k hk
    obtain ⟨k, rfl⟩ : ∃ j, k = j + 1 := ⟨k - 1, by omega⟩
    simp only [trommelref39_stat.l0, rep]
    rw [if_neg (by omega), List.append_nil]
  | succ j ih =>
    intro i acc at_ hi ha k hk
    obtain ⟨k, rfl⟩ : ∃ j, k = j + 1 := ⟨k - 1, by omega⟩
    have hw : wrap64 ((i : Int) + 1) = ((i + 1 : Nat) : Int) := by rw [w64 _ (by omega) (by omega)]; omega
    simp only [trommelref39_stat.l0, rep]
    rw [if_pos (by omega), rcol_eq l hl hb at_ k (by omega), Option.bind_some]
    cases k1 : colN l at_ with
    | none => simp
    | some t =>
      obtain ⟨c, x⟩ := t
      simp only [if_true, Option.bind_some]
      rw [if_pos (by omega), hw, ih (i + 1) (acc ++ [(⟨c.f0, c.f1, c.f2⟩ : S89)]) x (by omega) (by rw [List.length_append]; simp [ha]) k (by omega)]
      cases hr : rep colN j l x with
      | none => rfl
      | some me => simp
theorem rstat_eq (l : List Int) (hl : l.length < 1000000) (hb : Bytes l) (at_ : Int) (k : Nat) (hk : 2 * l.length + 70 ≤ k) : trommelref39_stat.f k l at_ = some (match statN l at_ with | some (s, e) => (s.f0, s.f1, e, true) | none => (0, [], 0, false)) := by
  unfold trommelref39_stat.f
  rw [rget_eq l hl hb at_ k (by omega), Option.bind_some, rget_o l at_]
  cases k1 : getO l at_ with
  | none => simp [statN, sq, k1]
  | some t =>
    obtain ⟨u, x⟩ := t
    simp only [if_true]
    rw [rcount_eq l hl hb x k (by omega), Option.bind_some]
    cases k2 : countN l x with
    | none => simp [statN, sq, cnt, k1, k2]
    | some t =>
      obtain ⟨n, y⟩ := t
      have hn := count_le l hb x n y k2
      simp only [if_true]
      have := rstat_l0 l hl hb n (by omega) u n 0 [] y (by omega) rfl k (by omega)
      rw [show ((0 : Nat) : Int) = 0 from rfl] at this
      rw [this]
      cases k3 : rep colN n l y with
      | none => simp [statN, sq, cnt, k1, k2, k3]
      | some t => simp [statN, sq, cnt, k1, k2, k3]
theorem rGet_l1 (l : List Int) (hl : l.length < 1000000) (hb : Bytes l) (n : Nat) (hn : n < 2000000) (fo : Bool) (a b c d e g : Int) (pk : List Int) : ∀ (j i : Nat) (acc : List S87) (at_ : Int), i + j = n → acc.length = i → ∀ k, j + 2 * l.length + 71 ≤ k →
    trommelref39_Get.l1 k l (n : Int) at_ (i : Int) acc fo a b c d e g pk = some (match rep statN j l at_ with | some (m, x) => if x = (l.length : Int) then (acc ++ m, fo, a, b, c, d, e, g, pk, 0) else err | none => err) := by
  intro j
  induction j with
  | zero =>
    intro i acc at_ hi ha k hk
    obtain ⟨k, rfl⟩ : ∃ j, k = j + 1 := ⟨k - 1, by omega⟩
    simp only [trommelref39_Get.l1, rep]
    rw [if_neg (by omega), List.append_nil]
    by_cases h : at_ = (l.length : Int)
    · rw [if_pos h, if_pos h]
    · rw [if_neg h, if_neg h]; rfl
  | succ j ih =>
    intro i acc at_ hi ha k hk
    obtain ⟨k, rfl⟩ : ∃ j, k = j + 1 := ⟨k - 1, by omega⟩
    have hw : wrap64 ((i : Int) + 1) = ((i + 1 : Nat) : Int) := by rw [w64 _ (by omega) (by omega)]; omega
    simp only [trommelref39_Get.l1, rep]
    rw [if_pos (by omega), rstat_eq l hl hb at_ k (by omega), Option.bind_some]
    cases k1 : statN l at_ with
    | none => simp [err]
    | some t =>
      obtain ⟨s, x⟩ := t
      simp only [if_true, Option.bind_some]
      rw [if_pos (by omega), hw, ih (i + 1) (acc ++ [(⟨s.f0, s.f1⟩ : S87)]) x (by omega) (by rw [List.length_append]; simp [ha]) k (by omega)]
      cases hr : rep statN j l x with
      | none => rfl
      | some me => simp
theorem rGet_l0 (l : List Int) (hl : l.length < 1000000) (hb : Bytes l) (acc : List Int) (ha : acc.length < 100) (at_ i : Int) (h0 : 0 ≤ i) (hi : i < 7) (k : Nat) (hk : 60 ≤ k) : trommelref39_Get.l0 (k + 1) l acc at_ i = match getO l at_ with | some (n, x) => trommelref39_Get.l0 k l (acc ++ [n]) x (i + 1) | none => some err := by
  simp only [trommelref39_Get.l0]
  rw [if_pos hi, rget_eq l hl hb at_ k (by omega), Option.bind_some, rget_o l at_]
  cases k1 : getO l at_ with
  | none => simp [err]
  | some t =>
    simp only [if_true]
    rw [if_pos (by omega), w64 _ (by omega) (by omega)]
theorem rGet_end (l : List Int) (hl : l.length < 1000000) (hb : Bytes l) (f a b c d e g at_ : Int) (k : Nat) (hk : 4 * l.length + 100 ≤ k) : trommelref39_Get.l0 (k + 1) l [f, a, b, c, d, e, g] at_ 7 = some (match sq intsN (cnt statN) l at_ with | some ((pk, ss), x) => fin l f ss (f == 1) a b c d e g pk x false | none => err) := by
  obtain ⟨k, rfl⟩ : ∃ j, k = j + 1 := ⟨k - 1, by omega⟩
  simp only [trommelref39_Get.l0]
  rw [if_neg (by omega), rgets_eq l hl hb at_ (k + 1) (by omega), Option.bind_some]
  cases k1 : intsN l at_ with
  | none =>
    rw [gI_none k1]
    simp only [trommelref39_Get.j1, if_true, sq, k1, Option.bind_none]
    simp [err]
  | some t =>
    obtain ⟨pk, x⟩ := t
    rw [gI_some k1]
    simp only [if_true]
    have r0 : rd [f, a, b, c, d, e, g] 0 = f := rfl
    rw [if_pos (by simp), r0]
    have J : trommelref39_Get.j1 (k + 1) l [f, a, b, c, d, e, g] pk x true = some err := by simp only [trommelref39_Get.j1, if_true]; rfl
    have N : trommelref39_Get.j1 (k + 1) l [f, a, b, c, d, e, g] pk x false = some (match cnt statN l x with | some (ss, y) => if y = (l.length : Int) then (ss, f == 1, a, b, c, d, e, g, pk, 0) else err | none => err) := by
      simp only [trommelref39_Get.j1]
      rw [if_neg (by simp), if_pos (by simp), if_pos (by simp), if_pos (by simp), if_pos (by simp), if_pos (by simp), if_pos (by simp), if_pos (by simp)]
      rw [rcount_eq l hl hb x k (by omega), Option.bind_some]
      cases k2 : countN l x with
      | none => simp [cnt, k2, err]
      | some t =>
        obtain ⟨n, y⟩ := t
        have hn := count_le l hb x n y k2
        simp only [if_true]
        have := rGet_l1 l hl hb n (by omega) (f == 1) a b c d e g pk n 0 [] y (by omega) rfl k (by omega)
        simp only [cnt, k2, Option.bind_some]
        simp only [List.nil_append] at this
        exact this
    have S : sq intsN (cnt statN) l at_ = (cnt statN l x).bind fun u => some ((pk, u.1), u.2) := by rw [sq, k1, Option.bind_some]
    rw [S]
    by_cases c1 : f < 0
    · rw [if_pos c1, J]
      cases cnt statN l x with
      | none => rfl
      | some t => simp only [Option.bind_some, fin]; rw [if_neg (by simp), if_pos c1]
    · rw [if_neg c1]
      by_cases c2 : f > 1
      · rw [decide_eq_true c2, J]
        cases cnt statN l x with
        | none => rfl
        | some t => simp only [Option.bind_some, fin]; rw [if_neg (by simp), if_neg c1, if_pos c2]
      · rw [decide_eq_false c2, N]
        cases cnt statN l x with
        | none => rfl
        | some t =>
          obtain ⟨ss, y⟩ := t
          simp only [Option.bind_some, fin]
          rw [if_neg (show ¬ (false = true) by simp), if_neg c1, if_neg c2]
theorem refGet_eq (l : List Int) (hl : l.length < 1000000) (hb : Bytes l) (k : Nat) (hk : 4 * l.length + 200 ≤ k) : trommelref39_Get.f k l = some (res (askN l)) := by
  have hc := codeGet_eq l hl hb k (by omega)
  obtain ⟨k', rfl⟩ : ∃ j, k = j + 8 := ⟨k - 8, by omega⟩
  rw [← hc]
  unfold trommelref39_Get.f code_Get.f fake_mk.f
  have B := rd_int_bad l hl hb
  have T := fun (at_ f : Int) (fo : Bool) (a b c d e g : Int) => tail_bad l hl hb at_ f fo a b c d e g (k' + 8) (by omega)
  rw [Option.bind_some, rGet_l0 l hl hb [] (by simp) 0 0 (by omega) (by omega) (k' + 7) (by omega)]
  simp only
  cases h0 : getO l 0 with
  | none => rw [rd_int_none l hl hb _ h0]; simp only [Option.bind_some, B, T]
  | some t =>
  obtain ⟨f, x0⟩ := t
  rw [rd_int_some l hl hb _ _ _ h0]
  simp only [Option.bind_some]
  rw [rGet_l0 l hl hb ([] ++ [f]) (by simp) x0 (0 + 1) (by omega) (by omega) (k' + 6) (by omega)]
  cases h1 : getO l x0 with
  | none => rw [rd_int_none l hl hb _ h1]; simp only [Option.bind_some, B, T]
  | some t =>
  obtain ⟨a, x1⟩ := t
  rw [rd_int_some l hl hb _ _ _ h1]
  simp only [Option.bind_some]
  rw [rGet_l0 l hl hb _ (by simp) x1 _ (by omega) (by omega) (k' + 5) (by omega)]
  cases h2 : getO l x1 with
  | none => rw [rd_int_none l hl hb _ h2]; simp only [Option.bind_some, B, T]
  | some t =>
  obtain ⟨b, x2⟩ := t
  rw [rd_int_some l hl hb _ _ _ h2]
  simp only [Option.bind_some]
  rw [rGet_l0 l hl hb _ (by simp) x2 _ (by omega) (by omega) (k' + 4) (by omega)]
  cases h3 : getO l x2 with
  | none => rw [rd_int_none l hl hb _ h3]; simp only [Option.bind_some, B, T]
  | some t =>
  obtain ⟨c, x3⟩ := t
  rw [rd_int_some l hl hb _ _ _ h3]
  simp only [Option.bind_some]
  rw [rGet_l0 l hl hb _ (by simp) x3 _ (by omega) (by omega) (k' + 3) (by omega)]
  cases h4 : getO l x3 with
  | none => rw [rd_int_none l hl hb _ h4]; simp only [Option.bind_some, B, T]
  | some t =>
  obtain ⟨d, x4⟩ := t
  rw [rd_int_some l hl hb _ _ _ h4]
  simp only [Option.bind_some]
  rw [rGet_l0 l hl hb _ (by simp) x4 _ (by omega) (by omega) (k' + 2) (by omega)]
  cases h5 : getO l x4 with
  | none => rw [rd_int_none l hl hb _ h5]; simp only [Option.bind_some, B, T]
  | some t =>
  obtain ⟨e, x5⟩ := t
  rw [rd_int_some l hl hb _ _ _ h5]
  simp only [Option.bind_some]
  rw [rGet_l0 l hl hb _ (by simp) x5 _ (by omega) (by omega) (k' + 1) (by omega)]
  cases h6 : getO l x5 with
  | none => rw [rd_int_none l hl hb _ h6]; simp only [Option.bind_some, B, T]
  | some t =>
  obtain ⟨g, x6⟩ := t
  rw [rd_int_some l hl hb _ _ _ h6]
  simp only [Option.bind_some]
  rw [tail_ok l hl hb x6 f (f == 1) a b c d e g (k' + 8) (by omega)]
  have := rGet_end l hl hb f a b c d e g x6 k' (by omega)
  show trommelref39_Get.l0 (k' + 1) l [f, a, b, c, d, e, g] x6 7 = _
  exact this
end Go.Proofs.Ytobfhacdljmooaa.PCodeP
