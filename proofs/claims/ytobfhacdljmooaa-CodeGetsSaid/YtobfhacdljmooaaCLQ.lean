/- Plain laws of the printed functions of numbers as bytes: what they tell. -/
import Derived.Test.YtobfhacdljmooaaCLP
import Derived.Test.YtobfhacdljmooaaPCodePx13
set_option linter.unusedVariables false
set_option linter.unusedSimpArgs false
namespace Go.Proofs.Ytobfhacdljmooaa.PCodeP
open Go.RowKit Go.Proofs.YtobfhacdljmooaaW.PrintWords Go.Proofs.YtobfhacdljmooaaW.PrintLast Go.Proofs.Ytobfhacdljmooaa.CM

/-- how many bytes from the head on are above 127, at most f -/
def run : Nat → List Int → Nat
  | 0, _ => 0
  | _ + 1, [] => 0
  | f + 1, c :: r => if 127 < c then run f r + 1 else 0
theorem run_le (f : Nat) : ∀ L, run f L ≤ f ∧ run f L ≤ L.length := by
  induction f with
  | zero => intro L; simp [run]
  | succ f ih =>
    intro L
    cases L with
    | nil => simp [run]
    | cons c r =>
      have := ih r
      simp only [run, List.length_cons]
      split <;> omega
theorem run_form (f : Nat) (p : List Int) (c : Int) (r : List Int) : (∀ x ∈ p, 127 < x) → c ≤ 127 → p.length < f → run f (p ++ c :: r) = p.length := by
  induction f generalizing p with
  | zero => intro _ _ h; omega
  | succ f ih =>
    intro hp hc hf
    cases p with
    | nil => simp only [List.nil_append, run]; rw [if_neg (by omega)]; rfl
    | cons x p =>
      simp only [List.cons_append, run, List.length_cons] at hf ⊢
      rw [if_pos (hp x List.mem_cons_self), ih p (fun y hy => hp y (List.mem_cons_of_mem _ hy)) hc (by omega)]
theorem rget_l0 (l : List Int) (hl : l.length < 1000000) (m : Nat) : ∀ (f j : Nat), j + f = 10 → m + j ≤ l.length → ∀ k, trommelref39_GetInt.l0 (k + run f (l.drop (m + j)) + 1) l (m : Int) ((m + j : Nat) : Int) = trommelref39_GetInt.j2 k l (m : Int) ((m + j + run f (l.drop (m + j)) : Nat) : Int) := by
  intro f
  induction f with
  | zero =>
    intro j hj hm k
    simp only [run, Nat.add_zero]
    simp only [trommelref39_GetInt.l0]
    rw [w64 _ (by omega) (by omega)]
    split
    · rw [if_neg (by omega)]
    · rfl
  | succ f ih =>
    intro j hj hm k
    by_cases h1 : m + j = l.length
    · rw [List.drop_eq_nil_of_le (by omega)]
      simp only [run, Nat.add_zero]
      simp only [trommelref39_GetInt.l0]
      rw [if_neg (by omega)]
    · have hd : l.drop (m + j) = rd l ((m + j : Nat) : Int) :: l.drop (m + (j + 1)) := by
        rw [List.drop_eq_getElem_cons (by omega)]
        congr 1
        unfold rd
        rw [List.getD_eq_getElem?_getD, Int.toNat_natCast, List.getElem?_eq_getElem (by omega)]; rfl
      rw [hd]
      simp only [run]
      by_cases h2 : 127 < rd l ((m + j : Nat) : Int)
      · rw [if_pos h2]
        have h := ih (j + 1) (by omega) (by omega) k
        rw [show k + (run f (l.drop (m + (j + 1))) + 1) + 1 = (k + run f (l.drop (m + (j + 1))) + 1) + 1 by omega]
        rw [show m + j + (run f (l.drop (m + (j + 1))) + 1) = m + (j + 1) + run f (l.drop (m + (j + 1))) by omega, ← h]
        generalize run f (l.drop (m + (j + 1))) = R
        rw [trommelref39_GetInt.l0]
        rw [if_pos (by omega), if_pos (by rw [w64 _ (by omega) (by omega)]; omega), if_pos (by omega), if_pos h2]
        congr 1
        rw [w64 _ (by omega) (by omega)]; omega
      · rw [if_neg h2]
        simp only [Nat.add_zero]
        simp only [trommelref39_GetInt.l0]
        rw [if_pos (by omega), if_pos (by rw [w64 _ (by omega) (by omega)]; omega), if_pos (by omega), if_neg h2]
theorem val_snoc (D : List Int) (c : Int) : val (D ++ [c]) = val D + 128 ^ D.length * (c.toNat % 128) := by
  induction D with
  | nil => simp [val]
  | cons x D ih =>
    simp only [List.cons_append, val, ih, List.length_cons, Nat.pow_succ]
    rw [Nat.mul_add, ← Nat.mul_assoc, Nat.mul_comm 128 (128 ^ _)]
    omega
theorem mod_in (a b v M : Nat) : (a % M * b + v) % M = (a * b + v) % M := by
  rw [Nat.add_mod, Nat.mod_mul_mod, ← Nat.add_mod]
theorem rget_l1 (l : List Int) (hl : l.length < 1000000) (hb : Bytes l) (m e : Nat) : ∀ (j : Nat), m + j ≤ l.length → ∀ (z : Nat) (k : Nat), z < 18446744073709551616 → trommelref39_GetInt.l1 (k + j + 1) l (m : Int) (e : Int) (z : Int) ((m : Int) + (j : Int) - 1) = trommelref39_GetInt.l1 (k + 1) l (m : Int) (e : Int) ((((z * 128 ^ j + val ((l.drop m).take j)) % 18446744073709551616 : Nat) : Int)) ((m : Int) - 1) := by
  intro j
  induction j with
  | zero => intro _ z k hz; simp only [List.take_zero, val, Nat.pow_zero, Nat.mul_one, Nat.add_zero]; rw [Nat.mod_eq_of_lt hz]; simp
  | succ j ih =>
    intro hm z k hz
    have hg : (l.drop m)[j]? = some (rd l ((m + j : Nat) : Int)) := by
      rw [List.getElem?_drop]
      unfold rd
      rw [List.getD_eq_getElem?_getD, Int.toNat_natCast, List.getElem?_eq_getElem (by omega)]; rfl
    have hy := hb (rd l ((m + j : Nat) : Int)) (List.mem_of_mem_drop (List.mem_of_getElem? hg))
    have ht : (l.drop m).take (j + 1) = (l.drop m).take j ++ [rd l ((m + j : Nat) : Int)] := by
      rw [List.take_add_one, hg]; rfl
    have hv : val ((l.drop m).take (j + 1)) = val ((l.drop m).take j) + 128 ^ j * ((rd l ((m + j : Nat) : Int)).toNat % 128) := by
      rw [ht, val_snoc, List.length_take, List.length_drop, Nat.min_eq_left (by omega)]
    rw [show k + (j + 1) + 1 = (k + j + 1) + 1 by omega, trommelref39_GetInt.l1]
    rw [show ((m : Int) + ((j + 1 : Nat) : Int) - 1) = ((m + j : Nat) : Int) by omega]
    rw [if_pos (by omega), if_pos (by omega), if_pos (by omega), w64 _ (by omega) (by omega)]
    generalize rd l ((m + j : Nat) : Int) = y at *
    have e1 : IntKind.u64.wrap ((IntKind.u64.wrap ((z : Int) * 128)) + (IntKind.u64.wrap (Int.tmod y 128))) = (((z * 128 + y.toNat % 128) % 18446744073709551616 : Nat) : Int) := by
      rw [Int.tmod_eq_emod_of_nonneg hy.1]
      simp [IntKind.wrap, IntKind.bits, IntKind.signed]
      omega
    rw [e1, show ((m + j : Nat) : Int) - 1 = (m : Int) + (j : Int) - 1 by omega, ih (by omega) _ k (Nat.mod_lt _ (by decide)), mod_in, hv, Nat.add_mul]
    congr 3
    rw [Nat.pow_succ, Nat.mul_assoc z, Nat.mul_comm 128, Nat.mul_comm (128 ^ j) (y.toNat % 128)]
    omega
theorem rget_fin (l : List Int) (hl : l.length < 1000000) (hb : Bytes l) (m e : Nat) (hm : m ≤ e) (he : e < l.length) (z : Nat) (hz : z < 18446744073709551616) (k : Nat) : trommelref39_GetInt.l1 (k + 1) l (m : Int) (e : Int) (z : Int) ((m : Int) - 1) = some (if enc z = (l.take (e + 1)).drop m then (unzig z, (e : Int) + 1, true) else (0, 0, false)) := by
  have hU := unzig_in z hz
  have hE : encI (unzig z) = enc z := by unfold encI; rw [zig_unzig]
  have hs := str_eq (enc_bytes z) (show Bytes ((l.take (e + 1)).drop m) from fun x hx => hb x (List.mem_of_mem_take (List.mem_of_mem_drop hx)))
  have ew : wrap64 ((e : Int) + 1) = ((e + 1 : Nat) : Int) := by rw [w64 _ (by omega) (by omega)]; omega
  simp only [trommelref39_GetInt.l1]
  rw [if_neg (by omega), ew]
  by_cases h2 : z % 2 = 0
  · have e1 : wrap64 (IntKind.u64.wrap (Int.tdiv (z : Int) 2)) = unzig z := by
      unfold unzig; rw [if_pos h2, Int.tdiv_eq_ediv_of_nonneg (by omega)]
      simp [IntKind.wrap, IntKind.bits, IntKind.signed, wrap64]; omega
    rw [if_neg (by rw [Int.tmod_eq_emod_of_nonneg (by omega)]; omega), e1, rint_eq _ hU, Option.bind_some, if_pos (by omega), if_pos (by omega), if_pos (by omega), hE]
    simp only [Int.toNat_natCast]
    by_cases h3 : enc z = (l.take (e + 1)).drop m
    · rw [if_pos (hs.2 h3), if_pos h3]; rfl
    · rw [if_neg (fun h => h3 (hs.1 h)), if_neg h3]
  · have e1 : wrap64 ((wrap64 (-(wrap64 (IntKind.u64.wrap (Int.tdiv (z : Int) 2))))) - 1) = unzig z := by
      unfold unzig; rw [if_neg h2, Int.tdiv_eq_ediv_of_nonneg (by omega)]
      simp [IntKind.wrap, IntKind.bits, IntKind.signed, wrap64]; omega
    rw [if_pos (by rw [Int.tmod_eq_emod_of_nonneg (by omega)]; omega), e1, rint_eq _ hU, Option.bind_some, if_pos (by omega), if_pos (by omega), if_pos (by omega), hE]
    simp only [Int.toNat_natCast]
    by_cases h3 : enc z = (l.take (e + 1)).drop m
    · rw [if_pos (hs.2 h3), if_pos h3]; rfl
    · rw [if_neg (fun h => h3 (hs.1 h)), if_neg h3]
theorem rget_eq (l : List Int) (hl : l.length < 1000000) (hb : Bytes l) (at_ : Int) (k : Nat) (hk : 40 ≤ k) : trommelref39_GetInt.f k l at_ = some (getN l at_) := by
  obtain ⟨k, rfl⟩ : ∃ j, k = j + 1 := ⟨k - 1, by omega⟩
  unfold trommelref39_GetInt.f
  by_cases h0 : at_ < 0
  · rw [if_pos h0]
    simp only [trommelref39_GetInt.j0, if_true]
    unfold getN; rw [if_pos (.inl h0)]
  · rw [if_neg h0]
    by_cases h1 : at_ ≥ (l.length : Int)
    · rw [decide_eq_true h1]
      simp only [trommelref39_GetInt.j0, if_true]
      unfold getN
      by_cases h2 : at_ = (l.length : Int)
      · rw [if_neg (by omega), List.drop_eq_nil_of_le (by omega)]; rfl
      · rw [if_pos (by omega)]
    · rw [decide_eq_false h1]
      obtain ⟨m, rfl⟩ := Int.eq_ofNat_of_zero_le (show 0 ≤ at_ by omega)
      simp only [trommelref39_GetInt.j0]
      rw [if_neg (by simp)]
      have hR := run_le 10 (l.drop (m + 0))
      rw [Nat.add_zero] at hR
      rw [List.length_drop] at hR
      obtain ⟨k', rfl⟩ : ∃ k', k = (k' + 20) + run 10 (l.drop (m + 0)) + 1 := ⟨k - 21 - run 10 (l.drop (m + 0)), by simp only [Nat.add_zero]; omega⟩
      have h2 := rget_l0 l hl m 10 0 rfl (by omega) (k' + 20)
      simp only [Nat.add_zero] at h2 ⊢
      rw [h2]
      have hG : getN l (m : Int) = match getZ 0 0 (l.drop m) with | none => (0, 0, false) | some (z, n) => (unzig z, (m : Int) + n, true) := by
        unfold getN; rw [if_neg (by omega)]; rfl
      obtain ⟨R, hRe⟩ : ∃ R, run 10 (l.drop m) = R := ⟨_, rfl⟩
      rw [hRe] at hR ⊢
      rw [show k' + 20 = (k' + 19) + 1 from rfl]
      simp only [trommelref39_GetInt.j2]
      rw [w64 _ (by omega) (by omega)]
      have hF : ∀ (z n : Nat), getZ 0 0 (l.drop m) = some (z, n) → ∃ r, l.drop m = enc z ++ r ∧ n = (enc z).length ∧ R + 1 = (enc z).length ∧ R < 10 ∧ z < 18446744073709551616 := by
        intro z n h
        obtain ⟨y, r, e1, e2, e3, _, e5⟩ := getZ_inv _ 0 0 z n (fun x hx => hb x (List.mem_of_mem_drop hx)) h
        simp only [Nat.pow_zero, Nat.mul_one, Nat.zero_add] at e2 e3 e5
        subst e2
        have hz := e5 (by omega)
        obtain ⟨p, c, f1, f2, f3⟩ := enc_form z
        have f4 := enc_ten z hz
        rw [f1] at f4
        simp only [List.length_append, List.length_cons, List.length_nil] at f4
        have f5 := run_form 10 p c r f2 f3 (by omega)
        rw [e1, f1, List.append_assoc, List.singleton_append, f5] at hRe
        refine ⟨r, e1, e3, ?_, by omega, hz⟩
        rw [f1]; simp only [List.length_append, List.length_cons, List.length_nil]; omega
      by_cases h3 : m + R = l.length
      · rw [if_pos (by omega)]
        simp only [trommelref39_GetInt.j3, if_true]
        rw [hG]
        cases hg : getZ 0 0 (l.drop m) with
        | none => rfl
        | some zn =>
          obtain ⟨r, g1, g2, g3, _⟩ := hF zn.1 zn.2 hg
          have g5 := congrArg List.length g1
          rw [List.length_drop, List.length_append] at g5
          omega
      · rw [if_neg (by omega)]
        rw [show k' + 19 = (k' + 18) + 1 from rfl]
        simp only [trommelref39_GetInt.j3]
        by_cases h4 : R = 10
        · rw [if_pos (by rw [beq_iff_eq]; omega)]
          rw [hG]
          cases hg : getZ 0 0 (l.drop m) with
          | none => rfl
          | some zn =>
            obtain ⟨r, g1, g2, g3, g4, _⟩ := hF zn.1 zn.2 hg
            omega
        · rw [if_neg (by rw [beq_iff_eq]; omega)]
          have h5 := rget_l1 l hl hb m (m + R) (R + 1) (by omega) 0 (k' + 17 - (R + 1)) (by omega)
          rw [show k' + 17 - (R + 1) + (R + 1) + 1 = k' + 18 by omega, show (m : Int) + ((R + 1 : Nat) : Int) - 1 = ((m + R : Nat) : Int) by omega] at h5
          rw [show ((0 : Nat) : Int) = 0 from rfl] at h5
          rw [h5]
          have hlt : (0 * 128 ^ (R + 1) + val ((l.drop m).take (R + 1))) % 18446744073709551616 < 18446744073709551616 := Nat.mod_lt _ (by decide)
          rw [rget_fin l hl hb m (m + R) (by omega) (by omega) _ hlt]
          congr 1
          have hD : (l.take (m + R + 1)).drop m = (l.drop m).take (R + 1) := by rw [List.drop_take]; congr 1; omega
          rw [hD, hG]
          cases hg : getZ 0 0 (l.drop m) with
          | none =>
            rw [if_neg]
            intro h6
            generalize (0 * 128 ^ (R + 1) + val ((l.drop m).take (R + 1))) % 18446744073709551616 = z at hlt h6
            have h7 := getZ_enc z 0 0 ((l.drop m).drop (R + 1)) (by omega) (fun h => absurd h (by omega))
            rw [h6, List.take_append_drop, hg] at h7
            cases h7
          | some zn =>
            obtain ⟨z, n⟩ := zn
            obtain ⟨r, g1, g2, g3, g4, g5⟩ := hF z n hg
            have h6 : (l.drop m).take (R + 1) = enc z := by rw [g1, g3, List.take_left]
            rw [h6, val_enc, Nat.zero_mul, Nat.zero_add, Nat.mod_eq_of_lt g5, if_pos rfl]
            simp only
            congr 2
            omega
theorem rcount_eq (l : List Int) (hl : l.length < 1000000) (hb : Bytes l) (at_ : Int) (k : Nat) (hk : 40 ≤ k) : trommelref39_Count.f k l at_ = some (match countN l at_ with | some (n, x) => ((n : Int), x, true) | none => (0, 0, false)) := by
  unfold trommelref39_Count.f
  rw [rget_eq l hl hb at_ k hk, Option.bind_some]
  unfold countN
  by_cases hk2 : (getN l at_).2.2 = true
  · have ho := getN_ok l hb at_ hk2
    rw [if_pos hk2, if_pos hk2]
    generalize (getN l at_).1 = a at *
    generalize (getN l at_).2.1 = c at *
    by_cases h1 : a < 0
    · rw [if_pos h1, if_pos h1]
    · rw [if_neg h1, if_neg h1, w64 _ (by omega) (by omega)]
      by_cases h2 : a > (l.length : Int) - c
      · rw [if_pos h2, if_pos h2]
      · rw [if_neg h2, if_neg h2]
        simp only
        rw [Int.toNat_of_nonneg (by omega)]
  · rw [if_neg hk2, if_neg hk2]
theorem rgets_l0 (l : List Int) (hl : l.length < 1000000) (hb : Bytes l) (n : Nat) (hn : n < 2000000) : ∀ (j i : Nat) (acc : List Int) (at_ : Int), i + j = n → acc.length = i → ∀ k, j + 50 ≤ k →
    trommelref39_GetInts.l0 k l (n : Int) at_ acc (i : Int) = some (match getNs j l at_ with | some (m, e) => (acc ++ m, e, true) | none => ([], 0, false)) := by
  intro j
  induction j with
  | zero =>
    intro i acc at_ hi ha k hk
    obtain ⟨k, rfl⟩ : ∃ j, k = j + 1 := ⟨k - 1, by omega⟩
    simp only [trommelref39_GetInts.l0, getNs]
    rw [if_neg (by omega), List.append_nil]
  | succ j ih =>
    intro i acc at_ hi ha k hk
    obtain ⟨k, rfl⟩ : ∃ j, k = j + 1 := ⟨k - 1, by omega⟩
    have hw : wrap64 ((i : Int) + 1) = ((i + 1 : Nat) : Int) := by rw [w64 _ (by omega) (by omega)]; omega
    simp only [trommelref39_GetInts.l0, getNs]
    rw [if_pos (by omega), rget_eq l hl hb at_ k (by omega), Option.bind_some]
    by_cases hk2 : (getN l at_).2.2 = true
    · rw [if_pos hk2, if_pos hk2, if_pos (by omega), hw, ih (i + 1) (acc ++ [(getN l at_).1]) (getN l at_).2.1 (by omega) (by rw [List.length_append]; simp [ha]) k (by omega)]
      cases hr : getNs j l (getN l at_).2.1 with
      | none => rfl
      | some me => simp
    · rw [if_neg hk2, if_neg hk2]
theorem rgets_eq (l : List Int) (hl : l.length < 1000000) (hb : Bytes l) (at_ : Int) (k : Nat) (hk : l.length + 60 ≤ k) : trommelref39_GetInts.f k l at_ = some (gI l at_) := by
  unfold trommelref39_GetInts.f gI intsN
  rw [rcount_eq l hl hb at_ k (by omega), Option.bind_some]
  cases hc : countN l at_ with
  | none => simp
  | some t =>
    obtain ⟨n, x⟩ := t
    obtain ⟨p, r, i1, i2, i3, i4, i5⟩ := countN_inv l hb at_ n x hc
    have hn : n ≤ l.length := by rw [i1]; simp only [List.length_append]; omega
    simp only [if_true]
    have := rgets_l0 l hl hb n (by omega) n 0 [] x (by omega) rfl k (by omega)
    simp only [List.nil_append] at this
    exact this
end Go.Proofs.Ytobfhacdljmooaa.PCodeP
