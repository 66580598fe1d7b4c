/- Plain laws of things as bytes: what is put is got again, and what is got stands there; one after the other, and many. -/
import Derived.Test.YtobfhacdljmooaaCM2
set_option linter.unusedVariables false
set_option linter.unusedSimpArgs false
namespace Go.Proofs.Ytobfhacdljmooaa.CM

/-- a way to get a thing from a place on, and to put it -/
structure Fmt {α : Type} (g : List Int → Int → Option (α × Int)) (e : α → List Int) (ok : α → Prop) : Prop where
  enc : ∀ a, ok a → ∀ (p r : List Int) (at_ : Int), at_ = (p.length : Int) → g (p ++ (e a ++ r)) at_ = some (a, at_ + ((e a).length : Int))
  inv : ∀ (l : List Int), Bytes l → ∀ (at_ : Int) (a : α) (x : Int), 0 ≤ at_ → at_ ≤ l.length → g l at_ = some (a, x) → ok a ∧ ∃ p r, l = p ++ (e a ++ r) ∧ at_ = (p.length : Int) ∧ x = at_ + ((e a).length : Int)
theorem Fmt.le {α : Type} {g : List Int → Int → Option (α × Int)} {e : α → List Int} {ok : α → Prop} (F : Fmt g e ok) {l : List Int} (hl : Bytes l) {at_ : Int} {a : α} {x : Int} (h0 : 0 ≤ at_) (h1 : at_ ≤ l.length) (h : g l at_ = some (a, x)) : at_ ≤ x ∧ x ≤ l.length := by
  obtain ⟨_, p, r, rfl, h2, h3⟩ := F.inv l hl at_ a x h0 h1 h
  simp only [List.length_append]
  omega
/-- one after the other -/
def sq {α β : Type} (g1 : List Int → Int → Option (α × Int)) (g2 : List Int → Int → Option (β × Int)) (l : List Int) (at_ : Int) : Option ((α × β) × Int) := (g1 l at_).bind fun t => (g2 l t.2).bind fun u => some ((t.1, u.1), u.2)
theorem Fmt.sq {α β : Type} {g1 : List Int → Int → Option (α × Int)} {g2 : List Int → Int → Option (β × Int)} {e1 : α → List Int} {e2 : β → List Int} {o1 : α → Prop} {o2 : β → Prop} (F1 : Fmt g1 e1 o1) (F2 : Fmt g2 e2 o2) :
    Fmt (sq g1 g2) (fun c => e1 c.1 ++ e2 c.2) (fun c => o1 c.1 ∧ o2 c.2) where
  enc := by
    rintro ⟨a, b⟩ ⟨h1, h2⟩ p r at_ ha
    have e : p ++ (e1 a ++ e2 b ++ r) = p ++ (e1 a ++ (e2 b ++ r)) := by rw [List.append_assoc]
    have k1 := F1.enc a h1 p (e2 b ++ r) at_ ha
    have k2 := F2.enc b h2 (p ++ e1 a) r (at_ + ((e1 a).length : Int)) (by rw [List.length_append]; omega)
    rw [List.append_assoc] at k2
    simp only [CM.sq]
    rw [e, k1, Option.bind_some, k2, Option.bind_some, List.length_append]
    congr 2
    omega
  inv := by
    rintro l hl at_ ⟨a, b⟩ x h0 h1 h
    simp only [CM.sq] at h
    obtain ⟨⟨a', y⟩, k1, h⟩ := Option.bind_eq_some_iff.mp h
    obtain ⟨⟨b', z⟩, k2, h⟩ := Option.bind_eq_some_iff.mp h
    simp only [Option.some.injEq, Prod.mk.injEq] at h
    obtain ⟨⟨rfl, rfl⟩, rfl⟩ := h
    obtain ⟨i1, p, r, i2, i3, i4⟩ := F1.inv l hl at_ a' y h0 h1 k1
    have hy := F1.le hl h0 h1 k1
    obtain ⟨j1, p2, r2, j2, j3, j4⟩ := F2.inv l hl y b' z (by omega) hy.2 k2
    refine ⟨⟨i1, j1⟩, p, r2, ?_, i3, by show z = at_ + ((e1 a' ++ e2 b').length : Int); rw [List.length_append]; omega⟩
    have h5 : p2 = p ++ e1 a' := by
      have h6 : l = (p ++ e1 a') ++ r := by rw [List.append_assoc]; exact i2
      have h7 := congrArg (List.take p2.length) h6
      rw [j2, List.take_left] at h7
      rw [h7]
      have : p2.length = (p ++ e1 a').length := by rw [List.length_append]; omega
      rw [this, List.take_left]
    rw [j2, h5]; simp
/-- the same under other names -/
theorem Fmt.map {α β : Type} {g : List Int → Int → Option (α × Int)} {e : α → List Int} {ok : α → Prop} (F : Fmt g e ok) (f : α → β) (f' : β → α) (h1 : ∀ a, f' (f a) = a) (h2 : ∀ b, f (f' b) = b) :
    Fmt (fun l at_ => (g l at_).map fun t => (f t.1, t.2)) (fun b => e (f' b)) (fun b => ok (f' b)) where
  enc := by
    intro b hb p r at_ ha
    show ((g (p ++ (e (f' b) ++ r)) at_).map fun t => (f t.1, t.2)) = _
    rw [F.enc (f' b) hb p r at_ ha]
    simp [h2]
  inv := by
    intro l hl at_ b x h0 hx h
    simp only [Option.map_eq_some_iff] at h
    obtain ⟨⟨a, y⟩, k1, h⟩ := h
    simp only [Prod.mk.injEq] at h
    obtain ⟨rfl, rfl⟩ := h
    rw [h1]
    exact F.inv l hl at_ a y h0 hx k1
/-- many, so many as is told -/
def rep {α : Type} (g : List Int → Int → Option (α × Int)) : Nat → List Int → Int → Option (List α × Int)
  | 0, _, at_ => some ([], at_)
  | n + 1, l, at_ => (g l at_).bind fun t => (rep g n l t.2).bind fun u => some (t.1 :: u.1, u.2)
def encR {α : Type} (e : α → List Int) : List α → List Int
  | [] => []
  | a :: r => e a ++ encR e r
theorem rep_enc {α : Type} {g : List Int → Int → Option (α × Int)} {e : α → List Int} {ok : α → Prop} (F : Fmt g e ok) (as : List α) : (∀ a ∈ as, ok a) → ∀ (p r : List Int) (at_ : Int), at_ = (p.length : Int) → rep g as.length (p ++ (encR e as ++ r)) at_ = some (as, at_ + ((encR e as).length : Int)) := by
  induction as with
  | nil => intro _ p r at_ _; simp [rep, encR]
  | cons a as ih =>
    intro hok p r at_ ha
    have k1 := F.enc a (hok a List.mem_cons_self) p (encR e as ++ r) at_ ha
    have k2 := ih (fun b hb => hok b (List.mem_cons_of_mem _ hb)) (p ++ e a) r (at_ + ((e a).length : Int)) (by rw [List.length_append]; omega)
    rw [List.append_assoc] at k2
    have ee : p ++ (encR e (a :: as) ++ r) = p ++ (e a ++ (encR e as ++ r)) := by simp [encR]
    rw [ee]
    simp only [List.length_cons, rep]
    rw [k1, Option.bind_some, k2, Option.bind_some]
    simp only [encR, List.length_append]
    congr 2
    omega
theorem rep_inv {α : Type} {g : List Int → Int → Option (α × Int)} {e : α → List Int} {ok : α → Prop} (F : Fmt g e ok) : ∀ (n : Nat) (l : List Int), Bytes l → ∀ (at_ : Int) (as : List α) (x : Int), 0 ≤ at_ → at_ ≤ l.length → rep g n l at_ = some (as, x) → as.length = n ∧ (∀ a ∈ as, ok a) ∧ ∃ p r, l = p ++ (encR e as ++ r) ∧ at_ = (p.length : Int) ∧ x = at_ + ((encR e as).length : Int) := by
  intro n
  induction n with
  | zero =>
    intro l hl at_ as x h0 h1 h
    simp only [rep, Option.some.injEq, Prod.mk.injEq] at h
    obtain ⟨rfl, rfl⟩ := h
    exact ⟨rfl, by simp, l.take at_.toNat, l.drop at_.toNat, by simp [encR], by rw [List.length_take]; omega, by simp [encR]⟩
  | succ n ih =>
    intro l hl at_ as x h0 h1 h
    simp only [rep] at h
    obtain ⟨⟨a, y⟩, k1, h⟩ := Option.bind_eq_some_iff.mp h
    obtain ⟨⟨as', z⟩, k2, h⟩ := Option.bind_eq_some_iff.mp h
    simp only [Option.some.injEq, Prod.mk.injEq] at h
    obtain ⟨rfl, rfl⟩ := h
    obtain ⟨i1, p, r, i2, i3, i4⟩ := F.inv l hl at_ a y h0 h1 k1
    have hy := F.le hl h0 h1 k1
    obtain ⟨j0, j1, p2, r2, j2, j3, j4⟩ := ih l hl y as' z (by omega) hy.2 k2
    refine ⟨by simp [j0], fun b hb => (List.mem_cons.1 hb).elim (fun h => h ▸ i1) (j1 b), p, r2, ?_, i3, by simp only [encR, List.length_append]; omega⟩
    have h5 : p2 = p ++ e a := by
      have h6 : l = (p ++ e a) ++ r := by rw [List.append_assoc]; exact i2
      have h7 := congrArg (List.take p2.length) h6
      rw [j2, List.take_left] at h7
      rw [h7]
      have : p2.length = (p ++ e a).length := by rw [List.length_append]; omega
      rw [this, List.take_left]
    rw [j2, h5]; simp [encR]
/-- how many, and they -/
def cnt {α : Type} (g : List Int → Int → Option (α × Int)) (l : List Int) (at_ : Int) : Option (List α × Int) := (countN l at_).bind fun t => rep g t.1 l t.2
def encC {α : Type} (e : α → List Int) (as : List α) : List Int := encI (as.length : Int) ++ encR e as
theorem encR_len {α : Type} {e : α → List Int} (as : List α) (h1 : ∀ a, 1 ≤ (e a).length) : as.length ≤ (encR e as).length := by
  induction as with
  | nil => exact Nat.le_refl _
  | cons a as ih => have := h1 a; simp only [encR, List.length_append, List.length_cons]; omega
theorem Fmt.cnt {α : Type} {g : List Int → Int → Option (α × Int)} {e : α → List Int} {ok : α → Prop} (F : Fmt g e ok) (h1 : ∀ a, 1 ≤ (e a).length) : Fmt (cnt g) (encC e) (fun as => (as.length : Int) ≤ 9223372036854775807 ∧ ∀ a ∈ as, ok a) where
  enc := by
    rintro as ⟨hn, hok⟩ p r at_ ha
    have hl := encR_len as h1
    have ee : p ++ (encC e as ++ r) = p ++ (encI (as.length : Int) ++ (encR e as ++ r)) := by simp [encC]
    have k1 := countN_enc as.length p (encR e as ++ r) hn (by rw [List.length_append]; omega) at_ ha
    have k2 := rep_enc F as hok (p ++ encI (as.length : Int)) r (at_ + ((encI (as.length : Int)).length : Int)) (by rw [List.length_append]; omega)
    rw [List.append_assoc] at k2
    simp only [CM.cnt]
    rw [ee, k1, Option.bind_some, k2]
    simp only [encC, List.length_append]
    congr 2
    omega
  inv := by
    intro l hl at_ as x h0 hx h
    simp only [CM.cnt] at h
    obtain ⟨⟨n, y⟩, k1, h⟩ := Option.bind_eq_some_iff.mp h
    obtain ⟨p, r, i1, i2, i3, i4, i5⟩ := countN_inv l hl at_ n y k1
    have hy : y ≤ l.length := by rw [i1]; simp only [List.length_append]; omega
    obtain ⟨j0, j1, p2, r2, j2, j3, j4⟩ := rep_inv F n l hl y as x (by omega) hy h
    subst j0
    refine ⟨⟨i4, j1⟩, p, r2, ?_, i2, by simp only [encC, List.length_append]; omega⟩
    have h5 : p2 = p ++ encI (as.length : Int) := by
      have h6 : l = (p ++ encI (as.length : Int)) ++ r := by rw [List.append_assoc]; exact i1
      have h7 := congrArg (List.take p2.length) h6
      rw [j2, List.take_left] at h7
      rw [h7]
      have : p2.length = (p ++ encI (as.length : Int)).length := by rw [List.length_append]; omega
      rw [this, List.take_left]
    rw [j2, h5]; simp [encC]
/-- a number from a place on, if it is one -/
def getO (l : List Int) (at_ : Int) : Option (Int × Int) := if (getN l at_).2.2 = true then some ((getN l at_).1, (getN l at_).2.1) else none
theorem Fmt.int : Fmt getO encI In where
  enc := by
    intro n hn p r at_ ha
    unfold getO
    rw [getN_enc p r n hn at_ ha, if_pos rfl]
  inv := by
    intro l hl at_ n x h0 h1 h
    unfold getO at h
    by_cases hk : (getN l at_).2.2 = true
    · rw [if_pos hk] at h
      simp only [Option.some.injEq, Prod.mk.injEq] at h
      obtain ⟨⟨k, y, b⟩, hg⟩ : ∃ t, getN l at_ = t := ⟨_, rfl⟩
      rw [hg] at h hk
      simp only at h hk
      obtain ⟨rfl, rfl⟩ := h
      subst hk
      obtain ⟨p, r, i1, i2, i3, i4⟩ := getN_inv l hl at_ k y hg
      exact ⟨i4, p, r, i1, i2, i3⟩
    · rw [if_neg hk] at h; cases h
theorem getNs_rep (n : Nat) : ∀ (l : List Int) (at_ : Int), getNs n l at_ = rep getO n l at_ := by
  induction n with
  | zero => intro l at_; rfl
  | succ n ih =>
    intro l at_
    simp only [getNs, rep, getO]
    by_cases hk : (getN l at_).2.2 = true
    · rw [if_pos hk, if_pos hk, Option.bind_some, ih]
      cases rep getO n l (getN l at_).2.1 with
      | none => rfl
      | some t => rfl
    · rw [if_neg hk, if_neg hk]; rfl
theorem intsN_cnt (l : List Int) (at_ : Int) : intsN l at_ = cnt getO l at_ := by
  unfold intsN cnt
  cases countN l at_ with
  | none => rfl
  | some t => obtain ⟨n, x⟩ := t; exact getNs_rep n l x
theorem encAll_rep (l : List Int) : encAll l = encR encI l := by induction l with | nil => rfl | cons x l ih => simp [encAll, encR, ih]
theorem encL_cnt (l : List Int) : encL l = encC encI l := by unfold encL encC; rw [encAll_rep]
theorem encR_bytes {α : Type} {e : α → List Int} (h : ∀ a, Bytes (e a)) (as : List α) : Bytes (encR e as) := by induction as with | nil => exact Bytes.nil | cons a as ih => exact (h a).app ih
theorem encC_bytes {α : Type} {e : α → List Int} (h : ∀ a, Bytes (e a)) (as : List α) : Bytes (encC e as) := (encI_bytes _).app (encR_bytes h as)
theorem encR_append {α : Type} (e : α → List Int) (a b : List α) : encR e (a ++ b) = encR e a ++ encR e b := by induction a with | nil => rfl | cons x a ih => simp [encR, ih]
end Go.Proofs.Ytobfhacdljmooaa.CM
