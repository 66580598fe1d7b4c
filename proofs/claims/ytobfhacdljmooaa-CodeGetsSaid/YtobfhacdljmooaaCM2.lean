/- Plain laws of numbers as bytes: there and back. -/
import Derived.Test.YtobfhacdljmooaaCM1
set_option linter.unusedVariables false
set_option linter.unusedSimpArgs false
namespace Go.Proofs.Ytobfhacdljmooaa.CM

theorem pow_le_nine (i : Nat) (h : i ≤ 9) : 128 ^ i ≤ 9223372036854775808 := by
  have := Nat.pow_le_pow_right (n := 128) (by decide) h
  omega
theorem pow_ten (i : Nat) (h : 10 ≤ i) : 1180591620717411303424 ≤ 128 ^ i := by
  have := Nat.pow_le_pow_right (n := 128) (by decide) h
  omega
theorem enc_bytes (z : Nat) : Bytes (enc z) := by
  induction z using Nat.strongRecOn with
  | ind z ih =>
    intro c hc
    by_cases h : z < 128
    · rw [enc_small z h] at hc
      simp at hc; omega
    · rw [enc_big z h] at hc
      rcases List.mem_cons.1 hc with rfl | hc
      · omega
      · exact ih (z / 128) (by omega) c hc
/-- all bytes of a rank but the last are above 127, the last is not -/
theorem enc_form (z : Nat) : ∃ (p : List Int) (c : Int), enc z = p ++ [c] ∧ (∀ x ∈ p, 127 < x) ∧ c ≤ 127 := by
  induction z using Nat.strongRecOn with
  | ind z ih =>
    by_cases h : z < 128
    · exact ⟨[], z, by rw [enc_small z h]; rfl, by simp, by omega⟩
    · obtain ⟨p, c, h1, h2, h3⟩ := ih (z / 128) (by omega)
      refine ⟨((z % 128 + 128 : Nat) : Int) :: p, c, by rw [enc_big z h, h1]; rfl, ?_, h3⟩
      intro x hx
      rcases List.mem_cons.1 hx with rfl | hx
      · omega
      · exact h2 x hx
/-- what bytes say, seven bits each, the lowest first -/
def val : List Int → Nat
  | [] => 0
  | c :: r => c.toNat % 128 + 128 * val r
theorem val_enc (z : Nat) : val (enc z) = z := by
  induction z using Nat.strongRecOn with
  | ind z ih =>
    by_cases h : z < 128
    · rw [enc_small z h]; simp [val]; omega
    · rw [enc_big z h]
      simp only [val]
      rw [ih (z / 128) (by omega)]
      omega
theorem getZ_enc (z : Nat) : ∀ (i a : Nat) (r : List Int), z * 128 ^ i < 18446744073709551616 → (0 < i → z ≠ 0) → getZ i a (enc z ++ r) = some (a + z * 128 ^ i, i + (enc z).length) := by
  induction z using Nat.strongRecOn with
  | ind z ih =>
    intro i a r hb h0
    by_cases h : z < 128
    · rw [enc_small z h]
      simp only [List.singleton_append, getZ]
      rw [if_neg, if_pos (by omega)]
      · simp
      · rintro (⟨rfl, h1⟩ | ⟨h1, h2⟩)
        · omega
        · exact h0 h1 (by omega)
    · rw [enc_big z h]
      simp only [List.cons_append, getZ]
      have hi : i < 10 := by
        refine Nat.lt_of_not_le (fun h1 => ?_)
        have h2 := pow_ten i h1
        have h3 : 1 * 128 ^ i ≤ z * 128 ^ i := Nat.mul_le_mul_right _ (by omega)
        omega
      rw [if_neg, if_neg (by omega)]
      · have e1 : (z / 128) * 128 ^ (i + 1) = (z / 128 * 128) * 128 ^ i := by rw [Nat.pow_succ, Nat.mul_comm (128 ^ i), ← Nat.mul_assoc]
        have e2 : (z / 128 * 128) * 128 ^ i ≤ z * 128 ^ i := Nat.mul_le_mul_right _ (by omega)
        rw [ih (z / 128) (by omega) (i + 1) _ r (by rw [e1]; omega) (fun _ => by omega)]
        rw [e1, List.length_cons]
        have e3 : (((z % 128 + 128 : Nat) : Int).toNat - 128) * 128 ^ i + (z / 128 * 128) * 128 ^ i = z * 128 ^ i := by
          rw [← Nat.add_mul]; congr 1; omega
        congr 2
        · omega
        · omega
      · rintro (⟨rfl, h1⟩ | ⟨h1, h2⟩)
        · have h3 : 128 * 128 ^ 9 ≤ z * 128 ^ 9 := Nat.mul_le_mul_right _ (by omega)
          omega
        · omega
theorem getZ_inv : ∀ (L : List Int) (i a z n : Nat), Bytes L → getZ i a L = some (z, n) → ∃ (y : Nat) (r : List Int), L = enc y ++ r ∧ z = a + y * 128 ^ i ∧ n = i + (enc y).length ∧ (0 < i → y ≠ 0) ∧ (i ≤ 9 → y * 128 ^ i < 18446744073709551616) := by
  intro L
  induction L with
  | nil => intro i a z n _ h; simp [getZ] at h
  | cons c L ih =>
    intro i a z n hb h
    have hc := hb c List.mem_cons_self
    simp only [getZ] at h
    by_cases h1 : (i = 9 ∧ 1 < c) ∨ (0 < i ∧ c = 0)
    · rw [if_pos h1] at h; cases h
    · rw [if_neg h1] at h
      by_cases h2 : c < 128
      · rw [if_pos h2] at h
        have h3 := Option.some.inj h
        obtain ⟨rfl, rfl⟩ : a + c.toNat * 128 ^ i = z ∧ i + 1 = n := by cases h3; exact ⟨rfl, rfl⟩
        refine ⟨c.toNat, L, by rw [enc_small _ (by omega), Int.toNat_of_nonneg hc.1]; rfl, rfl, by rw [enc_small _ (by omega)]; rfl, fun h4 h5 => h1 (.inr ⟨h4, by omega⟩), fun h4 => ?_⟩
        by_cases h5 : i = 9
        · subst h5
          have : c.toNat ≤ 1 := by omega
          have := Nat.mul_le_mul_right (128 ^ 9) this
          omega
        · have h6 := Nat.pow_le_pow_right (n := 128) (by decide) (show i ≤ 8 by omega)
          have h7 : c.toNat * 128 ^ i ≤ 127 * 128 ^ 8 := Nat.mul_le_mul (by omega) h6
          omega
      · rw [if_neg h2] at h
        obtain ⟨y, r, e1, e2, e3, e4, e5⟩ := ih (i + 1) _ z n (fun x hx => hb x (List.mem_cons_of_mem _ hx)) h
        have hy := e4 (by omega)
        have hp : y * 128 ^ (i + 1) = (128 * y) * 128 ^ i := by rw [Nat.pow_succ, Nat.mul_comm (128 ^ i), ← Nat.mul_assoc, Nat.mul_comm y]
        have hs : (c.toNat - 128 + 128 * y) * 128 ^ i = (c.toNat - 128) * 128 ^ i + y * 128 ^ (i + 1) := by rw [Nat.add_mul, hp]
        have hE : enc (c.toNat - 128 + 128 * y) = c :: enc y := by
          rw [enc_big _ (by omega), show (c.toNat - 128 + 128 * y) / 128 = y by omega]
          congr 1
          omega
        refine ⟨c.toNat - 128 + 128 * y, r, by rw [hE, e1]; rfl, by rw [hs, e2]; omega, by rw [hE, e3, List.length_cons]; omega, fun _ => by omega, fun h4 => ?_⟩
        have h5 : i ≤ 8 := by omega
        have h6 := e5 (by omega)
        rw [hs]
        obtain ⟨q, hq⟩ : ∃ q, 18446744073709551616 = 128 ^ (i + 1) * q := ⟨2 * 128 ^ (8 - i), by
          rw [Nat.mul_comm 2, ← Nat.mul_assoc, ← Nat.pow_add, show i + 1 + (8 - i) = 9 by omega]⟩
        have h7 : y < q := by
          refine Nat.lt_of_mul_lt_mul_left (a := 128 ^ (i + 1)) ?_
          rw [← hq, Nat.mul_comm]; exact h6
        have h8 : 128 ^ (i + 1) * (y + 1) ≤ 128 ^ (i + 1) * q := Nat.mul_le_mul_left _ h7
        rw [← hq, Nat.mul_add, Nat.mul_one, Nat.mul_comm] at h8
        have h9 : (c.toNat - 128) * 128 ^ i ≤ 127 * 128 ^ i := Nat.mul_le_mul_right _ (by omega)
        have h10 : 128 ^ (i + 1) = 128 * 128 ^ i := by rw [Nat.pow_succ, Nat.mul_comm]
        have h11 : 0 < 128 ^ i := Nat.pow_pos (by decide)
        omega
theorem unzig_zig (n : Int) : unzig (zig n) = n := by unfold unzig zig; split <;> split <;> omega
theorem zig_unzig (z : Nat) : zig (unzig z) = z := by unfold unzig zig; split <;> split <;> omega
theorem unzig_in (z : Nat) (h : z < 18446744073709551616) : -9223372036854775808 ≤ unzig z ∧ unzig z ≤ 9223372036854775807 := by unfold unzig; split <;> omega
/-- a number of 64 bits -/
def In (n : Int) : Prop := -9223372036854775808 ≤ n ∧ n ≤ 9223372036854775807
instance (n : Int) : Decidable (In n) := inferInstanceAs (Decidable (_ ∧ _))
/-- a number's bytes -/
def encI (n : Int) : List Int := enc (zig n)
theorem encI_bytes (n : Int) : Bytes (encI n) := enc_bytes _
theorem encI_pos (n : Int) : 1 ≤ (encI n).length := enc_pos _
theorem encI_ten (n : Int) (h : In n) : (encI n).length ≤ 10 := enc_ten _ (zig_lt n h.1 h.2)
theorem Bytes.app {a b : List Int} (ha : Bytes a) (hb : Bytes b) : Bytes (a ++ b) := fun x hx => (List.mem_append.1 hx).elim (ha x) (hb x)
theorem Bytes.left {a b : List Int} (h : Bytes (a ++ b)) : Bytes a := fun x hx => h x (List.mem_append_left _ hx)
theorem Bytes.right {a b : List Int} (h : Bytes (a ++ b)) : Bytes b := fun x hx => h x (List.mem_append_right _ hx)
theorem Bytes.nil : Bytes [] := fun x hx => by cases hx
/-- a number's bytes are got again -/
theorem getN_enc (p r : List Int) (n : Int) (hn : In n) (at_ : Int) (ha : at_ = (p.length : Int)) : getN (p ++ (encI n ++ r)) at_ = (n, at_ + (encI n).length, true) := by
  subst ha
  unfold getN
  rw [if_neg (by simp; omega)]
  have h1 : (p ++ (encI n ++ r)).drop ((p.length : Int)).toNat = encI n ++ r := by simp
  rw [h1]
  have h2 := getZ_enc (zig n) 0 0 r (by have := zig_lt n hn.1 hn.2; omega) (fun h => absurd h (by omega))
  unfold encI
  rw [h2]
  simp [unzig_zig]
/-- a number that is got stands there -/
theorem getN_inv (l : List Int) (hl : Bytes l) (at_ n nx : Int) (h : getN l at_ = (n, nx, true)) : ∃ p r, l = p ++ (encI n ++ r) ∧ at_ = (p.length : Int) ∧ nx = at_ + ((encI n).length : Int) ∧ In n := by
  unfold getN at h
  by_cases h0 : at_ < 0 ∨ (l.length : Int) < at_
  · rw [if_pos h0] at h; cases h
  · rw [if_neg h0] at h
    cases hg : getZ 0 0 (l.drop at_.toNat) with
    | none => rw [hg] at h; cases h
    | some zn =>
      obtain ⟨z, m⟩ := zn
      rw [hg] at h
      simp only [Prod.mk.injEq] at h
      obtain ⟨rfl, rfl, _⟩ := h
      obtain ⟨y, r, e1, e2, e3, _, e5⟩ := getZ_inv _ 0 0 z m (fun x hx => hl x (List.mem_of_mem_drop hx)) hg
      simp only [Nat.pow_zero, Nat.mul_one, Nat.zero_add] at e2 e3 e5
      subst e2
      have hy := e5 (by omega)
      refine ⟨l.take at_.toNat, r, ?_, ?_, ?_, unzig_in z hy⟩
      · unfold encI; rw [zig_unzig, ← e1, List.take_append_drop]
      · rw [List.length_take]; omega
      · unfold encI; rw [zig_unzig, e3]
theorem getN_false (l : List Int) (at_ : Int) (h : (getN l at_).2.2 = false) : getN l at_ = (0, 0, false) := by
  unfold getN at h ⊢
  split
  · rfl
  · split <;> simp_all
theorem getN_ok (l : List Int) (hl : Bytes l) (at_ : Int) (h : (getN l at_).2.2 = true) : 0 ≤ at_ ∧ at_ < (getN l at_).2.1 ∧ (getN l at_).2.1 ≤ l.length ∧ In (getN l at_).1 := by
  obtain ⟨⟨n, nx, b⟩, hg⟩ : ∃ t, getN l at_ = t := ⟨_, rfl⟩
  rw [hg] at h ⊢
  simp only at h ⊢
  subst h
  obtain ⟨p, r, rfl, h1, h2, h3⟩ := getN_inv l hl at_ n nx hg
  have := encI_pos n
  simp only [List.length_append]
  exact ⟨by omega, by omega, by omega, h3⟩

/-- n numbers from a place on: they, and the place behind -/
def getNs : Nat → List Int → Int → Option (List Int × Int)
  | 0, _, at_ => some ([], at_)
  | n + 1, l, at_ => if (getN l at_).2.2 = true then match getNs n l (getN l at_).2.1 with | some (r, e) => some ((getN l at_).1 :: r, e) | none => none else none
/-- how many there are: no more than bytes are left -/
def countN (l : List Int) (at_ : Int) : Option (Nat × Int) :=
  if (getN l at_).2.2 = true then if (getN l at_).1 < 0 then none else if (getN l at_).1 > (l.length : Int) - (getN l at_).2.1 then none else some ((getN l at_).1.toNat, (getN l at_).2.1) else none
/-- numbers from a place on -/
def intsN (l : List Int) (at_ : Int) : Option (List Int × Int) := match countN l at_ with | some (n, x) => getNs n l x | none => none
/-- numbers' bytes, one behind the other -/
def encAll : List Int → List Int
  | [] => []
  | n :: r => encI n ++ encAll r
/-- how many, and they -/
def encL (l : List Int) : List Int := encI (l.length : Int) ++ encAll l
theorem encAll_append (a b : List Int) : encAll (a ++ b) = encAll a ++ encAll b := by induction a with | nil => rfl | cons x a ih => simp [encAll, ih]
theorem encAll_bytes (l : List Int) : Bytes (encAll l) := by induction l with | nil => exact Bytes.nil | cons x l ih => exact (encI_bytes x).app ih
theorem encL_bytes (l : List Int) : Bytes (encL l) := (encI_bytes _).app (encAll_bytes l)
theorem encAll_len (l : List Int) : l.length ≤ (encAll l).length := by
  induction l with
  | nil => exact Nat.le_refl _
  | cons x l ih => have := encI_pos x; simp only [encAll, List.length_append, List.length_cons]; omega
theorem encAll_le (l : List Int) (h : ∀ x ∈ l, In x) : (encAll l).length ≤ 10 * l.length := by
  induction l with
  | nil => exact Nat.le_refl _
  | cons x l ih =>
    have := encI_ten x (h x List.mem_cons_self)
    have := ih (fun y hy => h y (List.mem_cons_of_mem _ hy))
    simp only [encAll, List.length_append, List.length_cons]; omega
theorem getNs_enc (l : List Int) (h : ∀ x ∈ l, In x) : ∀ (p r : List Int) (at_ : Int), at_ = (p.length : Int) → getNs l.length (p ++ (encAll l ++ r)) at_ = some (l, at_ + (encAll l).length) := by
  induction l with
  | nil => intro p r at_ _; simp [getNs, encAll]
  | cons x l ih =>
    intro p r at_ ha
    have h1 := getN_enc p (encAll l ++ r) x (h x List.mem_cons_self) at_ ha
    have e : p ++ (encAll (x :: l) ++ r) = p ++ (encI x ++ (encAll l ++ r)) := by simp [encAll]
    rw [e]
    simp only [List.length_cons, getNs]
    rw [h1]
    simp only [if_true]
    have h2 := ih (fun y hy => h y (List.mem_cons_of_mem _ hy)) (p ++ encI x) r (at_ + (encI x).length) (by rw [List.length_append]; omega)
    rw [List.append_assoc] at h2
    rw [h2]
    simp only [encAll, List.length_append]
    congr 2
    omega
theorem getNs_inv : ∀ (n : Nat) (l : List Int) (at_ : Int) (m : List Int) (e : Int), Bytes l → 0 ≤ at_ → at_ ≤ l.length → getNs n l at_ = some (m, e) → m.length = n ∧ (∀ x ∈ m, In x) ∧ at_ ≤ e ∧ e ≤ l.length ∧ ∃ p r, l = p ++ (encAll m ++ r) ∧ at_ = (p.length : Int) ∧ e = at_ + ((encAll m).length : Int) := by
  intro n
  induction n with
  | zero =>
    intro l at_ m e hl h0 h1 h
    simp only [getNs] at h
    obtain ⟨rfl, rfl⟩ : [] = m ∧ at_ = e := by have := Option.some.inj h; cases this; exact ⟨rfl, rfl⟩
    exact ⟨rfl, by simp, Int.le_refl _, h1, l.take at_.toNat, l.drop at_.toNat, by simp [encAll], by rw [List.length_take]; omega, by simp [encAll]⟩
  | succ n ih =>
    intro l at_ m e hl h0 h1 h
    simp only [getNs] at h
    by_cases hk : (getN l at_).2.2 = true
    · rw [if_pos hk] at h
      have ho := getN_ok l hl at_ hk
      obtain ⟨⟨k, nx, b⟩, hg⟩ : ∃ t, getN l at_ = t := ⟨_, rfl⟩
      rw [hg] at h hk ho
      simp only at h hk ho
      subst hk
      cases hr : getNs n l nx with
      | none => rw [hr] at h; cases h
      | some me =>
        obtain ⟨m', e'⟩ := me
        rw [hr] at h
        obtain ⟨rfl, rfl⟩ : k :: m' = m ∧ e' = e := by have := Option.some.inj h; cases this; exact ⟨rfl, rfl⟩
        obtain ⟨i1, i2, i3, i4, p, r, i5, i6, i7⟩ := ih l nx m' e' hl (by omega) ho.2.2.1 hr
        obtain ⟨p2, r2, j1, j2, j3, j4⟩ := getN_inv l hl at_ k nx hg
        refine ⟨by simp [i1], fun x hx => (List.mem_cons.1 hx).elim (fun h => h ▸ j4) (i2 x), by omega, i4, p2, r, ?_, j2, ?_⟩
        · have h5 : p = p2 ++ encI k := by
            have h6 : l = (p2 ++ encI k) ++ r2 := by rw [List.append_assoc]; exact j1
            have h7 := congrArg (List.take p.length) h6
            rw [i5, List.take_left] at h7
            rw [h7]
            have : p.length = (p2 ++ encI k).length := by rw [List.length_append]; omega
            rw [this, List.take_left]
          rw [i5, h5]; simp [encAll]
        · simp only [encAll, List.length_append]; omega
    · rw [if_neg hk] at h; cases h
theorem countN_enc (n : Nat) (p r : List Int) (hn : (n : Int) ≤ 9223372036854775807) (hr : n ≤ r.length) (at_ : Int) (ha : at_ = (p.length : Int)) : countN (p ++ (encI (n : Int) ++ r)) at_ = some (n, at_ + (encI (n : Int)).length) := by
  unfold countN
  rw [getN_enc p r (n : Int) ⟨by omega, hn⟩ at_ ha]
  simp only [if_true]
  rw [if_neg (by omega), if_neg (by simp only [List.length_append]; omega)]
  simp
theorem countN_inv (l : List Int) (hl : Bytes l) (at_ : Int) (n : Nat) (nx : Int) (h : countN l at_ = some (n, nx)) : ∃ p r, l = p ++ (encI (n : Int) ++ r) ∧ at_ = (p.length : Int) ∧ nx = at_ + ((encI (n : Int)).length : Int) ∧ (n : Int) ≤ 9223372036854775807 ∧ n ≤ r.length := by
  unfold countN at h
  by_cases hk : (getN l at_).2.2 = true
  · rw [if_pos hk] at h
    obtain ⟨⟨k, x, b⟩, hg⟩ : ∃ t, getN l at_ = t := ⟨_, rfl⟩
    rw [hg] at h hk
    simp only at h hk
    subst hk
    by_cases h1 : k < 0
    · rw [if_pos h1] at h; cases h
    · rw [if_neg h1] at h
      by_cases h2 : k > (l.length : Int) - x
      · rw [if_pos h2] at h; cases h
      · rw [if_neg h2] at h
        obtain ⟨rfl, rfl⟩ : k.toNat = n ∧ x = nx := by have := Option.some.inj h; cases this; exact ⟨rfl, rfl⟩
        obtain ⟨p, r, j1, j2, j3, j4⟩ := getN_inv l hl at_ k x hg
        have e : ((k.toNat : Nat) : Int) = k := Int.toNat_of_nonneg (by omega)
        refine ⟨p, r, by rw [e]; exact j1, j2, by rw [e]; exact j3, by have := j4.2; omega, ?_⟩
        have := congrArg List.length j1
        simp only [List.length_append] at this
        omega
  · rw [if_neg hk] at h; cases h
theorem intsN_enc (l : List Int) (h : ∀ x ∈ l, In x) (hl : l.length < 1000000) (p r : List Int) (at_ : Int) (ha : at_ = (p.length : Int)) : intsN (p ++ (encL l ++ r)) at_ = some (l, at_ + (encL l).length) := by
  unfold intsN
  have e : p ++ (encL l ++ r) = p ++ (encI (l.length : Int) ++ (encAll l ++ r)) := by simp [encL]
  have h1 := countN_enc l.length p (encAll l ++ r) (by omega) (by have := encAll_len l; rw [List.length_append]; omega) at_ ha
  rw [e, h1]
  simp only
  have h2 := getNs_enc l h (p ++ encI (l.length : Int)) r (at_ + (encI (l.length : Int)).length) (by rw [List.length_append]; omega)
  rw [List.append_assoc] at h2
  rw [h2]
  simp only [encL, List.length_append]
  congr 2
  omega
theorem intsN_inv (l : List Int) (hl : Bytes l) (at_ : Int) (m : List Int) (e : Int) (h : intsN l at_ = some (m, e)) : (∀ x ∈ m, In x) ∧ ∃ p r, l = p ++ (encL m ++ r) ∧ at_ = (p.length : Int) ∧ e = at_ + ((encL m).length : Int) := by
  unfold intsN at h
  cases hc : countN l at_ with
  | none => rw [hc] at h; cases h
  | some t =>
    obtain ⟨n, x⟩ := t
    rw [hc] at h
    simp only at h
    obtain ⟨p, r, i1, i2, i3, i4, i5⟩ := countN_inv l hl at_ n x hc
    have hx : x ≤ l.length := by rw [i1]; simp only [List.length_append]; omega
    obtain ⟨j1, j2, j3, j4, p2, r2, j5, j6, j7⟩ := getNs_inv n l x m e hl (by omega) hx h
    refine ⟨j2, p, r2, ?_, i2, ?_⟩
    · have h5 : p2 = p ++ encI (m.length : Int) := by
        rw [j1]
        have h6 : l = (p ++ encI (n : Int)) ++ r := by rw [List.append_assoc]; exact i1
        have h7 := congrArg (List.take p2.length) h6
        rw [j5, List.take_left] at h7
        rw [h7]
        have : p2.length = (p ++ encI (n : Int)).length := by rw [List.length_append]; omega
        rw [this, List.take_left]
      rw [j5, h5]; simp [encL]
    · simp only [encL, List.length_append]; rw [j1]; omega
end Go.Proofs.Ytobfhacdljmooaa.CM
