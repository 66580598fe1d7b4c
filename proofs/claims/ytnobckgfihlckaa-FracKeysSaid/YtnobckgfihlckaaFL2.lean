/- The walks of layer 28's functions over slices of floats. -/
import Derived.Test.YtnobckgfihlckaaFL1
namespace Go.Proofs.Ytnobckgfihlckaa.FW
open Go.RowKit Go.Proofs.Ytnobckgfihlckaa Go.Proofs.Ytnobckgfihlckaa.Fl Go.Proofs.YtnobckgfihlckaaW.PrintWords Go.Proofs.YtnobckgfihlckaaW.PrintLast Go.Proofs.YtnobckgfihlckaaW.PrintMore
set_option linter.unusedVariables false
set_option linter.unusedSimpArgs false

def fat (l : List Nat) (i : Int) : Nat := l.getD i.toNat 0
/-- a slice of floats, as it reads -/
structure FS (w : World) (A : Option Addr) (l : List Nat) : Prop where mk :: (out : ∀ i : Int, 0 ≤ i → i < (l.length : Int) → ∃ ad, A = some ad ∧ w.cell? (ad.add i.toNat) = some (.float .f64 (fat l i)) ∧ fat l i < 18446744073709551616)

def andP (l : List Nat) : Nat → Nat
  | 0 => 4607182418800017408
  | j + 1 => mulN (andP l j) (cN (l.getD j 0))
theorem andP_le (l : List Nat) : ∀ j, andP l j ≤ 4607182418800017408
  | 0 => Nat.le_refl _
  | j + 1 => Nat.le_trans (mulN_le _ _ (andP_le l j) (cN_le _)).1 (andP_le l j)
theorem andP_step (l : List Nat) (i : Int) (h : 0 ≤ i) : andP l (i + 1).toNat = mulN (andP l i.toNat) (cN (fat l i)) := by
  rw [show (i + 1).toNat = i.toNat + 1 by omega]; rfl
theorem andP_all (l : List Nat) : ∀ n j, j < n → andP l n ≤ cN (l.getD j 0)
  | 0, j, h => by omega
  | n + 1, j, h => by
    have h1 := mulN_le (andP l n) (cN (l.getD n 0)) (andP_le l n) (cN_le _)
    show mulN (andP l n) (cN (l.getD n 0)) ≤ _
    by_cases e : j = n
    · subst e; exact h1.2
    · exact Nat.le_trans h1.1 (andP_all l n j (by omega))
def leastP (l : List Nat) : Nat → Nat
  | 0 => 4607182418800017408
  | j + 1 => if cN (l.getD j 0) < leastP l j then cN (l.getD j 0) else leastP l j
theorem leastP_le (l : List Nat) : ∀ j, leastP l j ≤ 4607182418800017408
  | 0 => Nat.le_refl _
  | j + 1 => by
    show (if _ then _ else _) ≤ _
    split
    · exact cN_le _
    · exact leastP_le l j
theorem leastP_yes (l : List Nat) (i : Int) (h : 0 ≤ i) (hl : cN (fat l i) < leastP l i.toNat) : leastP l (i + 1).toNat = cN (fat l i) := by
  rw [show (i + 1).toNat = i.toNat + 1 by omega]; exact if_pos hl
theorem leastP_no (l : List Nat) (i : Int) (h : 0 ≤ i) (hl : ¬ cN (fat l i) < leastP l i.toNat) : leastP l (i + 1).toNat = leastP l i.toNat := by
  rw [show (i + 1).toNat = i.toNat + 1 by omega]; exact if_neg hl
theorem wrap_step (i n : Int) (h0 : 0 ≤ i) (h1 : i < n) (hn : n ≤ 100) : wrap64 (i + 1) = i + 1 := by unfold wrap64; omega

set_option maxHeartbeats 8000000 in
set_option maxRecDepth 100000 in
theorem andd (A : Option Addr) (c : Nat) (l : List Nat) (w : World) (hr : FS w A l) (hc : l.length ≤ c) (hl : l.length ≤ 100) :
    Calls Try.prog 21 #[.slice A l.length c] w fun e w' => e = .returned (.float .f64 (andP l l.length)) ∧ w' = w := by
  have HR := Aside0.mk hr
  have HC := Aside0.mk hc
  have HL := Aside0.mk hl
  clear hr hc hl
  go_enter Try.func21, Try.ntmps21
  go_wp2_with go_in
  go_loopg [3, 8] (l.length + 1) (fun kq v3 v8 w' => ∃ i : Int, v3 = .float .f64 (andP l i.toNat) ∧ v8 = .int .i64 i ∧ Aside0 (0 ≤ i ∧ (kq : Int) + i = l.length + 1 ∧ i ≤ l.length) ∧ w' = w)
  case atStart => exact ⟨0, rfl, rfl, ⟨by omega⟩, rfl⟩
  case round =>
    obtain ⟨i, rfl, rfl, HK, rfl⟩ := hrel
    cases gk with
    | zero => exact absurd HK.out (by omega)
    | succ k1 =>
      have HK0 := HK.out
      by_cases c4 : i < (l.length : Int)
      · have c4b0 : decide (i < (l.length : Int)) = true := decide_eq_true c4
        obtain ⟨ad, e, hx, hb⟩ := HR.out.out i HK0.1 c4
        cases e
        have p1 : (0 ≤ i) = True := eq_true HK0.1
        have q1 := eq_true c4
        have hm := fun w => run_float_arith (P := Try.prog) w .mul 22 .f64 (andP l i.toNat) (cN (fat l i)) _ (mulN_eq _ _ (andP_le l i.toNat) (cN_le (fat l i)))
        have H1 := Aside0.mk (And.intro HK0 c4)
        have HB := Aside0.mk hb
        clear HK0 c4 hb
        go_wp2_with (go_at_call 10; with_reducible refine (clean (fat l i) HB.out _).mono ?_; rintro e w1 ⟨rfl, rfl⟩)
        go_roundg k1
        case measure => have := H1.out; omega
        case rel =>
          have h := H1.out
          have hL := HL.out
          exact ⟨i + 1, by rw [andP_step l i h.1.1], by rw [wrap_step i l.length h.1.1 h.2 (by omega)], ⟨by omega⟩, rfl⟩
      · have c4b0 : decide (i < (l.length : Int)) = false := decide_eq_false c4
        have ei : i = (l.length : Int) := by omega
        clear HK0 c4
        go_wp2
        go_ret
        exact ⟨by rw [ei]; rfl, rfl⟩
set_option maxHeartbeats 8000000 in
set_option maxRecDepth 100000 in
theorem randd (A : Option Addr) (c : Nat) (l : List Nat) (w : World) (hr : FS w A l) (hc : l.length ≤ c) (hl : l.length ≤ 100) :
    Calls Try.prog 24 #[.slice A l.length c] w fun e w' => e = .returned (.float .f64 (andP l l.length)) ∧ w' = w := by
  have HR := Aside0.mk hr
  have HC := Aside0.mk hc
  have HL := Aside0.mk hl
  clear hr hc hl
  go_enter Try.func24, Try.ntmps24
  go_wp2_with go_in
  go_loopg [3, 4] (l.length + 1) (fun kq v3 v4 w' => ∃ i : Int, v3 = .float .f64 (andP l i.toNat) ∧ v4 = .int .i64 i ∧ Aside0 (0 ≤ i ∧ (kq : Int) + i = l.length + 1 ∧ i ≤ l.length) ∧ w' = w)
  case atStart => exact ⟨0, rfl, rfl, ⟨by omega⟩, rfl⟩
  case round =>
    obtain ⟨i, rfl, rfl, HK, rfl⟩ := hrel
    cases gk with
    | zero => exact absurd HK.out (by omega)
    | succ k1 =>
      have HK0 := HK.out
      by_cases c4 : i < (l.length : Int)
      · have c4b0 : decide (i < (l.length : Int)) = true := decide_eq_true c4
        obtain ⟨ad, e, hx, hb⟩ := HR.out.out i HK0.1 c4
        cases e
        have p1 : (0 ≤ i) = True := eq_true HK0.1
        have q1 := eq_true c4
        have hm := fun w => run_float_arith (P := Try.prog) w .mul 22 .f64 (andP l i.toNat) (cN (fat l i)) _ (mulN_eq _ _ (andP_le l i.toNat) (cN_le (fat l i)))
        have H1 := Aside0.mk (And.intro HK0 c4)
        have HB := Aside0.mk hb
        clear HK0 c4 hb
        go_wp2_with (go_at_call 13; with_reducible refine (rclean (fat l i) _).mono ?_; rintro e w1 ⟨rfl, rfl⟩)
        go_roundg k1
        case measure => have := H1.out; omega
        case rel =>
          have h := H1.out
          have hL := HL.out
          exact ⟨i + 1, by rw [andP_step l i h.1.1], by rw [wrap_step i l.length h.1.1 h.2 (by omega)], ⟨by omega⟩, rfl⟩
      · have c4b0 : decide (i < (l.length : Int)) = false := decide_eq_false c4
        have ei : i = (l.length : Int) := by omega
        clear HK0 c4
        go_wp2
        go_ret
        exact ⟨by rw [ei]; rfl, rfl⟩
set_option maxHeartbeats 8000000 in
set_option maxRecDepth 100000 in
theorem least (A : Option Addr) (c : Nat) (l : List Nat) (w : World) (hr : FS w A l) (hc : l.length ≤ c) (hl : l.length ≤ 100) :
    Calls Try.prog 35 #[.slice A l.length c] w fun e w' => e = .returned (.float .f64 (leastP l l.length)) ∧ w' = w := by
  have HR := Aside0.mk hr
  have HC := Aside0.mk hc
  have HL := Aside0.mk hl
  clear hr hc hl
  go_enter Try.func35, Try.ntmps35
  go_wp2_with go_in
  go_loopg [3, 8] (l.length + 1) (fun kq v3 v8 w' => ∃ i : Int, v3 = .float .f64 (leastP l i.toNat) ∧ v8 = .int .i64 i ∧ Aside0 (0 ≤ i ∧ (kq : Int) + i = l.length + 1 ∧ i ≤ l.length) ∧ w' = w)
  case atStart => exact ⟨0, rfl, rfl, ⟨by omega⟩, rfl⟩
  case round =>
    obtain ⟨i, rfl, rfl, HK, rfl⟩ := hrel
    cases gk with
    | zero => exact absurd HK.out (by omega)
    | succ k1 =>
      have HK0 := HK.out
      by_cases c4 : i < (l.length : Int)
      · have c4b0 : decide (i < (l.length : Int)) = true := decide_eq_true c4
        obtain ⟨ad, e, hx, hb⟩ := HR.out.out i HK0.1 c4
        cases e
        have p1 : (0 ≤ i) = True := eq_true HK0.1
        have q1 := eq_true c4
        have h1 := fun w => key (cN (fat l i)) (cN_lt (fat l i)) w
        have h2 := fun w => key (leastP l i.toNat) (by have := leastP_le l i.toNat; omega) w
        have H1 := Aside0.mk (And.intro HK0 c4)
        have HB := Aside0.mk hb
        have k1' := key_share (cN (fat l i)) (cN_le _)
        have k2' := key_share (leastP l i.toNat) (leastP_le l _)
        by_cases c5 : cN (fat l i) < leastP l i.toNat
        · have c5b : decide (keyN (cN (fat l i)) < keyN (leastP l i.toNat)) = true := decide_eq_true (by omega)
          have H2 := Aside0.mk (leastP_yes l i HK0.1 c5)
          clear HK0 c4 hb k1' k2' c5
          go_wp2_with (first | (go_at_call 10; with_reducible refine (clean (fat l i) HB.out _).mono ?_; rintro e w1 ⟨rfl, rfl⟩) | (go_at_call 33; with_reducible refine (h1 _).mono ?_; rintro e w1 ⟨rfl, rfl⟩) | (go_at_call 33; with_reducible refine (h2 _).mono ?_; rintro e w1 ⟨rfl, rfl⟩))
          go_roundg k1
          case measure => have := H1.out; omega
          case rel =>
            have h := H1.out
            have hL := HL.out
            exact ⟨i + 1, by rw [H2.out], by rw [wrap_step i l.length h.1.1 h.2 (by omega)], ⟨by omega⟩, rfl⟩
        · have c5b : decide (keyN (cN (fat l i)) < keyN (leastP l i.toNat)) = false := decide_eq_false (by omega)
          have H2 := Aside0.mk (leastP_no l i HK0.1 c5)
          clear HK0 c4 hb k1' k2' c5
          go_wp2_with (first | (go_at_call 10; with_reducible refine (clean (fat l i) HB.out _).mono ?_; rintro e w1 ⟨rfl, rfl⟩) | (go_at_call 33; with_reducible refine (h1 _).mono ?_; rintro e w1 ⟨rfl, rfl⟩) | (go_at_call 33; with_reducible refine (h2 _).mono ?_; rintro e w1 ⟨rfl, rfl⟩))
          go_roundg k1
          case measure => have := H1.out; omega
          case rel =>
            have h := H1.out
            have hL := HL.out
            exact ⟨i + 1, by rw [H2.out], by rw [wrap_step i l.length h.1.1 h.2 (by omega)], ⟨by omega⟩, rfl⟩
      · have c4b0 : decide (i < (l.length : Int)) = false := decide_eq_false c4
        have ei : i = (l.length : Int) := by omega
        clear HK0 c4
        go_wp2
        go_ret
        exact ⟨by rw [ei]; rfl, rfl⟩
set_option maxHeartbeats 8000000 in
set_option maxRecDepth 100000 in
theorem fracParts (a b : Nat) (A : Option Addr) (c : Nat) (l : List Nat) (ha : a < 18446744073709551616) (hb : b < 18446744073709551616) (w : World) (hr : FS w A l) (hc : l.length ≤ c) :
    Calls Try.prog 5 #[.float .f64 a, .float .f64 b, .slice A l.length c] w fun e w' => e = .returned (.bool true) ∧ Below w.heap.size w w' := by
  have HR := Aside0.mk hr
  have HC := Aside0.mk hc
  by_cases hl : 100 < (l.length : Int)
  · replace hl : decide (100 < (l.length : Int)) = true := decide_eq_true hl
    clear hr hc
    go_enter Try.func5, Try.ntmps5
    go_wp2_with (first | (go_at_call 16; with_reducible refine (live _).mono ?_; rintro e w1 ⟨rfl, nd1, rfl⟩))
    go_ret
    exact ⟨rfl, Drawn0.below ⟨⟨_, rfl⟩⟩⟩
  · have HL : Aside0 (l.length ≤ 100) := ⟨by omega⟩
    replace hl : decide (100 < (l.length : Int)) = false := decide_eq_false hl
    have h1 := fun w => nott a ha w
    have h2 := fun w => orr a b ha hb w
    have h3 := andd A c l w hr hc HL.out
    have h4 := fun w => rnot a w
    have h5 := fun w => samet (notN a) w
    have h6 := fun w => ror a b w
    have h7 := fun w => samet (orN a b) w
    have h8 := fun w => orr b a hb ha w
    rw [orN_comm b a] at h8
    have h9 := randd A c l w hr hc HL.out
    have h10 := fun w => samet (andP l l.length) w
    clear hr hc
    go_enter Try.func5, Try.ntmps5
    go_wp2_with (first | (go_at_call 19; with_reducible refine (h1 _).mono ?_; rintro e w1 ⟨rfl, rfl⟩) | (go_at_call 20; with_reducible refine (h2 _).mono ?_; rintro e w1 ⟨rfl, rfl⟩) | (go_at_call 21; with_reducible refine (h3).mono ?_; rintro e w1 ⟨rfl, rfl⟩) | (go_at_call 22; with_reducible refine (h4 _).mono ?_; rintro e w1 ⟨rfl, rfl⟩) | (go_at_call 12; with_reducible refine (h5 _).mono ?_; rintro e w1 ⟨rfl, rfl⟩) | (go_at_call 23; with_reducible refine (h6 _).mono ?_; rintro e w1 ⟨rfl, rfl⟩) | (go_at_call 12; with_reducible refine (h7 _).mono ?_; rintro e w1 ⟨rfl, rfl⟩) | (go_at_call 20; with_reducible refine (h8 _).mono ?_; rintro e w1 ⟨rfl, rfl⟩) | (go_at_call 24; with_reducible refine (h9).mono ?_; rintro e w1 ⟨rfl, rfl⟩) | (go_at_call 12; with_reducible refine (h10 _).mono ?_; rintro e w1 ⟨rfl, rfl⟩) | go_in)
    go_loopg [10] (l.length + 1) (fun kq v10 w' => ∃ i : Int, v10 = .int .i64 i ∧ Aside0 (0 ≤ i ∧ (kq : Int) + i = l.length + 1 ∧ i ≤ l.length) ∧ w' = w1)
    case atStart => exact ⟨0, rfl, ⟨by omega⟩, rfl⟩
    case round =>
      obtain ⟨i, rfl, HK, rfl⟩ := hrel
      cases gk with
      | zero => exact absurd HK.out (by omega)
      | succ k1 =>
        have HK0 := HK.out
        by_cases c4 : i < (l.length : Int)
        · have c4b0 : decide (i < (l.length : Int)) = true := decide_eq_true c4
          obtain ⟨ad, e, hx, hb⟩ := HR.out.out i HK0.1 c4
          cases e
          have p1 : (0 ≤ i) = True := eq_true HK0.1
          have q1 := eq_true c4
          have hg : (FloatKind.f64.format.order (andP l l.length) (cN (fat l i)) == some .gt) = false := by
            have h := share_gt (andP l l.length) (cN (fat l i)) (andP_le l _) (cN_le _)
            have h2 := andP_all l l.length i.toNat (by omega)
            refine Eq.trans h (decide_eq_false ?_)
            exact Nat.not_lt.mpr h2
          have H1 := Aside0.mk (And.intro HK0 c4)
          clear HK0 c4 hb
          go_wp2_with (first | (go_at_call 13; with_reducible refine (rclean (fat l i) _).mono ?_; rintro e w1 ⟨rfl, rfl⟩))
          go_roundg k1
          case measure => have := H1.out; omega
          case rel =>
            have h := H1.out
            have hL := HL.out
            exact ⟨i + 1, by rw [wrap_step i l.length h.1.1 h.2 (by omega)], ⟨by omega⟩, rfl⟩
        · have c4b0 : decide (i < (l.length : Int)) = false := decide_eq_false c4
          have s1 := fun w => sharet (notN a) (notN_le a) w
          have s2 := fun w => sharet (orN a b) (cN_le _) w
          have s3 := fun w => sharet (andP l l.length) (andP_le l _) w
          clear HK0 c4
          go_wp2_with (first | (go_at_call 14; with_reducible refine (s1 _).mono ?_; rintro e w1 ⟨rfl, rfl⟩) | (go_at_call 14; with_reducible refine (s2 _).mono ?_; rintro e w1 ⟨rfl, rfl⟩) | (go_at_call 14; with_reducible refine (s3 _).mono ?_; rintro e w1 ⟨rfl, rfl⟩) | (go_at_call 16; with_reducible refine (live _).mono ?_; rintro e w1 ⟨rfl, nd1, rfl⟩))
          go_ret
          exact ⟨rfl, Drawn0.below ⟨⟨_, rfl⟩⟩⟩
set_option maxHeartbeats 8000000 in
set_option maxRecDepth 100000 in
theorem fracKeys (a b : Nat) (A : Option Addr) (c : Nat) (l : List Nat) (ha : a < 18446744073709551616) (hb : b < 18446744073709551616) (w : World) (hr : FS w A l) (hc : l.length ≤ c) :
    Calls Try.prog 8 #[.float .f64 a, .float .f64 b, .slice A l.length c] w fun e w' => e = .returned (.bool true) ∧ Below w.heap.size w w' := by
  have HR := Aside0.mk hr
  have HC := Aside0.mk hc
  by_cases hl : 100 < (l.length : Int)
  · replace hl : decide (100 < (l.length : Int)) = true := decide_eq_true hl
    clear hr hc
    go_enter Try.func8, Try.ntmps8
    go_wp2_with (first | (go_at_call 16; with_reducible refine (live _).mono ?_; rintro e w1 ⟨rfl, nd1, rfl⟩))
    go_ret
    exact ⟨rfl, Drawn0.below ⟨⟨_, rfl⟩⟩⟩
  · have HL : Aside0 (l.length ≤ 100) := ⟨by omega⟩
    replace hl : decide (100 < (l.length : Int)) = false := decide_eq_false hl
    have h1 := fun w => key a ha w
    have h2 := fun w => key b hb w
    have h3 := fun w => rkey a ha w
    have HE := Aside0.mk (least A c l w hr hc HL.out)
    have h5 := fun w => samet (leastP l l.length) w
    have d1 : ((FloatKind.f64.format.order a b == some .lt) = true ∧ decide (keyN b ≤ keyN a) = false) ∨ (FloatKind.f64.format.order a b == some .lt) = false := by
      cases h : (FloatKind.f64.format.order a b == some .lt)
      · exact .inr rfl
      · exact .inl ⟨rfl, decide_eq_false (by have := key_lt a b ha hb h; omega)⟩
    have d2 : ((FloatKind.f64.format.order a b == some .gt) = true ∧ decide (keyN a ≤ keyN b) = false) ∨ (FloatKind.f64.format.order a b == some .gt) = false := by
      cases h : (FloatKind.f64.format.order a b == some .gt)
      · exact .inr rfl
      · exact .inl ⟨rfl, decide_eq_false (by have := key_gt a b ha hb h; omega)⟩
    clear hr hc
    generalize keyN a = ka at *
    generalize keyN b = kb at *
    rcases d1 with ⟨d1a, d1b⟩ | d1a <;> rcases d2 with ⟨d2a, d2b⟩ | d2a
    all_goals
      go_enter Try.func8, Try.ntmps8
      go_wp2_with (first | (go_at_call 33; with_reducible refine (h1 _).mono ?_; rintro e w1 ⟨rfl, rfl⟩) | (go_at_call 33; with_reducible refine (h2 _).mono ?_; rintro e w1 ⟨rfl, rfl⟩) | (go_at_call 34; with_reducible refine (h3 _).mono ?_; rintro e w1 ⟨rfl, rfl⟩) | go_in)
      go_loopg [9, 10] (l.length + 1) (fun kq v9 v10 w' => ∃ i : Int, v9 = .float .f64 (leastP l i.toNat) ∧ v10 = .int .i64 i ∧ Aside0 (0 ≤ i ∧ (kq : Int) + i = l.length + 1 ∧ i ≤ l.length) ∧ w' = w1)
      case atStart => exact ⟨0, rfl, rfl, ⟨by omega⟩, rfl⟩
      case round =>
        obtain ⟨i, rfl, rfl, HK, rfl⟩ := hrel
        cases gk with
        | zero => exact absurd HK.out (by omega)
        | succ k1 =>
          have HK0 := HK.out
          by_cases c4 : i < (l.length : Int)
          · have c4b0 : decide (i < (l.length : Int)) = true := decide_eq_true c4
            obtain ⟨ad, e, hx, hb⟩ := HR.out.out i HK0.1 c4
            cases e
            have p1 : (0 ≤ i) = True := eq_true HK0.1
            have q1 := eq_true c4
            have H1 := Aside0.mk (And.intro HK0 c4)
            have hg := share_lt (cN (fat l i)) (leastP l i.toNat) (cN_le _) (leastP_le l _)
            by_cases c5 : cN (fat l i) < leastP l i.toNat
            · have c5b : (FloatKind.f64.format.order (cN (fat l i)) (leastP l i.toNat) == some .lt) = true := Eq.trans hg (decide_eq_true c5)
              have H2 := Aside0.mk (leastP_yes l i HK0.1 c5)
              clear HK0 c4 hb hg c5
              go_wp2_with (first | (go_at_call 13; with_reducible refine (rclean (fat l i) _).mono ?_; rintro e w1 ⟨rfl, rfl⟩))
              go_roundg k1
              case measure => have := H1.out; omega
              case rel =>
                have h := H1.out
                have hL := HL.out
                exact ⟨i + 1, by rw [H2.out], by rw [wrap_step i l.length h.1.1 h.2 (by omega)], ⟨by omega⟩, rfl⟩
            · have c5b : (FloatKind.f64.format.order (cN (fat l i)) (leastP l i.toNat) == some .lt) = false := Eq.trans hg (decide_eq_false c5)
              have H2 := Aside0.mk (leastP_no l i HK0.1 c5)
              clear HK0 c4 hb hg c5
              go_wp2_with (first | (go_at_call 13; with_reducible refine (rclean (fat l i) _).mono ?_; rintro e w1 ⟨rfl, rfl⟩))
              go_roundg k1
              case measure => have := H1.out; omega
              case rel =>
                have h := H1.out
                have hL := HL.out
                exact ⟨i + 1, by rw [H2.out], by rw [wrap_step i l.length h.1.1 h.2 (by omega)], ⟨by omega⟩, rfl⟩
          · have c4b0 : decide (i < (l.length : Int)) = false := decide_eq_false c4
            have ei : i = (l.length : Int) := by omega
            clear HK0 c4
            rw [show leastP l i.toNat = leastP l l.length by rw [ei]; rfl]
            go_wp2_with (first | (go_at_call 35; with_reducible refine (HE.out).mono ?_; rintro e w1 ⟨rfl, rfl⟩) | (go_at_call 12; with_reducible refine (h5 _).mono ?_; rintro e w1 ⟨rfl, rfl⟩) | (go_at_call 16; with_reducible refine (live _).mono ?_; rintro e w1 ⟨rfl, nd1, rfl⟩))
            go_ret
            exact ⟨rfl, Drawn0.below ⟨⟨_, rfl⟩⟩⟩
end Go.Proofs.Ytnobckgfihlckaa.FW
