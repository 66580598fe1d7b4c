/- Numbers as bytes: the walks of PutInt and of the document's Int. -/
import Derived.Test.YtobfhacdljmooaaCM1
import Derived.Test.YtobfhacdljmooaaCH
import Derived.Test.YtobfhacdljmooaaSq
import Derived.Laws.Bits64
import Derived.Laws.BitsAllLaws
namespace Go.Proofs.Ytobfhacdljmooaa.C
open Go.RowKit Go.Proofs.YtobfhacdljmooaaW.PrintWords Go.Proofs.YtobfhacdljmooaaW.PrintLast Go.Proofs.YtobfhacdljmooaaW.PrintMore Go.Proofs.Ytobfhacdljmooaa.Sq Go.Proofs.Ytobfhacdljmooaa.CM
set_option linter.unusedVariables false
set_option linter.unusedSimpArgs false

def slices_Clone_byte_byte.f (l0 : List Int) : Option (List Int) := if l0.length < 140737488355328 then some l0 else none
set_option maxHeartbeats 8000000 in
set_option maxRecDepth 100000 in
theorem slices_Clone_byte_byte.calls (A0 : Option Addr) (c0 : Nat) (l0 : List Int) (r : List Int) (w : World) (hr0 : Kd.C (Kd.int .u8) w A0 l0.length l0) (hc0 : l0.length ≤ c0) (h : slices_Clone_byte_byte.f l0 = some r) :
    Calls Try.prog 43 #[.slice A0 l0.length c0] w fun e w' => ∃ v0_ : Value, e = .returned (v0_) ∧ Kd.R (Kd.int .u8) 5 w' w.heap.size (fun _ => True) v0_ r ∧ Below w.heap.size w w' := by
  unfold slices_Clone_byte_byte.f at h
  refine bc (p := (l0.length < 140737488355328)) (fun hl => ?_) (fun hl => ?_)
  · rw [if_neg hl] at h
    cases h
  rw [if_pos hl] at h
  obtain rfl := Option.some.inj h
  have HL := Aside0.mk hl
  have HR0 := Aside0.mk hr0
  have HB := Aside0.mk (Below.refl w.heap.size w)
  clear h hl hr0 hc0
  have hnil := fun (w : World) (a : Option Addr) (n c : Nat) => Lib.run_eql_slice_nil (P := Try.prog) w 36 5 a n c 0 0 Try.underlying36
  rcases A0 with _ | ad
  · have e0 : l0 = [] := by
      have := HR0.out.2.2
      rcases Nat.eq_zero_or_pos l0.length with h0 | h0
      · exact List.eq_nil_of_length_eq_zero h0
      · obtain ⟨ad, hh, _⟩ := this h0; cases hh
    subst e0
    go_enter Try.func43, Try.ntmps43
    go_wp2
    go_ret
    exact ⟨_, rfl, ⟨fun _ _ => trivial, ⟨[], own_nil _ _ _ _, Reps.none _ _⟩⟩, Below.refl _ _⟩
  · go_enter Try.func43, Try.ntmps43
    go_wp2_with (first | ((with_reducible refine gate_dst (N := 5) rfl ?_); refine Kd.R_lit (Kd.int .u8) _ 5 ?hg (N := 5) ?hd (xs := ([] : List Int)) (inner := []) (ok := fun _ => True) (okp := fun _ => True) ?hr ?hp (fun _ hk => hk) trivial (Below.refl _ _) (Nat.le_refl _) (by simp) ?_; (case hd => rfl); (case hg => rfl); (case hr => first | (go_simp; done) | (go_simp; rfl)); (case hp => exact (Reps.none _ _)); intro v1 w1 ho hb hg_ hnew_; clear hg_ hnew_; have HO := Aside0.mk ho; have HB1 := Aside0.mk hb; clear ho hb) | ((with_reducible refine gate_builtin (b := .append) (xs := #[.tmp 5, .tmp 6]) rfl ?_); at_builtin; refine Kd.R_append_rows (Kd.int .u8) (w0 := w) w.heap.size rfl (.tmp 5) (.tmp 6) 36 5 (.int .u8 0) 1 rfl Try.underlying36 info5 rfl (by decide) (by omega) v1 [] l0 _ _ _ (fun _ => True) (fun _ => False) rfl rfl ?aO ?aR (fun _ _ h => h) (fun _ h => h.elim) ?aF ?aB ?aS ?aL ?_; (case aR => exact (Kd.C_below HR0.out HB1.out)); (case aB => exact HB1.out); (case aF => exact (fun _ _ => trivial)); (case aO => exact HO.out); (case aS => exact below_size HB1.out); (case aL => have := HL.out; simp; omega); intro v2 w2 ho hb hg hat; have HO2 := Aside0.mk ho; have HB2 := Aside0.mk hb; clear ho hb hg hat))
    go_ret
    exact ⟨_, rfl, by simpa using HO2.out, HB2.out⟩

def rint.f (a1 : Int) : Option (List Int) := if -9223372036854775808 ≤ a1 then if a1 ≤ 9223372036854775807 then some (enc (zig a1)) else none else none
set_option maxHeartbeats 8000000 in
set_option maxRecDepth 100000 in
theorem rint.calls (a1 : Int) (r : List Int) (w : World) (h : rint.f a1 = some r) :
    Calls Try.prog 19 #[.int .i64 a1] w fun e w' => ∃ v0_ : Value, e = .returned (v0_) ∧ Kd.R (Kd.int .u8) 5 w' w.heap.size (fun _ => True) v0_ r ∧ Below w.heap.size w w' := by
  have H0 : -9223372036854775808 ≤ a1 := by
    by_cases c : -9223372036854775808 ≤ a1
    · exact c
    · unfold rint.f at h; rw [if_neg c] at h; cases h
  have H1 : a1 ≤ 9223372036854775807 := by
    by_cases c : a1 ≤ 9223372036854775807
    · exact c
    · unfold rint.f at h; rw [if_pos H0, if_neg c] at h; cases h
  unfold rint.f at h
  rw [if_pos H0, if_pos H1] at h
  obtain rfl := Option.some.inj h
  clear h
  have HZ := Aside0.mk (zig_lt a1 H0 H1)
  have HB := Aside0.mk (Below.refl w.heap.size w)
  have hz : (zig a1 : Int) = if a1 < 0 then IntKind.u64.wrap ((IntKind.u64.wrap ((IntKind.u64.wrap (wrap64 (-(wrap64 (a1 + 1))))) * 2)) + 1) else IntKind.u64.wrap ((IntKind.u64.wrap (a1)) * 2) := by
    unfold zig wrap64
    simp [IntKind.wrap, IntKind.bits, IntKind.signed]
    split <;> split <;> omega
  obtain ⟨Z, hZ⟩ : ∃ Z, zig a1 = Z := ⟨_, rfl⟩
  rw [hZ] at HZ hz ⊢
  have hc : (decide (a1 < 0) = true ∧ (Z : Int) = IntKind.u64.wrap ((IntKind.u64.wrap ((IntKind.u64.wrap (wrap64 (-(wrap64 (a1 + 1))))) * 2)) + 1)) ∨ (decide (a1 < 0) = false ∧ (Z : Int) = IntKind.u64.wrap ((IntKind.u64.wrap (a1)) * 2)) := by
    by_cases c : a1 < 0
    · rw [if_pos c] at hz; exact .inl ⟨decide_eq_true c, hz⟩
    · rw [if_neg c] at hz; exact .inr ⟨decide_eq_false c, hz⟩
  clear H0 H1 hz hZ
  rcases hc with ⟨c3b0, hx⟩ | ⟨c3b0, hx⟩
  all_goals
    have HX0 := Aside0.mk hx
    clear hx
    go_enter Try.func19, Try.ntmps19
    go_wp2
    go_loopg [3, 4] 65 (fun kq v3 v4 w' => ∃ (z : Nat) (d : List Int), v3 = .int .u64 (z : Int) ∧ Aside0 (d ++ enc z = enc Z ∧ z < 2 ^ kq ∧ kq ≤ 65 ∧ z < 18446744073709551616 ∧ 1 ≤ kq) ∧ Aside0 (Kd.R (Kd.int .u8) 5 w' w.heap.size (fun _ => True) v4 (d)) ∧ Aside0 (Below w.heap.size w w'))
    case atStart => exact ⟨Z, [], by rw [HX0.out], ⟨by simp, by have := HZ.out; omega, by omega, HZ.out, by omega⟩, ⟨Kd.R_nil _ _ _ _ _⟩, ⟨Ls HB⟩⟩
    case round =>
      obtain ⟨z, d, rfl, HA, HO, HB⟩ := hrel
      cases gk with
      | zero => exact absurd HA.out.2.2.2.2 (by omega)
      | succ k2 =>
        have LM : Aside0 (d.length < 140737488355328) := ⟨by have h1 := congrArg List.length HA.out.1; have h2 := enc_ten Z HZ.out; rw [List.length_append] at h1; omega⟩
        by_cases c4 : z < 128
        · have c4b0 : decide (127 < (z : Int)) = false := decide_eq_false (by omega)
          have c4b1 : decide (127 < z) = false := decide_eq_false (by omega)
          have HE := Aside0.mk (enc_small z c4)
          have HX := Aside0.mk (show (z : Int) % 256 = (z : Int) by omega)
          clear c4
          go_wp2_with (first | ((with_reducible refine gate_builtin (b := .append) (xs := #[.tmp 27, .tmp 30]) rfl ?_); at_builtin; refine Kd.R_append (Kd.int .u8) (w0 := w) w.heap.size rfl (.tmp 27) (.tmp 30) 36 5 (.int .u8 0) 1 rfl Try.underlying36 info5 rfl (by decide) (by omega) _ d ((z : Int) % 256) [.int .u8 ((z : Int) % 256)] (fun _ => True) (fun _ => False) rfl rfl ?aP (fun _ hk => hk.elim) ?aF ?aO ?aB ?aS ?aL ?_; (case aP => exact rfl); (case aB => exact (Ls HB)); (case aF => exact (fun _ _ => trivial)); (case aO => exact (Rs HO.out)); (case aS => exact (Lz HB)); (case aL => have := LM.out; omega); intro v115 w6 ho hb hg hat; clear HB HO; have HB := Aside0.mk hb; have HO := Aside0.mk ho; clear ho hb hg hat))
          go_ret
          exact ⟨_, rfl, by have h := HO.out; rw [HX.out, ← HE.out, HA.out.1] at h; exact h, HB.out⟩
        · have c4b0 : decide (127 < (z : Int)) = true := decide_eq_true (by omega)
          have c4b1 : decide (127 < z) = true := decide_eq_true (by omega)
          have HE := Aside0.mk (enc_big z c4)
          have HX := Aside0.mk (show (z : Int) % 128 + 128 = ((z % 128 + 128 : Nat) : Int) by omega)
          have HN := Aside0.mk (show IntKind.u64.wrap ((z : Int) / 128) = ((z / 128 : Nat) : Int) by have h := HA.out.2.2.2; simp [IntKind.wrap, IntKind.bits, IntKind.signed]; omega)
          have H2 := Aside0.mk c4
          clear c4
          go_wp2_with (first | ((with_reducible refine gate_builtin (b := .append) (xs := #[.tmp 18, .tmp 23]) rfl ?_); at_builtin; refine Kd.R_append (Kd.int .u8) (w0 := w) w.heap.size rfl (.tmp 18) (.tmp 23) 36 5 (.int .u8 0) 1 rfl Try.underlying36 info5 rfl (by decide) (by omega) _ d ((z : Int) % 128 + 128) [.int .u8 ((z : Int) % 128 + 128)] (fun _ => True) (fun _ => False) rfl rfl ?aP (fun _ hk => hk.elim) ?aF ?aO ?aB ?aS ?aL ?_; (case aP => exact rfl); (case aB => exact (Ls HB)); (case aF => exact (fun _ _ => trivial)); (case aO => exact (Rs HO.out)); (case aS => exact (Lz HB)); (case aL => have := LM.out; omega); intro v115 w6 ho hb hg hat; clear HB HO; have HB := Aside0.mk hb; have HO := Aside0.mk ho; clear ho hb hg hat))
          go_roundg k2
          case measure => have := HA.out; omega
          case rel => exact ⟨z / 128, d ++ [((z % 128 + 128 : Nat) : Int)], by first | rfl | rw [HN.out] | simp, ⟨by have h1 := HA.out.1; have h2 := HE.out; rw [h2] at h1; rw [List.append_assoc]; exact h1, by have h1 := HA.out.2.1; rw [Nat.pow_succ] at h1; omega, by have := HA.out; omega, by have := HA.out; omega, by have h1 := HA.out.2.1; have h2 := H2.out; exact Nat.pos_of_ne_zero (fun h3 => by rw [h3] at h1; omega)⟩, ⟨by have h := HO.out; rw [HX.out] at h; exact h⟩, ⟨Ls HB⟩⟩

theorem or128 : ∀ a : Nat, a < 256 → a ||| 128 = a % 128 + 128 := by decide +kernel
theorem or_byte (z : Nat) : Go.bits .or .u8 ((z : Int) % 256) 128 = ((z % 128 + 128 : Nat) : Int) := by
  have h := u8_or_nat (z % 256) 128 (by omega) (by decide)
  rw [or128 _ (by omega)] at h
  rw [show (z : Int) % 256 = ((z % 256 : Nat) : Int) by omega]
  refine h.trans ?_
  omega
theorem xor_zig (a1 : Int) (h0 : -9223372036854775808 ≤ a1) (h1 : a1 ≤ 9223372036854775807) : Go.bits .xor .u64 (IntKind.u64.wrap (IntKind.u64.wrap (a1) * 2)) (IntKind.u64.wrap (a1 / 9223372036854775808)) = (zig a1 : Int) := by
  by_cases c : 0 ≤ a1
  · have e1 : IntKind.u64.wrap (IntKind.u64.wrap (a1) * 2) = ((2 * a1).toNat : Int) := by simp [IntKind.wrap, IntKind.bits, IntKind.signed]; omega
    have e2 : IntKind.u64.wrap (a1 / 9223372036854775808) = ((0 : Nat) : Int) := by simp [IntKind.wrap, IntKind.bits, IntKind.signed]; omega
    rw [e1, e2, bits_xor_u64_nat _ _ (by omega) (by decide), Nat.xor_zero]
    unfold zig; rw [if_pos c]
  · have e1 : IntKind.u64.wrap (IntKind.u64.wrap (a1) * 2) = ((2 * a1 + 18446744073709551616).toNat : Int) := by simp [IntKind.wrap, IntKind.bits, IntKind.signed]; omega
    have e2 : IntKind.u64.wrap (a1 / 9223372036854775808) = ((18446744073709551615 : Nat) : Int) := by simp [IntKind.wrap, IntKind.bits, IntKind.signed]; omega
    rw [e1, e2, bits_xor_u64_nat _ _ (by omega) (by decide), Nat.xor_comm]
    have ha : (2 * a1 + 18446744073709551616).toNat < 2 ^ 64 := by omega
    have h2 : 18446744073709551615 ^^^ (2 * a1 + 18446744073709551616).toNat = 2 ^ 64 - ((2 * a1 + 18446744073709551616).toNat + 1) := by
      apply Nat.eq_of_testBit_eq
      intro i
      rw [Nat.testBit_xor, show 18446744073709551615 = 2 ^ 64 - 1 from rfl, Nat.testBit_two_pow_sub_one, Nat.testBit_two_pow_sub_succ ha]
      by_cases hi : i < 64
      · simp [hi]
      · simp only [hi, decide_false, Bool.false_xor, Bool.false_and]
        exact Nat.testBit_lt_two_pow (Nat.lt_of_lt_of_le ha (Nat.pow_le_pow_right (n := 2) (by decide) (show 64 ≤ i by omega)))
    rw [h2]
    unfold zig; rw [if_neg c]
    omega
def put.f (l0 : List Int) (a1 : Int) : Option (List Int) := if -9223372036854775808 ≤ a1 then if a1 ≤ 9223372036854775807 then if l0.length < 1000000 then some (l0 ++ enc (zig a1)) else none else none else none
set_option maxHeartbeats 8000000 in
set_option maxRecDepth 100000 in
theorem put.calls (A0 : Option Addr) (c0 : Nat) (l0 : List Int) (a1 : Int) (r : List Int) (w : World) (hr0 : Kd.C (Kd.int .u8) w A0 l0.length l0) (hc0 : l0.length ≤ c0) (h : put.f l0 a1 = some r) :
    Calls Try.prog 17 #[.slice A0 l0.length c0, .int .i64 a1] w fun e w' => ∃ v0_ : Value, e = .returned (v0_) ∧ Kd.R (Kd.int .u8) 5 w' w.heap.size (fun _ => True) v0_ r ∧ Below w.heap.size w w' := by
  have H0 : -9223372036854775808 ≤ a1 := by
    by_cases c : -9223372036854775808 ≤ a1
    · exact c
    · unfold put.f at h; rw [if_neg c] at h; cases h
  have H1 : a1 ≤ 9223372036854775807 := by
    by_cases c : a1 ≤ 9223372036854775807
    · exact c
    · unfold put.f at h; rw [if_pos H0, if_neg c] at h; cases h
  unfold put.f at h
  rw [if_pos H0, if_pos H1] at h
  by_cases hl : l0.length < 1000000
  · rw [if_pos hl] at h
    obtain rfl := Option.some.inj h
    clear h
    have HL := Aside0.mk hl
    have HR0 := Aside0.mk hr0
    have HC0 := Aside0.mk hc0
    have HZ := Aside0.mk (zig_lt a1 H0 H1)
    have HX0 := Aside0.mk (xor_zig a1 H0 H1)
    obtain ⟨Z, hZ⟩ : ∃ Z, zig a1 = Z := ⟨_, rfl⟩
    rw [hZ] at HZ HX0 ⊢
    have HB := Aside0.mk (Below.refl w.heap.size w)
    have A1 : Aside0 (slices_Clone_byte_byte.f l0 = some l0) := ⟨by unfold slices_Clone_byte_byte.f; rw [if_pos (by omega)]⟩
    clear hl hr0 hZ H0 H1
    go_enter Try.func17, Try.ntmps17
    go_wp2_with (first | (go_at_call 43; with_reducible refine (slices_Clone_byte_byte.calls A0 l0.length l0 l0 _ HR0.out (Nat.le_refl _) A1.out).mono ?_; rintro e w1 ⟨v1, rfl, ho, hb⟩; clear HB; have HB := Aside0.mk hb; have HO := Aside0.mk ho; clear hb ho) | go_in)
    go_loopg [6, 5] 65 (fun kq v6 v5 w' => ∃ (z : Nat) (d : List Int), v6 = .int .u64 (z : Int) ∧ Aside0 (d ++ enc z = enc Z ∧ z < 2 ^ kq ∧ kq ≤ 65 ∧ z < 18446744073709551616 ∧ 1 ≤ kq) ∧ Aside0 (Kd.R (Kd.int .u8) 5 w' w.heap.size (fun _ => True) v5 (l0 ++ d)) ∧ Aside0 (Below w.heap.size w w'))
    case atStart => exact ⟨Z, [], by rw [HX0.out], ⟨by simp, by have := HZ.out; omega, by omega, HZ.out, by omega⟩, ⟨by rw [List.append_nil]; exact HO.out⟩, ⟨Ls HB⟩⟩
    case round =>
      obtain ⟨z, d, rfl, HA, HO, HB⟩ := hrel
      cases gk with
      | zero => exact absurd HA.out.2.2.2.2 (by omega)
      | succ k2 =>
        have LM : Aside0 ((l0 ++ d).length < 140737488355328) := ⟨by have h0 := HL.out; have h1 := congrArg List.length HA.out.1; have h2 := enc_ten Z HZ.out; rw [List.length_append] at h1 ⊢; omega⟩
        by_cases c4 : z < 128
        · have c4b0 : decide (128 ≤ (z : Int)) = false := decide_eq_false (by omega)
          have c4b1 : decide (128 ≤ z) = false := decide_eq_false (by omega)
          have HE := Aside0.mk (enc_small z c4)
          have HX := Aside0.mk (show (z : Int) % 256 = (z : Int) by omega)
          clear c4
          go_wp2_with (first | ((with_reducible refine gate_builtin (b := .append) (xs := #[.tmp 31, .tmp 34]) rfl ?_); at_builtin; refine Kd.R_append (Kd.int .u8) (w0 := w) w.heap.size rfl (.tmp 31) (.tmp 34) 36 5 (.int .u8 0) 1 rfl Try.underlying36 info5 rfl (by decide) (by omega) _ (l0 ++ d) ((z : Int) % 256) [.int .u8 ((z : Int) % 256)] (fun _ => True) (fun _ => False) rfl rfl ?aP (fun _ hk => hk.elim) ?aF ?aO ?aB ?aS ?aL ?_; (case aP => exact rfl); (case aB => exact (Ls HB)); (case aF => exact (fun _ _ => trivial)); (case aO => exact (Rs HO.out)); (case aS => exact (Lz HB)); (case aL => have := LM.out; omega); intro v115 w6 ho hb hg hat; clear HB HO; have HB := Aside0.mk hb; have HO := Aside0.mk ho; clear ho hb hg hat))
          go_ret
          exact ⟨_, rfl, by have h := HO.out; rw [HX.out, ← HE.out, List.append_assoc, HA.out.1] at h; exact h, HB.out⟩
        · have c4b0 : decide (128 ≤ (z : Int)) = true := decide_eq_true (by omega)
          have c4b1 : decide (128 ≤ z) = true := decide_eq_true (by omega)
          have HE := Aside0.mk (enc_big z c4)
          have HX := Aside0.mk (show Go.bits .or .u8 ((z : Int) % 256) 128 = ((z % 128 + 128 : Nat) : Int) by exact or_byte z)
          have HN := Aside0.mk (show (z : Int) / 128 = ((z / 128 : Nat) : Int) by have h := HA.out.2.2.2; omega)
          have H2 := Aside0.mk c4
          clear c4
          go_wp2_with (first | ((with_reducible refine gate_builtin (b := .append) (xs := #[.tmp 23, .tmp 27]) rfl ?_); at_builtin; refine Kd.R_append (Kd.int .u8) (w0 := w) w.heap.size rfl (.tmp 23) (.tmp 27) 36 5 (.int .u8 0) 1 rfl Try.underlying36 info5 rfl (by decide) (by omega) _ (l0 ++ d) (Go.bits .or .u8 ((z : Int) % 256) 128) [.int .u8 (Go.bits .or .u8 ((z : Int) % 256) 128)] (fun _ => True) (fun _ => False) rfl rfl ?aP (fun _ hk => hk.elim) ?aF ?aO ?aB ?aS ?aL ?_; (case aP => exact rfl); (case aB => exact (Ls HB)); (case aF => exact (fun _ _ => trivial)); (case aO => exact (Rs HO.out)); (case aS => exact (Lz HB)); (case aL => have := LM.out; omega); intro v115 w6 ho hb hg hat; clear HB HO; have HB := Aside0.mk hb; have HO := Aside0.mk ho; clear ho hb hg hat))
          go_roundg k2
          case measure => have := HA.out; omega
          case rel => exact ⟨z / 128, d ++ [((z % 128 + 128 : Nat) : Int)], by first | rfl | rw [HN.out] | simp, ⟨by have h1 := HA.out.1; have h2 := HE.out; rw [h2] at h1; rw [List.append_assoc]; exact h1, by have h1 := HA.out.2.1; rw [Nat.pow_succ] at h1; omega, by have := HA.out; omega, by have := HA.out; omega, by have h1 := HA.out.2.1; have h2 := H2.out; exact Nat.pos_of_ne_zero (fun h3 => by rw [h3] at h1; omega)⟩, ⟨by have h := HO.out; rw [HX.out, List.append_assoc] at h; exact h⟩, ⟨Ls HB⟩⟩
  · rw [if_neg hl] at h
    cases h
end Go.Proofs.Ytobfhacdljmooaa.C
