/- Numbers as bytes: the walk of GetInt. -/
import Derived.Test.YtobfhacdljmooaaC2a
namespace Go.Proofs.Ytobfhacdljmooaa.C
open Go.RowKit Go.Proofs.YtobfhacdljmooaaW.PrintWords Go.Proofs.YtobfhacdljmooaaW.PrintLast Go.Proofs.YtobfhacdljmooaaW.PrintMore Go.Proofs.Ytobfhacdljmooaa.Sq Go.Proofs.Ytobfhacdljmooaa.CM
set_option linter.unusedVariables false
set_option linter.unusedSimpArgs false
theorem cut3 (A : Option Addr) (n m c : Nat) (hm : m ≤ n) (hc : n ≤ c) (W : World) :
    (Instr.slice 36 (.slice A n c) (some (.int .i64 (m : Int))) (some (.int .i64 (n : Int))) (some (.int .i64 (n : Int)))).run Try.prog W = .ok (.slice (if n = m then A else A.map (·.add (m * 1))) (n - m) (n - m)) W := by
  have hel : Try.prog.elem 36 = 5 := by simp [Program.elem, Try.underlying36]
  have hu : Try.prog.underlying 36 = some (.slice (Try.prog.elem 36)) := by rw [hel]; exact Try.underlying36
  rw [run_slice_lhm W 36 A n c hu .i64 .i64 .i64 (m : Int) (n : Int) (n : Int) (Int.natCast_nonneg _) (by omega) (Int.le_refl _) (by omega), hel]
  have h5 := info5
  cases hi : Try.prog.info? 5 with
  | none => rw [hi] at h5; cases h5
  | some i =>
    rw [hi] at h5
    have hs : i.size = 1 := by
      have := Option.some.inj h5
      exact congrArg (fun x => x.2.1) this
    simp [sizeOf, typeInfo, hi, hs, sliced, Result.andThen]
set_option maxHeartbeats 8000000 in
set_option maxRecDepth 100000 in
theorem get_in (A0 : Option Addr) (c0 : Nat) (l0 : List Int) (m : Nat) (w : World) (hr0 : Kd.C (Kd.int .u8) w A0 l0.length l0) (hc0 : l0.length ≤ c0) (hl : l0.length < 1000000) (hm : m ≤ l0.length) (hb : Bytes l0) :
    Calls Try.prog 21 #[.slice A0 l0.length c0, .int .i64 (m : Int)] w fun e w' => e = .returned (.tuple #[.int .i64 (getN l0 m).1, .int .i64 (getN l0 m).2.1, .bool (getN l0 m).2.2]) ∧ w' = w := by
  have hcut := cut3 A0 l0.length m c0 hm hc0
  have hD := Kd.C_drop (k := Kd.int .u8) (m := m) (c := l0.length) hr0 hm (Nat.le_refl _)
  rw [show (Kd.int IntKind.u8).sz = 1 from rfl] at hD
  generalize (if l0.length = m then A0 else A0.map (·.add (m * 1))) = A1 at hcut hD
  have c1 : decide ((m : Int) < 0) = false := decide_eq_false (by omega)
  have c2 : decide ((l0.length : Int) < (m : Int)) = false := decide_eq_false (by omega)
  have c3 : decide (l0.length < m) = false := decide_eq_false (by omega)
  have HB := Aside0.mk (show Bytes (l0.drop m) from fun c h => hb c (List.mem_of_mem_drop h))
  have HG : Aside0 (getN l0 m = match getZ 0 0 (l0.drop m) with | none => (0, 0, false) | some (z, n) => (unzig z, (m : Int) + n, true)) := ⟨by unfold getN; rw [if_neg (by omega)]; rfl⟩
  have HM : Aside0 (m ≤ l0.length ∧ l0.length < 1000000) := ⟨⟨hm, hl⟩⟩
  have HD := Aside0.mk hD
  have HLn : Aside0 ((l0.drop m).length = l0.length - m) := ⟨List.length_drop⟩
  generalize l0.drop m = L at HD HB HG HLn
  obtain ⟨N, hN⟩ : ∃ N, getN l0 m = N := ⟨_, rfl⟩
  rw [hN] at HG ⊢
  clear hN hb hm hl hc0 hr0 hD
  obtain ⟨ll, hll⟩ : ∃ ll, l0.length - m = ll := ⟨_, rfl⟩
  rw [hll] at hcut HLn
  have HQ := Aside0.mk hll
  clear hll
  go_enter Try.func21, Try.ntmps21
  go_wp2_with go_in
  go_loopg [7, 26] (ll + 1) (fun kq v7 v26 w' => ∃ (z i : Int), v7 = .int .u64 z ∧ v26 = .int .i64 i ∧ Aside0 (0 ≤ z ∧ 0 ≤ i ∧ getZ i.toNat z.toNat (L.drop i.toNat) = getZ 0 0 L ∧ z.toNat < 128 ^ i.toNat ∧ i ≤ ll ∧ i ≤ 9 ∧ kq + i = ll + 1) ∧ w' = w)
  case atStart => exact ⟨0, 0, rfl, rfl, ⟨by omega, by omega, by simp, by decide, by omega, by omega, by omega⟩, rfl⟩
  case round =>
    obtain ⟨z, i, rfl, rfl, HA, rfl⟩ := hrel
    cases gk with
    | zero => exact absurd HA.out (by omega)
    | succ k1 =>
      have hA := HA.out
      by_cases c4 : i < (ll : Int)
      · have c4b : decide (i < (ll : Int)) = true := decide_eq_true c4
        have hln := HLn.out
        have p1 : 0 ≤ i := hA.2.1
        have q1 : i < (L.length : Int) := by omega
        obtain ⟨ad, e, hx⟩ := Kd.at_int HD.out i p1 q1
        cases e
        have hdrop : L.drop i.toNat = rd L i :: L.drop (i.toNat + 1) := by
          rw [List.drop_eq_getElem_cons (by omega)]
          congr 1
          unfold rd
          rw [List.getD_eq_getElem?_getD, List.getElem?_eq_getElem (by omega)]; rfl
        have hbyte := HB.out (rd L i) (by
          have : rd L i ∈ L.drop i.toNat := by rw [hdrop]; exact List.mem_cons_self
          exact List.mem_of_mem_drop this)
        have HS : Aside0 (getZ i.toNat z.toNat (rd L i :: L.drop (i.toNat + 1)) = getZ 0 0 L) := ⟨by rw [← hdrop]; exact hA.2.2.1⟩
        generalize rd L i = y at *
        have HY := Aside0.mk hbyte
        have HI := Aside0.mk (And.intro p1 c4)
        have P1 := eq_true p1
        have Q1 := eq_true c4
        by_cases c5 : (i = 9 ∧ 1 < y) ∨ (0 < i ∧ y = 0)
        · have HX : Aside0 (N = (0, 0, false)) := ⟨by
            have h1 := HS.out
            rw [getZ, if_pos (by omega)] at h1
            rw [HG.out, ← h1]⟩
          have d : ((i == 9) = true ∧ decide (1 < y) = true) ∨ ((i == 9) = true ∧ decide (1 < y) = false ∧ decide (0 < i) = true ∧ (y == 0) = true) ∨ ((i == 9) = false ∧ decide (0 < i) = true ∧ (y == 0) = true) := by
            simp only [beq_iff_eq, decide_eq_true_eq, decide_eq_false_iff_not, beq_eq_false_iff_ne]
            omega
          clear hA c4 c5 hdrop hln p1 q1 hbyte
          rcases d with ⟨d1, d2⟩ | ⟨d1, d2, d3, d4⟩ | ⟨d1, d2, d3⟩
          all_goals
            go_wp2
            go_ret3
            exact ⟨by rw [HX.out]; rfl, rfl⟩
        · have d : ((i == 9) = true ∧ decide (1 < y) = false ∧ decide (0 < i) = true ∧ (y == 0) = false) ∨ ((i == 9) = false ∧ decide (0 < i) = true ∧ (y == 0) = false) ∨ ((i == 9) = false ∧ decide (0 < i) = false) := by
            simp only [beq_iff_eq, decide_eq_true_eq, decide_eq_false_iff_not, beq_eq_false_iff_ne]
            omega
          have hsh := shl_run y i hbyte ⟨p1, hA.2.2.2.2.2.1⟩ (fun h => by omega)
          have hT : y.toNat % 128 * 128 ^ i.toNat < 18446744073709551616 := pow_small _ _ (by omega) (by omega) (fun h => by omega)
          have hor := or_run z.toNat (y.toNat % 128) i.toNat hA.2.2.2.1 (by omega) hT
          rw [Int.toNat_of_nonneg hA.1] at hor
          have HT : Aside0 (z.toNat + y.toNat % 128 * 128 ^ i.toNat < 18446744073709551616) := ⟨by
            have h1 : 128 ^ i.toNat ≤ 128 ^ 9 := Nat.pow_le_pow_right (by decide) (by omega)
            by_cases h9 : i = 9
            · have h2 : y.toNat % 128 ≤ 1 := by omega
              have h3 : y.toNat % 128 * 128 ^ i.toNat ≤ 1 * 128 ^ 9 := Nat.mul_le_mul h2 h1
              have := hA.2.2.2.1
              omega
            · have h1 : 128 ^ i.toNat ≤ 128 ^ 8 := Nat.pow_le_pow_right (by decide) (by omega)
              have h3 : y.toNat % 128 * 128 ^ i.toNat ≤ 127 * 128 ^ 8 := Nat.mul_le_mul (by omega) h1
              have := hA.2.2.2.1
              omega⟩
          obtain ⟨Z', hZ'⟩ : ∃ Z' : Nat, z.toNat + y.toNat % 128 * 128 ^ i.toNat = Z' := ⟨_, rfl⟩
          rw [hZ'] at hor HT
          obtain ⟨S, hS⟩ : ∃ S : Int, ((y.toNat % 128 * 128 ^ i.toNat : Nat) : Int) = S := ⟨_, rfl⟩
          rw [hS] at hsh hor
          have HO := Aside0.mk hor
          by_cases c6 : y < 128
          · have d3 : decide (y < 128) = true := decide_eq_true c6
            have HX : Aside0 (N = (unzig Z', (m : Int) + ((i.toNat + 1 : Nat) : Int), true)) := ⟨by
              have h1 := HS.out
              rw [getZ, if_neg (by omega), if_pos c6, show y.toNat = y.toNat % 128 by omega, hZ'] at h1
              rw [HG.out, ← h1]⟩
            clear hA c4 c5 c6 hdrop hln p1 q1 hbyte hT hor hS hZ'
            rcases d with ⟨d1, d2, d3, d4⟩ | ⟨d1, d2, d3⟩ | ⟨d1, d2⟩
            all_goals
              go_wp2
              go_ret3
              exact ⟨by
                rw [HX.out, HO.out, unzig_run Z' HT.out]
                have h1 := HI.out
                have h2 := HM.out
                have h3 := HQ.out
                rw [show wrap64 (wrap64 ((m : Int) + i) + 1) = (m : Int) + ((i.toNat + 1 : Nat) : Int) by unfold wrap64; omega]; rfl, rfl⟩
          · have d3 : decide (y < 128) = false := decide_eq_false c6
            have HX : Aside0 (getZ (i + 1).toNat Z' (L.drop (i + 1).toNat) = getZ 0 0 L) := ⟨by
              have h1 := HS.out
              rw [getZ, if_neg (by omega), if_neg c6, show (y.toNat - 128) = y.toNat % 128 by omega, hZ'] at h1
              rw [show (i + 1).toNat = i.toNat + 1 by omega]; exact h1⟩
            have HP : Aside0 (Z' < 128 ^ (i + 1).toNat) := ⟨by
              rw [show (i + 1).toNat = i.toNat + 1 by omega, Nat.pow_succ, ← hZ']
              have h1 := hA.2.2.2.1
              have h3 : y.toNat % 128 * 128 ^ i.toNat ≤ 127 * 128 ^ i.toNat := Nat.mul_le_mul_right _ (by omega)
              generalize 128 ^ i.toNat = B at *
              generalize y.toNat % 128 * B = C at *
              omega⟩
            have H9 : Aside0 (i ≤ 8) := ⟨by omega⟩
            have HK := Aside0.mk hA
            clear hA c4 c5 c6 hdrop hln p1 q1 hbyte hT hor hS hZ'
            rcases d with ⟨d1, d2, d3, d4⟩ | ⟨d1, d2, d3⟩ | ⟨d1, d2⟩
            all_goals
              go_wp2
              go_roundg k1
              case measure => have := HK.out; omega
              case rel =>
                have h1 := HI.out
                have h2 := HM.out
                have h3 := HQ.out
                have h4 := HK.out
                have h9 := H9.out
                exact ⟨(Z' : Int), i + 1, by rw [HO.out], by rw [show wrap64 (i + 1) = i + 1 by unfold wrap64; omega], ⟨by omega, by omega, by rw [Int.toNat_natCast]; exact HX.out, by rw [Int.toNat_natCast]; exact HP.out, by omega, by omega, by omega⟩, rfl⟩
      · have c4b : decide (i < (ll : Int)) = false := decide_eq_false c4
        have HX : Aside0 (N = (0, 0, false)) := ⟨by
          have h1 := hA.2.2.1
          rw [List.drop_eq_nil_of_le (by have := HLn.out; omega)] at h1
          rw [HG.out, ← h1]; rfl⟩
        clear c4 hA
        go_wp2
        go_ret3
        exact ⟨by rw [HX.out]; rfl, rfl⟩
end Go.Proofs.Ytobfhacdljmooaa.C
