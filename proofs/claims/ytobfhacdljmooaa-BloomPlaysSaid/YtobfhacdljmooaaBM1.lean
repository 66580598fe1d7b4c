/- Plain laws of the filters of bits: masks, words, what Add, Has and Union do to lists of numbers. -/
import Derived.Test.YtobfhacdljmooaaPBloomx1
import Derived.Test.YtobfhacdljmooaaPBloomx2
set_option linter.unusedVariables false
set_option linter.unusedSimpArgs false
namespace Go.Proofs.Ytobfhacdljmooaa.PBloom
open Go.RowKit Go.Proofs.YtobfhacdljmooaaW.PrintWords Go.Proofs.YtobfhacdljmooaaW.PrintLast Go.Proofs.YtobfhacdljmooaaW.PrintMore

/-- numbers as the print has them -/
def li (l : List Nat) : List Int := l.map (fun n : Nat => (n : Int))
theorem li_length (l : List Nat) : (li l).length = l.length := by simp [li]
theorem li_set (l : List Nat) (i n : Nat) : (li l).set i (n : Int) = li (l.set i n) := by simp [li]
theorem rd_li (l : List Nat) (i : Nat) : rd (li l) (i : Int) = ((l.getD i 0 : Nat) : Int) := by
  simp only [rd, li, Int.toNat_natCast, List.getD_eq_getElem?_getD, List.getElem?_map]
  cases l[i]? <;> simp
theorem li_append (a b : List Nat) : li (a ++ b) = li a ++ li b := by simp [li]
theorem li_of (l : List Int) (h : ∀ x ∈ l, (Lit.int .u64 x).wf = true) : ∃ m : List Nat, l = li m ∧ ∀ x ∈ m, x < 18446744073709551616 := by
  induction l with
  | nil => exact ⟨[], rfl, by simp⟩
  | cons x l ih =>
    obtain ⟨m, rfl, hm⟩ := ih fun y hy => h y (List.mem_cons_of_mem _ hy)
    have hx := h x (by simp)
    simp [Lit.wf, IntKind.min, IntKind.max, IntKind.bits, IntKind.signed] at hx
    refine ⟨x.toNat :: m, ?_, ?_⟩
    · simp [li]; omega
    · intro y hy
      rcases List.mem_cons.1 hy with rfl | hy
      · omega
      · exact hm y hy

theorem u64_in (n : Int) (h₀ : 0 ≤ n) (h₁ : n < 18446744073709551616) : IntKind.u64.wrap n = n := by
  simp [IntKind.wrap, IntKind.bits, IntKind.signed]; omega
theorem w64_in (n : Int) (h₀ : -9223372036854775808 ≤ n) (h₁ : n < 9223372036854775808) : wrap64 n = n := by unfold wrap64; omega
theorem bor (a b : Nat) (ha : a < 2 ^ 64) (hb : b < 2 ^ 64) : Go.bits .or .u64 (a : Int) (b : Int) = ((a ||| b : Nat) : Int) :=
  (bits_nat .u64 64 (by decide) (fun n h0 h1 => u64_in n h0 (by simpa using h1)) a b ha hb).2
theorem band (a b : Nat) (ha : a < 2 ^ 64) (hb : b < 2 ^ 64) : Go.bits .and .u64 (a : Int) (b : Int) = ((a &&& b : Nat) : Int) :=
  (bits_nat .u64 64 (by decide) (fun n h0 h1 => u64_in n h0 (by simpa using h1)) a b ha hb).1

/-- the mask of the first i numbers of h -/
def mk (h : Nat) : Nat → Nat
  | 0 => 0
  | i + 1 => mk h i ||| 2 ^ (h / 2 ^ (6 * i) % 64)
def bk (h n : Nat) : Nat := h / 4294967296 % n
theorem mk_lt (h i : Nat) : mk h i < 2 ^ 64 := by
  induction i with
  | zero => simp [mk]
  | succ i ih => exact Nat.or_lt_two_pow ih (Nat.pow_lt_pow_right (by decide) (Nat.mod_lt _ (by decide)))

theorem bucket_eq (h n : Nat) (hn : 1 ≤ n) (hm : n < 9223372036854775808) : hash_Bucket.f (h : Int) (n : Int) = some ((bk h n : Nat) : Int) := by
  have hw : IntKind.u64.wrap (n : Int) = n := u64_in _ (by omega) (by omega)
  unfold hash_Bucket.f
  rw [if_neg (by omega), hw, if_neg (by omega)]
  have e : Int.tmod ((h : Int) / 4294967296) (n : Int) = ((bk h n : Nat) : Int) := by
    rw [Int.tmod_eq_emod_of_nonneg (by omega)]
    simp [bk]
  have : bk h n < n := Nat.mod_lt _ (by omega)
  rw [e, w64_in _ (by omega) (by omega)]

theorem mask_loop (h : Nat) (hh : h < 18446744073709551616) (b : Nat) (hb : b ≤ 5) (l : List Int) (hl : 1 ≤ l.length) (hl' : l.length < 9223372036854775808) (d : Nat) :
    ∀ i : Nat, i + d = b → Ev (fun k => bloom_mask.l0 k (h : Int) ((mk h i : Nat) : Int) (b : Int) (i : Int) l (b : Int)) (((bk h l.length : Nat) : Int), ((mk h b : Nat) : Int)) := by
  induction d with
  | zero =>
    intro i hi
    obtain rfl : i = b := by omega
    refine Ev.step (f := fun _ => _) (fun k => ?_) (Ev.now _)
    simp only [bloom_mask.l0]
    rw [if_neg (by omega), bucket_eq _ _ hl hl']
    rfl
  | succ d ih =>
    intro i hi
    refine Ev.step (fun k => ?_) (ih (i + 1) (by omega))
    simp only [bloom_mask.l0]
    have e1 : wrap64 (6 * (i : Int)) = ((6 * i : Nat) : Int) := by rw [w64_in _ (by omega) (by omega)]; omega
    have e2 : shr .u64 (h : Int) ((6 * i : Nat) : Int) = ((h / 2 ^ (6 * i) : Nat) : Int) := by
      unfold shr
      rw [Int.toNat_natCast, Nat.min_eq_left (show 6 * i ≤ IntKind.u64.bits by show 6 * i ≤ 64; omega)]
      simp
    have e3 : Int.tmod ((h / 2 ^ (6 * i) : Nat) : Int) 64 = ((h / 2 ^ (6 * i) % 64 : Nat) : Int) := by
      rw [Int.tmod_eq_emod_of_nonneg (Int.natCast_nonneg _)]; simp
    have lt : h / 2 ^ (6 * i) % 64 < 64 := Nat.mod_lt _ (by decide)
    have e4 : shl .u64 1 ((h / 2 ^ (6 * i) % 64 : Nat) : Int) = ((2 ^ (h / 2 ^ (6 * i) % 64) : Nat) : Int) := by
      unfold shl
      rw [Int.toNat_natCast, Nat.min_eq_left (show h / 2 ^ (6 * i) % 64 ≤ IntKind.u64.bits by show _ ≤ 64; omega)]
      have : 2 ^ (h / 2 ^ (6 * i) % 64) < 2 ^ 64 := Nat.pow_lt_pow_right (by decide) lt
      rw [Int.one_mul, u64_in]
      · simp
      · exact Int.pow_nonneg (by decide)
      · have : ((2 ^ (h / 2 ^ (6 * i) % 64) : Nat) : Int) < ((2 ^ 64 : Nat) : Int) := by exact_mod_cast this
        simpa using this
    rw [if_pos (by omega), e1, if_pos (Int.natCast_nonneg _), e2, e3, if_pos (Int.natCast_nonneg _), e4, bor _ _ (mk_lt _ _) (Nat.pow_lt_pow_right (by decide) lt), w64_in _ (by omega) (by omega)]
    simp [mk]
theorem mask_ev (h : Nat) (hh : h < 18446744073709551616) (b : Nat) (hb : b ≤ 5) (l : List Int) (hl : 1 ≤ l.length) (hl' : l.length < 9223372036854775808) :
    Ev (fun k => bloom_mask.f k l (b : Int) (h : Int)) (((bk h l.length : Nat) : Int), ((mk h b : Nat) : Int)) :=
  mask_loop h hh b hb l hl hl' b 0 (by omega)
end Go.Proofs.Ytobfhacdljmooaa.PBloom
