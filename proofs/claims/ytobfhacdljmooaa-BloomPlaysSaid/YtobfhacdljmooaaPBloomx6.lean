-- written for this claim by wip/pr/hand.py (the kit's print, with contracts proved by hand)
import Derived.Test.YtobfhacdljmooaaPBloomx0
import Derived.Test.YtobfhacdljmooaaSq
import Derived.Test.YtobfhacdljmooaaPBloomx1
import Derived.Test.YtobfhacdljmooaaPBloomx2
import Derived.Test.YtobfhacdljmooaaPBloomx4
import Derived.Test.YtobfhacdljmooaaPBloomx5
namespace Go.Proofs.Ytobfhacdljmooaa.PBloom
open Go.RowKit Go.Proofs.YtobfhacdljmooaaW.PrintWords Go.Proofs.YtobfhacdljmooaaW.PrintLast Go.Proofs.YtobfhacdljmooaaW.PrintMore Go.Proofs.Ytobfhacdljmooaa.Sq
attribute [local go_sem] max2_int min2_int max_two min_two max_three min_three max_four min_four   -- for this text's walks alone
set_option linter.unusedVariables false
set_option linter.unusedSimpArgs false

/-! ### trommellaw18_BloomPlays: function 5 -/
mutual
def trommellaw18_BloomPlays.j0 : Nat → Int → Int → List Int → Int → Bool → Option (Bool)
  | 0, _, _, _, _, _ => none
  | k + 1, x0, x1, x2, x3, x26 => if x26 = true then ((trommellaw18_live.f k).bind fun t257 => (some t257)) else (if x0 > 64 then ((bloom_New.f x0 x1).bind fun bt258 => ((bloom_Words.f bt258.1 bt258.2).bind fun t262 => (if (t262.length : Int) = 4096 then ((trommellaw18_live.f k).bind fun t265 => (some t265)) else (some false)))) else ((bloom_New.f x0 x1).bind fun bt266 => ((trommelref18_New.f x0 x1).bind fun bt270 => (trommellaw18_BloomPlays.l0 k x2 x3 0 bt266.1 bt266.2 bt270.1 bt270.2))))
def trommellaw18_BloomPlays.l0 : Nat → List Int → Int → Int → List Int → Int → List Bool → Int → Option (Bool)
  | 0, _, _, _, _, _, _, _ => none
  | k + 1, x2, x3, x11, x275000, x275001, x276000, x276001 => if x11 < (x2.length : Int) then (if 0 ≤ x11 then ((bloom_Add.f k x275000 x275001 (([rd x2 x11] : List Int))).bind fun bt280 => ((trommelref18_Add.f k x276000 x276001 (rd x2 x11)).bind fun bt285 => (trommellaw18_BloomPlays.l0 k x2 x3 (wrap64 (x11 + 1)) bt280.1 bt280.2 bt285.1 bt285.2))) else (none)) else ((bloom_Words.f x275000 x275001).bind fun t289 => (if (t289.length : Int) = (wrap64 ((x276000.length : Int) / 64)) then ((bloom_Bits.f x275000 x275001).bind fun t292 => (trommellaw18_BloomPlays.j2 k x3 t289 (t292 != x276001) x275000 x275001 x276000 x276001)) else (trommellaw18_BloomPlays.j2 k x3 t289 true x275000 x275001 x276000 x276001)))
def trommellaw18_BloomPlays.j2 : Nat → Int → List Int → Bool → List Int → Int → List Bool → Int → Option (Bool)
  | 0, _, _, _, _, _, _, _ => none
  | k + 1, x3, x12, x79, x275000, x275001, x276000, x276001 => if x79 = true then (some false) else (trommellaw18_BloomPlays.l1 k x3 x12 0 0 x275000 x275001 x276000 x276001)
def trommellaw18_BloomPlays.l1 : Nat → Int → List Int → Int → Int → List Int → Int → List Bool → Int → Option (Bool)
  | 0, _, _, _, _, _, _, _, _ => none
  | k + 1, x3, x12, x13, x14, x275000, x275001, x276000, x276001 => if x14 < (x12.length : Int) then (if 0 ≤ x14 then ((trommelref18_Word.f k x276000 x276001 x14).bind fun t294 => (if (rd x12 x14) = t294 then (trommellaw18_BloomPlays.l1 k x3 x12 x13 (wrap64 (x14 + 1)) x275000 x275001 x276000 x276001) else (some false))) else (none)) else (trommellaw18_BloomPlays.l2 k x3 x13 0 x275000 x275001 x276000 x276001)
def trommellaw18_BloomPlays.l2 : Nat → Int → Int → Int → List Int → Int → List Bool → Int → Option (Bool)
  | 0, _, _, _, _, _, _, _ => none
  | k + 1, x3, x13, x15, x275000, x275001, x276000, x276001 => if x15 < (x276000.length : Int) then (if 0 ≤ x15 then (if rdOf false x276000 x15 = true then (trommellaw18_BloomPlays.l2 k x3 (wrap64 (x13 + 1)) (wrap64 (x15 + 1)) x275000 x275001 x276000 x276001) else (trommellaw18_BloomPlays.l2 k x3 x13 (wrap64 (x15 + 1)) x275000 x275001 x276000 x276001)) else (none)) else ((bloom_Ones.f k x275000 x275001).bind fun t296 => (if t296 = x13 then ((bloom_Has.f k x275000 x275001 x3).bind fun t297 => ((trommelref18_Has.f k x276000 x276001 x3).bind fun t298 => (if (t297 == t298) = true then ((trommellaw18_live.f k).bind fun t299 => (some t299)) else (some false)))) else (some false)))
end
def trommellaw18_BloomPlays.f (k : Nat) (a0 : Int) (a1 : Int) (l2 : List Int) (a3 : Int) : Option (Bool) := if (l2.length : Int) > 50 then (trommellaw18_BloomPlays.j0 k a0 a1 l2 a3 true) else (if a0 > 64 then (trommellaw18_BloomPlays.j0 k a0 a1 l2 a3 (decide (a0 < 4096))) else (trommellaw18_BloomPlays.j0 k a0 a1 l2 a3 false))
theorem trommellaw18_BloomPlays.mono_l : ∀ k, (∀ y0 y1 y2 y3 y4, LeO (trommellaw18_BloomPlays.j0 k y0 y1 y2 y3 y4) (trommellaw18_BloomPlays.j0 (k + 1) y0 y1 y2 y3 y4)) ∧ (∀ y0 y1 y2 y3 y4 y5 y6, LeO (trommellaw18_BloomPlays.l0 k y0 y1 y2 y3 y4 y5 y6) (trommellaw18_BloomPlays.l0 (k + 1) y0 y1 y2 y3 y4 y5 y6)) ∧ (∀ y0 y1 y2 y3 y4 y5 y6, LeO (trommellaw18_BloomPlays.j2 k y0 y1 y2 y3 y4 y5 y6) (trommellaw18_BloomPlays.j2 (k + 1) y0 y1 y2 y3 y4 y5 y6)) ∧ (∀ y0 y1 y2 y3 y4 y5 y6 y7, LeO (trommellaw18_BloomPlays.l1 k y0 y1 y2 y3 y4 y5 y6 y7) (trommellaw18_BloomPlays.l1 (k + 1) y0 y1 y2 y3 y4 y5 y6 y7)) ∧ (∀ y0 y1 y2 y3 y4 y5 y6, LeO (trommellaw18_BloomPlays.l2 k y0 y1 y2 y3 y4 y5 y6) (trommellaw18_BloomPlays.l2 (k + 1) y0 y1 y2 y3 y4 y5 y6))
  | 0 => ⟨fun _ _ _ _ _ r h => by simp [trommellaw18_BloomPlays.j0] at h, fun _ _ _ _ _ _ _ r h => by simp [trommellaw18_BloomPlays.l0] at h, fun _ _ _ _ _ _ _ r h => by simp [trommellaw18_BloomPlays.j2] at h, fun _ _ _ _ _ _ _ _ r h => by simp [trommellaw18_BloomPlays.l1] at h, fun _ _ _ _ _ _ _ r h => by simp [trommellaw18_BloomPlays.l2] at h⟩
  | k + 1 => by
    obtain ⟨ih0, ih1, ih2, ih3, ih4⟩ := trommellaw18_BloomPlays.mono_l k
    refine ⟨?_, ?_, ?_, ?_, ?_⟩
    · intro y0 y1 y2 y3 y4
      unfold trommellaw18_BloomPlays.j0
      repeat' first
      | (with_reducible exact ih0 _ _ _ _ _)
      | (with_reducible exact ih1 _ _ _ _ _ _ _)
      | (with_reducible exact ih2 _ _ _ _ _ _ _)
      | (with_reducible exact ih3 _ _ _ _ _ _ _ _)
      | (with_reducible exact ih4 _ _ _ _ _ _ _)
      | (with_reducible exact bloom_Add.mono _ _ _ _)
      | (with_reducible exact bloom_Has.mono _ _ _ _)
      | (with_reducible exact bloom_Ones.mono _ _ _)
      | (with_reducible exact trommellaw18_live.mono _)
      | (with_reducible exact trommelref18_Add.mono _ _ _ _)
      | (with_reducible exact trommelref18_Has.mono _ _ _ _)
      | (with_reducible exact trommelref18_Word.mono _ _ _ _)
      | (with_reducible exact LeO.refl _)
      | (with_reducible exact LeO.none _)
      | (with_reducible refine LeO.ite ?_ ?_)
      | (with_reducible refine LeO.bind ?_ (fun _ => ?_))
      | exact ih0 _ _ _ _ _
      | exact ih1 _ _ _ _ _ _ _
      | exact ih2 _ _ _ _ _ _ _
      | exact ih3 _ _ _ _ _ _ _ _
      | exact ih4 _ _ _ _ _ _ _
      | exact bloom_Add.mono _ _ _ _
      | exact bloom_Has.mono _ _ _ _
      | exact bloom_Ones.mono _ _ _
      | exact trommellaw18_live.mono _
      | exact trommelref18_Add.mono _ _ _ _
      | exact trommelref18_Has.mono _ _ _ _
      | exact trommelref18_Word.mono _ _ _ _
      | exact LeO.none _
      | refine LeO.ite ?_ ?_
      | refine LeO.bind ?_ (fun _ => ?_)
    · intro y0 y1 y2 y3 y4 y5 y6
      unfold trommellaw18_BloomPlays.l0
      repeat' first
      | (with_reducible exact ih0 _ _ _ _ _)
      | (with_reducible exact ih1 _ _ _ _ _ _ _)
      | (with_reducible exact ih2 _ _ _ _ _ _ _)
      | (with_reducible exact ih3 _ _ _ _ _ _ _ _)
      | (with_reducible exact ih4 _ _ _ _ _ _ _)
      | (with_reducible exact bloom_Add.mono _ _ _ _)
      | (with_reducible exact bloom_Has.mono _ _ _ _)
      | (with_reducible exact bloom_Ones.mono _ _ _)
      | (with_reducible exact trommellaw18_live.mono _)
      | (with_reducible exact trommelref18_Add.mono _ _ _ _)
      | (with_reducible exact trommelref18_Has.mono _ _ _ _)
      | (with_reducible exact trommelref18_Word.mono _ _ _ _)
      | (with_reducible exact LeO.refl _)
      | (with_reducible exact LeO.none _)
      | (with_reducible refine LeO.ite ?_ ?_)
      | (with_reducible refine LeO.bind ?_ (fun _ => ?_))
      | exact ih0 _ _ _ _ _
      | exact ih1 _ _ _ _ _ _ _
      | exact ih2 _ _ _ _ _ _ _
      | exact ih3 _ _ _ _ _ _ _ _
      | exact ih4 _ _ _ _ _ _ _
      | exact bloom_Add.mono _ _ _ _
      | exact bloom_Has.mono _ _ _ _
      | exact bloom_Ones.mono _ _ _
      | exact trommellaw18_live.mono _
      | exact trommelref18_Add.mono _ _ _ _
      | exact trommelref18_Has.mono _ _ _ _
      | exact trommelref18_Word.mono _ _ _ _
      | exact LeO.none _
      | refine LeO.ite ?_ ?_
      | refine LeO.bind ?_ (fun _ => ?_)
    · intro y0 y1 y2 y3 y4 y5 y6
      unfold trommellaw18_BloomPlays.j2
      repeat' first
      | (with_reducible exact ih0 _ _ _ _ _)
      | (with_reducible exact ih1 _ _ _ _ _ _ _)
      | (with_reducible exact ih2 _ _ _ _ _ _ _)
      | (with_reducible exact ih3 _ _ _ _ _ _ _ _)
      | (with_reducible exact ih4 _ _ _ _ _ _ _)
      | (with_reducible exact bloom_Add.mono _ _ _ _)
      | (with_reducible exact bloom_Has.mono _ _ _ _)
      | (with_reducible exact bloom_Ones.mono _ _ _)
      | (with_reducible exact trommellaw18_live.mono _)
      | (with_reducible exact trommelref18_Add.mono _ _ _ _)
      | (with_reducible exact trommelref18_Has.mono _ _ _ _)
      | (with_reducible exact trommelref18_Word.mono _ _ _ _)
      | (with_reducible exact LeO.refl _)
      | (with_reducible exact LeO.none _)
      | (with_reducible refine LeO.ite ?_ ?_)
      | (with_reducible refine LeO.bind ?_ (fun _ => ?_))
      | exact ih0 _ _ _ _ _
      | exact ih1 _ _ _ _ _ _ _
      | exact ih2 _ _ _ _ _ _ _
      | exact ih3 _ _ _ _ _ _ _ _
      | exact ih4 _ _ _ _ _ _ _
      | exact bloom_Add.mono _ _ _ _
      | exact bloom_Has.mono _ _ _ _
      | exact bloom_Ones.mono _ _ _
      | exact trommellaw18_live.mono _
      | exact trommelref18_Add.mono _ _ _ _
      | exact trommelref18_Has.mono _ _ _ _
      | exact trommelref18_Word.mono _ _ _ _
      | exact LeO.none _
      | refine LeO.ite ?_ ?_
      | refine LeO.bind ?_ (fun _ => ?_)
    · intro y0 y1 y2 y3 y4 y5 y6 y7
      unfold trommellaw18_BloomPlays.l1
      repeat' first
      | (with_reducible exact ih0 _ _ _ _ _)
      | (with_reducible exact ih1 _ _ _ _ _ _ _)
      | (with_reducible exact ih2 _ _ _ _ _ _ _)
      | (with_reducible exact ih3 _ _ _ _ _ _ _ _)
      | (with_reducible exact ih4 _ _ _ _ _ _ _)
      | (with_reducible exact bloom_Add.mono _ _ _ _)
      | (with_reducible exact bloom_Has.mono _ _ _ _)
      | (with_reducible exact bloom_Ones.mono _ _ _)
      | (with_reducible exact trommellaw18_live.mono _)
      | (with_reducible exact trommelref18_Add.mono _ _ _ _)
      | (with_reducible exact trommelref18_Has.mono _ _ _ _)
      | (with_reducible exact trommelref18_Word.mono _ _ _ _)
      | (with_reducible exact LeO.refl _)
      | (with_reducible exact LeO.none _)
      | (with_reducible refine LeO.ite ?_ ?_)
      | (with_reducible refine LeO.bind ?_ (fun _ => ?_))
      | exact ih0 _ _ _ _ _
      | exact ih1 _ _ _ _ _ _ _
      | exact ih2 _ _ _ _ _ _ _
      | exact ih3 _ _ _ _ _ _ _ _
      | exact ih4 _ _ _ _ _ _ _
      | exact bloom_Add.mono _ _ _ _
      | exact bloom_Has.mono _ _ _ _
      | exact bloom_Ones.mono _ _ _
      | exact trommellaw18_live.mono _
      | exact trommelref18_Add.mono _ _ _ _
      | exact trommelref18_Has.mono _ _ _ _
      | exact trommelref18_Word.mono _ _ _ _
      | exact LeO.none _
      | refine LeO.ite ?_ ?_
      | refine LeO.bind ?_ (fun _ => ?_)
    · intro y0 y1 y2 y3 y4 y5 y6
      unfold trommellaw18_BloomPlays.l2
      repeat' first
      | (with_reducible exact ih0 _ _ _ _ _)
      | (with_reducible exact ih1 _ _ _ _ _ _ _)
      | (with_reducible exact ih2 _ _ _ _ _ _ _)
      | (with_reducible exact ih3 _ _ _ _ _ _ _ _)
      | (with_reducible exact ih4 _ _ _ _ _ _ _)
      | (with_reducible exact bloom_Add.mono _ _ _ _)
      | (with_reducible exact bloom_Has.mono _ _ _ _)
      | (with_reducible exact bloom_Ones.mono _ _ _)
      | (with_reducible exact trommellaw18_live.mono _)
      | (with_reducible exact trommelref18_Add.mono _ _ _ _)
      | (with_reducible exact trommelref18_Has.mono _ _ _ _)
      | (with_reducible exact trommelref18_Word.mono _ _ _ _)
      | (with_reducible exact LeO.refl _)
      | (with_reducible exact LeO.none _)
      | (with_reducible refine LeO.ite ?_ ?_)
      | (with_reducible refine LeO.bind ?_ (fun _ => ?_))
      | exact ih0 _ _ _ _ _
      | exact ih1 _ _ _ _ _ _ _
      | exact ih2 _ _ _ _ _ _ _
      | exact ih3 _ _ _ _ _ _ _ _
      | exact ih4 _ _ _ _ _ _ _
      | exact bloom_Add.mono _ _ _ _
      | exact bloom_Has.mono _ _ _ _
      | exact bloom_Ones.mono _ _ _
      | exact trommellaw18_live.mono _
      | exact trommelref18_Add.mono _ _ _ _
      | exact trommelref18_Has.mono _ _ _ _
      | exact trommelref18_Word.mono _ _ _ _
      | exact LeO.none _
      | refine LeO.ite ?_ ?_
      | refine LeO.bind ?_ (fun _ => ?_)
theorem trommellaw18_BloomPlays.mono : ∀ a0 a1 a2 a3 k, LeO (trommellaw18_BloomPlays.f k a0 a1 a2 a3) (trommellaw18_BloomPlays.f (k + 1) a0 a1 a2 a3) := by
  intro a0 a1 a2 a3 k
  obtain ⟨ih0, ih1, ih2, ih3, ih4⟩ := trommellaw18_BloomPlays.mono_l k
  unfold trommellaw18_BloomPlays.f
  repeat' first
      | (with_reducible exact ih0 _ _ _ _ _)
      | (with_reducible exact ih1 _ _ _ _ _ _ _)
      | (with_reducible exact ih2 _ _ _ _ _ _ _)
      | (with_reducible exact ih3 _ _ _ _ _ _ _ _)
      | (with_reducible exact ih4 _ _ _ _ _ _ _)
      | (with_reducible exact bloom_Add.mono _ _ _ _)
      | (with_reducible exact bloom_Has.mono _ _ _ _)
      | (with_reducible exact bloom_Ones.mono _ _ _)
      | (with_reducible exact trommellaw18_live.mono _)
      | (with_reducible exact trommelref18_Add.mono _ _ _ _)
      | (with_reducible exact trommelref18_Has.mono _ _ _ _)
      | (with_reducible exact trommelref18_Word.mono _ _ _ _)
      | (with_reducible exact LeO.refl _)
      | (with_reducible exact LeO.none _)
      | (with_reducible refine LeO.ite ?_ ?_)
      | (with_reducible refine LeO.bind ?_ (fun _ => ?_))
      | exact ih0 _ _ _ _ _
      | exact ih1 _ _ _ _ _ _ _
      | exact ih2 _ _ _ _ _ _ _
      | exact ih3 _ _ _ _ _ _ _ _
      | exact ih4 _ _ _ _ _ _ _
      | exact bloom_Add.mono _ _ _ _
      | exact bloom_Has.mono _ _ _ _
      | exact bloom_Ones.mono _ _ _
      | exact trommellaw18_live.mono _
      | exact trommelref18_Add.mono _ _ _ _
      | exact trommelref18_Has.mono _ _ _ _
      | exact trommelref18_Word.mono _ _ _ _
      | exact LeO.none _
      | refine LeO.ite ?_ ?_
      | refine LeO.bind ?_ (fun _ => ?_)
def trommellaw18_BloomPlays.T9 : Bool × List (List Nat × List Nat) := (true, [([], []), ([], []), ([], []), ([1, 2], [1, 2]), ([3], [3]), ([4], [4]), ([0, 5], [0, 5]), ([], []), ([], []), ([], []), ([8, 9], [8, 9]), ([10], [10]), ([7, 11, 6], [7, 11]), ([6, 12, 0, 1, 2, 3, 4, 5, 6], [6]), ([12, 13, 0, 1, 2, 3, 4, 5, 6, 7, 8, 9, 10, 11, 12, 13], [12])])
def trommellaw18_BloomPlays.B9 : List Nat := [0, 0, 0, 6, 14, 30, 63, 0, 0, 0, 768, 1792, 4095, 8191, 16383]
theorem trommellaw18_BloomPlays.tab9 : rtab .any (opsOf Try.f5 9) = trommellaw18_BloomPlays.T9 := by kernel_rfl
theorem trommellaw18_BloomPlays.bits9 : waitsOk trommellaw18_BloomPlays.T9.2 trommellaw18_BloomPlays.B9 = true := by kernel_rfl
def trommellaw18_BloomPlays.T11 : Bool × List (List Nat × List Nat) := (true, [([], []), ([0], [0]), ([], []), ([2], [2]), ([3], [3]), ([4], [4]), ([1, 5], [1, 5]), ([6], [6]), ([7], [7]), ([8, 7, 7], [7, 8]), ([7], [7]), ([10, 7], [7, 10]), ([9, 11, 7], [7, 9, 11]), ([7, 12], [7, 12])])
def trommellaw18_BloomPlays.B11 : List Nat := [0, 1, 0, 4, 12, 28, 63, 127, 255, 511, 255, 1279, 4095, 8191]
theorem trommellaw18_BloomPlays.tab11 : rtab .any (opsOf Try.f5 11) = trommellaw18_BloomPlays.T11 := by kernel_rfl
theorem trommellaw18_BloomPlays.bits11 : waitsOk trommellaw18_BloomPlays.T11.2 trommellaw18_BloomPlays.B11 = true := by kernel_rfl
def trommellaw18_BloomPlays.T17 : Bool × List (List Nat × List Nat) := (true, [([], []), ([], []), ([0, 1], [0, 1]), ([2], [2]), ([], []), ([], []), ([4, 5], [4, 5]), ([3, 6], [3, 6])])
def trommellaw18_BloomPlays.B17 : List Nat := [0, 0, 3, 7, 0, 0, 48, 127]
theorem trommellaw18_BloomPlays.tab17 : rtab .any (opsOf Try.f5 17) = trommellaw18_BloomPlays.T17 := by kernel_rfl
theorem trommellaw18_BloomPlays.bits17 : waitsOk trommellaw18_BloomPlays.T17.2 trommellaw18_BloomPlays.B17 = true := by kernel_rfl
def trommellaw18_BloomPlays.T24 : Bool × List (List Nat × List Nat) := (true, [([], []), ([0], [0]), ([], []), ([1, 2], [1, 2]), ([3, 1], [3]), ([4], [4]), ([4], [4]), ([5, 6, 4, 4], [4, 5, 6]), ([4], [4]), ([4], [4]), ([8, 9, 7, 4], [4, 8, 9]), ([7, 10, 4], [4, 7, 10]), ([4, 11], [4, 11]), ([12, 10], [12]), ([13, 13], [13]), ([13, 14], [13, 14]), ([15, 14, 0, 1, 2, 3, 4, 5, 6, 7, 8, 9, 10, 11, 12, 13, 14, 15], [15])])
def trommellaw18_BloomPlays.B24 : List Nat := [0, 1, 0, 7, 15, 31, 31, 127, 31, 31, 1023, 2047, 4095, 8191, 16383, 32767, 65535]
theorem trommellaw18_BloomPlays.tab24 : rtab .any (opsOf Try.f5 24) = trommellaw18_BloomPlays.T24 := by kernel_rfl
theorem trommellaw18_BloomPlays.bits24 : waitsOk trommellaw18_BloomPlays.T24.2 trommellaw18_BloomPlays.B24 = true := by kernel_rfl
set_option maxHeartbeats 8000000 in
set_option maxRecDepth 100000 in
theorem trommellaw18_BloomPlays.calls (k : Nat) (a0 : Int) (a1 : Int) (A2 : Option Addr) (c2 : Nat) (l2 : List Int) (a3 : Int) (r : Bool) (w : World) (hr2 : Kd.C (Kd.int .u64) w A2 l2.length l2) (hc2 : l2.length ≤ c2) (h : trommellaw18_BloomPlays.f k a0 a1 l2 a3 = some r) :
    Calls Try.prog 5 #[.int .i64 a0, .int .i64 a1, .slice A2 l2.length c2, .int .u64 a3] w fun e w' => e = .returned (.bool r) ∧ Below w.heap.size w w' := by
  have hu25 := Try.underlying25
  have hu50 := Try.underlying50
  have HR2 := Aside0.mk hr2
  have HC2 := Aside0.mk hc2
  clear hr2 hc2
  have HB := Aside0.mk (Below.refl w.heap.size w)
  have H : (if (l2.length : Int) > 50 then (trommellaw18_BloomPlays.j0 k a0 a1 l2 a3 true) else (if a0 > 64 then (trommellaw18_BloomPlays.j0 k a0 a1 l2 a3 (decide (a0 < 4096))) else (trommellaw18_BloomPlays.j0 k a0 a1 l2 a3 false))) = some r := h
  clear h
  have HC5 := Aside0.mk H
  clear H
  go_enter Try.func5, Try.ntmps5
  go_upto_region 1 with (fail)
  go_cut [26] (fun v26 wc => ∃ (kq : Nat) (x26_4 : Bool), v26 = .bool x26_4 ∧ Aside0 (trommellaw18_BloomPlays.j0 kq a0 a1 l2 a3 x26_4 = some r) ∧ Aside0 (kq ≤ k) ∧ Aside0 (Below w.heap.size w wc))
  case first =>
    have H := HC5.out
    clear HC5
    by_cases c6 : (l2.length : Int) > 50
    · rw [if_pos c6] at H
      have c6b0 : decide (50 < (l2.length : Int)) = true := decide_eq_true c6
      have c6b1 : decide (50 < l2.length) = true := decide_eq_true (by omega)
      clear c6
      (first | rw [c6b0] | (simp only [i64_w, i32_w]; rw [c6b0]) | skip)
      have H' := Aside0.mk H
      clear H
      go_wp2
      go_meet
      case rel => exact ⟨_, (true), (by first | rfl | (simp; done) | (simp [*]; done)), H', ⟨by first | omega | exact Nat.le_refl _⟩, ⟨Ls HB⟩⟩
    · rw [if_neg c6] at H
      have c6b0 : decide (50 < (l2.length : Int)) = false := decide_eq_false c6
      have c6b1 : decide (50 < l2.length) = false := decide_eq_false (by omega)
      clear c6
      (first | rw [c6b0] | (simp only [i64_w, i32_w]; rw [c6b0]) | skip)
      by_cases c7 : a0 > 64
      · rw [if_pos c7] at H
        have c7b0 : decide (64 < a0) = true := decide_eq_true c7
        clear c7
        have H' := Aside0.mk H
        clear H
        go_wp2
        go_meet
        case rel => exact ⟨_, (decide (a0 < 4096)), (by first | rfl | (simp; done) | (simp [*]; done)), H', ⟨by first | omega | exact Nat.le_refl _⟩, ⟨Ls HB⟩⟩
      · rw [if_neg c7] at H
        have c7b0 : decide (64 < a0) = false := decide_eq_false c7
        clear c7
        have H' := Aside0.mk H
        clear H
        go_wp2
        go_meet
        case rel => exact ⟨_, (false), (by first | rfl | (simp; done) | (simp [*]; done)), H', ⟨by first | omega | exact Nat.le_refl _⟩, ⟨Ls HB⟩⟩
  case rest =>
    clear HC5
    try clear c2; try clear p2; try clear c5; try clear c6; try clear c6b0; try clear c6b1; try clear c7; try clear c7b0
    obtain ⟨kq, x26_4, rfl, HA, HJ4, HB⟩ := hcut
    cases kq with
    | zero => exact absurd HA.out (by simp [trommellaw18_BloomPlays.j0])
    | succ kj4 =>
      have H := HA.out
      clear HA
      simp only [trommellaw18_BloomPlays.j0] at H
      by_cases c8 : x26_4 = true
      · subst c8
        have H1 : ((trommellaw18_live.f kj4).bind fun t257 => (some t257)) = some r := by rw [if_pos rfl] at H; exact H
        clear H
        have H := H1
        clear H1
        replace H := Option.bind_eq_some_iff.mp H
        obtain ⟨t257, A90, H⟩ := H
        replace H : (some t257) = some r := H
        have A9 := Aside0.mk A90
        clear A90
        obtain rfl := Option.some.inj H
        go_wp2_with (first | ((with_reducible refine gate_callee (f := 9) rfl ?_); refine goesL_ (some 27) rfl rfl Try.func9 (by kernel_rfl) rfl #[] rfl (by (try simp only [List.map_toArray, List.map_cons, List.map_nil]); first | done | rfl | (simp only [List.length_drop, List.length_take]; rfl)) ?_; (with_reducible refine (trommellaw18_live.calls kj4  t257 _ A9.out).mono ?_); rintro e w10 ⟨rfl, hb⟩; refine ⟨_, rfl, ?_⟩; have n0_ := Lb HB hb; clear HB; have HB := n0_; clear n0_; (try clear hb); (try clear hb2); (try clear hk); (try clear hi)))
        go_ret
        exact ⟨by first | rfl | (simp [errW_none, errW_some] <;> rfl) | (simp [*, errW_none, errW_some] <;> rfl), by repeat (first | (with_reducible first | exact HB.out | apply below_alloc | apply pw_below_drewN | apply below_drew1) | exact HB.out)⟩
      · replace c8 := Bool.eq_false_iff.mpr c8
        subst c8
        have H1 : (if a0 > 64 then ((bloom_New.f a0 a1).bind fun bt258 => ((bloom_Words.f bt258.1 bt258.2).bind fun t262 => (if (t262.length : Int) = 4096 then ((trommellaw18_live.f kj4).bind fun t265 => (some t265)) else (some false)))) else ((bloom_New.f a0 a1).bind fun bt266 => ((trommelref18_New.f a0 a1).bind fun bt270 => (trommellaw18_BloomPlays.l0 kj4 l2 a3 0 bt266.1 bt266.2 bt270.1 bt270.2)))) = some r := by rw [if_neg (show ¬ (false = true) by decide)] at H; exact H
        clear H
        have H := H1
        clear H1
        by_cases c11 : a0 > 64
        · rw [if_pos c11] at H
          have c11b0 : decide (64 < a0) = true := decide_eq_true c11
          clear c11
          replace H := Option.bind_eq_some_iff.mp H
          obtain ⟨⟨t258, t261⟩, A120, H⟩ := H
          replace H : ((bloom_Words.f t258 t261).bind fun t262 => (if (t262.length : Int) = 4096 then ((trommellaw18_live.f kj4).bind fun t265 => (some t265)) else (some false))) = some r := H
          have A12 := Aside0.mk A120
          clear A120
          replace H := Option.bind_eq_some_iff.mp H
          obtain ⟨t262, A130, H⟩ := H
          replace H : (if (t262.length : Int) = 4096 then ((trommellaw18_live.f kj4).bind fun t265 => (some t265)) else (some false)) = some r := H
          have A13 := Aside0.mk A130
          clear A130
          by_cases c14 : (t262.length : Int) = 4096
          · rw [if_pos c14] at H
            have c14b0 : ((t262.length : Int) == 4096) = true := beq_iff_eq.mpr c14
            have c14b1 : ((t262.length : Int) != 4096) = false := bne_eq_false_iff_eq.mpr c14
            clear c14
            replace H := Option.bind_eq_some_iff.mp H
            obtain ⟨t265, A150, H⟩ := H
            replace H : (some t265) = some r := H
            have A15 := Aside0.mk A150
            clear A150
            obtain rfl := Option.some.inj H
            go_wp2_with (first | ((with_reducible refine gate_callee (f := 11) rfl ?_); refine goesL_ (some 32) rfl rfl Try.func11 (by kernel_rfl) rfl #[.int .i64 a0, .int .i64 a1] rfl (by (try simp only [List.map_toArray, List.map_cons, List.map_nil]); first | done | rfl | (simp only [List.length_drop, List.length_take]; rfl)) ?_; (with_reducible refine (bloom_New.calls a0 a1 t258 t261 _ A12.out).mono ?_); rintro e w16 ⟨v259, rfl, ho0, hb⟩; refine ⟨_, rfl, ?_⟩; have n0_ := Aside0.mk (Kd.R_lower ho0 (Lz HB)); have n1_ := Lb HB hb; clear HB; have HO260 := n0_; have HB := n1_; clear n0_ n1_; (try clear hb); (try clear hb2); (try clear hk); (try clear hi); (try clear ho0); obtain ⟨Ao17, co17, eo17⟩ := Kd.R_slice HO260.out; subst eo17) | ((with_reducible refine gate_callee (f := 15) rfl ?_); refine goesL_ (some 33) rfl rfl Try.func15 (by kernel_rfl) rfl #[.agg #[.slice Ao17 t258.length co17, .int .i64 t261]] rfl (by (try simp only [List.map_toArray, List.map_cons, List.map_nil]); first | done | rfl | (simp only [List.length_drop, List.length_take]; rfl)) ?_; (with_reducible refine (bloom_Words.calls _ _ t258 t261 t262 _ ?side1 ?side2 A13.out).mono ?_); (case side1 => exact Cs (Kd.R_reads' HO260.out).2.2); (case side2 => exact (Kd.R_reads' HO260.out).2.1); rintro e w18 ⟨v263, rfl, ho0, hb⟩; refine ⟨_, rfl, ?_⟩; have n0_ := Aside0.mk (Kd.R_elder' (Rs HO260.out) (Kd.R_base ho0) hb); have n1_ := Aside0.mk (Kd.R_lower (Kd.R_new' ho0 (Kd.R_lt (Rs HO260.out))) (Lz HB)); have n2_ := Lb HB hb; clear HO260 HB; have HO260 := n0_; have HO264 := n1_; have HB := n2_; clear n0_ n1_ n2_; (try clear hb); (try clear hb2); (try clear hk); (try clear hi); (try clear ho0); obtain ⟨Ao19, co19, eo19⟩ := Kd.R_slice HO264.out; subst eo19) | (go_at_call 9; (with_reducible refine (trommellaw18_live.calls kj4  t265 _ A15.out).mono ?_); rintro e w20 ⟨rfl, hb⟩; have n0_ := Rb HO260 hb; have n1_ := Rb HO264 hb; have n2_ := Lb HB hb; clear HO260 HO264 HB; have HO260 := n0_; have HO264 := n1_; have HB := n2_; clear n0_ n1_ n2_; (try clear hb); (try clear hb2); (try clear hk); (try clear hi)))
            go_ret
            exact ⟨by first | rfl | (simp [errW_none, errW_some] <;> rfl) | (simp [*, errW_none, errW_some] <;> rfl), by repeat (first | (with_reducible first | exact HB.out | apply below_alloc | apply pw_below_drewN | apply below_drew1) | exact HB.out)⟩
          · rw [if_neg c14] at H
            have c14b0 : ((t262.length : Int) == 4096) = false := beq_eq_false_iff_ne.mpr c14
            have c14b1 : ((t262.length : Int) != 4096) = true := bne_iff_ne.mpr c14
            obtain rfl := Option.some.inj H
            go_wp2_with (first | ((with_reducible refine gate_callee (f := 11) rfl ?_); refine goesL_ (some 32) rfl rfl Try.func11 (by kernel_rfl) rfl #[.int .i64 a0, .int .i64 a1] rfl (by (try simp only [List.map_toArray, List.map_cons, List.map_nil]); first | done | rfl | (simp only [List.length_drop, List.length_take]; rfl)) ?_; (with_reducible refine (bloom_New.calls a0 a1 t258 t261 _ A12.out).mono ?_); rintro e w21 ⟨v259, rfl, ho0, hb⟩; refine ⟨_, rfl, ?_⟩; have n0_ := Aside0.mk (Kd.R_lower ho0 (Lz HB)); have n1_ := Lb HB hb; clear HB; have HO260 := n0_; have HB := n1_; clear n0_ n1_; (try clear hb); (try clear hb2); (try clear hk); (try clear hi); (try clear ho0); obtain ⟨Ao22, co22, eo22⟩ := Kd.R_slice HO260.out; subst eo22) | ((with_reducible refine gate_callee (f := 15) rfl ?_); refine goesL_ (some 33) rfl rfl Try.func15 (by kernel_rfl) rfl #[.agg #[.slice Ao22 t258.length co22, .int .i64 t261]] rfl (by (try simp only [List.map_toArray, List.map_cons, List.map_nil]); first | done | rfl | (simp only [List.length_drop, List.length_take]; rfl)) ?_; (with_reducible refine (bloom_Words.calls _ _ t258 t261 t262 _ ?side1 ?side2 A13.out).mono ?_); (case side1 => exact Cs (Kd.R_reads' HO260.out).2.2); (case side2 => exact (Kd.R_reads' HO260.out).2.1); rintro e w23 ⟨v263, rfl, ho0, hb⟩; refine ⟨_, rfl, ?_⟩; have n0_ := Aside0.mk (Kd.R_elder' (Rs HO260.out) (Kd.R_base ho0) hb); have n1_ := Aside0.mk (Kd.R_lower (Kd.R_new' ho0 (Kd.R_lt (Rs HO260.out))) (Lz HB)); have n2_ := Lb HB hb; clear HO260 HB; have HO260 := n0_; have HO264 := n1_; have HB := n2_; clear n0_ n1_ n2_; (try clear hb); (try clear hb2); (try clear hk); (try clear hi); (try clear ho0); obtain ⟨Ao24, co24, eo24⟩ := Kd.R_slice HO264.out; subst eo24))
            go_ret
            exact ⟨by first | rfl | (simp [errW_none, errW_some] <;> rfl) | (simp [*, errW_none, errW_some] <;> rfl), by repeat (first | (with_reducible first | exact HB.out | apply below_alloc | apply pw_below_drewN | apply below_drew1) | exact HB.out)⟩
        · rw [if_neg c11] at H
          have c11b0 : decide (64 < a0) = false := decide_eq_false c11
          clear c11
          replace H := Option.bind_eq_some_iff.mp H
          obtain ⟨⟨t266, t269⟩, A250, H⟩ := H
          replace H : ((trommelref18_New.f a0 a1).bind fun bt270 => (trommellaw18_BloomPlays.l0 kj4 l2 a3 0 t266 t269 bt270.1 bt270.2)) = some r := H
          have A25 := Aside0.mk A250
          clear A250
          replace H := Option.bind_eq_some_iff.mp H
          obtain ⟨⟨t270, t273⟩, A260, H⟩ := H
          replace H : (trommellaw18_BloomPlays.l0 kj4 l2 a3 0 t266 t269 t270 t273) = some r := H
          have A26 := Aside0.mk A260
          clear A260
          have H' := Aside0.mk H
          clear H
          go_wp2_with (first | ((with_reducible refine gate_callee (f := 11) rfl ?_); refine goesL_ (some 41) rfl rfl Try.func11 (by kernel_rfl) rfl #[.int .i64 a0, .int .i64 a1] rfl (by (try simp only [List.map_toArray, List.map_cons, List.map_nil]); first | done | rfl | (simp only [List.length_drop, List.length_take]; rfl)) ?_; (with_reducible refine (bloom_New.calls a0 a1 t266 t269 _ A25.out).mono ?_); rintro e w27 ⟨v267, rfl, ho0, hb⟩; refine ⟨_, rfl, ?_⟩; have n0_ := Aside0.mk (Kd.R_lower ho0 (Lz HB)); have n1_ := Lb HB hb; clear HB; have HO268 := n0_; have HB := n1_; clear n0_ n1_; (try clear hb); (try clear hb2); (try clear hk); (try clear hi); (try clear ho0)) | ((with_reducible refine gate_callee (f := 26) rfl ?_); refine goesL_ (some 44) rfl rfl Try.func26 (by kernel_rfl) rfl #[.int .i64 a0, .int .i64 a1] rfl (by (try simp only [List.map_toArray, List.map_cons, List.map_nil]); first | done | rfl | (simp only [List.length_drop, List.length_take]; rfl)) ?_; (with_reducible refine (trommelref18_New.calls a0 a1 t270 t273 _ A26.out).mono ?_); rintro e w28 ⟨v271, rfl, ho0, hb⟩; refine ⟨_, rfl, ?_⟩; have n0_ := Rb HO268 hb; have n1_ := Aside0.mk (Kd.R_lower ho0 (Lz HB)); have n2_ := Lb HB hb; clear HO268 HB; have HO268 := n0_; have HO272 := n1_; have HB := n2_; clear n0_ n1_ n2_; (try clear hb); (try clear hb2); (try clear hk); (try clear hi); (try clear ho0)) | ((with_reducible refine gate_dst (N := 9) rfl ?_); refine box_event ?hg (N := 9) ?hd (cs := #[.slice none 0 0, .int .i64 0]) (t := 25) ?hr ?_; (case hd => rfl); (case hg => rfl); (case hr => first | (go_simp; done) | (go_simp; rfl)); intro gb274 hg w29 hbox hb; have n0_ := Rb HO268 hb; have n1_ := Rb HO272 hb; have n2_ := Lb HB hb; have n3_ := Aside0.mk (hbox); have n4_ := Aside0.mk ((by rw [hg]; exact (Lz HB) : w.heap.size ≤ gb274)); have n5_ := Aside0.mk ((by rw [hg]; exact (Lz HB) : w.heap.size ≤ gb274)); clear HO268 HO272 HB; have HO268 := n0_; have HO272 := n1_; have HB := n2_; have BK274 := n3_; have GW274 := n4_; have GE274 := n5_; clear n0_ n1_ n2_ n3_ n4_ n5_; clear hb hbox hg) | ((with_reducible refine gate_dst (N := 10) rfl ?_); refine box_event ?hg (N := 10) ?hd (cs := #[.slice none 0 0, .int .i64 0]) (t := 50) ?hr ?_; (case hd => rfl); (case hg => rfl); (case hr => first | (go_simp; done) | (go_simp; rfl)); intro gb275 hg w30 hbox hb; have n0_ := Rb HO268 hb; have n1_ := Rb HO272 hb; have n2_ := Bb BK274 hb; have n3_ := Lb HB hb; have n4_ := Aside0.mk (hbox); have n5_ := Aside0.mk ((by rw [hg]; exact (Lz HB) : w.heap.size ≤ gb275)); have n6_ := Aside0.mk ((by rw [hg]; exact (Lz HB) : w.heap.size ≤ gb275)); have n7_ := Aside0.mk ((by rw [hg]; exact Nat.ne_of_lt (blk_lt (g := gb274) (o := .cells #[.slice none 0 0, .int .i64 0] 25 (0, 0)) (Bs BK274.out)) : gb274 ≠ gb275)); have n8_ := Aside0.mk ((by rw [hg]; exact Nat.ne_of_gt (blk_lt (g := gb274) (o := .cells #[.slice none 0 0, .int .i64 0] 25 (0, 0)) (Bs BK274.out)) : gb275 ≠ gb274)); clear HO268 HO272 BK274 HB; have HO268 := n0_; have HO272 := n1_; have BK274 := n2_; have HB := n3_; have BK275 := n4_; have GW275 := n5_; have GE275 := n6_; have NB274_275 := n7_; have NB275_274 := n8_; clear n0_ n1_ n2_ n3_ n4_ n5_ n6_ n7_ n8_; clear hb hbox hg; obtain ⟨Ao31, co31, eo31⟩ := Kd.R_slice HO268.out; subst eo31; have hnb32 := NB274_275.out; have hnc32 := NB275_274.out; have hcz33_0 : w30.cell? ⟨gb274, 0, none⟩ = some (.slice none 0 0) := (blk_cell BK274.out 0).trans rfl; have hcz33_1 : w30.cell? ⟨gb274, 1, none⟩ = some (.int .i64 0) := (blk_cell BK274.out 1).trans rfl; have hfz33_0 := blk_frozen BK274.out 0; have hfz33_1 := blk_frozen BK274.out 1; obtain ⟨Ao34, co34, eo34⟩ := Kd.R_slice HO272.out; subst eo34; have hcz35_0 : w30.cell? ⟨gb275, 0, none⟩ = some (.slice none 0 0) := (blk_cell BK275.out 0).trans rfl; have hcz35_1 : w30.cell? ⟨gb275, 1, none⟩ = some (.int .i64 0) := (blk_cell BK275.out 1).trans rfl; have hfz35_0 := blk_frozen BK275.out 0; have hfz35_1 := blk_frozen BK275.out 1))
          go_loopg [11] kj4 (fun kq v11 w' => ∃ (x11_2 : Int) (x275000_2 : List Int) (x275001_2 : Int) (x276000_2 : List Bool) (x276001_2 : Int) (u275000 : Value) (u276000 : Value), v11 = .int .i64 x11_2 ∧ Aside0 (trommellaw18_BloomPlays.l0 kq l2 a3 x11_2 x275000_2 x275001_2 x276000_2 x276001_2 = some r) ∧ Aside0 (kq ≤ kj4) ∧ Aside0 (Kd.R (Kd.int .u64) 33 w' w.heap.size (fun _ => True) u275000 x275000_2) ∧ Aside0 (Kd.R Kd.bool 4 w' w.heap.size (fun _ => True) u276000 x276000_2) ∧ Aside0 (w'.heap[gb274]? = some (.cells #[u275000, .int .i64 x275001_2] 25 (0, 0))) ∧ Aside0 (w'.heap[gb275]? = some (.cells #[u276000, .int .i64 x276001_2] 50 (0, 0))) ∧ Aside0 (Below w.heap.size w w'))
          case atStart => exact ⟨(0), (t266), (t269), (t270), (t273), (.slice Ao31 t266.length co31), (.slice Ao34 t270.length co34), (by first | rfl | (simp; done) | (simp [*]; done)), H', ⟨Nat.le_refl _⟩, ⟨by (with_reducible repeat (first | apply Kd.R_alloc | apply Kd.R_drewN | apply Kd.R_drew)); exact Kd.R_mono (Kd.R_far (p := ⟨gb275, 1, none⟩) (Kd.R_far (p := ⟨gb275, 0, none⟩) (Kd.R_far (p := ⟨gb274, 1, none⟩) (Kd.R_far (p := ⟨gb274, 0, none⟩) (Kd.R_types (Kd.R_types HO268.out BK274.out (by decide)) BK275.out (by decide)) (fun _ hk => hk.1.2) (.slice Ao31 t266.length co31)) (fun _ hk => hk.1.2) (.int .i64 t269)) (fun _ hk => hk.2) (.slice Ao34 t270.length co34)) (fun _ hk => hk.2) (.int .i64 t273)) (fun _ hk => trivial)⟩, ⟨by (with_reducible repeat (first | apply Kd.R_alloc | apply Kd.R_drewN | apply Kd.R_drew)); exact Kd.R_mono (Kd.R_far (p := ⟨gb275, 1, none⟩) (Kd.R_far (p := ⟨gb275, 0, none⟩) (Kd.R_far (p := ⟨gb274, 1, none⟩) (Kd.R_far (p := ⟨gb274, 0, none⟩) (Kd.R_types (Kd.R_types HO272.out BK274.out (by decide)) BK275.out (by decide)) (fun _ hk => hk.1.2) (.slice Ao31 t266.length co31)) (fun _ hk => hk.1.2) (.int .i64 t269)) (fun _ hk => hk.2) (.slice Ao34 t270.length co34)) (fun _ hk => hk.2) (.int .i64 t273)) (fun _ hk => trivial)⟩, ⟨by (with_reducible repeat (first | refine blk_drewN ?_ _ | refine blk_drew ?_ | refine blk_alloc ?_ _)); refine blk_far ?_ NB274_275.out _; (with_reducible repeat (first | refine blk_drewN ?_ _ | refine blk_drew ?_ | refine blk_alloc ?_ _)); refine blk_far ?_ NB274_275.out _; (with_reducible repeat (first | refine blk_drewN ?_ _ | refine blk_drew ?_ | refine blk_alloc ?_ _)); refine blk_put (cs := #[.slice Ao31 t266.length co31, .int .i64 0]) ?_ 1 _ rfl; (with_reducible repeat (first | refine blk_drewN ?_ _ | refine blk_drew ?_ | refine blk_alloc ?_ _)); refine blk_put (cs := #[.slice none 0 0, .int .i64 0]) ?_ 0 _ rfl; (with_reducible repeat (first | refine blk_drewN ?_ _ | refine blk_drew ?_ | refine blk_alloc ?_ _)); exact BK274.out⟩, ⟨by (with_reducible repeat (first | refine blk_drewN ?_ _ | refine blk_drew ?_ | refine blk_alloc ?_ _)); refine blk_put (cs := #[.slice Ao34 t270.length co34, .int .i64 0]) ?_ 1 _ rfl; (with_reducible repeat (first | refine blk_drewN ?_ _ | refine blk_drew ?_ | refine blk_alloc ?_ _)); refine blk_put (cs := #[.slice none 0 0, .int .i64 0]) ?_ 0 _ rfl; (with_reducible repeat (first | refine blk_drewN ?_ _ | refine blk_drew ?_ | refine blk_alloc ?_ _)); refine blk_far ?_ NB275_274.out _; (with_reducible repeat (first | refine blk_drewN ?_ _ | refine blk_drew ?_ | refine blk_alloc ?_ _)); refine blk_far ?_ NB275_274.out _; (with_reducible repeat (first | refine blk_drewN ?_ _ | refine blk_drew ?_ | refine blk_alloc ?_ _)); exact BK275.out⟩, ⟨Ls HB⟩⟩
          case round =>
            clear H'
            try clear c1; try clear c2; try clear p2; try clear c3; try clear c5; try clear c6; try clear c6b0; try clear c6b1; try clear c7; try clear c7b0; try clear c8; try clear c9; try clear c11; try clear c11b0; try clear c14; try clear c14b0; try clear c14b1; try clear c15; try clear c26; try clear c32; try clear hcz33_0; try clear hcz33_1; try clear hcz35_0; try clear hcz35_1; try clear hfz33_0; try clear hfz33_1; try clear hfz35_0; try clear hfz35_1; try clear p2
            obtain ⟨x11_2, x275000_2, x275001_2, x276000_2, x276001_2, u275000, u276000, rfl, HA, HK2, HO_275000, HO_276000, BK274, BK275, HB⟩ := hrel
            cases gk with
            | zero => exact absurd HA.out (by simp [trommellaw18_BloomPlays.l0])
            | succ k2 =>
              have H := HA.out
              clear HA
              simp only [trommellaw18_BloomPlays.l0] at H
              by_cases c36 : x11_2 < (l2.length : Int)
              · rw [if_pos c36] at H
                have c36b0 : decide (x11_2 < (l2.length : Int)) = true := decide_eq_true c36
                clear c36
                refine bc (p := (0 ≤ x11_2)) (fun c37 => ?_) (fun c37 => ?_)
                · rw [if_neg c37] at H
                  exact absurd H (by simp)
                rw [if_pos c37] at H
                have c37b0 : decide (0 ≤ x11_2) = true := decide_eq_true c37
                clear c37
                obtain ⟨y277, hy277⟩ : ∃ y_ : List Int, y_ = (([rd l2 x11_2] : List Int)) := ⟨_, rfl⟩
                replace H : ((bloom_Add.f k2 x275000_2 x275001_2 y277).bind fun bt280 => ((trommelref18_Add.f k2 x276000_2 x276001_2 (rd l2 x11_2)).bind fun bt285 => (trommellaw18_BloomPlays.l0 k2 l2 a3 (wrap64 (x11_2 + 1)) bt280.1 bt280.2 bt285.1 bt285.2))) = some r := by first | (rw [hy277]; with_reducible exact H) | (have H2_ := (Option.bind_some _ _).symm.trans H; rw [hy277]; with_reducible exact H2_) | (have H2_ := (Option.bind_some _ _).symm.trans H; with_reducible exact H2_) | with_reducible exact H | (rw [hy277]; exact H) | exact H
                have Ny277 := Aside0.mk hy277
                clear hy277
                replace H := Option.bind_eq_some_iff.mp H
                obtain ⟨⟨t280, t283⟩, A380, H⟩ := H
                replace H : ((trommelref18_Add.f k2 x276000_2 x276001_2 (rd l2 x11_2)).bind fun bt285 => (trommellaw18_BloomPlays.l0 k2 l2 a3 (wrap64 (x11_2 + 1)) t280 t283 bt285.1 bt285.2)) = some r := H
                have A38 := Aside0.mk A380
                clear A380
                replace H := Option.bind_eq_some_iff.mp H
                obtain ⟨⟨t285, t288⟩, A390, H⟩ := H
                replace H : (trommellaw18_BloomPlays.l0 k2 l2 a3 (wrap64 (x11_2 + 1)) t280 t283 t285 t288) = some r := H
                have A39 := Aside0.mk A390
                clear A390
                have H' := Aside0.mk H
                clear H
                try go_wp2
                replace HO_275000 := Aside0.mk (Kd.R_drew HO_275000.out)
                replace HO_276000 := Aside0.mk (Kd.R_drew HO_276000.out)
                replace BK274 := Aside0.mk (blk_drew BK274.out)
                replace BK275 := Aside0.mk (blk_drew BK275.out)
                replace HB := Aside0.mk (below_drew1 HB.out)
                have p276 : 0 ≤ (x11_2 : Int) := of_decide_eq_true (by first | (with_reducible assumption) | assumption)
                have q276 : x11_2 < (l2.length : Int) := of_decide_eq_true (by first | (with_reducible assumption) | assumption)
                obtain ⟨ad276, e276, hx276_0⟩ := Kd.at_int HR2.out x11_2 p276 q276
                have hw276_0 := hx276_0
                cases e276
                replace hx276_0 := (HB.out.cell (World.block_lt_of_cell? w _ hx276_0)).trans hx276_0
                replace p276 := eq_true p276
                replace q276 := eq_true q276
                have p284 : 0 ≤ (x11_2 : Int) := of_decide_eq_true (by first | (with_reducible assumption) | assumption)
                have q284 : x11_2 < (l2.length : Int) := of_decide_eq_true (by first | (with_reducible assumption) | assumption)
                obtain ⟨ad284, e284, hx284_0⟩ := Kd.at_int HR2.out x11_2 p284 q284
                have hw284_0 := hx284_0
                obtain rfl : ad276 = ad284 := (by injection e284)
                replace hx284_0 := (HB.out.cell (World.block_lt_of_cell? w _ hx284_0)).trans hx284_0
                replace p284 := eq_true p284
                replace q284 := eq_true q284
                refine start_ (n := 15) (S := fun w' => w'.cell? ⟨gb274, 0, none⟩ = some (u275000) ∧ w'.cell? ⟨gb274, 1, none⟩ = some (.int .i64 x275001_2) ∧ w'.cell? ⟨gb275, 0, none⟩ = some (u276000) ∧ w'.cell? ⟨gb275, 1, none⟩ = some (.int .i64 x276001_2) ∧ w'.cell? (ad276.add (x11_2).toNat) = some (.int .u64 (rd l2 x11_2)) ∧ w'.cell? (ad276.add (x11_2).toNat) = some (.int .u64 (rd l2 x11_2))) (ds := [13, 14]) #[F, F, F, F, F, F, F, F, F, F, F, F, F, F, F] (by kernel_rfl) rfl rfl ⟨(blk_cell BK274.out 0).trans rfl, (blk_cell BK274.out 1).trans rfl, (blk_cell BK275.out 0).trans rfl, (blk_cell BK275.out 1).trans rfl, ((HB.out.cell (World.block_lt_of_cell? w _ hw276_0)).trans hw276_0), ((HB.out.cell (World.block_lt_of_cell? w _ hw284_0)).trans hw284_0)⟩ (fun hHeld => ?_); refine with_tabW trommellaw18_BloomPlays.tab9 trommellaw18_BloomPlays.bits9 (fun HT_ HW_ => ?_)
                generalize wr.drew = w40 at HO_275000 HO_276000 BK274 BK275 HB hx276_0 hx284_0 hHeld ⊢
                refine pure_ (i := 1) (N := some 52) (v := ?_) (a' := ?_) #[F, T, F, F, F, F, F, F, F, F, F, F, F, F, F] rfl rfl (any_of HT_.out (by kernel_rfl)) (fun _ _ _ h => h) (Or.inl ⟨by rfl, ?_⟩) ?_ ?_; rotate_left; (· intro w'; go_simp; with_reducible rfl); rotate_left; (· simp only [Act.put, sq]; rfl)
                refine pure_ (i := 2) (N := some 53) (v := ?_) (a' := ?_) #[F, T, T, F, F, F, F, F, F, F, F, F, F, F, F] rfl rfl (any_of HT_.out (by kernel_rfl)) (fun _ _ _ h => h) (Or.inl ⟨by rfl, ?_⟩) ?_ ?_; rotate_left; (· intro w'; go_simp; with_reducible rfl); rotate_left; (· simp only [Act.put, sq]; rfl)
                refine pure_ (i := 3) (N := some 54) (v := ?_) (a' := ?_) #[F, T, T, T, F, F, F, F, F, F, F, F, F, F, F] rfl rfl (any_of HT_.out (by kernel_rfl)) (fun _ _ _ h => h) (Or.inl ⟨by rfl, ?_⟩) ?_ ?_; rotate_left; (· intro w'; go_simp; with_reducible rfl); rotate_left; (· simp only [Act.put, sq]; rfl)
                refine pure_ (i := 8) (N := some 59) (v := ?_) (a' := ?_) #[F, T, T, T, F, F, F, F, T, F, F, F, F, F, F] rfl rfl (any_of HT_.out (by kernel_rfl)) (fun _ _ _ h => h) (Or.inl ⟨by rfl, ?_⟩) ?_ ?_; rotate_left; (· intro w'; go_simp; with_reducible rfl); rotate_left; (· simp only [Act.put, sq]; rfl)
                refine pure_ (i := 9) (N := some 60) (v := ?_) (a' := ?_) #[F, T, T, T, F, F, F, F, T, T, F, F, F, F, F] rfl rfl (any_of HT_.out (by kernel_rfl)) (fun _ _ _ h => h) (Or.inl ⟨by rfl, ?_⟩) ?_ ?_; rotate_left; (· intro w'; go_simp; with_reducible rfl); rotate_left; (· simp only [Act.put, sq]; rfl)
                refine pure_ (i := 10) (N := some 61) (v := ?_) (a' := ?_) #[F, T, T, T, F, F, F, F, T, T, T, F, F, F, F] rfl rfl (any_of HT_.out (by kernel_rfl)) (fun _ _ _ h => h) (Or.inl ⟨by rfl, ?_⟩) ?_ ?_; rotate_left; (· intro w'; go_simp; with_reducible rfl); rotate_left; (· simp only [Act.put, sq]; rfl)
                refine take_ (i := 0) (N := some 51) (v := ?_) (a' := ?_) #[T, T, T, T, F, F, F, F, T, T, T, F, F, F, F] rfl rfl (take_ofW HT_.out HW_.out (by kernel_rfl)) (fun _ _ _ h => h) (Or.inl ⟨by rfl, ?_⟩) hHeld ?_ ?_; rotate_left; (· rintro w' ⟨s0, s1, s2, s3, s4, s5⟩; go_simp; with_reducible rfl); rotate_left; (· simp only [Act.put, sq]; rfl)
                refine take_ (i := 4) (N := some 55) (v := ?_) (a' := ?_) #[T, T, T, T, T, F, F, F, T, T, T, F, F, F, F] rfl rfl (take_ofW HT_.out HW_.out (by kernel_rfl)) (fun _ _ _ h => h) (Or.inl ⟨by rfl, ?_⟩) hHeld ?_ ?_; rotate_left; (· rintro w' ⟨s0, s1, s2, s3, s4, s5⟩; go_simp; with_reducible rfl); rotate_left; (· simp only [Act.put, sq]; rfl)
                refine take_ (i := 7) (N := some 58) (v := ?_) (a' := ?_) #[T, T, T, T, T, F, F, T, T, T, T, F, F, F, F] rfl rfl (take_ofW HT_.out HW_.out (by kernel_rfl)) (fun _ _ _ h => h) (Or.inl ⟨by rfl, ?_⟩) hHeld ?_ ?_; rotate_left; (· rintro w' ⟨s0, s1, s2, s3, s4, s5⟩; go_simp; with_reducible rfl); rotate_left; (· simp only [Act.put, sq]; rfl)
                refine take_ (i := 11) (N := some 62) (v := ?_) (a' := ?_) #[T, T, T, T, T, F, F, T, T, T, T, T, F, F, F] rfl rfl (take_ofW HT_.out HW_.out (by kernel_rfl)) (fun _ _ _ h => h) (Or.inl ⟨by rfl, ?_⟩) hHeld ?_ ?_; rotate_left; (· rintro w' ⟨s0, s1, s2, s3, s4, s5⟩; go_simp; with_reducible rfl); rotate_left; (· simp only [Act.put, sq]; rfl)
                refine one_ (i := 5) (N := some 56) #[T, T, T, T, T, T, F, T, T, T, T, T, F, F, F] rfl rfl (one_of HT_.out (by kernel_rfl)) (by decide) (fun K hK => ?_)
                refine Kd.R_lit_step (Kd.int .u64) _ 33 ?hg (N := 56) ?hd (xs := ([rd l2 x11_2] : List Int)) (inner := [.int .u64 (rd l2 x11_2)]) (ok := fun _ => True) (okp := fun _ => True) ?hr ?hp (fun _ hk => hk) trivial (Below.refl _ _) (Nat.le_refl _) (by simp) ?_; (case hd => rfl); (case hg => rfl); (case hr => first | (go_simp; done) | (go_simp; rfl)); (case hp => exact (Reps.one (show Kd.M (Kd.int .u64) _ _ _ (rd l2 x11_2) [.int .u64 (rd l2 x11_2)] from rfl) (Reps.none _ _)))
                intro v278 w41 ho42 hb hg_ hnew_
                clear hg_ hnew_
                (first | rw [← Ny277.out] at ho42 | (simp only [Int.reduceToNat] at ho42; rw [← Ny277.out] at ho42))
                replace HO_276000 := Rb HO_276000 hb
                have HO279 := Aside0.mk (Kd.R_lower (Kd.R_new' ho42 (Kd.R_lt (Rs HO_275000.out))) (Lz HB))
                replace HO_275000 := Aside0.mk (Kd.R_elder' (Rs HO_275000.out) (Kd.R_base ho42) hb)
                replace BK274 := Bb BK274 hb
                replace BK275 := Bb BK275 hb
                replace HB := Lb HB hb
                clear hb ho42
                obtain ⟨Ao43, co43, eo43⟩ := Kd.R_slice HO_275000.out
                (first | subst eo43 | (injection eo43 with f1_ f2_ f3_; have f4_ := f1_.symm; have f5_ := f3_.symm; clear f1_ f2_ f3_; subst f4_; subst f5_))
                obtain ⟨Ao44, co44, eo44⟩ := Kd.R_slice HO279.out
                (first | subst eo44 | (injection eo44 with f1_ f2_ f3_; have f4_ := f1_.symm; have f5_ := f3_.symm; clear f1_ f2_ f3_; subst f4_; subst f5_))
                refine hK.out _ _ ⟨(blk_cell BK274.out 0).trans rfl, (blk_cell BK274.out 1).trans rfl, (blk_cell BK275.out 0).trans rfl, (blk_cell BK275.out 1).trans rfl, ((HB.out.cell (World.block_lt_of_cell? w _ hw276_0)).trans hw276_0), ((HB.out.cell (World.block_lt_of_cell? w _ hw284_0)).trans hw284_0)⟩ (fun hHeld => ?_)
                clear hK K
                refine norm_ (a' := ?_) ?_ ?_; rotate_left; (· show Act.put _ (some 56) _ = _; simp only [Act.put, sq]; rfl)
                refine one_ (i := 6) (N := some 57) #[T, T, T, T, T, T, T, T, T, T, T, T, F, F, F] rfl rfl (one_of HT_.out (by kernel_rfl)) (by decide) (fun K hK => ?_)
                refine goes_ Try.func10 (by kernel_rfl) rfl #[.agg #[.slice Ao43 x275000_2.length co43, .int .i64 x275001_2], .slice Ao44 y277.length co44] (by rfl) rfl rfl (by (try simp only [List.map_toArray, List.map_cons, List.map_nil]); first | done | rfl | (simp only [List.length_drop, List.length_take]; rfl)) ?_
                with_reducible refine (bloom_Add.calls k2 (fun k_ => some k_ = (.slice Ao43 x275000_2.length co43 : Value).ownBlock) (.slice Ao43 x275000_2.length co43) x275000_2 x275001_2 _ _ y277 t280 t283 w _ ?side1 ?side2 ?side3 ?side4 A38.out).mono ?_
                (case side1 => repeat (first | (with_reducible first | exact HB.out | apply below_alloc | apply pw_below_drewN | apply below_drew1 | refine below_set ?_ GE274.out | refine below_set ?_ GE275.out) | exact HB.out))
                (case side2 => exact Kd.R_tight rfl HO_275000.out)
                (case side3 => exact Kd.C_kept_own (HO279.out) (fun k_ hk_ hs_ => (hk_.2) hs_))
                (case side4 => exact (Kd.R_reads' HO279.out).2.1)
                rintro e w45 ⟨v281, rfl, ho0, hb, hkp⟩
                refine ⟨_, rfl, ?_⟩
                replace HO_276000 := Aside0.mk (Kd.R_mono (ok' := fun k_ => True) (Kd.R_keptB ((Kd.R_apart' HO_276000.out (Kd.R_typed HO_275000.out) (by decide))) hkp (fun k_ hk_ hs_ => (hk_.2) hs_)) (fun k_ hk_ => trivial))
                replace BK274 := Aside0.mk (blk_kept (Bs BK274.out) hkp (fun hs_ => (fun e_ => (Kd.R_ne HO_275000.out BK274.out (by decide)) e_) hs_))
                replace BK275 := Aside0.mk (blk_kept (Bs BK275.out) hkp (fun hs_ => (fun e_ => (Kd.R_ne HO_275000.out BK275.out (by decide)) e_) hs_))
                have HO282 := Aside0.mk (Kd.R_mono (ok' := fun k_ => some k_ ≠ (.slice Ao44 y277.length co44 : Value).ownBlock) ho0 (fun k_ hk_ => Or.elim hk_ (fun hs_ => fun e_ => (((HO279.out).1 k_ e_.symm).2) hs_) (fun hn_ => (Kd.fresh' (Kd.R_lt (Rs HO279.out)) k_ hn_))))
                replace HO279 := Aside0.mk (Kd.R_mono (ok' := fun k_ => some k_ ≠ (v281 : Value).ownBlock) (Kd.R_keptB (HO279.out) hkp (fun k_ hk_ hs_ => (hk_.2) hs_)) (fun k_ hk_ => fun e_ => Or.elim (ho0.1 k_ e_.symm) (fun hs_ => hk_.2.1 hs_) (fun hn_ => Nat.not_le.2 hk_.2.2 hn_)))
                replace HB := Aside0.mk (hb)
                clear HO_275000
                try clear hb; try clear hkp; try clear ho0
                obtain ⟨Ao46, co46, eo46⟩ := Kd.R_slice HO_276000.out
                (first | subst eo46 | (injection eo46 with f1_ f2_ f3_; have f4_ := f1_.symm; have f5_ := f3_.symm; clear f1_ f2_ f3_; subst f4_; subst f5_))
                refine hK.out _ _ ⟨(blk_cell BK274.out 0).trans rfl, (blk_cell BK274.out 1).trans rfl, (blk_cell BK275.out 0).trans rfl, (blk_cell BK275.out 1).trans rfl, ((HB.out.cell (World.block_lt_of_cell? w _ hw276_0)).trans hw276_0), ((HB.out.cell (World.block_lt_of_cell? w _ hw284_0)).trans hw284_0)⟩ (fun hHeld => ?_)
                clear hK K
                refine norm_ (a' := ?_) ?_ ?_; rotate_left; (· show Act.put _ (some 57) _ = _; simp only [Act.put, sq]; rfl)
                refine one_ (i := 12) (N := some 63) #[T, T, T, T, T, T, T, T, T, T, T, T, T, F, F] rfl rfl (one_of HT_.out (by kernel_rfl)) (by decide) (fun K hK => ?_)
                refine goes_ Try.func27 (by kernel_rfl) rfl #[.agg #[.slice Ao46 x276000_2.length co46, .int .i64 x276001_2], .int .u64 (rd l2 x11_2)] (by rfl) rfl rfl (by (try simp only [List.map_toArray, List.map_cons, List.map_nil]); first | done | rfl | (simp only [List.length_drop, List.length_take]; rfl)) ?_
                with_reducible refine (trommelref18_Add.calls k2 _ _ x276000_2 x276001_2 (rd l2 x11_2) t285 t288 _ ?side1 ?side2 A39.out).mono ?_
                (case side1 => exact Cs (Kd.R_reads' HO_276000.out).2.2)
                (case side2 => exact (Kd.R_reads' HO_276000.out).2.1)
                rintro e w47 ⟨v286, rfl, ho0, hb⟩
                refine ⟨_, rfl, ?_⟩
                replace HO279 := Rb HO279 hb
                replace HO282 := Rb HO282 hb
                have HO287 := Aside0.mk (Kd.R_lower (Kd.R_new' ho0 (Kd.R_lt (Rs HO_276000.out))) (Lz HB))
                replace HO_276000 := Aside0.mk (Kd.R_elder' (Rs HO_276000.out) (Kd.R_base ho0) hb)
                replace BK274 := Bb BK274 hb
                replace BK275 := Bb BK275 hb
                replace HB := Lb HB hb
                try clear hb; try clear hb2; try clear hk; try clear hi; try clear ho0
                obtain ⟨Ao48, co48, eo48⟩ := Kd.R_slice HO282.out
                (first | subst eo48 | (injection eo48 with f1_ f2_ f3_; have f4_ := f1_.symm; have f5_ := f3_.symm; clear f1_ f2_ f3_; subst f4_; subst f5_))
                obtain ⟨Ao51, co51, eo51⟩ := Kd.R_slice HO287.out
                (first | subst eo51 | (injection eo51 with f1_ f2_ f3_; have f4_ := f1_.symm; have f5_ := f3_.symm; clear f1_ f2_ f3_; subst f4_; subst f5_))
                refine hK.out _ _ ⟨(blk_cell BK274.out 0).trans rfl, (blk_cell BK274.out 1).trans rfl, (blk_cell BK275.out 0).trans rfl, (blk_cell BK275.out 1).trans rfl, ((HB.out.cell (World.block_lt_of_cell? w _ hw276_0)).trans hw276_0), ((HB.out.cell (World.block_lt_of_cell? w _ hw284_0)).trans hw284_0)⟩ (fun hHeld => ?_)
                clear hK K
                refine norm_ (a' := ?_) ?_ ?_; rotate_left; (· show Act.put _ (some 63) _ = _; simp only [Act.put, sq]; rfl)
                refine last_ (i := 13) (N := none) #[T, T, T, T, T, T, T, T, T, T, T, T, T, T, F] rfl rfl (one_of HT_.out (by kernel_rfl)) (by decide) (fun K hK => ?_)
                have hs49 : w47.cell? ⟨gb274, 0, none⟩ = some (.slice Ao43 x275000_2.length co43) := (blk_cell BK274.out 0).trans rfl
                have hfs49 := blk_frozen BK274.out 0
                have hns49_1 := NB275_274.out
                have hms49_1 := NB274_275.out
                have hs50 : w47.cell? ⟨gb274, 1, none⟩ = some (.int .i64 x275001_2) := (blk_cell BK274.out 1).trans rfl
                have hfs50 := blk_frozen BK274.out 1
                have hns50_1 := NB275_274.out
                have hms50_1 := NB274_275.out
                refine skip_ (w1 := ?_) (by rfl) rfl ?_ ?_
                rotate_left
                · go_simp
                  rfl
                refine hK.out _ _ ?_
                clear hK K
                refine last_ (i := 14) (N := none) #[T, T, T, T, T, T, T, T, T, T, T, T, T, T, T] rfl rfl (one_of HT_.out (by kernel_rfl)) (by decide) (fun K hK => ?_)
                have hs52 : w47.cell? ⟨gb275, 0, none⟩ = some (.slice Ao46 x276000_2.length co46) := (blk_cell BK275.out 0).trans rfl
                have hfs52 := blk_frozen BK275.out 0
                have hns52_0 := NB274_275.out
                have hms52_0 := NB275_274.out
                have hs53 : w47.cell? ⟨gb275, 1, none⟩ = some (.int .i64 x276001_2) := (blk_cell BK275.out 1).trans rfl
                have hfs53 := blk_frozen BK275.out 1
                have hns53_0 := NB274_275.out
                have hms53_0 := NB275_274.out
                refine skip_ (w1 := ?_) (by rfl) rfl ?_ ?_
                rotate_left
                · go_simp
                  rfl
                refine hK.out _ _ ?_
                clear hK K
                refine done_ (done_of HT_.out (by kernel_rfl)) ?_
                try go_wp2
                go_roundg k2
                case measure => have := HJ4.out; have := HK2.out; omega
                case rel => exact ⟨(wrap64 (x11_2 + 1)), (t280), (t283), (t285), (t288), (.slice Ao48 t280.length co48), (.slice Ao51 t285.length co51), (by first | rfl | (simp; done) | (simp [*]; done)), H', ⟨by have := HJ4.out; have := HK2.out; omega⟩, ⟨by (with_reducible repeat (first | apply Kd.R_alloc | apply Kd.R_drewN | apply Kd.R_drew)); exact Kd.R_mono (Kd.R_far (p := ⟨gb275, 1, none⟩) (Kd.R_far (p := ⟨gb275, 0, none⟩) (Kd.R_far (p := ⟨gb274, 1, none⟩) (Kd.R_far (p := ⟨gb274, 0, none⟩) (Kd.R_types (Kd.R_types HO282.out BK274.out (by decide)) BK275.out (by decide)) (fun _ hk => hk.1.2) (.slice Ao48 t280.length co48)) (fun _ hk => hk.1.2) (.int .i64 t283)) (fun _ hk => hk.2) (.slice Ao51 t285.length co51)) (fun _ hk => hk.2) (.int .i64 t288)) (fun _ hk => trivial)⟩, ⟨by (with_reducible repeat (first | apply Kd.R_alloc | apply Kd.R_drewN | apply Kd.R_drew)); exact Kd.R_mono (Kd.R_far (p := ⟨gb275, 1, none⟩) (Kd.R_far (p := ⟨gb275, 0, none⟩) (Kd.R_far (p := ⟨gb274, 1, none⟩) (Kd.R_far (p := ⟨gb274, 0, none⟩) (Kd.R_types (Kd.R_types HO287.out BK274.out (by decide)) BK275.out (by decide)) (fun _ hk => hk.1.2) (.slice Ao48 t280.length co48)) (fun _ hk => hk.1.2) (.int .i64 t283)) (fun _ hk => hk.2) (.slice Ao51 t285.length co51)) (fun _ hk => hk.2) (.int .i64 t288)) (fun _ hk => trivial)⟩, ⟨by (with_reducible repeat (first | refine blk_drewN ?_ _ | refine blk_drew ?_ | refine blk_alloc ?_ _)); refine blk_far ?_ NB274_275.out _; (with_reducible repeat (first | refine blk_drewN ?_ _ | refine blk_drew ?_ | refine blk_alloc ?_ _)); refine blk_far ?_ NB274_275.out _; (with_reducible repeat (first | refine blk_drewN ?_ _ | refine blk_drew ?_ | refine blk_alloc ?_ _)); refine blk_put (cs := #[.slice Ao48 t280.length co48, .int .i64 x275001_2]) ?_ 1 _ rfl; (with_reducible repeat (first | refine blk_drewN ?_ _ | refine blk_drew ?_ | refine blk_alloc ?_ _)); refine blk_put (cs := #[.slice Ao43 x275000_2.length co43, .int .i64 x275001_2]) ?_ 0 _ rfl; (with_reducible repeat (first | refine blk_drewN ?_ _ | refine blk_drew ?_ | refine blk_alloc ?_ _)); exact BK274.out⟩, ⟨by (with_reducible repeat (first | refine blk_drewN ?_ _ | refine blk_drew ?_ | refine blk_alloc ?_ _)); refine blk_put (cs := #[.slice Ao51 t285.length co51, .int .i64 x276001_2]) ?_ 1 _ rfl; (with_reducible repeat (first | refine blk_drewN ?_ _ | refine blk_drew ?_ | refine blk_alloc ?_ _)); refine blk_put (cs := #[.slice Ao46 x276000_2.length co46, .int .i64 x276001_2]) ?_ 0 _ rfl; (with_reducible repeat (first | refine blk_drewN ?_ _ | refine blk_drew ?_ | refine blk_alloc ?_ _)); refine blk_far ?_ NB275_274.out _; (with_reducible repeat (first | refine blk_drewN ?_ _ | refine blk_drew ?_ | refine blk_alloc ?_ _)); refine blk_far ?_ NB275_274.out _; (with_reducible repeat (first | refine blk_drewN ?_ _ | refine blk_drew ?_ | refine blk_alloc ?_ _)); exact BK275.out⟩, ⟨Ls HB⟩⟩
              · rw [if_neg c36] at H
                have c36b0 : decide (x11_2 < (l2.length : Int)) = false := decide_eq_false c36
                clear c36
                replace H := Option.bind_eq_some_iff.mp H
                obtain ⟨t289, A540, H⟩ := H
                replace H : (if (t289.length : Int) = (wrap64 ((x276000_2.length : Int) / 64)) then ((bloom_Bits.f x275000_2 x275001_2).bind fun t292 => (trommellaw18_BloomPlays.j2 k2 a3 t289 (t292 != x276001_2) x275000_2 x275001_2 x276000_2 x276001_2)) else (trommellaw18_BloomPlays.j2 k2 a3 t289 true x275000_2 x275001_2 x276000_2 x276001_2)) = some r := H
                have A54 := Aside0.mk A540
                clear A540
                have HC55 := Aside0.mk H
                clear H
                have hnb56 := NB274_275.out
                have hnc56 := NB275_274.out
                have hcz57_0 : wr.cell? ⟨gb274, 0, none⟩ = some (u275000) := (blk_cell BK274.out 0).trans rfl
                have hcz57_1 : wr.cell? ⟨gb274, 1, none⟩ = some (.int .i64 x275001_2) := (blk_cell BK274.out 1).trans rfl
                have hfz57_0 := blk_frozen BK274.out 0
                have hfz57_1 := blk_frozen BK274.out 1
                obtain ⟨Ao58, co58, eo58⟩ := Kd.R_slice HO_275000.out
                subst eo58
                go_upto_region 11 with (first | ((with_reducible refine gate_callee (f := 15) rfl ?_); refine goesL_ (some 65) rfl rfl Try.func15 (by kernel_rfl) rfl #[.agg #[.slice Ao58 x275000_2.length co58, .int .i64 x275001_2]] rfl (by (try simp only [List.map_toArray, List.map_cons, List.map_nil]); first | done | rfl | (simp only [List.length_drop, List.length_take]; rfl)) ?_; (with_reducible refine (bloom_Words.calls _ _ x275000_2 x275001_2 t289 _ ?side1 ?side2 A54.out).mono ?_); (case side1 => exact Cs (Kd.R_reads' HO_275000.out).2.2); (case side2 => exact (Kd.R_reads' HO_275000.out).2.1); rintro e w59 ⟨v290, rfl, ho0, hb⟩; refine ⟨_, rfl, ?_⟩; have n0_ := Aside0.mk (Kd.R_elder' (Rs HO_275000.out) (Kd.R_base ho0) hb); have n1_ := Rb HO_276000 hb; have n2_ := Aside0.mk (Kd.R_lower (Kd.R_new' ho0 (Kd.R_lt (Rs HO_275000.out))) (Lz HB)); have n3_ := Bb BK274 hb; have n4_ := Bb BK275 hb; have n5_ := Lb HB hb; clear HO_275000 HO_276000 BK274 BK275 HB; have HO_275000 := n0_; have HO_276000 := n1_; have HO291 := n2_; have BK274 := n3_; have BK275 := n4_; have HB := n5_; clear n0_ n1_ n2_ n3_ n4_ n5_; (try clear hb); (try clear hb2); (try clear hk); (try clear hi); (try clear ho0)))
                (try simp only [Act.put, List.setIfInBounds_toArray, List.set_cons_zero, List.set_cons_succ])
                go_cut [79] (fun v79 wc => ∃ (kq : Nat) (x79_54 : Bool), v79 = .bool x79_54 ∧ Aside0 (trommellaw18_BloomPlays.j2 kq a3 t289 x79_54 x275000_2 x275001_2 x276000_2 x276001_2 = some r) ∧ Aside0 (kq ≤ k2) ∧ Aside0 (Kd.R (Kd.int .u64) 33 wc w.heap.size (fun k_ => some k_ ≠ ((.slice Ao58 x275000_2.length co58) : Value).ownBlock) v290 t289) ∧ Aside0 (Kd.R (Kd.int .u64) 33 wc w.heap.size (fun k_ => some k_ ≠ (v290 : Value).ownBlock) (.slice Ao58 x275000_2.length co58) x275000_2) ∧ Aside0 (Kd.R Kd.bool 4 wc w.heap.size (fun _ => True) u276000 x276000_2) ∧ Aside0 (wc.heap[gb274]? = some (.cells #[(.slice Ao58 x275000_2.length co58), .int .i64 x275001_2] 25 (0, 0))) ∧ Aside0 (wc.heap[gb275]? = some (.cells #[u276000, .int .i64 x276001_2] 50 (0, 0))) ∧ Aside0 (Below w.heap.size w wc))
                case first =>
                  have H := HC55.out
                  clear HC55
                  by_cases c60 : (t289.length : Int) = (wrap64 ((x276000_2.length : Int) / 64))
                  · rw [if_pos c60] at H
                    have c60b0 : ((t289.length : Int) == (wrap64 ((x276000_2.length : Int) / 64))) = true := beq_iff_eq.mpr c60
                    have c60b1 : ((t289.length : Int) != (wrap64 ((x276000_2.length : Int) / 64))) = false := bne_eq_false_iff_eq.mpr c60
                    clear c60
                    (first | rw [c60b0] | (simp only [i64_w, i32_w]; rw [c60b0]) | skip)
                    replace H := Option.bind_eq_some_iff.mp H
                    obtain ⟨t292, A610, H⟩ := H
                    replace H : (trommellaw18_BloomPlays.j2 k2 a3 t289 (t292 != x276001_2) x275000_2 x275001_2 x276000_2 x276001_2) = some r := H
                    have A61 := Aside0.mk A610
                    clear A610
                    have H' := Aside0.mk H
                    clear H
                    try go_wp2
                    replace HO_275000 := Aside0.mk (Kd.R_drew HO_275000.out)
                    replace HO_276000 := Aside0.mk (Kd.R_drew HO_276000.out)
                    replace HO291 := Aside0.mk (Kd.R_drew HO291.out)
                    replace BK274 := Aside0.mk (blk_drew BK274.out)
                    replace BK275 := Aside0.mk (blk_drew BK275.out)
                    replace HB := Aside0.mk (below_drew1 HB.out)
                    obtain ⟨Ao63, co63, eo63⟩ := Kd.R_slice HO291.out
                    (first | subst eo63 | (injection eo63 with f1_ f2_ f3_; have f4_ := f1_.symm; have f5_ := f3_.symm; clear f1_ f2_ f3_; subst f4_; subst f5_))
                    obtain ⟨Ao64, co64, eo64⟩ := Kd.R_slice HO_276000.out
                    (first | subst eo64 | (injection eo64 with f1_ f2_ f3_; have f4_ := f1_.symm; have f5_ := f3_.symm; clear f1_ f2_ f3_; subst f4_; subst f5_))
                    refine start_ (n := 14) (S := fun w' => w'.cell? ⟨gb275, 0, none⟩ = some (.slice Ao64 x276000_2.length co64) ∧ w'.cell? ⟨gb275, 1, none⟩ = some (.int .i64 x276001_2) ∧ w'.cell? ⟨gb274, 0, none⟩ = some (.slice Ao58 x275000_2.length co58) ∧ w'.cell? ⟨gb274, 1, none⟩ = some (.int .i64 x275001_2)) (ds := []) #[F, F, F, F, F, F, F, F, F, F, F, F, F, F] (by kernel_rfl) rfl rfl ⟨(blk_cell BK275.out 0).trans rfl, (blk_cell BK275.out 1).trans rfl, (blk_cell BK274.out 0).trans rfl, (blk_cell BK274.out 1).trans rfl⟩ (fun hHeld => ?_); refine with_tabW trommellaw18_BloomPlays.tab11 trommellaw18_BloomPlays.bits11 (fun HT_ HW_ => ?_)
                    generalize w59.drew = w62 at HO_275000 HO_276000 HO291 BK274 BK275 HB hHeld ⊢
                    refine pure_ (i := 0) (N := some 66) (v := ?_) (a' := ?_) #[T, F, F, F, F, F, F, F, F, F, F, F, F, F] rfl rfl (any_of HT_.out (by kernel_rfl)) (fun _ _ _ h => h) (Or.inl ⟨by rfl, ?_⟩) ?_ ?_; rotate_left; (· intro w'; go_simp; with_reducible rfl); rotate_left; (· simp only [Act.put, sq]; rfl)
                    refine pure_ (i := 1) (N := some 67) (v := ?_) (a' := ?_) #[T, T, F, F, F, F, F, F, F, F, F, F, F, F] rfl rfl (any_of HT_.out (by kernel_rfl)) (fun _ _ _ h => h) (Or.inl ⟨by rfl, ?_⟩) ?_ ?_; rotate_left; (· intro w'; go_simp; with_reducible rfl); rotate_left; (· simp only [Act.put, sq]; rfl)
                    refine pure_ (i := 2) (N := some 68) (v := ?_) (a' := ?_) #[T, T, T, F, F, F, F, F, F, F, F, F, F, F] rfl rfl (any_of HT_.out (by kernel_rfl)) (fun _ _ _ h => h) (Or.inl ⟨by rfl, ?_⟩) ?_ ?_; rotate_left; (· intro w'; go_simp; with_reducible rfl); rotate_left; (· simp only [Act.put, sq]; rfl)
                    refine take_ (i := 3) (N := some 69) (v := ?_) (a' := ?_) #[T, T, T, T, F, F, F, F, F, F, F, F, F, F] rfl rfl (take_ofW HT_.out HW_.out (by kernel_rfl)) (fun _ _ _ h => h) (Or.inl ⟨by rfl, ?_⟩) hHeld ?_ ?_; rotate_left; (· rintro w' ⟨s0, s1, s2, s3⟩; go_simp; with_reducible rfl); rotate_left; (· simp only [Act.put, sq]; rfl)
                    refine pure_ (i := 4) (N := some 70) (v := ?_) (a' := ?_) #[T, T, T, T, T, F, F, F, F, F, F, F, F, F] rfl rfl (any_of HT_.out (by kernel_rfl)) (fun _ _ _ h => h) (Or.inl ⟨by rfl, ?_⟩) ?_ ?_; rotate_left; (· intro w'; go_simp; with_reducible rfl); rotate_left; (· simp only [Act.put, sq]; rfl)
                    refine pure_ (i := 5) (N := some 71) (v := ?_) (a' := ?_) #[T, T, T, T, T, T, F, F, F, F, F, F, F, F] rfl rfl (any_of HT_.out (by kernel_rfl)) (fun _ _ _ h => h) (Or.inl ⟨by rfl, ?_⟩) ?_ ?_; rotate_left; (· intro w'; go_simp; with_reducible rfl); rotate_left; (· simp only [Act.put, sq]; rfl)
                    refine pure_ (i := 6) (N := some 72) (v := ?_) (a' := ?_) #[T, T, T, T, T, T, T, F, F, F, F, F, F, F] rfl rfl (any_of HT_.out (by kernel_rfl)) (fun _ _ _ h => h) (Or.inl ⟨by rfl, ?_⟩) ?_ ?_; rotate_left; (· intro w'; go_simp; with_reducible rfl); rotate_left; (· simp only [Act.put, sq]; rfl)
                    refine pure_ (i := 7) (N := some 73) (v := ?_) (a' := ?_) #[T, T, T, T, T, T, T, T, F, F, F, F, F, F] rfl rfl (any_of HT_.out (by kernel_rfl)) (fun _ _ _ h => h) (Or.inl ⟨by rfl, ?_⟩) ?_ ?_; rotate_left; (· intro w'; go_simp; with_reducible rfl); rotate_left; (· simp only [Act.put, sq]; rfl)
                    refine pure_ (i := 10) (N := some 76) (v := ?_) (a' := ?_) #[T, T, T, T, T, T, T, T, F, F, T, F, F, F] rfl rfl (any_of HT_.out (by kernel_rfl)) (fun _ _ _ h => h) (Or.inl ⟨by rfl, ?_⟩) ?_ ?_; rotate_left; (· intro w'; go_simp; with_reducible rfl); rotate_left; (· simp only [Act.put, sq]; rfl)
                    refine take_ (i := 8) (N := some 74) (v := ?_) (a' := ?_) #[T, T, T, T, T, T, T, T, T, F, T, F, F, F] rfl rfl (take_ofW HT_.out HW_.out (by kernel_rfl)) (fun _ _ _ h => h) (Or.inl ⟨by rfl, ?_⟩) hHeld ?_ ?_; rotate_left; (· rintro w' ⟨s0, s1, s2, s3⟩; go_simp; with_reducible rfl); rotate_left; (· simp only [Act.put, sq]; rfl)
                    refine take_ (i := 11) (N := some 77) (v := ?_) (a' := ?_) #[T, T, T, T, T, T, T, T, T, F, T, T, F, F] rfl rfl (take_ofW HT_.out HW_.out (by kernel_rfl)) (fun _ _ _ h => h) (Or.inl ⟨by rfl, ?_⟩) hHeld ?_ ?_; rotate_left; (· rintro w' ⟨s0, s1, s2, s3⟩; go_simp; with_reducible rfl); rotate_left; (· simp only [Act.put, sq]; rfl)
                    refine one_ (i := 9) (N := some 75) #[T, T, T, T, T, T, T, T, T, T, T, T, F, F] rfl rfl (one_of HT_.out (by kernel_rfl)) (by decide) (fun K hK => ?_)
                    refine goes_ Try.func28 (by kernel_rfl) rfl #[.agg #[.slice Ao58 x275000_2.length co58, .int .i64 x275001_2]] (by rfl) rfl rfl (by (try simp only [List.map_toArray, List.map_cons, List.map_nil]); first | done | rfl | (simp only [List.length_drop, List.length_take]; rfl)) ?_
                    with_reducible refine (bloom_Bits.calls _ _ x275000_2 x275001_2 t292 _ ?side1 ?side2 A61.out).mono ?_
                    (case side1 => exact Cs (Kd.R_reads' HO_275000.out).2.2)
                    (case side2 => exact (Kd.R_reads' HO_275000.out).2.1)
                    rintro e w65 ⟨rfl, hb⟩
                    refine ⟨_, rfl, ?_⟩
                    replace HO_275000 := Rb HO_275000 hb
                    replace HO_276000 := Rb HO_276000 hb
                    replace HO291 := Rb HO291 hb
                    replace BK274 := Bb BK274 hb
                    replace BK275 := Bb BK275 hb
                    replace HB := Lb HB hb
                    try clear hb; try clear hb2; try clear hk; try clear hi
                    refine hK.out _ _ ⟨(blk_cell BK275.out 0).trans rfl, (blk_cell BK275.out 1).trans rfl, (blk_cell BK274.out 0).trans rfl, (blk_cell BK274.out 1).trans rfl⟩ (fun hHeld => ?_)
                    clear hK K
                    refine norm_ (a' := ?_) ?_ ?_; rotate_left; (· show Act.put _ (some 75) _ = _; simp only [Act.put, sq]; rfl)
                    refine pure_ (i := 12) (N := some 78) (v := ?_) (a' := ?_) #[T, T, T, T, T, T, T, T, T, T, T, T, T, F] rfl rfl (any_of HT_.out (by kernel_rfl)) (fun _ _ _ h => h) (Or.inl ⟨by rfl, ?_⟩) ?_ ?_; rotate_left; (· intro w'; go_simp; with_reducible rfl); rotate_left; (· simp only [Act.put, sq]; rfl)
                    refine pure_ (i := 13) (N := some 79) (v := ?_) (a' := ?_) #[T, T, T, T, T, T, T, T, T, T, T, T, T, T] rfl rfl (any_of HT_.out (by kernel_rfl)) (fun _ _ _ h => h) (Or.inl ⟨by rfl, ?_⟩) ?_ ?_; rotate_left; (· intro w'; go_simp; with_reducible rfl); rotate_left; (· simp only [Act.put, sq]; rfl)
                    refine done_ (done_of HT_.out (by kernel_rfl)) ?_
                    try go_wp2
                    go_meet
                    case rel => exact ⟨_, ((t292 != x276001_2)), (by first | rfl | (simp; done) | (simp [*]; done)), H', ⟨by have := HJ4.out; have := HK2.out; first | omega | exact Nat.le_refl _⟩, ⟨by (with_reducible repeat (first | apply Kd.R_alloc | apply Kd.R_drewN | apply Kd.R_drew)); exact Kd.R_mono HO291.out (fun _ hk => hk.2)⟩, ⟨by (with_reducible repeat (first | apply Kd.R_alloc | apply Kd.R_drewN | apply Kd.R_drew)); exact Kd.R_mono HO_275000.out (fun _ hk => hk.2)⟩, ⟨Rs HO_276000.out⟩, ⟨Bs BK274.out⟩, ⟨Bs BK275.out⟩, ⟨Ls HB⟩⟩
                  · rw [if_neg c60] at H
                    have c60b0 : ((t289.length : Int) == (wrap64 ((x276000_2.length : Int) / 64))) = false := beq_eq_false_iff_ne.mpr c60
                    have c60b1 : ((t289.length : Int) != (wrap64 ((x276000_2.length : Int) / 64))) = true := bne_iff_ne.mpr c60
                    (first | rw [c60b0] | (simp only [i64_w, i32_w]; rw [c60b0]) | skip)
                    have H' := Aside0.mk H
                    clear H
                    try go_wp2
                    replace HO_275000 := Aside0.mk (Kd.R_drew HO_275000.out)
                    replace HO_276000 := Aside0.mk (Kd.R_drew HO_276000.out)
                    replace HO291 := Aside0.mk (Kd.R_drew HO291.out)
                    replace BK274 := Aside0.mk (blk_drew BK274.out)
                    replace BK275 := Aside0.mk (blk_drew BK275.out)
                    replace HB := Aside0.mk (below_drew1 HB.out)
                    obtain ⟨Ao67, co67, eo67⟩ := Kd.R_slice HO291.out
                    (first | subst eo67 | (injection eo67 with f1_ f2_ f3_; have f4_ := f1_.symm; have f5_ := f3_.symm; clear f1_ f2_ f3_; subst f4_; subst f5_))
                    obtain ⟨Ao68, co68, eo68⟩ := Kd.R_slice HO_276000.out
                    (first | subst eo68 | (injection eo68 with f1_ f2_ f3_; have f4_ := f1_.symm; have f5_ := f3_.symm; clear f1_ f2_ f3_; subst f4_; subst f5_))
                    refine start_ (n := 14) (S := fun w' => w'.cell? ⟨gb275, 0, none⟩ = some (.slice Ao68 x276000_2.length co68) ∧ w'.cell? ⟨gb275, 1, none⟩ = some (.int .i64 x276001_2)) (ds := []) #[F, F, F, F, F, F, F, F, F, F, F, F, F, F] (by kernel_rfl) rfl rfl ⟨(blk_cell BK275.out 0).trans rfl, (blk_cell BK275.out 1).trans rfl⟩ (fun hHeld => ?_); refine with_tabW trommellaw18_BloomPlays.tab11 trommellaw18_BloomPlays.bits11 (fun HT_ HW_ => ?_)
                    generalize w59.drew = w66 at HO_275000 HO_276000 HO291 BK274 BK275 HB hHeld ⊢
                    refine pure_ (i := 0) (N := some 66) (v := ?_) (a' := ?_) #[T, F, F, F, F, F, F, F, F, F, F, F, F, F] rfl rfl (any_of HT_.out (by kernel_rfl)) (fun _ _ _ h => h) (Or.inl ⟨by rfl, ?_⟩) ?_ ?_; rotate_left; (· intro w'; go_simp; with_reducible rfl); rotate_left; (· simp only [Act.put, sq]; rfl)
                    refine pure_ (i := 1) (N := some 67) (v := ?_) (a' := ?_) #[T, T, F, F, F, F, F, F, F, F, F, F, F, F] rfl rfl (any_of HT_.out (by kernel_rfl)) (fun _ _ _ h => h) (Or.inl ⟨by rfl, ?_⟩) ?_ ?_; rotate_left; (· intro w'; go_simp; with_reducible rfl); rotate_left; (· simp only [Act.put, sq]; rfl)
                    refine pure_ (i := 2) (N := some 68) (v := ?_) (a' := ?_) #[T, T, T, F, F, F, F, F, F, F, F, F, F, F] rfl rfl (any_of HT_.out (by kernel_rfl)) (fun _ _ _ h => h) (Or.inl ⟨by rfl, ?_⟩) ?_ ?_; rotate_left; (· intro w'; go_simp; with_reducible rfl); rotate_left; (· simp only [Act.put, sq]; rfl)
                    refine take_ (i := 3) (N := some 69) (v := ?_) (a' := ?_) #[T, T, T, T, F, F, F, F, F, F, F, F, F, F] rfl rfl (take_ofW HT_.out HW_.out (by kernel_rfl)) (fun _ _ _ h => h) (Or.inl ⟨by rfl, ?_⟩) hHeld ?_ ?_; rotate_left; (· rintro w' ⟨s0, s1⟩; go_simp; with_reducible rfl); rotate_left; (· simp only [Act.put, sq]; rfl)
                    refine pure_ (i := 4) (N := some 70) (v := ?_) (a' := ?_) #[T, T, T, T, T, F, F, F, F, F, F, F, F, F] rfl rfl (any_of HT_.out (by kernel_rfl)) (fun _ _ _ h => h) (Or.inl ⟨by rfl, ?_⟩) ?_ ?_; rotate_left; (· intro w'; go_simp; with_reducible rfl); rotate_left; (· simp only [Act.put, sq]; rfl)
                    refine pure_ (i := 5) (N := some 71) (v := ?_) (a' := ?_) #[T, T, T, T, T, T, F, F, F, F, F, F, F, F] rfl rfl (any_of HT_.out (by kernel_rfl)) (fun _ _ _ h => h) (Or.inl ⟨by rfl, ?_⟩) ?_ ?_; rotate_left; (· intro w'; go_simp; with_reducible rfl); rotate_left; (· simp only [Act.put, sq]; rfl)
                    refine pure_ (i := 6) (N := some 72) (v := ?_) (a' := ?_) #[T, T, T, T, T, T, T, F, F, F, F, F, F, F] rfl rfl (any_of HT_.out (by kernel_rfl)) (fun _ _ _ h => h) (Or.inl ⟨by rfl, ?_⟩) ?_ ?_; rotate_left; (· intro w'; go_simp; with_reducible rfl); rotate_left; (· simp only [Act.put, sq]; rfl)
                    refine pure_ (i := 7) (N := some 73) (v := ?_) (a' := ?_) #[T, T, T, T, T, T, T, T, F, F, F, F, F, F] rfl rfl (any_of HT_.out (by kernel_rfl)) (fun _ _ _ h => h) (Or.inl ⟨by rfl, ?_⟩) ?_ ?_; rotate_left; (· intro w'; go_simp; with_reducible rfl); rotate_left; (· simp only [Act.put, sq]; rfl)
                    refine pure_ (i := 8) (N := some 74) (v := undef) (a' := ?_) #[T, T, T, T, T, T, T, T, T, F, F, F, F, F] rfl rfl (any_of HT_.out (by kernel_rfl)) (fun _ _ _ h => h) (Or.inr ⟨by rfl, rfl⟩) ?_ ?_
                    rotate_left; (· simp only [Act.put, sq]; rfl)
                    refine pure_ (i := 9) (N := some 75) (v := undef) (a' := ?_) #[T, T, T, T, T, T, T, T, T, T, F, F, F, F] rfl rfl (any_of HT_.out (by kernel_rfl)) (fun _ _ _ h => h) (Or.inr ⟨by rfl, rfl⟩) ?_ ?_
                    rotate_left; (· simp only [Act.put, sq]; rfl)
                    refine pure_ (i := 10) (N := some 76) (v := undef) (a' := ?_) #[T, T, T, T, T, T, T, T, T, T, T, F, F, F] rfl rfl (any_of HT_.out (by kernel_rfl)) (fun _ _ _ h => h) (Or.inr ⟨by rfl, rfl⟩) ?_ ?_
                    rotate_left; (· simp only [Act.put, sq]; rfl)
                    refine pure_ (i := 11) (N := some 77) (v := undef) (a' := ?_) #[T, T, T, T, T, T, T, T, T, T, T, T, F, F] rfl rfl (any_of HT_.out (by kernel_rfl)) (fun _ _ _ h => h) (Or.inr ⟨by rfl, rfl⟩) ?_ ?_
                    rotate_left; (· simp only [Act.put, sq]; rfl)
                    refine pure_ (i := 12) (N := some 78) (v := undef) (a' := ?_) #[T, T, T, T, T, T, T, T, T, T, T, T, T, F] rfl rfl (any_of HT_.out (by kernel_rfl)) (fun _ _ _ h => h) (Or.inr ⟨by rfl, rfl⟩) ?_ ?_
                    rotate_left; (· simp only [Act.put, sq]; rfl)
                    refine pure_ (i := 13) (N := some 79) (v := ?_) (a' := ?_) #[T, T, T, T, T, T, T, T, T, T, T, T, T, T] rfl rfl (any_of HT_.out (by kernel_rfl)) (fun _ _ _ h => h) (Or.inl ⟨by rfl, ?_⟩) ?_ ?_; rotate_left; (· intro w'; go_simp; with_reducible rfl); rotate_left; (· simp only [Act.put, sq]; rfl)
                    refine done_ (done_of HT_.out (by kernel_rfl)) ?_
                    try go_wp2
                    go_meet
                    case rel => exact ⟨_, (true), (by first | rfl | (simp; done) | (simp [*]; done)), H', ⟨by have := HJ4.out; have := HK2.out; first | omega | exact Nat.le_refl _⟩, ⟨by (with_reducible repeat (first | apply Kd.R_alloc | apply Kd.R_drewN | apply Kd.R_drew)); exact Kd.R_mono HO291.out (fun _ hk => hk.2)⟩, ⟨by (with_reducible repeat (first | apply Kd.R_alloc | apply Kd.R_drewN | apply Kd.R_drew)); exact Kd.R_mono HO_275000.out (fun _ hk => hk.2)⟩, ⟨Rs HO_276000.out⟩, ⟨Bs BK274.out⟩, ⟨Bs BK275.out⟩, ⟨Ls HB⟩⟩
                case rest =>
                  clear HC55
                  try clear c1; try clear c2; try clear p2; try clear q2; try clear hx2; try clear c3; try clear c5; try clear c6; try clear p6; try clear c10; try clear c15; try clear c27; try clear p27; try clear q27; try clear hx27; try clear c28; try clear p28; try clear q28; try clear hx28; try clear c36; try clear c36b0; try clear c37; try clear c56; try clear c60; try clear c60b0; try clear c60b1; try clear p64; try clear hcz57_0; try clear hcz57_1; try clear hfz57_0; try clear hfz57_1; try clear hx276_0; try clear hx284_0; try clear p276; try clear p284; try clear q276; try clear q284
                  obtain ⟨kq, x79_54, rfl, HA, HJ54, HO_12, HO_275000, HO_276000, BK274, BK275, HB⟩ := hcut
                  cases kq with
                  | zero => exact absurd HA.out (by simp [trommellaw18_BloomPlays.j2])
                  | succ kj54 =>
                    have H := HA.out
                    clear HA
                    simp only [trommellaw18_BloomPlays.j2] at H
                    by_cases c69 : x79_54 = true
                    · subst c69
                      have H1 : (some false) = some r := by rw [if_pos rfl] at H; exact H
                      clear H
                      have H := H1
                      clear H1
                      obtain rfl := Option.some.inj H
                      go_wp2
                      go_ret
                      exact ⟨by first | rfl | (simp [errW_none, errW_some] <;> rfl) | (simp [*, errW_none, errW_some] <;> rfl), by repeat (first | (with_reducible first | exact HB.out | apply below_alloc | apply pw_below_drewN | apply below_drew1 | refine below_set ?_ GE274.out | refine below_set ?_ GE275.out) | exact HB.out)⟩
                    · replace c69 := Bool.eq_false_iff.mpr c69
                      subst c69
                      have H1 : (trommellaw18_BloomPlays.l1 kj54 a3 t289 0 0 x275000_2 x275001_2 x276000_2 x276001_2) = some r := by rw [if_neg (show ¬ (false = true) by decide)] at H; exact H
                      clear H
                      have H := H1
                      clear H1
                      have H' := Aside0.mk H
                      clear H
                      go_wp2
                      go_loopg [14] kj54 (fun kq v14 w' => ∃ (x14_4 : Int), v14 = .int .i64 x14_4 ∧ Aside0 (trommellaw18_BloomPlays.l1 kq a3 t289 0 x14_4 x275000_2 x275001_2 x276000_2 x276001_2 = some r) ∧ Aside0 (kq ≤ kj54) ∧ Aside0 (Kd.R (Kd.int .u64) 33 w' w.heap.size (fun k_ => some k_ ≠ ((.slice Ao58 x275000_2.length co58) : Value).ownBlock) v290 t289) ∧ Aside0 (Kd.R (Kd.int .u64) 33 w' w.heap.size (fun k_ => some k_ ≠ (v290 : Value).ownBlock) (.slice Ao58 x275000_2.length co58) x275000_2) ∧ Aside0 (Kd.R Kd.bool 4 w' w.heap.size (fun _ => True) u276000 x276000_2) ∧ Aside0 (w'.heap[gb274]? = some (.cells #[(.slice Ao58 x275000_2.length co58), .int .i64 x275001_2] 25 (0, 0))) ∧ Aside0 (w'.heap[gb275]? = some (.cells #[u276000, .int .i64 x276001_2] 50 (0, 0))) ∧ Aside0 (Below w.heap.size w w'))
                      case atStart => exact ⟨(0), (by first | rfl | (simp; done) | (simp [*]; done)), H', ⟨Nat.le_refl _⟩, ⟨Rs HO_12.out⟩, ⟨Rs HO_275000.out⟩, ⟨Rs HO_276000.out⟩, ⟨Bs BK274.out⟩, ⟨Bs BK275.out⟩, ⟨Ls HB⟩⟩
                      case round =>
                        clear H'
                        try clear c1; try clear c2; try clear p2; try clear q2; try clear hx2; try clear c3; try clear c5; try clear c6; try clear p6; try clear c10; try clear c15; try clear c27; try clear p27; try clear q27; try clear hx27; try clear c28; try clear p28; try clear q28; try clear hx28; try clear c36; try clear c36b0; try clear c37; try clear c56; try clear c60; try clear c60b0; try clear c60b1; try clear p64; try clear c69; try clear hcz57_0; try clear hcz57_1; try clear hfz57_0; try clear hfz57_1; try clear hx276_0; try clear hx284_0; try clear p2; try clear p27; try clear p276; try clear p28; try clear p284; try clear p6; try clear p64; try clear q2; try clear q27; try clear q276; try clear q28; try clear q284
                        obtain ⟨x14_4, rfl, HA, HK4, HO_12, HO_275000, HO_276000, BK274, BK275, HB⟩ := hrel
                        cases gk with
                        | zero => exact absurd HA.out (by simp [trommellaw18_BloomPlays.l1])
                        | succ k4 =>
                          have H := HA.out
                          clear HA
                          simp only [trommellaw18_BloomPlays.l1] at H
                          by_cases c70 : x14_4 < (t289.length : Int)
                          · rw [if_pos c70] at H
                            have c70b0 : decide (x14_4 < (t289.length : Int)) = true := decide_eq_true c70
                            clear c70
                            refine bc (p := (0 ≤ x14_4)) (fun c71 => ?_) (fun c71 => ?_)
                            · rw [if_neg c71] at H
                              exact absurd H (by simp)
                            rw [if_pos c71] at H
                            have c71b0 : decide (0 ≤ x14_4) = true := decide_eq_true c71
                            clear c71
                            replace H := Option.bind_eq_some_iff.mp H
                            obtain ⟨t294, A720, H⟩ := H
                            replace H : (if (rd t289 x14_4) = t294 then (trommellaw18_BloomPlays.l1 k4 a3 t289 0 (wrap64 (x14_4 + 1)) x275000_2 x275001_2 x276000_2 x276001_2) else (some false)) = some r := H
                            have A72 := Aside0.mk A720
                            clear A720
                            by_cases c73 : (rd t289 x14_4) = t294
                            · rw [if_pos c73] at H
                              have c73b0 : ((rd t289 x14_4) == t294) = true := beq_iff_eq.mpr c73
                              have c73b1 : ((rd t289 x14_4) != t294) = false := bne_eq_false_iff_eq.mpr c73
                              clear c73
                              have H' := Aside0.mk H
                              clear H
                              obtain ⟨Ao74, co74, eo74⟩ := Kd.R_slice HO_12.out
                              subst eo74
                              try go_wp2
                              replace HO_12 := Aside0.mk (Kd.R_drew HO_12.out)
                              replace HO_275000 := Aside0.mk (Kd.R_drew HO_275000.out)
                              replace HO_276000 := Aside0.mk (Kd.R_drew HO_276000.out)
                              replace BK274 := Aside0.mk (blk_drew BK274.out)
                              replace BK275 := Aside0.mk (blk_drew BK275.out)
                              replace HB := Aside0.mk (below_drew1 HB.out)
                              have p293 : 0 ≤ (x14_4 : Int) := of_decide_eq_true (by first | (with_reducible assumption) | assumption)
                              have q293 : x14_4 < (t289.length : Int) := of_decide_eq_true (by first | (with_reducible assumption) | assumption)
                              obtain ⟨ad293, e293, hx293_0⟩ := Kd.at_int (Kd.R_reads' HO_12.out).2.2 x14_4 p293 q293
                              cases e293
                              replace p293 := eq_true p293
                              replace q293 := eq_true q293
                              obtain ⟨Ao76, co76, eo76⟩ := Kd.R_slice HO_276000.out
                              (first | subst eo76 | (injection eo76 with f1_ f2_ f3_; have f4_ := f1_.symm; have f5_ := f3_.symm; clear f1_ f2_ f3_; subst f4_; subst f5_))
                              refine start_ (n := 8) (S := fun w' => w'.cell? ⟨gb275, 0, none⟩ = some (.slice Ao76 x276000_2.length co76) ∧ w'.cell? ⟨gb275, 1, none⟩ = some (.int .i64 x276001_2) ∧ w'.cell? (ad293.add (x14_4).toNat) = some (.int .u64 (rd t289 x14_4))) (ds := []) #[F, F, F, F, F, F, F, F] (by kernel_rfl) rfl rfl ⟨(blk_cell BK275.out 0).trans rfl, (blk_cell BK275.out 1).trans rfl, hx293_0⟩ (fun hHeld => ?_); refine with_tabW trommellaw18_BloomPlays.tab17 trommellaw18_BloomPlays.bits17 (fun HT_ HW_ => ?_)
                              generalize wr.drew = w75 at HO_12 HO_275000 HO_276000 BK274 BK275 HB hx293_0 hHeld ⊢
                              refine pure_ (i := 0) (N := some 86) (v := ?_) (a' := ?_) #[T, F, F, F, F, F, F, F] rfl rfl (any_of HT_.out (by kernel_rfl)) (fun _ _ _ h => h) (Or.inl ⟨by rfl, ?_⟩) ?_ ?_; rotate_left; (· intro w'; go_simp; with_reducible rfl); rotate_left; (· simp only [Act.put, sq]; rfl)
                              refine pure_ (i := 1) (N := some 87) (v := ?_) (a' := ?_) #[T, T, F, F, F, F, F, F] rfl rfl (any_of HT_.out (by kernel_rfl)) (fun _ _ _ h => h) (Or.inl ⟨by rfl, ?_⟩) ?_ ?_; rotate_left; (· intro w'; go_simp; with_reducible rfl); rotate_left; (· simp only [Act.put, sq]; rfl)
                              refine pure_ (i := 2) (N := some 88) (v := ?_) (a' := ?_) #[T, T, T, F, F, F, F, F] rfl rfl (any_of HT_.out (by kernel_rfl)) (fun _ _ _ h => h) (Or.inl ⟨by rfl, ?_⟩) ?_ ?_; rotate_left; (· intro w'; go_simp; with_reducible rfl); rotate_left; (· simp only [Act.put, sq]; rfl)
                              refine pure_ (i := 5) (N := some 91) (v := ?_) (a' := ?_) #[T, T, T, F, F, T, F, F] rfl rfl (any_of HT_.out (by kernel_rfl)) (fun _ _ _ h => h) (Or.inl ⟨by rfl, ?_⟩) ?_ ?_; rotate_left; (· intro w'; go_simp; with_reducible rfl); rotate_left; (· simp only [Act.put, sq]; rfl)
                              refine take_ (i := 3) (N := some 89) (v := ?_) (a' := ?_) #[T, T, T, T, F, T, F, F] rfl rfl (take_ofW HT_.out HW_.out (by kernel_rfl)) (fun _ _ _ h => h) (Or.inl ⟨by rfl, ?_⟩) hHeld ?_ ?_; rotate_left; (· rintro w' ⟨s0, s1, s2⟩; go_simp; with_reducible rfl); rotate_left; (· simp only [Act.put, sq]; rfl)
                              refine take_ (i := 4) (N := some 90) (v := ?_) (a' := ?_) #[T, T, T, T, T, T, F, F] rfl rfl (take_ofW HT_.out HW_.out (by kernel_rfl)) (fun _ _ _ h => h) (Or.inl ⟨by rfl, ?_⟩) hHeld ?_ ?_; rotate_left; (· rintro w' ⟨s0, s1, s2⟩; go_simp; with_reducible rfl); rotate_left; (· simp only [Act.put, sq]; rfl)
                              refine one_ (i := 6) (N := some 92) #[T, T, T, T, T, T, T, F] rfl rfl (one_of HT_.out (by kernel_rfl)) (by decide) (fun K hK => ?_)
                              refine goes_ Try.func29 (by kernel_rfl) rfl #[.agg #[.slice Ao76 x276000_2.length co76, .int .i64 x276001_2], .int .i64 x14_4] (by rfl) rfl rfl (by (try simp only [List.map_toArray, List.map_cons, List.map_nil]); first | done | rfl | (simp only [List.length_drop, List.length_take]; rfl)) ?_
                              with_reducible refine (trommelref18_Word.calls k4 _ _ x276000_2 x276001_2 x14_4 t294 _ ?side1 ?side2 A72.out).mono ?_
                              (case side1 => exact Cs (Kd.R_reads' HO_276000.out).2.2)
                              (case side2 => exact (Kd.R_reads' HO_276000.out).2.1)
                              rintro e w77 ⟨rfl, hb⟩
                              have HS2_ := (hb.cell (World.block_lt_of_cell? _ _ (hHeld.2.2))).trans (hHeld.2.2)
                              refine ⟨_, rfl, ?_⟩
                              replace HO_12 := Rb HO_12 hb
                              replace HO_275000 := Rb HO_275000 hb
                              replace HO_276000 := Rb HO_276000 hb
                              replace BK274 := Bb BK274 hb
                              replace BK275 := Bb BK275 hb
                              replace HB := Lb HB hb
                              try clear hb; try clear hb2; try clear hk; try clear hi
                              refine hK.out _ _ ⟨(blk_cell BK275.out 0).trans rfl, (blk_cell BK275.out 1).trans rfl, HS2_⟩ (fun hHeld => ?_)
                              clear hK K
                              refine norm_ (a' := ?_) ?_ ?_; rotate_left; (· show Act.put _ (some 92) _ = _; simp only [Act.put, sq]; rfl)
                              refine pure_ (i := 7) (N := some 93) (v := ?_) (a' := ?_) #[T, T, T, T, T, T, T, T] rfl rfl (any_of HT_.out (by kernel_rfl)) (fun _ _ _ h => h) (Or.inl ⟨by rfl, ?_⟩) ?_ ?_; rotate_left; (· intro w'; go_simp; with_reducible rfl); rotate_left; (· simp only [Act.put, sq]; rfl)
                              refine done_ (done_of HT_.out (by kernel_rfl)) ?_
                              try go_wp2
                              go_roundg k4
                              case measure => have := HJ4.out; have := HK2.out; have := HJ54.out; have := HK4.out; omega
                              case rel => exact ⟨(wrap64 (x14_4 + 1)), (by first | rfl | (simp; done) | (simp [*]; done)), H', ⟨by have := HJ4.out; have := HK2.out; have := HJ54.out; have := HK4.out; omega⟩, ⟨Rs HO_12.out⟩, ⟨Rs HO_275000.out⟩, ⟨Rs HO_276000.out⟩, ⟨Bs BK274.out⟩, ⟨Bs BK275.out⟩, ⟨Ls HB⟩⟩
                            · rw [if_neg c73] at H
                              have c73b0 : ((rd t289 x14_4) == t294) = false := beq_eq_false_iff_ne.mpr c73
                              have c73b1 : ((rd t289 x14_4) != t294) = true := bne_iff_ne.mpr c73
                              obtain rfl := Option.some.inj H
                              obtain ⟨Ao78, co78, eo78⟩ := Kd.R_slice HO_12.out
                              subst eo78
                              try go_wp2
                              replace HO_12 := Aside0.mk (Kd.R_drew HO_12.out)
                              replace HO_275000 := Aside0.mk (Kd.R_drew HO_275000.out)
                              replace HO_276000 := Aside0.mk (Kd.R_drew HO_276000.out)
                              replace BK274 := Aside0.mk (blk_drew BK274.out)
                              replace BK275 := Aside0.mk (blk_drew BK275.out)
                              replace HB := Aside0.mk (below_drew1 HB.out)
                              have p293 : 0 ≤ (x14_4 : Int) := of_decide_eq_true (by first | (with_reducible assumption) | assumption)
                              have q293 : x14_4 < (t289.length : Int) := of_decide_eq_true (by first | (with_reducible assumption) | assumption)
                              obtain ⟨ad293, e293, hx293_0⟩ := Kd.at_int (Kd.R_reads' HO_12.out).2.2 x14_4 p293 q293
                              cases e293
                              replace p293 := eq_true p293
                              replace q293 := eq_true q293
                              obtain ⟨Ao80, co80, eo80⟩ := Kd.R_slice HO_276000.out
                              (first | subst eo80 | (injection eo80 with f1_ f2_ f3_; have f4_ := f1_.symm; have f5_ := f3_.symm; clear f1_ f2_ f3_; subst f4_; subst f5_))
                              refine start_ (n := 8) (S := fun w' => w'.cell? ⟨gb275, 0, none⟩ = some (.slice Ao80 x276000_2.length co80) ∧ w'.cell? ⟨gb275, 1, none⟩ = some (.int .i64 x276001_2) ∧ w'.cell? (ad293.add (x14_4).toNat) = some (.int .u64 (rd t289 x14_4))) (ds := []) #[F, F, F, F, F, F, F, F] (by kernel_rfl) rfl rfl ⟨(blk_cell BK275.out 0).trans rfl, (blk_cell BK275.out 1).trans rfl, hx293_0⟩ (fun hHeld => ?_); refine with_tabW trommellaw18_BloomPlays.tab17 trommellaw18_BloomPlays.bits17 (fun HT_ HW_ => ?_)
                              generalize wr.drew = w79 at HO_12 HO_275000 HO_276000 BK274 BK275 HB hx293_0 hHeld ⊢
                              refine pure_ (i := 0) (N := some 86) (v := ?_) (a' := ?_) #[T, F, F, F, F, F, F, F] rfl rfl (any_of HT_.out (by kernel_rfl)) (fun _ _ _ h => h) (Or.inl ⟨by rfl, ?_⟩) ?_ ?_; rotate_left; (· intro w'; go_simp; with_reducible rfl); rotate_left; (· simp only [Act.put, sq]; rfl)
                              refine pure_ (i := 1) (N := some 87) (v := ?_) (a' := ?_) #[T, T, F, F, F, F, F, F] rfl rfl (any_of HT_.out (by kernel_rfl)) (fun _ _ _ h => h) (Or.inl ⟨by rfl, ?_⟩) ?_ ?_; rotate_left; (· intro w'; go_simp; with_reducible rfl); rotate_left; (· simp only [Act.put, sq]; rfl)
                              refine pure_ (i := 2) (N := some 88) (v := ?_) (a' := ?_) #[T, T, T, F, F, F, F, F] rfl rfl (any_of HT_.out (by kernel_rfl)) (fun _ _ _ h => h) (Or.inl ⟨by rfl, ?_⟩) ?_ ?_; rotate_left; (· intro w'; go_simp; with_reducible rfl); rotate_left; (· simp only [Act.put, sq]; rfl)
                              refine pure_ (i := 5) (N := some 91) (v := ?_) (a' := ?_) #[T, T, T, F, F, T, F, F] rfl rfl (any_of HT_.out (by kernel_rfl)) (fun _ _ _ h => h) (Or.inl ⟨by rfl, ?_⟩) ?_ ?_; rotate_left; (· intro w'; go_simp; with_reducible rfl); rotate_left; (· simp only [Act.put, sq]; rfl)
                              refine take_ (i := 3) (N := some 89) (v := ?_) (a' := ?_) #[T, T, T, T, F, T, F, F] rfl rfl (take_ofW HT_.out HW_.out (by kernel_rfl)) (fun _ _ _ h => h) (Or.inl ⟨by rfl, ?_⟩) hHeld ?_ ?_; rotate_left; (· rintro w' ⟨s0, s1, s2⟩; go_simp; with_reducible rfl); rotate_left; (· simp only [Act.put, sq]; rfl)
                              refine take_ (i := 4) (N := some 90) (v := ?_) (a' := ?_) #[T, T, T, T, T, T, F, F] rfl rfl (take_ofW HT_.out HW_.out (by kernel_rfl)) (fun _ _ _ h => h) (Or.inl ⟨by rfl, ?_⟩) hHeld ?_ ?_; rotate_left; (· rintro w' ⟨s0, s1, s2⟩; go_simp; with_reducible rfl); rotate_left; (· simp only [Act.put, sq]; rfl)
                              refine one_ (i := 6) (N := some 92) #[T, T, T, T, T, T, T, F] rfl rfl (one_of HT_.out (by kernel_rfl)) (by decide) (fun K hK => ?_)
                              refine goes_ Try.func29 (by kernel_rfl) rfl #[.agg #[.slice Ao80 x276000_2.length co80, .int .i64 x276001_2], .int .i64 x14_4] (by rfl) rfl rfl (by (try simp only [List.map_toArray, List.map_cons, List.map_nil]); first | done | rfl | (simp only [List.length_drop, List.length_take]; rfl)) ?_
                              with_reducible refine (trommelref18_Word.calls k4 _ _ x276000_2 x276001_2 x14_4 t294 _ ?side1 ?side2 A72.out).mono ?_
                              (case side1 => exact Cs (Kd.R_reads' HO_276000.out).2.2)
                              (case side2 => exact (Kd.R_reads' HO_276000.out).2.1)
                              rintro e w81 ⟨rfl, hb⟩
                              have HS2_ := (hb.cell (World.block_lt_of_cell? _ _ (hHeld.2.2))).trans (hHeld.2.2)
                              refine ⟨_, rfl, ?_⟩
                              replace HO_12 := Rb HO_12 hb
                              replace HO_275000 := Rb HO_275000 hb
                              replace HO_276000 := Rb HO_276000 hb
                              replace BK274 := Bb BK274 hb
                              replace BK275 := Bb BK275 hb
                              replace HB := Lb HB hb
                              try clear hb; try clear hb2; try clear hk; try clear hi
                              refine hK.out _ _ ⟨(blk_cell BK275.out 0).trans rfl, (blk_cell BK275.out 1).trans rfl, HS2_⟩ (fun hHeld => ?_)
                              clear hK K
                              refine norm_ (a' := ?_) ?_ ?_; rotate_left; (· show Act.put _ (some 92) _ = _; simp only [Act.put, sq]; rfl)
                              refine pure_ (i := 7) (N := some 93) (v := ?_) (a' := ?_) #[T, T, T, T, T, T, T, T] rfl rfl (any_of HT_.out (by kernel_rfl)) (fun _ _ _ h => h) (Or.inl ⟨by rfl, ?_⟩) ?_ ?_; rotate_left; (· intro w'; go_simp; with_reducible rfl); rotate_left; (· simp only [Act.put, sq]; rfl)
                              refine done_ (done_of HT_.out (by kernel_rfl)) ?_
                              try go_wp2
                              go_ret
                              exact ⟨by first | rfl | (simp [errW_none, errW_some] <;> rfl) | (simp [*, errW_none, errW_some] <;> rfl), by repeat (first | (with_reducible first | exact HB.out | apply below_alloc | apply pw_below_drewN | apply below_drew1 | refine below_set ?_ GE274.out | refine below_set ?_ GE275.out) | exact HB.out)⟩
                          · rw [if_neg c70] at H
                            have c70b0 : decide (x14_4 < (t289.length : Int)) = false := decide_eq_false c70
                            clear c70
                            have H' := Aside0.mk H
                            clear H
                            obtain ⟨Ao82, co82, eo82⟩ := Kd.R_slice HO_12.out
                            subst eo82
                            go_wp2
                            go_loopg [13, 15] k4 (fun kq v13 v15 w' => ∃ (x13_5 : Int) (x15_5 : Int), v13 = .int .i64 x13_5 ∧ v15 = .int .i64 x15_5 ∧ Aside0 (trommellaw18_BloomPlays.l2 kq a3 x13_5 x15_5 x275000_2 x275001_2 x276000_2 x276001_2 = some r) ∧ Aside0 (kq ≤ k4) ∧ Aside0 (Kd.R (Kd.int .u64) 33 w' w.heap.size (fun _ => True) (.slice Ao58 x275000_2.length co58) x275000_2) ∧ Aside0 (Kd.R Kd.bool 4 w' w.heap.size (fun _ => True) u276000 x276000_2) ∧ Aside0 (w'.heap[gb274]? = some (.cells #[(.slice Ao58 x275000_2.length co58), .int .i64 x275001_2] 25 (0, 0))) ∧ Aside0 (w'.heap[gb275]? = some (.cells #[u276000, .int .i64 x276001_2] 50 (0, 0))) ∧ Aside0 (Below w.heap.size w w'))
                            case atStart => exact ⟨(0), (0), (by first | rfl | (simp; done) | (simp [*]; done)), (by first | rfl | (simp; done) | (simp [*]; done)), H', ⟨Nat.le_refl _⟩, ⟨by (with_reducible repeat (first | apply Kd.R_alloc | apply Kd.R_drewN | apply Kd.R_drew)); exact Kd.R_mono HO_275000.out (fun _ hk => trivial)⟩, ⟨Rs HO_276000.out⟩, ⟨Bs BK274.out⟩, ⟨Bs BK275.out⟩, ⟨Ls HB⟩⟩
                            case round =>
                              clear H'
                              try clear c1; try clear c2; try clear p2; try clear q2; try clear hx2; try clear c3; try clear c5; try clear c6; try clear p6; try clear c7; try clear c10; try clear c15; try clear c27; try clear p27; try clear q27; try clear hx27; try clear c28; try clear p28; try clear q28; try clear hx28; try clear c29; try clear p29; try clear q29; try clear hx29; try clear c36; try clear c36b0; try clear c37; try clear c56; try clear c60; try clear c60b0; try clear c60b1; try clear p64; try clear c69; try clear c70; try clear c70b0; try clear c71; try clear c71b0; try clear c73; try clear c73b0; try clear c73b1; try clear hcz57_0; try clear hcz57_1; try clear hfz57_0; try clear hfz57_1; try clear hx276_0; try clear hx284_0; try clear hx293_0; try clear p2; try clear p27; try clear p276; try clear p28; try clear p284; try clear p293; try clear p6; try clear p64; try clear q2; try clear q27; try clear q276; try clear q28; try clear q284; try clear q293
                              obtain ⟨x13_5, x15_5, rfl, rfl, HA, HK5, HO_275000, HO_276000, BK274, BK275, HB⟩ := hrel
                              cases gk with
                              | zero => exact absurd HA.out (by simp [trommellaw18_BloomPlays.l2])
                              | succ k5 =>
                                have H := HA.out
                                clear HA
                                simp only [trommellaw18_BloomPlays.l2] at H
                                by_cases c83 : x15_5 < (x276000_2.length : Int)
                                · rw [if_pos c83] at H
                                  have c83b0 : decide (x15_5 < (x276000_2.length : Int)) = true := decide_eq_true c83
                                  clear c83
                                  refine bc (p := (0 ≤ x15_5)) (fun c84 => ?_) (fun c84 => ?_)
                                  · rw [if_neg c84] at H
                                    exact absurd H (by simp)
                                  rw [if_pos c84] at H
                                  have c84b0 : decide (0 ≤ x15_5) = true := decide_eq_true c84
                                  clear c84
                                  obtain ⟨bq85, hbq85⟩ : ∃ b_ : Bool, b_ = (rdOf false x276000_2 x15_5) := ⟨_, rfl⟩
                                  replace H : (if bq85 = true then (trommellaw18_BloomPlays.l2 k5 a3 (wrap64 (x13_5 + 1)) (wrap64 (x15_5 + 1)) x275000_2 x275001_2 x276000_2 x276001_2) else (trommellaw18_BloomPlays.l2 k5 a3 x13_5 (wrap64 (x15_5 + 1)) x275000_2 x275001_2 x276000_2 x276001_2)) = some r := by rw [← hbq85] at H; exact H
                                  have Nbq85 := Aside0.mk hbq85
                                  clear hbq85
                                  by_cases c86 : bq85 = true
                                  · subst c86
                                    have H1 : (trommellaw18_BloomPlays.l2 k5 a3 (wrap64 (x13_5 + 1)) (wrap64 (x15_5 + 1)) x275000_2 x275001_2 x276000_2 x276001_2) = some r := by rw [if_pos rfl] at H; exact H
                                    clear H
                                    have H := H1
                                    clear H1
                                    have H' := Aside0.mk H
                                    clear H
                                    have hnb87 := NB275_274.out
                                    have hnc87 := NB274_275.out
                                    have hcz88_0 : wr.cell? ⟨gb275, 0, none⟩ = some (u276000) := (blk_cell BK275.out 0).trans rfl
                                    have hcz88_1 : wr.cell? ⟨gb275, 1, none⟩ = some (.int .i64 x276001_2) := (blk_cell BK275.out 1).trans rfl
                                    have hfz88_0 := blk_frozen BK275.out 0
                                    have hfz88_1 := blk_frozen BK275.out 1
                                    obtain ⟨Ao89, co89, eo89⟩ := Kd.R_slice HO_276000.out
                                    subst eo89
                                    have p295 : 0 ≤ (x15_5 : Int) := of_decide_eq_true (by first | (with_reducible assumption) | assumption)
                                    have q295 : x15_5 < (x276000_2.length : Int) := of_decide_eq_true (by first | (with_reducible assumption) | assumption)
                                    obtain ⟨ad295, e295, hx295_0⟩ := Kd.at_bool (Kd.R_reads' HO_276000.out).2.2 x15_5 p295 q295
                                    (try rw [← Nbq85.out] at hx295_0)
                                    cases e295
                                    replace p295 := eq_true p295
                                    replace q295 := eq_true q295
                                    go_wp2
                                    go_roundg k5
                                    case measure => have := HJ4.out; have := HK2.out; have := HJ54.out; have := HK4.out; have := HK5.out; omega
                                    case rel => exact ⟨(wrap64 (x13_5 + 1)), (wrap64 (x15_5 + 1)), (by first | rfl | (simp; done) | (simp [*]; done)), (by first | rfl | (simp; done) | (simp [*]; done)), H', ⟨by have := HJ4.out; have := HK2.out; have := HJ54.out; have := HK4.out; have := HK5.out; omega⟩, ⟨Rs HO_275000.out⟩, ⟨Rs HO_276000.out⟩, ⟨Bs BK274.out⟩, ⟨Bs BK275.out⟩, ⟨Ls HB⟩⟩
                                  · replace c86 := Bool.eq_false_iff.mpr c86
                                    subst c86
                                    have H1 : (trommellaw18_BloomPlays.l2 k5 a3 x13_5 (wrap64 (x15_5 + 1)) x275000_2 x275001_2 x276000_2 x276001_2) = some r := by rw [if_neg (show ¬ (false = true) by decide)] at H; exact H
                                    clear H
                                    have H := H1
                                    clear H1
                                    have H' := Aside0.mk H
                                    clear H
                                    have hnb90 := NB275_274.out
                                    have hnc90 := NB274_275.out
                                    have hcz91_0 : wr.cell? ⟨gb275, 0, none⟩ = some (u276000) := (blk_cell BK275.out 0).trans rfl
                                    have hcz91_1 : wr.cell? ⟨gb275, 1, none⟩ = some (.int .i64 x276001_2) := (blk_cell BK275.out 1).trans rfl
                                    have hfz91_0 := blk_frozen BK275.out 0
                                    have hfz91_1 := blk_frozen BK275.out 1
                                    obtain ⟨Ao92, co92, eo92⟩ := Kd.R_slice HO_276000.out
                                    subst eo92
                                    have p295 : 0 ≤ (x15_5 : Int) := of_decide_eq_true (by first | (with_reducible assumption) | assumption)
                                    have q295 : x15_5 < (x276000_2.length : Int) := of_decide_eq_true (by first | (with_reducible assumption) | assumption)
                                    obtain ⟨ad295, e295, hx295_0⟩ := Kd.at_bool (Kd.R_reads' HO_276000.out).2.2 x15_5 p295 q295
                                    (try rw [← Nbq85.out] at hx295_0)
                                    cases e295
                                    replace p295 := eq_true p295
                                    replace q295 := eq_true q295
                                    go_wp2
                                    go_roundg k5
                                    case measure => have := HJ4.out; have := HK2.out; have := HJ54.out; have := HK4.out; have := HK5.out; omega
                                    case rel => exact ⟨(x13_5), (wrap64 (x15_5 + 1)), (by first | rfl | (simp; done) | (simp [*]; done)), (by first | rfl | (simp; done) | (simp [*]; done)), H', ⟨by have := HJ4.out; have := HK2.out; have := HJ54.out; have := HK4.out; have := HK5.out; omega⟩, ⟨Rs HO_275000.out⟩, ⟨Rs HO_276000.out⟩, ⟨Bs BK274.out⟩, ⟨Bs BK275.out⟩, ⟨Ls HB⟩⟩
                                · rw [if_neg c83] at H
                                  have c83b0 : decide (x15_5 < (x276000_2.length : Int)) = false := decide_eq_false c83
                                  clear c83
                                  replace H := Option.bind_eq_some_iff.mp H
                                  obtain ⟨t296, A930, H⟩ := H
                                  replace H : (if t296 = x13_5 then ((bloom_Has.f k5 x275000_2 x275001_2 a3).bind fun t297 => ((trommelref18_Has.f k5 x276000_2 x276001_2 a3).bind fun t298 => (if (t297 == t298) = true then ((trommellaw18_live.f k5).bind fun t299 => (some t299)) else (some false)))) else (some false)) = some r := H
                                  have A93 := Aside0.mk A930
                                  clear A930
                                  by_cases c94 : t296 = x13_5
                                  · rw [if_pos c94] at H
                                    have c94b0 : (t296 == x13_5) = true := beq_iff_eq.mpr c94
                                    have c94b1 : (t296 != x13_5) = false := bne_eq_false_iff_eq.mpr c94
                                    clear c94
                                    replace H := Option.bind_eq_some_iff.mp H
                                    obtain ⟨t297, A950, H⟩ := H
                                    replace H : ((trommelref18_Has.f k5 x276000_2 x276001_2 a3).bind fun t298 => (if (t297 == t298) = true then ((trommellaw18_live.f k5).bind fun t299 => (some t299)) else (some false))) = some r := H
                                    have A95 := Aside0.mk A950
                                    clear A950
                                    replace H := Option.bind_eq_some_iff.mp H
                                    obtain ⟨t298, A960, H⟩ := H
                                    replace H : (if (t297 == t298) = true then ((trommellaw18_live.f k5).bind fun t299 => (some t299)) else (some false)) = some r := H
                                    have A96 := Aside0.mk A960
                                    clear A960
                                    by_cases c97 : (t297 == t298) = true
                                    · rw [if_pos c97] at H
                                      have c97b0 : (t297 == t298) = true := c97
                                      (try (have c97b1 : decide (t297 = t298) = true := by simpa using c97))
                                      (try (have c97b2 : (t297 == t298) = true := by simpa using c97))
                                      clear c97
                                      replace H := Option.bind_eq_some_iff.mp H
                                      obtain ⟨t299, A980, H⟩ := H
                                      replace H : (some t299) = some r := H
                                      have A98 := Aside0.mk A980
                                      clear A980
                                      obtain rfl := Option.some.inj H
                                      have hnb99 := NB275_274.out
                                      have hnc99 := NB274_275.out
                                      have hcz100_0 : wr.cell? ⟨gb275, 0, none⟩ = some (u276000) := (blk_cell BK275.out 0).trans rfl
                                      have hcz100_1 : wr.cell? ⟨gb275, 1, none⟩ = some (.int .i64 x276001_2) := (blk_cell BK275.out 1).trans rfl
                                      have hfz100_0 := blk_frozen BK275.out 0
                                      have hfz100_1 := blk_frozen BK275.out 1
                                      obtain ⟨Ao101, co101, eo101⟩ := Kd.R_slice HO_276000.out
                                      subst eo101
                                      try go_wp2
                                      replace HO_275000 := Aside0.mk (Kd.R_drew HO_275000.out)
                                      replace HO_276000 := Aside0.mk (Kd.R_drew HO_276000.out)
                                      replace BK274 := Aside0.mk (blk_drew BK274.out)
                                      replace BK275 := Aside0.mk (blk_drew BK275.out)
                                      replace HB := Aside0.mk (below_drew1 HB.out)
                                      refine start_ (n := 17) (S := fun w' => w'.cell? ⟨gb274, 0, none⟩ = some (.slice Ao58 x275000_2.length co58) ∧ w'.cell? ⟨gb274, 1, none⟩ = some (.int .i64 x275001_2) ∧ w'.cell? ⟨gb275, 0, none⟩ = some (.slice Ao101 x276000_2.length co101) ∧ w'.cell? ⟨gb275, 1, none⟩ = some (.int .i64 x276001_2)) (ds := []) #[F, F, F, F, F, F, F, F, F, F, F, F, F, F, F, F, F] (by kernel_rfl) rfl rfl ⟨(blk_cell BK274.out 0).trans rfl, (blk_cell BK274.out 1).trans rfl, (blk_cell BK275.out 0).trans rfl, (blk_cell BK275.out 1).trans rfl⟩ (fun hHeld => ?_); refine with_tabW trommellaw18_BloomPlays.tab24 trommellaw18_BloomPlays.bits24 (fun HT_ HW_ => ?_)
                                      generalize wr.drew = w102 at HO_275000 HO_276000 BK274 BK275 HB hHeld ⊢
                                      refine pure_ (i := 2) (N := some 110) (v := ?_) (a' := ?_) #[F, F, T, F, F, F, F, F, F, F, F, F, F, F, F, F, F] rfl rfl (any_of HT_.out (by kernel_rfl)) (fun _ _ _ h => h) (Or.inl ⟨by rfl, ?_⟩) ?_ ?_; rotate_left; (· intro w'; go_simp; with_reducible rfl); rotate_left; (· simp only [Act.put, sq]; rfl)
                                      refine take_ (i := 0) (N := some 108) (v := ?_) (a' := ?_) #[T, F, T, F, F, F, F, F, F, F, F, F, F, F, F, F, F] rfl rfl (take_ofW HT_.out HW_.out (by kernel_rfl)) (fun _ _ _ h => h) (Or.inl ⟨by rfl, ?_⟩) hHeld ?_ ?_; rotate_left; (· rintro w' ⟨s0, s1, s2, s3⟩; go_simp; with_reducible rfl); rotate_left; (· simp only [Act.put, sq]; rfl)
                                      refine one_ (i := 1) (N := some 109) #[T, T, T, F, F, F, F, F, F, F, F, F, F, F, F, F, F] rfl rfl (one_of HT_.out (by kernel_rfl)) (by decide) (fun K hK => ?_)
                                      refine goes_ Try.func30 (by kernel_rfl) rfl #[.agg #[.slice Ao58 x275000_2.length co58, .int .i64 x275001_2]] (by rfl) rfl rfl (by (try simp only [List.map_toArray, List.map_cons, List.map_nil]); first | done | rfl | (simp only [List.length_drop, List.length_take]; rfl)) ?_
                                      with_reducible refine (bloom_Ones.calls k5 _ _ x275000_2 x275001_2 t296 _ ?side1 ?side2 A93.out).mono ?_
                                      (case side1 => exact Cs (Kd.R_reads' HO_275000.out).2.2)
                                      (case side2 => exact (Kd.R_reads' HO_275000.out).2.1)
                                      rintro e w103 ⟨rfl, hb⟩
                                      refine ⟨_, rfl, ?_⟩
                                      replace HO_275000 := Rb HO_275000 hb
                                      replace HO_276000 := Rb HO_276000 hb
                                      replace BK274 := Bb BK274 hb
                                      replace BK275 := Bb BK275 hb
                                      replace HB := Lb HB hb
                                      try clear hb; try clear hb2; try clear hk; try clear hi
                                      refine hK.out _ _ ⟨(blk_cell BK274.out 0).trans rfl, (blk_cell BK274.out 1).trans rfl, (blk_cell BK275.out 0).trans rfl, (blk_cell BK275.out 1).trans rfl⟩ (fun hHeld => ?_)
                                      clear hK K
                                      refine norm_ (a' := ?_) ?_ ?_; rotate_left; (· show Act.put _ (some 109) _ = _; simp only [Act.put, sq]; rfl)
                                      refine pure_ (i := 3) (N := some 111) (v := ?_) (a' := ?_) #[T, T, T, T, F, F, F, F, F, F, F, F, F, F, F, F, F] rfl rfl (any_of HT_.out (by kernel_rfl)) (fun _ _ _ h => h) (Or.inl ⟨by rfl, ?_⟩) ?_ ?_; rotate_left; (· intro w'; go_simp; with_reducible rfl); rotate_left; (· simp only [Act.put, sq]; rfl)
                                      refine pure_ (i := 4) (N := some 112) (v := ?_) (a' := ?_) #[T, T, T, T, T, F, F, F, F, F, F, F, F, F, F, F, F] rfl rfl (any_of HT_.out (by kernel_rfl)) (fun _ _ _ h => h) (Or.inl ⟨by rfl, ?_⟩) ?_ ?_; rotate_left; (· intro w'; go_simp; with_reducible rfl); rotate_left; (· simp only [Act.put, sq]; rfl)
                                      refine pure_ (i := 6) (N := some 114) (v := ?_) (a' := ?_) #[T, T, T, T, T, F, T, F, F, F, F, F, F, F, F, F, F] rfl rfl (any_of HT_.out (by kernel_rfl)) (fun _ _ _ h => h) (Or.inl ⟨by rfl, ?_⟩) ?_ ?_; rotate_left; (· intro w'; go_simp; with_reducible rfl); rotate_left; (· simp only [Act.put, sq]; rfl)
                                      refine pure_ (i := 9) (N := some 117) (v := ?_) (a' := ?_) #[T, T, T, T, T, F, T, F, F, T, F, F, F, F, F, F, F] rfl rfl (any_of HT_.out (by kernel_rfl)) (fun _ _ _ h => h) (Or.inl ⟨by rfl, ?_⟩) ?_ ?_; rotate_left; (· intro w'; go_simp; with_reducible rfl); rotate_left; (· simp only [Act.put, sq]; rfl)
                                      refine take_ (i := 5) (N := some 113) (v := ?_) (a' := ?_) #[T, T, T, T, T, T, T, F, F, T, F, F, F, F, F, F, F] rfl rfl (take_ofW HT_.out HW_.out (by kernel_rfl)) (fun _ _ _ h => h) (Or.inl ⟨by rfl, ?_⟩) hHeld ?_ ?_; rotate_left; (· rintro w' ⟨s0, s1, s2, s3⟩; go_simp; with_reducible rfl); rotate_left; (· simp only [Act.put, sq]; rfl)
                                      refine take_ (i := 8) (N := some 116) (v := ?_) (a' := ?_) #[T, T, T, T, T, T, T, F, T, T, F, F, F, F, F, F, F] rfl rfl (take_ofW HT_.out HW_.out (by kernel_rfl)) (fun _ _ _ h => h) (Or.inl ⟨by rfl, ?_⟩) hHeld ?_ ?_; rotate_left; (· rintro w' ⟨s0, s1, s2, s3⟩; go_simp; with_reducible rfl); rotate_left; (· simp only [Act.put, sq]; rfl)
                                      refine one_ (i := 7) (N := some 115) #[T, T, T, T, T, T, T, T, T, T, F, F, F, F, F, F, F] rfl rfl (one_of HT_.out (by kernel_rfl)) (by decide) (fun K hK => ?_)
                                      refine goes_ Try.func14 (by kernel_rfl) rfl #[.agg #[.slice Ao58 x275000_2.length co58, .int .i64 x275001_2], .int .u64 a3] (by rfl) rfl rfl (by (try simp only [List.map_toArray, List.map_cons, List.map_nil]); first | done | rfl | (simp only [List.length_drop, List.length_take]; rfl)) ?_
                                      with_reducible refine (bloom_Has.calls k5 _ _ x275000_2 x275001_2 a3 t297 _ ?side1 ?side2 A95.out).mono ?_
                                      (case side1 => exact Cs (Kd.R_reads' HO_275000.out).2.2)
                                      (case side2 => exact (Kd.R_reads' HO_275000.out).2.1)
                                      rintro e w104 ⟨rfl, hb⟩
                                      refine ⟨_, rfl, ?_⟩
                                      replace HO_275000 := Rb HO_275000 hb
                                      replace HO_276000 := Rb HO_276000 hb
                                      replace BK274 := Bb BK274 hb
                                      replace BK275 := Bb BK275 hb
                                      replace HB := Lb HB hb
                                      try clear hb; try clear hb2; try clear hk; try clear hi
                                      refine hK.out _ _ ⟨(blk_cell BK274.out 0).trans rfl, (blk_cell BK274.out 1).trans rfl, (blk_cell BK275.out 0).trans rfl, (blk_cell BK275.out 1).trans rfl⟩ (fun hHeld => ?_)
                                      clear hK K
                                      refine norm_ (a' := ?_) ?_ ?_; rotate_left; (· show Act.put _ (some 115) _ = _; simp only [Act.put, sq]; rfl)
                                      refine one_ (i := 10) (N := some 118) #[T, T, T, T, T, T, T, T, T, T, T, F, F, F, F, F, F] rfl rfl (one_of HT_.out (by kernel_rfl)) (by decide) (fun K hK => ?_)
                                      refine goes_ Try.func31 (by kernel_rfl) rfl #[.agg #[.slice Ao101 x276000_2.length co101, .int .i64 x276001_2], .int .u64 a3] (by rfl) rfl rfl (by (try simp only [List.map_toArray, List.map_cons, List.map_nil]); first | done | rfl | (simp only [List.length_drop, List.length_take]; rfl)) ?_
                                      with_reducible refine (trommelref18_Has.calls k5 _ _ x276000_2 x276001_2 a3 t298 _ ?side1 ?side2 A96.out).mono ?_
                                      (case side1 => exact Cs (Kd.R_reads' HO_276000.out).2.2)
                                      (case side2 => exact (Kd.R_reads' HO_276000.out).2.1)
                                      rintro e w105 ⟨rfl, hb⟩
                                      refine ⟨_, rfl, ?_⟩
                                      replace HO_275000 := Rb HO_275000 hb
                                      replace HO_276000 := Rb HO_276000 hb
                                      replace BK274 := Bb BK274 hb
                                      replace BK275 := Bb BK275 hb
                                      replace HB := Lb HB hb
                                      try clear hb; try clear hb2; try clear hk; try clear hi
                                      refine hK.out _ _ ⟨(blk_cell BK274.out 0).trans rfl, (blk_cell BK274.out 1).trans rfl, (blk_cell BK275.out 0).trans rfl, (blk_cell BK275.out 1).trans rfl⟩ (fun hHeld => ?_)
                                      clear hK K
                                      refine norm_ (a' := ?_) ?_ ?_; rotate_left; (· show Act.put _ (some 118) _ = _; simp only [Act.put, sq]; rfl)
                                      refine pure_ (i := 11) (N := some 119) (v := ?_) (a' := ?_) #[T, T, T, T, T, T, T, T, T, T, T, T, F, F, F, F, F] rfl rfl (any_of HT_.out (by kernel_rfl)) (fun _ _ _ h => h) (Or.inl ⟨by rfl, ?_⟩) ?_ ?_; rotate_left; (· intro w'; go_simp; with_reducible rfl); rotate_left; (· simp only [Act.put, sq]; rfl)
                                      refine pure_ (i := 12) (N := some 120) (v := ?_) (a' := ?_) #[T, T, T, T, T, T, T, T, T, T, T, T, T, F, F, F, F] rfl rfl (any_of HT_.out (by kernel_rfl)) (fun _ _ _ h => h) (Or.inl ⟨by rfl, ?_⟩) ?_ ?_; rotate_left; (· intro w'; go_simp; with_reducible rfl); rotate_left; (· simp only [Act.put, sq]; rfl)
                                      refine pure_ (i := 13) (N := some 121) (v := ?_) (a' := ?_) #[T, T, T, T, T, T, T, T, T, T, T, T, T, T, F, F, F] rfl rfl (any_of HT_.out (by kernel_rfl)) (fun _ _ _ h => h) (Or.inl ⟨by rfl, ?_⟩) ?_ ?_; rotate_left; (· intro w'; go_simp; with_reducible rfl); rotate_left; (· simp only [Act.put, sq]; rfl)
                                      refine one_ (i := 14) (N := some 122) #[T, T, T, T, T, T, T, T, T, T, T, T, T, T, T, F, F] rfl rfl (one_of HT_.out (by kernel_rfl)) (by decide) (fun K hK => ?_)
                                      refine goes_ Try.func9 (by kernel_rfl) rfl #[] (by rfl) rfl rfl (by (try simp only [List.map_toArray, List.map_cons, List.map_nil]); first | done | rfl | (simp only [List.length_drop, List.length_take]; rfl)) ?_
                                      with_reducible refine (trommellaw18_live.calls k5  t299 _ A98.out).mono ?_
                                      rintro e w106 ⟨rfl, hb⟩
                                      refine ⟨_, rfl, ?_⟩
                                      replace HO_275000 := Rb HO_275000 hb
                                      replace HO_276000 := Rb HO_276000 hb
                                      replace BK274 := Bb BK274 hb
                                      replace BK275 := Bb BK275 hb
                                      replace HB := Lb HB hb
                                      try clear hb; try clear hb2; try clear hk; try clear hi
                                      refine hK.out _ _ ⟨(blk_cell BK274.out 0).trans rfl, (blk_cell BK274.out 1).trans rfl, (blk_cell BK275.out 0).trans rfl, (blk_cell BK275.out 1).trans rfl⟩ (fun hHeld => ?_)
                                      clear hK K
                                      refine norm_ (a' := ?_) ?_ ?_; rotate_left; (· show Act.put _ (some 122) _ = _; simp only [Act.put, sq]; rfl)
                                      refine pure_ (i := 15) (N := some 123) (v := ?_) (a' := ?_) #[T, T, T, T, T, T, T, T, T, T, T, T, T, T, T, T, F] rfl rfl (any_of HT_.out (by kernel_rfl)) (fun _ _ _ h => h) (Or.inl ⟨by rfl, ?_⟩) ?_ ?_; rotate_left; (· intro w'; go_simp; with_reducible rfl); rotate_left; (· simp only [Act.put, sq]; rfl)
                                      refine pure_ (i := 16) (N := some 8) (v := ?_) (a' := ?_) #[T, T, T, T, T, T, T, T, T, T, T, T, T, T, T, T, T] rfl rfl (any_of HT_.out (by kernel_rfl)) (fun _ _ _ h => h) (Or.inl ⟨by rfl, ?_⟩) ?_ ?_; rotate_left; (· intro w'; go_simp; with_reducible rfl); rotate_left; (· simp only [Act.put, sq]; rfl)
                                      refine done_ (done_of HT_.out (by kernel_rfl)) ?_
                                      try go_wp2
                                      go_ret
                                      exact ⟨by first | rfl | (simp [errW_none, errW_some] <;> rfl) | (simp [*, errW_none, errW_some] <;> rfl), by repeat (first | (with_reducible first | exact HB.out | apply below_alloc | apply pw_below_drewN | apply below_drew1 | refine below_set ?_ GE274.out | refine below_set ?_ GE275.out) | exact HB.out)⟩
                                    · rw [if_neg c97] at H
                                      have c97b0 : (t297 == t298) = false := by simpa using c97
                                      (try (have c97b1 : decide (t297 = t298) = false := by simpa using c97))
                                      (try (have c97b2 : (t297 == t298) = false := by simpa using c97))
                                      (try (have c97b3 : ¬ (t297 = t298) := by simpa using c97))
                                      clear c97
                                      obtain rfl := Option.some.inj H
                                      have hnb107 := NB275_274.out
                                      have hnc107 := NB274_275.out
                                      have hcz108_0 : wr.cell? ⟨gb275, 0, none⟩ = some (u276000) := (blk_cell BK275.out 0).trans rfl
                                      have hcz108_1 : wr.cell? ⟨gb275, 1, none⟩ = some (.int .i64 x276001_2) := (blk_cell BK275.out 1).trans rfl
                                      have hfz108_0 := blk_frozen BK275.out 0
                                      have hfz108_1 := blk_frozen BK275.out 1
                                      obtain ⟨Ao109, co109, eo109⟩ := Kd.R_slice HO_276000.out
                                      subst eo109
                                      try go_wp2
                                      replace HO_275000 := Aside0.mk (Kd.R_drew HO_275000.out)
                                      replace HO_276000 := Aside0.mk (Kd.R_drew HO_276000.out)
                                      replace BK274 := Aside0.mk (blk_drew BK274.out)
                                      replace BK275 := Aside0.mk (blk_drew BK275.out)
                                      replace HB := Aside0.mk (below_drew1 HB.out)
                                      refine start_ (n := 17) (S := fun w' => w'.cell? ⟨gb274, 0, none⟩ = some (.slice Ao58 x275000_2.length co58) ∧ w'.cell? ⟨gb274, 1, none⟩ = some (.int .i64 x275001_2) ∧ w'.cell? ⟨gb275, 0, none⟩ = some (.slice Ao109 x276000_2.length co109) ∧ w'.cell? ⟨gb275, 1, none⟩ = some (.int .i64 x276001_2)) (ds := []) #[F, F, F, F, F, F, F, F, F, F, F, F, F, F, F, F, F] (by kernel_rfl) rfl rfl ⟨(blk_cell BK274.out 0).trans rfl, (blk_cell BK274.out 1).trans rfl, (blk_cell BK275.out 0).trans rfl, (blk_cell BK275.out 1).trans rfl⟩ (fun hHeld => ?_); refine with_tabW trommellaw18_BloomPlays.tab24 trommellaw18_BloomPlays.bits24 (fun HT_ HW_ => ?_)
                                      generalize wr.drew = w110 at HO_275000 HO_276000 BK274 BK275 HB hHeld ⊢
                                      refine pure_ (i := 2) (N := some 110) (v := ?_) (a' := ?_) #[F, F, T, F, F, F, F, F, F, F, F, F, F, F, F, F, F] rfl rfl (any_of HT_.out (by kernel_rfl)) (fun _ _ _ h => h) (Or.inl ⟨by rfl, ?_⟩) ?_ ?_; rotate_left; (· intro w'; go_simp; with_reducible rfl); rotate_left; (· simp only [Act.put, sq]; rfl)
                                      refine take_ (i := 0) (N := some 108) (v := ?_) (a' := ?_) #[T, F, T, F, F, F, F, F, F, F, F, F, F, F, F, F, F] rfl rfl (take_ofW HT_.out HW_.out (by kernel_rfl)) (fun _ _ _ h => h) (Or.inl ⟨by rfl, ?_⟩) hHeld ?_ ?_; rotate_left; (· rintro w' ⟨s0, s1, s2, s3⟩; go_simp; with_reducible rfl); rotate_left; (· simp only [Act.put, sq]; rfl)
                                      refine one_ (i := 1) (N := some 109) #[T, T, T, F, F, F, F, F, F, F, F, F, F, F, F, F, F] rfl rfl (one_of HT_.out (by kernel_rfl)) (by decide) (fun K hK => ?_)
                                      refine goes_ Try.func30 (by kernel_rfl) rfl #[.agg #[.slice Ao58 x275000_2.length co58, .int .i64 x275001_2]] (by rfl) rfl rfl (by (try simp only [List.map_toArray, List.map_cons, List.map_nil]); first | done | rfl | (simp only [List.length_drop, List.length_take]; rfl)) ?_
                                      with_reducible refine (bloom_Ones.calls k5 _ _ x275000_2 x275001_2 t296 _ ?side1 ?side2 A93.out).mono ?_
                                      (case side1 => exact Cs (Kd.R_reads' HO_275000.out).2.2)
                                      (case side2 => exact (Kd.R_reads' HO_275000.out).2.1)
                                      rintro e w111 ⟨rfl, hb⟩
                                      refine ⟨_, rfl, ?_⟩
                                      replace HO_275000 := Rb HO_275000 hb
                                      replace HO_276000 := Rb HO_276000 hb
                                      replace BK274 := Bb BK274 hb
                                      replace BK275 := Bb BK275 hb
                                      replace HB := Lb HB hb
                                      try clear hb; try clear hb2; try clear hk; try clear hi
                                      refine hK.out _ _ ⟨(blk_cell BK274.out 0).trans rfl, (blk_cell BK274.out 1).trans rfl, (blk_cell BK275.out 0).trans rfl, (blk_cell BK275.out 1).trans rfl⟩ (fun hHeld => ?_)
                                      clear hK K
                                      refine norm_ (a' := ?_) ?_ ?_; rotate_left; (· show Act.put _ (some 109) _ = _; simp only [Act.put, sq]; rfl)
                                      refine pure_ (i := 3) (N := some 111) (v := ?_) (a' := ?_) #[T, T, T, T, F, F, F, F, F, F, F, F, F, F, F, F, F] rfl rfl (any_of HT_.out (by kernel_rfl)) (fun _ _ _ h => h) (Or.inl ⟨by rfl, ?_⟩) ?_ ?_; rotate_left; (· intro w'; go_simp; with_reducible rfl); rotate_left; (· simp only [Act.put, sq]; rfl)
                                      refine pure_ (i := 4) (N := some 112) (v := ?_) (a' := ?_) #[T, T, T, T, T, F, F, F, F, F, F, F, F, F, F, F, F] rfl rfl (any_of HT_.out (by kernel_rfl)) (fun _ _ _ h => h) (Or.inl ⟨by rfl, ?_⟩) ?_ ?_; rotate_left; (· intro w'; go_simp; with_reducible rfl); rotate_left; (· simp only [Act.put, sq]; rfl)
                                      refine pure_ (i := 6) (N := some 114) (v := ?_) (a' := ?_) #[T, T, T, T, T, F, T, F, F, F, F, F, F, F, F, F, F] rfl rfl (any_of HT_.out (by kernel_rfl)) (fun _ _ _ h => h) (Or.inl ⟨by rfl, ?_⟩) ?_ ?_; rotate_left; (· intro w'; go_simp; with_reducible rfl); rotate_left; (· simp only [Act.put, sq]; rfl)
                                      refine pure_ (i := 9) (N := some 117) (v := ?_) (a' := ?_) #[T, T, T, T, T, F, T, F, F, T, F, F, F, F, F, F, F] rfl rfl (any_of HT_.out (by kernel_rfl)) (fun _ _ _ h => h) (Or.inl ⟨by rfl, ?_⟩) ?_ ?_; rotate_left; (· intro w'; go_simp; with_reducible rfl); rotate_left; (· simp only [Act.put, sq]; rfl)
                                      refine take_ (i := 5) (N := some 113) (v := ?_) (a' := ?_) #[T, T, T, T, T, T, T, F, F, T, F, F, F, F, F, F, F] rfl rfl (take_ofW HT_.out HW_.out (by kernel_rfl)) (fun _ _ _ h => h) (Or.inl ⟨by rfl, ?_⟩) hHeld ?_ ?_; rotate_left; (· rintro w' ⟨s0, s1, s2, s3⟩; go_simp; with_reducible rfl); rotate_left; (· simp only [Act.put, sq]; rfl)
                                      refine take_ (i := 8) (N := some 116) (v := ?_) (a' := ?_) #[T, T, T, T, T, T, T, F, T, T, F, F, F, F, F, F, F] rfl rfl (take_ofW HT_.out HW_.out (by kernel_rfl)) (fun _ _ _ h => h) (Or.inl ⟨by rfl, ?_⟩) hHeld ?_ ?_; rotate_left; (· rintro w' ⟨s0, s1, s2, s3⟩; go_simp; with_reducible rfl); rotate_left; (· simp only [Act.put, sq]; rfl)
                                      refine one_ (i := 7) (N := some 115) #[T, T, T, T, T, T, T, T, T, T, F, F, F, F, F, F, F] rfl rfl (one_of HT_.out (by kernel_rfl)) (by decide) (fun K hK => ?_)
                                      refine goes_ Try.func14 (by kernel_rfl) rfl #[.agg #[.slice Ao58 x275000_2.length co58, .int .i64 x275001_2], .int .u64 a3] (by rfl) rfl rfl (by (try simp only [List.map_toArray, List.map_cons, List.map_nil]); first | done | rfl | (simp only [List.length_drop, List.length_take]; rfl)) ?_
                                      with_reducible refine (bloom_Has.calls k5 _ _ x275000_2 x275001_2 a3 t297 _ ?side1 ?side2 A95.out).mono ?_
                                      (case side1 => exact Cs (Kd.R_reads' HO_275000.out).2.2)
                                      (case side2 => exact (Kd.R_reads' HO_275000.out).2.1)
                                      rintro e w112 ⟨rfl, hb⟩
                                      refine ⟨_, rfl, ?_⟩
                                      replace HO_275000 := Rb HO_275000 hb
                                      replace HO_276000 := Rb HO_276000 hb
                                      replace BK274 := Bb BK274 hb
                                      replace BK275 := Bb BK275 hb
                                      replace HB := Lb HB hb
                                      try clear hb; try clear hb2; try clear hk; try clear hi
                                      refine hK.out _ _ ⟨(blk_cell BK274.out 0).trans rfl, (blk_cell BK274.out 1).trans rfl, (blk_cell BK275.out 0).trans rfl, (blk_cell BK275.out 1).trans rfl⟩ (fun hHeld => ?_)
                                      clear hK K
                                      refine norm_ (a' := ?_) ?_ ?_; rotate_left; (· show Act.put _ (some 115) _ = _; simp only [Act.put, sq]; rfl)
                                      refine one_ (i := 10) (N := some 118) #[T, T, T, T, T, T, T, T, T, T, T, F, F, F, F, F, F] rfl rfl (one_of HT_.out (by kernel_rfl)) (by decide) (fun K hK => ?_)
                                      refine goes_ Try.func31 (by kernel_rfl) rfl #[.agg #[.slice Ao109 x276000_2.length co109, .int .i64 x276001_2], .int .u64 a3] (by rfl) rfl rfl (by (try simp only [List.map_toArray, List.map_cons, List.map_nil]); first | done | rfl | (simp only [List.length_drop, List.length_take]; rfl)) ?_
                                      with_reducible refine (trommelref18_Has.calls k5 _ _ x276000_2 x276001_2 a3 t298 _ ?side1 ?side2 A96.out).mono ?_
                                      (case side1 => exact Cs (Kd.R_reads' HO_276000.out).2.2)
                                      (case side2 => exact (Kd.R_reads' HO_276000.out).2.1)
                                      rintro e w113 ⟨rfl, hb⟩
                                      refine ⟨_, rfl, ?_⟩
                                      replace HO_275000 := Rb HO_275000 hb
                                      replace HO_276000 := Rb HO_276000 hb
                                      replace BK274 := Bb BK274 hb
                                      replace BK275 := Bb BK275 hb
                                      replace HB := Lb HB hb
                                      try clear hb; try clear hb2; try clear hk; try clear hi
                                      refine hK.out _ _ ⟨(blk_cell BK274.out 0).trans rfl, (blk_cell BK274.out 1).trans rfl, (blk_cell BK275.out 0).trans rfl, (blk_cell BK275.out 1).trans rfl⟩ (fun hHeld => ?_)
                                      clear hK K
                                      refine norm_ (a' := ?_) ?_ ?_; rotate_left; (· show Act.put _ (some 118) _ = _; simp only [Act.put, sq]; rfl)
                                      refine pure_ (i := 11) (N := some 119) (v := ?_) (a' := ?_) #[T, T, T, T, T, T, T, T, T, T, T, T, F, F, F, F, F] rfl rfl (any_of HT_.out (by kernel_rfl)) (fun _ _ _ h => h) (Or.inl ⟨by rfl, ?_⟩) ?_ ?_; rotate_left; (· intro w'; go_simp; with_reducible rfl); rotate_left; (· simp only [Act.put, sq]; rfl)
                                      refine pure_ (i := 12) (N := some 120) (v := ?_) (a' := ?_) #[T, T, T, T, T, T, T, T, T, T, T, T, T, F, F, F, F] rfl rfl (any_of HT_.out (by kernel_rfl)) (fun _ _ _ h => h) (Or.inl ⟨by rfl, ?_⟩) ?_ ?_; rotate_left; (· intro w'; go_simp; with_reducible rfl); rotate_left; (· simp only [Act.put, sq]; rfl)
                                      refine pure_ (i := 13) (N := some 121) (v := ?_) (a' := ?_) #[T, T, T, T, T, T, T, T, T, T, T, T, T, T, F, F, F] rfl rfl (any_of HT_.out (by kernel_rfl)) (fun _ _ _ h => h) (Or.inl ⟨by rfl, ?_⟩) ?_ ?_; rotate_left; (· intro w'; go_simp; with_reducible rfl); rotate_left; (· simp only [Act.put, sq]; rfl)
                                      refine pure_ (i := 14) (N := some 122) (v := undef) (a' := ?_) #[T, T, T, T, T, T, T, T, T, T, T, T, T, T, T, F, F] rfl rfl (any_of HT_.out (by kernel_rfl)) (fun _ _ _ h => h) (Or.inr ⟨by rfl, rfl⟩) ?_ ?_
                                      rotate_left; (· simp only [Act.put, sq]; rfl)
                                      refine pure_ (i := 15) (N := some 123) (v := ?_) (a' := ?_) #[T, T, T, T, T, T, T, T, T, T, T, T, T, T, T, T, F] rfl rfl (any_of HT_.out (by kernel_rfl)) (fun _ _ _ h => h) (Or.inl ⟨by rfl, ?_⟩) ?_ ?_; rotate_left; (· intro w'; go_simp; with_reducible rfl); rotate_left; (· simp only [Act.put, sq]; rfl)
                                      refine pure_ (i := 16) (N := some 8) (v := ?_) (a' := ?_) #[T, T, T, T, T, T, T, T, T, T, T, T, T, T, T, T, T] rfl rfl (any_of HT_.out (by kernel_rfl)) (fun _ _ _ h => h) (Or.inl ⟨by rfl, ?_⟩) ?_ ?_; rotate_left; (· intro w'; go_simp; with_reducible rfl); rotate_left; (· simp only [Act.put, sq]; rfl)
                                      refine done_ (done_of HT_.out (by kernel_rfl)) ?_
                                      try go_wp2
                                      go_ret
                                      exact ⟨by first | rfl | (simp [errW_none, errW_some] <;> rfl) | (simp [*, errW_none, errW_some] <;> rfl), by repeat (first | (with_reducible first | exact HB.out | apply below_alloc | apply pw_below_drewN | apply below_drew1 | refine below_set ?_ GE274.out | refine below_set ?_ GE275.out) | exact HB.out)⟩
                                  · rw [if_neg c94] at H
                                    have c94b0 : (t296 == x13_5) = false := beq_eq_false_iff_ne.mpr c94
                                    have c94b1 : (t296 != x13_5) = true := bne_iff_ne.mpr c94
                                    obtain rfl := Option.some.inj H
                                    have hnb114 := NB275_274.out
                                    have hnc114 := NB274_275.out
                                    have hcz115_0 : wr.cell? ⟨gb275, 0, none⟩ = some (u276000) := (blk_cell BK275.out 0).trans rfl
                                    have hcz115_1 : wr.cell? ⟨gb275, 1, none⟩ = some (.int .i64 x276001_2) := (blk_cell BK275.out 1).trans rfl
                                    have hfz115_0 := blk_frozen BK275.out 0
                                    have hfz115_1 := blk_frozen BK275.out 1
                                    obtain ⟨Ao116, co116, eo116⟩ := Kd.R_slice HO_276000.out
                                    subst eo116
                                    try go_wp2
                                    replace HO_275000 := Aside0.mk (Kd.R_drew HO_275000.out)
                                    replace HO_276000 := Aside0.mk (Kd.R_drew HO_276000.out)
                                    replace BK274 := Aside0.mk (blk_drew BK274.out)
                                    replace BK275 := Aside0.mk (blk_drew BK275.out)
                                    replace HB := Aside0.mk (below_drew1 HB.out)
                                    refine start_ (n := 17) (S := fun w' => w'.cell? ⟨gb274, 0, none⟩ = some (.slice Ao58 x275000_2.length co58) ∧ w'.cell? ⟨gb274, 1, none⟩ = some (.int .i64 x275001_2)) (ds := []) #[F, F, F, F, F, F, F, F, F, F, F, F, F, F, F, F, F] (by kernel_rfl) rfl rfl ⟨(blk_cell BK274.out 0).trans rfl, (blk_cell BK274.out 1).trans rfl⟩ (fun hHeld => ?_); refine with_tabW trommellaw18_BloomPlays.tab24 trommellaw18_BloomPlays.bits24 (fun HT_ HW_ => ?_)
                                    generalize wr.drew = w117 at HO_275000 HO_276000 BK274 BK275 HB hHeld ⊢
                                    refine pure_ (i := 2) (N := some 110) (v := ?_) (a' := ?_) #[F, F, T, F, F, F, F, F, F, F, F, F, F, F, F, F, F] rfl rfl (any_of HT_.out (by kernel_rfl)) (fun _ _ _ h => h) (Or.inl ⟨by rfl, ?_⟩) ?_ ?_; rotate_left; (· intro w'; go_simp; with_reducible rfl); rotate_left; (· simp only [Act.put, sq]; rfl)
                                    refine take_ (i := 0) (N := some 108) (v := ?_) (a' := ?_) #[T, F, T, F, F, F, F, F, F, F, F, F, F, F, F, F, F] rfl rfl (take_ofW HT_.out HW_.out (by kernel_rfl)) (fun _ _ _ h => h) (Or.inl ⟨by rfl, ?_⟩) hHeld ?_ ?_; rotate_left; (· rintro w' ⟨s0, s1⟩; go_simp; with_reducible rfl); rotate_left; (· simp only [Act.put, sq]; rfl)
                                    refine one_ (i := 1) (N := some 109) #[T, T, T, F, F, F, F, F, F, F, F, F, F, F, F, F, F] rfl rfl (one_of HT_.out (by kernel_rfl)) (by decide) (fun K hK => ?_)
                                    refine goes_ Try.func30 (by kernel_rfl) rfl #[.agg #[.slice Ao58 x275000_2.length co58, .int .i64 x275001_2]] (by rfl) rfl rfl (by (try simp only [List.map_toArray, List.map_cons, List.map_nil]); first | done | rfl | (simp only [List.length_drop, List.length_take]; rfl)) ?_
                                    with_reducible refine (bloom_Ones.calls k5 _ _ x275000_2 x275001_2 t296 _ ?side1 ?side2 A93.out).mono ?_
                                    (case side1 => exact Cs (Kd.R_reads' HO_275000.out).2.2)
                                    (case side2 => exact (Kd.R_reads' HO_275000.out).2.1)
                                    rintro e w118 ⟨rfl, hb⟩
                                    refine ⟨_, rfl, ?_⟩
                                    replace HO_275000 := Rb HO_275000 hb
                                    replace HO_276000 := Rb HO_276000 hb
                                    replace BK274 := Bb BK274 hb
                                    replace BK275 := Bb BK275 hb
                                    replace HB := Lb HB hb
                                    try clear hb; try clear hb2; try clear hk; try clear hi
                                    refine hK.out _ _ ⟨(blk_cell BK274.out 0).trans rfl, (blk_cell BK274.out 1).trans rfl⟩ (fun hHeld => ?_)
                                    clear hK K
                                    refine norm_ (a' := ?_) ?_ ?_; rotate_left; (· show Act.put _ (some 109) _ = _; simp only [Act.put, sq]; rfl)
                                    refine pure_ (i := 3) (N := some 111) (v := ?_) (a' := ?_) #[T, T, T, T, F, F, F, F, F, F, F, F, F, F, F, F, F] rfl rfl (any_of HT_.out (by kernel_rfl)) (fun _ _ _ h => h) (Or.inl ⟨by rfl, ?_⟩) ?_ ?_; rotate_left; (· intro w'; go_simp; with_reducible rfl); rotate_left; (· simp only [Act.put, sq]; rfl)
                                    refine pure_ (i := 4) (N := some 112) (v := ?_) (a' := ?_) #[T, T, T, T, T, F, F, F, F, F, F, F, F, F, F, F, F] rfl rfl (any_of HT_.out (by kernel_rfl)) (fun _ _ _ h => h) (Or.inl ⟨by rfl, ?_⟩) ?_ ?_; rotate_left; (· intro w'; go_simp; with_reducible rfl); rotate_left; (· simp only [Act.put, sq]; rfl)
                                    refine pure_ (i := 5) (N := some 113) (v := undef) (a' := ?_) #[T, T, T, T, T, T, F, F, F, F, F, F, F, F, F, F, F] rfl rfl (any_of HT_.out (by kernel_rfl)) (fun _ _ _ h => h) (Or.inr ⟨by rfl, rfl⟩) ?_ ?_
                                    rotate_left; (· simp only [Act.put, sq]; rfl)
                                    refine pure_ (i := 6) (N := some 114) (v := undef) (a' := ?_) #[T, T, T, T, T, T, T, F, F, F, F, F, F, F, F, F, F] rfl rfl (any_of HT_.out (by kernel_rfl)) (fun _ _ _ h => h) (Or.inr ⟨by rfl, rfl⟩) ?_ ?_
                                    rotate_left; (· simp only [Act.put, sq]; rfl)
                                    refine pure_ (i := 7) (N := some 115) (v := undef) (a' := ?_) #[T, T, T, T, T, T, T, T, F, F, F, F, F, F, F, F, F] rfl rfl (any_of HT_.out (by kernel_rfl)) (fun _ _ _ h => h) (Or.inr ⟨by rfl, rfl⟩) ?_ ?_
                                    rotate_left; (· simp only [Act.put, sq]; rfl)
                                    refine pure_ (i := 8) (N := some 116) (v := undef) (a' := ?_) #[T, T, T, T, T, T, T, T, T, F, F, F, F, F, F, F, F] rfl rfl (any_of HT_.out (by kernel_rfl)) (fun _ _ _ h => h) (Or.inr ⟨by rfl, rfl⟩) ?_ ?_
                                    rotate_left; (· simp only [Act.put, sq]; rfl)
                                    refine pure_ (i := 9) (N := some 117) (v := undef) (a' := ?_) #[T, T, T, T, T, T, T, T, T, T, F, F, F, F, F, F, F] rfl rfl (any_of HT_.out (by kernel_rfl)) (fun _ _ _ h => h) (Or.inr ⟨by rfl, rfl⟩) ?_ ?_
                                    rotate_left; (· simp only [Act.put, sq]; rfl)
                                    refine pure_ (i := 10) (N := some 118) (v := undef) (a' := ?_) #[T, T, T, T, T, T, T, T, T, T, T, F, F, F, F, F, F] rfl rfl (any_of HT_.out (by kernel_rfl)) (fun _ _ _ h => h) (Or.inr ⟨by rfl, rfl⟩) ?_ ?_
                                    rotate_left; (· simp only [Act.put, sq]; rfl)
                                    refine pure_ (i := 11) (N := some 119) (v := undef) (a' := ?_) #[T, T, T, T, T, T, T, T, T, T, T, T, F, F, F, F, F] rfl rfl (any_of HT_.out (by kernel_rfl)) (fun _ _ _ h => h) (Or.inr ⟨by rfl, rfl⟩) ?_ ?_
                                    rotate_left; (· simp only [Act.put, sq]; rfl)
                                    refine pure_ (i := 12) (N := some 120) (v := ?_) (a' := ?_) #[T, T, T, T, T, T, T, T, T, T, T, T, T, F, F, F, F] rfl rfl (any_of HT_.out (by kernel_rfl)) (fun _ _ _ h => h) (Or.inl ⟨by rfl, ?_⟩) ?_ ?_; rotate_left; (· intro w'; go_simp; with_reducible rfl); rotate_left; (· simp only [Act.put, sq]; rfl)
                                    refine pure_ (i := 13) (N := some 121) (v := ?_) (a' := ?_) #[T, T, T, T, T, T, T, T, T, T, T, T, T, T, F, F, F] rfl rfl (any_of HT_.out (by kernel_rfl)) (fun _ _ _ h => h) (Or.inl ⟨by rfl, ?_⟩) ?_ ?_; rotate_left; (· intro w'; go_simp; with_reducible rfl); rotate_left; (· simp only [Act.put, sq]; rfl)
                                    refine pure_ (i := 14) (N := some 122) (v := undef) (a' := ?_) #[T, T, T, T, T, T, T, T, T, T, T, T, T, T, T, F, F] rfl rfl (any_of HT_.out (by kernel_rfl)) (fun _ _ _ h => h) (Or.inr ⟨by rfl, rfl⟩) ?_ ?_
                                    rotate_left; (· simp only [Act.put, sq]; rfl)
                                    refine pure_ (i := 15) (N := some 123) (v := ?_) (a' := ?_) #[T, T, T, T, T, T, T, T, T, T, T, T, T, T, T, T, F] rfl rfl (any_of HT_.out (by kernel_rfl)) (fun _ _ _ h => h) (Or.inl ⟨by rfl, ?_⟩) ?_ ?_; rotate_left; (· intro w'; go_simp; with_reducible rfl); rotate_left; (· simp only [Act.put, sq]; rfl)
                                    refine pure_ (i := 16) (N := some 8) (v := ?_) (a' := ?_) #[T, T, T, T, T, T, T, T, T, T, T, T, T, T, T, T, T] rfl rfl (any_of HT_.out (by kernel_rfl)) (fun _ _ _ h => h) (Or.inl ⟨by rfl, ?_⟩) ?_ ?_; rotate_left; (· intro w'; go_simp; with_reducible rfl); rotate_left; (· simp only [Act.put, sq]; rfl)
                                    refine done_ (done_of HT_.out (by kernel_rfl)) ?_
                                    try go_wp2
                                    go_ret
                                    exact ⟨by first | rfl | (simp [errW_none, errW_some] <;> rfl) | (simp [*, errW_none, errW_some] <;> rfl), by repeat (first | (with_reducible first | exact HB.out | apply below_alloc | apply pw_below_drewN | apply below_drew1 | refine below_set ?_ GE274.out | refine below_set ?_ GE275.out) | exact HB.out)⟩

/-- THE ONE PURE STATEMENT of trommellaw18_BloomPlays: yours. -/
def trommellaw18_BloomPlays.Pure : Prop := ∀ (a0 : Int) (a1 : Int) (l2 : List Int) (a3 : Int), (Lit.int .i64 a0).wf = true → (Lit.int .i64 a1).wf = true → l2.length ≤ maxLen → l2.length * 8 ≤ 140737488351232 → (∀ x ∈ l2, (Lit.int .u64 x).wf = true) → (Lit.int .u64 a3).wf = true → ∃ k, trommellaw18_BloomPlays.f k a0 a1 l2 a3 = some true
theorem trommellaw18_BloomPlays.walk (P : trommellaw18_BloomPlays.Pure) (a0 : Int) (a1 : Int) (a2 : Option Addr) (len2 cap2 : Nat) (z2 : List Int) (a3 : Int) (w : World) (w0 : (Lit.int .i64 a0).wf = true) (w1 : (Lit.int .i64 a1).wf = true) (w2 : (a2 = none ∧ len2 = 0 ∧ cap2 = 0 ∧ z2 = []) ∨ ∃ x, a2 = some x ∧ len2 ≤ cap2 ∧ cap2 ≤ maxLen ∧ z2.length = cap2 ∧ (∀ i, i < z2.length → w.cell? (x.add i) = some (.int .u64 (z2.getD i 0))) ∧ ∀ n ∈ z2, (Lit.int .u64 n).wf = true) (y2 : len2 * 8 ≤ 140737488351232) (w3 : (Lit.int .u64 a3).wf = true) :
    Calls Try.prog 5 #[.int .i64 a0, .int .i64 a1, .slice a2 len2 cap2, .int .u64 a3] w fun e w' => e = .returned (.bool true) ∧ Below w.heap.size w w' := by
  obtain ⟨l2, rfl, hr2, hm2, hw2, hc2⟩ := ReadsInt.ofRowC w2
  obtain ⟨k, h⟩ := P a0 a1 l2 a3 w0 w1 hm2 y2 hw2 w3
  refine (trommellaw18_BloomPlays.calls k a0 a1 _ _ l2 a3 true w (Kd.C_of_reads (d := (0 : Int)) (h1 := fun _ => rfl) hr2) hc2 h).mono ?_
  rintro e w' ⟨rfl, hd⟩
  exact ⟨rfl, hd⟩

end Go.Proofs.Ytobfhacdljmooaa.PBloom
