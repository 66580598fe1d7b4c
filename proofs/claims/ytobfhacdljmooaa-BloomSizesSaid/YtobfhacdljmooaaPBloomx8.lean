-- written for this claim by wip/pr/hand.py (the kit's print, with contracts proved by hand)
import Derived.Test.YtobfhacdljmooaaPBloomx0
import Derived.Test.YtobfhacdljmooaaSq
import Derived.Test.YtobfhacdljmooaaPBloomx1
import Derived.Test.YtobfhacdljmooaaPBloomx2
import Derived.Test.YtobfhacdljmooaaPBloomx4
import Derived.Test.YtobfhacdljmooaaPBloomx7
namespace Go.Proofs.Ytobfhacdljmooaa.PBloom
open Go.RowKit Go.Proofs.YtobfhacdljmooaaW.PrintWords Go.Proofs.YtobfhacdljmooaaW.PrintLast Go.Proofs.YtobfhacdljmooaaW.PrintMore Go.Proofs.Ytobfhacdljmooaa.Sq
attribute [local go_sem] max2_int min2_int max_two min_two max_three min_three max_four min_four   -- for this text's walks alone
set_option linter.unusedVariables false
set_option linter.unusedSimpArgs false

/-! ### trommellaw18_BloomSizes: function 6 -/
def trommellaw18_BloomSizes.j0 : Nat → Int → Int → Int → Int → Bool → Option (Bool)
  | 0, _, _, _, _, _ => none
  | k + 1, x0, x1, x14, x16, x17 => (bloom_Size.f k x0 x1).bind fun t350 => ((trommelref18_Size.f k x0 x1).bind fun t351 => (if t350 = t351 then ((trommellaw18_code.f x14).bind fun t352 => (if t352 = 7 then ((trommellaw18_code.f x16).bind fun t353 => (if t353 = 7 then (if x17 = true then ((trommellaw18_live.f k).bind fun t354 => (some t354)) else (some false)) else (some false))) else (some false))) else (some false)))
def trommellaw18_BloomSizes.f (k : Nat) (a0 : Int) (a1 : Int) (a2 : Int) (a3 : Int) (a4 : Int) : Option (Bool) := (bloom_New.f (Int.tmod (wrap64 (a2)) 20) (Int.tmod (wrap64 (a3)) 7)).bind fun bt303 => ((bloom_Words.f bt303.1 bt303.2).bind fun t308 => ((bloom_Bits.f bt303.1 bt303.2).bind fun t311 => ((bloom_New.f (wrap64 ((t308.length : Int) + 1)) t311).bind fun bt312 => ((bloom_Union.f k bt303.1 bt303.2 bt312.1 bt312.2).bind fun bt316 => ((bloom_Words.f bt303.1 bt303.2).bind fun t322 => ((bloom_Bits.f bt303.1 bt303.2).bind fun t325 => ((bloom_New.f (t322.length : Int) (wrap64 ((Int.tmod t325 5) + 1))).bind fun bt326 => ((bloom_Union.f k bt303.1 bt303.2 bt326.1 bt326.2).bind fun bt330 => ((bloom_Has.f k ([] : List Int) 0 a4).bind fun t336 => (if t336 = true then (trommellaw18_BloomSizes.j0 k a0 a1 bt316.2.2 bt330.2.2 false) else ((bloom_Add.f k ([] : List Int) 0 (([a4] : List Int))).bind fun bt340 => ((bloom_Has.f k bt340.1 bt340.2 a4).bind fun t344 => (if t344 = true then (trommellaw18_BloomSizes.j0 k a0 a1 bt316.2.2 bt330.2.2 false) else ((bloom_Words.f ([] : List Int) 0).bind fun t345 => ((bloom_Ones.f k ([] : List Int) 0).bind fun t348 => ((bloom_Bits.f ([] : List Int) 0).bind fun t349 => (trommellaw18_BloomSizes.j0 k a0 a1 bt316.2.2 bt330.2.2 ((wrap64 ((wrap64 ((t345.length : Int) + t348)) + t349)) == 0))))))))))))))))))
theorem trommellaw18_BloomSizes.mono_l : ∀ k, (∀ y0 y1 y2 y3 y4, LeO (trommellaw18_BloomSizes.j0 k y0 y1 y2 y3 y4) (trommellaw18_BloomSizes.j0 (k + 1) y0 y1 y2 y3 y4))
  | 0 => fun _ _ _ _ _ r h => by simp [trommellaw18_BloomSizes.j0] at h
  | k + 1 => by
    have ih0 := trommellaw18_BloomSizes.mono_l k
    · intro y0 y1 y2 y3 y4
      unfold trommellaw18_BloomSizes.j0
      repeat' first
      | (with_reducible exact ih0 _ _ _ _ _)
      | (with_reducible exact bloom_Add.mono _ _ _ _)
      | (with_reducible exact bloom_Has.mono _ _ _ _)
      | (with_reducible exact bloom_Ones.mono _ _ _)
      | (with_reducible exact bloom_Size.mono _ _ _)
      | (with_reducible exact bloom_Union.mono _ _ _ _ _)
      | (with_reducible exact trommellaw18_live.mono _)
      | (with_reducible exact trommelref18_Size.mono _ _ _)
      | (with_reducible exact LeO.refl _)
      | (with_reducible exact LeO.none _)
      | (with_reducible refine LeO.ite ?_ ?_)
      | (with_reducible refine LeO.bind ?_ (fun _ => ?_))
      | exact ih0 _ _ _ _ _
      | exact bloom_Add.mono _ _ _ _
      | exact bloom_Has.mono _ _ _ _
      | exact bloom_Ones.mono _ _ _
      | exact bloom_Size.mono _ _ _
      | exact bloom_Union.mono _ _ _ _ _
      | exact trommellaw18_live.mono _
      | exact trommelref18_Size.mono _ _ _
      | exact LeO.none _
      | refine LeO.ite ?_ ?_
      | refine LeO.bind ?_ (fun _ => ?_)
theorem trommellaw18_BloomSizes.mono : ∀ a0 a1 a2 a3 a4 k, LeO (trommellaw18_BloomSizes.f k a0 a1 a2 a3 a4) (trommellaw18_BloomSizes.f (k + 1) a0 a1 a2 a3 a4) := by
  intro a0 a1 a2 a3 a4 k
  have ih0 := trommellaw18_BloomSizes.mono_l k
  unfold trommellaw18_BloomSizes.f
  repeat' first
      | (with_reducible exact ih0 _ _ _ _ _)
      | (with_reducible exact bloom_Add.mono _ _ _ _)
      | (with_reducible exact bloom_Has.mono _ _ _ _)
      | (with_reducible exact bloom_Ones.mono _ _ _)
      | (with_reducible exact bloom_Size.mono _ _ _)
      | (with_reducible exact bloom_Union.mono _ _ _ _ _)
      | (with_reducible exact trommellaw18_live.mono _)
      | (with_reducible exact trommelref18_Size.mono _ _ _)
      | (with_reducible exact LeO.refl _)
      | (with_reducible exact LeO.none _)
      | (with_reducible refine LeO.ite ?_ ?_)
      | (with_reducible refine LeO.bind ?_ (fun _ => ?_))
      | exact ih0 _ _ _ _ _
      | exact bloom_Add.mono _ _ _ _
      | exact bloom_Has.mono _ _ _ _
      | exact bloom_Ones.mono _ _ _
      | exact bloom_Size.mono _ _ _
      | exact bloom_Union.mono _ _ _ _ _
      | exact trommellaw18_live.mono _
      | exact trommelref18_Size.mono _ _ _
      | exact LeO.none _
      | refine LeO.ite ?_ ?_
      | refine LeO.bind ?_ (fun _ => ?_)
def trommellaw18_BloomSizes.T3 : Bool × List (List Nat × List Nat) := (true, [([], []), ([], []), ([1], [1]), ([2], [2]), ([3], [3]), ([], []), ([5, 2], [5]), ([4, 6, 6], [4, 6]), ([0, 7, 7], [0, 7]), ([8], [8]), ([9], [9]), ([9], [9]), ([], []), ([12, 10, 8, 0, 1, 2, 3, 4, 5, 6, 7, 8, 9, 10, 12], [10, 12]), ([11, 13, 0, 1, 2, 3, 4, 5, 6, 7, 8, 9, 10, 11, 12, 13], [11])])
def trommellaw18_BloomSizes.B3 : List Nat := [0, 0, 2, 6, 14, 0, 38, 126, 255, 511, 1023, 1023, 0, 6143, 16383]
theorem trommellaw18_BloomSizes.tab3 : rtab .any (opsOf Try.f6 3) = trommellaw18_BloomSizes.T3 := by kernel_rfl
theorem trommellaw18_BloomSizes.bits3 : waitsOk trommellaw18_BloomSizes.T3.2 trommellaw18_BloomSizes.B3 = true := by kernel_rfl
def trommellaw18_BloomSizes.T4 : Bool × List (List Nat × List Nat) := (true, [([], []), ([], []), ([1], [1]), ([2], [2]), ([], []), ([4, 2], [4]), ([5], [5]), ([6], [6]), ([3, 7, 5], [3, 7]), ([0, 8, 8], [0, 8]), ([9], [9]), ([10], [10]), ([10], [10]), ([], []), ([13, 11, 9, 0, 1, 2, 3, 4, 5, 6, 7, 8, 9, 10, 11, 13], [11, 13]), ([12, 14, 0, 1, 2, 3, 4, 5, 6, 7, 8, 9, 10, 11, 12, 13, 14], [12])])
def trommellaw18_BloomSizes.B4 : List Nat := [0, 0, 2, 6, 0, 22, 54, 118, 254, 511, 1023, 2047, 2047, 0, 12287, 32767]
theorem trommellaw18_BloomSizes.tab4 : rtab .any (opsOf Try.f6 4) = trommellaw18_BloomSizes.T4 := by kernel_rfl
theorem trommellaw18_BloomSizes.bits4 : waitsOk trommellaw18_BloomSizes.T4.2 trommellaw18_BloomSizes.B4 = true := by kernel_rfl
def trommellaw18_BloomSizes.T5 : Bool × List (List Nat × List Nat) := (true, [([], []), ([], []), ([0, 1], [0, 1]), ([2], [2]), ([3, 2], [3]), ([4], [4]), ([4], [4]), ([6, 4], [4, 6]), ([5, 7, 4, 4], [4, 5, 7]), ([4], [4]), ([8, 9, 8, 4], [4, 8, 9]), ([10, 4], [4, 10]), ([4, 11], [4, 11]), ([12, 10], [12]), ([13], [13]), ([14, 13, 13], [13, 14]), ([15, 13], [13, 15]), ([13], [13]), ([17, 15, 13], [13, 17]), ([16, 18, 13], [13, 16, 18]), ([13], [13]), ([20, 18, 13], [13, 20]), ([19, 21, 13], [13, 19, 21]), ([22, 13], [13, 22]), ([13, 23], [13, 23]), ([24, 21, 0, 1, 2, 3, 4, 5, 6, 7, 8, 9, 10, 11, 12, 13, 14, 15, 16, 17, 18, 19, 20, 21, 22, 23, 24], [24])])
def trommellaw18_BloomSizes.B5 : List Nat := [0, 0, 3, 7, 15, 31, 31, 95, 255, 31, 1023, 2047, 4095, 8191, 16383, 32767, 65535, 16383, 196607, 524287, 16383, 1507327, 4194303, 8388607, 16777215, 33554431]
theorem trommellaw18_BloomSizes.tab5 : rtab .any (opsOf Try.f6 5) = trommellaw18_BloomSizes.T5 := by kernel_rfl
theorem trommellaw18_BloomSizes.bits5 : waitsOk trommellaw18_BloomSizes.T5.2 trommellaw18_BloomSizes.B5 = true := by kernel_rfl
set_option maxHeartbeats 8000000 in
set_option maxRecDepth 100000 in
theorem trommellaw18_BloomSizes.calls (k : Nat) (a0 : Int) (a1 : Int) (a2 : Int) (a3 : Int) (a4 : Int) (r : Bool) (w : World) (h : trommellaw18_BloomSizes.f k a0 a1 a2 a3 a4 = some r) :
    Calls Try.prog 6 #[.int .i64 a0, .int .i64 a1, .int .u8 a2, .int .u8 a3, .int .u64 a4] w fun e w' => e = .returned (.bool r) ∧ Below w.heap.size w w' := by
  have hu25 := Try.underlying25
  have HB := Aside0.mk (Below.refl w.heap.size w)
  have H : ((bloom_New.f (Int.tmod (wrap64 (a2)) 20) (Int.tmod (wrap64 (a3)) 7)).bind fun bt303 => ((bloom_Words.f bt303.1 bt303.2).bind fun t308 => ((bloom_Bits.f bt303.1 bt303.2).bind fun t311 => ((bloom_New.f (wrap64 ((t308.length : Int) + 1)) t311).bind fun bt312 => ((bloom_Union.f k bt303.1 bt303.2 bt312.1 bt312.2).bind fun bt316 => ((bloom_Words.f bt303.1 bt303.2).bind fun t322 => ((bloom_Bits.f bt303.1 bt303.2).bind fun t325 => ((bloom_New.f (t322.length : Int) (wrap64 ((Int.tmod t325 5) + 1))).bind fun bt326 => ((bloom_Union.f k bt303.1 bt303.2 bt326.1 bt326.2).bind fun bt330 => ((bloom_Has.f k ([] : List Int) 0 a4).bind fun t336 => (if t336 = true then (trommellaw18_BloomSizes.j0 k a0 a1 bt316.2.2 bt330.2.2 false) else ((bloom_Add.f k ([] : List Int) 0 (([a4] : List Int))).bind fun bt340 => ((bloom_Has.f k bt340.1 bt340.2 a4).bind fun t344 => (if t344 = true then (trommellaw18_BloomSizes.j0 k a0 a1 bt316.2.2 bt330.2.2 false) else ((bloom_Words.f ([] : List Int) 0).bind fun t345 => ((bloom_Ones.f k ([] : List Int) 0).bind fun t348 => ((bloom_Bits.f ([] : List Int) 0).bind fun t349 => (trommellaw18_BloomSizes.j0 k a0 a1 bt316.2.2 bt330.2.2 ((wrap64 ((wrap64 ((t345.length : Int) + t348)) + t349)) == 0))))))))))))))))))) = some r := h
  clear h
  replace H := Option.bind_eq_some_iff.mp H
  obtain ⟨⟨t303, t306⟩, A60, H⟩ := H
  replace H : ((bloom_Words.f t303 t306).bind fun t308 => ((bloom_Bits.f t303 t306).bind fun t311 => ((bloom_New.f (wrap64 ((t308.length : Int) + 1)) t311).bind fun bt312 => ((bloom_Union.f k t303 t306 bt312.1 bt312.2).bind fun bt316 => ((bloom_Words.f t303 t306).bind fun t322 => ((bloom_Bits.f t303 t306).bind fun t325 => ((bloom_New.f (t322.length : Int) (wrap64 ((Int.tmod t325 5) + 1))).bind fun bt326 => ((bloom_Union.f k t303 t306 bt326.1 bt326.2).bind fun bt330 => ((bloom_Has.f k ([] : List Int) 0 a4).bind fun t336 => (if t336 = true then (trommellaw18_BloomSizes.j0 k a0 a1 bt316.2.2 bt330.2.2 false) else ((bloom_Add.f k ([] : List Int) 0 (([a4] : List Int))).bind fun bt340 => ((bloom_Has.f k bt340.1 bt340.2 a4).bind fun t344 => (if t344 = true then (trommellaw18_BloomSizes.j0 k a0 a1 bt316.2.2 bt330.2.2 false) else ((bloom_Words.f ([] : List Int) 0).bind fun t345 => ((bloom_Ones.f k ([] : List Int) 0).bind fun t348 => ((bloom_Bits.f ([] : List Int) 0).bind fun t349 => (trommellaw18_BloomSizes.j0 k a0 a1 bt316.2.2 bt330.2.2 ((wrap64 ((wrap64 ((t345.length : Int) + t348)) + t349)) == 0)))))))))))))))))) = some r := H
  have A6 := Aside0.mk A60
  clear A60
  replace H := Option.bind_eq_some_iff.mp H
  obtain ⟨t308, A70, H⟩ := H
  replace H : ((bloom_Bits.f t303 t306).bind fun t311 => ((bloom_New.f (wrap64 ((t308.length : Int) + 1)) t311).bind fun bt312 => ((bloom_Union.f k t303 t306 bt312.1 bt312.2).bind fun bt316 => ((bloom_Words.f t303 t306).bind fun t322 => ((bloom_Bits.f t303 t306).bind fun t325 => ((bloom_New.f (t322.length : Int) (wrap64 ((Int.tmod t325 5) + 1))).bind fun bt326 => ((bloom_Union.f k t303 t306 bt326.1 bt326.2).bind fun bt330 => ((bloom_Has.f k ([] : List Int) 0 a4).bind fun t336 => (if t336 = true then (trommellaw18_BloomSizes.j0 k a0 a1 bt316.2.2 bt330.2.2 false) else ((bloom_Add.f k ([] : List Int) 0 (([a4] : List Int))).bind fun bt340 => ((bloom_Has.f k bt340.1 bt340.2 a4).bind fun t344 => (if t344 = true then (trommellaw18_BloomSizes.j0 k a0 a1 bt316.2.2 bt330.2.2 false) else ((bloom_Words.f ([] : List Int) 0).bind fun t345 => ((bloom_Ones.f k ([] : List Int) 0).bind fun t348 => ((bloom_Bits.f ([] : List Int) 0).bind fun t349 => (trommellaw18_BloomSizes.j0 k a0 a1 bt316.2.2 bt330.2.2 ((wrap64 ((wrap64 ((t345.length : Int) + t348)) + t349)) == 0))))))))))))))))) = some r := H
  have A7 := Aside0.mk A70
  clear A70
  replace H := Option.bind_eq_some_iff.mp H
  obtain ⟨t311, A80, H⟩ := H
  replace H : ((bloom_New.f (wrap64 ((t308.length : Int) + 1)) t311).bind fun bt312 => ((bloom_Union.f k t303 t306 bt312.1 bt312.2).bind fun bt316 => ((bloom_Words.f t303 t306).bind fun t322 => ((bloom_Bits.f t303 t306).bind fun t325 => ((bloom_New.f (t322.length : Int) (wrap64 ((Int.tmod t325 5) + 1))).bind fun bt326 => ((bloom_Union.f k t303 t306 bt326.1 bt326.2).bind fun bt330 => ((bloom_Has.f k ([] : List Int) 0 a4).bind fun t336 => (if t336 = true then (trommellaw18_BloomSizes.j0 k a0 a1 bt316.2.2 bt330.2.2 false) else ((bloom_Add.f k ([] : List Int) 0 (([a4] : List Int))).bind fun bt340 => ((bloom_Has.f k bt340.1 bt340.2 a4).bind fun t344 => (if t344 = true then (trommellaw18_BloomSizes.j0 k a0 a1 bt316.2.2 bt330.2.2 false) else ((bloom_Words.f ([] : List Int) 0).bind fun t345 => ((bloom_Ones.f k ([] : List Int) 0).bind fun t348 => ((bloom_Bits.f ([] : List Int) 0).bind fun t349 => (trommellaw18_BloomSizes.j0 k a0 a1 bt316.2.2 bt330.2.2 ((wrap64 ((wrap64 ((t345.length : Int) + t348)) + t349)) == 0)))))))))))))))) = some r := H
  have A8 := Aside0.mk A80
  clear A80
  replace H := Option.bind_eq_some_iff.mp H
  obtain ⟨⟨t312, t315⟩, A90, H⟩ := H
  replace H : ((bloom_Union.f k t303 t306 t312 t315).bind fun bt316 => ((bloom_Words.f t303 t306).bind fun t322 => ((bloom_Bits.f t303 t306).bind fun t325 => ((bloom_New.f (t322.length : Int) (wrap64 ((Int.tmod t325 5) + 1))).bind fun bt326 => ((bloom_Union.f k t303 t306 bt326.1 bt326.2).bind fun bt330 => ((bloom_Has.f k ([] : List Int) 0 a4).bind fun t336 => (if t336 = true then (trommellaw18_BloomSizes.j0 k a0 a1 bt316.2.2 bt330.2.2 false) else ((bloom_Add.f k ([] : List Int) 0 (([a4] : List Int))).bind fun bt340 => ((bloom_Has.f k bt340.1 bt340.2 a4).bind fun t344 => (if t344 = true then (trommellaw18_BloomSizes.j0 k a0 a1 bt316.2.2 bt330.2.2 false) else ((bloom_Words.f ([] : List Int) 0).bind fun t345 => ((bloom_Ones.f k ([] : List Int) 0).bind fun t348 => ((bloom_Bits.f ([] : List Int) 0).bind fun t349 => (trommellaw18_BloomSizes.j0 k a0 a1 bt316.2.2 bt330.2.2 ((wrap64 ((wrap64 ((t345.length : Int) + t348)) + t349)) == 0))))))))))))))) = some r := H
  have A9 := Aside0.mk A90
  clear A90
  replace H := Option.bind_eq_some_iff.mp H
  obtain ⟨⟨t316, t319, t320⟩, A100, H⟩ := H
  replace H : ((bloom_Words.f t303 t306).bind fun t322 => ((bloom_Bits.f t303 t306).bind fun t325 => ((bloom_New.f (t322.length : Int) (wrap64 ((Int.tmod t325 5) + 1))).bind fun bt326 => ((bloom_Union.f k t303 t306 bt326.1 bt326.2).bind fun bt330 => ((bloom_Has.f k ([] : List Int) 0 a4).bind fun t336 => (if t336 = true then (trommellaw18_BloomSizes.j0 k a0 a1 t320 bt330.2.2 false) else ((bloom_Add.f k ([] : List Int) 0 (([a4] : List Int))).bind fun bt340 => ((bloom_Has.f k bt340.1 bt340.2 a4).bind fun t344 => (if t344 = true then (trommellaw18_BloomSizes.j0 k a0 a1 t320 bt330.2.2 false) else ((bloom_Words.f ([] : List Int) 0).bind fun t345 => ((bloom_Ones.f k ([] : List Int) 0).bind fun t348 => ((bloom_Bits.f ([] : List Int) 0).bind fun t349 => (trommellaw18_BloomSizes.j0 k a0 a1 t320 bt330.2.2 ((wrap64 ((wrap64 ((t345.length : Int) + t348)) + t349)) == 0)))))))))))))) = some r := H
  have A10 := Aside0.mk A100
  clear A100
  replace H := Option.bind_eq_some_iff.mp H
  obtain ⟨t322, A110, H⟩ := H
  replace H : ((bloom_Bits.f t303 t306).bind fun t325 => ((bloom_New.f (t322.length : Int) (wrap64 ((Int.tmod t325 5) + 1))).bind fun bt326 => ((bloom_Union.f k t303 t306 bt326.1 bt326.2).bind fun bt330 => ((bloom_Has.f k ([] : List Int) 0 a4).bind fun t336 => (if t336 = true then (trommellaw18_BloomSizes.j0 k a0 a1 t320 bt330.2.2 false) else ((bloom_Add.f k ([] : List Int) 0 (([a4] : List Int))).bind fun bt340 => ((bloom_Has.f k bt340.1 bt340.2 a4).bind fun t344 => (if t344 = true then (trommellaw18_BloomSizes.j0 k a0 a1 t320 bt330.2.2 false) else ((bloom_Words.f ([] : List Int) 0).bind fun t345 => ((bloom_Ones.f k ([] : List Int) 0).bind fun t348 => ((bloom_Bits.f ([] : List Int) 0).bind fun t349 => (trommellaw18_BloomSizes.j0 k a0 a1 t320 bt330.2.2 ((wrap64 ((wrap64 ((t345.length : Int) + t348)) + t349)) == 0))))))))))))) = some r := H
  have A11 := Aside0.mk A110
  clear A110
  replace H := Option.bind_eq_some_iff.mp H
  obtain ⟨t325, A120, H⟩ := H
  replace H : ((bloom_New.f (t322.length : Int) (wrap64 ((Int.tmod t325 5) + 1))).bind fun bt326 => ((bloom_Union.f k t303 t306 bt326.1 bt326.2).bind fun bt330 => ((bloom_Has.f k ([] : List Int) 0 a4).bind fun t336 => (if t336 = true then (trommellaw18_BloomSizes.j0 k a0 a1 t320 bt330.2.2 false) else ((bloom_Add.f k ([] : List Int) 0 (([a4] : List Int))).bind fun bt340 => ((bloom_Has.f k bt340.1 bt340.2 a4).bind fun t344 => (if t344 = true then (trommellaw18_BloomSizes.j0 k a0 a1 t320 bt330.2.2 false) else ((bloom_Words.f ([] : List Int) 0).bind fun t345 => ((bloom_Ones.f k ([] : List Int) 0).bind fun t348 => ((bloom_Bits.f ([] : List Int) 0).bind fun t349 => (trommellaw18_BloomSizes.j0 k a0 a1 t320 bt330.2.2 ((wrap64 ((wrap64 ((t345.length : Int) + t348)) + t349)) == 0)))))))))))) = some r := H
  have A12 := Aside0.mk A120
  clear A120
  replace H := Option.bind_eq_some_iff.mp H
  obtain ⟨⟨t326, t329⟩, A130, H⟩ := H
  replace H : ((bloom_Union.f k t303 t306 t326 t329).bind fun bt330 => ((bloom_Has.f k ([] : List Int) 0 a4).bind fun t336 => (if t336 = true then (trommellaw18_BloomSizes.j0 k a0 a1 t320 bt330.2.2 false) else ((bloom_Add.f k ([] : List Int) 0 (([a4] : List Int))).bind fun bt340 => ((bloom_Has.f k bt340.1 bt340.2 a4).bind fun t344 => (if t344 = true then (trommellaw18_BloomSizes.j0 k a0 a1 t320 bt330.2.2 false) else ((bloom_Words.f ([] : List Int) 0).bind fun t345 => ((bloom_Ones.f k ([] : List Int) 0).bind fun t348 => ((bloom_Bits.f ([] : List Int) 0).bind fun t349 => (trommellaw18_BloomSizes.j0 k a0 a1 t320 bt330.2.2 ((wrap64 ((wrap64 ((t345.length : Int) + t348)) + t349)) == 0))))))))))) = some r := H
  have A13 := Aside0.mk A130
  clear A130
  replace H := Option.bind_eq_some_iff.mp H
  obtain ⟨⟨t330, t333, t334⟩, A140, H⟩ := H
  replace H : ((bloom_Has.f k ([] : List Int) 0 a4).bind fun t336 => (if t336 = true then (trommellaw18_BloomSizes.j0 k a0 a1 t320 t334 false) else ((bloom_Add.f k ([] : List Int) 0 (([a4] : List Int))).bind fun bt340 => ((bloom_Has.f k bt340.1 bt340.2 a4).bind fun t344 => (if t344 = true then (trommellaw18_BloomSizes.j0 k a0 a1 t320 t334 false) else ((bloom_Words.f ([] : List Int) 0).bind fun t345 => ((bloom_Ones.f k ([] : List Int) 0).bind fun t348 => ((bloom_Bits.f ([] : List Int) 0).bind fun t349 => (trommellaw18_BloomSizes.j0 k a0 a1 t320 t334 ((wrap64 ((wrap64 ((t345.length : Int) + t348)) + t349)) == 0)))))))))) = some r := H
  have A14 := Aside0.mk A140
  clear A140
  have HC15 := Aside0.mk H
  clear H
  go_enter Try.func6, Try.ntmps6
  try go_wp2_with (first | ((with_reducible refine gate_dst (N := 11) rfl ?_); (try (refine gate_guard (by rfl) ?_; dsimp only)); refine box_event ?hg (N := 11) ?hd (cs := #[.slice none 0 0, .int .i64 0]) (t := 25) ?hr ?_; (case hd => rfl); (case hg => rfl); (case hr => first | (go_simp; done) | (go_simp; rfl)); intro gb302 hg w16 hbox hb; have n0_ := Lb HB hb; have n1_ := Aside0.mk (hbox); have n2_ := Aside0.mk ((by rw [hg]; exact (Lz HB) : w.heap.size ≤ gb302)); have n3_ := Aside0.mk ((by rw [hg]; exact (Lz HB) : w.heap.size ≤ gb302)); clear HB; have HB := n0_; have BK302 := n1_; have GW302 := n2_; have GE302 := n3_; clear n0_ n1_ n2_ n3_; clear hb hbox hg) | ((with_reducible refine gate_callee (f := 11) rfl ?_); refine goesL_ (some 24) rfl rfl Try.func11 (by kernel_rfl) rfl #[.int .i64 (Int.tmod (wrap64 (a2)) 20), .int .i64 (Int.tmod (wrap64 (a3)) 7)] rfl (by (try simp only [List.map_toArray, List.map_cons, List.map_nil]); first | done | rfl | (simp only [List.length_drop, List.length_take]; rfl)) ?_; (with_reducible refine (bloom_New.calls (Int.tmod (wrap64 (a2)) 20) (Int.tmod (wrap64 (a3)) 7) t303 t306 _ A6.out).mono ?_); rintro e w17 ⟨v304, rfl, ho0, hb⟩; refine ⟨_, rfl, ?_⟩; have n0_ := Aside0.mk (Kd.R_lower ho0 (Lz HB)); have n1_ := Bb BK302 hb; have n2_ := Lb HB hb; clear BK302 HB; have HO305 := n0_; have BK302 := n1_; have HB := n2_; clear n0_ n1_ n2_; (try clear hb); (try clear hb2); (try clear hk); (try clear hi); (try clear ho0)) | ((with_reducible refine gate_dst (N := 12) rfl ?_); (try (refine gate_guard (by rfl) ?_; dsimp only)); refine box_event ?hg (N := 12) ?hd (cs := #[.slice none 0 0, .int .i64 0]) (t := 25) ?hr ?_; (case hd => rfl); (case hg => rfl); (case hr => first | (go_simp; done) | (go_simp; rfl)); intro gb307 hg w18 hbox hb; have n0_ := Rb HO305 hb; have n1_ := Bb BK302 hb; have n2_ := Lb HB hb; have n3_ := Aside0.mk (hbox); have n4_ := Aside0.mk ((by rw [hg]; exact (Lz HB) : w.heap.size ≤ gb307)); have n5_ := Aside0.mk ((by rw [hg]; exact (Lz HB) : w.heap.size ≤ gb307)); have n6_ := Aside0.mk ((by rw [hg]; exact Nat.ne_of_lt (blk_lt (g := gb302) (o := .cells #[.slice none 0 0, .int .i64 0] 25 (0, 0)) (Bs BK302.out)) : gb302 ≠ gb307)); have n7_ := Aside0.mk ((by rw [hg]; exact Nat.ne_of_gt (blk_lt (g := gb302) (o := .cells #[.slice none 0 0, .int .i64 0] 25 (0, 0)) (Bs BK302.out)) : gb307 ≠ gb302)); clear HO305 BK302 HB; have HO305 := n0_; have BK302 := n1_; have HB := n2_; have BK307 := n3_; have GW307 := n4_; have GE307 := n5_; have NB302_307 := n6_; have NB307_302 := n7_; clear n0_ n1_ n2_ n3_ n4_ n5_ n6_ n7_; clear hb hbox hg; obtain ⟨Ao19, co19, eo19⟩ := Kd.R_slice HO305.out; subst eo19; have hnb20 := NB307_302.out; have hnc20 := NB302_307.out; have hcz21_0 : w18.cell? ⟨gb307, 0, none⟩ = some (.slice none 0 0) := (blk_cell BK307.out 0).trans rfl; have hcz21_1 : w18.cell? ⟨gb307, 1, none⟩ = some (.int .i64 0) := (blk_cell BK307.out 1).trans rfl; have hfz21_0 := blk_frozen BK307.out 0; have hfz21_1 := blk_frozen BK307.out 1))
  have n0_ : Aside0 (Kd.R (Kd.int .u64) 33 ((w18.setCell ⟨gb307, 0, none⟩ (.slice Ao19 t303.length co19)).setCell ⟨gb307, 1, none⟩ (.int .i64 t306)) w.heap.size (fun _ => True) (.slice Ao19 t303.length co19) t303) := ⟨by (with_reducible repeat (first | apply Kd.R_alloc | apply Kd.R_drewN | apply Kd.R_drew)); exact Kd.R_mono (Kd.R_far (p := ⟨gb307, 1, none⟩) (Kd.R_far (p := ⟨gb307, 0, none⟩) (Kd.R_types HO305.out BK307.out (by decide)) (fun _ hk => hk.2) (.slice Ao19 t303.length co19)) (fun _ hk => hk.2) (.int .i64 t306)) (fun _ hk => trivial)⟩
  have n1_ : Aside0 (((w18.setCell ⟨gb307, 0, none⟩ (.slice Ao19 t303.length co19)).setCell ⟨gb307, 1, none⟩ (.int .i64 t306)).heap[gb302]? = some (.cells #[.slice none 0 0, .int .i64 0] 25 (0, 0))) := ⟨by (with_reducible repeat (first | refine blk_drewN ?_ _ | refine blk_drew ?_ | refine blk_alloc ?_ _)); refine blk_far ?_ NB302_307.out _; (with_reducible repeat (first | refine blk_drewN ?_ _ | refine blk_drew ?_ | refine blk_alloc ?_ _)); refine blk_far ?_ NB302_307.out _; (with_reducible repeat (first | refine blk_drewN ?_ _ | refine blk_drew ?_ | refine blk_alloc ?_ _)); exact BK302.out⟩
  have n2_ : Aside0 (((w18.setCell ⟨gb307, 0, none⟩ (.slice Ao19 t303.length co19)).setCell ⟨gb307, 1, none⟩ (.int .i64 t306)).heap[gb307]? = some (.cells #[.slice Ao19 t303.length co19, .int .i64 t306] 25 (0, 0))) := ⟨by (with_reducible repeat (first | refine blk_drewN ?_ _ | refine blk_drew ?_ | refine blk_alloc ?_ _)); refine blk_put (cs := #[.slice Ao19 t303.length co19, .int .i64 0]) ?_ 1 _ rfl; (with_reducible repeat (first | refine blk_drewN ?_ _ | refine blk_drew ?_ | refine blk_alloc ?_ _)); refine blk_put (cs := #[.slice none 0 0, .int .i64 0]) ?_ 0 _ rfl; (with_reducible repeat (first | refine blk_drewN ?_ _ | refine blk_drew ?_ | refine blk_alloc ?_ _)); exact BK307.out⟩
  have n3_ : Aside0 (Below w.heap.size w ((w18.setCell ⟨gb307, 0, none⟩ (.slice Ao19 t303.length co19)).setCell ⟨gb307, 1, none⟩ (.int .i64 t306))) := ⟨Ls HB⟩
  try clear HO305; try clear BK302; try clear BK307; try clear HB
  generalize ((w18.setCell ⟨gb307, 0, none⟩ (.slice Ao19 t303.length co19)).setCell ⟨gb307, 1, none⟩ (.int .i64 t306)) = w22 at n0_ n1_ n2_ n3_ ⊢
  have HO305 := n0_; have BK302 := n1_; have BK307 := n2_; have HB := n3_
  clear n0_ n1_ n2_ n3_
  replace HO305 := Aside0.mk (Kd.R_drew HO305.out)
  replace BK302 := Aside0.mk (blk_drew BK302.out)
  replace BK307 := Aside0.mk (blk_drew BK307.out)
  replace HB := Aside0.mk (below_drew1 HB.out)
  refine start_ (n := 15) (S := fun w' => w'.cell? ⟨gb307, 0, none⟩ = some (.slice Ao19 t303.length co19) ∧ w'.cell? ⟨gb307, 1, none⟩ = some (.int .i64 t306)) (ds := []) #[F, F, F, F, F, F, F, F, F, F, F, F, F, F, F] (by kernel_rfl) rfl rfl ⟨(blk_cell BK307.out 0).trans rfl, (blk_cell BK307.out 1).trans rfl⟩ (fun hHeld => ?_); refine with_tabW trommellaw18_BloomSizes.tab3 trommellaw18_BloomSizes.bits3 (fun HT_ HW_ => ?_)
  generalize w22.drew = w23 at HO305 BK302 BK307 HB hHeld ⊢
  refine take_ (i := 0) (N := some 26) (v := ?_) (a' := ?_) #[T, F, F, F, F, F, F, F, F, F, F, F, F, F, F] rfl rfl (take_ofW HT_.out HW_.out (by kernel_rfl)) (fun _ _ _ h => h) (Or.inl ⟨by rfl, ?_⟩) hHeld ?_ ?_; rotate_left; (· rintro w' ⟨s0, s1⟩; go_simp; with_reducible rfl); rotate_left; (· simp only [Act.put, sq]; rfl)
  refine take_ (i := 1) (N := some 27) (v := ?_) (a' := ?_) #[T, T, F, F, F, F, F, F, F, F, F, F, F, F, F] rfl rfl (take_ofW HT_.out HW_.out (by kernel_rfl)) (fun _ _ _ h => h) (Or.inl ⟨by rfl, ?_⟩) hHeld ?_ ?_; rotate_left; (· rintro w' ⟨s0, s1⟩; go_simp; with_reducible rfl); rotate_left; (· simp only [Act.put, sq]; rfl)
  refine take_ (i := 5) (N := some 31) (v := ?_) (a' := ?_) #[T, T, F, F, F, T, F, F, F, F, F, F, F, F, F] rfl rfl (take_ofW HT_.out HW_.out (by kernel_rfl)) (fun _ _ _ h => h) (Or.inl ⟨by rfl, ?_⟩) hHeld ?_ ?_; rotate_left; (· rintro w' ⟨s0, s1⟩; go_simp; with_reducible rfl); rotate_left; (· simp only [Act.put, sq]; rfl)
  refine join_ (σ := Value × Value × Value × Nat) 2 #[T, T, T, T, T, T, T, T, T, T, T, T, T, F, F] (fun s_ => [(28, s_.1), (32, .int .i64 t311), (33, .agg #[s_.2.1, .int .i64 t315]), (34, .tuple #[.agg #[s_.2.2.1, .int .i64 t319], .int .i64 t320]), (13, .pointer (some ⟨s_.2.2.2, 0, none⟩)), (29, .int .i64 (t308.length : Int)), (30, .int .i64 (wrap64 ((t308.length : Int) + 1))), (25, .tuple #[.agg #[s_.2.2.1, .int .i64 t319], .int .i64 t320]), (35, .agg #[s_.2.2.1, .int .i64 t319]), (36, .int .i64 t320)]) (fun s_ w' => (w'.cell? ⟨gb307, 0, none⟩ = some (.slice Ao19 t303.length co19) ∧ w'.cell? ⟨gb307, 1, none⟩ = some (.int .i64 t306)) ∧ (Kd.R (Kd.int .u64) 33 w' w.heap.size (fun k_ => some k_ ≠ (s_.1 : Value).ownBlock ∧ some k_ ≠ (s_.2.1 : Value).ownBlock ∧ some k_ ≠ (s_.2.2.1 : Value).ownBlock) (.slice Ao19 t303.length co19) t303) ∧ (Kd.R (Kd.int .u64) 33 w' w.heap.size (fun k_ => some k_ ≠ (.slice Ao19 t303.length co19 : Value).ownBlock ∧ some k_ ≠ (s_.2.1 : Value).ownBlock ∧ some k_ ≠ (s_.2.2.1 : Value).ownBlock) s_.1 t308) ∧ (Kd.R (Kd.int .u64) 33 w' w.heap.size (fun k_ => some k_ ≠ (.slice Ao19 t303.length co19 : Value).ownBlock ∧ some k_ ≠ (s_.1 : Value).ownBlock ∧ some k_ ≠ (s_.2.2.1 : Value).ownBlock) s_.2.1 t312) ∧ (Kd.R (Kd.int .u64) 33 w' w.heap.size (fun k_ => some k_ ≠ (.slice Ao19 t303.length co19 : Value).ownBlock ∧ some k_ ≠ (s_.1 : Value).ownBlock ∧ some k_ ≠ (s_.2.1 : Value).ownBlock) s_.2.2.1 t316) ∧ (w'.heap[gb302]? = some (.cells #[.slice none 0 0, .int .i64 0] 25 (0, 0))) ∧ (w'.heap[gb307]? = some (.cells #[.slice Ao19 t303.length co19, .int .i64 t306] 25 (0, 0))) ∧ (w'.heap[s_.2.2.2]? = some (.cells #[.slice none 0 0, .int .i64 0] 25 (0, 0))) ∧ (w.heap.size ≤ s_.2.2.2) ∧ (w.heap.size ≤ s_.2.2.2) ∧ (gb302 ≠ s_.2.2.2) ∧ (s_.2.2.2 ≠ gb302) ∧ (gb307 ≠ s_.2.2.2) ∧ (s_.2.2.2 ≠ gb307) ∧ (Below w.heap.size w w')) ?_ ?_
  rotate_left
  · intro hJ2_6_7_8_12
    refine join_ (σ := Value × Value × Value) 3 #[T, T, T, T, T, T, T, T, T, T, T, T, F, F, F] (fun s_ => [(28, s_.1), (32, .int .i64 t311), (33, .agg #[s_.2.1, .int .i64 t315]), (34, .tuple #[.agg #[s_.2.2, .int .i64 t319], .int .i64 t320]), (29, .int .i64 (t308.length : Int)), (30, .int .i64 (wrap64 ((t308.length : Int) + 1))), (25, .tuple #[.agg #[s_.2.2, .int .i64 t319], .int .i64 t320]), (35, .agg #[s_.2.2, .int .i64 t319]), (36, .int .i64 t320)]) (fun s_ w' => (w'.cell? ⟨gb307, 0, none⟩ = some (.slice Ao19 t303.length co19) ∧ w'.cell? ⟨gb307, 1, none⟩ = some (.int .i64 t306)) ∧ (Kd.R (Kd.int .u64) 33 w' w.heap.size (fun k_ => some k_ ≠ (s_.1 : Value).ownBlock ∧ some k_ ≠ (s_.2.1 : Value).ownBlock ∧ some k_ ≠ (s_.2.2 : Value).ownBlock) (.slice Ao19 t303.length co19) t303) ∧ (Kd.R (Kd.int .u64) 33 w' w.heap.size (fun k_ => some k_ ≠ (.slice Ao19 t303.length co19 : Value).ownBlock ∧ some k_ ≠ (s_.2.1 : Value).ownBlock ∧ some k_ ≠ (s_.2.2 : Value).ownBlock) s_.1 t308) ∧ (Kd.R (Kd.int .u64) 33 w' w.heap.size (fun k_ => some k_ ≠ (.slice Ao19 t303.length co19 : Value).ownBlock ∧ some k_ ≠ (s_.1 : Value).ownBlock ∧ some k_ ≠ (s_.2.2 : Value).ownBlock) s_.2.1 t312) ∧ (Kd.R (Kd.int .u64) 33 w' w.heap.size (fun k_ => some k_ ≠ (.slice Ao19 t303.length co19 : Value).ownBlock ∧ some k_ ≠ (s_.1 : Value).ownBlock ∧ some k_ ≠ (s_.2.1 : Value).ownBlock) s_.2.2 t316) ∧ (w'.heap[gb302]? = some (.cells #[.slice none 0 0, .int .i64 0] 25 (0, 0))) ∧ (w'.heap[gb307]? = some (.cells #[.slice Ao19 t303.length co19, .int .i64 t306] 25 (0, 0))) ∧ (Below w.heap.size w w')) ?_ ?_
    rotate_left
    · intro hJ2_6_7_8
      refine join_ (σ := Value × Value × Nat) 6 #[T, T, T, T, T, T, T, T, F, F, F, F, T, F, F] (fun s_ => [(28, s_.1), (32, .int .i64 t311), (33, .agg #[s_.2.1, .int .i64 t315]), (13, .pointer (some ⟨s_.2.2, 0, none⟩)), (29, .int .i64 (t308.length : Int)), (30, .int .i64 (wrap64 ((t308.length : Int) + 1)))]) (fun s_ w' => (w'.cell? ⟨gb307, 0, none⟩ = some (.slice Ao19 t303.length co19) ∧ w'.cell? ⟨gb307, 1, none⟩ = some (.int .i64 t306)) ∧ (Kd.R (Kd.int .u64) 33 w' w.heap.size (fun k_ => some k_ ≠ (s_.1 : Value).ownBlock ∧ some k_ ≠ (s_.2.1 : Value).ownBlock) (.slice Ao19 t303.length co19) t303) ∧ (Kd.R (Kd.int .u64) 33 w' w.heap.size (fun k_ => some k_ ≠ (.slice Ao19 t303.length co19 : Value).ownBlock ∧ some k_ ≠ (s_.2.1 : Value).ownBlock) s_.1 t308) ∧ (Kd.R (Kd.int .u64) 33 w' w.heap.size (fun k_ => some k_ ≠ (.slice Ao19 t303.length co19 : Value).ownBlock ∧ some k_ ≠ (s_.1 : Value).ownBlock) s_.2.1 t312) ∧ (w'.heap[gb302]? = some (.cells #[.slice none 0 0, .int .i64 0] 25 (0, 0))) ∧ (w'.heap[gb307]? = some (.cells #[.slice Ao19 t303.length co19, .int .i64 t306] 25 (0, 0))) ∧ (w'.heap[s_.2.2]? = some (.cells #[.slice none 0 0, .int .i64 0] 25 (0, 0))) ∧ (w.heap.size ≤ s_.2.2) ∧ (w.heap.size ≤ s_.2.2) ∧ (gb302 ≠ s_.2.2) ∧ (s_.2.2 ≠ gb302) ∧ (gb307 ≠ s_.2.2) ∧ (s_.2.2 ≠ gb307) ∧ (Below w.heap.size w w')) ?_ ?_
      rotate_left
      · intro hJ2_6_7_12
        refine join_ (σ := Value × Value) 7 #[T, T, T, T, T, T, T, T, F, F, F, F, F, F, F] (fun s_ => [(28, s_.1), (32, .int .i64 t311), (33, .agg #[s_.2, .int .i64 t315]), (29, .int .i64 (t308.length : Int)), (30, .int .i64 (wrap64 ((t308.length : Int) + 1)))]) (fun s_ w' => (w'.cell? ⟨gb307, 0, none⟩ = some (.slice Ao19 t303.length co19) ∧ w'.cell? ⟨gb307, 1, none⟩ = some (.int .i64 t306)) ∧ (Kd.R (Kd.int .u64) 33 w' w.heap.size (fun k_ => some k_ ≠ (s_.1 : Value).ownBlock ∧ some k_ ≠ (s_.2 : Value).ownBlock) (.slice Ao19 t303.length co19) t303) ∧ (Kd.R (Kd.int .u64) 33 w' w.heap.size (fun k_ => some k_ ≠ (.slice Ao19 t303.length co19 : Value).ownBlock ∧ some k_ ≠ (s_.2 : Value).ownBlock) s_.1 t308) ∧ (Kd.R (Kd.int .u64) 33 w' w.heap.size (fun k_ => some k_ ≠ (.slice Ao19 t303.length co19 : Value).ownBlock ∧ some k_ ≠ (s_.1 : Value).ownBlock) s_.2 t312) ∧ (w'.heap[gb302]? = some (.cells #[.slice none 0 0, .int .i64 0] 25 (0, 0))) ∧ (w'.heap[gb307]? = some (.cells #[.slice Ao19 t303.length co19, .int .i64 t306] 25 (0, 0))) ∧ (Below w.heap.size w w')) ?_ ?_
        rotate_left
        · intro hJ2_6_7
          refine join_ (σ := Value × Nat) 7 #[T, T, T, T, T, T, T, F, F, F, F, F, T, F, F] (fun s_ => [(28, s_.1), (32, .int .i64 t311), (13, .pointer (some ⟨s_.2, 0, none⟩)), (29, .int .i64 (t308.length : Int)), (30, .int .i64 (wrap64 ((t308.length : Int) + 1)))]) (fun s_ w' => (w'.cell? ⟨gb307, 0, none⟩ = some (.slice Ao19 t303.length co19) ∧ w'.cell? ⟨gb307, 1, none⟩ = some (.int .i64 t306)) ∧ (Kd.R (Kd.int .u64) 33 w' w.heap.size (fun k_ => some k_ ≠ (s_.1 : Value).ownBlock) (.slice Ao19 t303.length co19) t303) ∧ (Kd.R (Kd.int .u64) 33 w' w.heap.size (fun k_ => some k_ ≠ (.slice Ao19 t303.length co19 : Value).ownBlock) s_.1 t308) ∧ (w'.heap[gb302]? = some (.cells #[.slice none 0 0, .int .i64 0] 25 (0, 0))) ∧ (w'.heap[gb307]? = some (.cells #[.slice Ao19 t303.length co19, .int .i64 t306] 25 (0, 0))) ∧ (w'.heap[s_.2]? = some (.cells #[.slice none 0 0, .int .i64 0] 25 (0, 0))) ∧ (w.heap.size ≤ s_.2) ∧ (w.heap.size ≤ s_.2) ∧ (gb302 ≠ s_.2) ∧ (s_.2 ≠ gb302) ∧ (gb307 ≠ s_.2) ∧ (s_.2 ≠ gb307) ∧ (Below w.heap.size w w')) ?_ ?_
          rotate_left
          · intro hJ2_6_12
            refine join_ (σ := Value) 8 #[T, T, T, T, T, T, T, F, F, F, F, F, F, F, F] (fun s_ => [(28, s_), (32, .int .i64 t311), (29, .int .i64 (t308.length : Int)), (30, .int .i64 (wrap64 ((t308.length : Int) + 1)))]) (fun s_ w' => (w'.cell? ⟨gb307, 0, none⟩ = some (.slice Ao19 t303.length co19) ∧ w'.cell? ⟨gb307, 1, none⟩ = some (.int .i64 t306)) ∧ (Kd.R (Kd.int .u64) 33 w' w.heap.size (fun k_ => some k_ ≠ (s_ : Value).ownBlock) (.slice Ao19 t303.length co19) t303) ∧ (Kd.R (Kd.int .u64) 33 w' w.heap.size (fun k_ => some k_ ≠ (.slice Ao19 t303.length co19 : Value).ownBlock) s_ t308) ∧ (w'.heap[gb302]? = some (.cells #[.slice none 0 0, .int .i64 0] 25 (0, 0))) ∧ (w'.heap[gb307]? = some (.cells #[.slice Ao19 t303.length co19, .int .i64 t306] 25 (0, 0))) ∧ (Below w.heap.size w w')) ?_ ?_
            rotate_left
            · intro hJ2_6
              refine join_ (σ := Value × Nat) 8 #[T, T, T, T, T, T, F, F, F, F, F, F, T, F, F] (fun s_ => [(28, s_.1), (13, .pointer (some ⟨s_.2, 0, none⟩)), (29, .int .i64 (t308.length : Int)), (30, .int .i64 (wrap64 ((t308.length : Int) + 1)))]) (fun s_ w' => (w'.cell? ⟨gb307, 0, none⟩ = some (.slice Ao19 t303.length co19) ∧ w'.cell? ⟨gb307, 1, none⟩ = some (.int .i64 t306)) ∧ (Kd.R (Kd.int .u64) 33 w' w.heap.size (fun k_ => some k_ ≠ (s_.1 : Value).ownBlock) (.slice Ao19 t303.length co19) t303) ∧ (Kd.R (Kd.int .u64) 33 w' w.heap.size (fun k_ => some k_ ≠ (.slice Ao19 t303.length co19 : Value).ownBlock) s_.1 t308) ∧ (w'.heap[gb302]? = some (.cells #[.slice none 0 0, .int .i64 0] 25 (0, 0))) ∧ (w'.heap[gb307]? = some (.cells #[.slice Ao19 t303.length co19, .int .i64 t306] 25 (0, 0))) ∧ (w'.heap[s_.2]? = some (.cells #[.slice none 0 0, .int .i64 0] 25 (0, 0))) ∧ (w.heap.size ≤ s_.2) ∧ (w.heap.size ≤ s_.2) ∧ (gb302 ≠ s_.2) ∧ (s_.2 ≠ gb302) ∧ (gb307 ≠ s_.2) ∧ (s_.2 ≠ gb307) ∧ (Below w.heap.size w w')) ?_ ?_
              rotate_left
              · intro hJ2_12
                refine join_ (σ := Value) 9 #[T, T, T, T, T, T, F, F, F, F, F, F, F, F, F] (fun s_ => [(28, s_), (29, .int .i64 (t308.length : Int)), (30, .int .i64 (wrap64 ((t308.length : Int) + 1)))]) (fun s_ w' => (w'.cell? ⟨gb307, 0, none⟩ = some (.slice Ao19 t303.length co19) ∧ w'.cell? ⟨gb307, 1, none⟩ = some (.int .i64 t306)) ∧ (Kd.R (Kd.int .u64) 33 w' w.heap.size (fun k_ => some k_ ≠ (s_ : Value).ownBlock) (.slice Ao19 t303.length co19) t303) ∧ (Kd.R (Kd.int .u64) 33 w' w.heap.size (fun k_ => some k_ ≠ (.slice Ao19 t303.length co19 : Value).ownBlock) s_ t308) ∧ (w'.heap[gb302]? = some (.cells #[.slice none 0 0, .int .i64 0] 25 (0, 0))) ∧ (w'.heap[gb307]? = some (.cells #[.slice Ao19 t303.length co19, .int .i64 t306] 25 (0, 0))) ∧ (Below w.heap.size w w')) ?_ ?_
                rotate_left
                · intro hJ2
                  refine join_ (σ := Nat) 11 #[T, T, F, F, F, T, F, F, F, F, F, F, T, F, F] (fun s_ => [(13, .pointer (some ⟨s_, 0, none⟩))]) (fun s_ w' => (w'.cell? ⟨gb307, 0, none⟩ = some (.slice Ao19 t303.length co19) ∧ w'.cell? ⟨gb307, 1, none⟩ = some (.int .i64 t306)) ∧ (Kd.R (Kd.int .u64) 33 w' w.heap.size (fun _ => True) (.slice Ao19 t303.length co19) t303) ∧ (w'.heap[gb302]? = some (.cells #[.slice none 0 0, .int .i64 0] 25 (0, 0))) ∧ (w'.heap[gb307]? = some (.cells #[.slice Ao19 t303.length co19, .int .i64 t306] 25 (0, 0))) ∧ (w'.heap[s_]? = some (.cells #[.slice none 0 0, .int .i64 0] 25 (0, 0))) ∧ (w.heap.size ≤ s_) ∧ (w.heap.size ≤ s_) ∧ (gb302 ≠ s_) ∧ (s_ ≠ gb302) ∧ (gb307 ≠ s_) ∧ (s_ ≠ gb307) ∧ (Below w.heap.size w w')) ?_ ?_
                  rotate_left
                  · intro hJ12
                    refine two_ (i := 2) (j := 12) (Ni := some 28) (Nj := some 13) #[T, T, T, F, F, T, F, F, F, F, F, F, F, F, F] #[T, T, F, F, F, T, F, F, F, F, F, F, T, F, F] rfl rfl rfl rfl (two_of HT_.out (by kernel_rfl)) (by decide) (by decide) (fun K hK => ?_) (fun K hK => ?_)
                    · skip
                      refine goes_ Try.func15 (by kernel_rfl) rfl #[.agg #[.slice Ao19 t303.length co19, .int .i64 t306]] (by rfl) rfl rfl (by (try simp only [List.map_toArray, List.map_cons, List.map_nil]); first | done | rfl | (simp only [List.length_drop, List.length_take]; rfl)) ?_
                      with_reducible refine (bloom_Words.calls _ _ t303 t306 t308 _ ?side1 ?side2 A7.out).mono ?_
                      (case side1 => exact Cs (Kd.R_reads' HO305.out).2.2)
                      (case side2 => exact (Kd.R_reads' HO305.out).2.1)
                      rintro e w24 ⟨v309, rfl, ho0, hb⟩
                      refine ⟨_, rfl, ?_⟩
                      have HO310 := Aside0.mk (Kd.R_lower (Kd.R_new' ho0 (Kd.R_lt (Rs HO305.out))) (Lz HB))
                      replace HO305 := Aside0.mk (Kd.R_elder' (Rs HO305.out) (Kd.R_base ho0) hb)
                      replace BK302 := Bb BK302 hb
                      replace BK307 := Bb BK307 hb
                      replace HB := Lb HB hb
                      try clear hb; try clear hb2; try clear hk; try clear hi; try clear ho0
                      obtain ⟨Ao25, co25, eo25⟩ := Kd.R_slice HO310.out
                      (first | subst eo25 | (injection eo25 with f1_ f2_ f3_; have f4_ := f1_.symm; have f5_ := f3_.symm; clear f1_ f2_ f3_; subst f4_; subst f5_))
                      refine hK.out _ _ ⟨(blk_cell BK307.out 0).trans rfl, (blk_cell BK307.out 1).trans rfl⟩ (fun hHeld => ?_)
                      clear hK K
                      refine norm_ (a' := ?_) ?_ ?_; rotate_left; (· show Act.put _ (some 28) _ = _; simp only [Act.put, sq]; rfl)
                      refine pure_ (i := 3) (N := some 29) (v := ?_) (a' := ?_) #[T, T, T, T, F, T, F, F, F, F, F, F, F, F, F] rfl rfl (any_of HT_.out (by kernel_rfl)) (fun _ _ _ h => h) (Or.inl ⟨by rfl, ?_⟩) ?_ ?_; rotate_left; (· intro w'; go_simp; with_reducible rfl); rotate_left; (· simp only [Act.put, sq]; rfl)
                      refine pure_ (i := 4) (N := some 30) (v := ?_) (a' := ?_) #[T, T, T, T, T, T, F, F, F, F, F, F, F, F, F] rfl rfl (any_of HT_.out (by kernel_rfl)) (fun _ _ _ h => h) (Or.inl ⟨by rfl, ?_⟩) ?_ ?_; rotate_left; (· intro w'; go_simp; with_reducible rfl); rotate_left; (· simp only [Act.put, sq]; rfl)
                      exact norm_ (by first | (simp only [putAll, Act.put, sq0]; done) | (simp only [putAll, Act.put, sq0]; rfl)) (hJ2 (.slice Ao25 t308.length co25) _ ⟨hHeld, (Rs (Kd.R_mono HO305.out (fun _ hk => hk.2))), (Rs (Kd.R_mono HO310.out (fun _ hk => hk.2))), (Bs BK302.out), (Bs BK307.out), (Ls HB)⟩)
                    · skip
                      refine box_step ?hg (N := 13) ?hd (cs := #[.slice none 0 0, .int .i64 0]) (t := 25) ?hr ?_; (case hd => rfl); (case hg => rfl); (case hr => first | (go_simp; done) | (go_simp; rfl))
                      intro gb321 hg w24 hbox hb
                      replace HO305 := Rb HO305 hb
                      have BK321 := Aside0.mk (hbox)
                      have GW321 := Aside0.mk ((by rw [hg]; exact (Lz HB) : w.heap.size ≤ gb321))
                      have GE321 := Aside0.mk ((by rw [hg]; exact (Lz HB) : w.heap.size ≤ gb321))
                      replace HB := Lb HB hb
                      have NB302_321 := Aside0.mk ((by rw [hg]; exact Nat.ne_of_lt (blk_lt (g := gb302) (o := .cells #[.slice none 0 0, .int .i64 0] 25 (0, 0)) (Bs BK302.out)) : gb302 ≠ gb321))
                      have NB321_302 := Aside0.mk ((by rw [hg]; exact Nat.ne_of_gt (blk_lt (g := gb302) (o := .cells #[.slice none 0 0, .int .i64 0] 25 (0, 0)) (Bs BK302.out)) : gb321 ≠ gb302))
                      replace BK302 := Bb BK302 hb
                      have NB307_321 := Aside0.mk ((by rw [hg]; exact Nat.ne_of_lt (blk_lt (g := gb307) (o := .cells #[.slice Ao19 t303.length co19, .int .i64 t306] 25 (0, 0)) (Bs BK307.out)) : gb307 ≠ gb321))
                      have NB321_307 := Aside0.mk ((by rw [hg]; exact Nat.ne_of_gt (blk_lt (g := gb307) (o := .cells #[.slice Ao19 t303.length co19, .int .i64 t306] 25 (0, 0)) (Bs BK307.out)) : gb321 ≠ gb307))
                      replace BK307 := Bb BK307 hb
                      clear hb hbox hg
                      refine hK.out _ _ ⟨(blk_cell BK307.out 0).trans rfl, (blk_cell BK307.out 1).trans rfl⟩ (fun hHeld => ?_)
                      clear hK K
                      refine norm_ (a' := ?_) ?_ ?_; rotate_left; (· show Act.put _ (some 13) _ = _; simp only [Act.put, sq]; rfl)
                      exact norm_ (by first | (simp only [putAll, Act.put, sq0]; done) | (simp only [putAll, Act.put, sq0]; rfl)) (hJ12 (gb321) _ ⟨hHeld, (Rs HO305.out), (Bs BK302.out), (Bs BK307.out), (Bs BK321.out), GW321.out, GE321.out, NB302_321.out, NB321_302.out, NB307_321.out, NB321_307.out, (Ls HB)⟩)
                  · skip
                    rintro gb321 w25 ⟨hS_, h0_, h1_, h2_, h3_, h4_, h5_, h6_, h7_, h8_, h9_, h10_⟩
                    try dsimp only at h0_ h1_ h2_ h3_ h4_ h5_ h6_ h7_ h8_ h9_ h10_
                    clear HO305 BK302 BK307 HB
                    have HO305 := Aside0.mk h0_; have BK302 := Aside0.mk h1_; have BK307 := Aside0.mk h2_; have BK321 := Aside0.mk h3_; have GW321 := Aside0.mk h4_; have GE321 := Aside0.mk h5_; have NB302_321 := Aside0.mk h6_; have NB321_302 := Aside0.mk h7_; have NB307_321 := Aside0.mk h8_; have NB321_307 := Aside0.mk h9_; have HB := Aside0.mk h10_
                    clear h0_ h1_ h2_ h3_ h4_ h5_ h6_ h7_ h8_ h9_ h10_
                    have hHeld : w25.cell? ⟨gb307, 0, none⟩ = some (.slice Ao19 t303.length co19) ∧ w25.cell? ⟨gb307, 1, none⟩ = some (.int .i64 t306) := hS_
                    refine norm_ (a' := ?_) ?_ ?_; rotate_left; (· simp only [putAll, Act.put, sq0]; rfl)
                    refine one_ (i := 2) (N := some 28) #[T, T, T, F, F, T, F, F, F, F, F, F, T, F, F] rfl rfl (one_of HT_.out (by kernel_rfl)) (by decide) (fun K hK => ?_)
                    refine goes_ Try.func15 (by kernel_rfl) rfl #[.agg #[.slice Ao19 t303.length co19, .int .i64 t306]] (by rfl) rfl rfl (by (try simp only [List.map_toArray, List.map_cons, List.map_nil]); first | done | rfl | (simp only [List.length_drop, List.length_take]; rfl)) ?_
                    with_reducible refine (bloom_Words.calls _ _ t303 t306 t308 _ ?side1 ?side2 A7.out).mono ?_
                    (case side1 => exact Cs (Kd.R_reads' HO305.out).2.2)
                    (case side2 => exact (Kd.R_reads' HO305.out).2.1)
                    rintro e w26 ⟨v309, rfl, ho0, hb⟩
                    refine ⟨_, rfl, ?_⟩
                    have HO310 := Aside0.mk (Kd.R_lower (Kd.R_new' ho0 (Kd.R_lt (Rs HO305.out))) (Lz HB))
                    replace HO305 := Aside0.mk (Kd.R_elder' (Rs HO305.out) (Kd.R_base ho0) hb)
                    replace BK302 := Bb BK302 hb
                    replace BK307 := Bb BK307 hb
                    replace BK321 := Bb BK321 hb
                    replace HB := Lb HB hb
                    try clear hb; try clear hb2; try clear hk; try clear hi; try clear ho0
                    obtain ⟨Ao27, co27, eo27⟩ := Kd.R_slice HO310.out
                    (first | subst eo27 | (injection eo27 with f1_ f2_ f3_; have f4_ := f1_.symm; have f5_ := f3_.symm; clear f1_ f2_ f3_; subst f4_; subst f5_))
                    refine hK.out _ _ ⟨(blk_cell BK307.out 0).trans rfl, (blk_cell BK307.out 1).trans rfl⟩ (fun hHeld => ?_)
                    clear hK K
                    refine norm_ (a' := ?_) ?_ ?_; rotate_left; (· show Act.put _ (some 28) _ = _; simp only [Act.put, sq]; rfl)
                    refine pure_ (i := 3) (N := some 29) (v := ?_) (a' := ?_) #[T, T, T, T, F, T, F, F, F, F, F, F, T, F, F] rfl rfl (any_of HT_.out (by kernel_rfl)) (fun _ _ _ h => h) (Or.inl ⟨by rfl, ?_⟩) ?_ ?_; rotate_left; (· intro w'; go_simp; with_reducible rfl); rotate_left; (· simp only [Act.put, sq]; rfl)
                    refine pure_ (i := 4) (N := some 30) (v := ?_) (a' := ?_) #[T, T, T, T, T, T, F, F, F, F, F, F, T, F, F] rfl rfl (any_of HT_.out (by kernel_rfl)) (fun _ _ _ h => h) (Or.inl ⟨by rfl, ?_⟩) ?_ ?_; rotate_left; (· intro w'; go_simp; with_reducible rfl); rotate_left; (· simp only [Act.put, sq]; rfl)
                    exact norm_ (by first | (simp only [putAll, Act.put, sq0]; done) | (simp only [putAll, Act.put, sq0]; rfl)) (hJ2_12 (.slice Ao27 t308.length co27, gb321) _ ⟨hHeld, (Rs (Kd.R_mono HO305.out (fun _ hk => hk.2))), (Rs (Kd.R_mono HO310.out (fun _ hk => hk.2))), (Bs BK302.out), (Bs BK307.out), (Bs BK321.out), GW321.out, GE321.out, NB302_321.out, NB321_302.out, NB307_321.out, NB321_307.out, (Ls HB)⟩)
                · skip
                  rintro v309 w26 ⟨hS_, h0_, h1_, h2_, h3_, h4_⟩
                  try dsimp only at h0_ h1_ h2_ h3_ h4_
                  clear HO305 BK302 BK307 HB
                  have HO305 := Aside0.mk h0_; have HO310 := Aside0.mk h1_; have BK302 := Aside0.mk h2_; have BK307 := Aside0.mk h3_; have HB := Aside0.mk h4_
                  clear h0_ h1_ h2_ h3_ h4_
                  have hHeld : w26.cell? ⟨gb307, 0, none⟩ = some (.slice Ao19 t303.length co19) ∧ w26.cell? ⟨gb307, 1, none⟩ = some (.int .i64 t306) := hS_
                  obtain ⟨Ao27, co27, eo27⟩ := Kd.R_slice HO310.out
                  (first | subst eo27 | (injection eo27 with f1_ f2_ f3_; have f4_ := f1_.symm; have f5_ := f3_.symm; clear f1_ f2_ f3_; subst f4_; subst f5_))
                  refine norm_ (a' := ?_) ?_ ?_; rotate_left; (· simp only [putAll, Act.put, sq0]; rfl)
                  refine two_ (i := 6) (j := 12) (Ni := some 32) (Nj := some 13) #[T, T, T, T, T, T, T, F, F, F, F, F, F, F, F] #[T, T, T, T, T, T, F, F, F, F, F, F, T, F, F] rfl rfl rfl rfl (two_of HT_.out (by kernel_rfl)) (by decide) (by decide) (fun K hK => ?_) (fun K hK => ?_)
                  · skip
                    refine goes_ Try.func28 (by kernel_rfl) rfl #[.agg #[.slice Ao19 t303.length co19, .int .i64 t306]] (by rfl) rfl rfl (by (try simp only [List.map_toArray, List.map_cons, List.map_nil]); first | done | rfl | (simp only [List.length_drop, List.length_take]; rfl)) ?_
                    with_reducible refine (bloom_Bits.calls _ _ t303 t306 t311 _ ?side1 ?side2 A8.out).mono ?_
                    (case side1 => exact Cs (Kd.R_reads' HO305.out).2.2)
                    (case side2 => exact (Kd.R_reads' HO305.out).2.1)
                    rintro e w28 ⟨rfl, hb⟩
                    refine ⟨_, rfl, ?_⟩
                    replace HO305 := Rb HO305 hb
                    replace HO310 := Rb HO310 hb
                    replace BK302 := Bb BK302 hb
                    replace BK307 := Bb BK307 hb
                    replace HB := Lb HB hb
                    try clear hb; try clear hb2; try clear hk; try clear hi
                    refine hK.out _ _ ⟨(blk_cell BK307.out 0).trans rfl, (blk_cell BK307.out 1).trans rfl⟩ (fun hHeld => ?_)
                    clear hK K
                    refine norm_ (a' := ?_) ?_ ?_; rotate_left; (· show Act.put _ (some 32) _ = _; simp only [Act.put, sq]; rfl)
                    exact norm_ (by first | (simp only [putAll, Act.put, sq0]; done) | (simp only [putAll, Act.put, sq0]; rfl)) (hJ2_6 (.slice Ao27 t308.length co27) _ ⟨hHeld, (Rs HO305.out), (Rs HO310.out), (Bs BK302.out), (Bs BK307.out), (Ls HB)⟩)
                  · skip
                    refine box_step ?hg (N := 13) ?hd (cs := #[.slice none 0 0, .int .i64 0]) (t := 25) ?hr ?_; (case hd => rfl); (case hg => rfl); (case hr => first | (go_simp; done) | (go_simp; rfl))
                    intro gb321 hg w28 hbox hb
                    replace HO305 := Rb HO305 hb
                    replace HO310 := Rb HO310 hb
                    have BK321 := Aside0.mk (hbox)
                    have GW321 := Aside0.mk ((by rw [hg]; exact (Lz HB) : w.heap.size ≤ gb321))
                    have GE321 := Aside0.mk ((by rw [hg]; exact (Lz HB) : w.heap.size ≤ gb321))
                    replace HB := Lb HB hb
                    have NB302_321 := Aside0.mk ((by rw [hg]; exact Nat.ne_of_lt (blk_lt (g := gb302) (o := .cells #[.slice none 0 0, .int .i64 0] 25 (0, 0)) (Bs BK302.out)) : gb302 ≠ gb321))
                    have NB321_302 := Aside0.mk ((by rw [hg]; exact Nat.ne_of_gt (blk_lt (g := gb302) (o := .cells #[.slice none 0 0, .int .i64 0] 25 (0, 0)) (Bs BK302.out)) : gb321 ≠ gb302))
                    replace BK302 := Bb BK302 hb
                    have NB307_321 := Aside0.mk ((by rw [hg]; exact Nat.ne_of_lt (blk_lt (g := gb307) (o := .cells #[.slice Ao19 t303.length co19, .int .i64 t306] 25 (0, 0)) (Bs BK307.out)) : gb307 ≠ gb321))
                    have NB321_307 := Aside0.mk ((by rw [hg]; exact Nat.ne_of_gt (blk_lt (g := gb307) (o := .cells #[.slice Ao19 t303.length co19, .int .i64 t306] 25 (0, 0)) (Bs BK307.out)) : gb321 ≠ gb307))
                    replace BK307 := Bb BK307 hb
                    clear hb hbox hg
                    refine hK.out _ _ ⟨(blk_cell BK307.out 0).trans rfl, (blk_cell BK307.out 1).trans rfl⟩ (fun hHeld => ?_)
                    clear hK K
                    refine norm_ (a' := ?_) ?_ ?_; rotate_left; (· show Act.put _ (some 13) _ = _; simp only [Act.put, sq]; rfl)
                    exact norm_ (by first | (simp only [putAll, Act.put, sq0]; done) | (simp only [putAll, Act.put, sq0]; rfl)) (hJ2_12 (.slice Ao27 t308.length co27, gb321) _ ⟨hHeld, (Rs HO305.out), (Rs HO310.out), (Bs BK302.out), (Bs BK307.out), (Bs BK321.out), GW321.out, GE321.out, NB302_321.out, NB321_302.out, NB307_321.out, NB321_307.out, (Ls HB)⟩)
              · skip
                rintro ⟨v309, gb321⟩ w27 ⟨hS_, h0_, h1_, h2_, h3_, h4_, h5_, h6_, h7_, h8_, h9_, h10_, h11_⟩
                try dsimp only at h0_ h1_ h2_ h3_ h4_ h5_ h6_ h7_ h8_ h9_ h10_ h11_
                clear HO305 BK302 BK307 HB
                have HO305 := Aside0.mk h0_; have HO310 := Aside0.mk h1_; have BK302 := Aside0.mk h2_; have BK307 := Aside0.mk h3_; have BK321 := Aside0.mk h4_; have GW321 := Aside0.mk h5_; have GE321 := Aside0.mk h6_; have NB302_321 := Aside0.mk h7_; have NB321_302 := Aside0.mk h8_; have NB307_321 := Aside0.mk h9_; have NB321_307 := Aside0.mk h10_; have HB := Aside0.mk h11_
                clear h0_ h1_ h2_ h3_ h4_ h5_ h6_ h7_ h8_ h9_ h10_ h11_
                have hHeld : w27.cell? ⟨gb307, 0, none⟩ = some (.slice Ao19 t303.length co19) ∧ w27.cell? ⟨gb307, 1, none⟩ = some (.int .i64 t306) := hS_
                obtain ⟨Ao28, co28, eo28⟩ := Kd.R_slice HO310.out
                (first | subst eo28 | (injection eo28 with f1_ f2_ f3_; have f4_ := f1_.symm; have f5_ := f3_.symm; clear f1_ f2_ f3_; subst f4_; subst f5_))
                refine norm_ (a' := ?_) ?_ ?_; rotate_left; (· simp only [putAll, Act.put, sq0]; rfl)
                refine one_ (i := 6) (N := some 32) #[T, T, T, T, T, T, T, F, F, F, F, F, T, F, F] rfl rfl (one_of HT_.out (by kernel_rfl)) (by decide) (fun K hK => ?_)
                refine goes_ Try.func28 (by kernel_rfl) rfl #[.agg #[.slice Ao19 t303.length co19, .int .i64 t306]] (by rfl) rfl rfl (by (try simp only [List.map_toArray, List.map_cons, List.map_nil]); first | done | rfl | (simp only [List.length_drop, List.length_take]; rfl)) ?_
                with_reducible refine (bloom_Bits.calls _ _ t303 t306 t311 _ ?side1 ?side2 A8.out).mono ?_
                (case side1 => exact Cs (Kd.R_reads' HO305.out).2.2)
                (case side2 => exact (Kd.R_reads' HO305.out).2.1)
                rintro e w29 ⟨rfl, hb⟩
                refine ⟨_, rfl, ?_⟩
                replace HO305 := Rb HO305 hb
                replace HO310 := Rb HO310 hb
                replace BK302 := Bb BK302 hb
                replace BK307 := Bb BK307 hb
                replace BK321 := Bb BK321 hb
                replace HB := Lb HB hb
                try clear hb; try clear hb2; try clear hk; try clear hi
                refine hK.out _ _ ⟨(blk_cell BK307.out 0).trans rfl, (blk_cell BK307.out 1).trans rfl⟩ (fun hHeld => ?_)
                clear hK K
                refine norm_ (a' := ?_) ?_ ?_; rotate_left; (· show Act.put _ (some 32) _ = _; simp only [Act.put, sq]; rfl)
                exact norm_ (by first | (simp only [putAll, Act.put, sq0]; done) | (simp only [putAll, Act.put, sq0]; rfl)) (hJ2_6_12 (.slice Ao28 t308.length co28, gb321) _ ⟨hHeld, (Rs HO305.out), (Rs HO310.out), (Bs BK302.out), (Bs BK307.out), (Bs BK321.out), GW321.out, GE321.out, NB302_321.out, NB321_302.out, NB307_321.out, NB321_307.out, (Ls HB)⟩)
            · skip
              rintro v309 w27 ⟨hS_, h0_, h1_, h2_, h3_, h4_⟩
              try dsimp only at h0_ h1_ h2_ h3_ h4_
              clear HO305 BK302 BK307 HB
              have HO305 := Aside0.mk h0_; have HO310 := Aside0.mk h1_; have BK302 := Aside0.mk h2_; have BK307 := Aside0.mk h3_; have HB := Aside0.mk h4_
              clear h0_ h1_ h2_ h3_ h4_
              have hHeld : w27.cell? ⟨gb307, 0, none⟩ = some (.slice Ao19 t303.length co19) ∧ w27.cell? ⟨gb307, 1, none⟩ = some (.int .i64 t306) := hS_
              obtain ⟨Ao28, co28, eo28⟩ := Kd.R_slice HO310.out
              (first | subst eo28 | (injection eo28 with f1_ f2_ f3_; have f4_ := f1_.symm; have f5_ := f3_.symm; clear f1_ f2_ f3_; subst f4_; subst f5_))
              refine norm_ (a' := ?_) ?_ ?_; rotate_left; (· simp only [putAll, Act.put, sq0]; rfl)
              refine two_ (i := 7) (j := 12) (Ni := some 33) (Nj := some 13) #[T, T, T, T, T, T, T, T, F, F, F, F, F, F, F] #[T, T, T, T, T, T, T, F, F, F, F, F, T, F, F] rfl rfl rfl rfl (two_of HT_.out (by kernel_rfl)) (by decide) (by decide) (fun K hK => ?_) (fun K hK => ?_)
              · skip
                refine goes_ Try.func11 (by kernel_rfl) rfl #[.int .i64 (wrap64 ((t308.length : Int) + 1)), .int .i64 t311] (by rfl) rfl rfl (by (try simp only [List.map_toArray, List.map_cons, List.map_nil]); first | done | rfl | (simp only [List.length_drop, List.length_take]; rfl)) ?_
                with_reducible refine (bloom_New.calls (wrap64 ((t308.length : Int) + 1)) t311 t312 t315 _ A9.out).mono ?_
                rintro e w29 ⟨v313, rfl, ho0, hb⟩
                refine ⟨_, rfl, ?_⟩
                have HO314 := Aside0.mk (Kd.R_lower (Kd.R_new' (Kd.R_new' ho0 (Kd.R_lt (Rs HO305.out))) (Kd.R_lt (Rs HO310.out))) (Lz HB))
                replace HO305 := Aside0.mk (Kd.R_elder' (Rs HO305.out) (Kd.R_base ho0) hb)
                replace HO310 := Aside0.mk (Kd.R_elder' (Rs HO310.out) (Kd.R_base ho0) hb)
                replace BK302 := Bb BK302 hb
                replace BK307 := Bb BK307 hb
                replace HB := Lb HB hb
                try clear hb; try clear hb2; try clear hk; try clear hi; try clear ho0
                refine hK.out _ _ ⟨(blk_cell BK307.out 0).trans rfl, (blk_cell BK307.out 1).trans rfl⟩ (fun hHeld => ?_)
                clear hK K
                refine norm_ (a' := ?_) ?_ ?_; rotate_left; (· show Act.put _ (some 33) _ = _; simp only [Act.put, sq]; rfl)
                exact norm_ (by first | (simp only [putAll, Act.put, sq0]; done) | (simp only [putAll, Act.put, sq0]; rfl)) (hJ2_6_7 (.slice Ao28 t308.length co28, v313) _ ⟨hHeld, (Rs HO305.out), (Rs HO310.out), (Rs (Kd.R_mono HO314.out (fun _ hk => ⟨hk.1.2, hk.2⟩))), (Bs BK302.out), (Bs BK307.out), (Ls HB)⟩)
              · skip
                refine box_step ?hg (N := 13) ?hd (cs := #[.slice none 0 0, .int .i64 0]) (t := 25) ?hr ?_; (case hd => rfl); (case hg => rfl); (case hr => first | (go_simp; done) | (go_simp; rfl))
                intro gb321 hg w29 hbox hb
                replace HO305 := Rb HO305 hb
                replace HO310 := Rb HO310 hb
                have BK321 := Aside0.mk (hbox)
                have GW321 := Aside0.mk ((by rw [hg]; exact (Lz HB) : w.heap.size ≤ gb321))
                have GE321 := Aside0.mk ((by rw [hg]; exact (Lz HB) : w.heap.size ≤ gb321))
                replace HB := Lb HB hb
                have NB302_321 := Aside0.mk ((by rw [hg]; exact Nat.ne_of_lt (blk_lt (g := gb302) (o := .cells #[.slice none 0 0, .int .i64 0] 25 (0, 0)) (Bs BK302.out)) : gb302 ≠ gb321))
                have NB321_302 := Aside0.mk ((by rw [hg]; exact Nat.ne_of_gt (blk_lt (g := gb302) (o := .cells #[.slice none 0 0, .int .i64 0] 25 (0, 0)) (Bs BK302.out)) : gb321 ≠ gb302))
                replace BK302 := Bb BK302 hb
                have NB307_321 := Aside0.mk ((by rw [hg]; exact Nat.ne_of_lt (blk_lt (g := gb307) (o := .cells #[.slice Ao19 t303.length co19, .int .i64 t306] 25 (0, 0)) (Bs BK307.out)) : gb307 ≠ gb321))
                have NB321_307 := Aside0.mk ((by rw [hg]; exact Nat.ne_of_gt (blk_lt (g := gb307) (o := .cells #[.slice Ao19 t303.length co19, .int .i64 t306] 25 (0, 0)) (Bs BK307.out)) : gb321 ≠ gb307))
                replace BK307 := Bb BK307 hb
                clear hb hbox hg
                refine hK.out _ _ ⟨(blk_cell BK307.out 0).trans rfl, (blk_cell BK307.out 1).trans rfl⟩ (fun hHeld => ?_)
                clear hK K
                refine norm_ (a' := ?_) ?_ ?_; rotate_left; (· show Act.put _ (some 13) _ = _; simp only [Act.put, sq]; rfl)
                exact norm_ (by first | (simp only [putAll, Act.put, sq0]; done) | (simp only [putAll, Act.put, sq0]; rfl)) (hJ2_6_12 (.slice Ao28 t308.length co28, gb321) _ ⟨hHeld, (Rs HO305.out), (Rs HO310.out), (Bs BK302.out), (Bs BK307.out), (Bs BK321.out), GW321.out, GE321.out, NB302_321.out, NB321_302.out, NB307_321.out, NB321_307.out, (Ls HB)⟩)
          · skip
            rintro ⟨v309, gb321⟩ w28 ⟨hS_, h0_, h1_, h2_, h3_, h4_, h5_, h6_, h7_, h8_, h9_, h10_, h11_⟩
            try dsimp only at h0_ h1_ h2_ h3_ h4_ h5_ h6_ h7_ h8_ h9_ h10_ h11_
            clear HO305 BK302 BK307 HB
            have HO305 := Aside0.mk h0_; have HO310 := Aside0.mk h1_; have BK302 := Aside0.mk h2_; have BK307 := Aside0.mk h3_; have BK321 := Aside0.mk h4_; have GW321 := Aside0.mk h5_; have GE321 := Aside0.mk h6_; have NB302_321 := Aside0.mk h7_; have NB321_302 := Aside0.mk h8_; have NB307_321 := Aside0.mk h9_; have NB321_307 := Aside0.mk h10_; have HB := Aside0.mk h11_
            clear h0_ h1_ h2_ h3_ h4_ h5_ h6_ h7_ h8_ h9_ h10_ h11_
            have hHeld : w28.cell? ⟨gb307, 0, none⟩ = some (.slice Ao19 t303.length co19) ∧ w28.cell? ⟨gb307, 1, none⟩ = some (.int .i64 t306) := hS_
            obtain ⟨Ao29, co29, eo29⟩ := Kd.R_slice HO310.out
            (first | subst eo29 | (injection eo29 with f1_ f2_ f3_; have f4_ := f1_.symm; have f5_ := f3_.symm; clear f1_ f2_ f3_; subst f4_; subst f5_))
            refine norm_ (a' := ?_) ?_ ?_; rotate_left; (· simp only [putAll, Act.put, sq0]; rfl)
            refine one_ (i := 7) (N := some 33) #[T, T, T, T, T, T, T, T, F, F, F, F, T, F, F] rfl rfl (one_of HT_.out (by kernel_rfl)) (by decide) (fun K hK => ?_)
            refine goes_ Try.func11 (by kernel_rfl) rfl #[.int .i64 (wrap64 ((t308.length : Int) + 1)), .int .i64 t311] (by rfl) rfl rfl (by (try simp only [List.map_toArray, List.map_cons, List.map_nil]); first | done | rfl | (simp only [List.length_drop, List.length_take]; rfl)) ?_
            with_reducible refine (bloom_New.calls (wrap64 ((t308.length : Int) + 1)) t311 t312 t315 _ A9.out).mono ?_
            rintro e w30 ⟨v313, rfl, ho0, hb⟩
            refine ⟨_, rfl, ?_⟩
            have HO314 := Aside0.mk (Kd.R_lower (Kd.R_new' (Kd.R_new' ho0 (Kd.R_lt (Rs HO305.out))) (Kd.R_lt (Rs HO310.out))) (Lz HB))
            replace HO305 := Aside0.mk (Kd.R_elder' (Rs HO305.out) (Kd.R_base ho0) hb)
            replace HO310 := Aside0.mk (Kd.R_elder' (Rs HO310.out) (Kd.R_base ho0) hb)
            replace BK302 := Bb BK302 hb
            replace BK307 := Bb BK307 hb
            replace BK321 := Bb BK321 hb
            replace HB := Lb HB hb
            try clear hb; try clear hb2; try clear hk; try clear hi; try clear ho0
            refine hK.out _ _ ⟨(blk_cell BK307.out 0).trans rfl, (blk_cell BK307.out 1).trans rfl⟩ (fun hHeld => ?_)
            clear hK K
            refine norm_ (a' := ?_) ?_ ?_; rotate_left; (· show Act.put _ (some 33) _ = _; simp only [Act.put, sq]; rfl)
            exact norm_ (by first | (simp only [putAll, Act.put, sq0]; done) | (simp only [putAll, Act.put, sq0]; rfl)) (hJ2_6_7_12 (.slice Ao29 t308.length co29, v313, gb321) _ ⟨hHeld, (Rs HO305.out), (Rs HO310.out), (Rs (Kd.R_mono HO314.out (fun _ hk => ⟨hk.1.2, hk.2⟩))), (Bs BK302.out), (Bs BK307.out), (Bs BK321.out), GW321.out, GE321.out, NB302_321.out, NB321_302.out, NB307_321.out, NB321_307.out, (Ls HB)⟩)
        · skip
          rintro ⟨v309, v313⟩ w28 ⟨hS_, h0_, h1_, h2_, h3_, h4_, h5_⟩
          try dsimp only at h0_ h1_ h2_ h3_ h4_ h5_
          clear HO305 BK302 BK307 HB
          have HO305 := Aside0.mk h0_; have HO310 := Aside0.mk h1_; have HO314 := Aside0.mk h2_; have BK302 := Aside0.mk h3_; have BK307 := Aside0.mk h4_; have HB := Aside0.mk h5_
          clear h0_ h1_ h2_ h3_ h4_ h5_
          have hHeld : w28.cell? ⟨gb307, 0, none⟩ = some (.slice Ao19 t303.length co19) ∧ w28.cell? ⟨gb307, 1, none⟩ = some (.int .i64 t306) := hS_
          obtain ⟨Ao29, co29, eo29⟩ := Kd.R_slice HO310.out
          (first | subst eo29 | (injection eo29 with f1_ f2_ f3_; have f4_ := f1_.symm; have f5_ := f3_.symm; clear f1_ f2_ f3_; subst f4_; subst f5_))
          obtain ⟨Ao30, co30, eo30⟩ := Kd.R_slice HO314.out
          (first | subst eo30 | (injection eo30 with f1_ f2_ f3_; have f4_ := f1_.symm; have f5_ := f3_.symm; clear f1_ f2_ f3_; subst f4_; subst f5_))
          refine norm_ (a' := ?_) ?_ ?_; rotate_left; (· simp only [putAll, Act.put, sq0]; rfl)
          refine two_ (i := 8) (j := 12) (Ni := some 34) (Nj := some 13) #[T, T, T, T, T, T, T, T, T, F, F, F, F, F, F] #[T, T, T, T, T, T, T, T, F, F, F, F, T, F, F] rfl rfl rfl rfl (two_of HT_.out (by kernel_rfl)) (by decide) (by decide) (fun K hK => ?_) (fun K hK => ?_)
          · skip
            refine goes_ Try.func12 (by kernel_rfl) rfl #[.agg #[.slice Ao19 t303.length co19, .int .i64 t306], .agg #[.slice Ao30 t312.length co30, .int .i64 t315]] (by rfl) rfl rfl (by (try simp only [List.map_toArray, List.map_cons, List.map_nil]); first | done | rfl | (simp only [List.length_drop, List.length_take]; rfl)) ?_
            with_reducible refine (bloom_Union.calls k _ _ t303 t306 _ _ t312 t315 t316 t319 t320 _ ?side1 ?side2 ?side3 ?side4 A10.out).mono ?_
            (case side1 => exact Cs (Kd.R_reads' HO305.out).2.2)
            (case side2 => exact (Kd.R_reads' HO305.out).2.1)
            (case side3 => exact Cs (Kd.R_reads' HO314.out).2.2)
            (case side4 => exact (Kd.R_reads' HO314.out).2.1)
            rintro e w31 ⟨v317, rfl, ho0, hb⟩
            refine ⟨_, rfl, ?_⟩
            have HO318 := Aside0.mk (Kd.R_lower (Kd.R_new' (Kd.R_new' (Kd.R_new' ho0 (Kd.R_lt (Rs HO305.out))) (Kd.R_lt (Rs HO310.out))) (Kd.R_lt (Rs HO314.out))) (Lz HB))
            replace HO305 := Aside0.mk (Kd.R_elder' (Rs HO305.out) (Kd.R_base ho0) hb)
            replace HO310 := Aside0.mk (Kd.R_elder' (Rs HO310.out) (Kd.R_base ho0) hb)
            replace HO314 := Aside0.mk (Kd.R_elder' (Rs HO314.out) (Kd.R_base ho0) hb)
            replace BK302 := Bb BK302 hb
            replace BK307 := Bb BK307 hb
            replace HB := Lb HB hb
            try clear hb; try clear hb2; try clear hk; try clear hi; try clear ho0
            refine hK.out _ _ ⟨(blk_cell BK307.out 0).trans rfl, (blk_cell BK307.out 1).trans rfl⟩ (fun hHeld => ?_)
            clear hK K
            refine norm_ (a' := ?_) ?_ ?_; rotate_left; (· show Act.put _ (some 34) _ = _; simp only [Act.put, sq]; rfl)
            refine pure_ (i := 9) (N := some 25) (v := ?_) (a' := ?_) #[T, T, T, T, T, T, T, T, T, T, F, F, F, F, F] rfl rfl (any_of HT_.out (by kernel_rfl)) (fun _ _ _ h => h) (Or.inl ⟨by rfl, ?_⟩) ?_ ?_; rotate_left; (· intro w'; go_simp; with_reducible rfl); rotate_left; (· simp only [Act.put, sq]; rfl)
            refine pure_ (i := 10) (N := some 35) (v := ?_) (a' := ?_) #[T, T, T, T, T, T, T, T, T, T, T, F, F, F, F] rfl rfl (any_of HT_.out (by kernel_rfl)) (fun _ _ _ h => h) (Or.inl ⟨by rfl, ?_⟩) ?_ ?_; rotate_left; (· intro w'; go_simp; with_reducible rfl); rotate_left; (· simp only [Act.put, sq]; rfl)
            refine pure_ (i := 11) (N := some 36) (v := ?_) (a' := ?_) #[T, T, T, T, T, T, T, T, T, T, T, T, F, F, F] rfl rfl (any_of HT_.out (by kernel_rfl)) (fun _ _ _ h => h) (Or.inl ⟨by rfl, ?_⟩) ?_ ?_; rotate_left; (· intro w'; go_simp; with_reducible rfl); rotate_left; (· simp only [Act.put, sq]; rfl)
            exact norm_ (by first | (simp only [putAll, Act.put, sq0]; done) | (simp only [putAll, Act.put, sq0]; rfl)) (hJ2_6_7_8 (.slice Ao29 t308.length co29, .slice Ao30 t312.length co30, v317) _ ⟨hHeld, (Rs (Kd.R_mono HO305.out (fun _ hk => ⟨hk.1.1, ⟨hk.1.2, hk.2⟩⟩))), (Rs (Kd.R_mono HO310.out (fun _ hk => ⟨hk.1.1, ⟨hk.1.2, hk.2⟩⟩))), (Rs (Kd.R_mono HO314.out (fun _ hk => ⟨hk.1.1, ⟨hk.1.2, hk.2⟩⟩))), (Rs (Kd.R_mono HO318.out (fun _ hk => ⟨hk.1.1.2, ⟨hk.1.2, hk.2⟩⟩))), (Bs BK302.out), (Bs BK307.out), (Ls HB)⟩)
          · skip
            refine box_step ?hg (N := 13) ?hd (cs := #[.slice none 0 0, .int .i64 0]) (t := 25) ?hr ?_; (case hd => rfl); (case hg => rfl); (case hr => first | (go_simp; done) | (go_simp; rfl))
            intro gb321 hg w30 hbox hb
            replace HO305 := Rb HO305 hb
            replace HO310 := Rb HO310 hb
            replace HO314 := Rb HO314 hb
            have BK321 := Aside0.mk (hbox)
            have GW321 := Aside0.mk ((by rw [hg]; exact (Lz HB) : w.heap.size ≤ gb321))
            have GE321 := Aside0.mk ((by rw [hg]; exact (Lz HB) : w.heap.size ≤ gb321))
            replace HB := Lb HB hb
            have NB302_321 := Aside0.mk ((by rw [hg]; exact Nat.ne_of_lt (blk_lt (g := gb302) (o := .cells #[.slice none 0 0, .int .i64 0] 25 (0, 0)) (Bs BK302.out)) : gb302 ≠ gb321))
            have NB321_302 := Aside0.mk ((by rw [hg]; exact Nat.ne_of_gt (blk_lt (g := gb302) (o := .cells #[.slice none 0 0, .int .i64 0] 25 (0, 0)) (Bs BK302.out)) : gb321 ≠ gb302))
            replace BK302 := Bb BK302 hb
            have NB307_321 := Aside0.mk ((by rw [hg]; exact Nat.ne_of_lt (blk_lt (g := gb307) (o := .cells #[.slice Ao19 t303.length co19, .int .i64 t306] 25 (0, 0)) (Bs BK307.out)) : gb307 ≠ gb321))
            have NB321_307 := Aside0.mk ((by rw [hg]; exact Nat.ne_of_gt (blk_lt (g := gb307) (o := .cells #[.slice Ao19 t303.length co19, .int .i64 t306] 25 (0, 0)) (Bs BK307.out)) : gb321 ≠ gb307))
            replace BK307 := Bb BK307 hb
            clear hb hbox hg
            refine hK.out _ _ ⟨(blk_cell BK307.out 0).trans rfl, (blk_cell BK307.out 1).trans rfl⟩ (fun hHeld => ?_)
            clear hK K
            refine norm_ (a' := ?_) ?_ ?_; rotate_left; (· show Act.put _ (some 13) _ = _; simp only [Act.put, sq]; rfl)
            exact norm_ (by first | (simp only [putAll, Act.put, sq0]; done) | (simp only [putAll, Act.put, sq0]; rfl)) (hJ2_6_7_12 (.slice Ao29 t308.length co29, .slice Ao30 t312.length co30, gb321) _ ⟨hHeld, (Rs HO305.out), (Rs HO310.out), (Rs HO314.out), (Bs BK302.out), (Bs BK307.out), (Bs BK321.out), GW321.out, GE321.out, NB302_321.out, NB321_302.out, NB307_321.out, NB321_307.out, (Ls HB)⟩)
      · skip
        rintro ⟨v309, v313, gb321⟩ w29 ⟨hS_, h0_, h1_, h2_, h3_, h4_, h5_, h6_, h7_, h8_, h9_, h10_, h11_, h12_⟩
        try dsimp only at h0_ h1_ h2_ h3_ h4_ h5_ h6_ h7_ h8_ h9_ h10_ h11_ h12_
        clear HO305 BK302 BK307 HB
        have HO305 := Aside0.mk h0_; have HO310 := Aside0.mk h1_; have HO314 := Aside0.mk h2_; have BK302 := Aside0.mk h3_; have BK307 := Aside0.mk h4_; have BK321 := Aside0.mk h5_; have GW321 := Aside0.mk h6_; have GE321 := Aside0.mk h7_; have NB302_321 := Aside0.mk h8_; have NB321_302 := Aside0.mk h9_; have NB307_321 := Aside0.mk h10_; have NB321_307 := Aside0.mk h11_; have HB := Aside0.mk h12_
        clear h0_ h1_ h2_ h3_ h4_ h5_ h6_ h7_ h8_ h9_ h10_ h11_ h12_
        have hHeld : w29.cell? ⟨gb307, 0, none⟩ = some (.slice Ao19 t303.length co19) ∧ w29.cell? ⟨gb307, 1, none⟩ = some (.int .i64 t306) := hS_
        obtain ⟨Ao30, co30, eo30⟩ := Kd.R_slice HO310.out
        (first | subst eo30 | (injection eo30 with f1_ f2_ f3_; have f4_ := f1_.symm; have f5_ := f3_.symm; clear f1_ f2_ f3_; subst f4_; subst f5_))
        obtain ⟨Ao31, co31, eo31⟩ := Kd.R_slice HO314.out
        (first | subst eo31 | (injection eo31 with f1_ f2_ f3_; have f4_ := f1_.symm; have f5_ := f3_.symm; clear f1_ f2_ f3_; subst f4_; subst f5_))
        refine norm_ (a' := ?_) ?_ ?_; rotate_left; (· simp only [putAll, Act.put, sq0]; rfl)
        refine one_ (i := 8) (N := some 34) #[T, T, T, T, T, T, T, T, T, F, F, F, T, F, F] rfl rfl (one_of HT_.out (by kernel_rfl)) (by decide) (fun K hK => ?_)
        refine goes_ Try.func12 (by kernel_rfl) rfl #[.agg #[.slice Ao19 t303.length co19, .int .i64 t306], .agg #[.slice Ao31 t312.length co31, .int .i64 t315]] (by rfl) rfl rfl (by (try simp only [List.map_toArray, List.map_cons, List.map_nil]); first | done | rfl | (simp only [List.length_drop, List.length_take]; rfl)) ?_
        with_reducible refine (bloom_Union.calls k _ _ t303 t306 _ _ t312 t315 t316 t319 t320 _ ?side1 ?side2 ?side3 ?side4 A10.out).mono ?_
        (case side1 => exact Cs (Kd.R_reads' HO305.out).2.2)
        (case side2 => exact (Kd.R_reads' HO305.out).2.1)
        (case side3 => exact Cs (Kd.R_reads' HO314.out).2.2)
        (case side4 => exact (Kd.R_reads' HO314.out).2.1)
        rintro e w32 ⟨v317, rfl, ho0, hb⟩
        refine ⟨_, rfl, ?_⟩
        have HO318 := Aside0.mk (Kd.R_lower (Kd.R_new' (Kd.R_new' (Kd.R_new' ho0 (Kd.R_lt (Rs HO305.out))) (Kd.R_lt (Rs HO310.out))) (Kd.R_lt (Rs HO314.out))) (Lz HB))
        replace HO305 := Aside0.mk (Kd.R_elder' (Rs HO305.out) (Kd.R_base ho0) hb)
        replace HO310 := Aside0.mk (Kd.R_elder' (Rs HO310.out) (Kd.R_base ho0) hb)
        replace HO314 := Aside0.mk (Kd.R_elder' (Rs HO314.out) (Kd.R_base ho0) hb)
        replace BK302 := Bb BK302 hb
        replace BK307 := Bb BK307 hb
        replace BK321 := Bb BK321 hb
        replace HB := Lb HB hb
        try clear hb; try clear hb2; try clear hk; try clear hi; try clear ho0
        refine hK.out _ _ ⟨(blk_cell BK307.out 0).trans rfl, (blk_cell BK307.out 1).trans rfl⟩ (fun hHeld => ?_)
        clear hK K
        refine norm_ (a' := ?_) ?_ ?_; rotate_left; (· show Act.put _ (some 34) _ = _; simp only [Act.put, sq]; rfl)
        refine pure_ (i := 9) (N := some 25) (v := ?_) (a' := ?_) #[T, T, T, T, T, T, T, T, T, T, F, F, T, F, F] rfl rfl (any_of HT_.out (by kernel_rfl)) (fun _ _ _ h => h) (Or.inl ⟨by rfl, ?_⟩) ?_ ?_; rotate_left; (· intro w'; go_simp; with_reducible rfl); rotate_left; (· simp only [Act.put, sq]; rfl)
        refine pure_ (i := 10) (N := some 35) (v := ?_) (a' := ?_) #[T, T, T, T, T, T, T, T, T, T, T, F, T, F, F] rfl rfl (any_of HT_.out (by kernel_rfl)) (fun _ _ _ h => h) (Or.inl ⟨by rfl, ?_⟩) ?_ ?_; rotate_left; (· intro w'; go_simp; with_reducible rfl); rotate_left; (· simp only [Act.put, sq]; rfl)
        refine pure_ (i := 11) (N := some 36) (v := ?_) (a' := ?_) #[T, T, T, T, T, T, T, T, T, T, T, T, T, F, F] rfl rfl (any_of HT_.out (by kernel_rfl)) (fun _ _ _ h => h) (Or.inl ⟨by rfl, ?_⟩) ?_ ?_; rotate_left; (· intro w'; go_simp; with_reducible rfl); rotate_left; (· simp only [Act.put, sq]; rfl)
        exact norm_ (by first | (simp only [putAll, Act.put, sq0]; done) | (simp only [putAll, Act.put, sq0]; rfl)) (hJ2_6_7_8_12 (.slice Ao30 t308.length co30, .slice Ao31 t312.length co31, v317, gb321) _ ⟨hHeld, (Rs (Kd.R_mono HO305.out (fun _ hk => ⟨hk.1.1, ⟨hk.1.2, hk.2⟩⟩))), (Rs (Kd.R_mono HO310.out (fun _ hk => ⟨hk.1.1, ⟨hk.1.2, hk.2⟩⟩))), (Rs (Kd.R_mono HO314.out (fun _ hk => ⟨hk.1.1, ⟨hk.1.2, hk.2⟩⟩))), (Rs (Kd.R_mono HO318.out (fun _ hk => ⟨hk.1.1.2, ⟨hk.1.2, hk.2⟩⟩))), (Bs BK302.out), (Bs BK307.out), (Bs BK321.out), GW321.out, GE321.out, NB302_321.out, NB321_302.out, NB307_321.out, NB321_307.out, (Ls HB)⟩)
    · skip
      rintro ⟨v309, v313, v317⟩ w30 ⟨hS_, h0_, h1_, h2_, h3_, h4_, h5_, h6_⟩
      try dsimp only at h0_ h1_ h2_ h3_ h4_ h5_ h6_
      clear HO305 BK302 BK307 HB
      have HO305 := Aside0.mk h0_; have HO310 := Aside0.mk h1_; have HO314 := Aside0.mk h2_; have HO318 := Aside0.mk h3_; have BK302 := Aside0.mk h4_; have BK307 := Aside0.mk h5_; have HB := Aside0.mk h6_
      clear h0_ h1_ h2_ h3_ h4_ h5_ h6_
      have hHeld : w30.cell? ⟨gb307, 0, none⟩ = some (.slice Ao19 t303.length co19) ∧ w30.cell? ⟨gb307, 1, none⟩ = some (.int .i64 t306) := hS_
      obtain ⟨Ao31, co31, eo31⟩ := Kd.R_slice HO310.out
      (first | subst eo31 | (injection eo31 with f1_ f2_ f3_; have f4_ := f1_.symm; have f5_ := f3_.symm; clear f1_ f2_ f3_; subst f4_; subst f5_))
      refine norm_ (a' := ?_) ?_ ?_; rotate_left; (· simp only [putAll, Act.put, sq0]; rfl)
      refine one_ (i := 12) (N := some 13) #[T, T, T, T, T, T, T, T, T, T, T, T, T, F, F] rfl rfl (one_of HT_.out (by kernel_rfl)) (by decide) (fun K hK => ?_)
      refine box_step ?hg (N := 13) ?hd (cs := #[.slice none 0 0, .int .i64 0]) (t := 25) ?hr ?_; (case hd => rfl); (case hg => rfl); (case hr => first | (go_simp; done) | (go_simp; rfl))
      intro gb321 hg w32 hbox hb
      replace HO305 := Rb HO305 hb
      replace HO310 := Rb HO310 hb
      replace HO314 := Rb HO314 hb
      replace HO318 := Rb HO318 hb
      have BK321 := Aside0.mk (hbox)
      have GW321 := Aside0.mk ((by rw [hg]; exact (Lz HB) : w.heap.size ≤ gb321))
      have GE321 := Aside0.mk ((by rw [hg]; exact (Lz HB) : w.heap.size ≤ gb321))
      replace HB := Lb HB hb
      have NB302_321 := Aside0.mk ((by rw [hg]; exact Nat.ne_of_lt (blk_lt (g := gb302) (o := .cells #[.slice none 0 0, .int .i64 0] 25 (0, 0)) (Bs BK302.out)) : gb302 ≠ gb321))
      have NB321_302 := Aside0.mk ((by rw [hg]; exact Nat.ne_of_gt (blk_lt (g := gb302) (o := .cells #[.slice none 0 0, .int .i64 0] 25 (0, 0)) (Bs BK302.out)) : gb321 ≠ gb302))
      replace BK302 := Bb BK302 hb
      have NB307_321 := Aside0.mk ((by rw [hg]; exact Nat.ne_of_lt (blk_lt (g := gb307) (o := .cells #[.slice Ao19 t303.length co19, .int .i64 t306] 25 (0, 0)) (Bs BK307.out)) : gb307 ≠ gb321))
      have NB321_307 := Aside0.mk ((by rw [hg]; exact Nat.ne_of_gt (blk_lt (g := gb307) (o := .cells #[.slice Ao19 t303.length co19, .int .i64 t306] 25 (0, 0)) (Bs BK307.out)) : gb321 ≠ gb307))
      replace BK307 := Bb BK307 hb
      clear hb hbox hg
      refine hK.out _ _ ⟨(blk_cell BK307.out 0).trans rfl, (blk_cell BK307.out 1).trans rfl⟩ (fun hHeld => ?_)
      clear hK K
      refine norm_ (a' := ?_) ?_ ?_; rotate_left; (· show Act.put _ (some 13) _ = _; simp only [Act.put, sq]; rfl)
      exact norm_ (by first | (simp only [putAll, Act.put, sq0]; done) | (simp only [putAll, Act.put, sq0]; rfl)) (hJ2_6_7_8_12 (.slice Ao31 t308.length co31, v313, v317, gb321) _ ⟨hHeld, (Rs HO305.out), (Rs HO310.out), (Rs HO314.out), (Rs HO318.out), (Bs BK302.out), (Bs BK307.out), (Bs BK321.out), GW321.out, GE321.out, NB302_321.out, NB321_302.out, NB307_321.out, NB321_307.out, (Ls HB)⟩)
  rintro ⟨v309, v313, v317, gb321⟩ w31 ⟨hS_, h0_, h1_, h2_, h3_, h4_, h5_, h6_, h7_, h8_, h9_, h10_, h11_, h12_, h13_⟩
  try dsimp only at h0_ h1_ h2_ h3_ h4_ h5_ h6_ h7_ h8_ h9_ h10_ h11_ h12_ h13_
  clear HO305 BK302 BK307 HB
  have HO305 := Aside0.mk h0_; have HO310 := Aside0.mk h1_; have HO314 := Aside0.mk h2_; have HO318 := Aside0.mk h3_; have BK302 := Aside0.mk h4_; have BK307 := Aside0.mk h5_; have BK321 := Aside0.mk h6_; have GW321 := Aside0.mk h7_; have GE321 := Aside0.mk h8_; have NB302_321 := Aside0.mk h9_; have NB321_302 := Aside0.mk h10_; have NB307_321 := Aside0.mk h11_; have NB321_307 := Aside0.mk h12_; have HB := Aside0.mk h13_
  clear h0_ h1_ h2_ h3_ h4_ h5_ h6_ h7_ h8_ h9_ h10_ h11_ h12_ h13_
  have hHeld : w31.cell? ⟨gb307, 0, none⟩ = some (.slice Ao19 t303.length co19) ∧ w31.cell? ⟨gb307, 1, none⟩ = some (.int .i64 t306) := hS_
  obtain ⟨Ao32, co32, eo32⟩ := Kd.R_slice HO310.out
  (first | subst eo32 | (injection eo32 with f1_ f2_ f3_; have f4_ := f1_.symm; have f5_ := f3_.symm; clear f1_ f2_ f3_; subst f4_; subst f5_))
  obtain ⟨Ao33, co33, eo33⟩ := Kd.R_slice HO318.out
  (first | subst eo33 | (injection eo33 with f1_ f2_ f3_; have f4_ := f1_.symm; have f5_ := f3_.symm; clear f1_ f2_ f3_; subst f4_; subst f5_))
  refine norm_ (a' := ?_) ?_ ?_; rotate_left; (· simp only [putAll, Act.put, sq0]; rfl)
  refine one_ (i := 13) (N := none) #[T, T, T, T, T, T, T, T, T, T, T, T, T, T, F] rfl rfl (one_of HT_.out (by kernel_rfl)) (by decide) (fun K hK => ?_)
  have hs34 : w31.cell? ⟨gb321, 0, none⟩ = some (.slice none 0 0) := (blk_cell BK321.out 0).trans rfl
  have hfs34 := blk_frozen BK321.out 0
  have hns34_0 := NB302_321.out
  have hns34_1 := NB307_321.out
  have hms34_0 := NB321_302.out
  have hms34_1 := NB321_307.out
  have hs35 : w31.cell? ⟨gb321, 1, none⟩ = some (.int .i64 0) := (blk_cell BK321.out 1).trans rfl
  have hfs35 := blk_frozen BK321.out 1
  have hns35_0 := NB302_321.out
  have hns35_1 := NB307_321.out
  have hms35_0 := NB321_302.out
  have hms35_1 := NB321_307.out
  refine skip_ (w1 := ?_) (by rfl) rfl ?_ ?_
  rotate_left
  · go_simp
    rfl
  refine hK.out _ _ ⟨((cell_far (p := ⟨gb321, _, none⟩) NB307_321.out _).trans (((cell_far (p := ⟨gb321, _, none⟩) NB307_321.out _).trans (hHeld.1)))), ((cell_far (p := ⟨gb321, _, none⟩) NB307_321.out _).trans (((cell_far (p := ⟨gb321, _, none⟩) NB307_321.out _).trans (hHeld.2))))⟩ (fun hHeld => ?_)
  clear hK K
  refine pure_ (i := 14) (N := some 14) (v := ?_) (a' := ?_) #[T, T, T, T, T, T, T, T, T, T, T, T, T, T, T] rfl rfl (any_of HT_.out (by kernel_rfl)) (fun _ _ _ h => h) (Or.inl ⟨by rfl, ?_⟩) ?_ ?_; rotate_left; (· intro w'; go_simp; with_reducible rfl); rotate_left; (· simp only [Act.put, sq]; rfl)
  refine done_ (done_of HT_.out (by kernel_rfl)) ?_
  try go_wp2
  have n0_ : Aside0 (Kd.R (Kd.int .u64) 33 ((w31.setCell ⟨gb321, 0, none⟩ (.slice Ao33 t316.length co33)).setCell ⟨gb321, 1, none⟩ (.int .i64 t319)) w.heap.size (fun k_ => some k_ ≠ (.slice Ao32 t308.length co32 : Value).ownBlock ∧ some k_ ≠ (v313 : Value).ownBlock ∧ some k_ ≠ (.slice Ao33 t316.length co33 : Value).ownBlock) (.slice Ao19 t303.length co19) t303) := ⟨by (with_reducible repeat (first | apply Kd.R_alloc | apply Kd.R_drewN | apply Kd.R_drew)); exact Kd.R_mono (Kd.R_far (p := ⟨gb321, 1, none⟩) (Kd.R_far (p := ⟨gb321, 0, none⟩) (Kd.R_types HO305.out BK321.out (by decide)) (fun _ hk => hk.2) (.slice Ao33 t316.length co33)) (fun _ hk => hk.2) (.int .i64 t319)) (fun _ hk => ⟨hk.1.1, ⟨hk.1.2.1, hk.1.2.2⟩⟩)⟩
  have n1_ : Aside0 (Kd.R (Kd.int .u64) 33 ((w31.setCell ⟨gb321, 0, none⟩ (.slice Ao33 t316.length co33)).setCell ⟨gb321, 1, none⟩ (.int .i64 t319)) w.heap.size (fun k_ => some k_ ≠ (.slice Ao19 t303.length co19 : Value).ownBlock ∧ some k_ ≠ (v313 : Value).ownBlock ∧ some k_ ≠ (.slice Ao33 t316.length co33 : Value).ownBlock) (.slice Ao32 t308.length co32) t308) := ⟨by (with_reducible repeat (first | apply Kd.R_alloc | apply Kd.R_drewN | apply Kd.R_drew)); exact Kd.R_mono (Kd.R_far (p := ⟨gb321, 1, none⟩) (Kd.R_far (p := ⟨gb321, 0, none⟩) (Kd.R_types HO310.out BK321.out (by decide)) (fun _ hk => hk.2) (.slice Ao33 t316.length co33)) (fun _ hk => hk.2) (.int .i64 t319)) (fun _ hk => ⟨hk.1.1, ⟨hk.1.2.1, hk.1.2.2⟩⟩)⟩
  have n2_ : Aside0 (Kd.R (Kd.int .u64) 33 ((w31.setCell ⟨gb321, 0, none⟩ (.slice Ao33 t316.length co33)).setCell ⟨gb321, 1, none⟩ (.int .i64 t319)) w.heap.size (fun k_ => some k_ ≠ (.slice Ao19 t303.length co19 : Value).ownBlock ∧ some k_ ≠ (.slice Ao32 t308.length co32 : Value).ownBlock ∧ some k_ ≠ (.slice Ao33 t316.length co33 : Value).ownBlock) v313 t312) := ⟨by (with_reducible repeat (first | apply Kd.R_alloc | apply Kd.R_drewN | apply Kd.R_drew)); exact Kd.R_mono (Kd.R_far (p := ⟨gb321, 1, none⟩) (Kd.R_far (p := ⟨gb321, 0, none⟩) (Kd.R_types HO314.out BK321.out (by decide)) (fun _ hk => hk.2) (.slice Ao33 t316.length co33)) (fun _ hk => hk.2) (.int .i64 t319)) (fun _ hk => ⟨hk.1.1, ⟨hk.1.2.1, hk.1.2.2⟩⟩)⟩
  have n3_ : Aside0 (Kd.R (Kd.int .u64) 33 ((w31.setCell ⟨gb321, 0, none⟩ (.slice Ao33 t316.length co33)).setCell ⟨gb321, 1, none⟩ (.int .i64 t319)) w.heap.size (fun k_ => some k_ ≠ (.slice Ao19 t303.length co19 : Value).ownBlock ∧ some k_ ≠ (.slice Ao32 t308.length co32 : Value).ownBlock ∧ some k_ ≠ (v313 : Value).ownBlock) (.slice Ao33 t316.length co33) t316) := ⟨by (with_reducible repeat (first | apply Kd.R_alloc | apply Kd.R_drewN | apply Kd.R_drew)); exact Kd.R_mono (Kd.R_far (p := ⟨gb321, 1, none⟩) (Kd.R_far (p := ⟨gb321, 0, none⟩) (Kd.R_types HO318.out BK321.out (by decide)) (fun _ hk => hk.2) (.slice Ao33 t316.length co33)) (fun _ hk => hk.2) (.int .i64 t319)) (fun _ hk => ⟨hk.1.1, ⟨hk.1.2.1, hk.1.2.2⟩⟩)⟩
  have n4_ : Aside0 (((w31.setCell ⟨gb321, 0, none⟩ (.slice Ao33 t316.length co33)).setCell ⟨gb321, 1, none⟩ (.int .i64 t319)).heap[gb302]? = some (.cells #[.slice none 0 0, .int .i64 0] 25 (0, 0))) := ⟨by (with_reducible repeat (first | refine blk_drewN ?_ _ | refine blk_drew ?_ | refine blk_alloc ?_ _)); refine blk_far ?_ NB302_321.out _; (with_reducible repeat (first | refine blk_drewN ?_ _ | refine blk_drew ?_ | refine blk_alloc ?_ _)); refine blk_far ?_ NB302_321.out _; (with_reducible repeat (first | refine blk_drewN ?_ _ | refine blk_drew ?_ | refine blk_alloc ?_ _)); exact BK302.out⟩
  have n5_ : Aside0 (((w31.setCell ⟨gb321, 0, none⟩ (.slice Ao33 t316.length co33)).setCell ⟨gb321, 1, none⟩ (.int .i64 t319)).heap[gb307]? = some (.cells #[.slice Ao19 t303.length co19, .int .i64 t306] 25 (0, 0))) := ⟨by (with_reducible repeat (first | refine blk_drewN ?_ _ | refine blk_drew ?_ | refine blk_alloc ?_ _)); refine blk_far ?_ NB307_321.out _; (with_reducible repeat (first | refine blk_drewN ?_ _ | refine blk_drew ?_ | refine blk_alloc ?_ _)); refine blk_far ?_ NB307_321.out _; (with_reducible repeat (first | refine blk_drewN ?_ _ | refine blk_drew ?_ | refine blk_alloc ?_ _)); exact BK307.out⟩
  have n6_ : Aside0 (((w31.setCell ⟨gb321, 0, none⟩ (.slice Ao33 t316.length co33)).setCell ⟨gb321, 1, none⟩ (.int .i64 t319)).heap[gb321]? = some (.cells #[.slice Ao33 t316.length co33, .int .i64 t319] 25 (0, 0))) := ⟨by (with_reducible repeat (first | refine blk_drewN ?_ _ | refine blk_drew ?_ | refine blk_alloc ?_ _)); refine blk_put (cs := #[.slice Ao33 t316.length co33, .int .i64 0]) ?_ 1 _ rfl; (with_reducible repeat (first | refine blk_drewN ?_ _ | refine blk_drew ?_ | refine blk_alloc ?_ _)); refine blk_put (cs := #[.slice none 0 0, .int .i64 0]) ?_ 0 _ rfl; (with_reducible repeat (first | refine blk_drewN ?_ _ | refine blk_drew ?_ | refine blk_alloc ?_ _)); exact BK321.out⟩
  have n7_ : Aside0 (Below w.heap.size w ((w31.setCell ⟨gb321, 0, none⟩ (.slice Ao33 t316.length co33)).setCell ⟨gb321, 1, none⟩ (.int .i64 t319))) := ⟨Ls HB⟩
  try clear HO305; try clear HO310; try clear HO314; try clear HO318; try clear BK302; try clear BK307; try clear BK321; try clear HB
  generalize ((w31.setCell ⟨gb321, 0, none⟩ (.slice Ao33 t316.length co33)).setCell ⟨gb321, 1, none⟩ (.int .i64 t319)) = w36 at n0_ n1_ n2_ n3_ n4_ n5_ n6_ n7_ ⊢
  have HO305 := n0_; have HO310 := n1_; have HO314 := n2_; have HO318 := n3_; have BK302 := n4_; have BK307 := n5_; have BK321 := n6_; have HB := n7_
  clear n0_ n1_ n2_ n3_ n4_ n5_ n6_ n7_
  replace HO305 := Aside0.mk (Kd.R_drew HO305.out)
  replace HO310 := Aside0.mk (Kd.R_drew HO310.out)
  replace HO314 := Aside0.mk (Kd.R_drew HO314.out)
  replace HO318 := Aside0.mk (Kd.R_drew HO318.out)
  replace BK302 := Aside0.mk (blk_drew BK302.out)
  replace BK307 := Aside0.mk (blk_drew BK307.out)
  replace BK321 := Aside0.mk (blk_drew BK321.out)
  replace HB := Aside0.mk (below_drew1 HB.out)
  refine start_ (n := 16) (S := fun w' => w'.cell? ⟨gb307, 0, none⟩ = some (.slice Ao19 t303.length co19) ∧ w'.cell? ⟨gb307, 1, none⟩ = some (.int .i64 t306)) (ds := []) #[F, F, F, F, F, F, F, F, F, F, F, F, F, F, F, F] (by kernel_rfl) rfl rfl ⟨(blk_cell BK307.out 0).trans rfl, (blk_cell BK307.out 1).trans rfl⟩ (fun hHeld => ?_); refine with_tabW trommellaw18_BloomSizes.tab4 trommellaw18_BloomSizes.bits4 (fun HT_ HW_ => ?_)
  generalize w36.drew = w37 at HO305 HO310 HO314 HO318 BK302 BK307 BK321 HB hHeld ⊢
  refine take_ (i := 0) (N := some 38) (v := ?_) (a' := ?_) #[T, F, F, F, F, F, F, F, F, F, F, F, F, F, F, F] rfl rfl (take_ofW HT_.out HW_.out (by kernel_rfl)) (fun _ _ _ h => h) (Or.inl ⟨by rfl, ?_⟩) hHeld ?_ ?_; rotate_left; (· rintro w' ⟨s0, s1⟩; go_simp; with_reducible rfl); rotate_left; (· simp only [Act.put, sq]; rfl)
  refine take_ (i := 1) (N := some 39) (v := ?_) (a' := ?_) #[T, T, F, F, F, F, F, F, F, F, F, F, F, F, F, F] rfl rfl (take_ofW HT_.out HW_.out (by kernel_rfl)) (fun _ _ _ h => h) (Or.inl ⟨by rfl, ?_⟩) hHeld ?_ ?_; rotate_left; (· rintro w' ⟨s0, s1⟩; go_simp; with_reducible rfl); rotate_left; (· simp only [Act.put, sq]; rfl)
  refine take_ (i := 4) (N := some 42) (v := ?_) (a' := ?_) #[T, T, F, F, T, F, F, F, F, F, F, F, F, F, F, F] rfl rfl (take_ofW HT_.out HW_.out (by kernel_rfl)) (fun _ _ _ h => h) (Or.inl ⟨by rfl, ?_⟩) hHeld ?_ ?_; rotate_left; (· rintro w' ⟨s0, s1⟩; go_simp; with_reducible rfl); rotate_left; (· simp only [Act.put, sq]; rfl)
  refine join_ (σ := Value × Value × Value × Nat) 2 #[T, T, T, T, T, T, T, T, T, T, T, T, T, T, F, F] (fun s_ => [(40, s_.1), (43, .int .i64 t325), (46, .agg #[s_.2.1, .int .i64 t329]), (47, .tuple #[.agg #[s_.2.2.1, .int .i64 t333], .int .i64 t334]), (15, .pointer (some ⟨s_.2.2.2, 0, none⟩)), (41, .int .i64 (t322.length : Int)), (44, .int .i64 (Int.tmod t325 5)), (45, .int .i64 (wrap64 ((Int.tmod t325 5) + 1))), (37, .tuple #[.agg #[s_.2.2.1, .int .i64 t333], .int .i64 t334]), (48, .agg #[s_.2.2.1, .int .i64 t333]), (49, .int .i64 t334)]) (fun s_ w' => (w'.cell? ⟨gb307, 0, none⟩ = some (.slice Ao19 t303.length co19) ∧ w'.cell? ⟨gb307, 1, none⟩ = some (.int .i64 t306)) ∧ (Kd.R (Kd.int .u64) 33 w' w.heap.size (fun k_ => some k_ ≠ (.slice Ao32 t308.length co32 : Value).ownBlock ∧ some k_ ≠ (v313 : Value).ownBlock ∧ some k_ ≠ (.slice Ao33 t316.length co33 : Value).ownBlock ∧ some k_ ≠ (s_.1 : Value).ownBlock ∧ some k_ ≠ (s_.2.1 : Value).ownBlock ∧ some k_ ≠ (s_.2.2.1 : Value).ownBlock) (.slice Ao19 t303.length co19) t303) ∧ (Kd.R (Kd.int .u64) 33 w' w.heap.size (fun k_ => some k_ ≠ (.slice Ao19 t303.length co19 : Value).ownBlock ∧ some k_ ≠ (v313 : Value).ownBlock ∧ some k_ ≠ (.slice Ao33 t316.length co33 : Value).ownBlock ∧ some k_ ≠ (s_.1 : Value).ownBlock ∧ some k_ ≠ (s_.2.1 : Value).ownBlock ∧ some k_ ≠ (s_.2.2.1 : Value).ownBlock) (.slice Ao32 t308.length co32) t308) ∧ (Kd.R (Kd.int .u64) 33 w' w.heap.size (fun k_ => some k_ ≠ (.slice Ao19 t303.length co19 : Value).ownBlock ∧ some k_ ≠ (.slice Ao32 t308.length co32 : Value).ownBlock ∧ some k_ ≠ (.slice Ao33 t316.length co33 : Value).ownBlock ∧ some k_ ≠ (s_.1 : Value).ownBlock ∧ some k_ ≠ (s_.2.1 : Value).ownBlock ∧ some k_ ≠ (s_.2.2.1 : Value).ownBlock) v313 t312) ∧ (Kd.R (Kd.int .u64) 33 w' w.heap.size (fun k_ => some k_ ≠ (.slice Ao19 t303.length co19 : Value).ownBlock ∧ some k_ ≠ (.slice Ao32 t308.length co32 : Value).ownBlock ∧ some k_ ≠ (v313 : Value).ownBlock ∧ some k_ ≠ (s_.1 : Value).ownBlock ∧ some k_ ≠ (s_.2.1 : Value).ownBlock ∧ some k_ ≠ (s_.2.2.1 : Value).ownBlock) (.slice Ao33 t316.length co33) t316) ∧ (Kd.R (Kd.int .u64) 33 w' w.heap.size (fun k_ => some k_ ≠ (.slice Ao19 t303.length co19 : Value).ownBlock ∧ some k_ ≠ (.slice Ao32 t308.length co32 : Value).ownBlock ∧ some k_ ≠ (v313 : Value).ownBlock ∧ some k_ ≠ (.slice Ao33 t316.length co33 : Value).ownBlock ∧ some k_ ≠ (s_.2.1 : Value).ownBlock ∧ some k_ ≠ (s_.2.2.1 : Value).ownBlock) s_.1 t322) ∧ (Kd.R (Kd.int .u64) 33 w' w.heap.size (fun k_ => some k_ ≠ (.slice Ao19 t303.length co19 : Value).ownBlock ∧ some k_ ≠ (.slice Ao32 t308.length co32 : Value).ownBlock ∧ some k_ ≠ (v313 : Value).ownBlock ∧ some k_ ≠ (.slice Ao33 t316.length co33 : Value).ownBlock ∧ some k_ ≠ (s_.1 : Value).ownBlock ∧ some k_ ≠ (s_.2.2.1 : Value).ownBlock) s_.2.1 t326) ∧ (Kd.R (Kd.int .u64) 33 w' w.heap.size (fun k_ => some k_ ≠ (.slice Ao19 t303.length co19 : Value).ownBlock ∧ some k_ ≠ (.slice Ao32 t308.length co32 : Value).ownBlock ∧ some k_ ≠ (v313 : Value).ownBlock ∧ some k_ ≠ (.slice Ao33 t316.length co33 : Value).ownBlock ∧ some k_ ≠ (s_.1 : Value).ownBlock ∧ some k_ ≠ (s_.2.1 : Value).ownBlock) s_.2.2.1 t330) ∧ (w'.heap[gb302]? = some (.cells #[.slice none 0 0, .int .i64 0] 25 (0, 0))) ∧ (w'.heap[gb307]? = some (.cells #[.slice Ao19 t303.length co19, .int .i64 t306] 25 (0, 0))) ∧ (w'.heap[gb321]? = some (.cells #[.slice Ao33 t316.length co33, .int .i64 t319] 25 (0, 0))) ∧ (w'.heap[s_.2.2.2]? = some (.cells #[.slice none 0 0, .int .i64 0] 25 (0, 0))) ∧ (w.heap.size ≤ s_.2.2.2) ∧ (w.heap.size ≤ s_.2.2.2) ∧ (gb302 ≠ s_.2.2.2) ∧ (s_.2.2.2 ≠ gb302) ∧ (gb307 ≠ s_.2.2.2) ∧ (s_.2.2.2 ≠ gb307) ∧ (gb321 ≠ s_.2.2.2) ∧ (s_.2.2.2 ≠ gb321) ∧ (Below w.heap.size w w')) ?_ ?_
  rotate_left
  · intro hJ2_5_8_9_13
    refine join_ (σ := Value × Value × Value) 3 #[T, T, T, T, T, T, T, T, T, T, T, T, T, F, F, F] (fun s_ => [(40, s_.1), (43, .int .i64 t325), (46, .agg #[s_.2.1, .int .i64 t329]), (47, .tuple #[.agg #[s_.2.2, .int .i64 t333], .int .i64 t334]), (41, .int .i64 (t322.length : Int)), (44, .int .i64 (Int.tmod t325 5)), (45, .int .i64 (wrap64 ((Int.tmod t325 5) + 1))), (37, .tuple #[.agg #[s_.2.2, .int .i64 t333], .int .i64 t334]), (48, .agg #[s_.2.2, .int .i64 t333]), (49, .int .i64 t334)]) (fun s_ w' => (w'.cell? ⟨gb307, 0, none⟩ = some (.slice Ao19 t303.length co19) ∧ w'.cell? ⟨gb307, 1, none⟩ = some (.int .i64 t306)) ∧ (Kd.R (Kd.int .u64) 33 w' w.heap.size (fun k_ => some k_ ≠ (.slice Ao32 t308.length co32 : Value).ownBlock ∧ some k_ ≠ (v313 : Value).ownBlock ∧ some k_ ≠ (.slice Ao33 t316.length co33 : Value).ownBlock ∧ some k_ ≠ (s_.1 : Value).ownBlock ∧ some k_ ≠ (s_.2.1 : Value).ownBlock ∧ some k_ ≠ (s_.2.2 : Value).ownBlock) (.slice Ao19 t303.length co19) t303) ∧ (Kd.R (Kd.int .u64) 33 w' w.heap.size (fun k_ => some k_ ≠ (.slice Ao19 t303.length co19 : Value).ownBlock ∧ some k_ ≠ (v313 : Value).ownBlock ∧ some k_ ≠ (.slice Ao33 t316.length co33 : Value).ownBlock ∧ some k_ ≠ (s_.1 : Value).ownBlock ∧ some k_ ≠ (s_.2.1 : Value).ownBlock ∧ some k_ ≠ (s_.2.2 : Value).ownBlock) (.slice Ao32 t308.length co32) t308) ∧ (Kd.R (Kd.int .u64) 33 w' w.heap.size (fun k_ => some k_ ≠ (.slice Ao19 t303.length co19 : Value).ownBlock ∧ some k_ ≠ (.slice Ao32 t308.length co32 : Value).ownBlock ∧ some k_ ≠ (.slice Ao33 t316.length co33 : Value).ownBlock ∧ some k_ ≠ (s_.1 : Value).ownBlock ∧ some k_ ≠ (s_.2.1 : Value).ownBlock ∧ some k_ ≠ (s_.2.2 : Value).ownBlock) v313 t312) ∧ (Kd.R (Kd.int .u64) 33 w' w.heap.size (fun k_ => some k_ ≠ (.slice Ao19 t303.length co19 : Value).ownBlock ∧ some k_ ≠ (.slice Ao32 t308.length co32 : Value).ownBlock ∧ some k_ ≠ (v313 : Value).ownBlock ∧ some k_ ≠ (s_.1 : Value).ownBlock ∧ some k_ ≠ (s_.2.1 : Value).ownBlock ∧ some k_ ≠ (s_.2.2 : Value).ownBlock) (.slice Ao33 t316.length co33) t316) ∧ (Kd.R (Kd.int .u64) 33 w' w.heap.size (fun k_ => some k_ ≠ (.slice Ao19 t303.length co19 : Value).ownBlock ∧ some k_ ≠ (.slice Ao32 t308.length co32 : Value).ownBlock ∧ some k_ ≠ (v313 : Value).ownBlock ∧ some k_ ≠ (.slice Ao33 t316.length co33 : Value).ownBlock ∧ some k_ ≠ (s_.2.1 : Value).ownBlock ∧ some k_ ≠ (s_.2.2 : Value).ownBlock) s_.1 t322) ∧ (Kd.R (Kd.int .u64) 33 w' w.heap.size (fun k_ => some k_ ≠ (.slice Ao19 t303.length co19 : Value).ownBlock ∧ some k_ ≠ (.slice Ao32 t308.length co32 : Value).ownBlock ∧ some k_ ≠ (v313 : Value).ownBlock ∧ some k_ ≠ (.slice Ao33 t316.length co33 : Value).ownBlock ∧ some k_ ≠ (s_.1 : Value).ownBlock ∧ some k_ ≠ (s_.2.2 : Value).ownBlock) s_.2.1 t326) ∧ (Kd.R (Kd.int .u64) 33 w' w.heap.size (fun k_ => some k_ ≠ (.slice Ao19 t303.length co19 : Value).ownBlock ∧ some k_ ≠ (.slice Ao32 t308.length co32 : Value).ownBlock ∧ some k_ ≠ (v313 : Value).ownBlock ∧ some k_ ≠ (.slice Ao33 t316.length co33 : Value).ownBlock ∧ some k_ ≠ (s_.1 : Value).ownBlock ∧ some k_ ≠ (s_.2.1 : Value).ownBlock) s_.2.2 t330) ∧ (w'.heap[gb302]? = some (.cells #[.slice none 0 0, .int .i64 0] 25 (0, 0))) ∧ (w'.heap[gb307]? = some (.cells #[.slice Ao19 t303.length co19, .int .i64 t306] 25 (0, 0))) ∧ (w'.heap[gb321]? = some (.cells #[.slice Ao33 t316.length co33, .int .i64 t319] 25 (0, 0))) ∧ (Below w.heap.size w w')) ?_ ?_
    rotate_left
    · intro hJ2_5_8_9
      refine join_ (σ := Value × Value × Nat) 6 #[T, T, T, T, T, T, T, T, T, F, F, F, F, T, F, F] (fun s_ => [(40, s_.1), (43, .int .i64 t325), (46, .agg #[s_.2.1, .int .i64 t329]), (15, .pointer (some ⟨s_.2.2, 0, none⟩)), (41, .int .i64 (t322.length : Int)), (44, .int .i64 (Int.tmod t325 5)), (45, .int .i64 (wrap64 ((Int.tmod t325 5) + 1)))]) (fun s_ w' => (w'.cell? ⟨gb307, 0, none⟩ = some (.slice Ao19 t303.length co19) ∧ w'.cell? ⟨gb307, 1, none⟩ = some (.int .i64 t306)) ∧ (Kd.R (Kd.int .u64) 33 w' w.heap.size (fun k_ => some k_ ≠ (.slice Ao32 t308.length co32 : Value).ownBlock ∧ some k_ ≠ (v313 : Value).ownBlock ∧ some k_ ≠ (.slice Ao33 t316.length co33 : Value).ownBlock ∧ some k_ ≠ (s_.1 : Value).ownBlock ∧ some k_ ≠ (s_.2.1 : Value).ownBlock) (.slice Ao19 t303.length co19) t303) ∧ (Kd.R (Kd.int .u64) 33 w' w.heap.size (fun k_ => some k_ ≠ (.slice Ao19 t303.length co19 : Value).ownBlock ∧ some k_ ≠ (v313 : Value).ownBlock ∧ some k_ ≠ (.slice Ao33 t316.length co33 : Value).ownBlock ∧ some k_ ≠ (s_.1 : Value).ownBlock ∧ some k_ ≠ (s_.2.1 : Value).ownBlock) (.slice Ao32 t308.length co32) t308) ∧ (Kd.R (Kd.int .u64) 33 w' w.heap.size (fun k_ => some k_ ≠ (.slice Ao19 t303.length co19 : Value).ownBlock ∧ some k_ ≠ (.slice Ao32 t308.length co32 : Value).ownBlock ∧ some k_ ≠ (.slice Ao33 t316.length co33 : Value).ownBlock ∧ some k_ ≠ (s_.1 : Value).ownBlock ∧ some k_ ≠ (s_.2.1 : Value).ownBlock) v313 t312) ∧ (Kd.R (Kd.int .u64) 33 w' w.heap.size (fun k_ => some k_ ≠ (.slice Ao19 t303.length co19 : Value).ownBlock ∧ some k_ ≠ (.slice Ao32 t308.length co32 : Value).ownBlock ∧ some k_ ≠ (v313 : Value).ownBlock ∧ some k_ ≠ (s_.1 : Value).ownBlock ∧ some k_ ≠ (s_.2.1 : Value).ownBlock) (.slice Ao33 t316.length co33) t316) ∧ (Kd.R (Kd.int .u64) 33 w' w.heap.size (fun k_ => some k_ ≠ (.slice Ao19 t303.length co19 : Value).ownBlock ∧ some k_ ≠ (.slice Ao32 t308.length co32 : Value).ownBlock ∧ some k_ ≠ (v313 : Value).ownBlock ∧ some k_ ≠ (.slice Ao33 t316.length co33 : Value).ownBlock ∧ some k_ ≠ (s_.2.1 : Value).ownBlock) s_.1 t322) ∧ (Kd.R (Kd.int .u64) 33 w' w.heap.size (fun k_ => some k_ ≠ (.slice Ao19 t303.length co19 : Value).ownBlock ∧ some k_ ≠ (.slice Ao32 t308.length co32 : Value).ownBlock ∧ some k_ ≠ (v313 : Value).ownBlock ∧ some k_ ≠ (.slice Ao33 t316.length co33 : Value).ownBlock ∧ some k_ ≠ (s_.1 : Value).ownBlock) s_.2.1 t326) ∧ (w'.heap[gb302]? = some (.cells #[.slice none 0 0, .int .i64 0] 25 (0, 0))) ∧ (w'.heap[gb307]? = some (.cells #[.slice Ao19 t303.length co19, .int .i64 t306] 25 (0, 0))) ∧ (w'.heap[gb321]? = some (.cells #[.slice Ao33 t316.length co33, .int .i64 t319] 25 (0, 0))) ∧ (w'.heap[s_.2.2]? = some (.cells #[.slice none 0 0, .int .i64 0] 25 (0, 0))) ∧ (w.heap.size ≤ s_.2.2) ∧ (w.heap.size ≤ s_.2.2) ∧ (gb302 ≠ s_.2.2) ∧ (s_.2.2 ≠ gb302) ∧ (gb307 ≠ s_.2.2) ∧ (s_.2.2 ≠ gb307) ∧ (gb321 ≠ s_.2.2) ∧ (s_.2.2 ≠ gb321) ∧ (Below w.heap.size w w')) ?_ ?_
      rotate_left
      · intro hJ2_5_8_13
        refine join_ (σ := Value × Value) 7 #[T, T, T, T, T, T, T, T, T, F, F, F, F, F, F, F] (fun s_ => [(40, s_.1), (43, .int .i64 t325), (46, .agg #[s_.2, .int .i64 t329]), (41, .int .i64 (t322.length : Int)), (44, .int .i64 (Int.tmod t325 5)), (45, .int .i64 (wrap64 ((Int.tmod t325 5) + 1)))]) (fun s_ w' => (w'.cell? ⟨gb307, 0, none⟩ = some (.slice Ao19 t303.length co19) ∧ w'.cell? ⟨gb307, 1, none⟩ = some (.int .i64 t306)) ∧ (Kd.R (Kd.int .u64) 33 w' w.heap.size (fun k_ => some k_ ≠ (.slice Ao32 t308.length co32 : Value).ownBlock ∧ some k_ ≠ (v313 : Value).ownBlock ∧ some k_ ≠ (.slice Ao33 t316.length co33 : Value).ownBlock ∧ some k_ ≠ (s_.1 : Value).ownBlock ∧ some k_ ≠ (s_.2 : Value).ownBlock) (.slice Ao19 t303.length co19) t303) ∧ (Kd.R (Kd.int .u64) 33 w' w.heap.size (fun k_ => some k_ ≠ (.slice Ao19 t303.length co19 : Value).ownBlock ∧ some k_ ≠ (v313 : Value).ownBlock ∧ some k_ ≠ (.slice Ao33 t316.length co33 : Value).ownBlock ∧ some k_ ≠ (s_.1 : Value).ownBlock ∧ some k_ ≠ (s_.2 : Value).ownBlock) (.slice Ao32 t308.length co32) t308) ∧ (Kd.R (Kd.int .u64) 33 w' w.heap.size (fun k_ => some k_ ≠ (.slice Ao19 t303.length co19 : Value).ownBlock ∧ some k_ ≠ (.slice Ao32 t308.length co32 : Value).ownBlock ∧ some k_ ≠ (.slice Ao33 t316.length co33 : Value).ownBlock ∧ some k_ ≠ (s_.1 : Value).ownBlock ∧ some k_ ≠ (s_.2 : Value).ownBlock) v313 t312) ∧ (Kd.R (Kd.int .u64) 33 w' w.heap.size (fun k_ => some k_ ≠ (.slice Ao19 t303.length co19 : Value).ownBlock ∧ some k_ ≠ (.slice Ao32 t308.length co32 : Value).ownBlock ∧ some k_ ≠ (v313 : Value).ownBlock ∧ some k_ ≠ (s_.1 : Value).ownBlock ∧ some k_ ≠ (s_.2 : Value).ownBlock) (.slice Ao33 t316.length co33) t316) ∧ (Kd.R (Kd.int .u64) 33 w' w.heap.size (fun k_ => some k_ ≠ (.slice Ao19 t303.length co19 : Value).ownBlock ∧ some k_ ≠ (.slice Ao32 t308.length co32 : Value).ownBlock ∧ some k_ ≠ (v313 : Value).ownBlock ∧ some k_ ≠ (.slice Ao33 t316.length co33 : Value).ownBlock ∧ some k_ ≠ (s_.2 : Value).ownBlock) s_.1 t322) ∧ (Kd.R (Kd.int .u64) 33 w' w.heap.size (fun k_ => some k_ ≠ (.slice Ao19 t303.length co19 : Value).ownBlock ∧ some k_ ≠ (.slice Ao32 t308.length co32 : Value).ownBlock ∧ some k_ ≠ (v313 : Value).ownBlock ∧ some k_ ≠ (.slice Ao33 t316.length co33 : Value).ownBlock ∧ some k_ ≠ (s_.1 : Value).ownBlock) s_.2 t326) ∧ (w'.heap[gb302]? = some (.cells #[.slice none 0 0, .int .i64 0] 25 (0, 0))) ∧ (w'.heap[gb307]? = some (.cells #[.slice Ao19 t303.length co19, .int .i64 t306] 25 (0, 0))) ∧ (w'.heap[gb321]? = some (.cells #[.slice Ao33 t316.length co33, .int .i64 t319] 25 (0, 0))) ∧ (Below w.heap.size w w')) ?_ ?_
        rotate_left
        · intro hJ2_5_8
          refine join_ (σ := Value × Nat) 7 #[T, T, T, T, T, T, T, T, F, F, F, F, F, T, F, F] (fun s_ => [(40, s_.1), (43, .int .i64 t325), (15, .pointer (some ⟨s_.2, 0, none⟩)), (41, .int .i64 (t322.length : Int)), (44, .int .i64 (Int.tmod t325 5)), (45, .int .i64 (wrap64 ((Int.tmod t325 5) + 1)))]) (fun s_ w' => (w'.cell? ⟨gb307, 0, none⟩ = some (.slice Ao19 t303.length co19) ∧ w'.cell? ⟨gb307, 1, none⟩ = some (.int .i64 t306)) ∧ (Kd.R (Kd.int .u64) 33 w' w.heap.size (fun k_ => some k_ ≠ (.slice Ao32 t308.length co32 : Value).ownBlock ∧ some k_ ≠ (v313 : Value).ownBlock ∧ some k_ ≠ (.slice Ao33 t316.length co33 : Value).ownBlock ∧ some k_ ≠ (s_.1 : Value).ownBlock) (.slice Ao19 t303.length co19) t303) ∧ (Kd.R (Kd.int .u64) 33 w' w.heap.size (fun k_ => some k_ ≠ (.slice Ao19 t303.length co19 : Value).ownBlock ∧ some k_ ≠ (v313 : Value).ownBlock ∧ some k_ ≠ (.slice Ao33 t316.length co33 : Value).ownBlock ∧ some k_ ≠ (s_.1 : Value).ownBlock) (.slice Ao32 t308.length co32) t308) ∧ (Kd.R (Kd.int .u64) 33 w' w.heap.size (fun k_ => some k_ ≠ (.slice Ao19 t303.length co19 : Value).ownBlock ∧ some k_ ≠ (.slice Ao32 t308.length co32 : Value).ownBlock ∧ some k_ ≠ (.slice Ao33 t316.length co33 : Value).ownBlock ∧ some k_ ≠ (s_.1 : Value).ownBlock) v313 t312) ∧ (Kd.R (Kd.int .u64) 33 w' w.heap.size (fun k_ => some k_ ≠ (.slice Ao19 t303.length co19 : Value).ownBlock ∧ some k_ ≠ (.slice Ao32 t308.length co32 : Value).ownBlock ∧ some k_ ≠ (v313 : Value).ownBlock ∧ some k_ ≠ (s_.1 : Value).ownBlock) (.slice Ao33 t316.length co33) t316) ∧ (Kd.R (Kd.int .u64) 33 w' w.heap.size (fun k_ => some k_ ≠ (.slice Ao19 t303.length co19 : Value).ownBlock ∧ some k_ ≠ (.slice Ao32 t308.length co32 : Value).ownBlock ∧ some k_ ≠ (v313 : Value).ownBlock ∧ some k_ ≠ (.slice Ao33 t316.length co33 : Value).ownBlock) s_.1 t322) ∧ (w'.heap[gb302]? = some (.cells #[.slice none 0 0, .int .i64 0] 25 (0, 0))) ∧ (w'.heap[gb307]? = some (.cells #[.slice Ao19 t303.length co19, .int .i64 t306] 25 (0, 0))) ∧ (w'.heap[gb321]? = some (.cells #[.slice Ao33 t316.length co33, .int .i64 t319] 25 (0, 0))) ∧ (w'.heap[s_.2]? = some (.cells #[.slice none 0 0, .int .i64 0] 25 (0, 0))) ∧ (w.heap.size ≤ s_.2) ∧ (w.heap.size ≤ s_.2) ∧ (gb302 ≠ s_.2) ∧ (s_.2 ≠ gb302) ∧ (gb307 ≠ s_.2) ∧ (s_.2 ≠ gb307) ∧ (gb321 ≠ s_.2) ∧ (s_.2 ≠ gb321) ∧ (Below w.heap.size w w')) ?_ ?_
          rotate_left
          · intro hJ2_5_13
            refine join_ (σ := Value) 8 #[T, T, T, T, T, T, T, T, F, F, F, F, F, F, F, F] (fun s_ => [(40, s_), (43, .int .i64 t325), (41, .int .i64 (t322.length : Int)), (44, .int .i64 (Int.tmod t325 5)), (45, .int .i64 (wrap64 ((Int.tmod t325 5) + 1)))]) (fun s_ w' => (w'.cell? ⟨gb307, 0, none⟩ = some (.slice Ao19 t303.length co19) ∧ w'.cell? ⟨gb307, 1, none⟩ = some (.int .i64 t306)) ∧ (Kd.R (Kd.int .u64) 33 w' w.heap.size (fun k_ => some k_ ≠ (.slice Ao32 t308.length co32 : Value).ownBlock ∧ some k_ ≠ (v313 : Value).ownBlock ∧ some k_ ≠ (.slice Ao33 t316.length co33 : Value).ownBlock ∧ some k_ ≠ (s_ : Value).ownBlock) (.slice Ao19 t303.length co19) t303) ∧ (Kd.R (Kd.int .u64) 33 w' w.heap.size (fun k_ => some k_ ≠ (.slice Ao19 t303.length co19 : Value).ownBlock ∧ some k_ ≠ (v313 : Value).ownBlock ∧ some k_ ≠ (.slice Ao33 t316.length co33 : Value).ownBlock ∧ some k_ ≠ (s_ : Value).ownBlock) (.slice Ao32 t308.length co32) t308) ∧ (Kd.R (Kd.int .u64) 33 w' w.heap.size (fun k_ => some k_ ≠ (.slice Ao19 t303.length co19 : Value).ownBlock ∧ some k_ ≠ (.slice Ao32 t308.length co32 : Value).ownBlock ∧ some k_ ≠ (.slice Ao33 t316.length co33 : Value).ownBlock ∧ some k_ ≠ (s_ : Value).ownBlock) v313 t312) ∧ (Kd.R (Kd.int .u64) 33 w' w.heap.size (fun k_ => some k_ ≠ (.slice Ao19 t303.length co19 : Value).ownBlock ∧ some k_ ≠ (.slice Ao32 t308.length co32 : Value).ownBlock ∧ some k_ ≠ (v313 : Value).ownBlock ∧ some k_ ≠ (s_ : Value).ownBlock) (.slice Ao33 t316.length co33) t316) ∧ (Kd.R (Kd.int .u64) 33 w' w.heap.size (fun k_ => some k_ ≠ (.slice Ao19 t303.length co19 : Value).ownBlock ∧ some k_ ≠ (.slice Ao32 t308.length co32 : Value).ownBlock ∧ some k_ ≠ (v313 : Value).ownBlock ∧ some k_ ≠ (.slice Ao33 t316.length co33 : Value).ownBlock) s_ t322) ∧ (w'.heap[gb302]? = some (.cells #[.slice none 0 0, .int .i64 0] 25 (0, 0))) ∧ (w'.heap[gb307]? = some (.cells #[.slice Ao19 t303.length co19, .int .i64 t306] 25 (0, 0))) ∧ (w'.heap[gb321]? = some (.cells #[.slice Ao33 t316.length co33, .int .i64 t319] 25 (0, 0))) ∧ (Below w.heap.size w w')) ?_ ?_
            rotate_left
            · intro hJ2_5
              refine join_ (σ := Value × Nat) 10 #[T, T, T, T, T, F, F, F, F, F, F, F, F, T, F, F] (fun s_ => [(40, s_.1), (15, .pointer (some ⟨s_.2, 0, none⟩)), (41, .int .i64 (t322.length : Int))]) (fun s_ w' => (w'.cell? ⟨gb307, 0, none⟩ = some (.slice Ao19 t303.length co19) ∧ w'.cell? ⟨gb307, 1, none⟩ = some (.int .i64 t306)) ∧ (Kd.R (Kd.int .u64) 33 w' w.heap.size (fun k_ => some k_ ≠ (.slice Ao32 t308.length co32 : Value).ownBlock ∧ some k_ ≠ (v313 : Value).ownBlock ∧ some k_ ≠ (.slice Ao33 t316.length co33 : Value).ownBlock ∧ some k_ ≠ (s_.1 : Value).ownBlock) (.slice Ao19 t303.length co19) t303) ∧ (Kd.R (Kd.int .u64) 33 w' w.heap.size (fun k_ => some k_ ≠ (.slice Ao19 t303.length co19 : Value).ownBlock ∧ some k_ ≠ (v313 : Value).ownBlock ∧ some k_ ≠ (.slice Ao33 t316.length co33 : Value).ownBlock ∧ some k_ ≠ (s_.1 : Value).ownBlock) (.slice Ao32 t308.length co32) t308) ∧ (Kd.R (Kd.int .u64) 33 w' w.heap.size (fun k_ => some k_ ≠ (.slice Ao19 t303.length co19 : Value).ownBlock ∧ some k_ ≠ (.slice Ao32 t308.length co32 : Value).ownBlock ∧ some k_ ≠ (.slice Ao33 t316.length co33 : Value).ownBlock ∧ some k_ ≠ (s_.1 : Value).ownBlock) v313 t312) ∧ (Kd.R (Kd.int .u64) 33 w' w.heap.size (fun k_ => some k_ ≠ (.slice Ao19 t303.length co19 : Value).ownBlock ∧ some k_ ≠ (.slice Ao32 t308.length co32 : Value).ownBlock ∧ some k_ ≠ (v313 : Value).ownBlock ∧ some k_ ≠ (s_.1 : Value).ownBlock) (.slice Ao33 t316.length co33) t316) ∧ (Kd.R (Kd.int .u64) 33 w' w.heap.size (fun k_ => some k_ ≠ (.slice Ao19 t303.length co19 : Value).ownBlock ∧ some k_ ≠ (.slice Ao32 t308.length co32 : Value).ownBlock ∧ some k_ ≠ (v313 : Value).ownBlock ∧ some k_ ≠ (.slice Ao33 t316.length co33 : Value).ownBlock) s_.1 t322) ∧ (w'.heap[gb302]? = some (.cells #[.slice none 0 0, .int .i64 0] 25 (0, 0))) ∧ (w'.heap[gb307]? = some (.cells #[.slice Ao19 t303.length co19, .int .i64 t306] 25 (0, 0))) ∧ (w'.heap[gb321]? = some (.cells #[.slice Ao33 t316.length co33, .int .i64 t319] 25 (0, 0))) ∧ (w'.heap[s_.2]? = some (.cells #[.slice none 0 0, .int .i64 0] 25 (0, 0))) ∧ (w.heap.size ≤ s_.2) ∧ (w.heap.size ≤ s_.2) ∧ (gb302 ≠ s_.2) ∧ (s_.2 ≠ gb302) ∧ (gb307 ≠ s_.2) ∧ (s_.2 ≠ gb307) ∧ (gb321 ≠ s_.2) ∧ (s_.2 ≠ gb321) ∧ (Below w.heap.size w w')) ?_ ?_
              rotate_left
              · intro hJ2_13
                refine join_ (σ := Value) 11 #[T, T, T, T, T, F, F, F, F, F, F, F, F, F, F, F] (fun s_ => [(40, s_), (41, .int .i64 (t322.length : Int))]) (fun s_ w' => (w'.cell? ⟨gb307, 0, none⟩ = some (.slice Ao19 t303.length co19) ∧ w'.cell? ⟨gb307, 1, none⟩ = some (.int .i64 t306)) ∧ (Kd.R (Kd.int .u64) 33 w' w.heap.size (fun k_ => some k_ ≠ (.slice Ao32 t308.length co32 : Value).ownBlock ∧ some k_ ≠ (v313 : Value).ownBlock ∧ some k_ ≠ (.slice Ao33 t316.length co33 : Value).ownBlock ∧ some k_ ≠ (s_ : Value).ownBlock) (.slice Ao19 t303.length co19) t303) ∧ (Kd.R (Kd.int .u64) 33 w' w.heap.size (fun k_ => some k_ ≠ (.slice Ao19 t303.length co19 : Value).ownBlock ∧ some k_ ≠ (v313 : Value).ownBlock ∧ some k_ ≠ (.slice Ao33 t316.length co33 : Value).ownBlock ∧ some k_ ≠ (s_ : Value).ownBlock) (.slice Ao32 t308.length co32) t308) ∧ (Kd.R (Kd.int .u64) 33 w' w.heap.size (fun k_ => some k_ ≠ (.slice Ao19 t303.length co19 : Value).ownBlock ∧ some k_ ≠ (.slice Ao32 t308.length co32 : Value).ownBlock ∧ some k_ ≠ (.slice Ao33 t316.length co33 : Value).ownBlock ∧ some k_ ≠ (s_ : Value).ownBlock) v313 t312) ∧ (Kd.R (Kd.int .u64) 33 w' w.heap.size (fun k_ => some k_ ≠ (.slice Ao19 t303.length co19 : Value).ownBlock ∧ some k_ ≠ (.slice Ao32 t308.length co32 : Value).ownBlock ∧ some k_ ≠ (v313 : Value).ownBlock ∧ some k_ ≠ (s_ : Value).ownBlock) (.slice Ao33 t316.length co33) t316) ∧ (Kd.R (Kd.int .u64) 33 w' w.heap.size (fun k_ => some k_ ≠ (.slice Ao19 t303.length co19 : Value).ownBlock ∧ some k_ ≠ (.slice Ao32 t308.length co32 : Value).ownBlock ∧ some k_ ≠ (v313 : Value).ownBlock ∧ some k_ ≠ (.slice Ao33 t316.length co33 : Value).ownBlock) s_ t322) ∧ (w'.heap[gb302]? = some (.cells #[.slice none 0 0, .int .i64 0] 25 (0, 0))) ∧ (w'.heap[gb307]? = some (.cells #[.slice Ao19 t303.length co19, .int .i64 t306] 25 (0, 0))) ∧ (w'.heap[gb321]? = some (.cells #[.slice Ao33 t316.length co33, .int .i64 t319] 25 (0, 0))) ∧ (Below w.heap.size w w')) ?_ ?_
                rotate_left
                · intro hJ2
                  refine join_ (σ := Nat) 12 #[T, T, F, F, T, F, F, F, F, F, F, F, F, T, F, F] (fun s_ => [(15, .pointer (some ⟨s_, 0, none⟩))]) (fun s_ w' => (w'.cell? ⟨gb307, 0, none⟩ = some (.slice Ao19 t303.length co19) ∧ w'.cell? ⟨gb307, 1, none⟩ = some (.int .i64 t306)) ∧ (Kd.R (Kd.int .u64) 33 w' w.heap.size (fun k_ => some k_ ≠ (.slice Ao32 t308.length co32 : Value).ownBlock ∧ some k_ ≠ (v313 : Value).ownBlock ∧ some k_ ≠ (.slice Ao33 t316.length co33 : Value).ownBlock) (.slice Ao19 t303.length co19) t303) ∧ (Kd.R (Kd.int .u64) 33 w' w.heap.size (fun k_ => some k_ ≠ (.slice Ao19 t303.length co19 : Value).ownBlock ∧ some k_ ≠ (v313 : Value).ownBlock ∧ some k_ ≠ (.slice Ao33 t316.length co33 : Value).ownBlock) (.slice Ao32 t308.length co32) t308) ∧ (Kd.R (Kd.int .u64) 33 w' w.heap.size (fun k_ => some k_ ≠ (.slice Ao19 t303.length co19 : Value).ownBlock ∧ some k_ ≠ (.slice Ao32 t308.length co32 : Value).ownBlock ∧ some k_ ≠ (.slice Ao33 t316.length co33 : Value).ownBlock) v313 t312) ∧ (Kd.R (Kd.int .u64) 33 w' w.heap.size (fun k_ => some k_ ≠ (.slice Ao19 t303.length co19 : Value).ownBlock ∧ some k_ ≠ (.slice Ao32 t308.length co32 : Value).ownBlock ∧ some k_ ≠ (v313 : Value).ownBlock) (.slice Ao33 t316.length co33) t316) ∧ (w'.heap[gb302]? = some (.cells #[.slice none 0 0, .int .i64 0] 25 (0, 0))) ∧ (w'.heap[gb307]? = some (.cells #[.slice Ao19 t303.length co19, .int .i64 t306] 25 (0, 0))) ∧ (w'.heap[gb321]? = some (.cells #[.slice Ao33 t316.length co33, .int .i64 t319] 25 (0, 0))) ∧ (w'.heap[s_]? = some (.cells #[.slice none 0 0, .int .i64 0] 25 (0, 0))) ∧ (w.heap.size ≤ s_) ∧ (w.heap.size ≤ s_) ∧ (gb302 ≠ s_) ∧ (s_ ≠ gb302) ∧ (gb307 ≠ s_) ∧ (s_ ≠ gb307) ∧ (gb321 ≠ s_) ∧ (s_ ≠ gb321) ∧ (Below w.heap.size w w')) ?_ ?_
                  rotate_left
                  · intro hJ13
                    refine two_ (i := 2) (j := 13) (Ni := some 40) (Nj := some 15) #[T, T, T, F, T, F, F, F, F, F, F, F, F, F, F, F] #[T, T, F, F, T, F, F, F, F, F, F, F, F, T, F, F] rfl rfl rfl rfl (two_of HT_.out (by kernel_rfl)) (by decide) (by decide) (fun K hK => ?_) (fun K hK => ?_)
                    · skip
                      refine goes_ Try.func15 (by kernel_rfl) rfl #[.agg #[.slice Ao19 t303.length co19, .int .i64 t306]] (by rfl) rfl rfl (by (try simp only [List.map_toArray, List.map_cons, List.map_nil]); first | done | rfl | (simp only [List.length_drop, List.length_take]; rfl)) ?_
                      with_reducible refine (bloom_Words.calls _ _ t303 t306 t322 _ ?side1 ?side2 A11.out).mono ?_
                      (case side1 => exact Cs (Kd.R_reads' HO305.out).2.2)
                      (case side2 => exact (Kd.R_reads' HO305.out).2.1)
                      rintro e w38 ⟨v323, rfl, ho0, hb⟩
                      refine ⟨_, rfl, ?_⟩
                      have HO324 := Aside0.mk (Kd.R_lower (Kd.R_new' (Kd.R_new' (Kd.R_new' (Kd.R_new' ho0 (Kd.R_lt (Rs HO305.out))) (Kd.R_lt (Rs HO310.out))) (Kd.R_lt (Rs HO314.out))) (Kd.R_lt (Rs HO318.out))) (Lz HB))
                      replace HO305 := Aside0.mk (Kd.R_elder' (Rs HO305.out) (Kd.R_base ho0) hb)
                      replace HO310 := Aside0.mk (Kd.R_elder' (Rs HO310.out) (Kd.R_base ho0) hb)
                      replace HO314 := Aside0.mk (Kd.R_elder' (Rs HO314.out) (Kd.R_base ho0) hb)
                      replace HO318 := Aside0.mk (Kd.R_elder' (Rs HO318.out) (Kd.R_base ho0) hb)
                      replace BK302 := Bb BK302 hb
                      replace BK307 := Bb BK307 hb
                      replace BK321 := Bb BK321 hb
                      replace HB := Lb HB hb
                      try clear hb; try clear hb2; try clear hk; try clear hi; try clear ho0
                      obtain ⟨Ao39, co39, eo39⟩ := Kd.R_slice HO324.out
                      (first | subst eo39 | (injection eo39 with f1_ f2_ f3_; have f4_ := f1_.symm; have f5_ := f3_.symm; clear f1_ f2_ f3_; subst f4_; subst f5_))
                      refine hK.out _ _ ⟨(blk_cell BK307.out 0).trans rfl, (blk_cell BK307.out 1).trans rfl⟩ (fun hHeld => ?_)
                      clear hK K
                      refine norm_ (a' := ?_) ?_ ?_; rotate_left; (· show Act.put _ (some 40) _ = _; simp only [Act.put, sq]; rfl)
                      refine pure_ (i := 3) (N := some 41) (v := ?_) (a' := ?_) #[T, T, T, T, T, F, F, F, F, F, F, F, F, F, F, F] rfl rfl (any_of HT_.out (by kernel_rfl)) (fun _ _ _ h => h) (Or.inl ⟨by rfl, ?_⟩) ?_ ?_; rotate_left; (· intro w'; go_simp; with_reducible rfl); rotate_left; (· simp only [Act.put, sq]; rfl)
                      exact norm_ (by first | (simp only [putAll, Act.put, sq0]; done) | (simp only [putAll, Act.put, sq0]; rfl)) (hJ2 (.slice Ao39 t322.length co39) _ ⟨hHeld, (Rs (Kd.R_mono HO305.out (fun _ hk => ⟨hk.1.1, ⟨hk.1.2.1, ⟨hk.1.2.2, hk.2⟩⟩⟩))), (Rs (Kd.R_mono HO310.out (fun _ hk => ⟨hk.1.1, ⟨hk.1.2.1, ⟨hk.1.2.2, hk.2⟩⟩⟩))), (Rs (Kd.R_mono HO314.out (fun _ hk => ⟨hk.1.1, ⟨hk.1.2.1, ⟨hk.1.2.2, hk.2⟩⟩⟩))), (Rs (Kd.R_mono HO318.out (fun _ hk => ⟨hk.1.1, ⟨hk.1.2.1, ⟨hk.1.2.2, hk.2⟩⟩⟩))), (Rs (Kd.R_mono HO324.out (fun _ hk => ⟨hk.1.1.1.2, ⟨hk.1.1.2, ⟨hk.1.2, hk.2⟩⟩⟩))), (Bs BK302.out), (Bs BK307.out), (Bs BK321.out), (Ls HB)⟩)
                    · skip
                      refine box_step ?hg (N := 15) ?hd (cs := #[.slice none 0 0, .int .i64 0]) (t := 25) ?hr ?_; (case hd => rfl); (case hg => rfl); (case hr => first | (go_simp; done) | (go_simp; rfl))
                      intro gb335 hg w38 hbox hb
                      replace HO305 := Rb HO305 hb
                      replace HO310 := Rb HO310 hb
                      replace HO314 := Rb HO314 hb
                      replace HO318 := Rb HO318 hb
                      have BK335 := Aside0.mk (hbox)
                      have GW335 := Aside0.mk ((by rw [hg]; exact (Lz HB) : w.heap.size ≤ gb335))
                      have GE335 := Aside0.mk ((by rw [hg]; exact (Lz HB) : w.heap.size ≤ gb335))
                      replace HB := Lb HB hb
                      have NB302_335 := Aside0.mk ((by rw [hg]; exact Nat.ne_of_lt (blk_lt (g := gb302) (o := .cells #[.slice none 0 0, .int .i64 0] 25 (0, 0)) (Bs BK302.out)) : gb302 ≠ gb335))
                      have NB335_302 := Aside0.mk ((by rw [hg]; exact Nat.ne_of_gt (blk_lt (g := gb302) (o := .cells #[.slice none 0 0, .int .i64 0] 25 (0, 0)) (Bs BK302.out)) : gb335 ≠ gb302))
                      replace BK302 := Bb BK302 hb
                      have NB307_335 := Aside0.mk ((by rw [hg]; exact Nat.ne_of_lt (blk_lt (g := gb307) (o := .cells #[.slice Ao19 t303.length co19, .int .i64 t306] 25 (0, 0)) (Bs BK307.out)) : gb307 ≠ gb335))
                      have NB335_307 := Aside0.mk ((by rw [hg]; exact Nat.ne_of_gt (blk_lt (g := gb307) (o := .cells #[.slice Ao19 t303.length co19, .int .i64 t306] 25 (0, 0)) (Bs BK307.out)) : gb335 ≠ gb307))
                      replace BK307 := Bb BK307 hb
                      have NB321_335 := Aside0.mk ((by rw [hg]; exact Nat.ne_of_lt (blk_lt (g := gb321) (o := .cells #[.slice Ao33 t316.length co33, .int .i64 t319] 25 (0, 0)) (Bs BK321.out)) : gb321 ≠ gb335))
                      have NB335_321 := Aside0.mk ((by rw [hg]; exact Nat.ne_of_gt (blk_lt (g := gb321) (o := .cells #[.slice Ao33 t316.length co33, .int .i64 t319] 25 (0, 0)) (Bs BK321.out)) : gb335 ≠ gb321))
                      replace BK321 := Bb BK321 hb
                      clear hb hbox hg
                      refine hK.out _ _ ⟨(blk_cell BK307.out 0).trans rfl, (blk_cell BK307.out 1).trans rfl⟩ (fun hHeld => ?_)
                      clear hK K
                      refine norm_ (a' := ?_) ?_ ?_; rotate_left; (· show Act.put _ (some 15) _ = _; simp only [Act.put, sq]; rfl)
                      exact norm_ (by first | (simp only [putAll, Act.put, sq0]; done) | (simp only [putAll, Act.put, sq0]; rfl)) (hJ13 (gb335) _ ⟨hHeld, (Rs HO305.out), (Rs HO310.out), (Rs HO314.out), (Rs HO318.out), (Bs BK302.out), (Bs BK307.out), (Bs BK321.out), (Bs BK335.out), GW335.out, GE335.out, NB302_335.out, NB335_302.out, NB307_335.out, NB335_307.out, NB321_335.out, NB335_321.out, (Ls HB)⟩)
                  · skip
                    rintro gb335 w39 ⟨hS_, h0_, h1_, h2_, h3_, h4_, h5_, h6_, h7_, h8_, h9_, h10_, h11_, h12_, h13_, h14_, h15_, h16_⟩
                    try dsimp only at h0_ h1_ h2_ h3_ h4_ h5_ h6_ h7_ h8_ h9_ h10_ h11_ h12_ h13_ h14_ h15_ h16_
                    clear HO305 HO310 HO314 HO318 BK302 BK307 BK321 HB
                    have HO305 := Aside0.mk h0_; have HO310 := Aside0.mk h1_; have HO314 := Aside0.mk h2_; have HO318 := Aside0.mk h3_; have BK302 := Aside0.mk h4_; have BK307 := Aside0.mk h5_; have BK321 := Aside0.mk h6_; have BK335 := Aside0.mk h7_; have GW335 := Aside0.mk h8_; have GE335 := Aside0.mk h9_; have NB302_335 := Aside0.mk h10_; have NB335_302 := Aside0.mk h11_; have NB307_335 := Aside0.mk h12_; have NB335_307 := Aside0.mk h13_; have NB321_335 := Aside0.mk h14_; have NB335_321 := Aside0.mk h15_; have HB := Aside0.mk h16_
                    clear h0_ h1_ h2_ h3_ h4_ h5_ h6_ h7_ h8_ h9_ h10_ h11_ h12_ h13_ h14_ h15_ h16_
                    have hHeld : w39.cell? ⟨gb307, 0, none⟩ = some (.slice Ao19 t303.length co19) ∧ w39.cell? ⟨gb307, 1, none⟩ = some (.int .i64 t306) := hS_
                    refine norm_ (a' := ?_) ?_ ?_; rotate_left; (· simp only [putAll, Act.put, sq0]; rfl)
                    refine one_ (i := 2) (N := some 40) #[T, T, T, F, T, F, F, F, F, F, F, F, F, T, F, F] rfl rfl (one_of HT_.out (by kernel_rfl)) (by decide) (fun K hK => ?_)
                    refine goes_ Try.func15 (by kernel_rfl) rfl #[.agg #[.slice Ao19 t303.length co19, .int .i64 t306]] (by rfl) rfl rfl (by (try simp only [List.map_toArray, List.map_cons, List.map_nil]); first | done | rfl | (simp only [List.length_drop, List.length_take]; rfl)) ?_
                    with_reducible refine (bloom_Words.calls _ _ t303 t306 t322 _ ?side1 ?side2 A11.out).mono ?_
                    (case side1 => exact Cs (Kd.R_reads' HO305.out).2.2)
                    (case side2 => exact (Kd.R_reads' HO305.out).2.1)
                    rintro e w40 ⟨v323, rfl, ho0, hb⟩
                    refine ⟨_, rfl, ?_⟩
                    have HO324 := Aside0.mk (Kd.R_lower (Kd.R_new' (Kd.R_new' (Kd.R_new' (Kd.R_new' ho0 (Kd.R_lt (Rs HO305.out))) (Kd.R_lt (Rs HO310.out))) (Kd.R_lt (Rs HO314.out))) (Kd.R_lt (Rs HO318.out))) (Lz HB))
                    replace HO305 := Aside0.mk (Kd.R_elder' (Rs HO305.out) (Kd.R_base ho0) hb)
                    replace HO310 := Aside0.mk (Kd.R_elder' (Rs HO310.out) (Kd.R_base ho0) hb)
                    replace HO314 := Aside0.mk (Kd.R_elder' (Rs HO314.out) (Kd.R_base ho0) hb)
                    replace HO318 := Aside0.mk (Kd.R_elder' (Rs HO318.out) (Kd.R_base ho0) hb)
                    replace BK302 := Bb BK302 hb
                    replace BK307 := Bb BK307 hb
                    replace BK321 := Bb BK321 hb
                    replace BK335 := Bb BK335 hb
                    replace HB := Lb HB hb
                    try clear hb; try clear hb2; try clear hk; try clear hi; try clear ho0
                    obtain ⟨Ao41, co41, eo41⟩ := Kd.R_slice HO324.out
                    (first | subst eo41 | (injection eo41 with f1_ f2_ f3_; have f4_ := f1_.symm; have f5_ := f3_.symm; clear f1_ f2_ f3_; subst f4_; subst f5_))
                    refine hK.out _ _ ⟨(blk_cell BK307.out 0).trans rfl, (blk_cell BK307.out 1).trans rfl⟩ (fun hHeld => ?_)
                    clear hK K
                    refine norm_ (a' := ?_) ?_ ?_; rotate_left; (· show Act.put _ (some 40) _ = _; simp only [Act.put, sq]; rfl)
                    refine pure_ (i := 3) (N := some 41) (v := ?_) (a' := ?_) #[T, T, T, T, T, F, F, F, F, F, F, F, F, T, F, F] rfl rfl (any_of HT_.out (by kernel_rfl)) (fun _ _ _ h => h) (Or.inl ⟨by rfl, ?_⟩) ?_ ?_; rotate_left; (· intro w'; go_simp; with_reducible rfl); rotate_left; (· simp only [Act.put, sq]; rfl)
                    exact norm_ (by first | (simp only [putAll, Act.put, sq0]; done) | (simp only [putAll, Act.put, sq0]; rfl)) (hJ2_13 (.slice Ao41 t322.length co41, gb335) _ ⟨hHeld, (Rs (Kd.R_mono HO305.out (fun _ hk => ⟨hk.1.1, ⟨hk.1.2.1, ⟨hk.1.2.2, hk.2⟩⟩⟩))), (Rs (Kd.R_mono HO310.out (fun _ hk => ⟨hk.1.1, ⟨hk.1.2.1, ⟨hk.1.2.2, hk.2⟩⟩⟩))), (Rs (Kd.R_mono HO314.out (fun _ hk => ⟨hk.1.1, ⟨hk.1.2.1, ⟨hk.1.2.2, hk.2⟩⟩⟩))), (Rs (Kd.R_mono HO318.out (fun _ hk => ⟨hk.1.1, ⟨hk.1.2.1, ⟨hk.1.2.2, hk.2⟩⟩⟩))), (Rs (Kd.R_mono HO324.out (fun _ hk => ⟨hk.1.1.1.2, ⟨hk.1.1.2, ⟨hk.1.2, hk.2⟩⟩⟩))), (Bs BK302.out), (Bs BK307.out), (Bs BK321.out), (Bs BK335.out), GW335.out, GE335.out, NB302_335.out, NB335_302.out, NB307_335.out, NB335_307.out, NB321_335.out, NB335_321.out, (Ls HB)⟩)
                · skip
                  rintro v323 w40 ⟨hS_, h0_, h1_, h2_, h3_, h4_, h5_, h6_, h7_, h8_⟩
                  try dsimp only at h0_ h1_ h2_ h3_ h4_ h5_ h6_ h7_ h8_
                  clear HO305 HO310 HO314 HO318 BK302 BK307 BK321 HB
                  have HO305 := Aside0.mk h0_; have HO310 := Aside0.mk h1_; have HO314 := Aside0.mk h2_; have HO318 := Aside0.mk h3_; have HO324 := Aside0.mk h4_; have BK302 := Aside0.mk h5_; have BK307 := Aside0.mk h6_; have BK321 := Aside0.mk h7_; have HB := Aside0.mk h8_
                  clear h0_ h1_ h2_ h3_ h4_ h5_ h6_ h7_ h8_
                  have hHeld : w40.cell? ⟨gb307, 0, none⟩ = some (.slice Ao19 t303.length co19) ∧ w40.cell? ⟨gb307, 1, none⟩ = some (.int .i64 t306) := hS_
                  obtain ⟨Ao41, co41, eo41⟩ := Kd.R_slice HO324.out
                  (first | subst eo41 | (injection eo41 with f1_ f2_ f3_; have f4_ := f1_.symm; have f5_ := f3_.symm; clear f1_ f2_ f3_; subst f4_; subst f5_))
                  refine norm_ (a' := ?_) ?_ ?_; rotate_left; (· simp only [putAll, Act.put, sq0]; rfl)
                  refine two_ (i := 5) (j := 13) (Ni := some 43) (Nj := some 15) #[T, T, T, T, T, T, F, F, F, F, F, F, F, F, F, F] #[T, T, T, T, T, F, F, F, F, F, F, F, F, T, F, F] rfl rfl rfl rfl (two_of HT_.out (by kernel_rfl)) (by decide) (by decide) (fun K hK => ?_) (fun K hK => ?_)
                  · skip
                    refine goes_ Try.func28 (by kernel_rfl) rfl #[.agg #[.slice Ao19 t303.length co19, .int .i64 t306]] (by rfl) rfl rfl (by (try simp only [List.map_toArray, List.map_cons, List.map_nil]); first | done | rfl | (simp only [List.length_drop, List.length_take]; rfl)) ?_
                    with_reducible refine (bloom_Bits.calls _ _ t303 t306 t325 _ ?side1 ?side2 A12.out).mono ?_
                    (case side1 => exact Cs (Kd.R_reads' HO305.out).2.2)
                    (case side2 => exact (Kd.R_reads' HO305.out).2.1)
                    rintro e w42 ⟨rfl, hb⟩
                    refine ⟨_, rfl, ?_⟩
                    replace HO305 := Rb HO305 hb
                    replace HO310 := Rb HO310 hb
                    replace HO314 := Rb HO314 hb
                    replace HO318 := Rb HO318 hb
                    replace HO324 := Rb HO324 hb
                    replace BK302 := Bb BK302 hb
                    replace BK307 := Bb BK307 hb
                    replace BK321 := Bb BK321 hb
                    replace HB := Lb HB hb
                    try clear hb; try clear hb2; try clear hk; try clear hi
                    refine hK.out _ _ ⟨(blk_cell BK307.out 0).trans rfl, (blk_cell BK307.out 1).trans rfl⟩ (fun hHeld => ?_)
                    clear hK K
                    refine norm_ (a' := ?_) ?_ ?_; rotate_left; (· show Act.put _ (some 43) _ = _; simp only [Act.put, sq]; rfl)
                    refine pure_ (i := 6) (N := some 44) (v := ?_) (a' := ?_) #[T, T, T, T, T, T, T, F, F, F, F, F, F, F, F, F] rfl rfl (any_of HT_.out (by kernel_rfl)) (fun _ _ _ h => h) (Or.inl ⟨by rfl, ?_⟩) ?_ ?_; rotate_left; (· intro w'; go_simp; with_reducible rfl); rotate_left; (· simp only [Act.put, sq]; rfl)
                    refine pure_ (i := 7) (N := some 45) (v := ?_) (a' := ?_) #[T, T, T, T, T, T, T, T, F, F, F, F, F, F, F, F] rfl rfl (any_of HT_.out (by kernel_rfl)) (fun _ _ _ h => h) (Or.inl ⟨by rfl, ?_⟩) ?_ ?_; rotate_left; (· intro w'; go_simp; with_reducible rfl); rotate_left; (· simp only [Act.put, sq]; rfl)
                    exact norm_ (by first | (simp only [putAll, Act.put, sq0]; done) | (simp only [putAll, Act.put, sq0]; rfl)) (hJ2_5 (.slice Ao41 t322.length co41) _ ⟨hHeld, (Rs HO305.out), (Rs HO310.out), (Rs HO314.out), (Rs HO318.out), (Rs HO324.out), (Bs BK302.out), (Bs BK307.out), (Bs BK321.out), (Ls HB)⟩)
                  · skip
                    refine box_step ?hg (N := 15) ?hd (cs := #[.slice none 0 0, .int .i64 0]) (t := 25) ?hr ?_; (case hd => rfl); (case hg => rfl); (case hr => first | (go_simp; done) | (go_simp; rfl))
                    intro gb335 hg w42 hbox hb
                    replace HO305 := Rb HO305 hb
                    replace HO310 := Rb HO310 hb
                    replace HO314 := Rb HO314 hb
                    replace HO318 := Rb HO318 hb
                    replace HO324 := Rb HO324 hb
                    have BK335 := Aside0.mk (hbox)
                    have GW335 := Aside0.mk ((by rw [hg]; exact (Lz HB) : w.heap.size ≤ gb335))
                    have GE335 := Aside0.mk ((by rw [hg]; exact (Lz HB) : w.heap.size ≤ gb335))
                    replace HB := Lb HB hb
                    have NB302_335 := Aside0.mk ((by rw [hg]; exact Nat.ne_of_lt (blk_lt (g := gb302) (o := .cells #[.slice none 0 0, .int .i64 0] 25 (0, 0)) (Bs BK302.out)) : gb302 ≠ gb335))
                    have NB335_302 := Aside0.mk ((by rw [hg]; exact Nat.ne_of_gt (blk_lt (g := gb302) (o := .cells #[.slice none 0 0, .int .i64 0] 25 (0, 0)) (Bs BK302.out)) : gb335 ≠ gb302))
                    replace BK302 := Bb BK302 hb
                    have NB307_335 := Aside0.mk ((by rw [hg]; exact Nat.ne_of_lt (blk_lt (g := gb307) (o := .cells #[.slice Ao19 t303.length co19, .int .i64 t306] 25 (0, 0)) (Bs BK307.out)) : gb307 ≠ gb335))
                    have NB335_307 := Aside0.mk ((by rw [hg]; exact Nat.ne_of_gt (blk_lt (g := gb307) (o := .cells #[.slice Ao19 t303.length co19, .int .i64 t306] 25 (0, 0)) (Bs BK307.out)) : gb335 ≠ gb307))
                    replace BK307 := Bb BK307 hb
                    have NB321_335 := Aside0.mk ((by rw [hg]; exact Nat.ne_of_lt (blk_lt (g := gb321) (o := .cells #[.slice Ao33 t316.length co33, .int .i64 t319] 25 (0, 0)) (Bs BK321.out)) : gb321 ≠ gb335))
                    have NB335_321 := Aside0.mk ((by rw [hg]; exact Nat.ne_of_gt (blk_lt (g := gb321) (o := .cells #[.slice Ao33 t316.length co33, .int .i64 t319] 25 (0, 0)) (Bs BK321.out)) : gb335 ≠ gb321))
                    replace BK321 := Bb BK321 hb
                    clear hb hbox hg
                    refine hK.out _ _ ⟨(blk_cell BK307.out 0).trans rfl, (blk_cell BK307.out 1).trans rfl⟩ (fun hHeld => ?_)
                    clear hK K
                    refine norm_ (a' := ?_) ?_ ?_; rotate_left; (· show Act.put _ (some 15) _ = _; simp only [Act.put, sq]; rfl)
                    exact norm_ (by first | (simp only [putAll, Act.put, sq0]; done) | (simp only [putAll, Act.put, sq0]; rfl)) (hJ2_13 (.slice Ao41 t322.length co41, gb335) _ ⟨hHeld, (Rs HO305.out), (Rs HO310.out), (Rs HO314.out), (Rs HO318.out), (Rs HO324.out), (Bs BK302.out), (Bs BK307.out), (Bs BK321.out), (Bs BK335.out), GW335.out, GE335.out, NB302_335.out, NB335_302.out, NB307_335.out, NB335_307.out, NB321_335.out, NB335_321.out, (Ls HB)⟩)
              · skip
                rintro ⟨v323, gb335⟩ w41 ⟨hS_, h0_, h1_, h2_, h3_, h4_, h5_, h6_, h7_, h8_, h9_, h10_, h11_, h12_, h13_, h14_, h15_, h16_, h17_⟩
                try dsimp only at h0_ h1_ h2_ h3_ h4_ h5_ h6_ h7_ h8_ h9_ h10_ h11_ h12_ h13_ h14_ h15_ h16_ h17_
                clear HO305 HO310 HO314 HO318 BK302 BK307 BK321 HB
                have HO305 := Aside0.mk h0_; have HO310 := Aside0.mk h1_; have HO314 := Aside0.mk h2_; have HO318 := Aside0.mk h3_; have HO324 := Aside0.mk h4_; have BK302 := Aside0.mk h5_; have BK307 := Aside0.mk h6_; have BK321 := Aside0.mk h7_; have BK335 := Aside0.mk h8_; have GW335 := Aside0.mk h9_; have GE335 := Aside0.mk h10_; have NB302_335 := Aside0.mk h11_; have NB335_302 := Aside0.mk h12_; have NB307_335 := Aside0.mk h13_; have NB335_307 := Aside0.mk h14_; have NB321_335 := Aside0.mk h15_; have NB335_321 := Aside0.mk h16_; have HB := Aside0.mk h17_
                clear h0_ h1_ h2_ h3_ h4_ h5_ h6_ h7_ h8_ h9_ h10_ h11_ h12_ h13_ h14_ h15_ h16_ h17_
                have hHeld : w41.cell? ⟨gb307, 0, none⟩ = some (.slice Ao19 t303.length co19) ∧ w41.cell? ⟨gb307, 1, none⟩ = some (.int .i64 t306) := hS_
                obtain ⟨Ao42, co42, eo42⟩ := Kd.R_slice HO324.out
                (first | subst eo42 | (injection eo42 with f1_ f2_ f3_; have f4_ := f1_.symm; have f5_ := f3_.symm; clear f1_ f2_ f3_; subst f4_; subst f5_))
                refine norm_ (a' := ?_) ?_ ?_; rotate_left; (· simp only [putAll, Act.put, sq0]; rfl)
                refine one_ (i := 5) (N := some 43) #[T, T, T, T, T, T, F, F, F, F, F, F, F, T, F, F] rfl rfl (one_of HT_.out (by kernel_rfl)) (by decide) (fun K hK => ?_)
                refine goes_ Try.func28 (by kernel_rfl) rfl #[.agg #[.slice Ao19 t303.length co19, .int .i64 t306]] (by rfl) rfl rfl (by (try simp only [List.map_toArray, List.map_cons, List.map_nil]); first | done | rfl | (simp only [List.length_drop, List.length_take]; rfl)) ?_
                with_reducible refine (bloom_Bits.calls _ _ t303 t306 t325 _ ?side1 ?side2 A12.out).mono ?_
                (case side1 => exact Cs (Kd.R_reads' HO305.out).2.2)
                (case side2 => exact (Kd.R_reads' HO305.out).2.1)
                rintro e w43 ⟨rfl, hb⟩
                refine ⟨_, rfl, ?_⟩
                replace HO305 := Rb HO305 hb
                replace HO310 := Rb HO310 hb
                replace HO314 := Rb HO314 hb
                replace HO318 := Rb HO318 hb
                replace HO324 := Rb HO324 hb
                replace BK302 := Bb BK302 hb
                replace BK307 := Bb BK307 hb
                replace BK321 := Bb BK321 hb
                replace BK335 := Bb BK335 hb
                replace HB := Lb HB hb
                try clear hb; try clear hb2; try clear hk; try clear hi
                refine hK.out _ _ ⟨(blk_cell BK307.out 0).trans rfl, (blk_cell BK307.out 1).trans rfl⟩ (fun hHeld => ?_)
                clear hK K
                refine norm_ (a' := ?_) ?_ ?_; rotate_left; (· show Act.put _ (some 43) _ = _; simp only [Act.put, sq]; rfl)
                refine pure_ (i := 6) (N := some 44) (v := ?_) (a' := ?_) #[T, T, T, T, T, T, T, F, F, F, F, F, F, T, F, F] rfl rfl (any_of HT_.out (by kernel_rfl)) (fun _ _ _ h => h) (Or.inl ⟨by rfl, ?_⟩) ?_ ?_; rotate_left; (· intro w'; go_simp; with_reducible rfl); rotate_left; (· simp only [Act.put, sq]; rfl)
                refine pure_ (i := 7) (N := some 45) (v := ?_) (a' := ?_) #[T, T, T, T, T, T, T, T, F, F, F, F, F, T, F, F] rfl rfl (any_of HT_.out (by kernel_rfl)) (fun _ _ _ h => h) (Or.inl ⟨by rfl, ?_⟩) ?_ ?_; rotate_left; (· intro w'; go_simp; with_reducible rfl); rotate_left; (· simp only [Act.put, sq]; rfl)
                exact norm_ (by first | (simp only [putAll, Act.put, sq0]; done) | (simp only [putAll, Act.put, sq0]; rfl)) (hJ2_5_13 (.slice Ao42 t322.length co42, gb335) _ ⟨hHeld, (Rs HO305.out), (Rs HO310.out), (Rs HO314.out), (Rs HO318.out), (Rs HO324.out), (Bs BK302.out), (Bs BK307.out), (Bs BK321.out), (Bs BK335.out), GW335.out, GE335.out, NB302_335.out, NB335_302.out, NB307_335.out, NB335_307.out, NB321_335.out, NB335_321.out, (Ls HB)⟩)
            · skip
              rintro v323 w41 ⟨hS_, h0_, h1_, h2_, h3_, h4_, h5_, h6_, h7_, h8_⟩
              try dsimp only at h0_ h1_ h2_ h3_ h4_ h5_ h6_ h7_ h8_
              clear HO305 HO310 HO314 HO318 BK302 BK307 BK321 HB
              have HO305 := Aside0.mk h0_; have HO310 := Aside0.mk h1_; have HO314 := Aside0.mk h2_; have HO318 := Aside0.mk h3_; have HO324 := Aside0.mk h4_; have BK302 := Aside0.mk h5_; have BK307 := Aside0.mk h6_; have BK321 := Aside0.mk h7_; have HB := Aside0.mk h8_
              clear h0_ h1_ h2_ h3_ h4_ h5_ h6_ h7_ h8_
              have hHeld : w41.cell? ⟨gb307, 0, none⟩ = some (.slice Ao19 t303.length co19) ∧ w41.cell? ⟨gb307, 1, none⟩ = some (.int .i64 t306) := hS_
              obtain ⟨Ao42, co42, eo42⟩ := Kd.R_slice HO324.out
              (first | subst eo42 | (injection eo42 with f1_ f2_ f3_; have f4_ := f1_.symm; have f5_ := f3_.symm; clear f1_ f2_ f3_; subst f4_; subst f5_))
              refine norm_ (a' := ?_) ?_ ?_; rotate_left; (· simp only [putAll, Act.put, sq0]; rfl)
              refine two_ (i := 8) (j := 13) (Ni := some 46) (Nj := some 15) #[T, T, T, T, T, T, T, T, T, F, F, F, F, F, F, F] #[T, T, T, T, T, T, T, T, F, F, F, F, F, T, F, F] rfl rfl rfl rfl (two_of HT_.out (by kernel_rfl)) (by decide) (by decide) (fun K hK => ?_) (fun K hK => ?_)
              · skip
                refine goes_ Try.func11 (by kernel_rfl) rfl #[.int .i64 (t322.length : Int), .int .i64 (wrap64 ((Int.tmod t325 5) + 1))] (by rfl) rfl rfl (by (try simp only [List.map_toArray, List.map_cons, List.map_nil]); first | done | rfl | (simp only [List.length_drop, List.length_take]; rfl)) ?_
                with_reducible refine (bloom_New.calls (t322.length : Int) (wrap64 ((Int.tmod t325 5) + 1)) t326 t329 _ A13.out).mono ?_
                rintro e w43 ⟨v327, rfl, ho0, hb⟩
                refine ⟨_, rfl, ?_⟩
                have HO328 := Aside0.mk (Kd.R_lower (Kd.R_new' (Kd.R_new' (Kd.R_new' (Kd.R_new' (Kd.R_new' ho0 (Kd.R_lt (Rs HO305.out))) (Kd.R_lt (Rs HO310.out))) (Kd.R_lt (Rs HO314.out))) (Kd.R_lt (Rs HO318.out))) (Kd.R_lt (Rs HO324.out))) (Lz HB))
                replace HO305 := Aside0.mk (Kd.R_elder' (Rs HO305.out) (Kd.R_base ho0) hb)
                replace HO310 := Aside0.mk (Kd.R_elder' (Rs HO310.out) (Kd.R_base ho0) hb)
                replace HO314 := Aside0.mk (Kd.R_elder' (Rs HO314.out) (Kd.R_base ho0) hb)
                replace HO318 := Aside0.mk (Kd.R_elder' (Rs HO318.out) (Kd.R_base ho0) hb)
                replace HO324 := Aside0.mk (Kd.R_elder' (Rs HO324.out) (Kd.R_base ho0) hb)
                replace BK302 := Bb BK302 hb
                replace BK307 := Bb BK307 hb
                replace BK321 := Bb BK321 hb
                replace HB := Lb HB hb
                try clear hb; try clear hb2; try clear hk; try clear hi; try clear ho0
                refine hK.out _ _ ⟨(blk_cell BK307.out 0).trans rfl, (blk_cell BK307.out 1).trans rfl⟩ (fun hHeld => ?_)
                clear hK K
                refine norm_ (a' := ?_) ?_ ?_; rotate_left; (· show Act.put _ (some 46) _ = _; simp only [Act.put, sq]; rfl)
                exact norm_ (by first | (simp only [putAll, Act.put, sq0]; done) | (simp only [putAll, Act.put, sq0]; rfl)) (hJ2_5_8 (.slice Ao42 t322.length co42, v327) _ ⟨hHeld, (Rs (Kd.R_mono HO305.out (fun _ hk => ⟨hk.1.1, ⟨hk.1.2.1, ⟨hk.1.2.2.1, ⟨hk.1.2.2.2, hk.2⟩⟩⟩⟩))), (Rs (Kd.R_mono HO310.out (fun _ hk => ⟨hk.1.1, ⟨hk.1.2.1, ⟨hk.1.2.2.1, ⟨hk.1.2.2.2, hk.2⟩⟩⟩⟩))), (Rs (Kd.R_mono HO314.out (fun _ hk => ⟨hk.1.1, ⟨hk.1.2.1, ⟨hk.1.2.2.1, ⟨hk.1.2.2.2, hk.2⟩⟩⟩⟩))), (Rs (Kd.R_mono HO318.out (fun _ hk => ⟨hk.1.1, ⟨hk.1.2.1, ⟨hk.1.2.2.1, ⟨hk.1.2.2.2, hk.2⟩⟩⟩⟩))), (Rs (Kd.R_mono HO324.out (fun _ hk => ⟨hk.1.1, ⟨hk.1.2.1, ⟨hk.1.2.2.1, ⟨hk.1.2.2.2, hk.2⟩⟩⟩⟩))), (Rs (Kd.R_mono HO328.out (fun _ hk => ⟨hk.1.1.1.1.2, ⟨hk.1.1.1.2, ⟨hk.1.1.2, ⟨hk.1.2, hk.2⟩⟩⟩⟩))), (Bs BK302.out), (Bs BK307.out), (Bs BK321.out), (Ls HB)⟩)
              · skip
                refine box_step ?hg (N := 15) ?hd (cs := #[.slice none 0 0, .int .i64 0]) (t := 25) ?hr ?_; (case hd => rfl); (case hg => rfl); (case hr => first | (go_simp; done) | (go_simp; rfl))
                intro gb335 hg w43 hbox hb
                replace HO305 := Rb HO305 hb
                replace HO310 := Rb HO310 hb
                replace HO314 := Rb HO314 hb
                replace HO318 := Rb HO318 hb
                replace HO324 := Rb HO324 hb
                have BK335 := Aside0.mk (hbox)
                have GW335 := Aside0.mk ((by rw [hg]; exact (Lz HB) : w.heap.size ≤ gb335))
                have GE335 := Aside0.mk ((by rw [hg]; exact (Lz HB) : w.heap.size ≤ gb335))
                replace HB := Lb HB hb
                have NB302_335 := Aside0.mk ((by rw [hg]; exact Nat.ne_of_lt (blk_lt (g := gb302) (o := .cells #[.slice none 0 0, .int .i64 0] 25 (0, 0)) (Bs BK302.out)) : gb302 ≠ gb335))
                have NB335_302 := Aside0.mk ((by rw [hg]; exact Nat.ne_of_gt (blk_lt (g := gb302) (o := .cells #[.slice none 0 0, .int .i64 0] 25 (0, 0)) (Bs BK302.out)) : gb335 ≠ gb302))
                replace BK302 := Bb BK302 hb
                have NB307_335 := Aside0.mk ((by rw [hg]; exact Nat.ne_of_lt (blk_lt (g := gb307) (o := .cells #[.slice Ao19 t303.length co19, .int .i64 t306] 25 (0, 0)) (Bs BK307.out)) : gb307 ≠ gb335))
                have NB335_307 := Aside0.mk ((by rw [hg]; exact Nat.ne_of_gt (blk_lt (g := gb307) (o := .cells #[.slice Ao19 t303.length co19, .int .i64 t306] 25 (0, 0)) (Bs BK307.out)) : gb335 ≠ gb307))
                replace BK307 := Bb BK307 hb
                have NB321_335 := Aside0.mk ((by rw [hg]; exact Nat.ne_of_lt (blk_lt (g := gb321) (o := .cells #[.slice Ao33 t316.length co33, .int .i64 t319] 25 (0, 0)) (Bs BK321.out)) : gb321 ≠ gb335))
                have NB335_321 := Aside0.mk ((by rw [hg]; exact Nat.ne_of_gt (blk_lt (g := gb321) (o := .cells #[.slice Ao33 t316.length co33, .int .i64 t319] 25 (0, 0)) (Bs BK321.out)) : gb335 ≠ gb321))
                replace BK321 := Bb BK321 hb
                clear hb hbox hg
                refine hK.out _ _ ⟨(blk_cell BK307.out 0).trans rfl, (blk_cell BK307.out 1).trans rfl⟩ (fun hHeld => ?_)
                clear hK K
                refine norm_ (a' := ?_) ?_ ?_; rotate_left; (· show Act.put _ (some 15) _ = _; simp only [Act.put, sq]; rfl)
                exact norm_ (by first | (simp only [putAll, Act.put, sq0]; done) | (simp only [putAll, Act.put, sq0]; rfl)) (hJ2_5_13 (.slice Ao42 t322.length co42, gb335) _ ⟨hHeld, (Rs HO305.out), (Rs HO310.out), (Rs HO314.out), (Rs HO318.out), (Rs HO324.out), (Bs BK302.out), (Bs BK307.out), (Bs BK321.out), (Bs BK335.out), GW335.out, GE335.out, NB302_335.out, NB335_302.out, NB307_335.out, NB335_307.out, NB321_335.out, NB335_321.out, (Ls HB)⟩)
          · skip
            rintro ⟨v323, gb335⟩ w42 ⟨hS_, h0_, h1_, h2_, h3_, h4_, h5_, h6_, h7_, h8_, h9_, h10_, h11_, h12_, h13_, h14_, h15_, h16_, h17_⟩
            try dsimp only at h0_ h1_ h2_ h3_ h4_ h5_ h6_ h7_ h8_ h9_ h10_ h11_ h12_ h13_ h14_ h15_ h16_ h17_
            clear HO305 HO310 HO314 HO318 BK302 BK307 BK321 HB
            have HO305 := Aside0.mk h0_; have HO310 := Aside0.mk h1_; have HO314 := Aside0.mk h2_; have HO318 := Aside0.mk h3_; have HO324 := Aside0.mk h4_; have BK302 := Aside0.mk h5_; have BK307 := Aside0.mk h6_; have BK321 := Aside0.mk h7_; have BK335 := Aside0.mk h8_; have GW335 := Aside0.mk h9_; have GE335 := Aside0.mk h10_; have NB302_335 := Aside0.mk h11_; have NB335_302 := Aside0.mk h12_; have NB307_335 := Aside0.mk h13_; have NB335_307 := Aside0.mk h14_; have NB321_335 := Aside0.mk h15_; have NB335_321 := Aside0.mk h16_; have HB := Aside0.mk h17_
            clear h0_ h1_ h2_ h3_ h4_ h5_ h6_ h7_ h8_ h9_ h10_ h11_ h12_ h13_ h14_ h15_ h16_ h17_
            have hHeld : w42.cell? ⟨gb307, 0, none⟩ = some (.slice Ao19 t303.length co19) ∧ w42.cell? ⟨gb307, 1, none⟩ = some (.int .i64 t306) := hS_
            obtain ⟨Ao43, co43, eo43⟩ := Kd.R_slice HO324.out
            (first | subst eo43 | (injection eo43 with f1_ f2_ f3_; have f4_ := f1_.symm; have f5_ := f3_.symm; clear f1_ f2_ f3_; subst f4_; subst f5_))
            refine norm_ (a' := ?_) ?_ ?_; rotate_left; (· simp only [putAll, Act.put, sq0]; rfl)
            refine one_ (i := 8) (N := some 46) #[T, T, T, T, T, T, T, T, T, F, F, F, F, T, F, F] rfl rfl (one_of HT_.out (by kernel_rfl)) (by decide) (fun K hK => ?_)
            refine goes_ Try.func11 (by kernel_rfl) rfl #[.int .i64 (t322.length : Int), .int .i64 (wrap64 ((Int.tmod t325 5) + 1))] (by rfl) rfl rfl (by (try simp only [List.map_toArray, List.map_cons, List.map_nil]); first | done | rfl | (simp only [List.length_drop, List.length_take]; rfl)) ?_
            with_reducible refine (bloom_New.calls (t322.length : Int) (wrap64 ((Int.tmod t325 5) + 1)) t326 t329 _ A13.out).mono ?_
            rintro e w44 ⟨v327, rfl, ho0, hb⟩
            refine ⟨_, rfl, ?_⟩
            have HO328 := Aside0.mk (Kd.R_lower (Kd.R_new' (Kd.R_new' (Kd.R_new' (Kd.R_new' (Kd.R_new' ho0 (Kd.R_lt (Rs HO305.out))) (Kd.R_lt (Rs HO310.out))) (Kd.R_lt (Rs HO314.out))) (Kd.R_lt (Rs HO318.out))) (Kd.R_lt (Rs HO324.out))) (Lz HB))
            replace HO305 := Aside0.mk (Kd.R_elder' (Rs HO305.out) (Kd.R_base ho0) hb)
            replace HO310 := Aside0.mk (Kd.R_elder' (Rs HO310.out) (Kd.R_base ho0) hb)
            replace HO314 := Aside0.mk (Kd.R_elder' (Rs HO314.out) (Kd.R_base ho0) hb)
            replace HO318 := Aside0.mk (Kd.R_elder' (Rs HO318.out) (Kd.R_base ho0) hb)
            replace HO324 := Aside0.mk (Kd.R_elder' (Rs HO324.out) (Kd.R_base ho0) hb)
            replace BK302 := Bb BK302 hb
            replace BK307 := Bb BK307 hb
            replace BK321 := Bb BK321 hb
            replace BK335 := Bb BK335 hb
            replace HB := Lb HB hb
            try clear hb; try clear hb2; try clear hk; try clear hi; try clear ho0
            refine hK.out _ _ ⟨(blk_cell BK307.out 0).trans rfl, (blk_cell BK307.out 1).trans rfl⟩ (fun hHeld => ?_)
            clear hK K
            refine norm_ (a' := ?_) ?_ ?_; rotate_left; (· show Act.put _ (some 46) _ = _; simp only [Act.put, sq]; rfl)
            exact norm_ (by first | (simp only [putAll, Act.put, sq0]; done) | (simp only [putAll, Act.put, sq0]; rfl)) (hJ2_5_8_13 (.slice Ao43 t322.length co43, v327, gb335) _ ⟨hHeld, (Rs (Kd.R_mono HO305.out (fun _ hk => ⟨hk.1.1, ⟨hk.1.2.1, ⟨hk.1.2.2.1, ⟨hk.1.2.2.2, hk.2⟩⟩⟩⟩))), (Rs (Kd.R_mono HO310.out (fun _ hk => ⟨hk.1.1, ⟨hk.1.2.1, ⟨hk.1.2.2.1, ⟨hk.1.2.2.2, hk.2⟩⟩⟩⟩))), (Rs (Kd.R_mono HO314.out (fun _ hk => ⟨hk.1.1, ⟨hk.1.2.1, ⟨hk.1.2.2.1, ⟨hk.1.2.2.2, hk.2⟩⟩⟩⟩))), (Rs (Kd.R_mono HO318.out (fun _ hk => ⟨hk.1.1, ⟨hk.1.2.1, ⟨hk.1.2.2.1, ⟨hk.1.2.2.2, hk.2⟩⟩⟩⟩))), (Rs (Kd.R_mono HO324.out (fun _ hk => ⟨hk.1.1, ⟨hk.1.2.1, ⟨hk.1.2.2.1, ⟨hk.1.2.2.2, hk.2⟩⟩⟩⟩))), (Rs (Kd.R_mono HO328.out (fun _ hk => ⟨hk.1.1.1.1.2, ⟨hk.1.1.1.2, ⟨hk.1.1.2, ⟨hk.1.2, hk.2⟩⟩⟩⟩))), (Bs BK302.out), (Bs BK307.out), (Bs BK321.out), (Bs BK335.out), GW335.out, GE335.out, NB302_335.out, NB335_302.out, NB307_335.out, NB335_307.out, NB321_335.out, NB335_321.out, (Ls HB)⟩)
        · skip
          rintro ⟨v323, v327⟩ w42 ⟨hS_, h0_, h1_, h2_, h3_, h4_, h5_, h6_, h7_, h8_, h9_⟩
          try dsimp only at h0_ h1_ h2_ h3_ h4_ h5_ h6_ h7_ h8_ h9_
          clear HO305 HO310 HO314 HO318 BK302 BK307 BK321 HB
          have HO305 := Aside0.mk h0_; have HO310 := Aside0.mk h1_; have HO314 := Aside0.mk h2_; have HO318 := Aside0.mk h3_; have HO324 := Aside0.mk h4_; have HO328 := Aside0.mk h5_; have BK302 := Aside0.mk h6_; have BK307 := Aside0.mk h7_; have BK321 := Aside0.mk h8_; have HB := Aside0.mk h9_
          clear h0_ h1_ h2_ h3_ h4_ h5_ h6_ h7_ h8_ h9_
          have hHeld : w42.cell? ⟨gb307, 0, none⟩ = some (.slice Ao19 t303.length co19) ∧ w42.cell? ⟨gb307, 1, none⟩ = some (.int .i64 t306) := hS_
          obtain ⟨Ao43, co43, eo43⟩ := Kd.R_slice HO324.out
          (first | subst eo43 | (injection eo43 with f1_ f2_ f3_; have f4_ := f1_.symm; have f5_ := f3_.symm; clear f1_ f2_ f3_; subst f4_; subst f5_))
          obtain ⟨Ao44, co44, eo44⟩ := Kd.R_slice HO328.out
          (first | subst eo44 | (injection eo44 with f1_ f2_ f3_; have f4_ := f1_.symm; have f5_ := f3_.symm; clear f1_ f2_ f3_; subst f4_; subst f5_))
          refine norm_ (a' := ?_) ?_ ?_; rotate_left; (· simp only [putAll, Act.put, sq0]; rfl)
          refine two_ (i := 9) (j := 13) (Ni := some 47) (Nj := some 15) #[T, T, T, T, T, T, T, T, T, T, F, F, F, F, F, F] #[T, T, T, T, T, T, T, T, T, F, F, F, F, T, F, F] rfl rfl rfl rfl (two_of HT_.out (by kernel_rfl)) (by decide) (by decide) (fun K hK => ?_) (fun K hK => ?_)
          · skip
            refine goes_ Try.func12 (by kernel_rfl) rfl #[.agg #[.slice Ao19 t303.length co19, .int .i64 t306], .agg #[.slice Ao44 t326.length co44, .int .i64 t329]] (by rfl) rfl rfl (by (try simp only [List.map_toArray, List.map_cons, List.map_nil]); first | done | rfl | (simp only [List.length_drop, List.length_take]; rfl)) ?_
            with_reducible refine (bloom_Union.calls k _ _ t303 t306 _ _ t326 t329 t330 t333 t334 _ ?side1 ?side2 ?side3 ?side4 A14.out).mono ?_
            (case side1 => exact Cs (Kd.R_reads' HO305.out).2.2)
            (case side2 => exact (Kd.R_reads' HO305.out).2.1)
            (case side3 => exact Cs (Kd.R_reads' HO328.out).2.2)
            (case side4 => exact (Kd.R_reads' HO328.out).2.1)
            rintro e w45 ⟨v331, rfl, ho0, hb⟩
            refine ⟨_, rfl, ?_⟩
            have HO332 := Aside0.mk (Kd.R_lower (Kd.R_new' (Kd.R_new' (Kd.R_new' (Kd.R_new' (Kd.R_new' (Kd.R_new' ho0 (Kd.R_lt (Rs HO305.out))) (Kd.R_lt (Rs HO310.out))) (Kd.R_lt (Rs HO314.out))) (Kd.R_lt (Rs HO318.out))) (Kd.R_lt (Rs HO324.out))) (Kd.R_lt (Rs HO328.out))) (Lz HB))
            replace HO305 := Aside0.mk (Kd.R_elder' (Rs HO305.out) (Kd.R_base ho0) hb)
            replace HO310 := Aside0.mk (Kd.R_elder' (Rs HO310.out) (Kd.R_base ho0) hb)
            replace HO314 := Aside0.mk (Kd.R_elder' (Rs HO314.out) (Kd.R_base ho0) hb)
            replace HO318 := Aside0.mk (Kd.R_elder' (Rs HO318.out) (Kd.R_base ho0) hb)
            replace HO324 := Aside0.mk (Kd.R_elder' (Rs HO324.out) (Kd.R_base ho0) hb)
            replace HO328 := Aside0.mk (Kd.R_elder' (Rs HO328.out) (Kd.R_base ho0) hb)
            replace BK302 := Bb BK302 hb
            replace BK307 := Bb BK307 hb
            replace BK321 := Bb BK321 hb
            replace HB := Lb HB hb
            try clear hb; try clear hb2; try clear hk; try clear hi; try clear ho0
            refine hK.out _ _ ⟨(blk_cell BK307.out 0).trans rfl, (blk_cell BK307.out 1).trans rfl⟩ (fun hHeld => ?_)
            clear hK K
            refine norm_ (a' := ?_) ?_ ?_; rotate_left; (· show Act.put _ (some 47) _ = _; simp only [Act.put, sq]; rfl)
            refine pure_ (i := 10) (N := some 37) (v := ?_) (a' := ?_) #[T, T, T, T, T, T, T, T, T, T, T, F, F, F, F, F] rfl rfl (any_of HT_.out (by kernel_rfl)) (fun _ _ _ h => h) (Or.inl ⟨by rfl, ?_⟩) ?_ ?_; rotate_left; (· intro w'; go_simp; with_reducible rfl); rotate_left; (· simp only [Act.put, sq]; rfl)
            refine pure_ (i := 11) (N := some 48) (v := ?_) (a' := ?_) #[T, T, T, T, T, T, T, T, T, T, T, T, F, F, F, F] rfl rfl (any_of HT_.out (by kernel_rfl)) (fun _ _ _ h => h) (Or.inl ⟨by rfl, ?_⟩) ?_ ?_; rotate_left; (· intro w'; go_simp; with_reducible rfl); rotate_left; (· simp only [Act.put, sq]; rfl)
            refine pure_ (i := 12) (N := some 49) (v := ?_) (a' := ?_) #[T, T, T, T, T, T, T, T, T, T, T, T, T, F, F, F] rfl rfl (any_of HT_.out (by kernel_rfl)) (fun _ _ _ h => h) (Or.inl ⟨by rfl, ?_⟩) ?_ ?_; rotate_left; (· intro w'; go_simp; with_reducible rfl); rotate_left; (· simp only [Act.put, sq]; rfl)
            exact norm_ (by first | (simp only [putAll, Act.put, sq0]; done) | (simp only [putAll, Act.put, sq0]; rfl)) (hJ2_5_8_9 (.slice Ao43 t322.length co43, .slice Ao44 t326.length co44, v331) _ ⟨hHeld, (Rs (Kd.R_mono HO305.out (fun _ hk => ⟨hk.1.1, ⟨hk.1.2.1, ⟨hk.1.2.2.1, ⟨hk.1.2.2.2.1, ⟨hk.1.2.2.2.2, hk.2⟩⟩⟩⟩⟩))), (Rs (Kd.R_mono HO310.out (fun _ hk => ⟨hk.1.1, ⟨hk.1.2.1, ⟨hk.1.2.2.1, ⟨hk.1.2.2.2.1, ⟨hk.1.2.2.2.2, hk.2⟩⟩⟩⟩⟩))), (Rs (Kd.R_mono HO314.out (fun _ hk => ⟨hk.1.1, ⟨hk.1.2.1, ⟨hk.1.2.2.1, ⟨hk.1.2.2.2.1, ⟨hk.1.2.2.2.2, hk.2⟩⟩⟩⟩⟩))), (Rs (Kd.R_mono HO318.out (fun _ hk => ⟨hk.1.1, ⟨hk.1.2.1, ⟨hk.1.2.2.1, ⟨hk.1.2.2.2.1, ⟨hk.1.2.2.2.2, hk.2⟩⟩⟩⟩⟩))), (Rs (Kd.R_mono HO324.out (fun _ hk => ⟨hk.1.1, ⟨hk.1.2.1, ⟨hk.1.2.2.1, ⟨hk.1.2.2.2.1, ⟨hk.1.2.2.2.2, hk.2⟩⟩⟩⟩⟩))), (Rs (Kd.R_mono HO328.out (fun _ hk => ⟨hk.1.1, ⟨hk.1.2.1, ⟨hk.1.2.2.1, ⟨hk.1.2.2.2.1, ⟨hk.1.2.2.2.2, hk.2⟩⟩⟩⟩⟩))), (Rs (Kd.R_mono HO332.out (fun _ hk => ⟨hk.1.1.1.1.1.2, ⟨hk.1.1.1.1.2, ⟨hk.1.1.1.2, ⟨hk.1.1.2, ⟨hk.1.2, hk.2⟩⟩⟩⟩⟩))), (Bs BK302.out), (Bs BK307.out), (Bs BK321.out), (Ls HB)⟩)
          · skip
            refine box_step ?hg (N := 15) ?hd (cs := #[.slice none 0 0, .int .i64 0]) (t := 25) ?hr ?_; (case hd => rfl); (case hg => rfl); (case hr => first | (go_simp; done) | (go_simp; rfl))
            intro gb335 hg w44 hbox hb
            replace HO305 := Rb HO305 hb
            replace HO310 := Rb HO310 hb
            replace HO314 := Rb HO314 hb
            replace HO318 := Rb HO318 hb
            replace HO324 := Rb HO324 hb
            replace HO328 := Rb HO328 hb
            have BK335 := Aside0.mk (hbox)
            have GW335 := Aside0.mk ((by rw [hg]; exact (Lz HB) : w.heap.size ≤ gb335))
            have GE335 := Aside0.mk ((by rw [hg]; exact (Lz HB) : w.heap.size ≤ gb335))
            replace HB := Lb HB hb
            have NB302_335 := Aside0.mk ((by rw [hg]; exact Nat.ne_of_lt (blk_lt (g := gb302) (o := .cells #[.slice none 0 0, .int .i64 0] 25 (0, 0)) (Bs BK302.out)) : gb302 ≠ gb335))
            have NB335_302 := Aside0.mk ((by rw [hg]; exact Nat.ne_of_gt (blk_lt (g := gb302) (o := .cells #[.slice none 0 0, .int .i64 0] 25 (0, 0)) (Bs BK302.out)) : gb335 ≠ gb302))
            replace BK302 := Bb BK302 hb
            have NB307_335 := Aside0.mk ((by rw [hg]; exact Nat.ne_of_lt (blk_lt (g := gb307) (o := .cells #[.slice Ao19 t303.length co19, .int .i64 t306] 25 (0, 0)) (Bs BK307.out)) : gb307 ≠ gb335))
            have NB335_307 := Aside0.mk ((by rw [hg]; exact Nat.ne_of_gt (blk_lt (g := gb307) (o := .cells #[.slice Ao19 t303.length co19, .int .i64 t306] 25 (0, 0)) (Bs BK307.out)) : gb335 ≠ gb307))
            replace BK307 := Bb BK307 hb
            have NB321_335 := Aside0.mk ((by rw [hg]; exact Nat.ne_of_lt (blk_lt (g := gb321) (o := .cells #[.slice Ao33 t316.length co33, .int .i64 t319] 25 (0, 0)) (Bs BK321.out)) : gb321 ≠ gb335))
            have NB335_321 := Aside0.mk ((by rw [hg]; exact Nat.ne_of_gt (blk_lt (g := gb321) (o := .cells #[.slice Ao33 t316.length co33, .int .i64 t319] 25 (0, 0)) (Bs BK321.out)) : gb335 ≠ gb321))
            replace BK321 := Bb BK321 hb
            clear hb hbox hg
            refine hK.out _ _ ⟨(blk_cell BK307.out 0).trans rfl, (blk_cell BK307.out 1).trans rfl⟩ (fun hHeld => ?_)
            clear hK K
            refine norm_ (a' := ?_) ?_ ?_; rotate_left; (· show Act.put _ (some 15) _ = _; simp only [Act.put, sq]; rfl)
            exact norm_ (by first | (simp only [putAll, Act.put, sq0]; done) | (simp only [putAll, Act.put, sq0]; rfl)) (hJ2_5_8_13 (.slice Ao43 t322.length co43, .slice Ao44 t326.length co44, gb335) _ ⟨hHeld, (Rs HO305.out), (Rs HO310.out), (Rs HO314.out), (Rs HO318.out), (Rs HO324.out), (Rs HO328.out), (Bs BK302.out), (Bs BK307.out), (Bs BK321.out), (Bs BK335.out), GW335.out, GE335.out, NB302_335.out, NB335_302.out, NB307_335.out, NB335_307.out, NB321_335.out, NB335_321.out, (Ls HB)⟩)
      · skip
        rintro ⟨v323, v327, gb335⟩ w43 ⟨hS_, h0_, h1_, h2_, h3_, h4_, h5_, h6_, h7_, h8_, h9_, h10_, h11_, h12_, h13_, h14_, h15_, h16_, h17_, h18_⟩
        try dsimp only at h0_ h1_ h2_ h3_ h4_ h5_ h6_ h7_ h8_ h9_ h10_ h11_ h12_ h13_ h14_ h15_ h16_ h17_ h18_
        clear HO305 HO310 HO314 HO318 BK302 BK307 BK321 HB
        have HO305 := Aside0.mk h0_; have HO310 := Aside0.mk h1_; have HO314 := Aside0.mk h2_; have HO318 := Aside0.mk h3_; have HO324 := Aside0.mk h4_; have HO328 := Aside0.mk h5_; have BK302 := Aside0.mk h6_; have BK307 := Aside0.mk h7_; have BK321 := Aside0.mk h8_; have BK335 := Aside0.mk h9_; have GW335 := Aside0.mk h10_; have GE335 := Aside0.mk h11_; have NB302_335 := Aside0.mk h12_; have NB335_302 := Aside0.mk h13_; have NB307_335 := Aside0.mk h14_; have NB335_307 := Aside0.mk h15_; have NB321_335 := Aside0.mk h16_; have NB335_321 := Aside0.mk h17_; have HB := Aside0.mk h18_
        clear h0_ h1_ h2_ h3_ h4_ h5_ h6_ h7_ h8_ h9_ h10_ h11_ h12_ h13_ h14_ h15_ h16_ h17_ h18_
        have hHeld : w43.cell? ⟨gb307, 0, none⟩ = some (.slice Ao19 t303.length co19) ∧ w43.cell? ⟨gb307, 1, none⟩ = some (.int .i64 t306) := hS_
        obtain ⟨Ao44, co44, eo44⟩ := Kd.R_slice HO324.out
        (first | subst eo44 | (injection eo44 with f1_ f2_ f3_; have f4_ := f1_.symm; have f5_ := f3_.symm; clear f1_ f2_ f3_; subst f4_; subst f5_))
        obtain ⟨Ao45, co45, eo45⟩ := Kd.R_slice HO328.out
        (first | subst eo45 | (injection eo45 with f1_ f2_ f3_; have f4_ := f1_.symm; have f5_ := f3_.symm; clear f1_ f2_ f3_; subst f4_; subst f5_))
        refine norm_ (a' := ?_) ?_ ?_; rotate_left; (· simp only [putAll, Act.put, sq0]; rfl)
        refine one_ (i := 9) (N := some 47) #[T, T, T, T, T, T, T, T, T, T, F, F, F, T, F, F] rfl rfl (one_of HT_.out (by kernel_rfl)) (by decide) (fun K hK => ?_)
        refine goes_ Try.func12 (by kernel_rfl) rfl #[.agg #[.slice Ao19 t303.length co19, .int .i64 t306], .agg #[.slice Ao45 t326.length co45, .int .i64 t329]] (by rfl) rfl rfl (by (try simp only [List.map_toArray, List.map_cons, List.map_nil]); first | done | rfl | (simp only [List.length_drop, List.length_take]; rfl)) ?_
        with_reducible refine (bloom_Union.calls k _ _ t303 t306 _ _ t326 t329 t330 t333 t334 _ ?side1 ?side2 ?side3 ?side4 A14.out).mono ?_
        (case side1 => exact Cs (Kd.R_reads' HO305.out).2.2)
        (case side2 => exact (Kd.R_reads' HO305.out).2.1)
        (case side3 => exact Cs (Kd.R_reads' HO328.out).2.2)
        (case side4 => exact (Kd.R_reads' HO328.out).2.1)
        rintro e w46 ⟨v331, rfl, ho0, hb⟩
        refine ⟨_, rfl, ?_⟩
        have HO332 := Aside0.mk (Kd.R_lower (Kd.R_new' (Kd.R_new' (Kd.R_new' (Kd.R_new' (Kd.R_new' (Kd.R_new' ho0 (Kd.R_lt (Rs HO305.out))) (Kd.R_lt (Rs HO310.out))) (Kd.R_lt (Rs HO314.out))) (Kd.R_lt (Rs HO318.out))) (Kd.R_lt (Rs HO324.out))) (Kd.R_lt (Rs HO328.out))) (Lz HB))
        replace HO305 := Aside0.mk (Kd.R_elder' (Rs HO305.out) (Kd.R_base ho0) hb)
        replace HO310 := Aside0.mk (Kd.R_elder' (Rs HO310.out) (Kd.R_base ho0) hb)
        replace HO314 := Aside0.mk (Kd.R_elder' (Rs HO314.out) (Kd.R_base ho0) hb)
        replace HO318 := Aside0.mk (Kd.R_elder' (Rs HO318.out) (Kd.R_base ho0) hb)
        replace HO324 := Aside0.mk (Kd.R_elder' (Rs HO324.out) (Kd.R_base ho0) hb)
        replace HO328 := Aside0.mk (Kd.R_elder' (Rs HO328.out) (Kd.R_base ho0) hb)
        replace BK302 := Bb BK302 hb
        replace BK307 := Bb BK307 hb
        replace BK321 := Bb BK321 hb
        replace BK335 := Bb BK335 hb
        replace HB := Lb HB hb
        try clear hb; try clear hb2; try clear hk; try clear hi; try clear ho0
        refine hK.out _ _ ⟨(blk_cell BK307.out 0).trans rfl, (blk_cell BK307.out 1).trans rfl⟩ (fun hHeld => ?_)
        clear hK K
        refine norm_ (a' := ?_) ?_ ?_; rotate_left; (· show Act.put _ (some 47) _ = _; simp only [Act.put, sq]; rfl)
        refine pure_ (i := 10) (N := some 37) (v := ?_) (a' := ?_) #[T, T, T, T, T, T, T, T, T, T, T, F, F, T, F, F] rfl rfl (any_of HT_.out (by kernel_rfl)) (fun _ _ _ h => h) (Or.inl ⟨by rfl, ?_⟩) ?_ ?_; rotate_left; (· intro w'; go_simp; with_reducible rfl); rotate_left; (· simp only [Act.put, sq]; rfl)
        refine pure_ (i := 11) (N := some 48) (v := ?_) (a' := ?_) #[T, T, T, T, T, T, T, T, T, T, T, T, F, T, F, F] rfl rfl (any_of HT_.out (by kernel_rfl)) (fun _ _ _ h => h) (Or.inl ⟨by rfl, ?_⟩) ?_ ?_; rotate_left; (· intro w'; go_simp; with_reducible rfl); rotate_left; (· simp only [Act.put, sq]; rfl)
        refine pure_ (i := 12) (N := some 49) (v := ?_) (a' := ?_) #[T, T, T, T, T, T, T, T, T, T, T, T, T, T, F, F] rfl rfl (any_of HT_.out (by kernel_rfl)) (fun _ _ _ h => h) (Or.inl ⟨by rfl, ?_⟩) ?_ ?_; rotate_left; (· intro w'; go_simp; with_reducible rfl); rotate_left; (· simp only [Act.put, sq]; rfl)
        exact norm_ (by first | (simp only [putAll, Act.put, sq0]; done) | (simp only [putAll, Act.put, sq0]; rfl)) (hJ2_5_8_9_13 (.slice Ao44 t322.length co44, .slice Ao45 t326.length co45, v331, gb335) _ ⟨hHeld, (Rs (Kd.R_mono HO305.out (fun _ hk => ⟨hk.1.1, ⟨hk.1.2.1, ⟨hk.1.2.2.1, ⟨hk.1.2.2.2.1, ⟨hk.1.2.2.2.2, hk.2⟩⟩⟩⟩⟩))), (Rs (Kd.R_mono HO310.out (fun _ hk => ⟨hk.1.1, ⟨hk.1.2.1, ⟨hk.1.2.2.1, ⟨hk.1.2.2.2.1, ⟨hk.1.2.2.2.2, hk.2⟩⟩⟩⟩⟩))), (Rs (Kd.R_mono HO314.out (fun _ hk => ⟨hk.1.1, ⟨hk.1.2.1, ⟨hk.1.2.2.1, ⟨hk.1.2.2.2.1, ⟨hk.1.2.2.2.2, hk.2⟩⟩⟩⟩⟩))), (Rs (Kd.R_mono HO318.out (fun _ hk => ⟨hk.1.1, ⟨hk.1.2.1, ⟨hk.1.2.2.1, ⟨hk.1.2.2.2.1, ⟨hk.1.2.2.2.2, hk.2⟩⟩⟩⟩⟩))), (Rs (Kd.R_mono HO324.out (fun _ hk => ⟨hk.1.1, ⟨hk.1.2.1, ⟨hk.1.2.2.1, ⟨hk.1.2.2.2.1, ⟨hk.1.2.2.2.2, hk.2⟩⟩⟩⟩⟩))), (Rs (Kd.R_mono HO328.out (fun _ hk => ⟨hk.1.1, ⟨hk.1.2.1, ⟨hk.1.2.2.1, ⟨hk.1.2.2.2.1, ⟨hk.1.2.2.2.2, hk.2⟩⟩⟩⟩⟩))), (Rs (Kd.R_mono HO332.out (fun _ hk => ⟨hk.1.1.1.1.1.2, ⟨hk.1.1.1.1.2, ⟨hk.1.1.1.2, ⟨hk.1.1.2, ⟨hk.1.2, hk.2⟩⟩⟩⟩⟩))), (Bs BK302.out), (Bs BK307.out), (Bs BK321.out), (Bs BK335.out), GW335.out, GE335.out, NB302_335.out, NB335_302.out, NB307_335.out, NB335_307.out, NB321_335.out, NB335_321.out, (Ls HB)⟩)
    · skip
      rintro ⟨v323, v327, v331⟩ w44 ⟨hS_, h0_, h1_, h2_, h3_, h4_, h5_, h6_, h7_, h8_, h9_, h10_⟩
      try dsimp only at h0_ h1_ h2_ h3_ h4_ h5_ h6_ h7_ h8_ h9_ h10_
      clear HO305 HO310 HO314 HO318 BK302 BK307 BK321 HB
      have HO305 := Aside0.mk h0_; have HO310 := Aside0.mk h1_; have HO314 := Aside0.mk h2_; have HO318 := Aside0.mk h3_; have HO324 := Aside0.mk h4_; have HO328 := Aside0.mk h5_; have HO332 := Aside0.mk h6_; have BK302 := Aside0.mk h7_; have BK307 := Aside0.mk h8_; have BK321 := Aside0.mk h9_; have HB := Aside0.mk h10_
      clear h0_ h1_ h2_ h3_ h4_ h5_ h6_ h7_ h8_ h9_ h10_
      have hHeld : w44.cell? ⟨gb307, 0, none⟩ = some (.slice Ao19 t303.length co19) ∧ w44.cell? ⟨gb307, 1, none⟩ = some (.int .i64 t306) := hS_
      obtain ⟨Ao45, co45, eo45⟩ := Kd.R_slice HO324.out
      (first | subst eo45 | (injection eo45 with f1_ f2_ f3_; have f4_ := f1_.symm; have f5_ := f3_.symm; clear f1_ f2_ f3_; subst f4_; subst f5_))
      refine norm_ (a' := ?_) ?_ ?_; rotate_left; (· simp only [putAll, Act.put, sq0]; rfl)
      refine one_ (i := 13) (N := some 15) #[T, T, T, T, T, T, T, T, T, T, T, T, T, T, F, F] rfl rfl (one_of HT_.out (by kernel_rfl)) (by decide) (fun K hK => ?_)
      refine box_step ?hg (N := 15) ?hd (cs := #[.slice none 0 0, .int .i64 0]) (t := 25) ?hr ?_; (case hd => rfl); (case hg => rfl); (case hr => first | (go_simp; done) | (go_simp; rfl))
      intro gb335 hg w46 hbox hb
      replace HO305 := Rb HO305 hb
      replace HO310 := Rb HO310 hb
      replace HO314 := Rb HO314 hb
      replace HO318 := Rb HO318 hb
      replace HO324 := Rb HO324 hb
      replace HO328 := Rb HO328 hb
      replace HO332 := Rb HO332 hb
      have BK335 := Aside0.mk (hbox)
      have GW335 := Aside0.mk ((by rw [hg]; exact (Lz HB) : w.heap.size ≤ gb335))
      have GE335 := Aside0.mk ((by rw [hg]; exact (Lz HB) : w.heap.size ≤ gb335))
      replace HB := Lb HB hb
      have NB302_335 := Aside0.mk ((by rw [hg]; exact Nat.ne_of_lt (blk_lt (g := gb302) (o := .cells #[.slice none 0 0, .int .i64 0] 25 (0, 0)) (Bs BK302.out)) : gb302 ≠ gb335))
      have NB335_302 := Aside0.mk ((by rw [hg]; exact Nat.ne_of_gt (blk_lt (g := gb302) (o := .cells #[.slice none 0 0, .int .i64 0] 25 (0, 0)) (Bs BK302.out)) : gb335 ≠ gb302))
      replace BK302 := Bb BK302 hb
      have NB307_335 := Aside0.mk ((by rw [hg]; exact Nat.ne_of_lt (blk_lt (g := gb307) (o := .cells #[.slice Ao19 t303.length co19, .int .i64 t306] 25 (0, 0)) (Bs BK307.out)) : gb307 ≠ gb335))
      have NB335_307 := Aside0.mk ((by rw [hg]; exact Nat.ne_of_gt (blk_lt (g := gb307) (o := .cells #[.slice Ao19 t303.length co19, .int .i64 t306] 25 (0, 0)) (Bs BK307.out)) : gb335 ≠ gb307))
      replace BK307 := Bb BK307 hb
      have NB321_335 := Aside0.mk ((by rw [hg]; exact Nat.ne_of_lt (blk_lt (g := gb321) (o := .cells #[.slice Ao33 t316.length co33, .int .i64 t319] 25 (0, 0)) (Bs BK321.out)) : gb321 ≠ gb335))
      have NB335_321 := Aside0.mk ((by rw [hg]; exact Nat.ne_of_gt (blk_lt (g := gb321) (o := .cells #[.slice Ao33 t316.length co33, .int .i64 t319] 25 (0, 0)) (Bs BK321.out)) : gb335 ≠ gb321))
      replace BK321 := Bb BK321 hb
      clear hb hbox hg
      refine hK.out _ _ ⟨(blk_cell BK307.out 0).trans rfl, (blk_cell BK307.out 1).trans rfl⟩ (fun hHeld => ?_)
      clear hK K
      refine norm_ (a' := ?_) ?_ ?_; rotate_left; (· show Act.put _ (some 15) _ = _; simp only [Act.put, sq]; rfl)
      exact norm_ (by first | (simp only [putAll, Act.put, sq0]; done) | (simp only [putAll, Act.put, sq0]; rfl)) (hJ2_5_8_9_13 (.slice Ao45 t322.length co45, v327, v331, gb335) _ ⟨hHeld, (Rs HO305.out), (Rs HO310.out), (Rs HO314.out), (Rs HO318.out), (Rs HO324.out), (Rs HO328.out), (Rs HO332.out), (Bs BK302.out), (Bs BK307.out), (Bs BK321.out), (Bs BK335.out), GW335.out, GE335.out, NB302_335.out, NB335_302.out, NB307_335.out, NB335_307.out, NB321_335.out, NB335_321.out, (Ls HB)⟩)
  rintro ⟨v323, v327, v331, gb335⟩ w45 ⟨hS_, h0_, h1_, h2_, h3_, h4_, h5_, h6_, h7_, h8_, h9_, h10_, h11_, h12_, h13_, h14_, h15_, h16_, h17_, h18_, h19_⟩
  try dsimp only at h0_ h1_ h2_ h3_ h4_ h5_ h6_ h7_ h8_ h9_ h10_ h11_ h12_ h13_ h14_ h15_ h16_ h17_ h18_ h19_
  clear HO305 HO310 HO314 HO318 BK302 BK307 BK321 HB
  have HO305 := Aside0.mk h0_; have HO310 := Aside0.mk h1_; have HO314 := Aside0.mk h2_; have HO318 := Aside0.mk h3_; have HO324 := Aside0.mk h4_; have HO328 := Aside0.mk h5_; have HO332 := Aside0.mk h6_; have BK302 := Aside0.mk h7_; have BK307 := Aside0.mk h8_; have BK321 := Aside0.mk h9_; have BK335 := Aside0.mk h10_; have GW335 := Aside0.mk h11_; have GE335 := Aside0.mk h12_; have NB302_335 := Aside0.mk h13_; have NB335_302 := Aside0.mk h14_; have NB307_335 := Aside0.mk h15_; have NB335_307 := Aside0.mk h16_; have NB321_335 := Aside0.mk h17_; have NB335_321 := Aside0.mk h18_; have HB := Aside0.mk h19_
  clear h0_ h1_ h2_ h3_ h4_ h5_ h6_ h7_ h8_ h9_ h10_ h11_ h12_ h13_ h14_ h15_ h16_ h17_ h18_ h19_
  have hHeld : w45.cell? ⟨gb307, 0, none⟩ = some (.slice Ao19 t303.length co19) ∧ w45.cell? ⟨gb307, 1, none⟩ = some (.int .i64 t306) := hS_
  obtain ⟨Ao46, co46, eo46⟩ := Kd.R_slice HO324.out
  (first | subst eo46 | (injection eo46 with f1_ f2_ f3_; have f4_ := f1_.symm; have f5_ := f3_.symm; clear f1_ f2_ f3_; subst f4_; subst f5_))
  obtain ⟨Ao47, co47, eo47⟩ := Kd.R_slice HO332.out
  (first | subst eo47 | (injection eo47 with f1_ f2_ f3_; have f4_ := f1_.symm; have f5_ := f3_.symm; clear f1_ f2_ f3_; subst f4_; subst f5_))
  refine norm_ (a' := ?_) ?_ ?_; rotate_left; (· simp only [putAll, Act.put, sq0]; rfl)
  refine one_ (i := 14) (N := none) #[T, T, T, T, T, T, T, T, T, T, T, T, T, T, T, F] rfl rfl (one_of HT_.out (by kernel_rfl)) (by decide) (fun K hK => ?_)
  have hs48 : w45.cell? ⟨gb335, 0, none⟩ = some (.slice none 0 0) := (blk_cell BK335.out 0).trans rfl
  have hfs48 := blk_frozen BK335.out 0
  have hns48_0 := NB302_335.out
  have hns48_1 := NB307_335.out
  have hns48_2 := NB321_335.out
  have hms48_0 := NB335_302.out
  have hms48_1 := NB335_307.out
  have hms48_2 := NB335_321.out
  have hs49 : w45.cell? ⟨gb335, 1, none⟩ = some (.int .i64 0) := (blk_cell BK335.out 1).trans rfl
  have hfs49 := blk_frozen BK335.out 1
  have hns49_0 := NB302_335.out
  have hns49_1 := NB307_335.out
  have hns49_2 := NB321_335.out
  have hms49_0 := NB335_302.out
  have hms49_1 := NB335_307.out
  have hms49_2 := NB335_321.out
  refine skip_ (w1 := ?_) (by rfl) rfl ?_ ?_
  rotate_left
  · go_simp
    rfl
  refine hK.out _ _ ⟨((cell_far (p := ⟨gb335, _, none⟩) NB307_335.out _).trans (((cell_far (p := ⟨gb335, _, none⟩) NB307_335.out _).trans (hHeld.1)))), ((cell_far (p := ⟨gb335, _, none⟩) NB307_335.out _).trans (((cell_far (p := ⟨gb335, _, none⟩) NB307_335.out _).trans (hHeld.2))))⟩ (fun hHeld => ?_)
  clear hK K
  refine pure_ (i := 15) (N := some 16) (v := ?_) (a' := ?_) #[T, T, T, T, T, T, T, T, T, T, T, T, T, T, T, T] rfl rfl (any_of HT_.out (by kernel_rfl)) (fun _ _ _ h => h) (Or.inl ⟨by rfl, ?_⟩) ?_ ?_; rotate_left; (· intro w'; go_simp; with_reducible rfl); rotate_left; (· simp only [Act.put, sq]; rfl)
  refine done_ (done_of HT_.out (by kernel_rfl)) ?_
  go_upto_region 5 with (fail)
  go_cut [17] (fun v17 wc => ∃ (kq : Nat) (x17_14 : Bool), v17 = .bool x17_14 ∧ Aside0 (trommellaw18_BloomSizes.j0 kq a0 a1 t320 t334 x17_14 = some r) ∧ Aside0 (kq ≤ k) ∧ Aside0 (Kd.R (Kd.int .u64) 33 wc w.heap.size (fun k_ => some k_ ≠ ((.slice Ao33 t316.length co33) : Value).ownBlock ∧ some k_ ≠ ((.slice Ao47 t330.length co47) : Value).ownBlock) (.slice Ao19 t303.length co19) t303) ∧ Aside0 (Kd.R (Kd.int .u64) 33 wc w.heap.size (fun k_ => some k_ ≠ ((.slice Ao19 t303.length co19) : Value).ownBlock ∧ some k_ ≠ ((.slice Ao47 t330.length co47) : Value).ownBlock) (.slice Ao33 t316.length co33) t316) ∧ Aside0 (Kd.R (Kd.int .u64) 33 wc w.heap.size (fun k_ => some k_ ≠ ((.slice Ao19 t303.length co19) : Value).ownBlock ∧ some k_ ≠ ((.slice Ao33 t316.length co33) : Value).ownBlock) (.slice Ao47 t330.length co47) t330) ∧ Aside0 (wc.heap[gb302]? = some (.cells #[(.slice none 0 0), .int .i64 0] 25 (0, 0))) ∧ Aside0 (wc.heap[gb307]? = some (.cells #[(.slice Ao19 t303.length co19), .int .i64 t306] 25 (0, 0))) ∧ Aside0 (wc.heap[gb321]? = some (.cells #[(.slice Ao33 t316.length co33), .int .i64 t319] 25 (0, 0))) ∧ Aside0 (wc.heap[gb335]? = some (.cells #[(.slice Ao47 t330.length co47), .int .i64 t333] 25 (0, 0))) ∧ Aside0 (Below w.heap.size w wc))
  case first =>
    have H := HC15.out
    clear HC15
    replace H := Option.bind_eq_some_iff.mp H
    obtain ⟨t336, A500, H⟩ := H
    replace H : (if t336 = true then (trommellaw18_BloomSizes.j0 k a0 a1 t320 t334 false) else ((bloom_Add.f k ([] : List Int) 0 (([a4] : List Int))).bind fun bt340 => ((bloom_Has.f k bt340.1 bt340.2 a4).bind fun t344 => (if t344 = true then (trommellaw18_BloomSizes.j0 k a0 a1 t320 t334 false) else ((bloom_Words.f ([] : List Int) 0).bind fun t345 => ((bloom_Ones.f k ([] : List Int) 0).bind fun t348 => ((bloom_Bits.f ([] : List Int) 0).bind fun t349 => (trommellaw18_BloomSizes.j0 k a0 a1 t320 t334 ((wrap64 ((wrap64 ((t345.length : Int) + t348)) + t349)) == 0))))))))) = some r := H
    have A50 := Aside0.mk A500
    clear A500
    by_cases c51 : t336 = true
    · subst c51
      have H1 : (trommellaw18_BloomSizes.j0 k a0 a1 t320 t334 false) = some r := by rw [if_pos rfl] at H; exact H
      clear H
      have H := H1
      clear H1
      have H' := Aside0.mk H
      clear H
      try go_wp2
      have n0_ : Aside0 (Kd.R (Kd.int .u64) 33 ((w45.setCell ⟨gb335, 0, none⟩ (.slice Ao47 t330.length co47)).setCell ⟨gb335, 1, none⟩ (.int .i64 t333)) w.heap.size (fun k_ => some k_ ≠ (.slice Ao32 t308.length co32 : Value).ownBlock ∧ some k_ ≠ (v313 : Value).ownBlock ∧ some k_ ≠ (.slice Ao33 t316.length co33 : Value).ownBlock ∧ some k_ ≠ (.slice Ao46 t322.length co46 : Value).ownBlock ∧ some k_ ≠ (v327 : Value).ownBlock ∧ some k_ ≠ (.slice Ao47 t330.length co47 : Value).ownBlock) (.slice Ao19 t303.length co19) t303) := ⟨by (with_reducible repeat (first | apply Kd.R_alloc | apply Kd.R_drewN | apply Kd.R_drew)); exact Kd.R_mono (Kd.R_far (p := ⟨gb335, 1, none⟩) (Kd.R_far (p := ⟨gb335, 0, none⟩) (Kd.R_types HO305.out BK335.out (by decide)) (fun _ hk => hk.2) (.slice Ao47 t330.length co47)) (fun _ hk => hk.2) (.int .i64 t333)) (fun _ hk => ⟨hk.1.1, ⟨hk.1.2.1, ⟨hk.1.2.2.1, ⟨hk.1.2.2.2.1, ⟨hk.1.2.2.2.2.1, hk.1.2.2.2.2.2⟩⟩⟩⟩⟩)⟩
      have n1_ : Aside0 (Kd.R (Kd.int .u64) 33 ((w45.setCell ⟨gb335, 0, none⟩ (.slice Ao47 t330.length co47)).setCell ⟨gb335, 1, none⟩ (.int .i64 t333)) w.heap.size (fun k_ => some k_ ≠ (.slice Ao19 t303.length co19 : Value).ownBlock ∧ some k_ ≠ (v313 : Value).ownBlock ∧ some k_ ≠ (.slice Ao33 t316.length co33 : Value).ownBlock ∧ some k_ ≠ (.slice Ao46 t322.length co46 : Value).ownBlock ∧ some k_ ≠ (v327 : Value).ownBlock ∧ some k_ ≠ (.slice Ao47 t330.length co47 : Value).ownBlock) (.slice Ao32 t308.length co32) t308) := ⟨by (with_reducible repeat (first | apply Kd.R_alloc | apply Kd.R_drewN | apply Kd.R_drew)); exact Kd.R_mono (Kd.R_far (p := ⟨gb335, 1, none⟩) (Kd.R_far (p := ⟨gb335, 0, none⟩) (Kd.R_types HO310.out BK335.out (by decide)) (fun _ hk => hk.2) (.slice Ao47 t330.length co47)) (fun _ hk => hk.2) (.int .i64 t333)) (fun _ hk => ⟨hk.1.1, ⟨hk.1.2.1, ⟨hk.1.2.2.1, ⟨hk.1.2.2.2.1, ⟨hk.1.2.2.2.2.1, hk.1.2.2.2.2.2⟩⟩⟩⟩⟩)⟩
      have n2_ : Aside0 (Kd.R (Kd.int .u64) 33 ((w45.setCell ⟨gb335, 0, none⟩ (.slice Ao47 t330.length co47)).setCell ⟨gb335, 1, none⟩ (.int .i64 t333)) w.heap.size (fun k_ => some k_ ≠ (.slice Ao19 t303.length co19 : Value).ownBlock ∧ some k_ ≠ (.slice Ao32 t308.length co32 : Value).ownBlock ∧ some k_ ≠ (.slice Ao33 t316.length co33 : Value).ownBlock ∧ some k_ ≠ (.slice Ao46 t322.length co46 : Value).ownBlock ∧ some k_ ≠ (v327 : Value).ownBlock ∧ some k_ ≠ (.slice Ao47 t330.length co47 : Value).ownBlock) v313 t312) := ⟨by (with_reducible repeat (first | apply Kd.R_alloc | apply Kd.R_drewN | apply Kd.R_drew)); exact Kd.R_mono (Kd.R_far (p := ⟨gb335, 1, none⟩) (Kd.R_far (p := ⟨gb335, 0, none⟩) (Kd.R_types HO314.out BK335.out (by decide)) (fun _ hk => hk.2) (.slice Ao47 t330.length co47)) (fun _ hk => hk.2) (.int .i64 t333)) (fun _ hk => ⟨hk.1.1, ⟨hk.1.2.1, ⟨hk.1.2.2.1, ⟨hk.1.2.2.2.1, ⟨hk.1.2.2.2.2.1, hk.1.2.2.2.2.2⟩⟩⟩⟩⟩)⟩
      have n3_ : Aside0 (Kd.R (Kd.int .u64) 33 ((w45.setCell ⟨gb335, 0, none⟩ (.slice Ao47 t330.length co47)).setCell ⟨gb335, 1, none⟩ (.int .i64 t333)) w.heap.size (fun k_ => some k_ ≠ (.slice Ao19 t303.length co19 : Value).ownBlock ∧ some k_ ≠ (.slice Ao32 t308.length co32 : Value).ownBlock ∧ some k_ ≠ (v313 : Value).ownBlock ∧ some k_ ≠ (.slice Ao46 t322.length co46 : Value).ownBlock ∧ some k_ ≠ (v327 : Value).ownBlock ∧ some k_ ≠ (.slice Ao47 t330.length co47 : Value).ownBlock) (.slice Ao33 t316.length co33) t316) := ⟨by (with_reducible repeat (first | apply Kd.R_alloc | apply Kd.R_drewN | apply Kd.R_drew)); exact Kd.R_mono (Kd.R_far (p := ⟨gb335, 1, none⟩) (Kd.R_far (p := ⟨gb335, 0, none⟩) (Kd.R_types HO318.out BK335.out (by decide)) (fun _ hk => hk.2) (.slice Ao47 t330.length co47)) (fun _ hk => hk.2) (.int .i64 t333)) (fun _ hk => ⟨hk.1.1, ⟨hk.1.2.1, ⟨hk.1.2.2.1, ⟨hk.1.2.2.2.1, ⟨hk.1.2.2.2.2.1, hk.1.2.2.2.2.2⟩⟩⟩⟩⟩)⟩
      have n4_ : Aside0 (Kd.R (Kd.int .u64) 33 ((w45.setCell ⟨gb335, 0, none⟩ (.slice Ao47 t330.length co47)).setCell ⟨gb335, 1, none⟩ (.int .i64 t333)) w.heap.size (fun k_ => some k_ ≠ (.slice Ao19 t303.length co19 : Value).ownBlock ∧ some k_ ≠ (.slice Ao32 t308.length co32 : Value).ownBlock ∧ some k_ ≠ (v313 : Value).ownBlock ∧ some k_ ≠ (.slice Ao33 t316.length co33 : Value).ownBlock ∧ some k_ ≠ (v327 : Value).ownBlock ∧ some k_ ≠ (.slice Ao47 t330.length co47 : Value).ownBlock) (.slice Ao46 t322.length co46) t322) := ⟨by (with_reducible repeat (first | apply Kd.R_alloc | apply Kd.R_drewN | apply Kd.R_drew)); exact Kd.R_mono (Kd.R_far (p := ⟨gb335, 1, none⟩) (Kd.R_far (p := ⟨gb335, 0, none⟩) (Kd.R_types HO324.out BK335.out (by decide)) (fun _ hk => hk.2) (.slice Ao47 t330.length co47)) (fun _ hk => hk.2) (.int .i64 t333)) (fun _ hk => ⟨hk.1.1, ⟨hk.1.2.1, ⟨hk.1.2.2.1, ⟨hk.1.2.2.2.1, ⟨hk.1.2.2.2.2.1, hk.1.2.2.2.2.2⟩⟩⟩⟩⟩)⟩
      have n5_ : Aside0 (Kd.R (Kd.int .u64) 33 ((w45.setCell ⟨gb335, 0, none⟩ (.slice Ao47 t330.length co47)).setCell ⟨gb335, 1, none⟩ (.int .i64 t333)) w.heap.size (fun k_ => some k_ ≠ (.slice Ao19 t303.length co19 : Value).ownBlock ∧ some k_ ≠ (.slice Ao32 t308.length co32 : Value).ownBlock ∧ some k_ ≠ (v313 : Value).ownBlock ∧ some k_ ≠ (.slice Ao33 t316.length co33 : Value).ownBlock ∧ some k_ ≠ (.slice Ao46 t322.length co46 : Value).ownBlock ∧ some k_ ≠ (.slice Ao47 t330.length co47 : Value).ownBlock) v327 t326) := ⟨by (with_reducible repeat (first | apply Kd.R_alloc | apply Kd.R_drewN | apply Kd.R_drew)); exact Kd.R_mono (Kd.R_far (p := ⟨gb335, 1, none⟩) (Kd.R_far (p := ⟨gb335, 0, none⟩) (Kd.R_types HO328.out BK335.out (by decide)) (fun _ hk => hk.2) (.slice Ao47 t330.length co47)) (fun _ hk => hk.2) (.int .i64 t333)) (fun _ hk => ⟨hk.1.1, ⟨hk.1.2.1, ⟨hk.1.2.2.1, ⟨hk.1.2.2.2.1, ⟨hk.1.2.2.2.2.1, hk.1.2.2.2.2.2⟩⟩⟩⟩⟩)⟩
      have n6_ : Aside0 (Kd.R (Kd.int .u64) 33 ((w45.setCell ⟨gb335, 0, none⟩ (.slice Ao47 t330.length co47)).setCell ⟨gb335, 1, none⟩ (.int .i64 t333)) w.heap.size (fun k_ => some k_ ≠ (.slice Ao19 t303.length co19 : Value).ownBlock ∧ some k_ ≠ (.slice Ao32 t308.length co32 : Value).ownBlock ∧ some k_ ≠ (v313 : Value).ownBlock ∧ some k_ ≠ (.slice Ao33 t316.length co33 : Value).ownBlock ∧ some k_ ≠ (.slice Ao46 t322.length co46 : Value).ownBlock ∧ some k_ ≠ (v327 : Value).ownBlock) (.slice Ao47 t330.length co47) t330) := ⟨by (with_reducible repeat (first | apply Kd.R_alloc | apply Kd.R_drewN | apply Kd.R_drew)); exact Kd.R_mono (Kd.R_far (p := ⟨gb335, 1, none⟩) (Kd.R_far (p := ⟨gb335, 0, none⟩) (Kd.R_types HO332.out BK335.out (by decide)) (fun _ hk => hk.2) (.slice Ao47 t330.length co47)) (fun _ hk => hk.2) (.int .i64 t333)) (fun _ hk => ⟨hk.1.1, ⟨hk.1.2.1, ⟨hk.1.2.2.1, ⟨hk.1.2.2.2.1, ⟨hk.1.2.2.2.2.1, hk.1.2.2.2.2.2⟩⟩⟩⟩⟩)⟩
      have n7_ : Aside0 (((w45.setCell ⟨gb335, 0, none⟩ (.slice Ao47 t330.length co47)).setCell ⟨gb335, 1, none⟩ (.int .i64 t333)).heap[gb302]? = some (.cells #[.slice none 0 0, .int .i64 0] 25 (0, 0))) := ⟨by (with_reducible repeat (first | refine blk_drewN ?_ _ | refine blk_drew ?_ | refine blk_alloc ?_ _)); refine blk_far ?_ NB302_335.out _; (with_reducible repeat (first | refine blk_drewN ?_ _ | refine blk_drew ?_ | refine blk_alloc ?_ _)); refine blk_far ?_ NB302_335.out _; (with_reducible repeat (first | refine blk_drewN ?_ _ | refine blk_drew ?_ | refine blk_alloc ?_ _)); exact BK302.out⟩
      have n8_ : Aside0 (((w45.setCell ⟨gb335, 0, none⟩ (.slice Ao47 t330.length co47)).setCell ⟨gb335, 1, none⟩ (.int .i64 t333)).heap[gb307]? = some (.cells #[.slice Ao19 t303.length co19, .int .i64 t306] 25 (0, 0))) := ⟨by (with_reducible repeat (first | refine blk_drewN ?_ _ | refine blk_drew ?_ | refine blk_alloc ?_ _)); refine blk_far ?_ NB307_335.out _; (with_reducible repeat (first | refine blk_drewN ?_ _ | refine blk_drew ?_ | refine blk_alloc ?_ _)); refine blk_far ?_ NB307_335.out _; (with_reducible repeat (first | refine blk_drewN ?_ _ | refine blk_drew ?_ | refine blk_alloc ?_ _)); exact BK307.out⟩
      have n9_ : Aside0 (((w45.setCell ⟨gb335, 0, none⟩ (.slice Ao47 t330.length co47)).setCell ⟨gb335, 1, none⟩ (.int .i64 t333)).heap[gb321]? = some (.cells #[.slice Ao33 t316.length co33, .int .i64 t319] 25 (0, 0))) := ⟨by (with_reducible repeat (first | refine blk_drewN ?_ _ | refine blk_drew ?_ | refine blk_alloc ?_ _)); refine blk_far ?_ NB321_335.out _; (with_reducible repeat (first | refine blk_drewN ?_ _ | refine blk_drew ?_ | refine blk_alloc ?_ _)); refine blk_far ?_ NB321_335.out _; (with_reducible repeat (first | refine blk_drewN ?_ _ | refine blk_drew ?_ | refine blk_alloc ?_ _)); exact BK321.out⟩
      have n10_ : Aside0 (((w45.setCell ⟨gb335, 0, none⟩ (.slice Ao47 t330.length co47)).setCell ⟨gb335, 1, none⟩ (.int .i64 t333)).heap[gb335]? = some (.cells #[.slice Ao47 t330.length co47, .int .i64 t333] 25 (0, 0))) := ⟨by (with_reducible repeat (first | refine blk_drewN ?_ _ | refine blk_drew ?_ | refine blk_alloc ?_ _)); refine blk_put (cs := #[.slice Ao47 t330.length co47, .int .i64 0]) ?_ 1 _ rfl; (with_reducible repeat (first | refine blk_drewN ?_ _ | refine blk_drew ?_ | refine blk_alloc ?_ _)); refine blk_put (cs := #[.slice none 0 0, .int .i64 0]) ?_ 0 _ rfl; (with_reducible repeat (first | refine blk_drewN ?_ _ | refine blk_drew ?_ | refine blk_alloc ?_ _)); exact BK335.out⟩
      have n11_ : Aside0 (Below w.heap.size w ((w45.setCell ⟨gb335, 0, none⟩ (.slice Ao47 t330.length co47)).setCell ⟨gb335, 1, none⟩ (.int .i64 t333))) := ⟨Ls HB⟩
      try clear HO305; try clear HO310; try clear HO314; try clear HO318; try clear HO324; try clear HO328; try clear HO332; try clear BK302; try clear BK307; try clear BK321; try clear BK335; try clear HB
      generalize ((w45.setCell ⟨gb335, 0, none⟩ (.slice Ao47 t330.length co47)).setCell ⟨gb335, 1, none⟩ (.int .i64 t333)) = w52 at n0_ n1_ n2_ n3_ n4_ n5_ n6_ n7_ n8_ n9_ n10_ n11_ ⊢
      have HO305 := n0_; have HO310 := n1_; have HO314 := n2_; have HO318 := n3_; have HO324 := n4_; have HO328 := n5_; have HO332 := n6_; have BK302 := n7_; have BK307 := n8_; have BK321 := n9_; have BK335 := n10_; have HB := n11_
      clear n0_ n1_ n2_ n3_ n4_ n5_ n6_ n7_ n8_ n9_ n10_ n11_
      replace HO305 := Aside0.mk (Kd.R_drew HO305.out)
      replace HO310 := Aside0.mk (Kd.R_drew HO310.out)
      replace HO314 := Aside0.mk (Kd.R_drew HO314.out)
      replace HO318 := Aside0.mk (Kd.R_drew HO318.out)
      replace HO324 := Aside0.mk (Kd.R_drew HO324.out)
      replace HO328 := Aside0.mk (Kd.R_drew HO328.out)
      replace HO332 := Aside0.mk (Kd.R_drew HO332.out)
      replace BK302 := Aside0.mk (blk_drew BK302.out)
      replace BK307 := Aside0.mk (blk_drew BK307.out)
      replace BK321 := Aside0.mk (blk_drew BK321.out)
      replace BK335 := Aside0.mk (blk_drew BK335.out)
      replace HB := Aside0.mk (below_drew1 HB.out)
      refine start_ (n := 26) (S := fun w' => w'.cell? ⟨gb302, 0, none⟩ = some (.slice none 0 0) ∧ w'.cell? ⟨gb302, 1, none⟩ = some (.int .i64 0)) (ds := []) #[F, F, F, F, F, F, F, F, F, F, F, F, F, F, F, F, F, F, F, F, F, F, F, F, F, F] (by kernel_rfl) rfl rfl ⟨(blk_cell BK302.out 0).trans rfl, (blk_cell BK302.out 1).trans rfl⟩ (fun hHeld => ?_); refine with_tabW trommellaw18_BloomSizes.tab5 trommellaw18_BloomSizes.bits5 (fun HT_ HW_ => ?_)
      generalize w52.drew = w53 at HO305 HO310 HO314 HO318 HO324 HO328 HO332 BK302 BK307 BK321 BK335 HB hHeld ⊢
      refine pure_ (i := 1) (N := some 51) (v := ?_) (a' := ?_) #[F, T, F, F, F, F, F, F, F, F, F, F, F, F, F, F, F, F, F, F, F, F, F, F, F, F] rfl rfl (any_of HT_.out (by kernel_rfl)) (fun _ _ _ h => h) (Or.inl ⟨by rfl, ?_⟩) ?_ ?_; rotate_left; (· intro w'; go_simp; with_reducible rfl); rotate_left; (· simp only [Act.put, sq]; rfl)
      refine take_ (i := 0) (N := some 50) (v := ?_) (a' := ?_) #[T, T, F, F, F, F, F, F, F, F, F, F, F, F, F, F, F, F, F, F, F, F, F, F, F, F] rfl rfl (take_ofW HT_.out HW_.out (by kernel_rfl)) (fun _ _ _ h => h) (Or.inl ⟨by rfl, ?_⟩) hHeld ?_ ?_; rotate_left; (· rintro w' ⟨s0, s1⟩; go_simp; with_reducible rfl); rotate_left; (· simp only [Act.put, sq]; rfl)
      refine one_ (i := 2) (N := some 52) #[T, T, T, F, F, F, F, F, F, F, F, F, F, F, F, F, F, F, F, F, F, F, F, F, F, F] rfl rfl (one_of HT_.out (by kernel_rfl)) (by decide) (fun K hK => ?_)
      refine goes_ Try.func14 (by kernel_rfl) rfl #[.agg #[.slice none 0 0, .int .i64 0], .int .u64 a4] (by rfl) rfl rfl (by (try simp only [List.map_toArray, List.map_cons, List.map_nil]); first | done | rfl | (simp only [List.length_drop, List.length_take]; rfl)) ?_
      refine (bloom_Has.calls k _ _ ([] : List Int) 0 a4 true _ ?side1 ?side2 A50.out).mono ?_
      (case side1 => exact Kd.C_nil _ _)
      (case side2 => exact Nat.le_refl _)
      rintro e w54 ⟨rfl, hb⟩
      refine ⟨_, rfl, ?_⟩
      replace HO305 := Rb HO305 hb
      replace HO310 := Rb HO310 hb
      replace HO314 := Rb HO314 hb
      replace HO318 := Rb HO318 hb
      replace HO324 := Rb HO324 hb
      replace HO328 := Rb HO328 hb
      replace HO332 := Rb HO332 hb
      replace BK302 := Bb BK302 hb
      replace BK307 := Bb BK307 hb
      replace BK321 := Bb BK321 hb
      replace BK335 := Bb BK335 hb
      replace HB := Lb HB hb
      try clear hb; try clear hb2; try clear hk; try clear hi
      refine hK.out _ _ ⟨(blk_cell BK302.out 0).trans rfl, (blk_cell BK302.out 1).trans rfl⟩ (fun hHeld => ?_)
      clear hK K
      refine norm_ (a' := ?_) ?_ ?_; rotate_left; (· show Act.put _ (some 52) _ = _; simp only [Act.put, sq]; rfl)
      refine pure_ (i := 3) (N := some 53) (v := ?_) (a' := ?_) #[T, T, T, T, F, F, F, F, F, F, F, F, F, F, F, F, F, F, F, F, F, F, F, F, F, F] rfl rfl (any_of HT_.out (by kernel_rfl)) (fun _ _ _ h => h) (Or.inl ⟨by rfl, ?_⟩) ?_ ?_; rotate_left; (· intro w'; go_simp; with_reducible rfl); rotate_left; (· simp only [Act.put, sq]; rfl)
      refine pure_ (i := 4) (N := some 54) (v := ?_) (a' := ?_) #[T, T, T, T, T, F, F, F, F, F, F, F, F, F, F, F, F, F, F, F, F, F, F, F, F, F] rfl rfl (any_of HT_.out (by kernel_rfl)) (fun _ _ _ h => h) (Or.inl ⟨by rfl, ?_⟩) ?_ ?_; rotate_left; (· intro w'; go_simp; with_reducible rfl); rotate_left; (· simp only [Act.put, sq]; rfl)
      refine pure_ (i := 5) (N := some 55) (v := undef) (a' := ?_) #[T, T, T, T, T, T, F, F, F, F, F, F, F, F, F, F, F, F, F, F, F, F, F, F, F, F] rfl rfl (any_of HT_.out (by kernel_rfl)) (fun _ _ _ h => h) (Or.inr ⟨by rfl, rfl⟩) ?_ ?_
      rotate_left; (· simp only [Act.put, sq]; rfl)
      refine pure_ (i := 6) (N := some 56) (v := undef) (a' := ?_) #[T, T, T, T, T, T, T, F, F, F, F, F, F, F, F, F, F, F, F, F, F, F, F, F, F, F] rfl rfl (any_of HT_.out (by kernel_rfl)) (fun _ _ _ h => h) (Or.inr ⟨by rfl, rfl⟩) ?_ ?_
      rotate_left; (· simp only [Act.put, sq]; rfl)
      refine pure_ (i := 7) (N := some 57) (v := undef) (a' := ?_) #[T, T, T, T, T, T, T, T, F, F, F, F, F, F, F, F, F, F, F, F, F, F, F, F, F, F] rfl rfl (any_of HT_.out (by kernel_rfl)) (fun _ _ _ h => h) (Or.inr ⟨by rfl, rfl⟩) ?_ ?_
      rotate_left; (· simp only [Act.put, sq]; rfl)
      refine pure_ (i := 8) (N := some 58) (v := undef) (a' := ?_) #[T, T, T, T, T, T, T, T, T, F, F, F, F, F, F, F, F, F, F, F, F, F, F, F, F, F] rfl rfl (any_of HT_.out (by kernel_rfl)) (fun _ _ _ h => h) (Or.inr ⟨by rfl, rfl⟩) ?_ ?_
      rotate_left; (· simp only [Act.put, sq]; rfl)
      refine pure_ (i := 9) (N := some 59) (v := undef) (a' := ?_) #[T, T, T, T, T, T, T, T, T, T, F, F, F, F, F, F, F, F, F, F, F, F, F, F, F, F] rfl rfl (any_of HT_.out (by kernel_rfl)) (fun _ _ _ h => h) (Or.inr ⟨by rfl, rfl⟩) ?_ ?_
      rotate_left; (· simp only [Act.put, sq]; rfl)
      refine pure_ (i := 10) (N := some 60) (v := undef) (a' := ?_) #[T, T, T, T, T, T, T, T, T, T, T, F, F, F, F, F, F, F, F, F, F, F, F, F, F, F] rfl rfl (any_of HT_.out (by kernel_rfl)) (fun _ _ _ h => h) (Or.inr ⟨by rfl, rfl⟩) ?_ ?_
      rotate_left; (· simp only [Act.put, sq]; rfl)
      refine pure_ (i := 11) (N := some 61) (v := undef) (a' := ?_) #[T, T, T, T, T, T, T, T, T, T, T, T, F, F, F, F, F, F, F, F, F, F, F, F, F, F] rfl rfl (any_of HT_.out (by kernel_rfl)) (fun _ _ _ h => h) (Or.inr ⟨by rfl, rfl⟩) ?_ ?_
      rotate_left; (· simp only [Act.put, sq]; rfl)
      refine pure_ (i := 12) (N := some 62) (v := ?_) (a' := ?_) #[T, T, T, T, T, T, T, T, T, T, T, T, T, F, F, F, F, F, F, F, F, F, F, F, F, F] rfl rfl (any_of HT_.out (by kernel_rfl)) (fun _ _ _ h => h) (Or.inl ⟨by rfl, ?_⟩) ?_ ?_; rotate_left; (· intro w'; go_simp; with_reducible rfl); rotate_left; (· simp only [Act.put, sq]; rfl)
      refine pure_ (i := 13) (N := some 63) (v := ?_) (a' := ?_) #[T, T, T, T, T, T, T, T, T, T, T, T, T, T, F, F, F, F, F, F, F, F, F, F, F, F] rfl rfl (any_of HT_.out (by kernel_rfl)) (fun _ _ _ h => h) (Or.inl ⟨by rfl, ?_⟩) ?_ ?_; rotate_left; (· intro w'; go_simp; with_reducible rfl); rotate_left; (· simp only [Act.put, sq]; rfl)
      refine pure_ (i := 14) (N := some 64) (v := undef) (a' := ?_) #[T, T, T, T, T, T, T, T, T, T, T, T, T, T, T, F, F, F, F, F, F, F, F, F, F, F] rfl rfl (any_of HT_.out (by kernel_rfl)) (fun _ _ _ h => h) (Or.inr ⟨by rfl, rfl⟩) ?_ ?_
      rotate_left; (· simp only [Act.put, sq]; rfl)
      refine pure_ (i := 15) (N := some 65) (v := undef) (a' := ?_) #[T, T, T, T, T, T, T, T, T, T, T, T, T, T, T, T, F, F, F, F, F, F, F, F, F, F] rfl rfl (any_of HT_.out (by kernel_rfl)) (fun _ _ _ h => h) (Or.inr ⟨by rfl, rfl⟩) ?_ ?_
      rotate_left; (· simp only [Act.put, sq]; rfl)
      refine pure_ (i := 16) (N := some 66) (v := undef) (a' := ?_) #[T, T, T, T, T, T, T, T, T, T, T, T, T, T, T, T, T, F, F, F, F, F, F, F, F, F] rfl rfl (any_of HT_.out (by kernel_rfl)) (fun _ _ _ h => h) (Or.inr ⟨by rfl, rfl⟩) ?_ ?_
      rotate_left; (· simp only [Act.put, sq]; rfl)
      refine pure_ (i := 17) (N := some 67) (v := undef) (a' := ?_) #[T, T, T, T, T, T, T, T, T, T, T, T, T, T, T, T, T, T, F, F, F, F, F, F, F, F] rfl rfl (any_of HT_.out (by kernel_rfl)) (fun _ _ _ h => h) (Or.inr ⟨by rfl, rfl⟩) ?_ ?_
      rotate_left; (· simp only [Act.put, sq]; rfl)
      refine pure_ (i := 18) (N := some 68) (v := undef) (a' := ?_) #[T, T, T, T, T, T, T, T, T, T, T, T, T, T, T, T, T, T, T, F, F, F, F, F, F, F] rfl rfl (any_of HT_.out (by kernel_rfl)) (fun _ _ _ h => h) (Or.inr ⟨by rfl, rfl⟩) ?_ ?_
      rotate_left; (· simp only [Act.put, sq]; rfl)
      refine pure_ (i := 19) (N := some 69) (v := undef) (a' := ?_) #[T, T, T, T, T, T, T, T, T, T, T, T, T, T, T, T, T, T, T, T, F, F, F, F, F, F] rfl rfl (any_of HT_.out (by kernel_rfl)) (fun _ _ _ h => h) (Or.inr ⟨by rfl, rfl⟩) ?_ ?_
      rotate_left; (· simp only [Act.put, sq]; rfl)
      refine pure_ (i := 20) (N := some 70) (v := undef) (a' := ?_) #[T, T, T, T, T, T, T, T, T, T, T, T, T, T, T, T, T, T, T, T, T, F, F, F, F, F] rfl rfl (any_of HT_.out (by kernel_rfl)) (fun _ _ _ h => h) (Or.inr ⟨by rfl, rfl⟩) ?_ ?_
      rotate_left; (· simp only [Act.put, sq]; rfl)
      refine pure_ (i := 21) (N := some 71) (v := undef) (a' := ?_) #[T, T, T, T, T, T, T, T, T, T, T, T, T, T, T, T, T, T, T, T, T, T, F, F, F, F] rfl rfl (any_of HT_.out (by kernel_rfl)) (fun _ _ _ h => h) (Or.inr ⟨by rfl, rfl⟩) ?_ ?_
      rotate_left; (· simp only [Act.put, sq]; rfl)
      refine pure_ (i := 22) (N := some 72) (v := undef) (a' := ?_) #[T, T, T, T, T, T, T, T, T, T, T, T, T, T, T, T, T, T, T, T, T, T, T, F, F, F] rfl rfl (any_of HT_.out (by kernel_rfl)) (fun _ _ _ h => h) (Or.inr ⟨by rfl, rfl⟩) ?_ ?_
      rotate_left; (· simp only [Act.put, sq]; rfl)
      refine pure_ (i := 23) (N := some 73) (v := undef) (a' := ?_) #[T, T, T, T, T, T, T, T, T, T, T, T, T, T, T, T, T, T, T, T, T, T, T, T, F, F] rfl rfl (any_of HT_.out (by kernel_rfl)) (fun _ _ _ h => h) (Or.inr ⟨by rfl, rfl⟩) ?_ ?_
      rotate_left; (· simp only [Act.put, sq]; rfl)
      refine pure_ (i := 24) (N := some 74) (v := ?_) (a' := ?_) #[T, T, T, T, T, T, T, T, T, T, T, T, T, T, T, T, T, T, T, T, T, T, T, T, T, F] rfl rfl (any_of HT_.out (by kernel_rfl)) (fun _ _ _ h => h) (Or.inl ⟨by rfl, ?_⟩) ?_ ?_; rotate_left; (· intro w'; go_simp; with_reducible rfl); rotate_left; (· simp only [Act.put, sq]; rfl)
      refine pure_ (i := 25) (N := some 17) (v := ?_) (a' := ?_) #[T, T, T, T, T, T, T, T, T, T, T, T, T, T, T, T, T, T, T, T, T, T, T, T, T, T] rfl rfl (any_of HT_.out (by kernel_rfl)) (fun _ _ _ h => h) (Or.inl ⟨by rfl, ?_⟩) ?_ ?_; rotate_left; (· intro w'; go_simp; with_reducible rfl); rotate_left; (· simp only [Act.put, sq]; rfl)
      refine done_ (done_of HT_.out (by kernel_rfl)) ?_
      try go_wp2
      go_meet
      case rel => exact ⟨_, (false), (by first | rfl | (simp; done) | (simp [*]; done)), H', ⟨by first | omega | exact Nat.le_refl _⟩, ⟨by (with_reducible repeat (first | apply Kd.R_alloc | apply Kd.R_drewN | apply Kd.R_drew)); exact Kd.R_mono HO305.out (fun _ hk => ⟨hk.2.2.1, hk.2.2.2.2.2⟩)⟩, ⟨by (with_reducible repeat (first | apply Kd.R_alloc | apply Kd.R_drewN | apply Kd.R_drew)); exact Kd.R_mono HO318.out (fun _ hk => ⟨hk.1, hk.2.2.2.2.2⟩)⟩, ⟨by (with_reducible repeat (first | apply Kd.R_alloc | apply Kd.R_drewN | apply Kd.R_drew)); exact Kd.R_mono HO332.out (fun _ hk => ⟨hk.1, hk.2.2.2.1⟩)⟩, ⟨Bs BK302.out⟩, ⟨Bs BK307.out⟩, ⟨Bs BK321.out⟩, ⟨Bs BK335.out⟩, ⟨Ls HB⟩⟩
    · replace c51 := Bool.eq_false_iff.mpr c51
      subst c51
      have H1 : ((bloom_Add.f k ([] : List Int) 0 (([a4] : List Int))).bind fun bt340 => ((bloom_Has.f k bt340.1 bt340.2 a4).bind fun t344 => (if t344 = true then (trommellaw18_BloomSizes.j0 k a0 a1 t320 t334 false) else ((bloom_Words.f ([] : List Int) 0).bind fun t345 => ((bloom_Ones.f k ([] : List Int) 0).bind fun t348 => ((bloom_Bits.f ([] : List Int) 0).bind fun t349 => (trommellaw18_BloomSizes.j0 k a0 a1 t320 t334 ((wrap64 ((wrap64 ((t345.length : Int) + t348)) + t349)) == 0)))))))) = some r := by rw [if_neg (show ¬ (false = true) by decide)] at H; exact H
      clear H
      have H := H1
      clear H1
      obtain ⟨y337, hy337⟩ : ∃ y_ : List Int, y_ = (([a4] : List Int)) := ⟨_, rfl⟩
      replace H : ((bloom_Add.f k ([] : List Int) 0 y337).bind fun bt340 => ((bloom_Has.f k bt340.1 bt340.2 a4).bind fun t344 => (if t344 = true then (trommellaw18_BloomSizes.j0 k a0 a1 t320 t334 false) else ((bloom_Words.f ([] : List Int) 0).bind fun t345 => ((bloom_Ones.f k ([] : List Int) 0).bind fun t348 => ((bloom_Bits.f ([] : List Int) 0).bind fun t349 => (trommellaw18_BloomSizes.j0 k a0 a1 t320 t334 ((wrap64 ((wrap64 ((t345.length : Int) + t348)) + t349)) == 0)))))))) = some r := by first | (rw [hy337]; with_reducible exact H) | (have H2_ := (Option.bind_some _ _).symm.trans H; rw [hy337]; with_reducible exact H2_) | (have H2_ := (Option.bind_some _ _).symm.trans H; with_reducible exact H2_) | with_reducible exact H | (rw [hy337]; exact H) | exact H
      have Ny337 := Aside0.mk hy337
      clear hy337
      replace H := Option.bind_eq_some_iff.mp H
      obtain ⟨⟨t340, t343⟩, A550, H⟩ := H
      replace H : ((bloom_Has.f k t340 t343 a4).bind fun t344 => (if t344 = true then (trommellaw18_BloomSizes.j0 k a0 a1 t320 t334 false) else ((bloom_Words.f ([] : List Int) 0).bind fun t345 => ((bloom_Ones.f k ([] : List Int) 0).bind fun t348 => ((bloom_Bits.f ([] : List Int) 0).bind fun t349 => (trommellaw18_BloomSizes.j0 k a0 a1 t320 t334 ((wrap64 ((wrap64 ((t345.length : Int) + t348)) + t349)) == 0))))))) = some r := H
      have A55 := Aside0.mk A550
      clear A550
      replace H := Option.bind_eq_some_iff.mp H
      obtain ⟨t344, A560, H⟩ := H
      replace H : (if t344 = true then (trommellaw18_BloomSizes.j0 k a0 a1 t320 t334 false) else ((bloom_Words.f ([] : List Int) 0).bind fun t345 => ((bloom_Ones.f k ([] : List Int) 0).bind fun t348 => ((bloom_Bits.f ([] : List Int) 0).bind fun t349 => (trommellaw18_BloomSizes.j0 k a0 a1 t320 t334 ((wrap64 ((wrap64 ((t345.length : Int) + t348)) + t349)) == 0)))))) = some r := H
      have A56 := Aside0.mk A560
      clear A560
      by_cases c57 : t344 = true
      · subst c57
        have H1 : (trommellaw18_BloomSizes.j0 k a0 a1 t320 t334 false) = some r := by rw [if_pos rfl] at H; exact H
        clear H
        have H := H1
        clear H1
        have H' := Aside0.mk H
        clear H
        try go_wp2
        have n0_ : Aside0 (Kd.R (Kd.int .u64) 33 ((w45.setCell ⟨gb335, 0, none⟩ (.slice Ao47 t330.length co47)).setCell ⟨gb335, 1, none⟩ (.int .i64 t333)) w.heap.size (fun k_ => some k_ ≠ (.slice Ao32 t308.length co32 : Value).ownBlock ∧ some k_ ≠ (v313 : Value).ownBlock ∧ some k_ ≠ (.slice Ao33 t316.length co33 : Value).ownBlock ∧ some k_ ≠ (.slice Ao46 t322.length co46 : Value).ownBlock ∧ some k_ ≠ (v327 : Value).ownBlock ∧ some k_ ≠ (.slice Ao47 t330.length co47 : Value).ownBlock) (.slice Ao19 t303.length co19) t303) := ⟨by (with_reducible repeat (first | apply Kd.R_alloc | apply Kd.R_drewN | apply Kd.R_drew)); exact Kd.R_mono (Kd.R_far (p := ⟨gb335, 1, none⟩) (Kd.R_far (p := ⟨gb335, 0, none⟩) (Kd.R_types HO305.out BK335.out (by decide)) (fun _ hk => hk.2) (.slice Ao47 t330.length co47)) (fun _ hk => hk.2) (.int .i64 t333)) (fun _ hk => ⟨hk.1.1, ⟨hk.1.2.1, ⟨hk.1.2.2.1, ⟨hk.1.2.2.2.1, ⟨hk.1.2.2.2.2.1, hk.1.2.2.2.2.2⟩⟩⟩⟩⟩)⟩
        have n1_ : Aside0 (Kd.R (Kd.int .u64) 33 ((w45.setCell ⟨gb335, 0, none⟩ (.slice Ao47 t330.length co47)).setCell ⟨gb335, 1, none⟩ (.int .i64 t333)) w.heap.size (fun k_ => some k_ ≠ (.slice Ao19 t303.length co19 : Value).ownBlock ∧ some k_ ≠ (v313 : Value).ownBlock ∧ some k_ ≠ (.slice Ao33 t316.length co33 : Value).ownBlock ∧ some k_ ≠ (.slice Ao46 t322.length co46 : Value).ownBlock ∧ some k_ ≠ (v327 : Value).ownBlock ∧ some k_ ≠ (.slice Ao47 t330.length co47 : Value).ownBlock) (.slice Ao32 t308.length co32) t308) := ⟨by (with_reducible repeat (first | apply Kd.R_alloc | apply Kd.R_drewN | apply Kd.R_drew)); exact Kd.R_mono (Kd.R_far (p := ⟨gb335, 1, none⟩) (Kd.R_far (p := ⟨gb335, 0, none⟩) (Kd.R_types HO310.out BK335.out (by decide)) (fun _ hk => hk.2) (.slice Ao47 t330.length co47)) (fun _ hk => hk.2) (.int .i64 t333)) (fun _ hk => ⟨hk.1.1, ⟨hk.1.2.1, ⟨hk.1.2.2.1, ⟨hk.1.2.2.2.1, ⟨hk.1.2.2.2.2.1, hk.1.2.2.2.2.2⟩⟩⟩⟩⟩)⟩
        have n2_ : Aside0 (Kd.R (Kd.int .u64) 33 ((w45.setCell ⟨gb335, 0, none⟩ (.slice Ao47 t330.length co47)).setCell ⟨gb335, 1, none⟩ (.int .i64 t333)) w.heap.size (fun k_ => some k_ ≠ (.slice Ao19 t303.length co19 : Value).ownBlock ∧ some k_ ≠ (.slice Ao32 t308.length co32 : Value).ownBlock ∧ some k_ ≠ (.slice Ao33 t316.length co33 : Value).ownBlock ∧ some k_ ≠ (.slice Ao46 t322.length co46 : Value).ownBlock ∧ some k_ ≠ (v327 : Value).ownBlock ∧ some k_ ≠ (.slice Ao47 t330.length co47 : Value).ownBlock) v313 t312) := ⟨by (with_reducible repeat (first | apply Kd.R_alloc | apply Kd.R_drewN | apply Kd.R_drew)); exact Kd.R_mono (Kd.R_far (p := ⟨gb335, 1, none⟩) (Kd.R_far (p := ⟨gb335, 0, none⟩) (Kd.R_types HO314.out BK335.out (by decide)) (fun _ hk => hk.2) (.slice Ao47 t330.length co47)) (fun _ hk => hk.2) (.int .i64 t333)) (fun _ hk => ⟨hk.1.1, ⟨hk.1.2.1, ⟨hk.1.2.2.1, ⟨hk.1.2.2.2.1, ⟨hk.1.2.2.2.2.1, hk.1.2.2.2.2.2⟩⟩⟩⟩⟩)⟩
        have n3_ : Aside0 (Kd.R (Kd.int .u64) 33 ((w45.setCell ⟨gb335, 0, none⟩ (.slice Ao47 t330.length co47)).setCell ⟨gb335, 1, none⟩ (.int .i64 t333)) w.heap.size (fun k_ => some k_ ≠ (.slice Ao19 t303.length co19 : Value).ownBlock ∧ some k_ ≠ (.slice Ao32 t308.length co32 : Value).ownBlock ∧ some k_ ≠ (v313 : Value).ownBlock ∧ some k_ ≠ (.slice Ao46 t322.length co46 : Value).ownBlock ∧ some k_ ≠ (v327 : Value).ownBlock ∧ some k_ ≠ (.slice Ao47 t330.length co47 : Value).ownBlock) (.slice Ao33 t316.length co33) t316) := ⟨by (with_reducible repeat (first | apply Kd.R_alloc | apply Kd.R_drewN | apply Kd.R_drew)); exact Kd.R_mono (Kd.R_far (p := ⟨gb335, 1, none⟩) (Kd.R_far (p := ⟨gb335, 0, none⟩) (Kd.R_types HO318.out BK335.out (by decide)) (fun _ hk => hk.2) (.slice Ao47 t330.length co47)) (fun _ hk => hk.2) (.int .i64 t333)) (fun _ hk => ⟨hk.1.1, ⟨hk.1.2.1, ⟨hk.1.2.2.1, ⟨hk.1.2.2.2.1, ⟨hk.1.2.2.2.2.1, hk.1.2.2.2.2.2⟩⟩⟩⟩⟩)⟩
        have n4_ : Aside0 (Kd.R (Kd.int .u64) 33 ((w45.setCell ⟨gb335, 0, none⟩ (.slice Ao47 t330.length co47)).setCell ⟨gb335, 1, none⟩ (.int .i64 t333)) w.heap.size (fun k_ => some k_ ≠ (.slice Ao19 t303.length co19 : Value).ownBlock ∧ some k_ ≠ (.slice Ao32 t308.length co32 : Value).ownBlock ∧ some k_ ≠ (v313 : Value).ownBlock ∧ some k_ ≠ (.slice Ao33 t316.length co33 : Value).ownBlock ∧ some k_ ≠ (v327 : Value).ownBlock ∧ some k_ ≠ (.slice Ao47 t330.length co47 : Value).ownBlock) (.slice Ao46 t322.length co46) t322) := ⟨by (with_reducible repeat (first | apply Kd.R_alloc | apply Kd.R_drewN | apply Kd.R_drew)); exact Kd.R_mono (Kd.R_far (p := ⟨gb335, 1, none⟩) (Kd.R_far (p := ⟨gb335, 0, none⟩) (Kd.R_types HO324.out BK335.out (by decide)) (fun _ hk => hk.2) (.slice Ao47 t330.length co47)) (fun _ hk => hk.2) (.int .i64 t333)) (fun _ hk => ⟨hk.1.1, ⟨hk.1.2.1, ⟨hk.1.2.2.1, ⟨hk.1.2.2.2.1, ⟨hk.1.2.2.2.2.1, hk.1.2.2.2.2.2⟩⟩⟩⟩⟩)⟩
        have n5_ : Aside0 (Kd.R (Kd.int .u64) 33 ((w45.setCell ⟨gb335, 0, none⟩ (.slice Ao47 t330.length co47)).setCell ⟨gb335, 1, none⟩ (.int .i64 t333)) w.heap.size (fun k_ => some k_ ≠ (.slice Ao19 t303.length co19 : Value).ownBlock ∧ some k_ ≠ (.slice Ao32 t308.length co32 : Value).ownBlock ∧ some k_ ≠ (v313 : Value).ownBlock ∧ some k_ ≠ (.slice Ao33 t316.length co33 : Value).ownBlock ∧ some k_ ≠ (.slice Ao46 t322.length co46 : Value).ownBlock ∧ some k_ ≠ (.slice Ao47 t330.length co47 : Value).ownBlock) v327 t326) := ⟨by (with_reducible repeat (first | apply Kd.R_alloc | apply Kd.R_drewN | apply Kd.R_drew)); exact Kd.R_mono (Kd.R_far (p := ⟨gb335, 1, none⟩) (Kd.R_far (p := ⟨gb335, 0, none⟩) (Kd.R_types HO328.out BK335.out (by decide)) (fun _ hk => hk.2) (.slice Ao47 t330.length co47)) (fun _ hk => hk.2) (.int .i64 t333)) (fun _ hk => ⟨hk.1.1, ⟨hk.1.2.1, ⟨hk.1.2.2.1, ⟨hk.1.2.2.2.1, ⟨hk.1.2.2.2.2.1, hk.1.2.2.2.2.2⟩⟩⟩⟩⟩)⟩
        have n6_ : Aside0 (Kd.R (Kd.int .u64) 33 ((w45.setCell ⟨gb335, 0, none⟩ (.slice Ao47 t330.length co47)).setCell ⟨gb335, 1, none⟩ (.int .i64 t333)) w.heap.size (fun k_ => some k_ ≠ (.slice Ao19 t303.length co19 : Value).ownBlock ∧ some k_ ≠ (.slice Ao32 t308.length co32 : Value).ownBlock ∧ some k_ ≠ (v313 : Value).ownBlock ∧ some k_ ≠ (.slice Ao33 t316.length co33 : Value).ownBlock ∧ some k_ ≠ (.slice Ao46 t322.length co46 : Value).ownBlock ∧ some k_ ≠ (v327 : Value).ownBlock) (.slice Ao47 t330.length co47) t330) := ⟨by (with_reducible repeat (first | apply Kd.R_alloc | apply Kd.R_drewN | apply Kd.R_drew)); exact Kd.R_mono (Kd.R_far (p := ⟨gb335, 1, none⟩) (Kd.R_far (p := ⟨gb335, 0, none⟩) (Kd.R_types HO332.out BK335.out (by decide)) (fun _ hk => hk.2) (.slice Ao47 t330.length co47)) (fun _ hk => hk.2) (.int .i64 t333)) (fun _ hk => ⟨hk.1.1, ⟨hk.1.2.1, ⟨hk.1.2.2.1, ⟨hk.1.2.2.2.1, ⟨hk.1.2.2.2.2.1, hk.1.2.2.2.2.2⟩⟩⟩⟩⟩)⟩
        have n7_ : Aside0 (((w45.setCell ⟨gb335, 0, none⟩ (.slice Ao47 t330.length co47)).setCell ⟨gb335, 1, none⟩ (.int .i64 t333)).heap[gb302]? = some (.cells #[.slice none 0 0, .int .i64 0] 25 (0, 0))) := ⟨by (with_reducible repeat (first | refine blk_drewN ?_ _ | refine blk_drew ?_ | refine blk_alloc ?_ _)); refine blk_far ?_ NB302_335.out _; (with_reducible repeat (first | refine blk_drewN ?_ _ | refine blk_drew ?_ | refine blk_alloc ?_ _)); refine blk_far ?_ NB302_335.out _; (with_reducible repeat (first | refine blk_drewN ?_ _ | refine blk_drew ?_ | refine blk_alloc ?_ _)); exact BK302.out⟩
        have n8_ : Aside0 (((w45.setCell ⟨gb335, 0, none⟩ (.slice Ao47 t330.length co47)).setCell ⟨gb335, 1, none⟩ (.int .i64 t333)).heap[gb307]? = some (.cells #[.slice Ao19 t303.length co19, .int .i64 t306] 25 (0, 0))) := ⟨by (with_reducible repeat (first | refine blk_drewN ?_ _ | refine blk_drew ?_ | refine blk_alloc ?_ _)); refine blk_far ?_ NB307_335.out _; (with_reducible repeat (first | refine blk_drewN ?_ _ | refine blk_drew ?_ | refine blk_alloc ?_ _)); refine blk_far ?_ NB307_335.out _; (with_reducible repeat (first | refine blk_drewN ?_ _ | refine blk_drew ?_ | refine blk_alloc ?_ _)); exact BK307.out⟩
        have n9_ : Aside0 (((w45.setCell ⟨gb335, 0, none⟩ (.slice Ao47 t330.length co47)).setCell ⟨gb335, 1, none⟩ (.int .i64 t333)).heap[gb321]? = some (.cells #[.slice Ao33 t316.length co33, .int .i64 t319] 25 (0, 0))) := ⟨by (with_reducible repeat (first | refine blk_drewN ?_ _ | refine blk_drew ?_ | refine blk_alloc ?_ _)); refine blk_far ?_ NB321_335.out _; (with_reducible repeat (first | refine blk_drewN ?_ _ | refine blk_drew ?_ | refine blk_alloc ?_ _)); refine blk_far ?_ NB321_335.out _; (with_reducible repeat (first | refine blk_drewN ?_ _ | refine blk_drew ?_ | refine blk_alloc ?_ _)); exact BK321.out⟩
        have n10_ : Aside0 (((w45.setCell ⟨gb335, 0, none⟩ (.slice Ao47 t330.length co47)).setCell ⟨gb335, 1, none⟩ (.int .i64 t333)).heap[gb335]? = some (.cells #[.slice Ao47 t330.length co47, .int .i64 t333] 25 (0, 0))) := ⟨by (with_reducible repeat (first | refine blk_drewN ?_ _ | refine blk_drew ?_ | refine blk_alloc ?_ _)); refine blk_put (cs := #[.slice Ao47 t330.length co47, .int .i64 0]) ?_ 1 _ rfl; (with_reducible repeat (first | refine blk_drewN ?_ _ | refine blk_drew ?_ | refine blk_alloc ?_ _)); refine blk_put (cs := #[.slice none 0 0, .int .i64 0]) ?_ 0 _ rfl; (with_reducible repeat (first | refine blk_drewN ?_ _ | refine blk_drew ?_ | refine blk_alloc ?_ _)); exact BK335.out⟩
        have n11_ : Aside0 (Below w.heap.size w ((w45.setCell ⟨gb335, 0, none⟩ (.slice Ao47 t330.length co47)).setCell ⟨gb335, 1, none⟩ (.int .i64 t333))) := ⟨Ls HB⟩
        try clear HO305; try clear HO310; try clear HO314; try clear HO318; try clear HO324; try clear HO328; try clear HO332; try clear BK302; try clear BK307; try clear BK321; try clear BK335; try clear HB
        generalize ((w45.setCell ⟨gb335, 0, none⟩ (.slice Ao47 t330.length co47)).setCell ⟨gb335, 1, none⟩ (.int .i64 t333)) = w58 at n0_ n1_ n2_ n3_ n4_ n5_ n6_ n7_ n8_ n9_ n10_ n11_ ⊢
        have HO305 := n0_; have HO310 := n1_; have HO314 := n2_; have HO318 := n3_; have HO324 := n4_; have HO328 := n5_; have HO332 := n6_; have BK302 := n7_; have BK307 := n8_; have BK321 := n9_; have BK335 := n10_; have HB := n11_
        clear n0_ n1_ n2_ n3_ n4_ n5_ n6_ n7_ n8_ n9_ n10_ n11_
        replace HO305 := Aside0.mk (Kd.R_drew HO305.out)
        replace HO310 := Aside0.mk (Kd.R_drew HO310.out)
        replace HO314 := Aside0.mk (Kd.R_drew HO314.out)
        replace HO318 := Aside0.mk (Kd.R_drew HO318.out)
        replace HO324 := Aside0.mk (Kd.R_drew HO324.out)
        replace HO328 := Aside0.mk (Kd.R_drew HO328.out)
        replace HO332 := Aside0.mk (Kd.R_drew HO332.out)
        replace BK302 := Aside0.mk (blk_drew BK302.out)
        replace BK307 := Aside0.mk (blk_drew BK307.out)
        replace BK321 := Aside0.mk (blk_drew BK321.out)
        replace BK335 := Aside0.mk (blk_drew BK335.out)
        replace HB := Aside0.mk (below_drew1 HB.out)
        refine start_ (n := 26) (S := fun w' => w'.cell? ⟨gb302, 0, none⟩ = some (.slice none 0 0) ∧ w'.cell? ⟨gb302, 1, none⟩ = some (.int .i64 0)) (ds := []) #[F, F, F, F, F, F, F, F, F, F, F, F, F, F, F, F, F, F, F, F, F, F, F, F, F, F] (by kernel_rfl) rfl rfl ⟨(blk_cell BK302.out 0).trans rfl, (blk_cell BK302.out 1).trans rfl⟩ (fun hHeld => ?_); refine with_tabW trommellaw18_BloomSizes.tab5 trommellaw18_BloomSizes.bits5 (fun HT_ HW_ => ?_)
        generalize w58.drew = w59 at HO305 HO310 HO314 HO318 HO324 HO328 HO332 BK302 BK307 BK321 BK335 HB hHeld ⊢
        refine pure_ (i := 1) (N := some 51) (v := ?_) (a' := ?_) #[F, T, F, F, F, F, F, F, F, F, F, F, F, F, F, F, F, F, F, F, F, F, F, F, F, F] rfl rfl (any_of HT_.out (by kernel_rfl)) (fun _ _ _ h => h) (Or.inl ⟨by rfl, ?_⟩) ?_ ?_; rotate_left; (· intro w'; go_simp; with_reducible rfl); rotate_left; (· simp only [Act.put, sq]; rfl)
        refine take_ (i := 0) (N := some 50) (v := ?_) (a' := ?_) #[T, T, F, F, F, F, F, F, F, F, F, F, F, F, F, F, F, F, F, F, F, F, F, F, F, F] rfl rfl (take_ofW HT_.out HW_.out (by kernel_rfl)) (fun _ _ _ h => h) (Or.inl ⟨by rfl, ?_⟩) hHeld ?_ ?_; rotate_left; (· rintro w' ⟨s0, s1⟩; go_simp; with_reducible rfl); rotate_left; (· simp only [Act.put, sq]; rfl)
        refine one_ (i := 2) (N := some 52) #[T, T, T, F, F, F, F, F, F, F, F, F, F, F, F, F, F, F, F, F, F, F, F, F, F, F] rfl rfl (one_of HT_.out (by kernel_rfl)) (by decide) (fun K hK => ?_)
        refine goes_ Try.func14 (by kernel_rfl) rfl #[.agg #[.slice none 0 0, .int .i64 0], .int .u64 a4] (by rfl) rfl rfl (by (try simp only [List.map_toArray, List.map_cons, List.map_nil]); first | done | rfl | (simp only [List.length_drop, List.length_take]; rfl)) ?_
        refine (bloom_Has.calls k _ _ ([] : List Int) 0 a4 false _ ?side1 ?side2 A50.out).mono ?_
        (case side1 => exact Kd.C_nil _ _)
        (case side2 => exact Nat.le_refl _)
        rintro e w60 ⟨rfl, hb⟩
        refine ⟨_, rfl, ?_⟩
        replace HO305 := Rb HO305 hb
        replace HO310 := Rb HO310 hb
        replace HO314 := Rb HO314 hb
        replace HO318 := Rb HO318 hb
        replace HO324 := Rb HO324 hb
        replace HO328 := Rb HO328 hb
        replace HO332 := Rb HO332 hb
        replace BK302 := Bb BK302 hb
        replace BK307 := Bb BK307 hb
        replace BK321 := Bb BK321 hb
        replace BK335 := Bb BK335 hb
        replace HB := Lb HB hb
        try clear hb; try clear hb2; try clear hk; try clear hi
        refine hK.out _ _ ⟨(blk_cell BK302.out 0).trans rfl, (blk_cell BK302.out 1).trans rfl⟩ (fun hHeld => ?_)
        clear hK K
        refine norm_ (a' := ?_) ?_ ?_; rotate_left; (· show Act.put _ (some 52) _ = _; simp only [Act.put, sq]; rfl)
        refine pure_ (i := 3) (N := some 53) (v := ?_) (a' := ?_) #[T, T, T, T, F, F, F, F, F, F, F, F, F, F, F, F, F, F, F, F, F, F, F, F, F, F] rfl rfl (any_of HT_.out (by kernel_rfl)) (fun _ _ _ h => h) (Or.inl ⟨by rfl, ?_⟩) ?_ ?_; rotate_left; (· intro w'; go_simp; with_reducible rfl); rotate_left; (· simp only [Act.put, sq]; rfl)
        refine pure_ (i := 4) (N := some 54) (v := ?_) (a' := ?_) #[T, T, T, T, T, F, F, F, F, F, F, F, F, F, F, F, F, F, F, F, F, F, F, F, F, F] rfl rfl (any_of HT_.out (by kernel_rfl)) (fun _ _ _ h => h) (Or.inl ⟨by rfl, ?_⟩) ?_ ?_; rotate_left; (· intro w'; go_simp; with_reducible rfl); rotate_left; (· simp only [Act.put, sq]; rfl)
        refine pure_ (i := 6) (N := some 56) (v := ?_) (a' := ?_) #[T, T, T, T, T, F, T, F, F, F, F, F, F, F, F, F, F, F, F, F, F, F, F, F, F, F] rfl rfl (any_of HT_.out (by kernel_rfl)) (fun _ _ _ h => h) (Or.inl ⟨by rfl, ?_⟩) ?_ ?_; rotate_left; (· intro w'; go_simp; with_reducible rfl); rotate_left; (· simp only [Act.put, sq]; rfl)
        refine pure_ (i := 9) (N := some 59) (v := ?_) (a' := ?_) #[T, T, T, T, T, F, T, F, F, T, F, F, F, F, F, F, F, F, F, F, F, F, F, F, F, F] rfl rfl (any_of HT_.out (by kernel_rfl)) (fun _ _ _ h => h) (Or.inl ⟨by rfl, ?_⟩) ?_ ?_; rotate_left; (· intro w'; go_simp; with_reducible rfl); rotate_left; (· simp only [Act.put, sq]; rfl)
        refine take_ (i := 5) (N := some 55) (v := ?_) (a' := ?_) #[T, T, T, T, T, T, T, F, F, T, F, F, F, F, F, F, F, F, F, F, F, F, F, F, F, F] rfl rfl (take_ofW HT_.out HW_.out (by kernel_rfl)) (fun _ _ _ h => h) (Or.inl ⟨by rfl, ?_⟩) hHeld ?_ ?_; rotate_left; (· rintro w' ⟨s0, s1⟩; go_simp; with_reducible rfl); rotate_left; (· simp only [Act.put, sq]; rfl)
        refine one_ (i := 7) (N := some 57) #[T, T, T, T, T, T, T, T, F, T, F, F, F, F, F, F, F, F, F, F, F, F, F, F, F, F] rfl rfl (one_of HT_.out (by kernel_rfl)) (by decide) (fun K hK => ?_)
        refine Kd.R_lit_step (Kd.int .u64) _ 33 ?hg (N := 57) ?hd (xs := ([a4] : List Int)) (inner := [.int .u64 a4]) (ok := fun _ => True) (okp := fun _ => True) ?hr ?hp (fun _ hk => hk) trivial (Below.refl _ _) (Nat.le_refl _) (by simp) ?_; (case hd => rfl); (case hg => rfl); (case hr => first | (go_simp; done) | (go_simp; rfl)); (case hp => exact (Reps.one (show Kd.M (Kd.int .u64) _ _ _ a4 [.int .u64 a4] from rfl) (Reps.none _ _)))
        intro v338 w61 ho62 hb hg_ hnew_
        clear hg_ hnew_
        (first | rw [← Ny337.out] at ho62 | (simp only [Int.reduceToNat] at ho62; rw [← Ny337.out] at ho62))
        have HO339 := Aside0.mk (Kd.R_lower (Kd.R_new' (Kd.R_new' (Kd.R_new' (Kd.R_new' (Kd.R_new' (Kd.R_new' (Kd.R_new' ho62 (Kd.R_lt (Rs HO305.out))) (Kd.R_lt (Rs HO310.out))) (Kd.R_lt (Rs HO314.out))) (Kd.R_lt (Rs HO318.out))) (Kd.R_lt (Rs HO324.out))) (Kd.R_lt (Rs HO328.out))) (Kd.R_lt (Rs HO332.out))) (Lz HB))
        replace HO305 := Aside0.mk (Kd.R_elder' (Rs HO305.out) (Kd.R_base ho62) hb)
        replace HO310 := Aside0.mk (Kd.R_elder' (Rs HO310.out) (Kd.R_base ho62) hb)
        replace HO314 := Aside0.mk (Kd.R_elder' (Rs HO314.out) (Kd.R_base ho62) hb)
        replace HO318 := Aside0.mk (Kd.R_elder' (Rs HO318.out) (Kd.R_base ho62) hb)
        replace HO324 := Aside0.mk (Kd.R_elder' (Rs HO324.out) (Kd.R_base ho62) hb)
        replace HO328 := Aside0.mk (Kd.R_elder' (Rs HO328.out) (Kd.R_base ho62) hb)
        replace HO332 := Aside0.mk (Kd.R_elder' (Rs HO332.out) (Kd.R_base ho62) hb)
        replace BK302 := Bb BK302 hb
        replace BK307 := Bb BK307 hb
        replace BK321 := Bb BK321 hb
        replace BK335 := Bb BK335 hb
        replace HB := Lb HB hb
        clear hb ho62
        obtain ⟨Ao63, co63, eo63⟩ := Kd.R_slice HO339.out
        (first | subst eo63 | (injection eo63 with f1_ f2_ f3_; have f4_ := f1_.symm; have f5_ := f3_.symm; clear f1_ f2_ f3_; subst f4_; subst f5_))
        refine hK.out _ _ ⟨(blk_cell BK302.out 0).trans rfl, (blk_cell BK302.out 1).trans rfl⟩ (fun hHeld => ?_)
        clear hK K
        refine norm_ (a' := ?_) ?_ ?_; rotate_left; (· show Act.put _ (some 57) _ = _; simp only [Act.put, sq]; rfl)
        refine one_ (i := 8) (N := some 58) #[T, T, T, T, T, T, T, T, T, T, F, F, F, F, F, F, F, F, F, F, F, F, F, F, F, F] rfl rfl (one_of HT_.out (by kernel_rfl)) (by decide) (fun K hK => ?_)
        refine goes_ Try.func10 (by kernel_rfl) rfl #[.agg #[.slice none 0 0, .int .i64 0], .slice Ao63 y337.length co63] (by rfl) rfl rfl (by (try simp only [List.map_toArray, List.map_cons, List.map_nil]); first | done | rfl | (simp only [List.length_drop, List.length_take]; rfl)) ?_
        refine (bloom_Add.calls k (fun k_ => some k_ = (.slice none 0 0 : Value).ownBlock) (.slice none 0 0) ([] : List Int) 0 _ _ y337 t340 t343 w _ ?side1 ?side2 ?side3 ?side4 A55.out).mono ?_
        (case side1 => repeat (first | (with_reducible first | exact HB.out | apply below_alloc | apply pw_below_drewN | apply below_drew1 | refine below_set ?_ GE302.out | refine below_set ?_ GE307.out | refine below_set ?_ GE321.out | refine below_set ?_ GE335.out) | exact HB.out))
        (case side2 => exact Kd.R_nil _ _ _ _ _)
        (case side3 => exact Kd.C_kept_own (HO339.out) (fun k_ hk_ hs_ => (fun e_ => by simp [Value.ownBlock] at e_) hs_))
        (case side4 => exact (Kd.R_reads' HO339.out).2.1)
        rintro e w64 ⟨v341, rfl, ho0, hb, hkp⟩
        refine ⟨_, rfl, ?_⟩
        replace BK302 := Aside0.mk (blk_kept (Bs BK302.out) hkp (fun hs_ => (fun e_ => by simp [Value.ownBlock] at e_) hs_))
        replace BK307 := Aside0.mk (blk_kept (Bs BK307.out) hkp (fun hs_ => (fun e_ => by simp [Value.ownBlock] at e_) hs_))
        replace BK321 := Aside0.mk (blk_kept (Bs BK321.out) hkp (fun hs_ => (fun e_ => by simp [Value.ownBlock] at e_) hs_))
        replace BK335 := Aside0.mk (blk_kept (Bs BK335.out) hkp (fun hs_ => (fun e_ => by simp [Value.ownBlock] at e_) hs_))
        have HO342 := Aside0.mk (Kd.R_mono (ok' := fun k_ => some k_ ≠ (.slice Ao19 t303.length co19 : Value).ownBlock ∧ some k_ ≠ (.slice Ao32 t308.length co32 : Value).ownBlock ∧ some k_ ≠ (v313 : Value).ownBlock ∧ some k_ ≠ (.slice Ao33 t316.length co33 : Value).ownBlock ∧ some k_ ≠ (.slice Ao46 t322.length co46 : Value).ownBlock ∧ some k_ ≠ (v327 : Value).ownBlock ∧ some k_ ≠ (.slice Ao47 t330.length co47 : Value).ownBlock ∧ some k_ ≠ (.slice Ao63 y337.length co63 : Value).ownBlock) ho0 (fun k_ hk_ => ⟨Or.elim hk_ (fun hs_ => absurd hs_ (by simp [Value.ownBlock])) (fun hn_ => (Kd.fresh' (Kd.R_lt (Rs HO305.out)) k_ hn_)), Or.elim hk_ (fun hs_ => absurd hs_ (by simp [Value.ownBlock])) (fun hn_ => (Kd.fresh' (Kd.R_lt (Rs HO310.out)) k_ hn_)), Or.elim hk_ (fun hs_ => absurd hs_ (by simp [Value.ownBlock])) (fun hn_ => (Kd.fresh' (Kd.R_lt (Rs HO314.out)) k_ hn_)), Or.elim hk_ (fun hs_ => absurd hs_ (by simp [Value.ownBlock])) (fun hn_ => (Kd.fresh' (Kd.R_lt (Rs HO318.out)) k_ hn_)), Or.elim hk_ (fun hs_ => absurd hs_ (by simp [Value.ownBlock])) (fun hn_ => (Kd.fresh' (Kd.R_lt (Rs HO324.out)) k_ hn_)), Or.elim hk_ (fun hs_ => absurd hs_ (by simp [Value.ownBlock])) (fun hn_ => (Kd.fresh' (Kd.R_lt (Rs HO328.out)) k_ hn_)), Or.elim hk_ (fun hs_ => absurd hs_ (by simp [Value.ownBlock])) (fun hn_ => (Kd.fresh' (Kd.R_lt (Rs HO332.out)) k_ hn_)), Or.elim hk_ (fun hs_ => absurd hs_ (by simp [Value.ownBlock])) (fun hn_ => (Kd.fresh' (Kd.R_lt (Rs HO339.out)) k_ hn_))⟩))
        replace HO305 := Aside0.mk (Kd.R_mono (ok' := fun k_ => some k_ ≠ (.slice Ao32 t308.length co32 : Value).ownBlock ∧ some k_ ≠ (v313 : Value).ownBlock ∧ some k_ ≠ (.slice Ao33 t316.length co33 : Value).ownBlock ∧ some k_ ≠ (.slice Ao46 t322.length co46 : Value).ownBlock ∧ some k_ ≠ (v327 : Value).ownBlock ∧ some k_ ≠ (.slice Ao47 t330.length co47 : Value).ownBlock ∧ some k_ ≠ (.slice Ao63 y337.length co63 : Value).ownBlock ∧ some k_ ≠ (v341 : Value).ownBlock) (Kd.R_keptB (HO305.out) hkp (fun k_ hk_ hs_ => (fun e_ => by simp [Value.ownBlock] at e_) hs_)) (fun k_ hk_ => ⟨hk_.1.1.1, hk_.1.1.2.1, hk_.1.1.2.2.1, hk_.1.1.2.2.2.1, hk_.1.1.2.2.2.2.1, hk_.1.1.2.2.2.2.2, hk_.1.2, fun e_ => Or.elim (ho0.1 k_ e_.symm) (fun hs_ => hk_.2.1 hs_) (fun hn_ => Nat.not_le.2 hk_.2.2 hn_)⟩))
        replace HO310 := Aside0.mk (Kd.R_mono (ok' := fun k_ => some k_ ≠ (.slice Ao19 t303.length co19 : Value).ownBlock ∧ some k_ ≠ (v313 : Value).ownBlock ∧ some k_ ≠ (.slice Ao33 t316.length co33 : Value).ownBlock ∧ some k_ ≠ (.slice Ao46 t322.length co46 : Value).ownBlock ∧ some k_ ≠ (v327 : Value).ownBlock ∧ some k_ ≠ (.slice Ao47 t330.length co47 : Value).ownBlock ∧ some k_ ≠ (.slice Ao63 y337.length co63 : Value).ownBlock ∧ some k_ ≠ (v341 : Value).ownBlock) (Kd.R_keptB (HO310.out) hkp (fun k_ hk_ hs_ => (fun e_ => by simp [Value.ownBlock] at e_) hs_)) (fun k_ hk_ => ⟨hk_.1.1.1, hk_.1.1.2.1, hk_.1.1.2.2.1, hk_.1.1.2.2.2.1, hk_.1.1.2.2.2.2.1, hk_.1.1.2.2.2.2.2, hk_.1.2, fun e_ => Or.elim (ho0.1 k_ e_.symm) (fun hs_ => hk_.2.1 hs_) (fun hn_ => Nat.not_le.2 hk_.2.2 hn_)⟩))
        replace HO314 := Aside0.mk (Kd.R_mono (ok' := fun k_ => some k_ ≠ (.slice Ao19 t303.length co19 : Value).ownBlock ∧ some k_ ≠ (.slice Ao32 t308.length co32 : Value).ownBlock ∧ some k_ ≠ (.slice Ao33 t316.length co33 : Value).ownBlock ∧ some k_ ≠ (.slice Ao46 t322.length co46 : Value).ownBlock ∧ some k_ ≠ (v327 : Value).ownBlock ∧ some k_ ≠ (.slice Ao47 t330.length co47 : Value).ownBlock ∧ some k_ ≠ (.slice Ao63 y337.length co63 : Value).ownBlock ∧ some k_ ≠ (v341 : Value).ownBlock) (Kd.R_keptB (HO314.out) hkp (fun k_ hk_ hs_ => (fun e_ => by simp [Value.ownBlock] at e_) hs_)) (fun k_ hk_ => ⟨hk_.1.1.1, hk_.1.1.2.1, hk_.1.1.2.2.1, hk_.1.1.2.2.2.1, hk_.1.1.2.2.2.2.1, hk_.1.1.2.2.2.2.2, hk_.1.2, fun e_ => Or.elim (ho0.1 k_ e_.symm) (fun hs_ => hk_.2.1 hs_) (fun hn_ => Nat.not_le.2 hk_.2.2 hn_)⟩))
        replace HO318 := Aside0.mk (Kd.R_mono (ok' := fun k_ => some k_ ≠ (.slice Ao19 t303.length co19 : Value).ownBlock ∧ some k_ ≠ (.slice Ao32 t308.length co32 : Value).ownBlock ∧ some k_ ≠ (v313 : Value).ownBlock ∧ some k_ ≠ (.slice Ao46 t322.length co46 : Value).ownBlock ∧ some k_ ≠ (v327 : Value).ownBlock ∧ some k_ ≠ (.slice Ao47 t330.length co47 : Value).ownBlock ∧ some k_ ≠ (.slice Ao63 y337.length co63 : Value).ownBlock ∧ some k_ ≠ (v341 : Value).ownBlock) (Kd.R_keptB (HO318.out) hkp (fun k_ hk_ hs_ => (fun e_ => by simp [Value.ownBlock] at e_) hs_)) (fun k_ hk_ => ⟨hk_.1.1.1, hk_.1.1.2.1, hk_.1.1.2.2.1, hk_.1.1.2.2.2.1, hk_.1.1.2.2.2.2.1, hk_.1.1.2.2.2.2.2, hk_.1.2, fun e_ => Or.elim (ho0.1 k_ e_.symm) (fun hs_ => hk_.2.1 hs_) (fun hn_ => Nat.not_le.2 hk_.2.2 hn_)⟩))
        replace HO324 := Aside0.mk (Kd.R_mono (ok' := fun k_ => some k_ ≠ (.slice Ao19 t303.length co19 : Value).ownBlock ∧ some k_ ≠ (.slice Ao32 t308.length co32 : Value).ownBlock ∧ some k_ ≠ (v313 : Value).ownBlock ∧ some k_ ≠ (.slice Ao33 t316.length co33 : Value).ownBlock ∧ some k_ ≠ (v327 : Value).ownBlock ∧ some k_ ≠ (.slice Ao47 t330.length co47 : Value).ownBlock ∧ some k_ ≠ (.slice Ao63 y337.length co63 : Value).ownBlock ∧ some k_ ≠ (v341 : Value).ownBlock) (Kd.R_keptB (HO324.out) hkp (fun k_ hk_ hs_ => (fun e_ => by simp [Value.ownBlock] at e_) hs_)) (fun k_ hk_ => ⟨hk_.1.1.1, hk_.1.1.2.1, hk_.1.1.2.2.1, hk_.1.1.2.2.2.1, hk_.1.1.2.2.2.2.1, hk_.1.1.2.2.2.2.2, hk_.1.2, fun e_ => Or.elim (ho0.1 k_ e_.symm) (fun hs_ => hk_.2.1 hs_) (fun hn_ => Nat.not_le.2 hk_.2.2 hn_)⟩))
        replace HO328 := Aside0.mk (Kd.R_mono (ok' := fun k_ => some k_ ≠ (.slice Ao19 t303.length co19 : Value).ownBlock ∧ some k_ ≠ (.slice Ao32 t308.length co32 : Value).ownBlock ∧ some k_ ≠ (v313 : Value).ownBlock ∧ some k_ ≠ (.slice Ao33 t316.length co33 : Value).ownBlock ∧ some k_ ≠ (.slice Ao46 t322.length co46 : Value).ownBlock ∧ some k_ ≠ (.slice Ao47 t330.length co47 : Value).ownBlock ∧ some k_ ≠ (.slice Ao63 y337.length co63 : Value).ownBlock ∧ some k_ ≠ (v341 : Value).ownBlock) (Kd.R_keptB (HO328.out) hkp (fun k_ hk_ hs_ => (fun e_ => by simp [Value.ownBlock] at e_) hs_)) (fun k_ hk_ => ⟨hk_.1.1.1, hk_.1.1.2.1, hk_.1.1.2.2.1, hk_.1.1.2.2.2.1, hk_.1.1.2.2.2.2.1, hk_.1.1.2.2.2.2.2, hk_.1.2, fun e_ => Or.elim (ho0.1 k_ e_.symm) (fun hs_ => hk_.2.1 hs_) (fun hn_ => Nat.not_le.2 hk_.2.2 hn_)⟩))
        replace HO332 := Aside0.mk (Kd.R_mono (ok' := fun k_ => some k_ ≠ (.slice Ao19 t303.length co19 : Value).ownBlock ∧ some k_ ≠ (.slice Ao32 t308.length co32 : Value).ownBlock ∧ some k_ ≠ (v313 : Value).ownBlock ∧ some k_ ≠ (.slice Ao33 t316.length co33 : Value).ownBlock ∧ some k_ ≠ (.slice Ao46 t322.length co46 : Value).ownBlock ∧ some k_ ≠ (v327 : Value).ownBlock ∧ some k_ ≠ (.slice Ao63 y337.length co63 : Value).ownBlock ∧ some k_ ≠ (v341 : Value).ownBlock) (Kd.R_keptB (HO332.out) hkp (fun k_ hk_ hs_ => (fun e_ => by simp [Value.ownBlock] at e_) hs_)) (fun k_ hk_ => ⟨hk_.1.1.1, hk_.1.1.2.1, hk_.1.1.2.2.1, hk_.1.1.2.2.2.1, hk_.1.1.2.2.2.2.1, hk_.1.1.2.2.2.2.2, hk_.1.2, fun e_ => Or.elim (ho0.1 k_ e_.symm) (fun hs_ => hk_.2.1 hs_) (fun hn_ => Nat.not_le.2 hk_.2.2 hn_)⟩))
        replace HO339 := Aside0.mk (Kd.R_mono (ok' := fun k_ => some k_ ≠ (.slice Ao19 t303.length co19 : Value).ownBlock ∧ some k_ ≠ (.slice Ao32 t308.length co32 : Value).ownBlock ∧ some k_ ≠ (v313 : Value).ownBlock ∧ some k_ ≠ (.slice Ao33 t316.length co33 : Value).ownBlock ∧ some k_ ≠ (.slice Ao46 t322.length co46 : Value).ownBlock ∧ some k_ ≠ (v327 : Value).ownBlock ∧ some k_ ≠ (.slice Ao47 t330.length co47 : Value).ownBlock ∧ some k_ ≠ (v341 : Value).ownBlock) (Kd.R_keptB (HO339.out) hkp (fun k_ hk_ hs_ => (fun e_ => by simp [Value.ownBlock] at e_) hs_)) (fun k_ hk_ => ⟨hk_.1.1.1.1.1.1.1.2, hk_.1.1.1.1.1.1.2, hk_.1.1.1.1.1.2, hk_.1.1.1.1.2, hk_.1.1.1.2, hk_.1.1.2, hk_.1.2, fun e_ => Or.elim (ho0.1 k_ e_.symm) (fun hs_ => hk_.2.1 hs_) (fun hn_ => Nat.not_le.2 hk_.2.2 hn_)⟩))
        replace HB := Aside0.mk (hb)
        try clear hb; try clear hkp; try clear ho0
        obtain ⟨Ao65, co65, eo65⟩ := Kd.R_slice HO342.out
        (first | subst eo65 | (injection eo65 with f1_ f2_ f3_; have f4_ := f1_.symm; have f5_ := f3_.symm; clear f1_ f2_ f3_; subst f4_; subst f5_))
        refine hK.out _ _ ⟨(blk_cell BK302.out 0).trans rfl, (blk_cell BK302.out 1).trans rfl⟩ (fun hHeld => ?_)
        clear hK K
        refine norm_ (a' := ?_) ?_ ?_; rotate_left; (· show Act.put _ (some 58) _ = _; simp only [Act.put, sq]; rfl)
        refine one_ (i := 10) (N := some 60) #[T, T, T, T, T, T, T, T, T, T, T, F, F, F, F, F, F, F, F, F, F, F, F, F, F, F] rfl rfl (one_of HT_.out (by kernel_rfl)) (by decide) (fun K hK => ?_)
        refine goes_ Try.func14 (by kernel_rfl) rfl #[.agg #[.slice Ao65 t340.length co65, .int .i64 t343], .int .u64 a4] (by rfl) rfl rfl (by (try simp only [List.map_toArray, List.map_cons, List.map_nil]); first | done | rfl | (simp only [List.length_drop, List.length_take]; rfl)) ?_
        with_reducible refine (bloom_Has.calls k _ _ t340 t343 a4 true _ ?side1 ?side2 A56.out).mono ?_
        (case side1 => exact Cs (Kd.R_reads' HO342.out).2.2)
        (case side2 => exact (Kd.R_reads' HO342.out).2.1)
        rintro e w66 ⟨rfl, hb⟩
        refine ⟨_, rfl, ?_⟩
        replace HO305 := Rb HO305 hb
        replace HO310 := Rb HO310 hb
        replace HO314 := Rb HO314 hb
        replace HO318 := Rb HO318 hb
        replace HO324 := Rb HO324 hb
        replace HO328 := Rb HO328 hb
        replace HO332 := Rb HO332 hb
        replace HO339 := Rb HO339 hb
        replace HO342 := Rb HO342 hb
        replace BK302 := Bb BK302 hb
        replace BK307 := Bb BK307 hb
        replace BK321 := Bb BK321 hb
        replace BK335 := Bb BK335 hb
        replace HB := Lb HB hb
        try clear hb; try clear hb2; try clear hk; try clear hi
        refine hK.out _ _ ⟨(blk_cell BK302.out 0).trans rfl, (blk_cell BK302.out 1).trans rfl⟩ (fun hHeld => ?_)
        clear hK K
        refine norm_ (a' := ?_) ?_ ?_; rotate_left; (· show Act.put _ (some 60) _ = _; simp only [Act.put, sq]; rfl)
        refine pure_ (i := 11) (N := some 61) (v := ?_) (a' := ?_) #[T, T, T, T, T, T, T, T, T, T, T, T, F, F, F, F, F, F, F, F, F, F, F, F, F, F] rfl rfl (any_of HT_.out (by kernel_rfl)) (fun _ _ _ h => h) (Or.inl ⟨by rfl, ?_⟩) ?_ ?_; rotate_left; (· intro w'; go_simp; with_reducible rfl); rotate_left; (· simp only [Act.put, sq]; rfl)
        refine pure_ (i := 12) (N := some 62) (v := ?_) (a' := ?_) #[T, T, T, T, T, T, T, T, T, T, T, T, T, F, F, F, F, F, F, F, F, F, F, F, F, F] rfl rfl (any_of HT_.out (by kernel_rfl)) (fun _ _ _ h => h) (Or.inl ⟨by rfl, ?_⟩) ?_ ?_; rotate_left; (· intro w'; go_simp; with_reducible rfl); rotate_left; (· simp only [Act.put, sq]; rfl)
        refine pure_ (i := 13) (N := some 63) (v := ?_) (a' := ?_) #[T, T, T, T, T, T, T, T, T, T, T, T, T, T, F, F, F, F, F, F, F, F, F, F, F, F] rfl rfl (any_of HT_.out (by kernel_rfl)) (fun _ _ _ h => h) (Or.inl ⟨by rfl, ?_⟩) ?_ ?_; rotate_left; (· intro w'; go_simp; with_reducible rfl); rotate_left; (· simp only [Act.put, sq]; rfl)
        refine pure_ (i := 14) (N := some 64) (v := undef) (a' := ?_) #[T, T, T, T, T, T, T, T, T, T, T, T, T, T, T, F, F, F, F, F, F, F, F, F, F, F] rfl rfl (any_of HT_.out (by kernel_rfl)) (fun _ _ _ h => h) (Or.inr ⟨by rfl, rfl⟩) ?_ ?_
        rotate_left; (· simp only [Act.put, sq]; rfl)
        refine pure_ (i := 15) (N := some 65) (v := undef) (a' := ?_) #[T, T, T, T, T, T, T, T, T, T, T, T, T, T, T, T, F, F, F, F, F, F, F, F, F, F] rfl rfl (any_of HT_.out (by kernel_rfl)) (fun _ _ _ h => h) (Or.inr ⟨by rfl, rfl⟩) ?_ ?_
        rotate_left; (· simp only [Act.put, sq]; rfl)
        refine pure_ (i := 16) (N := some 66) (v := undef) (a' := ?_) #[T, T, T, T, T, T, T, T, T, T, T, T, T, T, T, T, T, F, F, F, F, F, F, F, F, F] rfl rfl (any_of HT_.out (by kernel_rfl)) (fun _ _ _ h => h) (Or.inr ⟨by rfl, rfl⟩) ?_ ?_
        rotate_left; (· simp only [Act.put, sq]; rfl)
        refine pure_ (i := 17) (N := some 67) (v := undef) (a' := ?_) #[T, T, T, T, T, T, T, T, T, T, T, T, T, T, T, T, T, T, F, F, F, F, F, F, F, F] rfl rfl (any_of HT_.out (by kernel_rfl)) (fun _ _ _ h => h) (Or.inr ⟨by rfl, rfl⟩) ?_ ?_
        rotate_left; (· simp only [Act.put, sq]; rfl)
        refine pure_ (i := 18) (N := some 68) (v := undef) (a' := ?_) #[T, T, T, T, T, T, T, T, T, T, T, T, T, T, T, T, T, T, T, F, F, F, F, F, F, F] rfl rfl (any_of HT_.out (by kernel_rfl)) (fun _ _ _ h => h) (Or.inr ⟨by rfl, rfl⟩) ?_ ?_
        rotate_left; (· simp only [Act.put, sq]; rfl)
        refine pure_ (i := 19) (N := some 69) (v := undef) (a' := ?_) #[T, T, T, T, T, T, T, T, T, T, T, T, T, T, T, T, T, T, T, T, F, F, F, F, F, F] rfl rfl (any_of HT_.out (by kernel_rfl)) (fun _ _ _ h => h) (Or.inr ⟨by rfl, rfl⟩) ?_ ?_
        rotate_left; (· simp only [Act.put, sq]; rfl)
        refine pure_ (i := 20) (N := some 70) (v := undef) (a' := ?_) #[T, T, T, T, T, T, T, T, T, T, T, T, T, T, T, T, T, T, T, T, T, F, F, F, F, F] rfl rfl (any_of HT_.out (by kernel_rfl)) (fun _ _ _ h => h) (Or.inr ⟨by rfl, rfl⟩) ?_ ?_
        rotate_left; (· simp only [Act.put, sq]; rfl)
        refine pure_ (i := 21) (N := some 71) (v := undef) (a' := ?_) #[T, T, T, T, T, T, T, T, T, T, T, T, T, T, T, T, T, T, T, T, T, T, F, F, F, F] rfl rfl (any_of HT_.out (by kernel_rfl)) (fun _ _ _ h => h) (Or.inr ⟨by rfl, rfl⟩) ?_ ?_
        rotate_left; (· simp only [Act.put, sq]; rfl)
        refine pure_ (i := 22) (N := some 72) (v := undef) (a' := ?_) #[T, T, T, T, T, T, T, T, T, T, T, T, T, T, T, T, T, T, T, T, T, T, T, F, F, F] rfl rfl (any_of HT_.out (by kernel_rfl)) (fun _ _ _ h => h) (Or.inr ⟨by rfl, rfl⟩) ?_ ?_
        rotate_left; (· simp only [Act.put, sq]; rfl)
        refine pure_ (i := 23) (N := some 73) (v := undef) (a' := ?_) #[T, T, T, T, T, T, T, T, T, T, T, T, T, T, T, T, T, T, T, T, T, T, T, T, F, F] rfl rfl (any_of HT_.out (by kernel_rfl)) (fun _ _ _ h => h) (Or.inr ⟨by rfl, rfl⟩) ?_ ?_
        rotate_left; (· simp only [Act.put, sq]; rfl)
        refine pure_ (i := 24) (N := some 74) (v := ?_) (a' := ?_) #[T, T, T, T, T, T, T, T, T, T, T, T, T, T, T, T, T, T, T, T, T, T, T, T, T, F] rfl rfl (any_of HT_.out (by kernel_rfl)) (fun _ _ _ h => h) (Or.inl ⟨by rfl, ?_⟩) ?_ ?_; rotate_left; (· intro w'; go_simp; with_reducible rfl); rotate_left; (· simp only [Act.put, sq]; rfl)
        refine pure_ (i := 25) (N := some 17) (v := ?_) (a' := ?_) #[T, T, T, T, T, T, T, T, T, T, T, T, T, T, T, T, T, T, T, T, T, T, T, T, T, T] rfl rfl (any_of HT_.out (by kernel_rfl)) (fun _ _ _ h => h) (Or.inl ⟨by rfl, ?_⟩) ?_ ?_; rotate_left; (· intro w'; go_simp; with_reducible rfl); rotate_left; (· simp only [Act.put, sq]; rfl)
        refine done_ (done_of HT_.out (by kernel_rfl)) ?_
        try go_wp2
        go_meet
        case rel => exact ⟨_, (false), (by first | rfl | (simp; done) | (simp [*]; done)), H', ⟨by first | omega | exact Nat.le_refl _⟩, ⟨by (with_reducible repeat (first | apply Kd.R_alloc | apply Kd.R_drewN | apply Kd.R_drew)); exact Kd.R_mono HO305.out (fun _ hk => ⟨hk.2.2.1, hk.2.2.2.2.2.1⟩)⟩, ⟨by (with_reducible repeat (first | apply Kd.R_alloc | apply Kd.R_drewN | apply Kd.R_drew)); exact Kd.R_mono HO318.out (fun _ hk => ⟨hk.1, hk.2.2.2.2.2.1⟩)⟩, ⟨by (with_reducible repeat (first | apply Kd.R_alloc | apply Kd.R_drewN | apply Kd.R_drew)); exact Kd.R_mono HO332.out (fun _ hk => ⟨hk.1, hk.2.2.2.1⟩)⟩, ⟨Bs BK302.out⟩, ⟨Bs BK307.out⟩, ⟨Bs BK321.out⟩, ⟨Bs BK335.out⟩, ⟨Ls HB⟩⟩
      · replace c57 := Bool.eq_false_iff.mpr c57
        subst c57
        have H1 : ((bloom_Words.f ([] : List Int) 0).bind fun t345 => ((bloom_Ones.f k ([] : List Int) 0).bind fun t348 => ((bloom_Bits.f ([] : List Int) 0).bind fun t349 => (trommellaw18_BloomSizes.j0 k a0 a1 t320 t334 ((wrap64 ((wrap64 ((t345.length : Int) + t348)) + t349)) == 0))))) = some r := by rw [if_neg (show ¬ (false = true) by decide)] at H; exact H
        clear H
        have H := H1
        clear H1
        replace H := Option.bind_eq_some_iff.mp H
        obtain ⟨t345, A670, H⟩ := H
        replace H : ((bloom_Ones.f k ([] : List Int) 0).bind fun t348 => ((bloom_Bits.f ([] : List Int) 0).bind fun t349 => (trommellaw18_BloomSizes.j0 k a0 a1 t320 t334 ((wrap64 ((wrap64 ((t345.length : Int) + t348)) + t349)) == 0)))) = some r := H
        have A67 := Aside0.mk A670
        clear A670
        replace H := Option.bind_eq_some_iff.mp H
        obtain ⟨t348, A680, H⟩ := H
        replace H : ((bloom_Bits.f ([] : List Int) 0).bind fun t349 => (trommellaw18_BloomSizes.j0 k a0 a1 t320 t334 ((wrap64 ((wrap64 ((t345.length : Int) + t348)) + t349)) == 0))) = some r := H
        have A68 := Aside0.mk A680
        clear A680
        replace H := Option.bind_eq_some_iff.mp H
        obtain ⟨t349, A690, H⟩ := H
        replace H : (trommellaw18_BloomSizes.j0 k a0 a1 t320 t334 ((wrap64 ((wrap64 ((t345.length : Int) + t348)) + t349)) == 0)) = some r := H
        have A69 := Aside0.mk A690
        clear A690
        have H' := Aside0.mk H
        clear H
        try go_wp2
        have n0_ : Aside0 (Kd.R (Kd.int .u64) 33 ((w45.setCell ⟨gb335, 0, none⟩ (.slice Ao47 t330.length co47)).setCell ⟨gb335, 1, none⟩ (.int .i64 t333)) w.heap.size (fun k_ => some k_ ≠ (.slice Ao32 t308.length co32 : Value).ownBlock ∧ some k_ ≠ (v313 : Value).ownBlock ∧ some k_ ≠ (.slice Ao33 t316.length co33 : Value).ownBlock ∧ some k_ ≠ (.slice Ao46 t322.length co46 : Value).ownBlock ∧ some k_ ≠ (v327 : Value).ownBlock ∧ some k_ ≠ (.slice Ao47 t330.length co47 : Value).ownBlock) (.slice Ao19 t303.length co19) t303) := ⟨by (with_reducible repeat (first | apply Kd.R_alloc | apply Kd.R_drewN | apply Kd.R_drew)); exact Kd.R_mono (Kd.R_far (p := ⟨gb335, 1, none⟩) (Kd.R_far (p := ⟨gb335, 0, none⟩) (Kd.R_types HO305.out BK335.out (by decide)) (fun _ hk => hk.2) (.slice Ao47 t330.length co47)) (fun _ hk => hk.2) (.int .i64 t333)) (fun _ hk => ⟨hk.1.1, ⟨hk.1.2.1, ⟨hk.1.2.2.1, ⟨hk.1.2.2.2.1, ⟨hk.1.2.2.2.2.1, hk.1.2.2.2.2.2⟩⟩⟩⟩⟩)⟩
        have n1_ : Aside0 (Kd.R (Kd.int .u64) 33 ((w45.setCell ⟨gb335, 0, none⟩ (.slice Ao47 t330.length co47)).setCell ⟨gb335, 1, none⟩ (.int .i64 t333)) w.heap.size (fun k_ => some k_ ≠ (.slice Ao19 t303.length co19 : Value).ownBlock ∧ some k_ ≠ (v313 : Value).ownBlock ∧ some k_ ≠ (.slice Ao33 t316.length co33 : Value).ownBlock ∧ some k_ ≠ (.slice Ao46 t322.length co46 : Value).ownBlock ∧ some k_ ≠ (v327 : Value).ownBlock ∧ some k_ ≠ (.slice Ao47 t330.length co47 : Value).ownBlock) (.slice Ao32 t308.length co32) t308) := ⟨by (with_reducible repeat (first | apply Kd.R_alloc | apply Kd.R_drewN | apply Kd.R_drew)); exact Kd.R_mono (Kd.R_far (p := ⟨gb335, 1, none⟩) (Kd.R_far (p := ⟨gb335, 0, none⟩) (Kd.R_types HO310.out BK335.out (by decide)) (fun _ hk => hk.2) (.slice Ao47 t330.length co47)) (fun _ hk => hk.2) (.int .i64 t333)) (fun _ hk => ⟨hk.1.1, ⟨hk.1.2.1, ⟨hk.1.2.2.1, ⟨hk.1.2.2.2.1, ⟨hk.1.2.2.2.2.1, hk.1.2.2.2.2.2⟩⟩⟩⟩⟩)⟩
        have n2_ : Aside0 (Kd.R (Kd.int .u64) 33 ((w45.setCell ⟨gb335, 0, none⟩ (.slice Ao47 t330.length co47)).setCell ⟨gb335, 1, none⟩ (.int .i64 t333)) w.heap.size (fun k_ => some k_ ≠ (.slice Ao19 t303.length co19 : Value).ownBlock ∧ some k_ ≠ (.slice Ao32 t308.length co32 : Value).ownBlock ∧ some k_ ≠ (.slice Ao33 t316.length co33 : Value).ownBlock ∧ some k_ ≠ (.slice Ao46 t322.length co46 : Value).ownBlock ∧ some k_ ≠ (v327 : Value).ownBlock ∧ some k_ ≠ (.slice Ao47 t330.length co47 : Value).ownBlock) v313 t312) := ⟨by (with_reducible repeat (first | apply Kd.R_alloc | apply Kd.R_drewN | apply Kd.R_drew)); exact Kd.R_mono (Kd.R_far (p := ⟨gb335, 1, none⟩) (Kd.R_far (p := ⟨gb335, 0, none⟩) (Kd.R_types HO314.out BK335.out (by decide)) (fun _ hk => hk.2) (.slice Ao47 t330.length co47)) (fun _ hk => hk.2) (.int .i64 t333)) (fun _ hk => ⟨hk.1.1, ⟨hk.1.2.1, ⟨hk.1.2.2.1, ⟨hk.1.2.2.2.1, ⟨hk.1.2.2.2.2.1, hk.1.2.2.2.2.2⟩⟩⟩⟩⟩)⟩
        have n3_ : Aside0 (Kd.R (Kd.int .u64) 33 ((w45.setCell ⟨gb335, 0, none⟩ (.slice Ao47 t330.length co47)).setCell ⟨gb335, 1, none⟩ (.int .i64 t333)) w.heap.size (fun k_ => some k_ ≠ (.slice Ao19 t303.length co19 : Value).ownBlock ∧ some k_ ≠ (.slice Ao32 t308.length co32 : Value).ownBlock ∧ some k_ ≠ (v313 : Value).ownBlock ∧ some k_ ≠ (.slice Ao46 t322.length co46 : Value).ownBlock ∧ some k_ ≠ (v327 : Value).ownBlock ∧ some k_ ≠ (.slice Ao47 t330.length co47 : Value).ownBlock) (.slice Ao33 t316.length co33) t316) := ⟨by (with_reducible repeat (first | apply Kd.R_alloc | apply Kd.R_drewN | apply Kd.R_drew)); exact Kd.R_mono (Kd.R_far (p := ⟨gb335, 1, none⟩) (Kd.R_far (p := ⟨gb335, 0, none⟩) (Kd.R_types HO318.out BK335.out (by decide)) (fun _ hk => hk.2) (.slice Ao47 t330.length co47)) (fun _ hk => hk.2) (.int .i64 t333)) (fun _ hk => ⟨hk.1.1, ⟨hk.1.2.1, ⟨hk.1.2.2.1, ⟨hk.1.2.2.2.1, ⟨hk.1.2.2.2.2.1, hk.1.2.2.2.2.2⟩⟩⟩⟩⟩)⟩
        have n4_ : Aside0 (Kd.R (Kd.int .u64) 33 ((w45.setCell ⟨gb335, 0, none⟩ (.slice Ao47 t330.length co47)).setCell ⟨gb335, 1, none⟩ (.int .i64 t333)) w.heap.size (fun k_ => some k_ ≠ (.slice Ao19 t303.length co19 : Value).ownBlock ∧ some k_ ≠ (.slice Ao32 t308.length co32 : Value).ownBlock ∧ some k_ ≠ (v313 : Value).ownBlock ∧ some k_ ≠ (.slice Ao33 t316.length co33 : Value).ownBlock ∧ some k_ ≠ (v327 : Value).ownBlock ∧ some k_ ≠ (.slice Ao47 t330.length co47 : Value).ownBlock) (.slice Ao46 t322.length co46) t322) := ⟨by (with_reducible repeat (first | apply Kd.R_alloc | apply Kd.R_drewN | apply Kd.R_drew)); exact Kd.R_mono (Kd.R_far (p := ⟨gb335, 1, none⟩) (Kd.R_far (p := ⟨gb335, 0, none⟩) (Kd.R_types HO324.out BK335.out (by decide)) (fun _ hk => hk.2) (.slice Ao47 t330.length co47)) (fun _ hk => hk.2) (.int .i64 t333)) (fun _ hk => ⟨hk.1.1, ⟨hk.1.2.1, ⟨hk.1.2.2.1, ⟨hk.1.2.2.2.1, ⟨hk.1.2.2.2.2.1, hk.1.2.2.2.2.2⟩⟩⟩⟩⟩)⟩
        have n5_ : Aside0 (Kd.R (Kd.int .u64) 33 ((w45.setCell ⟨gb335, 0, none⟩ (.slice Ao47 t330.length co47)).setCell ⟨gb335, 1, none⟩ (.int .i64 t333)) w.heap.size (fun k_ => some k_ ≠ (.slice Ao19 t303.length co19 : Value).ownBlock ∧ some k_ ≠ (.slice Ao32 t308.length co32 : Value).ownBlock ∧ some k_ ≠ (v313 : Value).ownBlock ∧ some k_ ≠ (.slice Ao33 t316.length co33 : Value).ownBlock ∧ some k_ ≠ (.slice Ao46 t322.length co46 : Value).ownBlock ∧ some k_ ≠ (.slice Ao47 t330.length co47 : Value).ownBlock) v327 t326) := ⟨by (with_reducible repeat (first | apply Kd.R_alloc | apply Kd.R_drewN | apply Kd.R_drew)); exact Kd.R_mono (Kd.R_far (p := ⟨gb335, 1, none⟩) (Kd.R_far (p := ⟨gb335, 0, none⟩) (Kd.R_types HO328.out BK335.out (by decide)) (fun _ hk => hk.2) (.slice Ao47 t330.length co47)) (fun _ hk => hk.2) (.int .i64 t333)) (fun _ hk => ⟨hk.1.1, ⟨hk.1.2.1, ⟨hk.1.2.2.1, ⟨hk.1.2.2.2.1, ⟨hk.1.2.2.2.2.1, hk.1.2.2.2.2.2⟩⟩⟩⟩⟩)⟩
        have n6_ : Aside0 (Kd.R (Kd.int .u64) 33 ((w45.setCell ⟨gb335, 0, none⟩ (.slice Ao47 t330.length co47)).setCell ⟨gb335, 1, none⟩ (.int .i64 t333)) w.heap.size (fun k_ => some k_ ≠ (.slice Ao19 t303.length co19 : Value).ownBlock ∧ some k_ ≠ (.slice Ao32 t308.length co32 : Value).ownBlock ∧ some k_ ≠ (v313 : Value).ownBlock ∧ some k_ ≠ (.slice Ao33 t316.length co33 : Value).ownBlock ∧ some k_ ≠ (.slice Ao46 t322.length co46 : Value).ownBlock ∧ some k_ ≠ (v327 : Value).ownBlock) (.slice Ao47 t330.length co47) t330) := ⟨by (with_reducible repeat (first | apply Kd.R_alloc | apply Kd.R_drewN | apply Kd.R_drew)); exact Kd.R_mono (Kd.R_far (p := ⟨gb335, 1, none⟩) (Kd.R_far (p := ⟨gb335, 0, none⟩) (Kd.R_types HO332.out BK335.out (by decide)) (fun _ hk => hk.2) (.slice Ao47 t330.length co47)) (fun _ hk => hk.2) (.int .i64 t333)) (fun _ hk => ⟨hk.1.1, ⟨hk.1.2.1, ⟨hk.1.2.2.1, ⟨hk.1.2.2.2.1, ⟨hk.1.2.2.2.2.1, hk.1.2.2.2.2.2⟩⟩⟩⟩⟩)⟩
        have n7_ : Aside0 (((w45.setCell ⟨gb335, 0, none⟩ (.slice Ao47 t330.length co47)).setCell ⟨gb335, 1, none⟩ (.int .i64 t333)).heap[gb302]? = some (.cells #[.slice none 0 0, .int .i64 0] 25 (0, 0))) := ⟨by (with_reducible repeat (first | refine blk_drewN ?_ _ | refine blk_drew ?_ | refine blk_alloc ?_ _)); refine blk_far ?_ NB302_335.out _; (with_reducible repeat (first | refine blk_drewN ?_ _ | refine blk_drew ?_ | refine blk_alloc ?_ _)); refine blk_far ?_ NB302_335.out _; (with_reducible repeat (first | refine blk_drewN ?_ _ | refine blk_drew ?_ | refine blk_alloc ?_ _)); exact BK302.out⟩
        have n8_ : Aside0 (((w45.setCell ⟨gb335, 0, none⟩ (.slice Ao47 t330.length co47)).setCell ⟨gb335, 1, none⟩ (.int .i64 t333)).heap[gb307]? = some (.cells #[.slice Ao19 t303.length co19, .int .i64 t306] 25 (0, 0))) := ⟨by (with_reducible repeat (first | refine blk_drewN ?_ _ | refine blk_drew ?_ | refine blk_alloc ?_ _)); refine blk_far ?_ NB307_335.out _; (with_reducible repeat (first | refine blk_drewN ?_ _ | refine blk_drew ?_ | refine blk_alloc ?_ _)); refine blk_far ?_ NB307_335.out _; (with_reducible repeat (first | refine blk_drewN ?_ _ | refine blk_drew ?_ | refine blk_alloc ?_ _)); exact BK307.out⟩
        have n9_ : Aside0 (((w45.setCell ⟨gb335, 0, none⟩ (.slice Ao47 t330.length co47)).setCell ⟨gb335, 1, none⟩ (.int .i64 t333)).heap[gb321]? = some (.cells #[.slice Ao33 t316.length co33, .int .i64 t319] 25 (0, 0))) := ⟨by (with_reducible repeat (first | refine blk_drewN ?_ _ | refine blk_drew ?_ | refine blk_alloc ?_ _)); refine blk_far ?_ NB321_335.out _; (with_reducible repeat (first | refine blk_drewN ?_ _ | refine blk_drew ?_ | refine blk_alloc ?_ _)); refine blk_far ?_ NB321_335.out _; (with_reducible repeat (first | refine blk_drewN ?_ _ | refine blk_drew ?_ | refine blk_alloc ?_ _)); exact BK321.out⟩
        have n10_ : Aside0 (((w45.setCell ⟨gb335, 0, none⟩ (.slice Ao47 t330.length co47)).setCell ⟨gb335, 1, none⟩ (.int .i64 t333)).heap[gb335]? = some (.cells #[.slice Ao47 t330.length co47, .int .i64 t333] 25 (0, 0))) := ⟨by (with_reducible repeat (first | refine blk_drewN ?_ _ | refine blk_drew ?_ | refine blk_alloc ?_ _)); refine blk_put (cs := #[.slice Ao47 t330.length co47, .int .i64 0]) ?_ 1 _ rfl; (with_reducible repeat (first | refine blk_drewN ?_ _ | refine blk_drew ?_ | refine blk_alloc ?_ _)); refine blk_put (cs := #[.slice none 0 0, .int .i64 0]) ?_ 0 _ rfl; (with_reducible repeat (first | refine blk_drewN ?_ _ | refine blk_drew ?_ | refine blk_alloc ?_ _)); exact BK335.out⟩
        have n11_ : Aside0 (Below w.heap.size w ((w45.setCell ⟨gb335, 0, none⟩ (.slice Ao47 t330.length co47)).setCell ⟨gb335, 1, none⟩ (.int .i64 t333))) := ⟨Ls HB⟩
        try clear HO305; try clear HO310; try clear HO314; try clear HO318; try clear HO324; try clear HO328; try clear HO332; try clear BK302; try clear BK307; try clear BK321; try clear BK335; try clear HB
        generalize ((w45.setCell ⟨gb335, 0, none⟩ (.slice Ao47 t330.length co47)).setCell ⟨gb335, 1, none⟩ (.int .i64 t333)) = w70 at n0_ n1_ n2_ n3_ n4_ n5_ n6_ n7_ n8_ n9_ n10_ n11_ ⊢
        have HO305 := n0_; have HO310 := n1_; have HO314 := n2_; have HO318 := n3_; have HO324 := n4_; have HO328 := n5_; have HO332 := n6_; have BK302 := n7_; have BK307 := n8_; have BK321 := n9_; have BK335 := n10_; have HB := n11_
        clear n0_ n1_ n2_ n3_ n4_ n5_ n6_ n7_ n8_ n9_ n10_ n11_
        replace HO305 := Aside0.mk (Kd.R_drew HO305.out)
        replace HO310 := Aside0.mk (Kd.R_drew HO310.out)
        replace HO314 := Aside0.mk (Kd.R_drew HO314.out)
        replace HO318 := Aside0.mk (Kd.R_drew HO318.out)
        replace HO324 := Aside0.mk (Kd.R_drew HO324.out)
        replace HO328 := Aside0.mk (Kd.R_drew HO328.out)
        replace HO332 := Aside0.mk (Kd.R_drew HO332.out)
        replace BK302 := Aside0.mk (blk_drew BK302.out)
        replace BK307 := Aside0.mk (blk_drew BK307.out)
        replace BK321 := Aside0.mk (blk_drew BK321.out)
        replace BK335 := Aside0.mk (blk_drew BK335.out)
        replace HB := Aside0.mk (below_drew1 HB.out)
        refine start_ (n := 26) (S := fun w' => w'.cell? ⟨gb302, 0, none⟩ = some (.slice none 0 0) ∧ w'.cell? ⟨gb302, 1, none⟩ = some (.int .i64 0)) (ds := []) #[F, F, F, F, F, F, F, F, F, F, F, F, F, F, F, F, F, F, F, F, F, F, F, F, F, F] (by kernel_rfl) rfl rfl ⟨(blk_cell BK302.out 0).trans rfl, (blk_cell BK302.out 1).trans rfl⟩ (fun hHeld => ?_); refine with_tabW trommellaw18_BloomSizes.tab5 trommellaw18_BloomSizes.bits5 (fun HT_ HW_ => ?_)
        generalize w70.drew = w71 at HO305 HO310 HO314 HO318 HO324 HO328 HO332 BK302 BK307 BK321 BK335 HB hHeld ⊢
        refine pure_ (i := 1) (N := some 51) (v := ?_) (a' := ?_) #[F, T, F, F, F, F, F, F, F, F, F, F, F, F, F, F, F, F, F, F, F, F, F, F, F, F] rfl rfl (any_of HT_.out (by kernel_rfl)) (fun _ _ _ h => h) (Or.inl ⟨by rfl, ?_⟩) ?_ ?_; rotate_left; (· intro w'; go_simp; with_reducible rfl); rotate_left; (· simp only [Act.put, sq]; rfl)
        refine take_ (i := 0) (N := some 50) (v := ?_) (a' := ?_) #[T, T, F, F, F, F, F, F, F, F, F, F, F, F, F, F, F, F, F, F, F, F, F, F, F, F] rfl rfl (take_ofW HT_.out HW_.out (by kernel_rfl)) (fun _ _ _ h => h) (Or.inl ⟨by rfl, ?_⟩) hHeld ?_ ?_; rotate_left; (· rintro w' ⟨s0, s1⟩; go_simp; with_reducible rfl); rotate_left; (· simp only [Act.put, sq]; rfl)
        refine one_ (i := 2) (N := some 52) #[T, T, T, F, F, F, F, F, F, F, F, F, F, F, F, F, F, F, F, F, F, F, F, F, F, F] rfl rfl (one_of HT_.out (by kernel_rfl)) (by decide) (fun K hK => ?_)
        refine goes_ Try.func14 (by kernel_rfl) rfl #[.agg #[.slice none 0 0, .int .i64 0], .int .u64 a4] (by rfl) rfl rfl (by (try simp only [List.map_toArray, List.map_cons, List.map_nil]); first | done | rfl | (simp only [List.length_drop, List.length_take]; rfl)) ?_
        refine (bloom_Has.calls k _ _ ([] : List Int) 0 a4 false _ ?side1 ?side2 A50.out).mono ?_
        (case side1 => exact Kd.C_nil _ _)
        (case side2 => exact Nat.le_refl _)
        rintro e w72 ⟨rfl, hb⟩
        refine ⟨_, rfl, ?_⟩
        replace HO305 := Rb HO305 hb
        replace HO310 := Rb HO310 hb
        replace HO314 := Rb HO314 hb
        replace HO318 := Rb HO318 hb
        replace HO324 := Rb HO324 hb
        replace HO328 := Rb HO328 hb
        replace HO332 := Rb HO332 hb
        replace BK302 := Bb BK302 hb
        replace BK307 := Bb BK307 hb
        replace BK321 := Bb BK321 hb
        replace BK335 := Bb BK335 hb
        replace HB := Lb HB hb
        try clear hb; try clear hb2; try clear hk; try clear hi
        refine hK.out _ _ ⟨(blk_cell BK302.out 0).trans rfl, (blk_cell BK302.out 1).trans rfl⟩ (fun hHeld => ?_)
        clear hK K
        refine norm_ (a' := ?_) ?_ ?_; rotate_left; (· show Act.put _ (some 52) _ = _; simp only [Act.put, sq]; rfl)
        refine pure_ (i := 3) (N := some 53) (v := ?_) (a' := ?_) #[T, T, T, T, F, F, F, F, F, F, F, F, F, F, F, F, F, F, F, F, F, F, F, F, F, F] rfl rfl (any_of HT_.out (by kernel_rfl)) (fun _ _ _ h => h) (Or.inl ⟨by rfl, ?_⟩) ?_ ?_; rotate_left; (· intro w'; go_simp; with_reducible rfl); rotate_left; (· simp only [Act.put, sq]; rfl)
        refine pure_ (i := 4) (N := some 54) (v := ?_) (a' := ?_) #[T, T, T, T, T, F, F, F, F, F, F, F, F, F, F, F, F, F, F, F, F, F, F, F, F, F] rfl rfl (any_of HT_.out (by kernel_rfl)) (fun _ _ _ h => h) (Or.inl ⟨by rfl, ?_⟩) ?_ ?_; rotate_left; (· intro w'; go_simp; with_reducible rfl); rotate_left; (· simp only [Act.put, sq]; rfl)
        refine pure_ (i := 6) (N := some 56) (v := ?_) (a' := ?_) #[T, T, T, T, T, F, T, F, F, F, F, F, F, F, F, F, F, F, F, F, F, F, F, F, F, F] rfl rfl (any_of HT_.out (by kernel_rfl)) (fun _ _ _ h => h) (Or.inl ⟨by rfl, ?_⟩) ?_ ?_; rotate_left; (· intro w'; go_simp; with_reducible rfl); rotate_left; (· simp only [Act.put, sq]; rfl)
        refine pure_ (i := 9) (N := some 59) (v := ?_) (a' := ?_) #[T, T, T, T, T, F, T, F, F, T, F, F, F, F, F, F, F, F, F, F, F, F, F, F, F, F] rfl rfl (any_of HT_.out (by kernel_rfl)) (fun _ _ _ h => h) (Or.inl ⟨by rfl, ?_⟩) ?_ ?_; rotate_left; (· intro w'; go_simp; with_reducible rfl); rotate_left; (· simp only [Act.put, sq]; rfl)
        refine take_ (i := 5) (N := some 55) (v := ?_) (a' := ?_) #[T, T, T, T, T, T, T, F, F, T, F, F, F, F, F, F, F, F, F, F, F, F, F, F, F, F] rfl rfl (take_ofW HT_.out HW_.out (by kernel_rfl)) (fun _ _ _ h => h) (Or.inl ⟨by rfl, ?_⟩) hHeld ?_ ?_; rotate_left; (· rintro w' ⟨s0, s1⟩; go_simp; with_reducible rfl); rotate_left; (· simp only [Act.put, sq]; rfl)
        refine one_ (i := 7) (N := some 57) #[T, T, T, T, T, T, T, T, F, T, F, F, F, F, F, F, F, F, F, F, F, F, F, F, F, F] rfl rfl (one_of HT_.out (by kernel_rfl)) (by decide) (fun K hK => ?_)
        refine Kd.R_lit_step (Kd.int .u64) _ 33 ?hg (N := 57) ?hd (xs := ([a4] : List Int)) (inner := [.int .u64 a4]) (ok := fun _ => True) (okp := fun _ => True) ?hr ?hp (fun _ hk => hk) trivial (Below.refl _ _) (Nat.le_refl _) (by simp) ?_; (case hd => rfl); (case hg => rfl); (case hr => first | (go_simp; done) | (go_simp; rfl)); (case hp => exact (Reps.one (show Kd.M (Kd.int .u64) _ _ _ a4 [.int .u64 a4] from rfl) (Reps.none _ _)))
        intro v338 w73 ho74 hb hg_ hnew_
        clear hg_ hnew_
        (first | rw [← Ny337.out] at ho74 | (simp only [Int.reduceToNat] at ho74; rw [← Ny337.out] at ho74))
        have HO339 := Aside0.mk (Kd.R_lower (Kd.R_new' (Kd.R_new' (Kd.R_new' (Kd.R_new' (Kd.R_new' (Kd.R_new' (Kd.R_new' ho74 (Kd.R_lt (Rs HO305.out))) (Kd.R_lt (Rs HO310.out))) (Kd.R_lt (Rs HO314.out))) (Kd.R_lt (Rs HO318.out))) (Kd.R_lt (Rs HO324.out))) (Kd.R_lt (Rs HO328.out))) (Kd.R_lt (Rs HO332.out))) (Lz HB))
        replace HO305 := Aside0.mk (Kd.R_elder' (Rs HO305.out) (Kd.R_base ho74) hb)
        replace HO310 := Aside0.mk (Kd.R_elder' (Rs HO310.out) (Kd.R_base ho74) hb)
        replace HO314 := Aside0.mk (Kd.R_elder' (Rs HO314.out) (Kd.R_base ho74) hb)
        replace HO318 := Aside0.mk (Kd.R_elder' (Rs HO318.out) (Kd.R_base ho74) hb)
        replace HO324 := Aside0.mk (Kd.R_elder' (Rs HO324.out) (Kd.R_base ho74) hb)
        replace HO328 := Aside0.mk (Kd.R_elder' (Rs HO328.out) (Kd.R_base ho74) hb)
        replace HO332 := Aside0.mk (Kd.R_elder' (Rs HO332.out) (Kd.R_base ho74) hb)
        replace BK302 := Bb BK302 hb
        replace BK307 := Bb BK307 hb
        replace BK321 := Bb BK321 hb
        replace BK335 := Bb BK335 hb
        replace HB := Lb HB hb
        clear hb ho74
        obtain ⟨Ao75, co75, eo75⟩ := Kd.R_slice HO339.out
        (first | subst eo75 | (injection eo75 with f1_ f2_ f3_; have f4_ := f1_.symm; have f5_ := f3_.symm; clear f1_ f2_ f3_; subst f4_; subst f5_))
        refine hK.out _ _ ⟨(blk_cell BK302.out 0).trans rfl, (blk_cell BK302.out 1).trans rfl⟩ (fun hHeld => ?_)
        clear hK K
        refine norm_ (a' := ?_) ?_ ?_; rotate_left; (· show Act.put _ (some 57) _ = _; simp only [Act.put, sq]; rfl)
        refine one_ (i := 8) (N := some 58) #[T, T, T, T, T, T, T, T, T, T, F, F, F, F, F, F, F, F, F, F, F, F, F, F, F, F] rfl rfl (one_of HT_.out (by kernel_rfl)) (by decide) (fun K hK => ?_)
        refine goes_ Try.func10 (by kernel_rfl) rfl #[.agg #[.slice none 0 0, .int .i64 0], .slice Ao75 y337.length co75] (by rfl) rfl rfl (by (try simp only [List.map_toArray, List.map_cons, List.map_nil]); first | done | rfl | (simp only [List.length_drop, List.length_take]; rfl)) ?_
        refine (bloom_Add.calls k (fun k_ => some k_ = (.slice none 0 0 : Value).ownBlock) (.slice none 0 0) ([] : List Int) 0 _ _ y337 t340 t343 w _ ?side1 ?side2 ?side3 ?side4 A55.out).mono ?_
        (case side1 => repeat (first | (with_reducible first | exact HB.out | apply below_alloc | apply pw_below_drewN | apply below_drew1 | refine below_set ?_ GE302.out | refine below_set ?_ GE307.out | refine below_set ?_ GE321.out | refine below_set ?_ GE335.out) | exact HB.out))
        (case side2 => exact Kd.R_nil _ _ _ _ _)
        (case side3 => exact Kd.C_kept_own (HO339.out) (fun k_ hk_ hs_ => (fun e_ => by simp [Value.ownBlock] at e_) hs_))
        (case side4 => exact (Kd.R_reads' HO339.out).2.1)
        rintro e w76 ⟨v341, rfl, ho0, hb, hkp⟩
        refine ⟨_, rfl, ?_⟩
        replace BK302 := Aside0.mk (blk_kept (Bs BK302.out) hkp (fun hs_ => (fun e_ => by simp [Value.ownBlock] at e_) hs_))
        replace BK307 := Aside0.mk (blk_kept (Bs BK307.out) hkp (fun hs_ => (fun e_ => by simp [Value.ownBlock] at e_) hs_))
        replace BK321 := Aside0.mk (blk_kept (Bs BK321.out) hkp (fun hs_ => (fun e_ => by simp [Value.ownBlock] at e_) hs_))
        replace BK335 := Aside0.mk (blk_kept (Bs BK335.out) hkp (fun hs_ => (fun e_ => by simp [Value.ownBlock] at e_) hs_))
        have HO342 := Aside0.mk (Kd.R_mono (ok' := fun k_ => some k_ ≠ (.slice Ao19 t303.length co19 : Value).ownBlock ∧ some k_ ≠ (.slice Ao32 t308.length co32 : Value).ownBlock ∧ some k_ ≠ (v313 : Value).ownBlock ∧ some k_ ≠ (.slice Ao33 t316.length co33 : Value).ownBlock ∧ some k_ ≠ (.slice Ao46 t322.length co46 : Value).ownBlock ∧ some k_ ≠ (v327 : Value).ownBlock ∧ some k_ ≠ (.slice Ao47 t330.length co47 : Value).ownBlock ∧ some k_ ≠ (.slice Ao75 y337.length co75 : Value).ownBlock) ho0 (fun k_ hk_ => ⟨Or.elim hk_ (fun hs_ => absurd hs_ (by simp [Value.ownBlock])) (fun hn_ => (Kd.fresh' (Kd.R_lt (Rs HO305.out)) k_ hn_)), Or.elim hk_ (fun hs_ => absurd hs_ (by simp [Value.ownBlock])) (fun hn_ => (Kd.fresh' (Kd.R_lt (Rs HO310.out)) k_ hn_)), Or.elim hk_ (fun hs_ => absurd hs_ (by simp [Value.ownBlock])) (fun hn_ => (Kd.fresh' (Kd.R_lt (Rs HO314.out)) k_ hn_)), Or.elim hk_ (fun hs_ => absurd hs_ (by simp [Value.ownBlock])) (fun hn_ => (Kd.fresh' (Kd.R_lt (Rs HO318.out)) k_ hn_)), Or.elim hk_ (fun hs_ => absurd hs_ (by simp [Value.ownBlock])) (fun hn_ => (Kd.fresh' (Kd.R_lt (Rs HO324.out)) k_ hn_)), Or.elim hk_ (fun hs_ => absurd hs_ (by simp [Value.ownBlock])) (fun hn_ => (Kd.fresh' (Kd.R_lt (Rs HO328.out)) k_ hn_)), Or.elim hk_ (fun hs_ => absurd hs_ (by simp [Value.ownBlock])) (fun hn_ => (Kd.fresh' (Kd.R_lt (Rs HO332.out)) k_ hn_)), Or.elim hk_ (fun hs_ => absurd hs_ (by simp [Value.ownBlock])) (fun hn_ => (Kd.fresh' (Kd.R_lt (Rs HO339.out)) k_ hn_))⟩))
        replace HO305 := Aside0.mk (Kd.R_mono (ok' := fun k_ => some k_ ≠ (.slice Ao32 t308.length co32 : Value).ownBlock ∧ some k_ ≠ (v313 : Value).ownBlock ∧ some k_ ≠ (.slice Ao33 t316.length co33 : Value).ownBlock ∧ some k_ ≠ (.slice Ao46 t322.length co46 : Value).ownBlock ∧ some k_ ≠ (v327 : Value).ownBlock ∧ some k_ ≠ (.slice Ao47 t330.length co47 : Value).ownBlock ∧ some k_ ≠ (.slice Ao75 y337.length co75 : Value).ownBlock ∧ some k_ ≠ (v341 : Value).ownBlock) (Kd.R_keptB (HO305.out) hkp (fun k_ hk_ hs_ => (fun e_ => by simp [Value.ownBlock] at e_) hs_)) (fun k_ hk_ => ⟨hk_.1.1.1, hk_.1.1.2.1, hk_.1.1.2.2.1, hk_.1.1.2.2.2.1, hk_.1.1.2.2.2.2.1, hk_.1.1.2.2.2.2.2, hk_.1.2, fun e_ => Or.elim (ho0.1 k_ e_.symm) (fun hs_ => hk_.2.1 hs_) (fun hn_ => Nat.not_le.2 hk_.2.2 hn_)⟩))
        replace HO310 := Aside0.mk (Kd.R_mono (ok' := fun k_ => some k_ ≠ (.slice Ao19 t303.length co19 : Value).ownBlock ∧ some k_ ≠ (v313 : Value).ownBlock ∧ some k_ ≠ (.slice Ao33 t316.length co33 : Value).ownBlock ∧ some k_ ≠ (.slice Ao46 t322.length co46 : Value).ownBlock ∧ some k_ ≠ (v327 : Value).ownBlock ∧ some k_ ≠ (.slice Ao47 t330.length co47 : Value).ownBlock ∧ some k_ ≠ (.slice Ao75 y337.length co75 : Value).ownBlock ∧ some k_ ≠ (v341 : Value).ownBlock) (Kd.R_keptB (HO310.out) hkp (fun k_ hk_ hs_ => (fun e_ => by simp [Value.ownBlock] at e_) hs_)) (fun k_ hk_ => ⟨hk_.1.1.1, hk_.1.1.2.1, hk_.1.1.2.2.1, hk_.1.1.2.2.2.1, hk_.1.1.2.2.2.2.1, hk_.1.1.2.2.2.2.2, hk_.1.2, fun e_ => Or.elim (ho0.1 k_ e_.symm) (fun hs_ => hk_.2.1 hs_) (fun hn_ => Nat.not_le.2 hk_.2.2 hn_)⟩))
        replace HO314 := Aside0.mk (Kd.R_mono (ok' := fun k_ => some k_ ≠ (.slice Ao19 t303.length co19 : Value).ownBlock ∧ some k_ ≠ (.slice Ao32 t308.length co32 : Value).ownBlock ∧ some k_ ≠ (.slice Ao33 t316.length co33 : Value).ownBlock ∧ some k_ ≠ (.slice Ao46 t322.length co46 : Value).ownBlock ∧ some k_ ≠ (v327 : Value).ownBlock ∧ some k_ ≠ (.slice Ao47 t330.length co47 : Value).ownBlock ∧ some k_ ≠ (.slice Ao75 y337.length co75 : Value).ownBlock ∧ some k_ ≠ (v341 : Value).ownBlock) (Kd.R_keptB (HO314.out) hkp (fun k_ hk_ hs_ => (fun e_ => by simp [Value.ownBlock] at e_) hs_)) (fun k_ hk_ => ⟨hk_.1.1.1, hk_.1.1.2.1, hk_.1.1.2.2.1, hk_.1.1.2.2.2.1, hk_.1.1.2.2.2.2.1, hk_.1.1.2.2.2.2.2, hk_.1.2, fun e_ => Or.elim (ho0.1 k_ e_.symm) (fun hs_ => hk_.2.1 hs_) (fun hn_ => Nat.not_le.2 hk_.2.2 hn_)⟩))
        replace HO318 := Aside0.mk (Kd.R_mono (ok' := fun k_ => some k_ ≠ (.slice Ao19 t303.length co19 : Value).ownBlock ∧ some k_ ≠ (.slice Ao32 t308.length co32 : Value).ownBlock ∧ some k_ ≠ (v313 : Value).ownBlock ∧ some k_ ≠ (.slice Ao46 t322.length co46 : Value).ownBlock ∧ some k_ ≠ (v327 : Value).ownBlock ∧ some k_ ≠ (.slice Ao47 t330.length co47 : Value).ownBlock ∧ some k_ ≠ (.slice Ao75 y337.length co75 : Value).ownBlock ∧ some k_ ≠ (v341 : Value).ownBlock) (Kd.R_keptB (HO318.out) hkp (fun k_ hk_ hs_ => (fun e_ => by simp [Value.ownBlock] at e_) hs_)) (fun k_ hk_ => ⟨hk_.1.1.1, hk_.1.1.2.1, hk_.1.1.2.2.1, hk_.1.1.2.2.2.1, hk_.1.1.2.2.2.2.1, hk_.1.1.2.2.2.2.2, hk_.1.2, fun e_ => Or.elim (ho0.1 k_ e_.symm) (fun hs_ => hk_.2.1 hs_) (fun hn_ => Nat.not_le.2 hk_.2.2 hn_)⟩))
        replace HO324 := Aside0.mk (Kd.R_mono (ok' := fun k_ => some k_ ≠ (.slice Ao19 t303.length co19 : Value).ownBlock ∧ some k_ ≠ (.slice Ao32 t308.length co32 : Value).ownBlock ∧ some k_ ≠ (v313 : Value).ownBlock ∧ some k_ ≠ (.slice Ao33 t316.length co33 : Value).ownBlock ∧ some k_ ≠ (v327 : Value).ownBlock ∧ some k_ ≠ (.slice Ao47 t330.length co47 : Value).ownBlock ∧ some k_ ≠ (.slice Ao75 y337.length co75 : Value).ownBlock ∧ some k_ ≠ (v341 : Value).ownBlock) (Kd.R_keptB (HO324.out) hkp (fun k_ hk_ hs_ => (fun e_ => by simp [Value.ownBlock] at e_) hs_)) (fun k_ hk_ => ⟨hk_.1.1.1, hk_.1.1.2.1, hk_.1.1.2.2.1, hk_.1.1.2.2.2.1, hk_.1.1.2.2.2.2.1, hk_.1.1.2.2.2.2.2, hk_.1.2, fun e_ => Or.elim (ho0.1 k_ e_.symm) (fun hs_ => hk_.2.1 hs_) (fun hn_ => Nat.not_le.2 hk_.2.2 hn_)⟩))
        replace HO328 := Aside0.mk (Kd.R_mono (ok' := fun k_ => some k_ ≠ (.slice Ao19 t303.length co19 : Value).ownBlock ∧ some k_ ≠ (.slice Ao32 t308.length co32 : Value).ownBlock ∧ some k_ ≠ (v313 : Value).ownBlock ∧ some k_ ≠ (.slice Ao33 t316.length co33 : Value).ownBlock ∧ some k_ ≠ (.slice Ao46 t322.length co46 : Value).ownBlock ∧ some k_ ≠ (.slice Ao47 t330.length co47 : Value).ownBlock ∧ some k_ ≠ (.slice Ao75 y337.length co75 : Value).ownBlock ∧ some k_ ≠ (v341 : Value).ownBlock) (Kd.R_keptB (HO328.out) hkp (fun k_ hk_ hs_ => (fun e_ => by simp [Value.ownBlock] at e_) hs_)) (fun k_ hk_ => ⟨hk_.1.1.1, hk_.1.1.2.1, hk_.1.1.2.2.1, hk_.1.1.2.2.2.1, hk_.1.1.2.2.2.2.1, hk_.1.1.2.2.2.2.2, hk_.1.2, fun e_ => Or.elim (ho0.1 k_ e_.symm) (fun hs_ => hk_.2.1 hs_) (fun hn_ => Nat.not_le.2 hk_.2.2 hn_)⟩))
        replace HO332 := Aside0.mk (Kd.R_mono (ok' := fun k_ => some k_ ≠ (.slice Ao19 t303.length co19 : Value).ownBlock ∧ some k_ ≠ (.slice Ao32 t308.length co32 : Value).ownBlock ∧ some k_ ≠ (v313 : Value).ownBlock ∧ some k_ ≠ (.slice Ao33 t316.length co33 : Value).ownBlock ∧ some k_ ≠ (.slice Ao46 t322.length co46 : Value).ownBlock ∧ some k_ ≠ (v327 : Value).ownBlock ∧ some k_ ≠ (.slice Ao75 y337.length co75 : Value).ownBlock ∧ some k_ ≠ (v341 : Value).ownBlock) (Kd.R_keptB (HO332.out) hkp (fun k_ hk_ hs_ => (fun e_ => by simp [Value.ownBlock] at e_) hs_)) (fun k_ hk_ => ⟨hk_.1.1.1, hk_.1.1.2.1, hk_.1.1.2.2.1, hk_.1.1.2.2.2.1, hk_.1.1.2.2.2.2.1, hk_.1.1.2.2.2.2.2, hk_.1.2, fun e_ => Or.elim (ho0.1 k_ e_.symm) (fun hs_ => hk_.2.1 hs_) (fun hn_ => Nat.not_le.2 hk_.2.2 hn_)⟩))
        replace HO339 := Aside0.mk (Kd.R_mono (ok' := fun k_ => some k_ ≠ (.slice Ao19 t303.length co19 : Value).ownBlock ∧ some k_ ≠ (.slice Ao32 t308.length co32 : Value).ownBlock ∧ some k_ ≠ (v313 : Value).ownBlock ∧ some k_ ≠ (.slice Ao33 t316.length co33 : Value).ownBlock ∧ some k_ ≠ (.slice Ao46 t322.length co46 : Value).ownBlock ∧ some k_ ≠ (v327 : Value).ownBlock ∧ some k_ ≠ (.slice Ao47 t330.length co47 : Value).ownBlock ∧ some k_ ≠ (v341 : Value).ownBlock) (Kd.R_keptB (HO339.out) hkp (fun k_ hk_ hs_ => (fun e_ => by simp [Value.ownBlock] at e_) hs_)) (fun k_ hk_ => ⟨hk_.1.1.1.1.1.1.1.2, hk_.1.1.1.1.1.1.2, hk_.1.1.1.1.1.2, hk_.1.1.1.1.2, hk_.1.1.1.2, hk_.1.1.2, hk_.1.2, fun e_ => Or.elim (ho0.1 k_ e_.symm) (fun hs_ => hk_.2.1 hs_) (fun hn_ => Nat.not_le.2 hk_.2.2 hn_)⟩))
        replace HB := Aside0.mk (hb)
        try clear hb; try clear hkp; try clear ho0
        obtain ⟨Ao77, co77, eo77⟩ := Kd.R_slice HO342.out
        (first | subst eo77 | (injection eo77 with f1_ f2_ f3_; have f4_ := f1_.symm; have f5_ := f3_.symm; clear f1_ f2_ f3_; subst f4_; subst f5_))
        refine hK.out _ _ ⟨(blk_cell BK302.out 0).trans rfl, (blk_cell BK302.out 1).trans rfl⟩ (fun hHeld => ?_)
        clear hK K
        refine norm_ (a' := ?_) ?_ ?_; rotate_left; (· show Act.put _ (some 58) _ = _; simp only [Act.put, sq]; rfl)
        refine one_ (i := 10) (N := some 60) #[T, T, T, T, T, T, T, T, T, T, T, F, F, F, F, F, F, F, F, F, F, F, F, F, F, F] rfl rfl (one_of HT_.out (by kernel_rfl)) (by decide) (fun K hK => ?_)
        refine goes_ Try.func14 (by kernel_rfl) rfl #[.agg #[.slice Ao77 t340.length co77, .int .i64 t343], .int .u64 a4] (by rfl) rfl rfl (by (try simp only [List.map_toArray, List.map_cons, List.map_nil]); first | done | rfl | (simp only [List.length_drop, List.length_take]; rfl)) ?_
        with_reducible refine (bloom_Has.calls k _ _ t340 t343 a4 false _ ?side1 ?side2 A56.out).mono ?_
        (case side1 => exact Cs (Kd.R_reads' HO342.out).2.2)
        (case side2 => exact (Kd.R_reads' HO342.out).2.1)
        rintro e w78 ⟨rfl, hb⟩
        refine ⟨_, rfl, ?_⟩
        replace HO305 := Rb HO305 hb
        replace HO310 := Rb HO310 hb
        replace HO314 := Rb HO314 hb
        replace HO318 := Rb HO318 hb
        replace HO324 := Rb HO324 hb
        replace HO328 := Rb HO328 hb
        replace HO332 := Rb HO332 hb
        replace HO339 := Rb HO339 hb
        replace HO342 := Rb HO342 hb
        replace BK302 := Bb BK302 hb
        replace BK307 := Bb BK307 hb
        replace BK321 := Bb BK321 hb
        replace BK335 := Bb BK335 hb
        replace HB := Lb HB hb
        try clear hb; try clear hb2; try clear hk; try clear hi
        refine hK.out _ _ ⟨(blk_cell BK302.out 0).trans rfl, (blk_cell BK302.out 1).trans rfl⟩ (fun hHeld => ?_)
        clear hK K
        refine norm_ (a' := ?_) ?_ ?_; rotate_left; (· show Act.put _ (some 60) _ = _; simp only [Act.put, sq]; rfl)
        refine pure_ (i := 11) (N := some 61) (v := ?_) (a' := ?_) #[T, T, T, T, T, T, T, T, T, T, T, T, F, F, F, F, F, F, F, F, F, F, F, F, F, F] rfl rfl (any_of HT_.out (by kernel_rfl)) (fun _ _ _ h => h) (Or.inl ⟨by rfl, ?_⟩) ?_ ?_; rotate_left; (· intro w'; go_simp; with_reducible rfl); rotate_left; (· simp only [Act.put, sq]; rfl)
        refine pure_ (i := 12) (N := some 62) (v := ?_) (a' := ?_) #[T, T, T, T, T, T, T, T, T, T, T, T, T, F, F, F, F, F, F, F, F, F, F, F, F, F] rfl rfl (any_of HT_.out (by kernel_rfl)) (fun _ _ _ h => h) (Or.inl ⟨by rfl, ?_⟩) ?_ ?_; rotate_left; (· intro w'; go_simp; with_reducible rfl); rotate_left; (· simp only [Act.put, sq]; rfl)
        refine pure_ (i := 13) (N := some 63) (v := ?_) (a' := ?_) #[T, T, T, T, T, T, T, T, T, T, T, T, T, T, F, F, F, F, F, F, F, F, F, F, F, F] rfl rfl (any_of HT_.out (by kernel_rfl)) (fun _ _ _ h => h) (Or.inl ⟨by rfl, ?_⟩) ?_ ?_; rotate_left; (· intro w'; go_simp; with_reducible rfl); rotate_left; (· simp only [Act.put, sq]; rfl)
        refine take_ (i := 14) (N := some 64) (v := ?_) (a' := ?_) #[T, T, T, T, T, T, T, T, T, T, T, T, T, T, T, F, F, F, F, F, F, F, F, F, F, F] rfl rfl (take_ofW HT_.out HW_.out (by kernel_rfl)) (fun _ _ _ h => h) (Or.inl ⟨by rfl, ?_⟩) hHeld ?_ ?_; rotate_left; (· rintro w' ⟨s0, s1⟩; go_simp; with_reducible rfl); rotate_left; (· simp only [Act.put, sq]; rfl)
        refine take_ (i := 17) (N := some 67) (v := ?_) (a' := ?_) #[T, T, T, T, T, T, T, T, T, T, T, T, T, T, T, F, F, T, F, F, F, F, F, F, F, F] rfl rfl (take_ofW HT_.out HW_.out (by kernel_rfl)) (fun _ _ _ h => h) (Or.inl ⟨by rfl, ?_⟩) hHeld ?_ ?_; rotate_left; (· rintro w' ⟨s0, s1⟩; go_simp; with_reducible rfl); rotate_left; (· simp only [Act.put, sq]; rfl)
        refine take_ (i := 20) (N := some 70) (v := ?_) (a' := ?_) #[T, T, T, T, T, T, T, T, T, T, T, T, T, T, T, F, F, T, F, F, T, F, F, F, F, F] rfl rfl (take_ofW HT_.out HW_.out (by kernel_rfl)) (fun _ _ _ h => h) (Or.inl ⟨by rfl, ?_⟩) hHeld ?_ ?_; rotate_left; (· rintro w' ⟨s0, s1⟩; go_simp; with_reducible rfl); rotate_left; (· simp only [Act.put, sq]; rfl)
        refine one_ (i := 15) (N := some 65) #[T, T, T, T, T, T, T, T, T, T, T, T, T, T, T, T, F, T, F, F, T, F, F, F, F, F] rfl rfl (one_of HT_.out (by kernel_rfl)) (by decide) (fun K hK => ?_)
        refine goes_ Try.func15 (by kernel_rfl) rfl #[.agg #[.slice none 0 0, .int .i64 0]] (by rfl) rfl rfl (by (try simp only [List.map_toArray, List.map_cons, List.map_nil]); first | done | rfl | (simp only [List.length_drop, List.length_take]; rfl)) ?_
        refine (bloom_Words.calls _ _ ([] : List Int) 0 t345 _ ?side1 ?side2 A67.out).mono ?_
        (case side1 => exact Kd.C_nil _ _)
        (case side2 => exact Nat.le_refl _)
        rintro e w79 ⟨v346, rfl, ho0, hb⟩
        refine ⟨_, rfl, ?_⟩
        have HO347 := Aside0.mk (Kd.R_lower (Kd.R_new' (Kd.R_new' (Kd.R_new' (Kd.R_new' (Kd.R_new' (Kd.R_new' (Kd.R_new' (Kd.R_new' (Kd.R_new' ho0 (Kd.R_lt (Rs HO305.out))) (Kd.R_lt (Rs HO310.out))) (Kd.R_lt (Rs HO314.out))) (Kd.R_lt (Rs HO318.out))) (Kd.R_lt (Rs HO324.out))) (Kd.R_lt (Rs HO328.out))) (Kd.R_lt (Rs HO332.out))) (Kd.R_lt (Rs HO339.out))) (Kd.R_lt (Rs HO342.out))) (Lz HB))
        replace HO305 := Aside0.mk (Kd.R_elder' (Rs HO305.out) (Kd.R_base ho0) hb)
        replace HO310 := Aside0.mk (Kd.R_elder' (Rs HO310.out) (Kd.R_base ho0) hb)
        replace HO314 := Aside0.mk (Kd.R_elder' (Rs HO314.out) (Kd.R_base ho0) hb)
        replace HO318 := Aside0.mk (Kd.R_elder' (Rs HO318.out) (Kd.R_base ho0) hb)
        replace HO324 := Aside0.mk (Kd.R_elder' (Rs HO324.out) (Kd.R_base ho0) hb)
        replace HO328 := Aside0.mk (Kd.R_elder' (Rs HO328.out) (Kd.R_base ho0) hb)
        replace HO332 := Aside0.mk (Kd.R_elder' (Rs HO332.out) (Kd.R_base ho0) hb)
        replace HO339 := Aside0.mk (Kd.R_elder' (Rs HO339.out) (Kd.R_base ho0) hb)
        replace HO342 := Aside0.mk (Kd.R_elder' (Rs HO342.out) (Kd.R_base ho0) hb)
        replace BK302 := Bb BK302 hb
        replace BK307 := Bb BK307 hb
        replace BK321 := Bb BK321 hb
        replace BK335 := Bb BK335 hb
        replace HB := Lb HB hb
        try clear hb; try clear hb2; try clear hk; try clear hi; try clear ho0
        obtain ⟨Ao80, co80, eo80⟩ := Kd.R_slice HO347.out
        (first | subst eo80 | (injection eo80 with f1_ f2_ f3_; have f4_ := f1_.symm; have f5_ := f3_.symm; clear f1_ f2_ f3_; subst f4_; subst f5_))
        refine hK.out _ _ ⟨(blk_cell BK302.out 0).trans rfl, (blk_cell BK302.out 1).trans rfl⟩ (fun hHeld => ?_)
        clear hK K
        refine norm_ (a' := ?_) ?_ ?_; rotate_left; (· show Act.put _ (some 65) _ = _; simp only [Act.put, sq]; rfl)
        refine pure_ (i := 16) (N := some 66) (v := ?_) (a' := ?_) #[T, T, T, T, T, T, T, T, T, T, T, T, T, T, T, T, T, T, F, F, T, F, F, F, F, F] rfl rfl (any_of HT_.out (by kernel_rfl)) (fun _ _ _ h => h) (Or.inl ⟨by rfl, ?_⟩) ?_ ?_; rotate_left; (· intro w'; go_simp; with_reducible rfl); rotate_left; (· simp only [Act.put, sq]; rfl)
        refine one_ (i := 18) (N := some 68) #[T, T, T, T, T, T, T, T, T, T, T, T, T, T, T, T, T, T, T, F, T, F, F, F, F, F] rfl rfl (one_of HT_.out (by kernel_rfl)) (by decide) (fun K hK => ?_)
        refine goes_ Try.func30 (by kernel_rfl) rfl #[.agg #[.slice none 0 0, .int .i64 0]] (by rfl) rfl rfl (by (try simp only [List.map_toArray, List.map_cons, List.map_nil]); first | done | rfl | (simp only [List.length_drop, List.length_take]; rfl)) ?_
        refine (bloom_Ones.calls k _ _ ([] : List Int) 0 t348 _ ?side1 ?side2 A68.out).mono ?_
        (case side1 => exact Kd.C_nil _ _)
        (case side2 => exact Nat.le_refl _)
        rintro e w81 ⟨rfl, hb⟩
        refine ⟨_, rfl, ?_⟩
        replace HO305 := Rb HO305 hb
        replace HO310 := Rb HO310 hb
        replace HO314 := Rb HO314 hb
        replace HO318 := Rb HO318 hb
        replace HO324 := Rb HO324 hb
        replace HO328 := Rb HO328 hb
        replace HO332 := Rb HO332 hb
        replace HO339 := Rb HO339 hb
        replace HO342 := Rb HO342 hb
        replace HO347 := Rb HO347 hb
        replace BK302 := Bb BK302 hb
        replace BK307 := Bb BK307 hb
        replace BK321 := Bb BK321 hb
        replace BK335 := Bb BK335 hb
        replace HB := Lb HB hb
        try clear hb; try clear hb2; try clear hk; try clear hi
        refine hK.out _ _ ⟨(blk_cell BK302.out 0).trans rfl, (blk_cell BK302.out 1).trans rfl⟩ (fun hHeld => ?_)
        clear hK K
        refine norm_ (a' := ?_) ?_ ?_; rotate_left; (· show Act.put _ (some 68) _ = _; simp only [Act.put, sq]; rfl)
        refine pure_ (i := 19) (N := some 69) (v := ?_) (a' := ?_) #[T, T, T, T, T, T, T, T, T, T, T, T, T, T, T, T, T, T, T, T, T, F, F, F, F, F] rfl rfl (any_of HT_.out (by kernel_rfl)) (fun _ _ _ h => h) (Or.inl ⟨by rfl, ?_⟩) ?_ ?_; rotate_left; (· intro w'; go_simp; with_reducible rfl); rotate_left; (· simp only [Act.put, sq]; rfl)
        refine one_ (i := 21) (N := some 71) #[T, T, T, T, T, T, T, T, T, T, T, T, T, T, T, T, T, T, T, T, T, T, F, F, F, F] rfl rfl (one_of HT_.out (by kernel_rfl)) (by decide) (fun K hK => ?_)
        refine goes_ Try.func28 (by kernel_rfl) rfl #[.agg #[.slice none 0 0, .int .i64 0]] (by rfl) rfl rfl (by (try simp only [List.map_toArray, List.map_cons, List.map_nil]); first | done | rfl | (simp only [List.length_drop, List.length_take]; rfl)) ?_
        refine (bloom_Bits.calls _ _ ([] : List Int) 0 t349 _ ?side1 ?side2 A69.out).mono ?_
        (case side1 => exact Kd.C_nil _ _)
        (case side2 => exact Nat.le_refl _)
        rintro e w82 ⟨rfl, hb⟩
        refine ⟨_, rfl, ?_⟩
        replace HO305 := Rb HO305 hb
        replace HO310 := Rb HO310 hb
        replace HO314 := Rb HO314 hb
        replace HO318 := Rb HO318 hb
        replace HO324 := Rb HO324 hb
        replace HO328 := Rb HO328 hb
        replace HO332 := Rb HO332 hb
        replace HO339 := Rb HO339 hb
        replace HO342 := Rb HO342 hb
        replace HO347 := Rb HO347 hb
        replace BK302 := Bb BK302 hb
        replace BK307 := Bb BK307 hb
        replace BK321 := Bb BK321 hb
        replace BK335 := Bb BK335 hb
        replace HB := Lb HB hb
        try clear hb; try clear hb2; try clear hk; try clear hi
        refine hK.out _ _ ⟨(blk_cell BK302.out 0).trans rfl, (blk_cell BK302.out 1).trans rfl⟩ (fun hHeld => ?_)
        clear hK K
        refine norm_ (a' := ?_) ?_ ?_; rotate_left; (· show Act.put _ (some 71) _ = _; simp only [Act.put, sq]; rfl)
        refine pure_ (i := 22) (N := some 72) (v := ?_) (a' := ?_) #[T, T, T, T, T, T, T, T, T, T, T, T, T, T, T, T, T, T, T, T, T, T, T, F, F, F] rfl rfl (any_of HT_.out (by kernel_rfl)) (fun _ _ _ h => h) (Or.inl ⟨by rfl, ?_⟩) ?_ ?_; rotate_left; (· intro w'; go_simp; with_reducible rfl); rotate_left; (· simp only [Act.put, sq]; rfl)
        refine pure_ (i := 23) (N := some 73) (v := ?_) (a' := ?_) #[T, T, T, T, T, T, T, T, T, T, T, T, T, T, T, T, T, T, T, T, T, T, T, T, F, F] rfl rfl (any_of HT_.out (by kernel_rfl)) (fun _ _ _ h => h) (Or.inl ⟨by rfl, ?_⟩) ?_ ?_; rotate_left; (· intro w'; go_simp; with_reducible rfl); rotate_left; (· simp only [Act.put, sq]; rfl)
        refine pure_ (i := 24) (N := some 74) (v := ?_) (a' := ?_) #[T, T, T, T, T, T, T, T, T, T, T, T, T, T, T, T, T, T, T, T, T, T, T, T, T, F] rfl rfl (any_of HT_.out (by kernel_rfl)) (fun _ _ _ h => h) (Or.inl ⟨by rfl, ?_⟩) ?_ ?_; rotate_left; (· intro w'; go_simp; with_reducible rfl); rotate_left; (· simp only [Act.put, sq]; rfl)
        refine pure_ (i := 25) (N := some 17) (v := ?_) (a' := ?_) #[T, T, T, T, T, T, T, T, T, T, T, T, T, T, T, T, T, T, T, T, T, T, T, T, T, T] rfl rfl (any_of HT_.out (by kernel_rfl)) (fun _ _ _ h => h) (Or.inl ⟨by rfl, ?_⟩) ?_ ?_; rotate_left; (· intro w'; go_simp; with_reducible rfl); rotate_left; (· simp only [Act.put, sq]; rfl)
        refine done_ (done_of HT_.out (by kernel_rfl)) ?_
        try go_wp2
        go_meet
        case rel => exact ⟨_, (((wrap64 ((wrap64 ((t345.length : Int) + t348)) + t349)) == 0)), (by first | rfl | (simp; done) | (simp [*]; done)), H', ⟨by first | omega | exact Nat.le_refl _⟩, ⟨by (with_reducible repeat (first | apply Kd.R_alloc | apply Kd.R_drewN | apply Kd.R_drew)); exact Kd.R_mono HO305.out (fun _ hk => ⟨hk.1.2.2.1, hk.1.2.2.2.2.2.1⟩)⟩, ⟨by (with_reducible repeat (first | apply Kd.R_alloc | apply Kd.R_drewN | apply Kd.R_drew)); exact Kd.R_mono HO318.out (fun _ hk => ⟨hk.1.1, hk.1.2.2.2.2.2.1⟩)⟩, ⟨by (with_reducible repeat (first | apply Kd.R_alloc | apply Kd.R_drewN | apply Kd.R_drew)); exact Kd.R_mono HO332.out (fun _ hk => ⟨hk.1.1, hk.1.2.2.2.1⟩)⟩, ⟨Bs BK302.out⟩, ⟨Bs BK307.out⟩, ⟨Bs BK321.out⟩, ⟨Bs BK335.out⟩, ⟨Ls HB⟩⟩
  case rest =>
    clear HC15
    try clear c1; try clear c2; try clear p2; try clear c3; try clear p6; try clear c10; try clear c14; try clear c15; try clear c28; try clear c30; try clear p64
    obtain ⟨kq, x17_14, rfl, HA, HJ14, HO_308000, HO_322000, HO_336000, BK302, BK307, BK321, BK335, HB⟩ := hcut
    cases kq with
    | zero => exact absurd HA.out (by simp [trommellaw18_BloomSizes.j0])
    | succ kj14 =>
      have H := HA.out
      clear HA
      simp only [trommellaw18_BloomSizes.j0] at H
      replace H := Option.bind_eq_some_iff.mp H
      obtain ⟨t350, A830, H⟩ := H
      replace H : ((trommelref18_Size.f kj14 a0 a1).bind fun t351 => (if t350 = t351 then ((trommellaw18_code.f t320).bind fun t352 => (if t352 = 7 then ((trommellaw18_code.f t334).bind fun t353 => (if t353 = 7 then (if x17_14 = true then ((trommellaw18_live.f kj14).bind fun t354 => (some t354)) else (some false)) else (some false))) else (some false))) else (some false))) = some r := H
      have A83 := Aside0.mk A830
      clear A830
      replace H := Option.bind_eq_some_iff.mp H
      obtain ⟨t351, A840, H⟩ := H
      replace H : (if t350 = t351 then ((trommellaw18_code.f t320).bind fun t352 => (if t352 = 7 then ((trommellaw18_code.f t334).bind fun t353 => (if t353 = 7 then (if x17_14 = true then ((trommellaw18_live.f kj14).bind fun t354 => (some t354)) else (some false)) else (some false))) else (some false))) else (some false)) = some r := H
      have A84 := Aside0.mk A840
      clear A840
      by_cases c85 : t350 = t351
      · rw [if_pos c85] at H
        have c85b0 : (t350 == t351) = true := beq_iff_eq.mpr c85
        have c85b1 : (t350 != t351) = false := bne_eq_false_iff_eq.mpr c85
        clear c85
        replace H := Option.bind_eq_some_iff.mp H
        obtain ⟨t352, A860, H⟩ := H
        replace H : (if t352 = 7 then ((trommellaw18_code.f t334).bind fun t353 => (if t353 = 7 then (if x17_14 = true then ((trommellaw18_live.f kj14).bind fun t354 => (some t354)) else (some false)) else (some false))) else (some false)) = some r := H
        have A86 := Aside0.mk A860
        clear A860
        by_cases c87 : t352 = 7
        · rw [if_pos c87] at H
          have c87b0 : (t352 == 7) = true := beq_iff_eq.mpr c87
          have c87b1 : (t352 != 7) = false := bne_eq_false_iff_eq.mpr c87
          clear c87
          replace H := Option.bind_eq_some_iff.mp H
          obtain ⟨t353, A880, H⟩ := H
          replace H : (if t353 = 7 then (if x17_14 = true then ((trommellaw18_live.f kj14).bind fun t354 => (some t354)) else (some false)) else (some false)) = some r := H
          have A88 := Aside0.mk A880
          clear A880
          by_cases c89 : t353 = 7
          · rw [if_pos c89] at H
            have c89b0 : (t353 == 7) = true := beq_iff_eq.mpr c89
            have c89b1 : (t353 != 7) = false := bne_eq_false_iff_eq.mpr c89
            clear c89
            by_cases c90 : x17_14 = true
            · subst c90
              have H1 : ((trommellaw18_live.f kj14).bind fun t354 => (some t354)) = some r := by rw [if_pos rfl] at H; exact H
              clear H
              have H := H1
              clear H1
              replace H := Option.bind_eq_some_iff.mp H
              obtain ⟨t354, A910, H⟩ := H
              replace H : (some t354) = some r := H
              have A91 := Aside0.mk A910
              clear A910
              obtain rfl := Option.some.inj H
              go_wp2_with (first | ((with_reducible refine gate_callee (f := 32) rfl ?_); refine goesL_ (some 77) rfl rfl Try.func32 (by kernel_rfl) rfl #[.int .i64 a0, .int .i64 a1] rfl (by (try simp only [List.map_toArray, List.map_cons, List.map_nil]); first | done | rfl | (simp only [List.length_drop, List.length_take]; rfl)) ?_; (with_reducible refine (bloom_Size.calls kj14 a0 a1 t350 _ A83.out).mono ?_); rintro e w92 ⟨rfl, hb⟩; refine ⟨_, rfl, ?_⟩; have n0_ := Rb HO_308000 hb; have n1_ := Rb HO_322000 hb; have n2_ := Rb HO_336000 hb; have n3_ := Bb BK302 hb; have n4_ := Bb BK307 hb; have n5_ := Bb BK321 hb; have n6_ := Bb BK335 hb; have n7_ := Lb HB hb; clear HO_308000 HO_322000 HO_336000 BK302 BK307 BK321 BK335 HB; have HO_308000 := n0_; have HO_322000 := n1_; have HO_336000 := n2_; have BK302 := n3_; have BK307 := n4_; have BK321 := n5_; have BK335 := n6_; have HB := n7_; clear n0_ n1_ n2_ n3_ n4_ n5_ n6_ n7_; (try clear hb); (try clear hb2); (try clear hk); (try clear hi)) | ((with_reducible refine gate_callee (f := 33) rfl ?_); refine goesL_ (some 80) rfl rfl Try.func33 (by kernel_rfl) rfl #[.int .i64 a0, .int .i64 a1] rfl (by (try simp only [List.map_toArray, List.map_cons, List.map_nil]); first | done | rfl | (simp only [List.length_drop, List.length_take]; rfl)) ?_; (with_reducible refine (trommelref18_Size.calls kj14 a0 a1 t351 _ A84.out).mono ?_); rintro e w' ⟨rfl, ⟨nd, rfl⟩⟩; refine ⟨_, rfl, ?_⟩) | (go_at_call 13; (with_reducible refine (trommellaw18_code.calls t320 t352 _ A86.out).mono ?_); rintro e w' ⟨rfl, ⟨nd, rfl⟩⟩) | (go_at_call 13; (with_reducible refine (trommellaw18_code.calls t334 t353 _ A88.out).mono ?_); rintro e w' ⟨rfl, ⟨nd, rfl⟩⟩) | (go_at_call 9; (with_reducible refine (trommellaw18_live.calls kj14  t354 _ A91.out).mono ?_); rintro e w93 ⟨rfl, hb⟩; have n0_ := Rb HO_308000 hb; have n1_ := Rb HO_322000 hb; have n2_ := Rb HO_336000 hb; have n3_ := Bb BK302 hb; have n4_ := Bb BK307 hb; have n5_ := Bb BK321 hb; have n6_ := Bb BK335 hb; have n7_ := Lb HB hb; clear HO_308000 HO_322000 HO_336000 BK302 BK307 BK321 BK335 HB; have HO_308000 := n0_; have HO_322000 := n1_; have HO_336000 := n2_; have BK302 := n3_; have BK307 := n4_; have BK321 := n5_; have BK335 := n6_; have HB := n7_; clear n0_ n1_ n2_ n3_ n4_ n5_ n6_ n7_; (try clear hb); (try clear hb2); (try clear hk); (try clear hi)))
              go_ret
              exact ⟨by first | rfl | (simp [errW_none, errW_some] <;> rfl) | (simp [*, errW_none, errW_some] <;> rfl), by repeat (first | (with_reducible first | exact HB.out | apply below_alloc | apply pw_below_drewN | apply below_drew1 | refine below_set ?_ GE302.out | refine below_set ?_ GE307.out | refine below_set ?_ GE321.out | refine below_set ?_ GE335.out) | exact HB.out)⟩
            · replace c90 := Bool.eq_false_iff.mpr c90
              subst c90
              have H1 : (some false) = some r := by rw [if_neg (show ¬ (false = true) by decide)] at H; exact H
              clear H
              have H := H1
              clear H1
              obtain rfl := Option.some.inj H
              go_wp2_with (first | ((with_reducible refine gate_callee (f := 32) rfl ?_); refine goesL_ (some 77) rfl rfl Try.func32 (by kernel_rfl) rfl #[.int .i64 a0, .int .i64 a1] rfl (by (try simp only [List.map_toArray, List.map_cons, List.map_nil]); first | done | rfl | (simp only [List.length_drop, List.length_take]; rfl)) ?_; (with_reducible refine (bloom_Size.calls kj14 a0 a1 t350 _ A83.out).mono ?_); rintro e w94 ⟨rfl, hb⟩; refine ⟨_, rfl, ?_⟩; have n0_ := Rb HO_308000 hb; have n1_ := Rb HO_322000 hb; have n2_ := Rb HO_336000 hb; have n3_ := Bb BK302 hb; have n4_ := Bb BK307 hb; have n5_ := Bb BK321 hb; have n6_ := Bb BK335 hb; have n7_ := Lb HB hb; clear HO_308000 HO_322000 HO_336000 BK302 BK307 BK321 BK335 HB; have HO_308000 := n0_; have HO_322000 := n1_; have HO_336000 := n2_; have BK302 := n3_; have BK307 := n4_; have BK321 := n5_; have BK335 := n6_; have HB := n7_; clear n0_ n1_ n2_ n3_ n4_ n5_ n6_ n7_; (try clear hb); (try clear hb2); (try clear hk); (try clear hi)) | ((with_reducible refine gate_callee (f := 33) rfl ?_); refine goesL_ (some 80) rfl rfl Try.func33 (by kernel_rfl) rfl #[.int .i64 a0, .int .i64 a1] rfl (by (try simp only [List.map_toArray, List.map_cons, List.map_nil]); first | done | rfl | (simp only [List.length_drop, List.length_take]; rfl)) ?_; (with_reducible refine (trommelref18_Size.calls kj14 a0 a1 t351 _ A84.out).mono ?_); rintro e w' ⟨rfl, ⟨nd, rfl⟩⟩; refine ⟨_, rfl, ?_⟩) | (go_at_call 13; (with_reducible refine (trommellaw18_code.calls t320 t352 _ A86.out).mono ?_); rintro e w' ⟨rfl, ⟨nd, rfl⟩⟩) | (go_at_call 13; (with_reducible refine (trommellaw18_code.calls t334 t353 _ A88.out).mono ?_); rintro e w' ⟨rfl, ⟨nd, rfl⟩⟩))
              go_ret
              exact ⟨by first | rfl | (simp [errW_none, errW_some] <;> rfl) | (simp [*, errW_none, errW_some] <;> rfl), by repeat (first | (with_reducible first | exact HB.out | apply below_alloc | apply pw_below_drewN | apply below_drew1 | refine below_set ?_ GE302.out | refine below_set ?_ GE307.out | refine below_set ?_ GE321.out | refine below_set ?_ GE335.out) | exact HB.out)⟩
          · rw [if_neg c89] at H
            have c89b0 : (t353 == 7) = false := beq_eq_false_iff_ne.mpr c89
            have c89b1 : (t353 != 7) = true := bne_iff_ne.mpr c89
            obtain rfl := Option.some.inj H
            go_wp2_with (first | ((with_reducible refine gate_callee (f := 32) rfl ?_); refine goesL_ (some 77) rfl rfl Try.func32 (by kernel_rfl) rfl #[.int .i64 a0, .int .i64 a1] rfl (by (try simp only [List.map_toArray, List.map_cons, List.map_nil]); first | done | rfl | (simp only [List.length_drop, List.length_take]; rfl)) ?_; (with_reducible refine (bloom_Size.calls kj14 a0 a1 t350 _ A83.out).mono ?_); rintro e w95 ⟨rfl, hb⟩; refine ⟨_, rfl, ?_⟩; have n0_ := Rb HO_308000 hb; have n1_ := Rb HO_322000 hb; have n2_ := Rb HO_336000 hb; have n3_ := Bb BK302 hb; have n4_ := Bb BK307 hb; have n5_ := Bb BK321 hb; have n6_ := Bb BK335 hb; have n7_ := Lb HB hb; clear HO_308000 HO_322000 HO_336000 BK302 BK307 BK321 BK335 HB; have HO_308000 := n0_; have HO_322000 := n1_; have HO_336000 := n2_; have BK302 := n3_; have BK307 := n4_; have BK321 := n5_; have BK335 := n6_; have HB := n7_; clear n0_ n1_ n2_ n3_ n4_ n5_ n6_ n7_; (try clear hb); (try clear hb2); (try clear hk); (try clear hi)) | ((with_reducible refine gate_callee (f := 33) rfl ?_); refine goesL_ (some 80) rfl rfl Try.func33 (by kernel_rfl) rfl #[.int .i64 a0, .int .i64 a1] rfl (by (try simp only [List.map_toArray, List.map_cons, List.map_nil]); first | done | rfl | (simp only [List.length_drop, List.length_take]; rfl)) ?_; (with_reducible refine (trommelref18_Size.calls kj14 a0 a1 t351 _ A84.out).mono ?_); rintro e w' ⟨rfl, ⟨nd, rfl⟩⟩; refine ⟨_, rfl, ?_⟩) | (go_at_call 13; (with_reducible refine (trommellaw18_code.calls t320 t352 _ A86.out).mono ?_); rintro e w' ⟨rfl, ⟨nd, rfl⟩⟩) | (go_at_call 13; (with_reducible refine (trommellaw18_code.calls t334 t353 _ A88.out).mono ?_); rintro e w' ⟨rfl, ⟨nd, rfl⟩⟩))
            go_ret
            exact ⟨by first | rfl | (simp [errW_none, errW_some] <;> rfl) | (simp [*, errW_none, errW_some] <;> rfl), by repeat (first | (with_reducible first | exact HB.out | apply below_alloc | apply pw_below_drewN | apply below_drew1 | refine below_set ?_ GE302.out | refine below_set ?_ GE307.out | refine below_set ?_ GE321.out | refine below_set ?_ GE335.out) | exact HB.out)⟩
        · rw [if_neg c87] at H
          have c87b0 : (t352 == 7) = false := beq_eq_false_iff_ne.mpr c87
          have c87b1 : (t352 != 7) = true := bne_iff_ne.mpr c87
          obtain rfl := Option.some.inj H
          go_wp2_with (first | ((with_reducible refine gate_callee (f := 32) rfl ?_); refine goesL_ (some 77) rfl rfl Try.func32 (by kernel_rfl) rfl #[.int .i64 a0, .int .i64 a1] rfl (by (try simp only [List.map_toArray, List.map_cons, List.map_nil]); first | done | rfl | (simp only [List.length_drop, List.length_take]; rfl)) ?_; (with_reducible refine (bloom_Size.calls kj14 a0 a1 t350 _ A83.out).mono ?_); rintro e w96 ⟨rfl, hb⟩; refine ⟨_, rfl, ?_⟩; have n0_ := Rb HO_308000 hb; have n1_ := Rb HO_322000 hb; have n2_ := Rb HO_336000 hb; have n3_ := Bb BK302 hb; have n4_ := Bb BK307 hb; have n5_ := Bb BK321 hb; have n6_ := Bb BK335 hb; have n7_ := Lb HB hb; clear HO_308000 HO_322000 HO_336000 BK302 BK307 BK321 BK335 HB; have HO_308000 := n0_; have HO_322000 := n1_; have HO_336000 := n2_; have BK302 := n3_; have BK307 := n4_; have BK321 := n5_; have BK335 := n6_; have HB := n7_; clear n0_ n1_ n2_ n3_ n4_ n5_ n6_ n7_; (try clear hb); (try clear hb2); (try clear hk); (try clear hi)) | ((with_reducible refine gate_callee (f := 33) rfl ?_); refine goesL_ (some 80) rfl rfl Try.func33 (by kernel_rfl) rfl #[.int .i64 a0, .int .i64 a1] rfl (by (try simp only [List.map_toArray, List.map_cons, List.map_nil]); first | done | rfl | (simp only [List.length_drop, List.length_take]; rfl)) ?_; (with_reducible refine (trommelref18_Size.calls kj14 a0 a1 t351 _ A84.out).mono ?_); rintro e w' ⟨rfl, ⟨nd, rfl⟩⟩; refine ⟨_, rfl, ?_⟩) | (go_at_call 13; (with_reducible refine (trommellaw18_code.calls t320 t352 _ A86.out).mono ?_); rintro e w' ⟨rfl, ⟨nd, rfl⟩⟩))
          go_ret
          exact ⟨by first | rfl | (simp [errW_none, errW_some] <;> rfl) | (simp [*, errW_none, errW_some] <;> rfl), by repeat (first | (with_reducible first | exact HB.out | apply below_alloc | apply pw_below_drewN | apply below_drew1 | refine below_set ?_ GE302.out | refine below_set ?_ GE307.out | refine below_set ?_ GE321.out | refine below_set ?_ GE335.out) | exact HB.out)⟩
      · rw [if_neg c85] at H
        have c85b0 : (t350 == t351) = false := beq_eq_false_iff_ne.mpr c85
        have c85b1 : (t350 != t351) = true := bne_iff_ne.mpr c85
        obtain rfl := Option.some.inj H
        go_wp2_with (first | ((with_reducible refine gate_callee (f := 32) rfl ?_); refine goesL_ (some 77) rfl rfl Try.func32 (by kernel_rfl) rfl #[.int .i64 a0, .int .i64 a1] rfl (by (try simp only [List.map_toArray, List.map_cons, List.map_nil]); first | done | rfl | (simp only [List.length_drop, List.length_take]; rfl)) ?_; (with_reducible refine (bloom_Size.calls kj14 a0 a1 t350 _ A83.out).mono ?_); rintro e w97 ⟨rfl, hb⟩; refine ⟨_, rfl, ?_⟩; have n0_ := Rb HO_308000 hb; have n1_ := Rb HO_322000 hb; have n2_ := Rb HO_336000 hb; have n3_ := Bb BK302 hb; have n4_ := Bb BK307 hb; have n5_ := Bb BK321 hb; have n6_ := Bb BK335 hb; have n7_ := Lb HB hb; clear HO_308000 HO_322000 HO_336000 BK302 BK307 BK321 BK335 HB; have HO_308000 := n0_; have HO_322000 := n1_; have HO_336000 := n2_; have BK302 := n3_; have BK307 := n4_; have BK321 := n5_; have BK335 := n6_; have HB := n7_; clear n0_ n1_ n2_ n3_ n4_ n5_ n6_ n7_; (try clear hb); (try clear hb2); (try clear hk); (try clear hi)) | ((with_reducible refine gate_callee (f := 33) rfl ?_); refine goesL_ (some 80) rfl rfl Try.func33 (by kernel_rfl) rfl #[.int .i64 a0, .int .i64 a1] rfl (by (try simp only [List.map_toArray, List.map_cons, List.map_nil]); first | done | rfl | (simp only [List.length_drop, List.length_take]; rfl)) ?_; (with_reducible refine (trommelref18_Size.calls kj14 a0 a1 t351 _ A84.out).mono ?_); rintro e w' ⟨rfl, ⟨nd, rfl⟩⟩; refine ⟨_, rfl, ?_⟩))
        go_ret
        exact ⟨by first | rfl | (simp [errW_none, errW_some] <;> rfl) | (simp [*, errW_none, errW_some] <;> rfl), by repeat (first | (with_reducible first | exact HB.out | apply below_alloc | apply pw_below_drewN | apply below_drew1 | refine below_set ?_ GE302.out | refine below_set ?_ GE307.out | refine below_set ?_ GE321.out | refine below_set ?_ GE335.out) | exact HB.out)⟩

/-- THE ONE PURE STATEMENT of trommellaw18_BloomSizes: yours. -/
def trommellaw18_BloomSizes.Pure : Prop := ∀ (a0 : Int) (a1 : Int) (a2 : Int) (a3 : Int) (a4 : Int), (Lit.int .i64 a0).wf = true → (Lit.int .i64 a1).wf = true → (Lit.int .u8 a2).wf = true → (Lit.int .u8 a3).wf = true → (Lit.int .u64 a4).wf = true → ∃ k, trommellaw18_BloomSizes.f k a0 a1 a2 a3 a4 = some true
theorem trommellaw18_BloomSizes.walk (P : trommellaw18_BloomSizes.Pure) (a0 : Int) (a1 : Int) (a2 : Int) (a3 : Int) (a4 : Int) (w : World) (w0 : (Lit.int .i64 a0).wf = true) (w1 : (Lit.int .i64 a1).wf = true) (w2 : (Lit.int .u8 a2).wf = true) (w3 : (Lit.int .u8 a3).wf = true) (w4 : (Lit.int .u64 a4).wf = true) :
    Calls Try.prog 6 #[.int .i64 a0, .int .i64 a1, .int .u8 a2, .int .u8 a3, .int .u64 a4] w fun e w' => e = .returned (.bool true) ∧ Below w.heap.size w w' := by
  obtain ⟨k, h⟩ := P a0 a1 a2 a3 a4 w0 w1 w2 w3 w4
  refine (trommellaw18_BloomSizes.calls k a0 a1 a2 a3 a4 true w h).mono ?_
  rintro e w' ⟨rfl, hd⟩
  exact ⟨rfl, hd⟩

end Go.Proofs.Ytobfhacdljmooaa.PBloom
