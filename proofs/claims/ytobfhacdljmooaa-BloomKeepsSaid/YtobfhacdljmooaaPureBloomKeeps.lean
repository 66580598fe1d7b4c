/- BloomKeeps is proved: for every words, bits and all numbers a and b, what was put into a filter passes it, and passes its union with any other of its shape; the union, taken either way, has the words of the filter into which all were put. -/
import Derived.Test.YtobfhacdljmooaaBM3
set_option linter.unusedVariables false
set_option linter.unusedSimpArgs false
namespace Go.Proofs.Ytobfhacdljmooaa.Pure
open Go.RowKit Go.Proofs.Ytobfhacdljmooaa.PBloom Go.Proofs.YtobfhacdljmooaaW.PrintWords Go.Proofs.YtobfhacdljmooaaW.PrintLast

theorem u8_of {a : Int} (h : (Lit.int .u8 a).wf = true) : 0 ≤ a ∧ a < 256 := by
  simp [Lit.wf, IntKind.min, IntKind.max, IntKind.bits, IntKind.signed] at h; omega
theorem BloomKeeps : trommellaw18_BloomKeeps.Pure := by
  intro a0 a1 l2 l3 h0 h1 m2 s2 w2 m3 s3 w3
  obtain ⟨a, rfl, ha⟩ := li_of l2 w2
  obtain ⟨c, rfl, hc⟩ := li_of l3 w3
  have ha' : Sm a := fun x hx => by simpa using ha x hx
  have hc' : Sm c := fun x hx => by simpa using hc x hx
  have b0 := u8_of h0
  have b1 := u8_of h1
  rw [li_length] at s2 s3
  apply Ev.rounds
  by_cases hbig : wrap64 (((li a).length : Int) + ((li c).length : Int)) > 80
  · refine Ev.congr (fun k => ?_) (Ev.bind live_ev (f := fun _ t => some t) (Ev.now _))
    unfold trommellaw18_BloomKeeps.f
    rw [if_pos hbig]
  · have hw : wrap64 (((li a).length : Int) + ((li c).length : Int)) = (a.length : Int) + c.length := by
      rw [li_length, li_length, w64_in _ (by omega) (by omega)]
    have hal : a.length + c.length ≤ 80 := by rw [hw] at hbig; omega
    obtain ⟨n, hn, hn1, hn2⟩ : ∃ n : Nat, (max 1 (min (Int.tmod (wrap64 a0) 20) 4096)).toNat = n ∧ 1 ≤ n ∧ n ≤ 4096 := ⟨_, rfl, by omega, by omega⟩
    obtain ⟨b, hb, hb5⟩ : ∃ b : Nat, (max 1 (min (Int.tmod (wrap64 a1) 7) 5)).toNat = b ∧ b ≤ 5 := ⟨_, rfl, by omega⟩
    have hz : Sm (List.replicate n 0) := Sm.replicate n
    have z1 : 1 ≤ (List.replicate n 0).length := by simpa using hn1
    have z2 : (List.replicate n 0).length < 17592186044416 := by simp; omega
    have lf : (addL b (List.replicate n 0) a).length = n := by rw [addL_length]; simp
    have lg : (addL b (List.replicate n 0) c).length = n := by rw [addL_length]; simp
    have hf := hz.addL (b := b) a
    have hg := hz.addL (b := b) c
    have hca : Sm (c ++ a) := fun x hx => (List.mem_append.1 hx).elim (hc' x) (ha' x)
    have e1 := add_ev b hb5 a ha' (by omega) _ hz z1 z2
    have e2 := add_ev b hb5 c hc' (by omega) _ hz z1 z2
    have e3 := add_ev b hb5 (c ++ a) hca (by simp; omega) _ hz z1 z2
    have u1 := union_ev _ _ hf hg (by rw [lf, lg]) (by rw [lf]; omega) (b : Int)
    have u2 := union_ev _ _ hg hf (by rw [lf, lg]) (by rw [lg]; omega) (b : Int)
    rw [← uni_comm _ _ (by rw [lf, lg])] at u2
    rw [← uni_all b n hn1] at e3
    have lu : (uni (addL b (List.replicate n 0) a) (addL b (List.replicate n 0) c)).length = n := by rw [uni_length _ _ (by rw [lf, lg]), lf]
    have e4 := keeps_l0 b hb5 a ha' (by omega) _ _ hf (hf.uni hg) (by rw [lf]; omega) (by rw [lf]; omega) (by rw [lu, lf]) (fun x hx => has_put b _ a z1 x hx) (fun x hx => has_uni b _ _ a z1 (by rw [lg]; simp) x hx) a.length 0 (by omega)
    unfold trommellaw18_BloomKeeps.f
    simp only [new_eq, hn, hb, Option.bind_some, if_neg hbig]
    refine Ev.bind e1 ?_
    refine Ev.bind e2 ?_
    refine Ev.bind u1 ?_
    refine Ev.bind u2 ?_
    refine Ev.congr (fun k => ?_) (Ev.bind e3 (f := fun k bt => trommellaw18_BloomKeeps.l0 k (li a) 0 (li (addL b (List.replicate n 0) a)) (b : Int) (li (uni (addL b (List.replicate n 0) a) (addL b (List.replicate n 0) c))) (b : Int) (li (uni (addL b (List.replicate n 0) a) (addL b (List.replicate n 0) c))) (b : Int) bt.1 bt.2) e4)
    rw [if_pos (by simp [li_length]; omega), if_pos (by simp [li_length]; omega)]
    simp [li_append, trommellaw18_code.f]
end Go.Proofs.Ytobfhacdljmooaa.Pure
