/- Parts of the proof, put together: T39, T40, T17, T18. -/
import Derived.Test.YtllhdnfcneejaaaK311
import Derived.Test.YtllhdnfcneejaaaK39
/- What is drawn of calls, spoilt. -/
section
set_option linter.unusedVariables false
set_option linter.unusedSimpArgs false
set_option maxRecDepth 20000
attribute [local irreducible] Go.Tk.vc Go.Tk.vops Go.Tk.vdr Go.Tk.vop Go.Tk.vfl Go.Tk.HCalls
namespace Go.Proofs.Ytllhdnfcneejaaa
open Go Go.Tk

theorem call_c {h : H} {jr p : Nat} {bv : Value} {l : List UInt8} (hj : hget h jr = none) (rb : rIn h eB 1 bv l) (hl : l.length ≤ 1048576) (hp : p ≤ 137438953472) {R : Ending → H → Prop}
    (k : ∀ (c : DCall) (p' : Nat), c.text.length ≤ 410 → p ≤ p' → p' ≤ p + 320 → R (.returned (.agg (cCall c).toArray)) ((jr, blk (rdr bv p') 120) :: h)) :
    HCalls Try.prog 83 #[.pointer (some ⟨jr, 0, none⟩)] ((jr, blk (rdr bv p) 120) :: h) R := by
  refine HCalls_ir (args := [.pointer (some ⟨jr, 0, none⟩)]) Try.func83 ir83 ?_
  have zc := zCall_eq
  simp only [str] at zc
  simp only [walk, lists, acts, mem, plain, seqs, maps, cells, resL, resV, intBin, ↓reduceIte, Nat.reduceAdd, Nat.reduceSub, Nat.reduceMul, Nat.reduceLeDiff, Nat.reduceEqDiff, Int.reduceToNat, Int.reduceEq, Int.reduceLT, Int.reduceLE, Int.reduceNeg, Int.reduceAdd, Int.reduceSub, Int.reduceMul, Nat.reducePow, Int.reduceNegSucc, str, zc]
  refine newB_intro fun j2 hj2 => ?_
  have n2 := fresh hj2
  simp only [walk, lists, acts, mem, plain, seqs, maps, cells, resL, resV, intBin, ↓reduceIte, Nat.reduceAdd, Nat.reduceSub, Nat.reduceMul, Nat.reduceLeDiff, Nat.reduceEqDiff, Int.reduceToNat, Int.reduceEq, Int.reduceLT, Int.reduceLE, Int.reduceNeg, Int.reduceAdd, Int.reduceSub, Int.reduceMul, Nat.reducePow, Int.reduceNegSucc, str, zc]
  refine sim_c rfl fun js S hjs => ?_
  simp only [subs] at hjs
  have hne : jr ≠ js ∧ j2 ≠ js := ⟨Ne.symm hjs.2.1, Ne.symm hjs.1⟩
  simp only [walk, lists, acts, mem, plain, seqs, maps, cells, resL, resV, intBin, ↓reduceIte, Nat.reduceAdd, Nat.reduceSub, Nat.reduceMul, Nat.reduceLeDiff, Nat.reduceEqDiff, Int.reduceToNat, Int.reduceEq, Int.reduceLT, Int.reduceLE, Int.reduceNeg, Int.reduceAdd, Int.reduceSub, Int.reduceMul, Nat.reducePow, Int.reduceNegSucc, str, zc]
  refine (ask_c (p := p) (js := js) (jr := jr) (h := (js, blk (.pointer (some ⟨jr, 0, none⟩) :: S) 167) :: (j2, blk (cCall zCall) 26) :: h) (by simp only [mem, seqs]) hjs.2.1 (by simp only [subs, n2, hj, hne]) (rb.sub (by (repeat' first | exact Sub.refl _ | exact Sub.nil _ | assumption | refine Sub.both ?_ ?_ | refine Sub.cons_of (by simp only [subs, n2, hj, hjs, hne]) ?_ | exact Sub.left _ _ | refine Sub.app (by simp only [subs, n2, hj, hjs, hne]) ?_ | refine Sub.cons (by simp only [subs, n2, hj, hjs, hne]) ?_))) hl (by omega) fun c q hcl hq1 hq2 => ?_).weaken (by (repeat' first | exact Sub.refl _ | exact Sub.nil _ | assumption | refine Sub.both ?_ ?_ | refine Sub.cons_of (by simp only [subs, n2, hj, hjs, hne]) ?_ | exact Sub.left _ _ | refine Sub.app (by simp only [subs, n2, hj, hjs, hne]) ?_ | refine Sub.cons (by simp only [subs, n2, hj, hjs, hne]) ?_))
  simp only [walk, lists, acts, mem, plain, seqs, maps, cells, resL, resV, intBin, ↓reduceIte, Nat.reduceAdd, Nat.reduceSub, Nat.reduceMul, Nat.reduceLeDiff, Nat.reduceEqDiff, Int.reduceToNat, Int.reduceEq, Int.reduceLT, Int.reduceLE, Int.reduceNeg, Int.reduceAdd, Int.reduceSub, Int.reduceMul, Nat.reducePow, Int.reduceNegSucc, str, zc]
  refine newB_intro fun j3 hj3 => ?_
  simp only [subs] at hj3
  have n3 : jr ≠ j3 ∧ j3 ≠ jr ∧ j2 ≠ j3 ∧ j3 ≠ j2 ∧ hget h j3 = none := ⟨Ne.symm hj3.1, hj3.1, Ne.symm hj3.2.2.1, hj3.2.2.1, hj3.2.2.2⟩
  simp only [walk, lists, acts, mem, plain, seqs, maps, cells, resL, resV, intBin, ↓reduceIte, Nat.reduceAdd, Nat.reduceSub, Nat.reduceMul, Nat.reduceLeDiff, Nat.reduceEqDiff, Int.reduceToNat, Int.reduceEq, Int.reduceLT, Int.reduceLE, Int.reduceNeg, Int.reduceAdd, Int.reduceSub, Int.reduceMul, Nat.reducePow, Int.reduceNegSucc, wCall, zc]
  have rb3 : ∀ c, rIn ((j3, blk (cCall c) 26) :: (j2, blk (cCall zCall) 26) :: h) eB 1 bv l := fun c => rb.sub (by (repeat' first | exact Sub.refl _ | exact Sub.nil _ | assumption | refine Sub.both ?_ ?_ | refine Sub.cons_of (by simp only [subs, n2, hj, n3]) ?_ | exact Sub.left _ _ | refine Sub.app (by simp only [subs, n2, hj, n3]) ?_ | refine Sub.cons (by simp only [subs, n2, hj, n3]) ?_))
  have g3 : ∀ c, hget ((j3, blk (cCall c) 26) :: (j2, blk (cCall zCall) 26) :: h) jr = none := fun c => by simp only [subs, n2, n3, hj]
  refine (pick_c (p := q) (h := (j3, blk (cCall c) 26) :: (j2, blk (cCall zCall) 26) :: h) (g3 _) (rb3 _) hl (by omega) (by omega) fun x _ _ _ => ?_).weaken (by (repeat' first | exact Sub.refl _ | exact Sub.nil _ | assumption | refine Sub.both ?_ ?_ | refine Sub.cons_of (by simp only [subs, n2, hj, n3, hjs, hne, hj3]) ?_ | exact Sub.left _ _ | refine Sub.app (by simp only [subs, n2, hj, n3, hjs, hne, hj3]) ?_ | refine Sub.cons (by simp only [subs, n2, hj, n3, hjs, hne, hj3]) ?_))
  simp only [walk, lists, acts, mem, plain, seqs, maps, cells, resL, resV, intBin, ↓reduceIte, Nat.reduceAdd, Nat.reduceSub, Nat.reduceMul, Nat.reduceLeDiff, Nat.reduceEqDiff, Int.reduceToNat, Int.reduceEq, Int.reduceLT, Int.reduceLE, Int.reduceNeg, Int.reduceAdd, Int.reduceSub, Int.reduceMul, Nat.reducePow, Int.reduceNegSucc, wCall, n3]
  refine pick_c (p := q + 1) (g3 _) (rb3 _) hl (by omega) (by omega) fun y hy0 hy1 _ => ?_
  have hy := hy1 (by omega)
  simp (disch := omega) only [walk, lists, acts, mem, plain, seqs, maps, cells, resL, resV, intBin, ↓reduceIte, Nat.reduceAdd, Nat.reduceSub, Nat.reduceMul, Nat.reduceLeDiff, Nat.reduceEqDiff, Int.reduceToNat, Int.reduceEq, Int.reduceLT, Int.reduceLE, Int.reduceNeg, Int.reduceAdd, Int.reduceSub, Int.reduceMul, Nat.reducePow, Int.reduceNegSucc, wCall, n3, wrapI]
  refine pick_c (p := q + 2) (g3 _) (rb3 _) hl (by omega) (by omega) fun z _ _ _ => ?_
  simp only [walk, lists, acts, mem, plain, seqs, maps, cells, resL, resV, intBin, ↓reduceIte, Nat.reduceAdd, Nat.reduceSub, Nat.reduceMul, Nat.reduceLeDiff, Nat.reduceEqDiff, Int.reduceToNat, Int.reduceEq, Int.reduceLT, Int.reduceLE, Int.reduceNeg, Int.reduceAdd, Int.reduceSub, Int.reduceMul, Nat.reducePow, Int.reduceNegSucc, wCall, n3]
  obtain ⟨c2, hc⟩ : ∃ c2 : DCall, c2 = { c with session := x, number := 1 + y } := ⟨_, rfl⟩
  have hc2 : c2.text.length ≤ 410 := by rw [hc]; show c.text.length ≤ 410; omega
  rw [← hc]
  refine ite_pos (fun s0 => ?_) fun s0 => ?_
  · refine newB_intro (o := blk (fl eI [0, 3]) 3) fun j6 hj6 => ?_
    have n6 := hj6
    simp only [subs] at n6
    have n6' : jr ≠ j6 ∧ j3 ≠ j6 ∧ j2 ≠ j6 := ⟨Ne.symm n6.1, Ne.symm n6.2.1, Ne.symm n6.2.2.1⟩
    simp only [walk, lists, acts, mem, plain, seqs, maps, cells, resL, resV, intBin, ↓reduceIte, Nat.reduceAdd, Nat.reduceSub, Nat.reduceMul, Nat.reduceLeDiff, Nat.reduceEqDiff, Int.reduceToNat, Int.reduceEq, Int.reduceLT, Int.reduceLE, Int.reduceNeg, Int.reduceAdd, Int.reduceSub, Int.reduceMul, Nat.reducePow, Int.reduceNegSucc]
    refine (pick_c (p := q + 3) (h := (j6, blk (fl eI [0, 3]) 3) :: (j3, blk (cCall c2) 26) :: (j2, blk (cCall zCall) 26) :: h) (by simp only [subs, n2, n3, hj, n6']) (rb.sub (by (repeat' first | exact Sub.refl _ | exact Sub.nil _ | assumption | refine Sub.both ?_ ?_ | refine Sub.cons_of (by simp only [subs, n2, n3, hj, n6, n6']) ?_ | exact Sub.left _ _ | refine Sub.app (by simp only [subs, n2, n3, hj, n6, n6']) ?_ | refine Sub.cons (by simp only [subs, n2, n3, hj, n6, n6']) ?_))) hl (by omega) (by omega) fun b hb0 hb1 _ => ?_).weaken (by (repeat' first | exact Sub.refl _ | exact Sub.nil _ | assumption | refine Sub.both ?_ ?_ | refine Sub.cons_of (by simp only [subs, n2, n3, hj, n6, n6']) ?_ | exact Sub.left _ _ | refine Sub.app (by simp only [subs, n2, n3, hj, n6, n6']) ?_ | refine Sub.cons (by simp only [subs, n2, n3, hj, n6, n6']) ?_))
    have hb := hb1 (by omega)
    have hbl : b.toNat < [0, 3].length := by simp only [List.length_cons, List.length_nil]; omega
    simp only [walk, lists, acts, mem, plain, seqs, maps, cells, resL, resV, intBin, ↓reduceIte, Nat.reduceAdd, Nat.reduceSub, Nat.reduceMul, Nat.reduceLeDiff, Nat.reduceEqDiff, Int.reduceToNat, Int.reduceEq, Int.reduceLT, Int.reduceLE, Int.reduceNeg, Int.reduceAdd, Int.reduceSub, Int.reduceMul, Nat.reducePow, Int.reduceNegSucc, n6.1, n6', wCall]
    refine ⟨⟨hb0, by omega⟩, ?_⟩
    rw [eI_at hbl]
    generalize ([0, 3] : List Int)[b.toNat] = z
    simp only [walk, lists, acts, mem, plain, seqs, maps, cells, resL, resV, intBin, ↓reduceIte, Nat.reduceAdd, Nat.reduceSub, Nat.reduceMul, Nat.reduceLeDiff, Nat.reduceEqDiff, Int.reduceToNat, Int.reduceEq, Int.reduceLT, Int.reduceLE, Int.reduceNeg, Int.reduceAdd, Int.reduceSub, Int.reduceMul, Nat.reducePow, Int.reduceNegSucc, n2.1, n2.2.1, n3, n6.1, n6.2.1, n6.2.2.1, n6', wCall]
    exact ⟨(jr, blk (rdr bv (q + 4)) 120) :: h, by (repeat' first | exact Sub.refl _ | exact Sub.nil _ | assumption | refine Sub.both ?_ ?_ | refine Sub.cons_of (by simp only [subs, n2, n3, hj, n6, n6']) ?_ | exact Sub.left _ _ | refine Sub.app (by simp only [subs, n2, n3, hj, n6, n6']) ?_ | refine Sub.cons (by simp only [subs, n2, n3, hj, n6, n6']) ?_), k { c2 with kind := z } (q + 4) hc2 (by omega) (by omega)⟩
  · refine ite_pos (fun s1 => ?_) fun s1 => ?_
    · refine newB_intro (o := blk (fl eI [-1, 3]) 3) fun j6 hj6 => ?_
      have n6 := hj6
      simp only [subs] at n6
      have n6' : jr ≠ j6 ∧ j3 ≠ j6 ∧ j2 ≠ j6 := ⟨Ne.symm n6.1, Ne.symm n6.2.1, Ne.symm n6.2.2.1⟩
      simp only [walk, lists, acts, mem, plain, seqs, maps, cells, resL, resV, intBin, ↓reduceIte, Nat.reduceAdd, Nat.reduceSub, Nat.reduceMul, Nat.reduceLeDiff, Nat.reduceEqDiff, Int.reduceToNat, Int.reduceEq, Int.reduceLT, Int.reduceLE, Int.reduceNeg, Int.reduceAdd, Int.reduceSub, Int.reduceMul, Nat.reducePow, Int.reduceNegSucc]
      refine (pick_c (p := q + 3) (h := (j6, blk (fl eI [-1, 3]) 3) :: (j3, blk (cCall c2) 26) :: (j2, blk (cCall zCall) 26) :: h) (by simp only [subs, n2, n3, hj, n6']) (rb.sub (by (repeat' first | exact Sub.refl _ | exact Sub.nil _ | assumption | refine Sub.both ?_ ?_ | refine Sub.cons_of (by simp only [subs, n2, n3, hj, n6, n6']) ?_ | exact Sub.left _ _ | refine Sub.app (by simp only [subs, n2, n3, hj, n6, n6']) ?_ | refine Sub.cons (by simp only [subs, n2, n3, hj, n6, n6']) ?_))) hl (by omega) (by omega) fun b hb0 hb1 _ => ?_).weaken (by (repeat' first | exact Sub.refl _ | exact Sub.nil _ | assumption | refine Sub.both ?_ ?_ | refine Sub.cons_of (by simp only [subs, n2, n3, hj, n6, n6']) ?_ | exact Sub.left _ _ | refine Sub.app (by simp only [subs, n2, n3, hj, n6, n6']) ?_ | refine Sub.cons (by simp only [subs, n2, n3, hj, n6, n6']) ?_))
      have hb := hb1 (by omega)
      have hbl : b.toNat < [-1, 3].length := by simp only [List.length_cons, List.length_nil]; omega
      simp only [walk, lists, acts, mem, plain, seqs, maps, cells, resL, resV, intBin, ↓reduceIte, Nat.reduceAdd, Nat.reduceSub, Nat.reduceMul, Nat.reduceLeDiff, Nat.reduceEqDiff, Int.reduceToNat, Int.reduceEq, Int.reduceLT, Int.reduceLE, Int.reduceNeg, Int.reduceAdd, Int.reduceSub, Int.reduceMul, Nat.reducePow, Int.reduceNegSucc, n6.1, n6', wCall]
      refine ⟨⟨hb0, by omega⟩, ?_⟩
      rw [eI_at hbl]
      generalize ([-1, 3] : List Int)[b.toNat] = z
      simp only [walk, lists, acts, mem, plain, seqs, maps, cells, resL, resV, intBin, ↓reduceIte, Nat.reduceAdd, Nat.reduceSub, Nat.reduceMul, Nat.reduceLeDiff, Nat.reduceEqDiff, Int.reduceToNat, Int.reduceEq, Int.reduceLT, Int.reduceLE, Int.reduceNeg, Int.reduceAdd, Int.reduceSub, Int.reduceMul, Nat.reducePow, Int.reduceNegSucc, n2.1, n2.2.1, n3, n6.1, n6.2.1, n6.2.2.1, n6', wCall]
      exact ⟨(jr, blk (rdr bv (q + 4)) 120) :: h, by (repeat' first | exact Sub.refl _ | exact Sub.nil _ | assumption | refine Sub.both ?_ ?_ | refine Sub.cons_of (by simp only [subs, n2, n3, hj, n6, n6']) ?_ | exact Sub.left _ _ | refine Sub.app (by simp only [subs, n2, n3, hj, n6, n6']) ?_ | refine Sub.cons (by simp only [subs, n2, n3, hj, n6, n6']) ?_), k { c2 with session := z } (q + 4) hc2 (by omega) (by omega)⟩
    · refine ite_pos (fun s2 => ?_) fun s2 => ?_
      · refine newB_intro (o := blk (fl eI [0, 99, 100]) 3) fun j6 hj6 => ?_
        have n6 := hj6
        simp only [subs] at n6
        have n6' : jr ≠ j6 ∧ j3 ≠ j6 ∧ j2 ≠ j6 := ⟨Ne.symm n6.1, Ne.symm n6.2.1, Ne.symm n6.2.2.1⟩
        simp only [walk, lists, acts, mem, plain, seqs, maps, cells, resL, resV, intBin, ↓reduceIte, Nat.reduceAdd, Nat.reduceSub, Nat.reduceMul, Nat.reduceLeDiff, Nat.reduceEqDiff, Int.reduceToNat, Int.reduceEq, Int.reduceLT, Int.reduceLE, Int.reduceNeg, Int.reduceAdd, Int.reduceSub, Int.reduceMul, Nat.reducePow, Int.reduceNegSucc]
        refine (pick_c (p := q + 3) (h := (j6, blk (fl eI [0, 99, 100]) 3) :: (j3, blk (cCall c2) 26) :: (j2, blk (cCall zCall) 26) :: h) (by simp only [subs, n2, n3, hj, n6']) (rb.sub (by (repeat' first | exact Sub.refl _ | exact Sub.nil _ | assumption | refine Sub.both ?_ ?_ | refine Sub.cons_of (by simp only [subs, n2, n3, hj, n6, n6']) ?_ | exact Sub.left _ _ | refine Sub.app (by simp only [subs, n2, n3, hj, n6, n6']) ?_ | refine Sub.cons (by simp only [subs, n2, n3, hj, n6, n6']) ?_))) hl (by omega) (by omega) fun b hb0 hb1 _ => ?_).weaken (by (repeat' first | exact Sub.refl _ | exact Sub.nil _ | assumption | refine Sub.both ?_ ?_ | refine Sub.cons_of (by simp only [subs, n2, n3, hj, n6, n6']) ?_ | exact Sub.left _ _ | refine Sub.app (by simp only [subs, n2, n3, hj, n6, n6']) ?_ | refine Sub.cons (by simp only [subs, n2, n3, hj, n6, n6']) ?_))
        have hb := hb1 (by omega)
        have hbl : b.toNat < [0, 99, 100].length := by simp only [List.length_cons, List.length_nil]; omega
        simp only [walk, lists, acts, mem, plain, seqs, maps, cells, resL, resV, intBin, ↓reduceIte, Nat.reduceAdd, Nat.reduceSub, Nat.reduceMul, Nat.reduceLeDiff, Nat.reduceEqDiff, Int.reduceToNat, Int.reduceEq, Int.reduceLT, Int.reduceLE, Int.reduceNeg, Int.reduceAdd, Int.reduceSub, Int.reduceMul, Nat.reducePow, Int.reduceNegSucc, n6.1, n6', wCall]
        refine ⟨⟨hb0, by omega⟩, ?_⟩
        rw [eI_at hbl]
        generalize ([0, 99, 100] : List Int)[b.toNat] = z
        simp only [walk, lists, acts, mem, plain, seqs, maps, cells, resL, resV, intBin, ↓reduceIte, Nat.reduceAdd, Nat.reduceSub, Nat.reduceMul, Nat.reduceLeDiff, Nat.reduceEqDiff, Int.reduceToNat, Int.reduceEq, Int.reduceLT, Int.reduceLE, Int.reduceNeg, Int.reduceAdd, Int.reduceSub, Int.reduceMul, Nat.reducePow, Int.reduceNegSucc, n2.1, n2.2.1, n3, n6.1, n6.2.1, n6.2.2.1, n6', wCall]
        exact ⟨(jr, blk (rdr bv (q + 4)) 120) :: h, by (repeat' first | exact Sub.refl _ | exact Sub.nil _ | assumption | refine Sub.both ?_ ?_ | refine Sub.cons_of (by simp only [subs, n2, n3, hj, n6, n6']) ?_ | exact Sub.left _ _ | refine Sub.app (by simp only [subs, n2, n3, hj, n6, n6']) ?_ | refine Sub.cons (by simp only [subs, n2, n3, hj, n6, n6']) ?_), k { c2 with number := z } (q + 4) hc2 (by omega) (by omega)⟩
      · refine ite_pos (fun s3 => ?_) fun s3 => ?_
        · refine newB_intro (o := blk (fl eI [1, 8, -1]) 3) fun j6 hj6 => ?_
          have n6 := hj6
          simp only [subs] at n6
          have n6' : jr ≠ j6 ∧ j3 ≠ j6 ∧ j2 ≠ j6 := ⟨Ne.symm n6.1, Ne.symm n6.2.1, Ne.symm n6.2.2.1⟩
          simp only [walk, lists, acts, mem, plain, seqs, maps, cells, resL, resV, intBin, ↓reduceIte, Nat.reduceAdd, Nat.reduceSub, Nat.reduceMul, Nat.reduceLeDiff, Nat.reduceEqDiff, Int.reduceToNat, Int.reduceEq, Int.reduceLT, Int.reduceLE, Int.reduceNeg, Int.reduceAdd, Int.reduceSub, Int.reduceMul, Nat.reducePow, Int.reduceNegSucc]
          refine (pick_c (p := q + 3) (h := (j6, blk (fl eI [1, 8, -1]) 3) :: (j3, blk (cCall c2) 26) :: (j2, blk (cCall zCall) 26) :: h) (by simp only [subs, n2, n3, hj, n6']) (rb.sub (by (repeat' first | exact Sub.refl _ | exact Sub.nil _ | assumption | refine Sub.both ?_ ?_ | refine Sub.cons_of (by simp only [subs, n2, n3, hj, n6, n6']) ?_ | exact Sub.left _ _ | refine Sub.app (by simp only [subs, n2, n3, hj, n6, n6']) ?_ | refine Sub.cons (by simp only [subs, n2, n3, hj, n6, n6']) ?_))) hl (by omega) (by omega) fun b hb0 hb1 _ => ?_).weaken (by (repeat' first | exact Sub.refl _ | exact Sub.nil _ | assumption | refine Sub.both ?_ ?_ | refine Sub.cons_of (by simp only [subs, n2, n3, hj, n6, n6']) ?_ | exact Sub.left _ _ | refine Sub.app (by simp only [subs, n2, n3, hj, n6, n6']) ?_ | refine Sub.cons (by simp only [subs, n2, n3, hj, n6, n6']) ?_))
          have hb := hb1 (by omega)
          have hbl : b.toNat < [1, 8, -1].length := by simp only [List.length_cons, List.length_nil]; omega
          simp only [walk, lists, acts, mem, plain, seqs, maps, cells, resL, resV, intBin, ↓reduceIte, Nat.reduceAdd, Nat.reduceSub, Nat.reduceMul, Nat.reduceLeDiff, Nat.reduceEqDiff, Int.reduceToNat, Int.reduceEq, Int.reduceLT, Int.reduceLE, Int.reduceNeg, Int.reduceAdd, Int.reduceSub, Int.reduceMul, Nat.reducePow, Int.reduceNegSucc, n6.1, n6', wCall]
          refine ⟨⟨hb0, by omega⟩, ?_⟩
          rw [eI_at hbl]
          generalize ([1, 8, -1] : List Int)[b.toNat] = z
          simp only [walk, lists, acts, mem, plain, seqs, maps, cells, resL, resV, intBin, ↓reduceIte, Nat.reduceAdd, Nat.reduceSub, Nat.reduceMul, Nat.reduceLeDiff, Nat.reduceEqDiff, Int.reduceToNat, Int.reduceEq, Int.reduceLT, Int.reduceLE, Int.reduceNeg, Int.reduceAdd, Int.reduceSub, Int.reduceMul, Nat.reducePow, Int.reduceNegSucc, n2.1, n2.2.1, n3, n6.1, n6.2.1, n6.2.2.1, n6', wCall]
          exact ⟨(jr, blk (rdr bv (q + 4)) 120) :: h, by (repeat' first | exact Sub.refl _ | exact Sub.nil _ | assumption | refine Sub.both ?_ ?_ | refine Sub.cons_of (by simp only [subs, n2, n3, hj, n6, n6']) ?_ | exact Sub.left _ _ | refine Sub.app (by simp only [subs, n2, n3, hj, n6, n6']) ?_ | refine Sub.cons (by simp only [subs, n2, n3, hj, n6, n6']) ?_), k { c2 with slot := z } (q + 4) hc2 (by omega) (by omega)⟩
        · refine ite_pos (fun s4 => ?_) fun s4 => ?_
          · have hc4 : c2.text.length ≤ 400 := by rw [hc]; exact hcl
            refine vc_draw ((j3, blk (cCall c2) 26) :: (j2, blk (cCall zCall) 26) :: h) (by (repeat' first | exact Sub.refl _ | exact Sub.nil _ | assumption | refine Sub.both ?_ ?_ | refine Sub.cons_of (by simp only [subs, n2, hj, n3]) ?_ | exact Sub.left _ _ | refine Sub.app (by simp only [subs, n2, hj, n3]) ?_ | refine Sub.cons (by simp only [subs, n2, hj, n3]) ?_)) ?_
            have sr : ∀ q, Tk.Sub ((j3, blk (cCall c2) 26) :: (j2, blk (cCall zCall) 26) :: h) ((jr, blk (rdr bv q) 120) :: (j3, blk (cCall c2) 26) :: (j2, blk (cCall zCall) 26) :: h) := fun q => by (repeat' first | exact Sub.refl _ | exact Sub.nil _ | assumption | refine Sub.both ?_ ?_ | refine Sub.cons_of (by simp only [subs, n2, hj, n3]) ?_ | exact Sub.left _ _ | refine Sub.app (by simp only [subs, n2, hj, n3]) ?_ | refine Sub.cons (by simp only [subs, n2, hj, n3]) ?_)
            simp only [walk, lists, acts, mem, plain, seqs, maps, cells, resL, resV, intBin, ↓reduceIte, Nat.reduceAdd, Nat.reduceSub, Nat.reduceMul, Nat.reduceLeDiff, Nat.reduceEqDiff, Int.reduceToNat, Int.reduceEq, Int.reduceLT, Int.reduceLE, Int.reduceNeg, Int.reduceAdd, Int.reduceSub, Int.reduceMul, Nat.reducePow, Int.reduceNegSucc, wCall]
            refine newB_intro (o := blk (fl eT [[32], [103, 101, 116, 32, 49, 59]]) 9) fun j6 hj6 => ?_
            have n6 := hj6
            simp only [subs] at n6
            have n6' : jr ≠ j6 ∧ j3 ≠ j6 ∧ j2 ≠ j6 := ⟨Ne.symm n6.1, Ne.symm n6.2.1, Ne.symm n6.2.2.1⟩
            have sr6 := eq_true (Sub.cons (o := blk (fl eT [[32], [103, 101, 116, 32, 49, 59]]) 9) hj6 (sr (q + 3)))
            simp only [walk, lists, acts, mem, plain, seqs, maps, cells, resL, resV, intBin, ↓reduceIte, Nat.reduceAdd, Nat.reduceSub, Nat.reduceMul, Nat.reduceLeDiff, Nat.reduceEqDiff, Int.reduceToNat, Int.reduceEq, Int.reduceLT, Int.reduceLE, Int.reduceNeg, Int.reduceAdd, Int.reduceSub, Int.reduceMul, Nat.reducePow, Int.reduceNegSucc, sr6]
            refine (of_c (p := q + 3) (h := (j6, blk (fl eT [[32], [103, 101, 116, 32, 49, 59]]) 9) :: (j3, blk (cCall c2) 26) :: (j2, blk (cCall zCall) 26) :: h) (by simp only [subs, n2, n3, hj, n6']) (rb.sub (by (repeat' first | exact Sub.refl _ | exact Sub.nil _ | assumption | refine Sub.both ?_ ?_ | refine Sub.cons_of (by simp only [subs, n2, n3, hj, n6, n6']) ?_ | exact Sub.left _ _ | refine Sub.app (by simp only [subs, n2, n3, hj, n6, n6']) ?_ | refine Sub.cons (by simp only [subs, n2, n3, hj, n6, n6']) ?_))) hl (by omega) (rL_lit eT_len [[32], [103, 101, 116, 32, 49, 59]]) (by decide) (by decide) fun t ht => ?_).weaken (by (repeat' first | exact Sub.refl _ | exact Sub.nil _ | assumption | refine Sub.both ?_ ?_ | refine Sub.cons_of (by simp only [subs, n2, n3, hj, n6, n6']) ?_ | exact Sub.left _ _ | refine Sub.app (by simp only [subs, n2, n3, hj, n6, n6']) ?_ | refine Sub.cons (by simp only [subs, n2, n3, hj, n6, n6']) ?_))
            have htl : t.length ≤ 6 := by
              simp only [List.mem_cons, List.not_mem_nil, or_false] at ht
              rcases ht with rfl | rfl <;> decide
            have hz : c2.text.length + t.length ≤ 9223372036854775807 := by omega
            have sr7 : Tk.Sub ((j3, blk (cCall c2) 26) :: (j2, blk (cCall zCall) 26) :: h) ((jr, blk (rdr bv (q + 4)) 120) :: (j6, blk (fl eT [[32], [103, 101, 116, 32, 49, 59]]) 9) :: (j3, blk (cCall c2) 26) :: (j2, blk (cCall zCall) 26) :: h) := by (repeat' first | exact Sub.refl _ | exact Sub.nil _ | assumption | refine Sub.both ?_ ?_ | refine Sub.cons_of (by simp only [subs, n2, n3, hj, n6, n6']) ?_ | exact Sub.left _ _ | refine Sub.app (by simp only [subs, n2, n3, hj, n6, n6']) ?_ | refine Sub.cons (by simp only [subs, n2, n3, hj, n6, n6']) ?_)
            have sr8 := eq_true sr7
            simp only [walk, lists, acts, mem, plain, seqs, maps, cells, resL, resV, intBin, ↓reduceIte, Nat.reduceAdd, Nat.reduceSub, Nat.reduceMul, Nat.reduceLeDiff, Nat.reduceEqDiff, Int.reduceToNat, Int.reduceEq, Int.reduceLT, Int.reduceLE, Int.reduceNeg, Int.reduceAdd, Int.reduceSub, Int.reduceMul, Nat.reducePow, Int.reduceNegSucc, sr8, str_add _ _ hz, wCall, n2.1, n2.2.1, n3, n6.1, n6.2.1, n6.2.2.1, n6']
            exact ⟨(jr, blk (rdr bv (q + 4)) 120) :: h, by (repeat' first | exact Sub.refl _ | exact Sub.nil _ | assumption | refine Sub.both ?_ ?_ | refine Sub.cons_of (by simp only [subs, n2, n3, hj, n6, n6']) ?_ | exact Sub.left _ _ | refine Sub.app (by simp only [subs, n2, n3, hj, n6, n6']) ?_ | refine Sub.cons (by simp only [subs, n2, n3, hj, n6, n6']) ?_), k { c2 with text := c2.text ++ t } (q + 4) (by show (c2.text ++ t).length ≤ 410; rw [List.length_append]; omega) (by omega) (by omega)⟩
          · refine ite_pos (fun s5 => ?_) fun s5 => ?_
            · refine newB_intro (o := blk (fl eI [-1, 2, 3]) 3) fun j6 hj6 => ?_
              have n6 := hj6
              simp only [subs] at n6
              have n6' : jr ≠ j6 ∧ j3 ≠ j6 ∧ j2 ≠ j6 := ⟨Ne.symm n6.1, Ne.symm n6.2.1, Ne.symm n6.2.2.1⟩
              simp only [walk, lists, acts, mem, plain, seqs, maps, cells, resL, resV, intBin, ↓reduceIte, Nat.reduceAdd, Nat.reduceSub, Nat.reduceMul, Nat.reduceLeDiff, Nat.reduceEqDiff, Int.reduceToNat, Int.reduceEq, Int.reduceLT, Int.reduceLE, Int.reduceNeg, Int.reduceAdd, Int.reduceSub, Int.reduceMul, Nat.reducePow, Int.reduceNegSucc]
              refine (pick_c (p := q + 3) (h := (j6, blk (fl eI [-1, 2, 3]) 3) :: (j3, blk (cCall c2) 26) :: (j2, blk (cCall zCall) 26) :: h) (by simp only [subs, n2, n3, hj, n6']) (rb.sub (by (repeat' first | exact Sub.refl _ | exact Sub.nil _ | assumption | refine Sub.both ?_ ?_ | refine Sub.cons_of (by simp only [subs, n2, n3, hj, n6, n6']) ?_ | exact Sub.left _ _ | refine Sub.app (by simp only [subs, n2, n3, hj, n6, n6']) ?_ | refine Sub.cons (by simp only [subs, n2, n3, hj, n6, n6']) ?_))) hl (by omega) (by omega) fun b hb0 hb1 _ => ?_).weaken (by (repeat' first | exact Sub.refl _ | exact Sub.nil _ | assumption | refine Sub.both ?_ ?_ | refine Sub.cons_of (by simp only [subs, n2, n3, hj, n6, n6']) ?_ | exact Sub.left _ _ | refine Sub.app (by simp only [subs, n2, n3, hj, n6, n6']) ?_ | refine Sub.cons (by simp only [subs, n2, n3, hj, n6, n6']) ?_))
              have hb := hb1 (by omega)
              have hbl : b.toNat < [-1, 2, 3].length := by simp only [List.length_cons, List.length_nil]; omega
              simp only [walk, lists, acts, mem, plain, seqs, maps, cells, resL, resV, intBin, ↓reduceIte, Nat.reduceAdd, Nat.reduceSub, Nat.reduceMul, Nat.reduceLeDiff, Nat.reduceEqDiff, Int.reduceToNat, Int.reduceEq, Int.reduceLT, Int.reduceLE, Int.reduceNeg, Int.reduceAdd, Int.reduceSub, Int.reduceMul, Nat.reducePow, Int.reduceNegSucc, n6.1, n6', wCall]
              refine ⟨⟨hb0, by omega⟩, ?_⟩
              rw [eI_at hbl]
              generalize ([-1, 2, 3] : List Int)[b.toNat] = z
              simp only [walk, lists, acts, mem, plain, seqs, maps, cells, resL, resV, intBin, ↓reduceIte, Nat.reduceAdd, Nat.reduceSub, Nat.reduceMul, Nat.reduceLeDiff, Nat.reduceEqDiff, Int.reduceToNat, Int.reduceEq, Int.reduceLT, Int.reduceLE, Int.reduceNeg, Int.reduceAdd, Int.reduceSub, Int.reduceMul, Nat.reducePow, Int.reduceNegSucc, n2.1, n2.2.1, n3, n6.1, n6.2.1, n6.2.2.1, n6', wCall]
              exact ⟨(jr, blk (rdr bv (q + 4)) 120) :: h, by (repeat' first | exact Sub.refl _ | exact Sub.nil _ | assumption | refine Sub.both ?_ ?_ | refine Sub.cons_of (by simp only [subs, n2, n3, hj, n6, n6']) ?_ | exact Sub.left _ _ | refine Sub.app (by simp only [subs, n2, n3, hj, n6, n6']) ?_ | refine Sub.cons (by simp only [subs, n2, n3, hj, n6, n6']) ?_), k { c2 with to := z } (q + 4) hc2 (by omega) (by omega)⟩
            · simp only [walk, lists, acts, mem, plain, seqs, maps, cells, resL, resV, intBin, ↓reduceIte, Nat.reduceAdd, Nat.reduceSub, Nat.reduceMul, Nat.reduceLeDiff, Nat.reduceEqDiff, Int.reduceToNat, Int.reduceEq, Int.reduceLT, Int.reduceLE, Int.reduceNeg, Int.reduceAdd, Int.reduceSub, Int.reduceMul, Nat.reducePow, Int.reduceNegSucc, n2.1, n2.2.1, n3, wCall]
              exact ⟨(jr, blk (rdr bv (q + 3)) 120) :: h, by (repeat' first | exact Sub.refl _ | exact Sub.nil _ | assumption | refine Sub.both ?_ ?_ | refine Sub.cons_of (by simp only [subs, n2, n3, hj]) ?_ | exact Sub.left _ _ | refine Sub.app (by simp only [subs, n2, n3, hj]) ?_ | refine Sub.cons (by simp only [subs, n2, n3, hj]) ?_), k c2 (q + 3) hc2 (by omega) (by omega)⟩

theorem many_c {h : H} {s : List UInt8} {n : Int} (hn : 0 ≤ n ∧ n ≤ 1000) (hs : s.length ≤ 1000) {R : Ending → H → Prop} (k : ∀ t : List UInt8, t.length ≤ 1000000 → R (.returned (.string ⟨t.toArray⟩)) h) : HCalls Try.prog 84 #[.string ⟨s.toArray⟩, .int .i64 n] h R := by
  refine HCalls_ir (args := [.string ⟨s.toArray⟩, .int .i64 n]) Try.func84 ir84 ?_
  simp only [walk, lists, acts, mem, plain, seqs, maps, cells, resL, resV, intBin, ↓reduceIte, Nat.reduceAdd, Nat.reduceSub, Nat.reduceMul, Nat.reduceLeDiff, Nat.reduceEqDiff, Int.reduceToNat, Int.reduceEq, Int.reduceLT, Int.reduceLE, Int.reduceNeg, Int.reduceAdd, Int.reduceSub, Int.reduceMul, Nat.reducePow, Int.reduceNegSucc, str]
  have hm : n = ((n.toNat : Nat) : Int) := by omega
  have h0 : s.length * n.toNat ≤ 1000 * n.toNat := Nat.mul_le_mul_right _ hs
  refine vc_loop [0, 1, 5] (fun m' vs h' => ∃ (m : Nat) (s' o : List UInt8), vs = [.string ⟨s'.toArray⟩, .int .i64 m, .string ⟨o.toArray⟩] ∧ h' = h ∧ o.length + s'.length * m ≤ 1000000 ∧ s'.length ≤ 4000000 ∧ m ≤ 1000 ∧ m' = m) n.toNat rfl ⟨n.toNat, s, [], by show [Value.string ⟨s.toArray⟩, Value.int IntKind.i64 n, Value.string ⟨#[]⟩] = _; rw [← hm], rfl, by simp only [List.length_nil]; omega, by omega, by omega, rfl⟩ ?_
  rintro m' f h' ⟨m, s', o, hv, rfl, hb, hs', hm1, rfl⟩
  simp only [List.map_cons, List.map_nil, List.cons.injEq, and_true] at hv
  simp only [walk, lists, acts, mem, plain, seqs, maps, cells, resL, resV, intBin, ↓reduceIte, Nat.reduceAdd, Nat.reduceSub, Nat.reduceMul, Nat.reduceLeDiff, Nat.reduceEqDiff, Int.reduceToNat, Int.reduceEq, Int.reduceLT, Int.reduceLE, Int.reduceNeg, Int.reduceAdd, Int.reduceSub, Int.reduceMul, Nat.reducePow, Int.reduceNegSucc, wr, hv.1, hv.2.1, hv.2.2]
  have e1 : ((m' : Nat) : Int).tmod 2 = ((m' % 2 : Nat) : Int) := rfl
  have e2 : ((m' : Nat) : Int).tdiv 2 = ((m' / 2 : Nat) : Int) := rfl
  refine ite_lt (fun c => ?_) fun c => ?_
  · have hpos : 1 ≤ m' := by omega
    have hmul : s'.length * 1 ≤ s'.length * m' := Nat.mul_le_mul_left _ hpos
    have z1 : o.length + s'.length ≤ 9223372036854775807 := by omega
    have z2 : s'.length + s'.length ≤ 9223372036854775807 := by omega
    have hhalf : (s' ++ s').length * (m' / 2) ≤ s'.length * m' - s'.length * (m' % 2) := by
      rw [List.length_append, ← Nat.mul_sub]
      have : (s'.length + s'.length) * (m' / 2) = s'.length * (2 * (m' / 2)) := by rw [← Nat.mul_assoc, Nat.mul_comm s'.length 2, Nat.two_mul]
      rw [this]
      exact Nat.mul_le_mul_left _ (by omega)
    have hl2 : (s' ++ s').length ≤ 4000000 := by rw [List.length_append]; omega
    rw [e1]
    refine ite_pos (fun c2 => ?_) fun c2 => ?_
    · simp (disch := omega) only [walk, lists, acts, mem, plain, seqs, maps, cells, resL, resV, intBin, ↓reduceIte, Nat.reduceAdd, Nat.reduceSub, Nat.reduceMul, Nat.reduceLeDiff, Nat.reduceEqDiff, Int.reduceToNat, Int.reduceEq, Int.reduceLT, Int.reduceLE, Int.reduceNeg, Int.reduceAdd, Int.reduceSub, Int.reduceMul, Nat.reducePow, Int.reduceNegSucc, str_add _ _ z1, str_add _ _ z2, e2, wrapI]
      have hodd : m' % 2 = 1 := by omega
      rw [hodd] at hhalf
      exact ⟨m' / 2, by omega, _, .refl _, m' / 2, s' ++ s', o ++ s', rfl, rfl, by rw [List.length_append]; omega, hl2, by omega, rfl⟩
    · simp (disch := omega) only [walk, lists, acts, mem, plain, seqs, maps, cells, resL, resV, intBin, ↓reduceIte, Nat.reduceAdd, Nat.reduceSub, Nat.reduceMul, Nat.reduceLeDiff, Nat.reduceEqDiff, Int.reduceToNat, Int.reduceEq, Int.reduceLT, Int.reduceLE, Int.reduceNeg, Int.reduceAdd, Int.reduceSub, Int.reduceMul, Nat.reducePow, Int.reduceNegSucc, str_add _ _ z2, e2, wrapI]
      exact ⟨m' / 2, by omega, _, .refl _, m' / 2, s' ++ s', o, rfl, rfl, by omega, hl2, by omega, rfl⟩
  · exact .of (k o (by omega))
end Go.Proofs.Ytllhdnfcneejaaa
end

/- What is drawn of words. -/
section
set_option linter.unusedVariables false
set_option linter.unusedSimpArgs false
set_option maxRecDepth 20000
attribute [local irreducible] Go.Tk.vc Go.Tk.vops Go.Tk.vdr Go.Tk.vop Go.Tk.vfl Go.Tk.HCalls
namespace Go.Proofs.Ytllhdnfcneejaaa
open Go Go.Tk

/-- A word's numbers, all else being empty. -/
def qWd : H → Value → Prop := fun _ v => ∃ w : DWord, v = .agg (cWord w (.slice none 0 0) (.slice none 0 0) (.slice none 0 0)).toArray ∧ w.slots = [] ∧ w.pairs = [] ∧ w.vals = [] ∧ w.call.text = []
theorem mono_qWd : mono qWd := fun _ _ _ _ h => h

theorem ecs : (∀ (w : DWord) xs a b c, cWord { w with slots := xs } a b c = cWord w a b c) ∧ (∀ (w : DWord) xs a b c, cWord { w with pairs := xs } a b c = cWord w a b c) ∧ (∀ (w : DWord) xs a b c, cWord { w with vals := xs } a b c = cWord w a b c) :=
  ⟨fun _ _ _ _ _ => rfl, fun _ _ _ _ _ => rfl, fun _ _ _ _ _ => rfl⟩

theorem drawWord_c {h : H} {jr p : Nat} {bv : Value} {l : List UInt8} (hj : hget h jr = none) (rb : rIn h eB 1 bv l) (hl : l.length ≤ 1048576) (hp : p ≤ 68719476736) {R : Ending → H → Prop}
    (k : ∀ w s pp v gs gp gv (p' : Nat), oWord 3 69 3 w s pp v gs gp gv → wLen w → w.call.text.length ≤ 1000000 → Dj gs ((jr, blk (rdr bv p') 120) :: h) → Dj gp ((jr, blk (rdr bv p') 120) :: h) → Dj gv ((jr, blk (rdr bv p') 120) :: h) → p ≤ p' → p' ≤ p + 1000 →
      R (.returned (.agg (cWord w s pp v).toArray)) (gs ++ (gp ++ (gv ++ ((jr, blk (rdr bv p') 120) :: h))))) :
    HCalls Try.prog 38 #[.pointer (some ⟨jr, 0, none⟩)] ((jr, blk (rdr bv p) 120) :: h) R := by
  refine HCalls_ir2 (args := [.pointer (some ⟨jr, 0, none⟩)]) Try.func38 jr38 ?_
  have zw := zWord_eq
  simp only [str] at zw
  obtain ⟨N, hN⟩ : ∃ N, N = Value.slice none 0 0 := ⟨_, rfl⟩
  have oneN : vone N = true := by rw [hN]; rfl
  simp only [walk, lists, acts, mem, plain, seqs, maps, cells, resL, resV, intBin, ↓reduceIte, Nat.reduceAdd, Nat.reduceSub, Nat.reduceMul, Nat.reduceLeDiff, Nat.reduceEqDiff, Int.reduceToNat, Int.reduceEq, Int.reduceLT, Int.reduceLE, Int.reduceNeg, Int.reduceAdd, Int.reduceSub, Int.reduceMul, Nat.reducePow, Int.reduceNegSucc, str, zw]
  refine newB_intro (o := blk (cWord zWord (.slice none 0 0) (.slice none 0 0) (.slice none 0 0)) 28) fun j2 hj2 => ?_
  have n2 := fresh hj2
  simp only [walk, lists, acts, mem, plain, seqs, maps, cells, resL, resV, intBin, ↓reduceIte, Nat.reduceAdd, Nat.reduceSub, Nat.reduceMul, Nat.reduceLeDiff, Nat.reduceEqDiff, Int.reduceToNat, Int.reduceEq, Int.reduceLT, Int.reduceLE, Int.reduceNeg, Int.reduceAdd, Int.reduceSub, Int.reduceMul, Nat.reducePow, Int.reduceNegSucc, str, zw]
  obtain ⟨Z, hZ⟩ : ∃ Z, Z = cWord zWord (.slice none 0 0) (.slice none 0 0) (.slice none 0 0) := ⟨_, rfl⟩
  rw [← hZ]
  obtain ⟨B, hB⟩ : ∃ B : H, B = (j2, blk Z 28) :: h := ⟨_, rfl⟩
  have rbB : rIn B eB 1 bv l := rb.sub (by rw [hB]; exact Sub.cons n2.2.2 (Sub.refl _))
  have hP : p + 29 ≤ 1099511627776 := by omega
  refine vc_anyR (memR jr bv p (p + 29)) [qV (.pointer (some ⟨jr, 0, none⟩)), qI 0 8, qI 1 9, qS 3 6, qV (.pointer (some ⟨jr, 0, none⟩)), qI 0 5, qP, qZ, qS 3 6, qV (.pointer (some ⟨jr, 0, none⟩)), qI 0 5, qP, qZ, qV (.pointer (some ⟨jr, 0, none⟩)), qI 0 5, qI 1 6, qV (.pointer (some ⟨jr, 0, none⟩)), qI 0 1, qI 1 2, qV (.pointer (some ⟨jr, 0, none⟩)), qI 0 3, qV (.pointer (some ⟨jr, 0, none⟩)), qI 0 1, qB, qV (.pointer (some ⟨jr, 0, none⟩)), qI 0 3, qWd, qN B jr 28 Z] B ?_
    ⟨p, by rw [hB]; (repeat' first | exact Sub.refl _ | exact Sub.nil _ | assumption | refine Sub.both ?_ ?_ | refine Sub.cons_of (by simp only [subs, n2, hj]) ?_ | exact Sub.left _ _ | refine Sub.app (by simp only [subs, n2, hj]) ?_ | refine Sub.cons (by simp only [subs, n2, hj]) ?_), by rw [hB]; simp only [subs, n2, hj], by simp, by omega⟩ rfl fun ρ hi ho hc => ?_
  · repeat' first | exact fun _ h => absurd h List.not_mem_nil | refine List.forall_mem_cons.2 ⟨?_, ?_⟩ | exact mono_qV _ | exact mono_qI _ _ | exact mono_qS _ _ | exact mono_qP | exact mono_qZ | exact mono_qB | exact mono_qWd | exact mono_qN _ _ _ _
  simp only [anysR, ndr, maps, lists, plain, Nat.reduceAdd]
  refine ⟨sA_mov fun f g _ _ => ho f 0 rfl, sA_pick rbB hl hP (n := 9) ⟨by decide, by decide⟩ (fun f g _ hd => ⟨(hi f 4 rfl).trans hd, hc f _⟩) fun g m h0 h1 => ⟨m, rfl, h0, by omega⟩, ?b6, ?l7, sA_mov fun f g _ _ => ho f 0 rfl, sA_pick rbB hl hP (n := 6) ⟨by decide, by decide⟩ (fun f g _ hd => ⟨(hi f 8 rfl).trans hd.1, hc f _⟩) fun g m h0 h1 => ⟨m, rfl, h0, by omega⟩, ?i10, ?d11, ?l12, sA_mov fun f g _ _ => ho f 0 rfl, sA_pick rbB hl hP (n := 6) ⟨by decide, by decide⟩ (fun f g _ hd => ⟨(hi f 13 rfl).trans hd.1, hc f _⟩) fun g m h0 h1 => ⟨m, rfl, h0, by omega⟩, ?i15, ?d16, sA_mov fun f g _ _ => ho f 0 rfl, sA_pick rbB hl hP (n := 6) ⟨by decide, by decide⟩ (fun f g _ hd => ⟨(hi f 17 rfl).trans hd.1, hc f _⟩) fun g m h0 h1 => ⟨m, rfl, h0, by omega⟩, ?b19, sA_mov fun f g _ _ => ho f 0 rfl, sA_pick rbB hl hP (n := 2) ⟨by decide, by decide⟩ (fun f g _ hd => ⟨(hi f 20 rfl).trans hd.1, hc f _⟩) fun g m h0 h1 => ⟨m, rfl, h0, by omega⟩, ?b22, sA_mov fun f g _ _ => ho f 0 rfl, sA_pick rbB hl hP (n := 4) ⟨by decide, by decide⟩ (fun f g _ hd => ⟨(hi f 23 rfl).trans hd.1, hc f _⟩) fun g m h0 h1 => ⟨m, rfl, h0, by omega⟩, sA_mov fun f g _ _ => ho f 0 rfl, sA_pick rbB hl hP (n := 2) ⟨by decide, by decide⟩ (fun f g _ hd => ⟨(hi f 25 rfl).trans hd.1, hc f _⟩) fun g m h0 h1 => ⟨m, rfl, h0, by omega⟩, ?b27, sA_mov fun f g _ _ => ho f 0 rfl, sA_pick rbB hl hP (n := 4) ⟨by decide, by decide⟩ (fun f g _ hd => ⟨(hi f 28 rfl).trans hd.1, hc f _⟩) fun g m h0 h1 => ⟨m, rfl, h0, by omega⟩, ?bw, sA_alloc, ?last⟩
  case b6 => 
    refine sA_bin fun f g _ hd => ?_
    obtain ⟨n, e, h0, h1⟩ := hd
    exact ⟨1, n, .int .i64 (IntKind.i64.wrap (1 + n)), hc f _, (hi f 5 rfl).trans e, rfl, 1 + n, by rw [wrapI _ (by omega)], by omega, by omega⟩
  case b19 => 
    refine sA_bin fun f g _ hd => ?_
    obtain ⟨n, e, h0, h1⟩ := hd
    exact ⟨1, n, .int .i64 (IntKind.i64.wrap (1 + n)), hc f _, (hi f 18 rfl).trans e, rfl, 1 + n, by rw [wrapI _ (by omega)], by omega, by omega⟩
  case b22 => 
    refine sA_bin fun f g _ hd => ?_
    obtain ⟨n, e, h0, h1⟩ := hd
    exact ⟨1, n, .int .i64 (IntKind.i64.wrap (1 + n)), hc f _, (hi f 21 rfl).trans e, rfl, 1 + n, by rw [wrapI _ (by omega)], by omega, by omega⟩
  case b27 =>
    refine sA_bin fun f g _ hd => ?_
    obtain ⟨n, e, h0, h1⟩ := hd
    exact ⟨n, 0, .bool (n == 0), (hi f 26 rfl).trans e, hc f _, rfl, _, rfl⟩
  case l7 => exact sA_ints fun f g _ _ => ⟨[0, 1, 2, 9, 100, 102], rfl, by simp only [maps, hc]; rfl⟩
  case l12 => exact sA_ints fun f g _ _ => ⟨[0, 1, 2, 9, 9, 101], rfl, by simp only [maps, hc]; rfl⟩
  case i10 => 
    refine sA_idx fun f g _ hd => ?_
    obtain ⟨⟨j, l, e, hl, hg⟩, n, e2, h0, h1⟩ := hd
    exact ⟨_, 6, j, l, n, (hi f 7 rfl).trans e, hl, hg, (hi f 9 rfl).trans e2, h0, by omega⟩
  case i15 => 
    refine sA_idx fun f g _ hd => ?_
    obtain ⟨⟨j, l, e, hl, hg⟩, n, e2, h0, h1⟩ := hd
    exact ⟨_, 6, j, l, n, (hi f 12 rfl).trans e, hl, hg, (hi f 14 rfl).trans e2, h0, by omega⟩
  case d11 => 
    refine sA_load fun f g _ hd => ?_
    obtain ⟨b, o, n, e, hr⟩ := hd
    exact ⟨b, o, _, (hi f 10 rfl).trans e, hread_1 hr, n, rfl⟩
  case d16 => 
    refine sA_load fun f g _ hd => ?_
    obtain ⟨b, o, n, e, hr⟩ := hd
    exact ⟨b, o, _, (hi f 15 rfl).trans e, hread_1 hr, n, rfl⟩
  case bw =>
    refine sA_build fun f g _ hd => ?_
    obtain ⟨⟨a0, e0, _⟩, ⟨a1, e1⟩, ⟨a2, e2⟩, ⟨a3, e3, _⟩, ⟨a4, e4, _⟩, ⟨a5, e5, _⟩, ⟨a6, e6⟩, a7, e7, _⟩ := hd
    refine ⟨cWord { zWord with kind := a0, from_ := a1, to := a2, stamp := a3, try_ := a4, what := a5, yes := a6, code := a7 } (.slice none 0 0) (.slice none 0 0) (.slice none 0 0), ?_, _, rfl, rfl, rfl, rfl, rfl⟩
    simp only [maps, (hi f 6 rfl).trans e0, (hi f 11 rfl).trans e1, (hi f 16 rfl).trans e2, (hi f 19 rfl).trans e3, (hi f 22 rfl).trans e4, (hi f 24 rfl).trans e5, (hi f 27 rfl).trans e6, (hi f 29 rfl).trans e7]
    rw [hZ]; rfl
  intro m2 f2 h2 g2 hm hs2 hd
  obtain ⟨-, -, -, -, -, -, -, -, -, -, -, -, -, -, -, -, -, -, -, -, -, -, -, -, -, -, ⟨w0, ew, w1, w2, w3, w4⟩, j3, e3, hg3, hn3, hne3⟩ := hd
  obtain ⟨q, hsub, hq0, hq1, hq2⟩ := hm
  rw [hB] at hn3
  simp only [subs] at hn3
  have n3 : jr ≠ j3 ∧ j3 ≠ jr ∧ j2 ≠ j3 ∧ j3 ≠ j2 ∧ hget h j3 = none := ⟨Ne.symm hne3, hne3, Ne.symm hn3.1, hn3.1, hn3.2⟩
  refine ⟨(jr, blk (rdr bv q) 120) :: (j3, blk Z 28) :: (j2, blk Z 28) :: h, ?_, ?_⟩
  · have A : Tk.Sub ((jr, blk (rdr bv q) 120) :: (j3, blk Z 28) :: B) h2 := (Sub.cons2 (Sub.cons_of hg3 hs2)).trans hsub
    rw [hB] at A; exact A
  have hZl : Z.length = 17 := by rw [hZ]; rfl
  have sZ : ∀ w a b c, splice Z 0 (cWord w a b c) = cWord w a b c := fun w a b c => splice_all (by rw [hZl]; rfl)
  simp only [walk, lists, acts, mem, plain, seqs, maps, cells, resL, resV, intBin, ↓reduceIte, Nat.reduceAdd, Nat.reduceSub, Nat.reduceMul, Nat.reduceLeDiff, Nat.reduceEqDiff, Int.reduceToNat, Int.reduceEq, Int.reduceLT, Int.reduceLE, Int.reduceNeg, Int.reduceAdd, Int.reduceSub, Int.reduceMul, Nat.reducePow, Int.reduceNegSucc, wr, hi f2 3 rfl, hi f2 30 rfl, ew, e3, wWord, hZl, sZ, n3, oneN]
  obtain ⟨J, hJ⟩ : ∃ J : Nat → List Value → H → Prop, J = fun C _ g => ∃ (w : DWord) (s pp v : Value) (gs gp gv : H) (q' : Nat), g = (jr, blk (rdr bv q') 120) :: (j3, blk (cWord w s pp v) 28) :: (j2, blk Z 28) :: (gs ++ (gp ++ (gv ++ h))) ∧ oWord 3 69 3 w s pp v gs gp gv ∧ wLen w ∧ w.call.text.length ≤ 1000000 ∧
    (hget gs jr = none ∧ hget gs j3 = none ∧ hget gs j2 = none ∧ Dj gs h) ∧ (hget gp jr = none ∧ hget gp j3 = none ∧ hget gp j2 = none ∧ Dj gp h) ∧ (hget gv jr = none ∧ hget gv j3 = none ∧ hget gv j2 = none ∧ Dj gv h) ∧ p ≤ q' ∧ q' ≤ p + C := ⟨_, rfl⟩
  have wl0 : wLen w0 := by rw [wLen, w1, w2, w3]; exact ⟨by decide, by decide, by decide⟩
  have nil3 : hget ([] : H) jr = none ∧ hget ([] : H) j3 = none ∧ hget ([] : H) j2 = none ∧ Dj [] h := ⟨rfl, rfl, rfl, Dj.nil h⟩
  have hj3 : ∀ c, hget ((j3, blk c 28) :: (j2, blk Z 28) :: h) jr = none := fun c => by simp only [subs, n2, n3, hj]
  have rb3 : ∀ c, rIn ((j3, blk c 28) :: (j2, blk Z 28) :: h) eB 1 bv l := fun c => rb.sub (by (repeat' first | exact Sub.refl _ | exact Sub.nil _ | assumption | refine Sub.both ?_ ?_ | refine Sub.cons_of (by simp only [subs, n2, n3, hj]) ?_ | exact Sub.left _ _ | refine Sub.app (by simp only [subs, n2, n3, hj]) ?_ | refine Sub.cons (by simp only [subs, n2, n3, hj]) ?_))
  have ow0 : oWord 3 69 3 w0 (.slice none 0 0) (.slice none 0 0) (.slice none 0 0) [] [] [] := by
    refine ⟨?_, ?_, ?_, Dj.nil _, Dj.nil _, Dj.nil _⟩
    · rw [w1]; exact ows.nil _ _
    · rw [w2]; exact ows.nil _ _
    · rw [w3]; exact ows.nil _ _
  refine vc_cutJ [] (J 120) rfl ?_ ?_
  · simp only [walk, lists, acts, mem, plain, seqs, maps, cells, resL, resV, intBin, ↓reduceIte, Nat.reduceAdd, Nat.reduceSub, Nat.reduceMul, Nat.reduceLeDiff, Nat.reduceEqDiff, Int.reduceToNat, Int.reduceEq, Int.reduceLT, Int.reduceLE, Int.reduceNeg, Int.reduceAdd, Int.reduceSub, Int.reduceMul, Nat.reducePow, Int.reduceNegSucc, wWord]
    refine pick_c (p := q) (hj3 _) (rb3 _) hl (by omega) (by omega) fun x _ _ _ => ?_
    simp only [walk, lists, acts, mem, plain, seqs, maps, cells, resL, resV, intBin, ↓reduceIte, Nat.reduceAdd, Nat.reduceSub, Nat.reduceMul, Nat.reduceLeDiff, Nat.reduceEqDiff, Int.reduceToNat, Int.reduceEq, Int.reduceLT, Int.reduceLE, Int.reduceNeg, Int.reduceAdd, Int.reduceSub, Int.reduceMul, Nat.reducePow, Int.reduceNegSucc]
    refine ite_pos (fun c0 => ?_) fun c0 => ?_
    · refine slots_c (p := q + 1) (hj3 _) (rb3 _) hl (by omega) fun v g xs p' o dj hx h1 h2 => ?_
      have ov := o.rd.one
      have vcv := vcells_one ov
      have d1 := dj
      have d2 := dj.symm
      simp only [subs] at d1 d2
      simp only [walk, lists, acts, mem, plain, seqs, maps, cells, resL, resV, intBin, ↓reduceIte, Nat.reduceAdd, Nat.reduceSub, Nat.reduceMul, Nat.reduceLeDiff, Nat.reduceEqDiff, Int.reduceToNat, Int.reduceEq, Int.reduceLT, Int.reduceLE, Int.reduceNeg, Int.reduceAdd, Int.reduceSub, Int.reduceMul, Nat.reducePow, Int.reduceNegSucc, wWord, apps, d1, n3, ov, vcv, cuts, maps]
      rw [hJ]
      exact ⟨_, by (repeat' first | exact Sub.refl _ | exact Sub.nil _ | assumption | refine Sub.both ?_ ?_ | refine Sub.cons_of (by simp only [subs, d1, d2, n2, n3, hj, ecs]) ?_ | exact Sub.left _ _ | refine Sub.app (by simp only [subs, d1, d2, n2, n3, hj, ecs]) ?_ | refine Sub.cons (by simp only [subs, d1, d2, n2, n3, hj, ecs]) ?_), { w0 with slots := xs }, v, _, _, g, [], [], p', rfl, ⟨o, ow0.p, ow0.v, (Dj.nil _).symm, (Dj.nil _).symm, Dj.nil _⟩, ⟨by show xs.length ≤ _; omega, wl0.2.1, wl0.2.2⟩, by show w0.call.text.length ≤ _; rw [w4]; simp, d1, nil3, nil3, by omega, by omega⟩
    · refine ite_pos (fun c1 => ?_) fun c1 => ?_
      · refine pairs_c (p := q + 1) (hj3 _) (rb3 _) hl (by omega) fun v g xs p' o dj hx h1 h2 => ?_
        have ov := o.rd.one
        have vcv := vcells_one ov
        have d1 := dj
        have d2 := dj.symm
        simp only [subs] at d1 d2
        simp only [walk, lists, acts, mem, plain, seqs, maps, cells, resL, resV, intBin, ↓reduceIte, Nat.reduceAdd, Nat.reduceSub, Nat.reduceMul, Nat.reduceLeDiff, Nat.reduceEqDiff, Int.reduceToNat, Int.reduceEq, Int.reduceLT, Int.reduceLE, Int.reduceNeg, Int.reduceAdd, Int.reduceSub, Int.reduceMul, Nat.reducePow, Int.reduceNegSucc, wWord, apps, d1, n3, ov, vcv, cuts, maps]
        rw [hJ]
        exact ⟨_, by (repeat' first | exact Sub.refl _ | exact Sub.nil _ | assumption | refine Sub.both ?_ ?_ | refine Sub.cons_of (by simp only [subs, d1, d2, n2, n3, hj, ecs]) ?_ | exact Sub.left _ _ | refine Sub.app (by simp only [subs, d1, d2, n2, n3, hj, ecs]) ?_ | refine Sub.cons (by simp only [subs, d1, d2, n2, n3, hj, ecs]) ?_), { w0 with pairs := xs }, _, v, _, [], g, [], p', rfl, ⟨ow0.s, o, ow0.v, Dj.nil _, Dj.nil _, (Dj.nil _).symm⟩, ⟨wl0.1, by show xs.length ≤ _; omega, wl0.2.2⟩, by show w0.call.text.length ≤ _; rw [w4]; simp, nil3, d1, nil3, by omega, by omega⟩
      · refine ite_pos (fun c2 => ?_) fun c2 => ?_
        · refine pick_c (p := q + 1) (hj3 _) (rb3 _) hl (by omega) (by omega) fun a _ _ _ => ?_
          simp only [walk, lists, acts, mem, plain, seqs, maps, cells, resL, resV, intBin, ↓reduceIte, Nat.reduceAdd, Nat.reduceSub, Nat.reduceMul, Nat.reduceLeDiff, Nat.reduceEqDiff, Int.reduceToNat, Int.reduceEq, Int.reduceLT, Int.reduceLE, Int.reduceNeg, Int.reduceAdd, Int.reduceSub, Int.reduceMul, Nat.reducePow, Int.reduceNegSucc]
          refine pick_c (p := q + 2) (hj3 _) (rb3 _) hl (by omega) (by omega) fun b hb0 hb1 _ => ?_
          have hb := hb1 (by omega)
          simp only [walk, lists, acts, mem, plain, seqs, maps, cells, resL, resV, intBin, ↓reduceIte, Nat.reduceAdd, Nat.reduceSub, Nat.reduceMul, Nat.reduceLeDiff, Nat.reduceEqDiff, Int.reduceToNat, Int.reduceEq, Int.reduceLT, Int.reduceLE, Int.reduceNeg, Int.reduceAdd, Int.reduceSub, Int.reduceMul, Nat.reducePow, Int.reduceNegSucc]
          refine raw_neg (n := b) (by simp only [walk, lists, acts, mem, plain, seqs, maps, cells, resL, resV, intBin, ↓reduceIte, Nat.reduceAdd, Nat.reduceSub, Nat.reduceMul, Nat.reduceLeDiff, Nat.reduceEqDiff, Int.reduceToNat, Int.reduceEq, Int.reduceLT, Int.reduceLE, Int.reduceNeg, Int.reduceAdd, Int.reduceSub, Int.reduceMul, Nat.reducePow, Int.reduceNegSucc]) ?_
          have e : IntKind.i64.wrap (0 - b) = -b := by rw [wrapI _ (by omega)]; omega
          simp only [walk, lists, acts, mem, plain, seqs, maps, cells, resL, resV, intBin, ↓reduceIte, Nat.reduceAdd, Nat.reduceSub, Nat.reduceMul, Nat.reduceLeDiff, Nat.reduceEqDiff, Int.reduceToNat, Int.reduceEq, Int.reduceLT, Int.reduceLE, Int.reduceNeg, Int.reduceAdd, Int.reduceSub, Int.reduceMul, Nat.reducePow, Int.reduceNegSucc, e]
          refine newB_intro (o := blk (fl eI [a, -b]) 3) fun j6 hj6 => ?_
          have n6 := hj6
          simp only [subs] at n6
          have m6 : jr ≠ j6 ∧ j3 ≠ j6 ∧ j2 ≠ j6 := ⟨Ne.symm n6.1, Ne.symm n6.2.1, Ne.symm n6.2.2.1⟩
          have o6 : oLs 3 eI 1 (.slice (some ⟨j6, 0, none⟩) 2 2) [a, -b] [(j6, blk (fl eI [a, -b]) 3)] := oLs_new eI_len
          simp only [walk, lists, acts, mem, plain, seqs, maps, cells, resL, resV, intBin, ↓reduceIte, Nat.reduceAdd, Nat.reduceSub, Nat.reduceMul, Nat.reduceLeDiff, Nat.reduceEqDiff, Int.reduceToNat, Int.reduceEq, Int.reduceLT, Int.reduceLE, Int.reduceNeg, Int.reduceAdd, Int.reduceSub, Int.reduceMul, Nat.reducePow, Int.reduceNegSucc, wWord, n3, n6.1, n6.2.1, n6.2.2.1, m6, cuts, maps]
          rw [hJ]
          exact ⟨_, by (repeat' first | exact Sub.refl _ | exact Sub.nil _ | assumption | refine Sub.both ?_ ?_ | refine Sub.cons_of (by simp only [subs, n2, n3, hj, n6, m6, ecs]) ?_ | exact Sub.left _ _ | refine Sub.app (by simp only [subs, n2, n3, hj, n6, m6, ecs]) ?_ | refine Sub.cons (by simp only [subs, n2, n3, hj, n6, m6, ecs]) ?_), { w0 with vals := [a, -b] }, _, _, _, [], [], [(j6, blk (fl eI [a, -b]) 3)], q + 3, rfl, ⟨ow0.s, ow0.p, o6, Dj.nil _, Dj.nil _, Dj.nil _⟩, ⟨wl0.1, wl0.2.1, by show 2 ≤ _; omega⟩, by show w0.call.text.length ≤ _; rw [w4]; simp, nil3, nil3, by simp only [subs, m6, n6, hget_nil], by omega, by omega⟩
        · simp only [walk, lists, acts, mem, plain, seqs, maps, cells, resL, resV, intBin, ↓reduceIte, Nat.reduceAdd, Nat.reduceSub, Nat.reduceMul, Nat.reduceLeDiff, Nat.reduceEqDiff, Int.reduceToNat, Int.reduceEq, Int.reduceLT, Int.reduceLE, Int.reduceNeg, Int.reduceAdd, Int.reduceSub, Int.reduceMul, Nat.reducePow, Int.reduceNegSucc, cuts, maps]
          rw [hJ]
          exact ⟨_, Tk.Sub.refl _, w0, _, _, _, [], [], [], q + 1, rfl, ow0, wl0, by rw [w4]; simp, nil3, nil3, nil3, by omega, by omega⟩
  rw [hJ]
  rintro f3 g3 ⟨w, s, pp, v, gs, gp, gv, q3, rfl, ow, hw, ht, ds, dp, dv, hq3, hq4⟩
  simp only [walk, lists, acts, mem, plain, seqs, maps, cells, resL, resV, intBin, ↓reduceIte, Nat.reduceAdd, Nat.reduceSub, Nat.reduceMul, Nat.reduceLeDiff, Nat.reduceEqDiff, Int.reduceToNat, Int.reduceEq, Int.reduceLT, Int.reduceLE, Int.reduceNeg, Int.reduceAdd, Int.reduceSub, Int.reduceMul, Nat.reducePow, Int.reduceNegSucc, wr, cuts]
  have os := ow.s.rd.one
  have op := ow.p.rd.one
  have ov := ow.v.rd.one
  have sp2 := ow.sp.symm
  have sv2 := ow.sv.symm
  have pv2 := ow.pv.symm
  have ds2 := ds.2.2.2.symm
  have dp2 := dp.2.2.2.symm
  have dv2 := dv.2.2.2.symm
  have hG : ∀ c, hget ((j3, blk c 28) :: (j2, blk Z 28) :: (gs ++ (gp ++ (gv ++ h)))) jr = none := fun c => by simp only [subs, n2, n3, hj, ds, dp, dv]
  have rbG : ∀ c, rIn ((j3, blk c 28) :: (j2, blk Z 28) :: (gs ++ (gp ++ (gv ++ h)))) eB 1 bv l := fun c => rb.sub (by (repeat' first | exact Sub.refl _ | exact Sub.nil _ | assumption | refine Sub.both ?_ ?_ | refine Sub.cons_of (by simp only [subs, n2, n3, hj, ds, dp, dv, ds2, dp2, dv2, ow.sp, ow.sv, ow.pv, sp2, sv2, pv2]) ?_ | exact Sub.left _ _ | refine Sub.app (by simp only [subs, n2, n3, hj, ds, dp, dv, ds2, dp2, dv2, ow.sp, ow.sv, ow.pv, sp2, sv2, pv2]) ?_ | refine Sub.cons (by simp only [subs, n2, n3, hj, ds, dp, dv, ds2, dp2, dv2, ow.sp, ow.sv, ow.pv, sp2, sv2, pv2]) ?_))
  refine vc_cutJ [] (J 460) rfl ?_ ?_
  · simp only [walk, lists, acts, mem, plain, seqs, maps, cells, resL, resV, intBin, ↓reduceIte, Nat.reduceAdd, Nat.reduceSub, Nat.reduceMul, Nat.reduceLeDiff, Nat.reduceEqDiff, Int.reduceToNat, Int.reduceEq, Int.reduceLT, Int.reduceLE, Int.reduceNeg, Int.reduceAdd, Int.reduceSub, Int.reduceMul, Nat.reducePow, Int.reduceNegSucc]
    refine pick_c (p := q3) (hG _) (rbG _) hl (by omega) (by omega) fun x _ _ _ => ?_
    simp only [walk, lists, acts, mem, plain, seqs, maps, cells, resL, resV, intBin, ↓reduceIte, Nat.reduceAdd, Nat.reduceSub, Nat.reduceMul, Nat.reduceLeDiff, Nat.reduceEqDiff, Int.reduceToNat, Int.reduceEq, Int.reduceLT, Int.reduceLE, Int.reduceNeg, Int.reduceAdd, Int.reduceSub, Int.reduceMul, Nat.reducePow, Int.reduceNegSucc]
    refine ite_pos (fun c0 => ?_) fun c0 => ?_
    · refine call_c (p := q3 + 1) (hG _) (rbG _) hl (by omega) fun c q5 hc h1 h2 => ?_
      simp only [walk, lists, acts, mem, plain, seqs, maps, cells, resL, resV, intBin, ↓reduceIte, Nat.reduceAdd, Nat.reduceSub, Nat.reduceMul, Nat.reduceLeDiff, Nat.reduceEqDiff, Int.reduceToNat, Int.reduceEq, Int.reduceLT, Int.reduceLE, Int.reduceNeg, Int.reduceAdd, Int.reduceSub, Int.reduceMul, Nat.reducePow, Int.reduceNegSucc, wWord, wCall, n3, os, op, ov, cuts, maps]
      rw [hJ]
      exact ⟨_, Tk.Sub.refl _, { w with call := c }, s, pp, v, gs, gp, gv, q5, rfl, ⟨ow.s, ow.p, ow.v, ow.sp, ow.sv, ow.pv⟩, hw, by show c.text.length ≤ _; omega, ds, dp, dv, by omega, by omega⟩
    · simp only [walk, lists, acts, mem, plain, seqs, maps, cells, resL, resV, intBin, ↓reduceIte, Nat.reduceAdd, Nat.reduceSub, Nat.reduceMul, Nat.reduceLeDiff, Nat.reduceEqDiff, Int.reduceToNat, Int.reduceEq, Int.reduceLT, Int.reduceLE, Int.reduceNeg, Int.reduceAdd, Int.reduceSub, Int.reduceMul, Nat.reducePow, Int.reduceNegSucc, cuts, maps]
      rw [hJ]
      exact ⟨_, Tk.Sub.refl _, w, s, pp, v, gs, gp, gv, q3 + 1, rfl, ow, hw, ht, ds, dp, dv, by omega, by omega⟩
  clear hG rbG os op ov sp2 sv2 pv2 ds2 dp2 dv2 ow hw ht ds dp dv hq3 hq4 w s pp v gs gp gv q3
  rw [hJ]
  rintro f4 g4 ⟨w, s, pp, v, gs, gp, gv, q5, rfl, ow, hw, ht, ds, dp, dv, hq3, hq4⟩
  have os := ow.s.rd.one
  have op := ow.p.rd.one
  have ov := ow.v.rd.one
  have sp2 := ow.sp.symm
  have sv2 := ow.sv.symm
  have pv2 := ow.pv.symm
  have ds2 := ds.2.2.2.symm
  have dp2 := dp.2.2.2.symm
  have dv2 := dv.2.2.2.symm
  have hG : ∀ c, hget ((j3, blk c 28) :: (j2, blk Z 28) :: (gs ++ (gp ++ (gv ++ h)))) jr = none := fun c => by simp only [subs, n2, n3, hj, ds, dp, dv]
  have rbG : ∀ c, rIn ((j3, blk c 28) :: (j2, blk Z 28) :: (gs ++ (gp ++ (gv ++ h)))) eB 1 bv l := fun c => rb.sub (by (repeat' first | exact Sub.refl _ | exact Sub.nil _ | assumption | refine Sub.both ?_ ?_ | refine Sub.cons_of (by simp only [subs, n2, n3, hj, ds, dp, dv, ds2, dp2, dv2, ow.sp, ow.sv, ow.pv, sp2, sv2, pv2]) ?_ | exact Sub.left _ _ | refine Sub.app (by simp only [subs, n2, n3, hj, ds, dp, dv, ds2, dp2, dv2, ow.sp, ow.sv, ow.pv, sp2, sv2, pv2]) ?_ | refine Sub.cons (by simp only [subs, n2, n3, hj, ds, dp, dv, ds2, dp2, dv2, ow.sp, ow.sv, ow.pv, sp2, sv2, pv2]) ?_))
  simp only [walk, lists, acts, mem, plain, seqs, maps, cells, resL, resV, intBin, ↓reduceIte, Nat.reduceAdd, Nat.reduceSub, Nat.reduceMul, Nat.reduceLeDiff, Nat.reduceEqDiff, Int.reduceToNat, Int.reduceEq, Int.reduceLT, Int.reduceLE, Int.reduceNeg, Int.reduceAdd, Int.reduceSub, Int.reduceMul, Nat.reducePow, Int.reduceNegSucc, wr, cuts]
  refine vc_cutJ [] (J 470) rfl ?_ ?_
  · simp only [walk, lists, acts, mem, plain, seqs, maps, cells, resL, resV, intBin, ↓reduceIte, Nat.reduceAdd, Nat.reduceSub, Nat.reduceMul, Nat.reduceLeDiff, Nat.reduceEqDiff, Int.reduceToNat, Int.reduceEq, Int.reduceLT, Int.reduceLE, Int.reduceNeg, Int.reduceAdd, Int.reduceSub, Int.reduceMul, Nat.reducePow, Int.reduceNegSucc]
    refine pick_c (p := q5) (hG _) (rbG _) hl (by omega) (by omega) fun x _ _ _ => ?_
    simp only [walk, lists, acts, mem, plain, seqs, maps, cells, resL, resV, intBin, ↓reduceIte, Nat.reduceAdd, Nat.reduceSub, Nat.reduceMul, Nat.reduceLeDiff, Nat.reduceEqDiff, Int.reduceToNat, Int.reduceEq, Int.reduceLT, Int.reduceLE, Int.reduceNeg, Int.reduceAdd, Int.reduceSub, Int.reduceMul, Nat.reducePow, Int.reduceNegSucc]
    refine ite_pos (fun c0 => ?_) fun c0 => ?_
    · refine newB_intro (o := blk (fl eI [0, 10]) 3) fun j6 hj6 => ?_
      have n6 := hj6
      simp only [subs] at n6
      have m6 : jr ≠ j6 ∧ j3 ≠ j6 ∧ j2 ≠ j6 := ⟨Ne.symm n6.1, Ne.symm n6.2.1, Ne.symm n6.2.2.1⟩
      simp only [walk, lists, acts, mem, plain, seqs, maps, cells, resL, resV, intBin, ↓reduceIte, Nat.reduceAdd, Nat.reduceSub, Nat.reduceMul, Nat.reduceLeDiff, Nat.reduceEqDiff, Int.reduceToNat, Int.reduceEq, Int.reduceLT, Int.reduceLE, Int.reduceNeg, Int.reduceAdd, Int.reduceSub, Int.reduceMul, Nat.reducePow, Int.reduceNegSucc]
      refine (pick_c (p := q5 + 1) (h := (j6, blk (fl eI [0, 10]) 3) :: (j3, blk (cWord w s pp v) 28) :: (j2, blk Z 28) :: (gs ++ (gp ++ (gv ++ h)))) (by simp only [subs, n2, n3, hj, m6, ds, dp, dv]) ((rbG (cWord w s pp v)).sub (Sub.cons (by simp only [subs, n6]) (Sub.refl _))) hl (by omega) (by omega) fun b hb0 hb1 _ => ?_).weaken (by (repeat' first | exact Sub.refl _ | exact Sub.nil _ | assumption | refine Sub.both ?_ ?_ | refine Sub.cons_of (by simp only [subs, n2, n3, hj, n6, m6, ds, dp, dv, ds2, dp2, dv2, ow.sp, ow.sv, ow.pv, sp2, sv2, pv2]) ?_ | exact Sub.left _ _ | refine Sub.app (by simp only [subs, n2, n3, hj, n6, m6, ds, dp, dv, ds2, dp2, dv2, ow.sp, ow.sv, ow.pv, sp2, sv2, pv2]) ?_ | refine Sub.cons (by simp only [subs, n2, n3, hj, n6, m6, ds, dp, dv, ds2, dp2, dv2, ow.sp, ow.sv, ow.pv, sp2, sv2, pv2]) ?_))
      have hb := hb1 (by omega)
      have hbl : b.toNat < [0, 10].length := by simp only [List.length_cons, List.length_nil]; omega
      simp only [walk, lists, acts, mem, plain, seqs, maps, cells, resL, resV, intBin, ↓reduceIte, Nat.reduceAdd, Nat.reduceSub, Nat.reduceMul, Nat.reduceLeDiff, Nat.reduceEqDiff, Int.reduceToNat, Int.reduceEq, Int.reduceLT, Int.reduceLE, Int.reduceNeg, Int.reduceAdd, Int.reduceSub, Int.reduceMul, Nat.reducePow, Int.reduceNegSucc, n6.1, m6]
      refine ⟨⟨hb0, by omega⟩, ?_⟩
      rw [eI_at hbl]
      generalize ([0, 10] : List Int)[b.toNat] = z
      simp only [walk, lists, acts, mem, plain, seqs, maps, cells, resL, resV, intBin, ↓reduceIte, Nat.reduceAdd, Nat.reduceSub, Nat.reduceMul, Nat.reduceLeDiff, Nat.reduceEqDiff, Int.reduceToNat, Int.reduceEq, Int.reduceLT, Int.reduceLE, Int.reduceNeg, Int.reduceAdd, Int.reduceSub, Int.reduceMul, Nat.reducePow, Int.reduceNegSucc, wWord, n3, n6.1, n6.2.1, n6.2.2.1, m6, os, op, ov, cuts, maps]
      rw [hJ]
      exact ⟨_, by (repeat' first | exact Sub.refl _ | exact Sub.nil _ | assumption | refine Sub.both ?_ ?_ | refine Sub.cons_of (by simp only [subs, n2, n3, hj, n6, m6, ds, dp, dv, ds2, dp2, dv2, ow.sp, ow.sv, ow.pv, sp2, sv2, pv2]) ?_ | exact Sub.left _ _ | refine Sub.app (by simp only [subs, n2, n3, hj, n6, m6, ds, dp, dv, ds2, dp2, dv2, ow.sp, ow.sv, ow.pv, sp2, sv2, pv2]) ?_ | refine Sub.cons (by simp only [subs, n2, n3, hj, n6, m6, ds, dp, dv, ds2, dp2, dv2, ow.sp, ow.sv, ow.pv, sp2, sv2, pv2]) ?_), { w with kind := z }, s, pp, v, gs, gp, gv, q5 + 2, rfl, ⟨ow.s, ow.p, ow.v, ow.sp, ow.sv, ow.pv⟩, hw, ht, ds, dp, dv, by omega, by omega⟩
    · refine ite_pos (fun c1 => ?_) fun c1 => ?_
      · refine newB_intro (o := blk (fl eI [-1, 3, 8, 99, 103]) 3) fun j6 hj6 => ?_
        have n6 := hj6
        simp only [subs] at n6
        have m6 : jr ≠ j6 ∧ j3 ≠ j6 ∧ j2 ≠ j6 := ⟨Ne.symm n6.1, Ne.symm n6.2.1, Ne.symm n6.2.2.1⟩
        simp only [walk, lists, acts, mem, plain, seqs, maps, cells, resL, resV, intBin, ↓reduceIte, Nat.reduceAdd, Nat.reduceSub, Nat.reduceMul, Nat.reduceLeDiff, Nat.reduceEqDiff, Int.reduceToNat, Int.reduceEq, Int.reduceLT, Int.reduceLE, Int.reduceNeg, Int.reduceAdd, Int.reduceSub, Int.reduceMul, Nat.reducePow, Int.reduceNegSucc]
        refine (pick_c (p := q5 + 1) (h := (j6, blk (fl eI [-1, 3, 8, 99, 103]) 3) :: (j3, blk (cWord w s pp v) 28) :: (j2, blk Z 28) :: (gs ++ (gp ++ (gv ++ h)))) (by simp only [subs, n2, n3, hj, m6, ds, dp, dv]) ((rbG (cWord w s pp v)).sub (Sub.cons (by simp only [subs, n6]) (Sub.refl _))) hl (by omega) (by omega) fun b hb0 hb1 _ => ?_).weaken (by (repeat' first | exact Sub.refl _ | exact Sub.nil _ | assumption | refine Sub.both ?_ ?_ | refine Sub.cons_of (by simp only [subs, n2, n3, hj, n6, m6, ds, dp, dv, ds2, dp2, dv2, ow.sp, ow.sv, ow.pv, sp2, sv2, pv2]) ?_ | exact Sub.left _ _ | refine Sub.app (by simp only [subs, n2, n3, hj, n6, m6, ds, dp, dv, ds2, dp2, dv2, ow.sp, ow.sv, ow.pv, sp2, sv2, pv2]) ?_ | refine Sub.cons (by simp only [subs, n2, n3, hj, n6, m6, ds, dp, dv, ds2, dp2, dv2, ow.sp, ow.sv, ow.pv, sp2, sv2, pv2]) ?_))
        have hb := hb1 (by omega)
        have hbl : b.toNat < [-1, 3, 8, 99, 103].length := by simp only [List.length_cons, List.length_nil]; omega
        simp only [walk, lists, acts, mem, plain, seqs, maps, cells, resL, resV, intBin, ↓reduceIte, Nat.reduceAdd, Nat.reduceSub, Nat.reduceMul, Nat.reduceLeDiff, Nat.reduceEqDiff, Int.reduceToNat, Int.reduceEq, Int.reduceLT, Int.reduceLE, Int.reduceNeg, Int.reduceAdd, Int.reduceSub, Int.reduceMul, Nat.reducePow, Int.reduceNegSucc, n6.1, m6]
        refine ⟨⟨hb0, by omega⟩, ?_⟩
        rw [eI_at hbl]
        generalize ([-1, 3, 8, 99, 103] : List Int)[b.toNat] = z
        simp only [walk, lists, acts, mem, plain, seqs, maps, cells, resL, resV, intBin, ↓reduceIte, Nat.reduceAdd, Nat.reduceSub, Nat.reduceMul, Nat.reduceLeDiff, Nat.reduceEqDiff, Int.reduceToNat, Int.reduceEq, Int.reduceLT, Int.reduceLE, Int.reduceNeg, Int.reduceAdd, Int.reduceSub, Int.reduceMul, Nat.reducePow, Int.reduceNegSucc, wWord, n3, n6.1, n6.2.1, n6.2.2.1, m6, os, op, ov, cuts, maps]
        rw [hJ]
        exact ⟨_, by (repeat' first | exact Sub.refl _ | exact Sub.nil _ | assumption | refine Sub.both ?_ ?_ | refine Sub.cons_of (by simp only [subs, n2, n3, hj, n6, m6, ds, dp, dv, ds2, dp2, dv2, ow.sp, ow.sv, ow.pv, sp2, sv2, pv2]) ?_ | exact Sub.left _ _ | refine Sub.app (by simp only [subs, n2, n3, hj, n6, m6, ds, dp, dv, ds2, dp2, dv2, ow.sp, ow.sv, ow.pv, sp2, sv2, pv2]) ?_ | refine Sub.cons (by simp only [subs, n2, n3, hj, n6, m6, ds, dp, dv, ds2, dp2, dv2, ow.sp, ow.sv, ow.pv, sp2, sv2, pv2]) ?_), { w with from_ := z }, s, pp, v, gs, gp, gv, q5 + 2, rfl, ⟨ow.s, ow.p, ow.v, ow.sp, ow.sv, ow.pv⟩, hw, ht, ds, dp, dv, by omega, by omega⟩
      · refine ite_pos (fun c2 => ?_) fun c2 => ?_
        · refine newB_intro (o := blk (fl eI [-1, 9999, 10000]) 3) fun j6 hj6 => ?_
          have n6 := hj6
          simp only [subs] at n6
          have m6 : jr ≠ j6 ∧ j3 ≠ j6 ∧ j2 ≠ j6 := ⟨Ne.symm n6.1, Ne.symm n6.2.1, Ne.symm n6.2.2.1⟩
          simp only [walk, lists, acts, mem, plain, seqs, maps, cells, resL, resV, intBin, ↓reduceIte, Nat.reduceAdd, Nat.reduceSub, Nat.reduceMul, Nat.reduceLeDiff, Nat.reduceEqDiff, Int.reduceToNat, Int.reduceEq, Int.reduceLT, Int.reduceLE, Int.reduceNeg, Int.reduceAdd, Int.reduceSub, Int.reduceMul, Nat.reducePow, Int.reduceNegSucc]
          refine (pick_c (p := q5 + 1) (h := (j6, blk (fl eI [-1, 9999, 10000]) 3) :: (j3, blk (cWord w s pp v) 28) :: (j2, blk Z 28) :: (gs ++ (gp ++ (gv ++ h)))) (by simp only [subs, n2, n3, hj, m6, ds, dp, dv]) ((rbG (cWord w s pp v)).sub (Sub.cons (by simp only [subs, n6]) (Sub.refl _))) hl (by omega) (by omega) fun b hb0 hb1 _ => ?_).weaken (by (repeat' first | exact Sub.refl _ | exact Sub.nil _ | assumption | refine Sub.both ?_ ?_ | refine Sub.cons_of (by simp only [subs, n2, n3, hj, n6, m6, ds, dp, dv, ds2, dp2, dv2, ow.sp, ow.sv, ow.pv, sp2, sv2, pv2]) ?_ | exact Sub.left _ _ | refine Sub.app (by simp only [subs, n2, n3, hj, n6, m6, ds, dp, dv, ds2, dp2, dv2, ow.sp, ow.sv, ow.pv, sp2, sv2, pv2]) ?_ | refine Sub.cons (by simp only [subs, n2, n3, hj, n6, m6, ds, dp, dv, ds2, dp2, dv2, ow.sp, ow.sv, ow.pv, sp2, sv2, pv2]) ?_))
          have hb := hb1 (by omega)
          have hbl : b.toNat < [-1, 9999, 10000].length := by simp only [List.length_cons, List.length_nil]; omega
          simp only [walk, lists, acts, mem, plain, seqs, maps, cells, resL, resV, intBin, ↓reduceIte, Nat.reduceAdd, Nat.reduceSub, Nat.reduceMul, Nat.reduceLeDiff, Nat.reduceEqDiff, Int.reduceToNat, Int.reduceEq, Int.reduceLT, Int.reduceLE, Int.reduceNeg, Int.reduceAdd, Int.reduceSub, Int.reduceMul, Nat.reducePow, Int.reduceNegSucc, n6.1, m6]
          refine ⟨⟨hb0, by omega⟩, ?_⟩
          rw [eI_at hbl]
          generalize ([-1, 9999, 10000] : List Int)[b.toNat] = z
          simp only [walk, lists, acts, mem, plain, seqs, maps, cells, resL, resV, intBin, ↓reduceIte, Nat.reduceAdd, Nat.reduceSub, Nat.reduceMul, Nat.reduceLeDiff, Nat.reduceEqDiff, Int.reduceToNat, Int.reduceEq, Int.reduceLT, Int.reduceLE, Int.reduceNeg, Int.reduceAdd, Int.reduceSub, Int.reduceMul, Nat.reducePow, Int.reduceNegSucc, wWord, n3, n6.1, n6.2.1, n6.2.2.1, m6, os, op, ov, cuts, maps]
          rw [hJ]
          exact ⟨_, by (repeat' first | exact Sub.refl _ | exact Sub.nil _ | assumption | refine Sub.both ?_ ?_ | refine Sub.cons_of (by simp only [subs, n2, n3, hj, n6, m6, ds, dp, dv, ds2, dp2, dv2, ow.sp, ow.sv, ow.pv, sp2, sv2, pv2]) ?_ | exact Sub.left _ _ | refine Sub.app (by simp only [subs, n2, n3, hj, n6, m6, ds, dp, dv, ds2, dp2, dv2, ow.sp, ow.sv, ow.pv, sp2, sv2, pv2]) ?_ | refine Sub.cons (by simp only [subs, n2, n3, hj, n6, m6, ds, dp, dv, ds2, dp2, dv2, ow.sp, ow.sv, ow.pv, sp2, sv2, pv2]) ?_), { w with stamp := z }, s, pp, v, gs, gp, gv, q5 + 2, rfl, ⟨ow.s, ow.p, ow.v, ow.sp, ow.sv, ow.pv⟩, hw, ht, ds, dp, dv, by omega, by omega⟩
        · refine ite_pos (fun c3 => ?_) fun c3 => ?_
          · refine pick_c (p := q5 + 1) (hG _) (rbG _) hl (by omega) (by omega) fun b hb0 hb1 _ => ?_
            have hb := hb1 (by omega)
            obtain ⟨u, hu⟩ : ∃ u : Nat, (6 : Int) + b = (u : Int) := ⟨(6 + b).toNat, by omega⟩
            simp (disch := omega) only [walk, lists, acts, mem, plain, seqs, maps, cells, resL, resV, intBin, ↓reduceIte, Nat.reduceAdd, Nat.reduceSub, Nat.reduceMul, Nat.reduceLeDiff, Nat.reduceEqDiff, Int.reduceToNat, Int.reduceEq, Int.reduceLT, Int.reduceLE, Int.reduceNeg, Int.reduceAdd, Int.reduceSub, Int.reduceMul, Nat.reducePow, Int.reduceNegSucc, wrapI, hu]
            refine ⟨⟨by omega, by omega, by omega, by omega⟩, ?_⟩
            rw [zI]
            refine newB_intro (o := blk (fl eI (List.replicate u 0)) 3) fun j6 hj6 => ?_
            have n6 := hj6
            simp only [subs] at n6
            have m6 : jr ≠ j6 ∧ j3 ≠ j6 ∧ j2 ≠ j6 := ⟨Ne.symm n6.1, Ne.symm n6.2.1, Ne.symm n6.2.2.1⟩
            have hr : (List.replicate u (0 : Int)).length = u := by simp
            have o6 : oLs 3 eI 1 (.slice (some ⟨j6, 0, none⟩) u u) (List.replicate u 0) [(j6, blk (fl eI (List.replicate u 0)) 3)] := by
              have := oLs_new (e := 3) eI_len (j := j6) (l := List.replicate u (0 : Int))
              rw [hr] at this; exact this
            simp only [walk, lists, acts, mem, plain, seqs, maps, cells, resL, resV, intBin, ↓reduceIte, Nat.reduceAdd, Nat.reduceSub, Nat.reduceMul, Nat.reduceLeDiff, Nat.reduceEqDiff, Int.reduceToNat, Int.reduceEq, Int.reduceLT, Int.reduceLE, Int.reduceNeg, Int.reduceAdd, Int.reduceSub, Int.reduceMul, Nat.reducePow, Int.reduceNegSucc, wWord, n3, n6.1, n6.2.1, n6.2.2.1, m6, os, op, cuts, maps]
            rw [hJ]
            exact ⟨_, by (repeat' first | exact Sub.refl _ | exact Sub.nil _ | assumption | refine Sub.both ?_ ?_ | refine Sub.cons_of (by simp only [subs, n2, n3, hj, n6, m6, ecs, ds, dp, dv, ds2, dp2, dv2, ow.sp, ow.sv, ow.pv, sp2, sv2, pv2]) ?_ | exact Sub.left _ _ | refine Sub.app (by simp only [subs, n2, n3, hj, n6, m6, ecs, ds, dp, dv, ds2, dp2, dv2, ow.sp, ow.sv, ow.pv, sp2, sv2, pv2]) ?_ | refine Sub.cons (by simp only [subs, n2, n3, hj, n6, m6, ecs, ds, dp, dv, ds2, dp2, dv2, ow.sp, ow.sv, ow.pv, sp2, sv2, pv2]) ?_), { w with vals := List.replicate u 0 }, s, pp, _, gs, gp, [(j6, blk (fl eI (List.replicate u 0)) 3)], q5 + 2, rfl, ⟨ow.s, ow.p, o6, ow.sp, by simp only [subs, n6], by simp only [subs, n6]⟩, ⟨hw.1, hw.2.1, by show (List.replicate u (0 : Int)).length ≤ _; rw [hr]; omega⟩, ht, ds, dp, by simp only [subs, m6, n6, hget_nil], by omega, by omega⟩
          · refine ite_pos (fun c4 => ?_) fun c4 => ?_
            · refine pick_c (p := q5 + 1) (hG _) (rbG _) hl (by omega) (by omega) fun b hb0 hb1 _ => ?_
              have hb := hb1 (by omega)
              simp (disch := omega) only [walk, lists, acts, mem, plain, seqs, maps, cells, resL, resV, intBin, ↓reduceIte, Nat.reduceAdd, Nat.reduceSub, Nat.reduceMul, Nat.reduceLeDiff, Nat.reduceEqDiff, Int.reduceToNat, Int.reduceEq, Int.reduceLT, Int.reduceLE, Int.reduceNeg, Int.reduceAdd, Int.reduceSub, Int.reduceMul, Nat.reducePow, Int.reduceNegSucc, str, wrapI]
              refine many_c (s := [120]) (by omega) (by decide) fun t htl => ?_
              simp only [walk, lists, acts, mem, plain, seqs, maps, cells, resL, resV, intBin, ↓reduceIte, Nat.reduceAdd, Nat.reduceSub, Nat.reduceMul, Nat.reduceLeDiff, Nat.reduceEqDiff, Int.reduceToNat, Int.reduceEq, Int.reduceLT, Int.reduceLE, Int.reduceNeg, Int.reduceAdd, Int.reduceSub, Int.reduceMul, Nat.reducePow, Int.reduceNegSucc, wWord, n3, os, op, ov, cuts, maps]
              rw [hJ]
              exact ⟨_, Tk.Sub.refl _, { w with call := { w.call with text := t } }, s, pp, v, gs, gp, gv, q5 + 2, rfl, ⟨ow.s, ow.p, ow.v, ow.sp, ow.sv, ow.pv⟩, hw, htl, ds, dp, dv, by omega, by omega⟩
            · simp only [walk, lists, acts, mem, plain, seqs, maps, cells, resL, resV, intBin, ↓reduceIte, Nat.reduceAdd, Nat.reduceSub, Nat.reduceMul, Nat.reduceLeDiff, Nat.reduceEqDiff, Int.reduceToNat, Int.reduceEq, Int.reduceLT, Int.reduceLE, Int.reduceNeg, Int.reduceAdd, Int.reduceSub, Int.reduceMul, Nat.reducePow, Int.reduceNegSucc, cuts, maps]
              rw [hJ]
              exact ⟨_, Tk.Sub.refl _, w, s, pp, v, gs, gp, gv, q5 + 1, rfl, ow, hw, ht, ds, dp, dv, by omega, by omega⟩
  clear hG rbG os op ov sp2 sv2 pv2 ds2 dp2 dv2 ow hw ht ds dp dv hq3 hq4 w s pp v gs gp gv q5
  rw [hJ]
  rintro f5 g5 ⟨w, s, pp, v, gs, gp, gv, q6, rfl, ow, hw, ht, ds, dp, dv, hq3, hq4⟩
  have os := ow.s.rd.one
  have op := ow.p.rd.one
  have ov := ow.v.rd.one
  have sp2 := ow.sp.symm
  have sv2 := ow.sv.symm
  have pv2 := ow.pv.symm
  have ds2 := ds.2.2.2.symm
  have dp2 := dp.2.2.2.symm
  have dv2 := dv.2.2.2.symm
  have hG : ∀ c, hget ((j3, blk c 28) :: (j2, blk Z 28) :: (gs ++ (gp ++ (gv ++ h)))) jr = none := fun c => by simp only [subs, n2, n3, hj, ds, dp, dv]
  have rbG : ∀ c, rIn ((j3, blk c 28) :: (j2, blk Z 28) :: (gs ++ (gp ++ (gv ++ h)))) eB 1 bv l := fun c => rb.sub (by (repeat' first | exact Sub.refl _ | exact Sub.nil _ | assumption | refine Sub.both ?_ ?_ | refine Sub.cons_of (by simp only [subs, n2, n3, hj, ds, dp, dv, ds2, dp2, dv2, ow.sp, ow.sv, ow.pv, sp2, sv2, pv2]) ?_ | exact Sub.left _ _ | refine Sub.app (by simp only [subs, n2, n3, hj, ds, dp, dv, ds2, dp2, dv2, ow.sp, ow.sv, ow.pv, sp2, sv2, pv2]) ?_ | refine Sub.cons (by simp only [subs, n2, n3, hj, ds, dp, dv, ds2, dp2, dv2, ow.sp, ow.sv, ow.pv, sp2, sv2, pv2]) ?_))
  simp only [walk, lists, acts, mem, plain, seqs, maps, cells, resL, resV, intBin, ↓reduceIte, Nat.reduceAdd, Nat.reduceSub, Nat.reduceMul, Nat.reduceLeDiff, Nat.reduceEqDiff, Int.reduceToNat, Int.reduceEq, Int.reduceLT, Int.reduceLE, Int.reduceNeg, Int.reduceAdd, Int.reduceSub, Int.reduceMul, Nat.reducePow, Int.reduceNegSucc, wr, cuts, wWord, n2.1, n2.2.1, n3, os, op, ov, hZl, sZ]
  exact ⟨gs ++ (gp ++ (gv ++ ((jr, blk (rdr bv q6) 120) :: h))), by (repeat' first | exact Sub.refl _ | exact Sub.nil _ | assumption | refine Sub.both ?_ ?_ | refine Sub.cons_of (by simp only [subs, n2, n3, hj, ds, dp, dv, ds2, dp2, dv2, ow.sp, ow.sv, ow.pv, sp2, sv2, pv2]) ?_ | exact Sub.left _ _ | refine Sub.app (by simp only [subs, n2, n3, hj, ds, dp, dv, ds2, dp2, dv2, ow.sp, ow.sv, ow.pv, sp2, sv2, pv2]) ?_ | refine Sub.cons (by simp only [subs, n2, n3, hj, ds, dp, dv, ds2, dp2, dv2, ow.sp, ow.sv, ow.pv, sp2, sv2, pv2]) ?_), k w s pp v gs gp gv q6 ow hw ht (by simp only [subs, ds]) (by simp only [subs, dp]) (by simp only [subs, dv]) (by omega) (by omega)⟩
end Go.Proofs.Ytllhdnfcneejaaa
end

/- How the program writes numbers. -/
section
set_option linter.unusedVariables false
set_option linter.unusedSimpArgs false
set_option maxRecDepth 20000
attribute [local irreducible] Go.Tk.vc Go.Tk.vops Go.Tk.vdr Go.Tk.vop Go.Tk.vfl Go.Tk.HCalls
namespace Go.Proofs.Ytllhdnfcneejaaa
open Go Go.Tk

theorem vcells_one1 {v : Value} (h : vone v = true) : vcells v = [v] := by cases v <;> first | rfl | cases h

theorem penNumber_c {jp : Nat} {pv : Value} {g h : H} {l : List UInt8} {n : Int} (o : oLs 5 eB 1 pv l g) (dj : ∀ q, Dj g ((jp, blk [q] 75) :: h)) (hl : l.length ≤ 35184372088832) (hn : -1099511627776 ≤ n ∧ n ≤ 1099511627776) {R : Ending → H → Prop}
    (k : ∀ pv' g', oLs 5 eB 1 pv' (l ++ encI n) g' → (∀ q, Dj g' ((jp, blk [q] 75) :: h)) → R (.returned (.tuple #[])) (g' ++ ((jp, blk [pv'] 75) :: h))) :
    HCalls Try.prog 51 #[.pointer (some ⟨jp, 0, none⟩), .int .i64 n] (g ++ ((jp, blk [pv] 75) :: h)) R := by
  refine HCalls_ir (args := [.pointer (some ⟨jp, 0, none⟩), .int .i64 n]) Try.func51 ir51 ?_
  have hzb : zig n ≤ 2199023255552 := by unfold zig; split <;> omega
  simp only [walk, lists, acts, mem, plain, seqs, maps, cells, resL, resV, intBin, ↓reduceIte, Nat.reduceAdd, Nat.reduceSub, Nat.reduceMul, Nat.reduceLeDiff, Nat.reduceEqDiff, Int.reduceToNat, Int.reduceEq, Int.reduceLT, Int.reduceLE, Int.reduceNeg, Int.reduceAdd, Int.reduceSub, Int.reduceMul, Nat.reducePow, Int.reduceNegSucc]
  have p1 : (2 : Int) ^ 1 = 2 := rfl
  refine ite_lt (fun c0 => ?_) fun c0 => ?_
  · refine raw_neg (n := n + 1) (by simp (disch := omega) only [walk, lists, acts, mem, plain, seqs, maps, cells, resL, resV, intBin, ↓reduceIte, Nat.reduceAdd, Nat.reduceSub, Nat.reduceMul, Nat.reduceLeDiff, Nat.reduceEqDiff, Int.reduceToNat, Int.reduceEq, Int.reduceLT, Int.reduceLE, Int.reduceNeg, Int.reduceAdd, Int.reduceSub, Int.reduceMul, Nat.reducePow, Int.reduceNegSucc, wrapI]) ?_
    have hz : (0 - (n + 1)) * 2 + 1 = (zig n : Int) := by unfold zig; rw [if_pos c0]; omega
    have hw : IntKind.u64.wrap (0 - (n + 1)) = 0 - (n + 1) := wrapU _ (by omega)
    simp only [walk, lists, acts, mem, plain, seqs, maps, cells, resL, resV, intBin, ↓reduceIte, Nat.reduceAdd, Nat.reduceSub, Nat.reduceMul, Nat.reduceLeDiff, Nat.reduceEqDiff, Int.reduceToNat, Int.reduceEq, Int.reduceLT, Int.reduceLE, Int.reduceNeg, Int.reduceAdd, Int.reduceSub, Int.reduceMul, Nat.reducePow, Int.reduceNegSucc]
    simp (disch := omega) only [wrapI, wrapU, mb1, p1, hz]
    refine vc_loop [4] (fun n' vs h' => ∃ (m : Nat) (pv' : Value) (l' : List UInt8) (g' : H), vs = [.int .u64 m] ∧ h' = g' ++ ((jp, blk [pv'] 75) :: h) ∧ (∀ q, Dj g' ((jp, blk [q] 75) :: h)) ∧ oLs 5 eB 1 pv' l' g' ∧ l' ++ encN m = l ++ encI n ∧ m ≤ zig n ∧ m = n') (zig n) rfl ⟨zig n, pv, l, g, rfl, rfl, dj, o, rfl, Nat.le_refl _, rfl⟩ ?_
    rintro n' f h' ⟨m, pv', l', g', hv, rfl, dj', o', hx, hm, rfl⟩
    simp only [List.map_cons, List.map_nil, List.cons.injEq, and_true] at hv
    have hlen : l'.length ≤ 40000000000000 := by
      have e1 := congrArg List.length hx
      have e2 := encN_le (zig n)
      simp only [List.length_append, encI] at e1
      omega
    have dx := dj' pv'
    simp only [subs] at dx
    have hp7 : (2 : Int) ^ 7 = 128 := rfl
    have hm3 : ((m % 128 : Nat) : Int) + 128 = ((128 + m % 128 : Nat) : Int) := by omega
    have hu8 : IntKind.u8.wrap ((m % 128 : Nat) : Int) = ((m % 128 : Nat) : Int) := by rw [u8_wrap]; omega
    simp only [walk, lists, acts, mem, plain, seqs, maps, cells, resL, resV, intBin, ↓reduceIte, Nat.reduceAdd, Nat.reduceSub, Nat.reduceMul, Nat.reduceLeDiff, Nat.reduceEqDiff, Int.reduceToNat, Int.reduceEq, Int.reduceLT, Int.reduceLE, Int.reduceNeg, Int.reduceAdd, Int.reduceSub, Int.reduceMul, Nat.reducePow, Int.reduceNegSucc, wr, hv, apps, dx]
    simp (disch := omega) only [and127, mb7, hp7, fdiv128, wrapU, hu8, hm3, u8_of]
    refine ite_ge (fun c1 => ?_) fun c1 => ?_
    · refine newB_intro fun j hj => ?_
      simp only [subs] at hj
      simp only [walk, lists, acts, mem, plain, seqs, maps, cells, resL, resV, intBin, ↓reduceIte, Nat.reduceAdd, Nat.reduceSub, Nat.reduceMul, Nat.reduceLeDiff, Nat.reduceEqDiff, Int.reduceToNat, Int.reduceEq, Int.reduceLT, Int.reduceLE, Int.reduceNeg, Int.reduceAdd, Int.reduceSub, Int.reduceMul, Nat.reducePow, Int.reduceNegSucc]
      refine app_leaf (g := g') (h := (jp, blk [pv'] 75) :: h) (M := (j, blk (fl eB [UInt8.ofNat (128 + m % 128)]) 5) :: (g' ++ ((jp, blk [pv'] 75) :: h))) eB_len eB_one tPen iByte (Sub.cons (by simp only [subs, hj]) (Sub.refl _)) (dj' _) o' (rB_lit [UInt8.ofNat (128 + m % 128)]) (by simp; omega) (by simp; omega) fun v2 g2 o2 d2 => ?_
      have d2x := d2
      simp only [subs] at d2x
      have one2 := o2.rd.one
      have vc2 := vcells_one1 one2
      simp only [walk, lists, acts, mem, plain, seqs, maps, cells, resL, resV, intBin, ↓reduceIte, Nat.reduceAdd, Nat.reduceSub, Nat.reduceMul, Nat.reduceLeDiff, Nat.reduceEqDiff, Int.reduceToNat, Int.reduceEq, Int.reduceLT, Int.reduceLE, Int.reduceNeg, Int.reduceAdd, Int.reduceSub, Int.reduceMul, Nat.reducePow, Int.reduceNegSucc, apps, d2x, one2, vc2]
      simp (disch := omega) only [mb7, hp7, fdiv128]
      refine ⟨m / 128, by omega, _, .refl _, m / 128, v2, _, g2, rfl, rfl, fun q => by simp only [subs, d2x], o2, ?_, by omega, rfl⟩
      rw [← hx, encN_ge (by omega : ¬ m < 128)]; simp
    · refine newB_intro fun j hj => ?_
      simp only [subs] at hj
      simp only [walk, lists, acts, mem, plain, seqs, maps, cells, resL, resV, intBin, ↓reduceIte, Nat.reduceAdd, Nat.reduceSub, Nat.reduceMul, Nat.reduceLeDiff, Nat.reduceEqDiff, Int.reduceToNat, Int.reduceEq, Int.reduceLT, Int.reduceLE, Int.reduceNeg, Int.reduceAdd, Int.reduceSub, Int.reduceMul, Nat.reducePow, Int.reduceNegSucc]
      refine app_leaf (g := g') (h := (jp, blk [pv'] 75) :: h) (M := (j, blk (fl eB [UInt8.ofNat m]) 5) :: (g' ++ ((jp, blk [pv'] 75) :: h))) eB_len eB_one tPen iByte (Sub.cons (by simp only [subs, hj]) (Sub.refl _)) (dj' _) o' (rB_lit [UInt8.ofNat m]) (by simp; omega) (by simp; omega) fun v2 g2 o2 d2 => ?_
      have d2x := d2
      simp only [subs] at d2x
      have one2 := o2.rd.one
      have vc2 := vcells_one1 one2
      simp only [walk, lists, acts, mem, plain, seqs, maps, cells, resL, resV, intBin, ↓reduceIte, Nat.reduceAdd, Nat.reduceSub, Nat.reduceMul, Nat.reduceLeDiff, Nat.reduceEqDiff, Int.reduceToNat, Int.reduceEq, Int.reduceLT, Int.reduceLE, Int.reduceNeg, Int.reduceAdd, Int.reduceSub, Int.reduceMul, Nat.reducePow, Int.reduceNegSucc, apps, d2x, one2, vc2]
      refine .of (k v2 g2 ?_ fun q => by simp only [subs, d2x])
      rw [← hx, encN_lt (by omega : m < 128)]; exact o2
  · have hz : n * 2 = (zig n : Int) := by unfold zig; rw [if_neg (by omega)]; omega
    simp (disch := omega) only [wrapI, wrapU, mb1, p1, hz]
    refine vc_loop [4] (fun n' vs h' => ∃ (m : Nat) (pv' : Value) (l' : List UInt8) (g' : H), vs = [.int .u64 m] ∧ h' = g' ++ ((jp, blk [pv'] 75) :: h) ∧ (∀ q, Dj g' ((jp, blk [q] 75) :: h)) ∧ oLs 5 eB 1 pv' l' g' ∧ l' ++ encN m = l ++ encI n ∧ m ≤ zig n ∧ m = n') (zig n) rfl ⟨zig n, pv, l, g, rfl, rfl, dj, o, rfl, Nat.le_refl _, rfl⟩ ?_
    rintro n' f h' ⟨m, pv', l', g', hv, rfl, dj', o', hx, hm, rfl⟩
    simp only [List.map_cons, List.map_nil, List.cons.injEq, and_true] at hv
    have hlen : l'.length ≤ 40000000000000 := by
      have e1 := congrArg List.length hx
      have e2 := encN_le (zig n)
      simp only [List.length_append, encI] at e1
      omega
    have dx := dj' pv'
    simp only [subs] at dx
    have hp7 : (2 : Int) ^ 7 = 128 := rfl
    have hm3 : ((m % 128 : Nat) : Int) + 128 = ((128 + m % 128 : Nat) : Int) := by omega
    have hu8 : IntKind.u8.wrap ((m % 128 : Nat) : Int) = ((m % 128 : Nat) : Int) := by rw [u8_wrap]; omega
    simp only [walk, lists, acts, mem, plain, seqs, maps, cells, resL, resV, intBin, ↓reduceIte, Nat.reduceAdd, Nat.reduceSub, Nat.reduceMul, Nat.reduceLeDiff, Nat.reduceEqDiff, Int.reduceToNat, Int.reduceEq, Int.reduceLT, Int.reduceLE, Int.reduceNeg, Int.reduceAdd, Int.reduceSub, Int.reduceMul, Nat.reducePow, Int.reduceNegSucc, wr, hv, apps, dx]
    simp (disch := omega) only [and127, mb7, hp7, fdiv128, wrapU, hu8, hm3, u8_of]
    refine ite_ge (fun c1 => ?_) fun c1 => ?_
    · refine newB_intro fun j hj => ?_
      simp only [subs] at hj
      simp only [walk, lists, acts, mem, plain, seqs, maps, cells, resL, resV, intBin, ↓reduceIte, Nat.reduceAdd, Nat.reduceSub, Nat.reduceMul, Nat.reduceLeDiff, Nat.reduceEqDiff, Int.reduceToNat, Int.reduceEq, Int.reduceLT, Int.reduceLE, Int.reduceNeg, Int.reduceAdd, Int.reduceSub, Int.reduceMul, Nat.reducePow, Int.reduceNegSucc]
      refine app_leaf (g := g') (h := (jp, blk [pv'] 75) :: h) (M := (j, blk (fl eB [UInt8.ofNat (128 + m % 128)]) 5) :: (g' ++ ((jp, blk [pv'] 75) :: h))) eB_len eB_one tPen iByte (Sub.cons (by simp only [subs, hj]) (Sub.refl _)) (dj' _) o' (rB_lit [UInt8.ofNat (128 + m % 128)]) (by simp; omega) (by simp; omega) fun v2 g2 o2 d2 => ?_
      have d2x := d2
      simp only [subs] at d2x
      have one2 := o2.rd.one
      have vc2 := vcells_one1 one2
      simp only [walk, lists, acts, mem, plain, seqs, maps, cells, resL, resV, intBin, ↓reduceIte, Nat.reduceAdd, Nat.reduceSub, Nat.reduceMul, Nat.reduceLeDiff, Nat.reduceEqDiff, Int.reduceToNat, Int.reduceEq, Int.reduceLT, Int.reduceLE, Int.reduceNeg, Int.reduceAdd, Int.reduceSub, Int.reduceMul, Nat.reducePow, Int.reduceNegSucc, apps, d2x, one2, vc2]
      simp (disch := omega) only [mb7, hp7, fdiv128]
      refine ⟨m / 128, by omega, _, .refl _, m / 128, v2, _, g2, rfl, rfl, fun q => by simp only [subs, d2x], o2, ?_, by omega, rfl⟩
      rw [← hx, encN_ge (by omega : ¬ m < 128)]; simp
    · refine newB_intro fun j hj => ?_
      simp only [subs] at hj
      simp only [walk, lists, acts, mem, plain, seqs, maps, cells, resL, resV, intBin, ↓reduceIte, Nat.reduceAdd, Nat.reduceSub, Nat.reduceMul, Nat.reduceLeDiff, Nat.reduceEqDiff, Int.reduceToNat, Int.reduceEq, Int.reduceLT, Int.reduceLE, Int.reduceNeg, Int.reduceAdd, Int.reduceSub, Int.reduceMul, Nat.reducePow, Int.reduceNegSucc]
      refine app_leaf (g := g') (h := (jp, blk [pv'] 75) :: h) (M := (j, blk (fl eB [UInt8.ofNat m]) 5) :: (g' ++ ((jp, blk [pv'] 75) :: h))) eB_len eB_one tPen iByte (Sub.cons (by simp only [subs, hj]) (Sub.refl _)) (dj' _) o' (rB_lit [UInt8.ofNat m]) (by simp; omega) (by simp; omega) fun v2 g2 o2 d2 => ?_
      have d2x := d2
      simp only [subs] at d2x
      have one2 := o2.rd.one
      have vc2 := vcells_one1 one2
      simp only [walk, lists, acts, mem, plain, seqs, maps, cells, resL, resV, intBin, ↓reduceIte, Nat.reduceAdd, Nat.reduceSub, Nat.reduceMul, Nat.reduceLeDiff, Nat.reduceEqDiff, Int.reduceToNat, Int.reduceEq, Int.reduceLT, Int.reduceLE, Int.reduceNeg, Int.reduceAdd, Int.reduceSub, Int.reduceMul, Nat.reducePow, Int.reduceNegSucc, apps, d2x, one2, vc2]
      refine .of (k v2 g2 ?_ fun q => by simp only [subs, d2x])
      rw [← hx, encN_lt (by omega : m < 128)]; exact o2
end Go.Proofs.Ytllhdnfcneejaaa
end

/- How the program writes lists of numbers. -/
section
set_option linter.unusedVariables false
set_option linter.unusedSimpArgs false
set_option maxRecDepth 20000
attribute [local irreducible] Go.Tk.vc Go.Tk.vops Go.Tk.vdr Go.Tk.vop Go.Tk.vfl Go.Tk.HCalls
namespace Go.Proofs.Ytllhdnfcneejaaa
open Go Go.Tk

theorem penNumbers_c {jp : Nat} {pv y : Value} {g h : H} {l : List UInt8} {ns : List Int} (o : oLs 5 eB 1 pv l g) (dj : ∀ q, Dj g ((jp, blk [q] 75) :: h)) (hjp : hget h jp = none) (r : rInts h y ns) (hl : l.length ≤ 17592186044416) (hs : allP smallP ns) (hn : ns.length ≤ 1099511627776) {R : Ending → H → Prop}
    (k : ∀ pv' g', oLs 5 eB 1 pv' (l ++ encIs ns) g' → (∀ q, Dj g' ((jp, blk [q] 75) :: h)) → R (.returned (.tuple #[])) (g' ++ ((jp, blk [pv'] 75) :: h))) :
    HCalls Try.prog 49 #[.pointer (some ⟨jp, 0, none⟩), y] (g ++ ((jp, blk [pv] 75) :: h)) R := by
  refine HCalls_ir (args := [.pointer (some ⟨jp, 0, none⟩), y]) Try.func49 ir49 ?_
  simp only [walk, lists, acts, mem, plain, seqs, maps, cells, resL, resV, intBin, ↓reduceIte, Nat.reduceAdd, Nat.reduceSub, Nat.reduceMul, Nat.reduceLeDiff, Nat.reduceEqDiff, Int.reduceToNat, Int.reduceEq, Int.reduceLT, Int.reduceLE, Int.reduceNeg, Int.reduceAdd, Int.reduceSub, Int.reduceMul, Nat.reducePow, Int.reduceNegSucc, r.len]
  refine vc_loop [8] (fun n' vs h' => ∃ (i : Nat) (pv' : Value) (g' : H), vs = [.int .i64 i] ∧ h' = g' ++ ((jp, blk [pv'] 75) :: h) ∧ (∀ q, Dj g' ((jp, blk [q] 75) :: h)) ∧ oLs 5 eB 1 pv' (l ++ encIs (ns.take i)) g' ∧ i ≤ ns.length ∧ n' = ns.length - i) ns.length rfl
    ⟨0, pv, g, rfl, rfl, dj, by simpa [encIs] using o, by omega, rfl⟩ ?_
  rintro n' f h' ⟨i, pv', g', hv, rfl, dj', o', hi, rfl⟩
  simp only [List.map_cons, List.map_nil, List.cons.injEq, and_true] at hv
  simp only [walk, lists, acts, mem, plain, seqs, maps, cells, resL, resV, intBin, ↓reduceIte, Nat.reduceAdd, Nat.reduceSub, Nat.reduceMul, Nat.reduceLeDiff, Nat.reduceEqDiff, Int.reduceToNat, Int.reduceEq, Int.reduceLT, Int.reduceLE, Int.reduceNeg, Int.reduceAdd, Int.reduceSub, Int.reduceMul, Nat.reducePow, Int.reduceNegSucc, wr, hv, r.len]
  refine ite_lt (fun c1 => ?_) fun c1 => ?_
  · have hi2 : i < ns.length := by omega
    have rM : rInts (g' ++ ((jp, blk [pv'] 75) :: h)) y ns := r.sub ((Sub.cons hjp (Sub.refl _)).trans (Sub.right (dj' _)))
    refine idx_leaf (i := i) eI_len rM rfl hi2 fun b1 o1 e1 => ?_
    simp only [walk, lists, acts, mem, plain, seqs, maps, cells, resL, resV, intBin, ↓reduceIte, Nat.reduceAdd, Nat.reduceSub, Nat.reduceMul, Nat.reduceLeDiff, Nat.reduceEqDiff, Int.reduceToNat, Int.reduceEq, Int.reduceLT, Int.reduceLE, Int.reduceNeg, Int.reduceAdd, Int.reduceSub, Int.reduceMul, Nat.reducePow, Int.reduceNegSucc, hread_1 e1]
    have sm : smallP ns[i] := hs _ (List.getElem_mem hi2)
    have hle := encIs_len (l := ns.take i) (fun x hx => hs x (List.mem_of_mem_take hx))
    rw [List.length_take] at hle
    refine penNumber_c o' dj' (by rw [List.length_append]; omega) ⟨by have := sm.1; omega, by have := sm.2; omega⟩ fun v2 g2 o2 d2 => ?_
    simp (disch := omega) only [walk, lists, acts, mem, plain, seqs, maps, cells, resL, resV, intBin, ↓reduceIte, Nat.reduceAdd, Nat.reduceSub, Nat.reduceMul, Nat.reduceLeDiff, Nat.reduceEqDiff, Int.reduceToNat, Int.reduceEq, Int.reduceLT, Int.reduceLE, Int.reduceNeg, Int.reduceAdd, Int.reduceSub, Int.reduceMul, Nat.reducePow, Int.reduceNegSucc, wrapI]
    refine ⟨ns.length - (i + 1), by omega, _, .refl _, i + 1, v2, g2, by simp, rfl, d2, ?_, by omega, rfl⟩
    rw [take_app_one hi2, encIs_app, encIs_one, ← List.append_assoc]; exact o2
  · have : ns.take i = ns := List.take_of_length_le (by omega)
    rw [this] at o'
    exact .of (k pv' g' o' dj')

theorem penCounted_c {jp : Nat} {pv y : Value} {g h : H} {l : List UInt8} {ns : List Int} (o : oLs 5 eB 1 pv l g) (dj : ∀ q, Dj g ((jp, blk [q] 75) :: h)) (hjp : hget h jp = none) (r : rInts h y ns) (hl : l.length ≤ 8796093022208) (hs : allP smallP ns) (hn : ns.length ≤ 1099511627776) {R : Ending → H → Prop}
    (k : ∀ pv' g', oLs 5 eB 1 pv' (l ++ encIs ((ns.length : Int) :: ns)) g' → (∀ q, Dj g' ((jp, blk [q] 75) :: h)) → R (.returned (.tuple #[])) (g' ++ ((jp, blk [pv'] 75) :: h))) :
    HCalls Try.prog 50 #[.pointer (some ⟨jp, 0, none⟩), y] (g ++ ((jp, blk [pv] 75) :: h)) R := by
  refine HCalls_ir (args := [.pointer (some ⟨jp, 0, none⟩), y]) Try.func50 ir50 ?_
  simp only [walk, lists, acts, mem, plain, seqs, maps, cells, resL, resV, intBin, ↓reduceIte, Nat.reduceAdd, Nat.reduceSub, Nat.reduceMul, Nat.reduceLeDiff, Nat.reduceEqDiff, Int.reduceToNat, Int.reduceEq, Int.reduceLT, Int.reduceLE, Int.reduceNeg, Int.reduceAdd, Int.reduceSub, Int.reduceMul, Nat.reducePow, Int.reduceNegSucc, r.len]
  have hb := encIs_hd (n := ns.length) (allP_nil smallP)
  rw [encIs_one] at hb
  refine penNumber_c o dj (by omega) (by omega) fun v2 g2 o2 d2 => ?_
  simp only [walk, lists, acts, mem, plain, seqs, maps, cells, resL, resV, intBin, ↓reduceIte, Nat.reduceAdd, Nat.reduceSub, Nat.reduceMul, Nat.reduceLeDiff, Nat.reduceEqDiff, Int.reduceToNat, Int.reduceEq, Int.reduceLT, Int.reduceLE, Int.reduceNeg, Int.reduceAdd, Int.reduceSub, Int.reduceMul, Nat.reducePow, Int.reduceNegSucc]
  refine penNumbers_c o2 d2 hjp r (by rw [List.length_append]; simp only [List.length_nil] at hb; omega) hs hn fun v3 g3 o3 d3 => ?_
  simp only [walk, lists, acts, mem, plain, seqs, maps, cells, resL, resV, intBin, ↓reduceIte, Nat.reduceAdd, Nat.reduceSub, Nat.reduceMul, Nat.reduceLeDiff, Nat.reduceEqDiff, Int.reduceToNat, Int.reduceEq, Int.reduceLT, Int.reduceLE, Int.reduceNeg, Int.reduceAdd, Int.reduceSub, Int.reduceMul, Nat.reducePow, Int.reduceNegSucc]
  refine .of (k v3 g3 ?_ d3)
  rw [encIs_cons, ← List.append_assoc]; exact o3
end Go.Proofs.Ytllhdnfcneejaaa
end
