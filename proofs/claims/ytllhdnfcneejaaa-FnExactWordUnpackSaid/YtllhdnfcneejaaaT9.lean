/- Words that are ok. -/
import Derived.Test.YtllhdnfcneejaaaT8
set_option linter.unusedVariables false
set_option linter.unusedSimpArgs false
set_option maxRecDepth 20000
attribute [local irreducible] Go.Tk.vc Go.Tk.vops Go.Tk.vdr Go.Tk.vop Go.Tk.vfl Go.Tk.HCalls
namespace Go.Proofs.Ytllhdnfcneejaaa
open Go Go.Tk

theorem specWordOk_c {h : H} {w : DWord} {s p' v : Value} (r : sWord h w s p' v) (hw : wLen w) {R : Ending → H → Prop} (k : Asks R (wordP w) h) : HCalls Try.prog 17 #[.agg (cWord w s p' v).toArray] h R := by
  refine HCalls_ir (args := [.agg (cWord w s p' v).toArray]) Try.func17 ir17 ?_
  simp only [walk, lists, acts, mem, plain, seqs, maps, cells, resL, resV, intBin, ↓reduceIte, Nat.reduceAdd, Nat.reduceSub, Nat.reduceMul, Nat.reduceLeDiff, Nat.reduceEqDiff, Int.reduceToNat, Int.reduceEq, Int.reduceLT, Int.reduceLE, Int.reduceNeg, Int.reduceAdd, Int.reduceSub, Int.reduceMul, Nat.reducePow, Int.reduceNegSucc, wWord]
  refine newB_intro fun j hj => ?_
  have sj := fun o => Sub.cons (o := o) hj (Sub.refl h)
  simp only [walk, lists, acts, mem, plain, seqs, maps, cells, resL, resV, intBin, ↓reduceIte, Nat.reduceAdd, Nat.reduceSub, Nat.reduceMul, Nat.reduceLeDiff, Nat.reduceEqDiff, Int.reduceToNat, Int.reduceEq, Int.reduceLT, Int.reduceLE, Int.reduceNeg, Int.reduceAdd, Int.reduceSub, Int.reduceMul, Nat.reducePow, Int.reduceNegSucc, wWord]
  refine l6In_c fun b0 h0 => ?_
  simp only [walk, lists, acts, mem, plain, seqs, maps, cells, resL, resV, intBin, ↓reduceIte, Nat.reduceAdd, Nat.reduceSub, Nat.reduceMul, Nat.reduceLeDiff, Nat.reduceEqDiff, Int.reduceToNat, Int.reduceEq, Int.reduceLT, Int.reduceLE, Int.reduceNeg, Int.reduceAdd, Int.reduceSub, Int.reduceMul, Nat.reducePow, Int.reduceNegSucc, wWord]
  refine ite_b (fun e0 => ?_) fun e0 => k.dno (sj _) fun p => not_b h0 e0 p.1
  refine l12Place_c fun b1 h1 => ?_
  simp only [walk, lists, acts, mem, plain, seqs, maps, cells, resL, resV, intBin, ↓reduceIte, Nat.reduceAdd, Nat.reduceSub, Nat.reduceMul, Nat.reduceLeDiff, Nat.reduceEqDiff, Int.reduceToNat, Int.reduceEq, Int.reduceLT, Int.reduceLE, Int.reduceNeg, Int.reduceAdd, Int.reduceSub, Int.reduceMul, Nat.reducePow, Int.reduceNegSucc, wWord]
  refine ite_b (fun e1 => ?_) fun e1 => k.dno (sj _) fun p => not_b h1 e1 p.2.1
  refine l12Place_c fun b2 h2 => ?_
  simp only [walk, lists, acts, mem, plain, seqs, maps, cells, resL, resV, intBin, ↓reduceIte, Nat.reduceAdd, Nat.reduceSub, Nat.reduceMul, Nat.reduceLeDiff, Nat.reduceEqDiff, Int.reduceToNat, Int.reduceEq, Int.reduceLT, Int.reduceLE, Int.reduceNeg, Int.reduceAdd, Int.reduceSub, Int.reduceMul, Nat.reducePow, Int.reduceNegSucc, wWord]
  refine ite_b (fun e2 => ?_) fun e2 => k.dno (sj _) fun p => not_b h2 e2 p.2.2.1
  refine l6In_c fun b3 h3 => ?_
  simp only [walk, lists, acts, mem, plain, seqs, maps, cells, resL, resV, intBin, ↓reduceIte, Nat.reduceAdd, Nat.reduceSub, Nat.reduceMul, Nat.reduceLeDiff, Nat.reduceEqDiff, Int.reduceToNat, Int.reduceEq, Int.reduceLT, Int.reduceLE, Int.reduceNeg, Int.reduceAdd, Int.reduceSub, Int.reduceMul, Nat.reducePow, Int.reduceNegSucc, wWord]
  refine ite_b (fun e3 => ?_) fun e3 => k.dno (sj _) fun p => not_b h3 e3 p.2.2.2.1
  refine l6In_c fun b4 h4 => ?_
  simp only [walk, lists, acts, mem, plain, seqs, maps, cells, resL, resV, intBin, ↓reduceIte, Nat.reduceAdd, Nat.reduceSub, Nat.reduceMul, Nat.reduceLeDiff, Nat.reduceEqDiff, Int.reduceToNat, Int.reduceEq, Int.reduceLT, Int.reduceLE, Int.reduceNeg, Int.reduceAdd, Int.reduceSub, Int.reduceMul, Nat.reducePow, Int.reduceNegSucc, wWord]
  refine ite_b (fun e4 => ?_) fun e4 => k.dno (sj _) fun p => not_b h4 e4 p.2.2.2.2.1
  refine l6In_c fun b5 h5 => ?_
  simp only [walk, lists, acts, mem, plain, seqs, maps, cells, resL, resV, intBin, ↓reduceIte, Nat.reduceAdd, Nat.reduceSub, Nat.reduceMul, Nat.reduceLeDiff, Nat.reduceEqDiff, Int.reduceToNat, Int.reduceEq, Int.reduceLT, Int.reduceLE, Int.reduceNeg, Int.reduceAdd, Int.reduceSub, Int.reduceMul, Nat.reducePow, Int.reduceNegSucc, wWord]
  refine ite_b (fun e5 => ?_) fun e5 => k.dno (sj _) fun p => not_b h5 e5 p.2.2.2.2.2.1
  refine l12Slots_c (r.1.sub (sj _)) hw.1 fun b6 h6 => ?_
  simp only [walk, lists, acts, mem, plain, seqs, maps, cells, resL, resV, intBin, ↓reduceIte, Nat.reduceAdd, Nat.reduceSub, Nat.reduceMul, Nat.reduceLeDiff, Nat.reduceEqDiff, Int.reduceToNat, Int.reduceEq, Int.reduceLT, Int.reduceLE, Int.reduceNeg, Int.reduceAdd, Int.reduceSub, Int.reduceMul, Nat.reducePow, Int.reduceNegSucc, wWord]
  refine ite_b (fun e6 => ?_) fun e6 => k.dno (sj _) fun p => not_b h6 e6 p.2.2.2.2.2.2.1
  refine l1Pairs_c (r.2.1.sub (sj _)) hw.2.1 fun b7 h7 => ?_
  simp only [walk, lists, acts, mem, plain, seqs, maps, cells, resL, resV, intBin, ↓reduceIte, Nat.reduceAdd, Nat.reduceSub, Nat.reduceMul, Nat.reduceLeDiff, Nat.reduceEqDiff, Int.reduceToNat, Int.reduceEq, Int.reduceLT, Int.reduceLE, Int.reduceNeg, Int.reduceAdd, Int.reduceSub, Int.reduceMul, Nat.reducePow, Int.reduceNegSucc, wWord]
  refine ite_b (fun e7 => ?_) fun e7 => k.dno (sj _) fun p => not_b h7 e7 p.2.2.2.2.2.2.2.1
  refine l6In_c fun b8 h8 => ?_
  simp only [walk, lists, acts, mem, plain, seqs, maps, cells, resL, resV, intBin, ↓reduceIte, Nat.reduceAdd, Nat.reduceSub, Nat.reduceMul, Nat.reduceLeDiff, Nat.reduceEqDiff, Int.reduceToNat, Int.reduceEq, Int.reduceLT, Int.reduceLE, Int.reduceNeg, Int.reduceAdd, Int.reduceSub, Int.reduceMul, Nat.reducePow, Int.reduceNegSucc, wWord]
  refine ite_b (fun e8 => ?_) fun e8 => k.dno (sj _) fun p => not_b h8 e8 p.2.2.2.2.2.2.2.2.1
  refine l3Vals_c (r.2.2.sub (sj _)) hw.2.2 fun b9 h9 => ?_
  simp only [walk, lists, acts, mem, plain, seqs, maps, cells, resL, resV, intBin, ↓reduceIte, Nat.reduceAdd, Nat.reduceSub, Nat.reduceMul, Nat.reduceLeDiff, Nat.reduceEqDiff, Int.reduceToNat, Int.reduceEq, Int.reduceLT, Int.reduceLE, Int.reduceNeg, Int.reduceAdd, Int.reduceSub, Int.reduceMul, Nat.reducePow, Int.reduceNegSucc, wWord]
  refine ite_b (fun e9 => ?_) fun e9 => k.dno (sj _) fun p => not_b h9 e9 p.2.2.2.2.2.2.2.2.2.1
  refine l12Call_c (c := w.call) fun b10 h10 => ?_
  simp only [walk, lists, acts, mem, plain, seqs, maps, cells, resL, resV, intBin, ↓reduceIte, Nat.reduceAdd, Nat.reduceSub, Nat.reduceMul, Nat.reduceLeDiff, Nat.reduceEqDiff, Int.reduceToNat, Int.reduceEq, Int.reduceLT, Int.reduceLE, Int.reduceNeg, Int.reduceAdd, Int.reduceSub, Int.reduceMul, Nat.reducePow, Int.reduceNegSucc, wWord]
  refine ⟨h, sj _, k _ (h10.trans ⟨fun x => ⟨h0.1 e0, h1.1 e1, h2.1 e2, h3.1 e3, h4.1 e4, h5.1 e5, h6.1 e6, h7.1 e7, h8.1 e8, h9.1 e9, x⟩, fun p => p.2.2.2.2.2.2.2.2.2.2⟩)⟩

theorem implWordOk_c {h : H} {w : DWord} {s p' v : Value} (r : sWord h w s p' v) (hw : wLen w) {R : Ending → H → Prop} (k : Asks R (wordP w) h) : HCalls Try.prog 19 #[.agg (cWord w s p' v).toArray] h R := by
  refine HCalls_ir (args := [.agg (cWord w s p' v).toArray]) Try.func19 ir19 ?_
  simp only [walk, lists, acts, mem, plain, seqs, maps, cells, resL, resV, intBin, ↓reduceIte, Nat.reduceAdd, Nat.reduceSub, Nat.reduceMul, Nat.reduceLeDiff, Nat.reduceEqDiff, Int.reduceToNat, Int.reduceEq, Int.reduceLT, Int.reduceLE, Int.reduceNeg, Int.reduceAdd, Int.reduceSub, Int.reduceMul, Nat.reducePow, Int.reduceNegSucc, wWord]
  refine newB_intro fun j hj => ?_
  have sj := fun o => Sub.cons (o := o) hj (Sub.refl h)
  simp only [walk, lists, acts, mem, plain, seqs, maps, cells, resL, resV, intBin, ↓reduceIte, Nat.reduceAdd, Nat.reduceSub, Nat.reduceMul, Nat.reduceLeDiff, Nat.reduceEqDiff, Int.reduceToNat, Int.reduceEq, Int.reduceLT, Int.reduceLE, Int.reduceNeg, Int.reduceAdd, Int.reduceSub, Int.reduceMul, Nat.reducePow, Int.reduceNegSucc, wWord]
  refine newB_intro fun j2 hj2 => ?_
  have n2 := fresh hj2
  have sj2 := fun o => Sub.cons (o := o) hj2 (sj _)
  have zc := zCall_eq
  simp only [str] at zc
  simp only [str, zc, walk, lists, acts, mem, plain, seqs, maps, cells, resL, resV, intBin, ↓reduceIte, Nat.reduceAdd, Nat.reduceSub, Nat.reduceMul, Nat.reduceLeDiff, Nat.reduceEqDiff, Int.reduceToNat, Int.reduceEq, Int.reduceLT, Int.reduceLE, Int.reduceNeg, Int.reduceAdd, Int.reduceSub, Int.reduceMul, Nat.reducePow, Int.reduceNegSucc, wWord, wCall, n2.1, n2.2.1]
  refine within_c fun b0 h0 => ?_
  simp only [walk, lists, acts, mem, plain, seqs, maps, cells, resL, resV, intBin, ↓reduceIte, Nat.reduceAdd, Nat.reduceSub, Nat.reduceMul, Nat.reduceLeDiff, Nat.reduceEqDiff, Int.reduceToNat, Int.reduceEq, Int.reduceLT, Int.reduceLE, Int.reduceNeg, Int.reduceAdd, Int.reduceSub, Int.reduceMul, Nat.reducePow, Int.reduceNegSucc, wWord, wCall, n2.1, n2.2.1]
  refine ite_b (fun e0 => ?_) fun e0 => k.dno (sj2 _) fun p => not_b h0 e0 p.1
  refine newB_intro fun j3 hj3 => ?_
  simp only [walk, lists, acts, mem, plain, seqs, maps, cells, resL, resV, intBin, ↓reduceIte, Nat.reduceAdd, Nat.reduceSub, Nat.reduceMul, Nat.reduceLeDiff, Nat.reduceEqDiff, Int.reduceToNat, Int.reduceEq, Int.reduceLT, Int.reduceLE, Int.reduceNeg, Int.reduceAdd, Int.reduceSub, Int.reduceMul, Nat.reducePow, Int.reduceNegSucc]
  refine HCalls.drop (arePlaces_c (l := [w.from_, w.to]) (rI_lit [w.from_, w.to]) (by simp) fun b1 h1 => ⟨_, Sub.cons hj3 (Sub.refl _), ?_⟩)
  simp only [walk, lists, acts, mem, plain, seqs, maps, cells, resL, resV, intBin, ↓reduceIte, Nat.reduceAdd, Nat.reduceSub, Nat.reduceMul, Nat.reduceLeDiff, Nat.reduceEqDiff, Int.reduceToNat, Int.reduceEq, Int.reduceLT, Int.reduceLE, Int.reduceNeg, Int.reduceAdd, Int.reduceSub, Int.reduceMul, Nat.reducePow, Int.reduceNegSucc, wWord, wCall, n2.1, n2.2.1]
  refine ite_b (fun e1 => ?_) fun e1 => k.dno (sj2 _) fun p => not_b h1 e1 (by simp [allP, p.2.1, p.2.2.1])
  refine newB_intro fun j4 hj4 => ?_
  simp only [walk, lists, acts, mem, plain, seqs, maps, cells, resL, resV, intBin, ↓reduceIte, Nat.reduceAdd, Nat.reduceSub, Nat.reduceMul, Nat.reduceLeDiff, Nat.reduceEqDiff, Int.reduceToNat, Int.reduceEq, Int.reduceLT, Int.reduceLE, Int.reduceNeg, Int.reduceAdd, Int.reduceSub, Int.reduceMul, Nat.reducePow, Int.reduceNegSucc]
  refine HCalls.drop (allWithin_c (l := [w.stamp, w.try_, w.call.session, w.call.number, w.call.kind, w.call.slot, w.call.to]) (rI_lit [w.stamp, w.try_, w.call.session, w.call.number, w.call.kind, w.call.slot, w.call.to]) (by simp) fun b2 h2 => ⟨_, Sub.cons hj4 (Sub.refl _), ?_⟩)
  simp only [walk, lists, acts, mem, plain, seqs, maps, cells, resL, resV, intBin, ↓reduceIte, Nat.reduceAdd, Nat.reduceSub, Nat.reduceMul, Nat.reduceLeDiff, Nat.reduceEqDiff, Int.reduceToNat, Int.reduceEq, Int.reduceLT, Int.reduceLE, Int.reduceNeg, Int.reduceAdd, Int.reduceSub, Int.reduceMul, Nat.reducePow, Int.reduceNegSucc, wWord, wCall, n2.1, n2.2.1]
  refine ite_b (fun e2 => ?_) fun e2 => k.dno (sj2 _) fun p => not_b h2 e2 (by obtain ⟨p1, p2, p3, p4, p5, p6, p7, p8, p9, p10, q1, q2, q3, q4, q5, q6⟩ := p; simp only [stampP] at *; simp [allP, *])
  refine newB_intro fun j5 hj5 => ?_
  simp only [walk, lists, acts, mem, plain, seqs, maps, cells, resL, resV, intBin, ↓reduceIte, Nat.reduceAdd, Nat.reduceSub, Nat.reduceMul, Nat.reduceLeDiff, Nat.reduceEqDiff, Int.reduceToNat, Int.reduceEq, Int.reduceLT, Int.reduceLE, Int.reduceNeg, Int.reduceAdd, Int.reduceSub, Int.reduceMul, Nat.reducePow, Int.reduceNegSucc]
  refine HCalls.drop (allWithin_c (l := [w.what]) (rI_lit [w.what]) (by simp) fun b3 h3 => ⟨_, Sub.cons hj5 (Sub.refl _), ?_⟩)
  simp only [walk, lists, acts, mem, plain, seqs, maps, cells, resL, resV, intBin, ↓reduceIte, Nat.reduceAdd, Nat.reduceSub, Nat.reduceMul, Nat.reduceLeDiff, Nat.reduceEqDiff, Int.reduceToNat, Int.reduceEq, Int.reduceLT, Int.reduceLE, Int.reduceNeg, Int.reduceAdd, Int.reduceSub, Int.reduceMul, Nat.reducePow, Int.reduceNegSucc, wWord, wCall, n2.1, n2.2.1]
  refine ite_b (fun e3 => ?_) fun e3 => k.dno (sj2 _) fun p => not_b h3 e3 (by obtain ⟨p1, p2, p3, p4, p5, p6, p7, p8, p9, p10, q1, q2, q3, q4, q5, q6⟩ := p; simp [allP, *])
  refine newB_intro fun j6 hj6 => ?_
  simp only [walk, lists, acts, mem, plain, seqs, maps, cells, resL, resV, intBin, ↓reduceIte, Nat.reduceAdd, Nat.reduceSub, Nat.reduceMul, Nat.reduceLeDiff, Nat.reduceEqDiff, Int.reduceToNat, Int.reduceEq, Int.reduceLT, Int.reduceLE, Int.reduceNeg, Int.reduceAdd, Int.reduceSub, Int.reduceMul, Nat.reducePow, Int.reduceNegSucc]
  refine HCalls.drop (allWithin_c (l := [w.code]) (rI_lit [w.code]) (by simp) fun b4 h4 => ⟨_, Sub.cons hj6 (Sub.refl _), ?_⟩)
  simp only [walk, lists, acts, mem, plain, seqs, maps, cells, resL, resV, intBin, ↓reduceIte, Nat.reduceAdd, Nat.reduceSub, Nat.reduceMul, Nat.reduceLeDiff, Nat.reduceEqDiff, Int.reduceToNat, Int.reduceEq, Int.reduceLT, Int.reduceLE, Int.reduceNeg, Int.reduceAdd, Int.reduceSub, Int.reduceMul, Nat.reducePow, Int.reduceNegSucc, wWord, wCall, n2.1, n2.2.1]
  refine ite_b (fun e4 => ?_) fun e4 => k.dno (sj2 _) fun p => not_b h4 e4 (by obtain ⟨p1, p2, p3, p4, p5, p6, p7, p8, p9, p10, q1, q2, q3, q4, q5, q6⟩ := p; simp [allP, *])
  refine newB_intro fun j7 hj7 => ?_
  simp only [walk, lists, acts, mem, plain, seqs, maps, cells, resL, resV, intBin, ↓reduceIte, Nat.reduceAdd, Nat.reduceSub, Nat.reduceMul, Nat.reduceLeDiff, Nat.reduceEqDiff, Int.reduceToNat, Int.reduceEq, Int.reduceLT, Int.reduceLE, Int.reduceNeg, Int.reduceAdd, Int.reduceSub, Int.reduceMul, Nat.reducePow, Int.reduceNegSucc]
  refine HCalls.drop (allWithin_c (l := [(w.call.text.length : Int)]) (rI_lit [(w.call.text.length : Int)]) (by simp) fun b5 h5 => ⟨_, Sub.cons hj7 (Sub.refl _), ?_⟩)
  simp only [walk, lists, acts, mem, plain, seqs, maps, cells, resL, resV, intBin, ↓reduceIte, Nat.reduceAdd, Nat.reduceSub, Nat.reduceMul, Nat.reduceLeDiff, Nat.reduceEqDiff, Int.reduceToNat, Int.reduceEq, Int.reduceLT, Int.reduceLE, Int.reduceNeg, Int.reduceAdd, Int.reduceSub, Int.reduceMul, Nat.reducePow, Int.reduceNegSucc, wWord, wCall, n2.1, n2.2.1]
  refine ite_b (fun e5 => ?_) fun e5 => k.dno (sj2 _) fun p => not_b h5 e5 (by obtain ⟨p1, p2, p3, p4, p5, p6, p7, p8, p9, p10, q1, q2, q3, q4, q5, q6⟩ := p; simp [allP, inP]; omega)
  refine rising_c (by kernel_rfl) isSlot_c (r.1.sub (sj2 _)) hw.1 fun b6 h6 => ?_
  simp only [walk, lists, acts, mem, plain, seqs, maps, cells, resL, resV, intBin, ↓reduceIte, Nat.reduceAdd, Nat.reduceSub, Nat.reduceMul, Nat.reduceLeDiff, Nat.reduceEqDiff, Int.reduceToNat, Int.reduceEq, Int.reduceLT, Int.reduceLE, Int.reduceNeg, Int.reduceAdd, Int.reduceSub, Int.reduceMul, Nat.reducePow, Int.reduceNegSucc, wWord, wCall, n2.1, n2.2.1]
  refine ite_b (fun e6 => ?_) fun e6 => k.dno (sj2 _) fun p => not_b h6 e6 p.2.2.2.2.2.2.1
  refine pairsOk_c (r.2.1.sub (sj2 _)) hw.2.1 fun b7 h7 => ?_
  simp only [walk, lists, acts, mem, plain, seqs, maps, cells, resL, resV, intBin, ↓reduceIte, Nat.reduceAdd, Nat.reduceSub, Nat.reduceMul, Nat.reduceLeDiff, Nat.reduceEqDiff, Int.reduceToNat, Int.reduceEq, Int.reduceLT, Int.reduceLE, Int.reduceNeg, Int.reduceAdd, Int.reduceSub, Int.reduceMul, Nat.reducePow, Int.reduceNegSucc, wWord, wCall, n2.1, n2.2.1]
  refine ite_b (fun e7 => ?_) fun e7 => k.dno (sj2 _) fun p => not_b h7 e7 p.2.2.2.2.2.2.2.1
  refine valsOk_c (r.2.2.sub (sj2 _)) hw.2.2 fun b8 h8 => ?_
  simp only [walk, lists, acts, mem, plain, seqs, maps, cells, resL, resV, intBin, ↓reduceIte, Nat.reduceAdd, Nat.reduceSub, Nat.reduceMul, Nat.reduceLeDiff, Nat.reduceEqDiff, Int.reduceToNat, Int.reduceEq, Int.reduceLT, Int.reduceLE, Int.reduceNeg, Int.reduceAdd, Int.reduceSub, Int.reduceMul, Nat.reducePow, Int.reduceNegSucc, wWord, wCall, n2.1, n2.2.1]
  refine ⟨h, sj2 _, k _ (h8.trans ⟨fun x => ?_, fun p => p.2.2.2.2.2.2.2.2.2.1⟩)⟩
  have a1 := h1.1 e1
  have a2 := h2.1 e2
  have a3 := h3.1 e3
  have a4 := h4.1 e4
  have a5 := h5.1 e5
  simp only [allP, List.mem_cons, List.not_mem_nil, or_false, forall_eq_or_imp, forall_eq] at a1 a2 a3 a4 a5
  refine ⟨h0.1 e0, a1.1, a1.2, a2.1, a2.2.1, a3, h6.1 e6, h7.1 e7, a4, x, a2.2.2.1, a2.2.2.2.1, a2.2.2.2.2.1, a2.2.2.2.2.2.1, a2.2.2.2.2.2.2, ?_⟩
  have := a5.2
  omega
end Go.Proofs.Ytllhdnfcneejaaa
