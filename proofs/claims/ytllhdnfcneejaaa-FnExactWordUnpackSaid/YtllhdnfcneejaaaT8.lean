/- Pairs and words that are ok. -/
import Derived.Test.YtllhdnfcneejaaaT7
set_option linter.unusedVariables false
set_option linter.unusedSimpArgs false
set_option maxRecDepth 20000
attribute [local irreducible] Go.Tk.vc Go.Tk.vops Go.Tk.vdr Go.Tk.vop Go.Tk.vfl Go.Tk.HCalls
namespace Go.Proofs.Ytllhdnfcneejaaa
open Go Go.Tk

theorem pair_cells {h : H} {b o : Nat} {p : Int × Int} (e : hread h b o 2 = some (eP p)) : hcel h b o = some (.int .i64 p.1) ∧ hcel h b (o + 1) = some (.int .i64 p.2) := ⟨hread_c e 0 rfl, hread_c e 1 rfl⟩

theorem pairsOk_c {h : H} {v : Value} {l : List (Int × Int)} (r : rPairs h v l) (hl : l.length ≤ 1099511627776) {R : Ending → H → Prop} (k : Asks R (pairsP l) h) : HCalls Try.prog 57 #[v] h R := by
  refine HCalls_ir (args := [v]) Try.func57 ir57 ?_
  simp only [walk, lists, acts, mem, plain, seqs, maps, cells, resL, resV, intBin, ↓reduceIte, Nat.reduceAdd, Nat.reduceSub, Nat.reduceMul, Nat.reduceLeDiff, Nat.reduceEqDiff, Int.reduceToNat, Int.reduceEq, Int.reduceLT, Int.reduceLE, Int.reduceNeg, Int.reduceAdd, Int.reduceSub, Int.reduceMul, Nat.reducePow, Int.reduceNegSucc, r.len]
  refine ite_lt (fun c0 => .of (k.no fun p => ?_)) fun c0 => ?_
  · have := p.1; omega
  refine vc_loop [10] (fun n vs h' => ∃ i : Nat, vs = [.int .i64 i] ∧ h' = h ∧ i ≤ l.length ∧ n = l.length - i ∧ allP pairP (l.take i) ∧ risU (·.1) l i) l.length rfl ⟨0, rfl, rfl, by omega, by omega, allP_zero _ _, risU_zero _ _⟩ ?_
  rintro n f h' ⟨i, hv, rfl, hi, rfl, ht, hu⟩
  simp only [List.map_cons, List.map_nil, List.cons.injEq, and_true] at hv
  simp only [walk, lists, acts, mem, plain, seqs, maps, cells, resL, resV, intBin, ↓reduceIte, Nat.reduceAdd, Nat.reduceSub, Nat.reduceMul, Nat.reduceLeDiff, Nat.reduceEqDiff, Int.reduceToNat, Int.reduceEq, Int.reduceLT, Int.reduceLE, Int.reduceNeg, Int.reduceAdd, Int.reduceSub, Int.reduceMul, Nat.reducePow, Int.reduceNegSucc, wr, hv, r.len]
  refine ite_lt (fun c1 => ?_) fun c1 => ?_
  · refine idx_leaf (i := i) eP_len r rfl (by omega) fun b1 o1 e1 => ?_
    simp only [walk, lists, acts, mem, plain, seqs, maps, cells, resL, resV, intBin, ↓reduceIte, Nat.reduceAdd, Nat.reduceSub, Nat.reduceMul, Nat.reduceLeDiff, Nat.reduceEqDiff, Int.reduceToNat, Int.reduceEq, Int.reduceLT, Int.reduceLE, Int.reduceNeg, Int.reduceAdd, Int.reduceSub, Int.reduceMul, Nat.reducePow, Int.reduceNegSucc, e1]
    refine newB_intro fun j hj => ?_
    have sj := fun o => Sub.cons (o := o) hj (Sub.refl h')
    have hi2 : i < l.length := by omega
    generalize hx : l[i] = x at *
    have zp : [Value.int .i64 0, .int .i64 0] = eP (0, 0) := rfl
    simp only [zp, walk, lists, acts, mem, plain, seqs, maps, cells, resL, resV, intBin, ↓reduceIte, Nat.reduceAdd, Nat.reduceSub, Nat.reduceMul, Nat.reduceLeDiff, Nat.reduceEqDiff, Int.reduceToNat, Int.reduceEq, Int.reduceLT, Int.reduceLE, Int.reduceNeg, Int.reduceAdd, Int.reduceSub, Int.reduceMul, Nat.reducePow, Int.reduceNegSucc, wPair]
    refine vc_draw _ (Sub.refl _) ?_
    simp only [walk, lists, acts, mem, plain, seqs, maps, cells, resL, resV, intBin, ↓reduceIte, Nat.reduceAdd, Nat.reduceSub, Nat.reduceMul, Nat.reduceLeDiff, Nat.reduceEqDiff, Int.reduceToNat, Int.reduceEq, Int.reduceLT, Int.reduceLE, Int.reduceNeg, Int.reduceAdd, Int.reduceSub, Int.reduceMul, Nat.reducePow, Int.reduceNegSucc, wPair]
    refine isKey_c fun b hb => ?_
    simp (disch := omega) only [walk, lists, acts, mem, plain, seqs, maps, cells, resL, resV, intBin, ↓reduceIte, Nat.reduceAdd, Nat.reduceSub, Nat.reduceMul, Nat.reduceLeDiff, Nat.reduceEqDiff, Int.reduceToNat, Int.reduceEq, Int.reduceLT, Int.reduceLE, Int.reduceNeg, Int.reduceAdd, Int.reduceSub, Int.reduceMul, Nat.reducePow, Int.reduceNegSucc, wPair, wrapI]
    refine ite_f (fun e => ⟨h', sj _, k.no fun p => allP_not hi2 (fun y => not_b hb e (by rw [hx] at y; exact y.1)) p.2.1⟩) fun e => ?_
    refine isVal_c fun b2 hb2 => ?_
    simp (disch := omega) only [walk, lists, acts, mem, plain, seqs, maps, cells, resL, resV, intBin, ↓reduceIte, Nat.reduceAdd, Nat.reduceSub, Nat.reduceMul, Nat.reduceLeDiff, Nat.reduceEqDiff, Int.reduceToNat, Int.reduceEq, Int.reduceLT, Int.reduceLE, Int.reduceNeg, Int.reduceAdd, Int.reduceSub, Int.reduceMul, Nat.reducePow, Int.reduceNegSucc, wPair, wrapI]
    refine ite_f (fun e => ⟨h', sj _, k.no fun p => allP_not hi2 (fun y => not_b hb2 e (by rw [hx] at y; exact y.2)) p.2.1⟩) fun e' => ?_
    have hok : pairP l[i] := by rw [hx]; exact ⟨hb.1 e, hb2.1 e'⟩
    refine ite_lt (fun c2 => ?_) fun c2 => ?_
    · refine idx_leaf (i := i - 1) eP_len (r.sub (sj (blk (eP x) 69))) (by omega) (by omega) fun b2 o2 e2 => ?_
      simp (disch := omega) only [walk, lists, acts, mem, plain, seqs, maps, cells, resL, resV, intBin, ↓reduceIte, Nat.reduceAdd, Nat.reduceSub, Nat.reduceMul, Nat.reduceLeDiff, Nat.reduceEqDiff, Int.reduceToNat, Int.reduceEq, Int.reduceLT, Int.reduceLE, Int.reduceNeg, Int.reduceAdd, Int.reduceSub, Int.reduceMul, Nat.reducePow, Int.reduceNegSucc, wPair, (pair_cells e2).1, wrapI]
      refine ite_ge (fun c3 => ⟨h', sj _, k.no fun p => risU_not (i := i) hi2 (by omega) (fun y => ?_) p.2.2⟩) fun c3 => ?_
      · simp only [hx] at y; omega
      · exact ⟨l.length - (i + 1), by omega, h', sj _, i + 1, by simp, rfl, by omega, rfl, allP_more (by omega) ht hok, risU_more (by omega) (by omega) hu (by simp only [hx]; exact c3)⟩
    · exact ⟨l.length - (i + 1), by omega, h', sj _, i + 1, by simp, rfl, by omega, rfl, allP_more (by omega) ht hok, risU_one (by omega) hu⟩
  · exact .of (k.yes ⟨by omega, allP_done (by omega) ht, risU_done (by omega) hu⟩)

theorem l1Pairs_c {h : H} {v : Value} {l : List (Int × Int)} (r : rPairs h v l) (hl : l.length ≤ 1099511627776) {R : Ending → H → Prop} (k : Asks R (pairsP l) h) : HCalls Try.prog 46 #[v] h R := by
  refine HCalls_ir (args := [v]) Try.func46 ir46 ?_
  simp only [walk, lists, acts, mem, plain, seqs, maps, cells, resL, resV, intBin, ↓reduceIte, Nat.reduceAdd, Nat.reduceSub, Nat.reduceMul, Nat.reduceLeDiff, Nat.reduceEqDiff, Int.reduceToNat, Int.reduceEq, Int.reduceLT, Int.reduceLE, Int.reduceNeg, Int.reduceAdd, Int.reduceSub, Int.reduceMul, Nat.reducePow, Int.reduceNegSucc, r.len]
  refine ite_lt (fun c0 => .of (k.no fun p => ?_)) fun c0 => ?_
  · have := p.1; omega
  refine vc_loop [3] (fun n vs h' => ∃ i : Nat, vs = [.int .i64 i] ∧ h' = h ∧ i ≤ l.length ∧ n = l.length - i ∧ allP pairP (l.take i) ∧ risU (·.1) l i) l.length rfl ⟨0, rfl, rfl, by omega, by omega, allP_zero _ _, risU_zero _ _⟩ ?_
  rintro n f h' ⟨i, hv, rfl, hi, rfl, ht, hu⟩
  simp only [List.map_cons, List.map_nil, List.cons.injEq, and_true] at hv
  simp only [walk, lists, acts, mem, plain, seqs, maps, cells, resL, resV, intBin, ↓reduceIte, Nat.reduceAdd, Nat.reduceSub, Nat.reduceMul, Nat.reduceLeDiff, Nat.reduceEqDiff, Int.reduceToNat, Int.reduceEq, Int.reduceLT, Int.reduceLE, Int.reduceNeg, Int.reduceAdd, Int.reduceSub, Int.reduceMul, Nat.reducePow, Int.reduceNegSucc, wr, hv, r.len]
  refine ite_lt (fun c1 => ?_) fun c1 => ?_
  · refine vc_draw _ (Sub.refl _) ?_
    have hi2 : i < l.length := by omega
    simp only [walk, lists, acts, mem, plain, seqs, maps, cells, resL, resV, intBin, ↓reduceIte, Nat.reduceAdd, Nat.reduceSub, Nat.reduceMul, Nat.reduceLeDiff, Nat.reduceEqDiff, Int.reduceToNat, Int.reduceEq, Int.reduceLT, Int.reduceLE, Int.reduceNeg, Int.reduceAdd, Int.reduceSub, Int.reduceMul, Nat.reducePow, Int.reduceNegSucc]
    refine idx_leaf (i := i) eP_len r rfl hi2 fun b1 o1 e1 => ?_
    simp only [walk, lists, acts, mem, plain, seqs, maps, cells, resL, resV, intBin, ↓reduceIte, Nat.reduceAdd, Nat.reduceSub, Nat.reduceMul, Nat.reduceLeDiff, Nat.reduceEqDiff, Int.reduceToNat, Int.reduceEq, Int.reduceLT, Int.reduceLE, Int.reduceNeg, Int.reduceAdd, Int.reduceSub, Int.reduceMul, Nat.reducePow, Int.reduceNegSucc, (pair_cells e1).1]
    refine l6In_c fun b hb => ?_
    simp (disch := omega) only [walk, lists, acts, mem, plain, seqs, maps, cells, resL, resV, intBin, ↓reduceIte, Nat.reduceAdd, Nat.reduceSub, Nat.reduceMul, Nat.reduceLeDiff, Nat.reduceEqDiff, Int.reduceToNat, Int.reduceEq, Int.reduceLT, Int.reduceLE, Int.reduceNeg, Int.reduceAdd, Int.reduceSub, Int.reduceMul, Nat.reducePow, Int.reduceNegSucc, wrapI]
    refine ite_f (fun e => .of (k.no fun p => allP_not hi2 (fun y => not_b hb e y.1) p.2.1)) fun e => ?_
    refine idx_leaf (i := i) eP_len r rfl hi2 fun b2 o2 e2 => ?_
    simp only [walk, lists, acts, mem, plain, seqs, maps, cells, resL, resV, intBin, ↓reduceIte, Nat.reduceAdd, Nat.reduceSub, Nat.reduceMul, Nat.reduceLeDiff, Nat.reduceEqDiff, Int.reduceToNat, Int.reduceEq, Int.reduceLT, Int.reduceLE, Int.reduceNeg, Int.reduceAdd, Int.reduceSub, Int.reduceMul, Nat.reducePow, Int.reduceNegSucc, (pair_cells e2).2]
    refine l1Val_c fun b2 hb2 => ?_
    simp (disch := omega) only [walk, lists, acts, mem, plain, seqs, maps, cells, resL, resV, intBin, ↓reduceIte, Nat.reduceAdd, Nat.reduceSub, Nat.reduceMul, Nat.reduceLeDiff, Nat.reduceEqDiff, Int.reduceToNat, Int.reduceEq, Int.reduceLT, Int.reduceLE, Int.reduceNeg, Int.reduceAdd, Int.reduceSub, Int.reduceMul, Nat.reducePow, Int.reduceNegSucc, wrapI]
    refine ite_f (fun e => .of (k.no fun p => allP_not hi2 (fun y => not_b hb2 e y.2) p.2.1)) fun e' => ?_
    have hok : pairP l[i] := ⟨hb.1 e, hb2.1 e'⟩
    refine ite_lt (fun c2 => ?_) fun c2 => ?_
    · refine idx_leaf (i := i - 1) eP_len r (by omega) (by omega) fun b3 o3 e3 => ?_
      simp (disch := omega) only [walk, lists, acts, mem, plain, seqs, maps, cells, resL, resV, intBin, ↓reduceIte, Nat.reduceAdd, Nat.reduceSub, Nat.reduceMul, Nat.reduceLeDiff, Nat.reduceEqDiff, Int.reduceToNat, Int.reduceEq, Int.reduceLT, Int.reduceLE, Int.reduceNeg, Int.reduceAdd, Int.reduceSub, Int.reduceMul, Nat.reducePow, Int.reduceNegSucc, (pair_cells e3).1, wrapI]
      refine idx_leaf (i := i) eP_len r rfl (by omega) fun b4 o4 e4 => ?_
      simp (disch := omega) only [walk, lists, acts, mem, plain, seqs, maps, cells, resL, resV, intBin, ↓reduceIte, Nat.reduceAdd, Nat.reduceSub, Nat.reduceMul, Nat.reduceLeDiff, Nat.reduceEqDiff, Int.reduceToNat, Int.reduceEq, Int.reduceLT, Int.reduceLE, Int.reduceNeg, Int.reduceAdd, Int.reduceSub, Int.reduceMul, Nat.reducePow, Int.reduceNegSucc, (pair_cells e4).1, wrapI]
      refine ite_ge (fun c3 => .of (k.no fun p => risU_not (i := i) hi2 (by omega) (fun y => ?_) p.2.2)) fun c3 => ?_
      · omega
      · exact ⟨l.length - (i + 1), by omega, h', .refl _, i + 1, by simp, rfl, by omega, rfl, allP_more (by omega) ht hok, risU_more (by omega) (by omega) hu c3⟩
    · exact ⟨l.length - (i + 1), by omega, h', .refl _, i + 1, by simp, rfl, by omega, rfl, allP_more (by omega) ht hok, risU_one (by omega) hu⟩
  · exact .of (k.yes ⟨by omega, allP_done (by omega) ht, risU_done (by omega) hu⟩)

theorem l12Call_c {h : H} {c : DCall} {R : Ending → H → Prop} (k : Asks R (callP c) h) : HCalls Try.prog 48 #[.agg (cCall c).toArray] h R := by
  refine HCalls_ir (args := [.agg (cCall c).toArray]) Try.func48 ir48 ?_
  simp only [walk, lists, acts, mem, plain, seqs, maps, cells, resL, resV, intBin, ↓reduceIte, Nat.reduceAdd, Nat.reduceSub, Nat.reduceMul, Nat.reduceLeDiff, Nat.reduceEqDiff, Int.reduceToNat, Int.reduceEq, Int.reduceLT, Int.reduceLE, Int.reduceNeg, Int.reduceAdd, Int.reduceSub, Int.reduceMul, Nat.reducePow, Int.reduceNegSucc, wCall]
  refine newB_intro fun j hj => ?_
  have sj := fun o => Sub.cons (o := o) hj (Sub.refl h)
  simp only [walk, lists, acts, mem, plain, seqs, maps, cells, resL, resV, intBin, ↓reduceIte, Nat.reduceAdd, Nat.reduceSub, Nat.reduceMul, Nat.reduceLeDiff, Nat.reduceEqDiff, Int.reduceToNat, Int.reduceEq, Int.reduceLT, Int.reduceLE, Int.reduceNeg, Int.reduceAdd, Int.reduceSub, Int.reduceMul, Nat.reducePow, Int.reduceNegSucc, wCall]
  refine l6In_c fun b1 h1 => ?_
  simp only [walk, lists, acts, mem, plain, seqs, maps, cells, resL, resV, intBin, ↓reduceIte, Nat.reduceAdd, Nat.reduceSub, Nat.reduceMul, Nat.reduceLeDiff, Nat.reduceEqDiff, Int.reduceToNat, Int.reduceEq, Int.reduceLT, Int.reduceLE, Int.reduceNeg, Int.reduceAdd, Int.reduceSub, Int.reduceMul, Nat.reducePow, Int.reduceNegSucc, wCall]
  refine ite_b (fun e1 => ?_) fun e1 => k.dno (sj _) fun p => not_b h1 e1 p.1
  refine l6In_c fun b2 h2 => ?_
  simp only [walk, lists, acts, mem, plain, seqs, maps, cells, resL, resV, intBin, ↓reduceIte, Nat.reduceAdd, Nat.reduceSub, Nat.reduceMul, Nat.reduceLeDiff, Nat.reduceEqDiff, Int.reduceToNat, Int.reduceEq, Int.reduceLT, Int.reduceLE, Int.reduceNeg, Int.reduceAdd, Int.reduceSub, Int.reduceMul, Nat.reducePow, Int.reduceNegSucc, wCall]
  refine ite_b (fun e2 => ?_) fun e2 => k.dno (sj _) fun p => not_b h2 e2 p.2.1
  refine l6In_c fun b3 h3 => ?_
  simp only [walk, lists, acts, mem, plain, seqs, maps, cells, resL, resV, intBin, ↓reduceIte, Nat.reduceAdd, Nat.reduceSub, Nat.reduceMul, Nat.reduceLeDiff, Nat.reduceEqDiff, Int.reduceToNat, Int.reduceEq, Int.reduceLT, Int.reduceLE, Int.reduceNeg, Int.reduceAdd, Int.reduceSub, Int.reduceMul, Nat.reducePow, Int.reduceNegSucc, wCall]
  refine ite_b (fun e3 => ?_) fun e3 => k.dno (sj _) fun p => not_b h3 e3 p.2.2.1
  refine l6In_c fun b4 h4 => ?_
  simp only [walk, lists, acts, mem, plain, seqs, maps, cells, resL, resV, intBin, ↓reduceIte, Nat.reduceAdd, Nat.reduceSub, Nat.reduceMul, Nat.reduceLeDiff, Nat.reduceEqDiff, Int.reduceToNat, Int.reduceEq, Int.reduceLT, Int.reduceLE, Int.reduceNeg, Int.reduceAdd, Int.reduceSub, Int.reduceMul, Nat.reducePow, Int.reduceNegSucc, wCall]
  refine ite_b (fun e4 => ?_) fun e4 => k.dno (sj _) fun p => not_b h4 e4 p.2.2.2.1
  refine l6In_c fun b5 h5 => ?_
  simp only [walk, lists, acts, mem, plain, seqs, maps, cells, resL, resV, intBin, ↓reduceIte, Nat.reduceAdd, Nat.reduceSub, Nat.reduceMul, Nat.reduceLeDiff, Nat.reduceEqDiff, Int.reduceToNat, Int.reduceEq, Int.reduceLT, Int.reduceLE, Int.reduceNeg, Int.reduceAdd, Int.reduceSub, Int.reduceMul, Nat.reducePow, Int.reduceNegSucc, wCall]
  refine ite_b (fun e5 => ?_) fun e5 => k.dno (sj _) fun p => not_b h5 e5 p.2.2.2.2.1
  refine ⟨h, sj _, k _ ?_⟩
  simp only [decide_eq_true_eq]
  exact ⟨fun x => ⟨h1.1 e1, h2.1 e2, h3.1 e3, h4.1 e4, h5.1 e5, by omega⟩, fun p => by have := p.2.2.2.2.2; omega⟩
end Go.Proofs.Ytllhdnfcneejaaa
