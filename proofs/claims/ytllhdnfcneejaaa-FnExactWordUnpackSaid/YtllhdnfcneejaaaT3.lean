/- What the laws compare and mark: words. -/
import Derived.Test.YtllhdnfcneejaaaT2
import Derived.Test.YtllhdnfcneejaaaO1
import Derived.Test.YtllhdnfcneejaaaA21
set_option linter.unusedVariables false
set_option linter.unusedSimpArgs false
set_option maxRecDepth 20000
attribute [local irreducible] Go.Tk.vc Go.Tk.vops Go.Tk.vdr Go.Tk.vop Go.Tk.vfl Go.Tk.HCalls
namespace Go.Proofs.Ytllhdnfcneejaaa
open Go Go.Tk

theorem eqPair_c {h : H} {x y : Int × Int} {R : Ending → H → Prop} (k : R (.returned (.bool (decide (x = y)))) h) : HCalls Try.prog 80 #[.agg (eP x).toArray, .agg (eP y).toArray] h R := by
  refine HCalls_ir (args := [.agg (eP x).toArray, .agg (eP y).toArray]) Try.func80 ir80 ?_
  simp only [walk, lists, acts, mem, plain, seqs, maps, cells, resL, resV, intBin, ↓reduceIte, Nat.reduceAdd, Nat.reduceSub, Nat.reduceMul, Nat.reduceLeDiff, Nat.reduceEqDiff, Int.reduceToNat, Int.reduceEq, Int.reduceLT, Int.reduceLE, Int.reduceNeg, Int.reduceAdd, Int.reduceSub, Int.reduceMul, Nat.reducePow, Int.reduceNegSucc, wPair]
  refine newB_intro fun j1 h1 => ?_
  simp only [walk, lists, acts, mem, plain, seqs, maps, cells, resL, resV, intBin, ↓reduceIte, Nat.reduceAdd, Nat.reduceSub, Nat.reduceMul, Nat.reduceLeDiff, Nat.reduceEqDiff, Int.reduceToNat, Int.reduceEq, Int.reduceLT, Int.reduceLE, Int.reduceNeg, Int.reduceAdd, Int.reduceSub, Int.reduceMul, Nat.reducePow, Int.reduceNegSucc, wPair]
  refine newB_intro fun j2 h2 => ?_
  have n := fresh h2
  simp only [walk, lists, acts, mem, plain, seqs, maps, cells, resL, resV, intBin, ↓reduceIte, Nat.reduceAdd, Nat.reduceSub, Nat.reduceMul, Nat.reduceLeDiff, Nat.reduceEqDiff, Int.reduceToNat, Int.reduceEq, Int.reduceLT, Int.reduceLE, Int.reduceNeg, Int.reduceAdd, Int.reduceSub, Int.reduceMul, Nat.reducePow, Int.reduceNegSucc, wPair, n.1, n.2.1]
  refine ite_ne (fun d => ⟨h, Sub.cons h2 (Sub.cons h1 (Sub.refl h)), kF k (fun e => d (by rw [e]))⟩) fun d0 => ?_
  refine ite_ne (fun d => ⟨h, Sub.cons h2 (Sub.cons h1 (Sub.refl h)), kF k (fun e => d (by rw [e]))⟩) fun d1 => ?_
  exact ⟨h, Sub.cons h2 (Sub.cons h1 (Sub.refl h)), kT k (Prod.ext d0 d1)⟩

theorem eqCall_c {h : H} {x y : DCall} {R : Ending → H → Prop} (k : R (.returned (.bool (decide (x = y)))) h) : HCalls Try.prog 33 #[.agg (cCall x).toArray, .agg (cCall y).toArray] h R := by
  refine HCalls_ir (args := [.agg (cCall x).toArray, .agg (cCall y).toArray]) Try.func33 ir33 ?_
  simp only [walk, lists, acts, mem, plain, seqs, maps, cells, resL, resV, intBin, ↓reduceIte, Nat.reduceAdd, Nat.reduceSub, Nat.reduceMul, Nat.reduceLeDiff, Nat.reduceEqDiff, Int.reduceToNat, Int.reduceEq, Int.reduceLT, Int.reduceLE, Int.reduceNeg, Int.reduceAdd, Int.reduceSub, Int.reduceMul, Nat.reducePow, Int.reduceNegSucc, wCall]
  refine newB_intro fun j1 h1 => ?_
  simp only [walk, lists, acts, mem, plain, seqs, maps, cells, resL, resV, intBin, ↓reduceIte, Nat.reduceAdd, Nat.reduceSub, Nat.reduceMul, Nat.reduceLeDiff, Nat.reduceEqDiff, Int.reduceToNat, Int.reduceEq, Int.reduceLT, Int.reduceLE, Int.reduceNeg, Int.reduceAdd, Int.reduceSub, Int.reduceMul, Nat.reducePow, Int.reduceNegSucc, wCall]
  refine newB_intro fun j2 h2 => ?_
  have n := fresh h2
  simp only [walk, lists, acts, mem, plain, seqs, maps, cells, resL, resV, intBin, ↓reduceIte, Nat.reduceAdd, Nat.reduceSub, Nat.reduceMul, Nat.reduceLeDiff, Nat.reduceEqDiff, Int.reduceToNat, Int.reduceEq, Int.reduceLT, Int.reduceLE, Int.reduceNeg, Int.reduceAdd, Int.reduceSub, Int.reduceMul, Nat.reducePow, Int.reduceNegSucc, wCall, n.1, n.2.1, strBin, str_inj]
  refine ite_ne (fun d => ⟨h, Sub.cons h2 (Sub.cons h1 (Sub.refl h)), kF k (fun e => d (by rw [e]))⟩) fun d0 => ?_
  refine ite_ne (fun d => ⟨h, Sub.cons h2 (Sub.cons h1 (Sub.refl h)), kF k (fun e => d (by rw [e]))⟩) fun d1 => ?_
  refine ite_ne (fun d => ⟨h, Sub.cons h2 (Sub.cons h1 (Sub.refl h)), kF k (fun e => d (by rw [e]))⟩) fun d2 => ?_
  refine ite_ne (fun d => ⟨h, Sub.cons h2 (Sub.cons h1 (Sub.refl h)), kF k (fun e => d (by rw [e]))⟩) fun d3 => ?_
  refine ite_ne (fun d => ⟨h, Sub.cons h2 (Sub.cons h1 (Sub.refl h)), kF k (fun e => d (by rw [e]))⟩) fun d4 => ?_
  refine ite_ne (fun d => ⟨h, Sub.cons h2 (Sub.cons h1 (Sub.refl h)), kF k (fun e => d (by rw [e]))⟩) fun d5 => ?_
  refine ⟨h, Sub.cons h2 (Sub.cons h1 (Sub.refl h)), kT k ?_⟩
  cases x; cases y; simp_all

theorem eqPairS_c {h : H} {a b : Value} {la lb : List (Int × Int)} (ra : rPairs h a la) (rb : rPairs h b lb) (ha : la.length ≤ 1099511627776) {R : Ending → H → Prop} (k : R (.returned (.bool (decide (la = lb)))) h) :
    HCalls Try.prog 32 #[a, b] h R := by
  refine HCalls_ir (args := [a, b]) Try.func32 ir32 ?_
  simp only [walk, lists, acts, mem, plain, seqs, maps, cells, resL, resV, intBin, ↓reduceIte, Nat.reduceAdd, Nat.reduceSub, Nat.reduceMul, Nat.reduceLeDiff, Nat.reduceEqDiff, Int.reduceToNat, Int.reduceEq, Int.reduceLT, Int.reduceLE, Int.reduceNeg, Int.reduceAdd, Int.reduceSub, Int.reduceMul, Nat.reducePow, Int.reduceNegSucc, ra.len, rb.len]
  split
  · rename_i c
    exact .of (kF k fun e => c (by rw [e]))
  · rename_i c
    have hl : la.length = lb.length := by omega
    refine vc_loop [5] (fun n vs h' => ∃ i : Nat, vs = [.int .i64 i] ∧ h' = h ∧ i ≤ la.length ∧ n = la.length - i ∧ la.take i = lb.take i) la.length rfl ⟨0, rfl, rfl, by omega, by omega, by simp⟩ ?_
    rintro n f h' ⟨i, hv, rfl, hi, rfl, ht⟩
    simp only [List.map_cons, List.map_nil, List.cons.injEq, and_true] at hv
    simp only [walk, lists, acts, mem, plain, seqs, maps, cells, resL, resV, intBin, ↓reduceIte, Nat.reduceAdd, Nat.reduceSub, Nat.reduceMul, Nat.reduceLeDiff, Nat.reduceEqDiff, Int.reduceToNat, Int.reduceEq, Int.reduceLT, Int.reduceLE, Int.reduceNeg, Int.reduceAdd, Int.reduceSub, Int.reduceMul, Nat.reducePow, Int.reduceNegSucc, wr, hv, ra.len, rb.len]
    split
    · rename_i c1
      refine vc_draw h' (Sub.refl _) ?_
      simp only [walk, lists, acts, mem, plain, seqs, maps, cells, resL, resV, intBin, ↓reduceIte, Nat.reduceAdd, Nat.reduceSub, Nat.reduceMul, Nat.reduceLeDiff, Nat.reduceEqDiff, Int.reduceToNat, Int.reduceEq, Int.reduceLT, Int.reduceLE, Int.reduceNeg, Int.reduceAdd, Int.reduceSub, Int.reduceMul, Nat.reducePow, Int.reduceNegSucc]
      refine idx_leaf (i := i) eP_len ra rfl (by omega) fun b1 o1 e1 => ?_
      simp only [walk, lists, acts, mem, plain, seqs, maps, cells, resL, resV, intBin, ↓reduceIte, Nat.reduceAdd, Nat.reduceSub, Nat.reduceMul, Nat.reduceLeDiff, Nat.reduceEqDiff, Int.reduceToNat, Int.reduceEq, Int.reduceLT, Int.reduceLE, Int.reduceNeg, Int.reduceAdd, Int.reduceSub, Int.reduceMul, Nat.reducePow, Int.reduceNegSucc, e1]
      refine idx_leaf (i := i) eP_len rb rfl (by omega) fun b2 o2 e2 => ?_
      simp only [walk, lists, acts, mem, plain, seqs, maps, cells, resL, resV, intBin, ↓reduceIte, Nat.reduceAdd, Nat.reduceSub, Nat.reduceMul, Nat.reduceLeDiff, Nat.reduceEqDiff, Int.reduceToNat, Int.reduceEq, Int.reduceLT, Int.reduceLE, Int.reduceNeg, Int.reduceAdd, Int.reduceSub, Int.reduceMul, Nat.reducePow, Int.reduceNegSucc, e2]
      refine eqPair_c ?_
      simp only [walk, lists, acts, mem, plain, seqs, maps, cells, resL, resV, intBin, ↓reduceIte, Nat.reduceAdd, Nat.reduceSub, Nat.reduceMul, Nat.reduceLeDiff, Nat.reduceEqDiff, Int.reduceToNat, Int.reduceEq, Int.reduceLT, Int.reduceLE, Int.reduceNeg, Int.reduceAdd, Int.reduceSub, Int.reduceMul, Nat.reducePow, Int.reduceNegSucc]
      refine ite_ne (fun d => .of (kF k (ne_at _ _ d))) fun d => ?_
      simp (disch := omega) only [wrapI]
      exact ⟨la.length - (i + 1), by omega, h', .refl _, i + 1, by simp, rfl, by omega, rfl, take_more _ _ ht d⟩
    · rename_i c1
      exact .of (kT k (take_all (by omega) hl ht))

theorem eqWord_c {h : H} {x y : DWord} {s p v s' p' v' : Value} (rx : sWord h x s p v) (ry : sWord h y s' p' v') (hx : wLen x) {R : Ending → H → Prop} (k : R (.returned (.bool (decide (x = y)))) h) :
    HCalls Try.prog 10 #[.agg (cWord x s p v).toArray, .agg (cWord y s' p' v').toArray] h R := by
  refine HCalls_ir (args := [.agg (cWord x s p v).toArray, .agg (cWord y s' p' v').toArray]) Try.func10 ir10 ?_
  simp only [walk, lists, acts, mem, plain, seqs, maps, cells, resL, resV, intBin, ↓reduceIte, Nat.reduceAdd, Nat.reduceSub, Nat.reduceMul, Nat.reduceLeDiff, Nat.reduceEqDiff, Int.reduceToNat, Int.reduceEq, Int.reduceLT, Int.reduceLE, Int.reduceNeg, Int.reduceAdd, Int.reduceSub, Int.reduceMul, Nat.reducePow, Int.reduceNegSucc, wWord]
  refine newB_intro fun j1 h1 => ?_
  simp only [walk, lists, acts, mem, plain, seqs, maps, cells, resL, resV, intBin, ↓reduceIte, Nat.reduceAdd, Nat.reduceSub, Nat.reduceMul, Nat.reduceLeDiff, Nat.reduceEqDiff, Int.reduceToNat, Int.reduceEq, Int.reduceLT, Int.reduceLE, Int.reduceNeg, Int.reduceAdd, Int.reduceSub, Int.reduceMul, Nat.reducePow, Int.reduceNegSucc, wWord, wCall]
  refine newB_intro fun j2 h2 => ?_
  have n := fresh h2
  simp only [walk, lists, acts, mem, plain, seqs, maps, cells, resL, resV, intBin, ↓reduceIte, Nat.reduceAdd, Nat.reduceSub, Nat.reduceMul, Nat.reduceLeDiff, Nat.reduceEqDiff, Int.reduceToNat, Int.reduceEq, Int.reduceLT, Int.reduceLE, Int.reduceNeg, Int.reduceAdd, Int.reduceSub, Int.reduceMul, Nat.reducePow, Int.reduceNegSucc, wWord, wCall, n.1, n.2.1]
  have sb := fun o => Sub.cons (o := o) h2 (Sub.cons h1 (Sub.refl h))
  refine ite_ne (fun d => ⟨h, Sub.cons h2 (Sub.cons h1 (Sub.refl h)), kF k (fun e => d (by rw [e]))⟩) fun d0 => ?_
  refine ite_ne (fun d => ⟨h, Sub.cons h2 (Sub.cons h1 (Sub.refl h)), kF k (fun e => d (by rw [e]))⟩) fun d1 => ?_
  refine ite_ne (fun d => ⟨h, Sub.cons h2 (Sub.cons h1 (Sub.refl h)), kF k (fun e => d (by rw [e]))⟩) fun d2 => ?_
  refine ite_ne (fun d => ⟨h, Sub.cons h2 (Sub.cons h1 (Sub.refl h)), kF k (fun e => d (by rw [e]))⟩) fun d3 => ?_
  refine ite_ne (fun d => ⟨h, Sub.cons h2 (Sub.cons h1 (Sub.refl h)), kF k (fun e => d (by rw [e]))⟩) fun d4 => ?_
  refine ite_ne (fun d => ⟨h, Sub.cons h2 (Sub.cons h1 (Sub.refl h)), kF k (fun e => d (by rw [e]))⟩) fun d5 => ?_
  refine ite_eqb (fun d => ⟨h, Sub.cons h2 (Sub.cons h1 (Sub.refl h)), kF k (fun e => d (by rw [e]))⟩) fun d6 => ?_
  refine eqIntS_c (rx.1.sub (sb _)) (ry.1.sub (sb _)) hx.1 ?_
  simp only [walk, lists, acts, mem, plain, seqs, maps, cells, resL, resV, intBin, ↓reduceIte, Nat.reduceAdd, Nat.reduceSub, Nat.reduceMul, Nat.reduceLeDiff, Nat.reduceEqDiff, Int.reduceToNat, Int.reduceEq, Int.reduceLT, Int.reduceLE, Int.reduceNeg, Int.reduceAdd, Int.reduceSub, Int.reduceMul, Nat.reducePow, Int.reduceNegSucc, wWord, wCall]
  refine ite_ne (fun d => ⟨h, Sub.cons h2 (Sub.cons h1 (Sub.refl h)), kF k (fun e => d (by rw [e]))⟩) fun d7 => ?_
  simp only [n.1, n.2.1, walk, lists, acts, mem, plain, seqs, maps, cells, resL, resV, intBin, ↓reduceIte, Nat.reduceAdd, Nat.reduceSub, Nat.reduceMul, Nat.reduceLeDiff, Nat.reduceEqDiff, Int.reduceToNat, Int.reduceEq, Int.reduceLT, Int.reduceLE, Int.reduceNeg, Int.reduceAdd, Int.reduceSub, Int.reduceMul, Nat.reducePow, Int.reduceNegSucc, wWord, wCall]
  refine eqPairS_c (rx.2.1.sub (sb _)) (ry.2.1.sub (sb _)) hx.2.1 ?_
  simp only [walk, lists, acts, mem, plain, seqs, maps, cells, resL, resV, intBin, ↓reduceIte, Nat.reduceAdd, Nat.reduceSub, Nat.reduceMul, Nat.reduceLeDiff, Nat.reduceEqDiff, Int.reduceToNat, Int.reduceEq, Int.reduceLT, Int.reduceLE, Int.reduceNeg, Int.reduceAdd, Int.reduceSub, Int.reduceMul, Nat.reducePow, Int.reduceNegSucc, wWord, wCall, n.1, n.2.1]
  refine ite_ne (fun d => ⟨h, Sub.cons h2 (Sub.cons h1 (Sub.refl h)), kF k (fun e => d (by rw [e]))⟩) fun d8 => ?_
  refine ite_ne (fun d => ⟨h, Sub.cons h2 (Sub.cons h1 (Sub.refl h)), kF k (fun e => d (by rw [e]))⟩) fun d9 => ?_
  refine eqIntS_c (rx.2.2.sub (sb _)) (ry.2.2.sub (sb _)) hx.2.2 ?_
  simp only [walk, lists, acts, mem, plain, seqs, maps, cells, resL, resV, intBin, ↓reduceIte, Nat.reduceAdd, Nat.reduceSub, Nat.reduceMul, Nat.reduceLeDiff, Nat.reduceEqDiff, Int.reduceToNat, Int.reduceEq, Int.reduceLT, Int.reduceLE, Int.reduceNeg, Int.reduceAdd, Int.reduceSub, Int.reduceMul, Nat.reducePow, Int.reduceNegSucc, wWord, wCall, n.1, n.2.1]
  refine ite_ne (fun d => ⟨h, Sub.cons h2 (Sub.cons h1 (Sub.refl h)), kF k (fun e => d (by rw [e]))⟩) fun d10 => ?_
  refine eqCall_c (x := x.call) (y := y.call) ?_
  simp only [walk, lists, acts, mem, plain, seqs, maps, cells, resL, resV, intBin, ↓reduceIte, Nat.reduceAdd, Nat.reduceSub, Nat.reduceMul, Nat.reduceLeDiff, Nat.reduceEqDiff, Int.reduceToNat, Int.reduceEq, Int.reduceLT, Int.reduceLE, Int.reduceNeg, Int.reduceAdd, Int.reduceSub, Int.reduceMul, Nat.reducePow, Int.reduceNegSucc, wWord, wCall]
  refine ite_ne (fun d => ⟨h, Sub.cons h2 (Sub.cons h1 (Sub.refl h)), kF k (fun e => d (by rw [e]))⟩) fun d11 => ?_
  refine ⟨h, Sub.cons h2 (Sub.cons h1 (Sub.refl h)), kT k ?_⟩
  cases x; cases y; simp_all

theorem markWord_c {es ep ev : TypeId} {gs gp gv h0 : H} {w : DWord} {s p v : Value} {k : Int} (o : oWord es ep ev w s p v gs gp gv) (ds : Dj gs h0) (dp : Dj gp h0) (dv : Dj gv h0) (hw : wLen w) (hk : 0 ≤ k ∧ k ≤ 1099511627776) {R : Ending → H → Prop}
    (kr : ∀ gs' gp' gv', oWord es ep ev { w with slots := mks k w.slots.length, pairs := mkp (k + w.slots.length) w.pairs.length, vals := mks (k + w.slots.length + 2 * w.pairs.length) w.vals.length } s p v gs' gp' gv' → Dj gs' h0 → Dj gp' h0 → Dj gv' h0 →
      R (.returned (.int .i64 (k + w.slots.length + 2 * w.pairs.length + w.vals.length))) (gs' ++ (gp' ++ (gv' ++ h0)))) :
    HCalls Try.prog 13 #[.agg (cWord w s p v).toArray, .int .i64 k] (gs ++ (gp ++ (gv ++ h0))) R := by
  refine HCalls_ir (args := [.agg (cWord w s p v).toArray, .int .i64 k]) Try.func13 ir13 ?_
  obtain ⟨hs, hp, hv⟩ := hw
  obtain ⟨os, op, ov, sp, sv, pv⟩ := o
  simp only [walk, lists, acts, mem, plain, seqs, maps, cells, resL, resV, intBin, ↓reduceIte, Nat.reduceAdd, Nat.reduceSub, Nat.reduceMul, Nat.reduceLeDiff, Nat.reduceEqDiff, Int.reduceToNat, Int.reduceEq, Int.reduceLT, Int.reduceLE, Int.reduceNeg, Int.reduceAdd, Int.reduceSub, Int.reduceMul, Nat.reducePow, Int.reduceNegSucc, wWord]
  refine newB_intro fun j h1 => ?_
  simp only [walk, lists, acts, mem, plain, seqs, maps, cells, resL, resV, intBin, ↓reduceIte, Nat.reduceAdd, Nat.reduceSub, Nat.reduceMul, Nat.reduceLeDiff, Nat.reduceEqDiff, Int.reduceToNat, Int.reduceEq, Int.reduceLT, Int.reduceLE, Int.reduceNeg, Int.reduceAdd, Int.reduceSub, Int.reduceMul, Nat.reducePow, Int.reduceNegSucc, wWord]
  simp only [subs] at h1
  have sp2 := sp.symm
  have sv2 := sv.symm
  have pv2 := pv.symm
  refine (markIntS_c (g := gs) (h0 := gp ++ (gv ++ ((j, blk (cWord w s p v) 28) :: h0))) os (by simp only [subs, ds, sp, sv, h1]) hs (by omega) fun gs' os' ds' => ?_).weaken (by (repeat' first | exact Sub.refl _ | exact Sub.nil _ | assumption | refine Sub.both ?_ ?_ | refine Sub.cons_of (by simp only [subs, h1, ds, dp, dv, sp, sv, pv, sp2, sv2, pv2]) ?_ | exact Sub.left _ _ | refine Sub.app (by simp only [subs, h1, ds, dp, dv, sp, sv, pv, sp2, sv2, pv2]) ?_ | refine Sub.cons (by simp only [subs, h1, ds, dp, dv, sp, sv, pv, sp2, sv2, pv2]) ?_))
  have ds2 := ds'.symm
  simp only [subs] at ds' ds2
  simp only [walk, lists, acts, mem, plain, seqs, maps, cells, resL, resV, intBin, ↓reduceIte, Nat.reduceAdd, Nat.reduceSub, Nat.reduceMul, Nat.reduceLeDiff, Nat.reduceEqDiff, Int.reduceToNat, Int.reduceEq, Int.reduceLT, Int.reduceLE, Int.reduceNeg, Int.reduceAdd, Int.reduceSub, Int.reduceMul, Nat.reducePow, Int.reduceNegSucc, wWord, apps, h1, ds']
  refine (markPairS_c (g := gp) (h0 := gs' ++ (gv ++ ((j, blk (cWord w s p v) 28) :: h0))) op (by simp only [subs, dp, pv, h1, ds2]) hp (by omega) fun gp' op' dp' => ?_).weaken (by (repeat' first | exact Sub.refl _ | exact Sub.nil _ | assumption | refine Sub.both ?_ ?_ | refine Sub.cons_of (by simp only [subs, h1, ds', ds2, dp, dv, pv, pv2]) ?_ | exact Sub.left _ _ | refine Sub.app (by simp only [subs, h1, ds', ds2, dp, dv, pv, pv2]) ?_ | refine Sub.cons (by simp only [subs, h1, ds', ds2, dp, dv, pv, pv2]) ?_))
  have dp2 := dp'.symm
  simp only [subs] at dp' dp2
  simp only [walk, lists, acts, mem, plain, seqs, maps, cells, resL, resV, intBin, ↓reduceIte, Nat.reduceAdd, Nat.reduceSub, Nat.reduceMul, Nat.reduceLeDiff, Nat.reduceEqDiff, Int.reduceToNat, Int.reduceEq, Int.reduceLT, Int.reduceLE, Int.reduceNeg, Int.reduceAdd, Int.reduceSub, Int.reduceMul, Nat.reducePow, Int.reduceNegSucc, wWord, apps, h1, ds', dp']
  refine (markIntS_c (g := gv) (h0 := gs' ++ (gp' ++ ((j, blk (cWord w s p v) 28) :: h0))) ov (by simp only [subs, dv, h1, ds2, dp2]) hv (by omega) fun gv' ov' dv' => ?_).weaken (by (repeat' first | exact Sub.refl _ | exact Sub.nil _ | assumption | refine Sub.both ?_ ?_ | refine Sub.cons_of (by simp only [subs, h1, ds', ds2, dp', dp2, dv]) ?_ | exact Sub.left _ _ | refine Sub.app (by simp only [subs, h1, ds', ds2, dp', dp2, dv]) ?_ | refine Sub.cons (by simp only [subs, h1, ds', ds2, dp', dp2, dv]) ?_))
  have dv2 := dv'.symm
  simp only [subs] at dv' dv2
  simp only [walk, lists, acts, mem, plain, seqs, maps, cells, resL, resV, intBin, ↓reduceIte, Nat.reduceAdd, Nat.reduceSub, Nat.reduceMul, Nat.reduceLeDiff, Nat.reduceEqDiff, Int.reduceToNat, Int.reduceEq, Int.reduceLT, Int.reduceLE, Int.reduceNeg, Int.reduceAdd, Int.reduceSub, Int.reduceMul, Nat.reducePow, Int.reduceNegSucc, wWord, apps, h1, ds', dp', dv']
  refine ⟨_, ?_, kr gs' gp' gv' ⟨os', op', ov', dp2.1, dv2.1, dv2.2.1⟩ ds'.2.2.2 dp'.2.2.2 dv'.2.2.2⟩
  (repeat' first | exact Sub.refl _ | exact Sub.nil _ | assumption | refine Sub.both ?_ ?_ | refine Sub.cons_of (by simp only [subs, h1, ds', ds2, dp', dp2, dv', dv2]) ?_ | exact Sub.left _ _ | refine Sub.app (by simp only [subs, h1, ds', ds2, dp', dp2, dv', dv2]) ?_ | refine Sub.cons (by simp only [subs, h1, ds', ds2, dp', dp2, dv', dv2]) ?_)

theorem heldPairS_c {h : H} {v : Value} {l : List (Int × Int)} {k : Int} (r : rPairs h v l) (hm : l = mkp k l.length) (hl : l.length ≤ 1099511627776) (hk : 0 ≤ k ∧ k ≤ 1099511627776000) {R : Ending → H → Prop}
    (kr : R (.returned (.int .i64 (k + 2 * l.length))) h) : HCalls Try.prog 37 #[v, .int .i64 k] h R := by
  refine HCalls_ir (args := [v, .int .i64 k]) Try.func37 ir37 ?_
  simp only [walk, lists, acts, mem, plain, seqs, maps, cells, resL, resV, intBin, ↓reduceIte, Nat.reduceAdd, Nat.reduceSub, Nat.reduceMul, Nat.reduceLeDiff, Nat.reduceEqDiff, Int.reduceToNat, Int.reduceEq, Int.reduceLT, Int.reduceLE, Int.reduceNeg, Int.reduceAdd, Int.reduceSub, Int.reduceMul, Nat.reducePow, Int.reduceNegSucc]
  refine vc_loop [5, 1] (fun n vs h' => ∃ (i : Nat), vs = [.int .i64 i, .int .i64 (k + 2 * i)] ∧ h' = h ∧ i ≤ l.length ∧ n = l.length - i) l.length rfl ⟨0, by simp, rfl, by omega, rfl⟩ ?_
  rintro n f h' ⟨i, hv, rfl, hi, rfl⟩
  simp only [List.map_cons, List.map_nil, List.cons.injEq, and_true] at hv
  simp only [walk, lists, acts, mem, plain, seqs, maps, cells, resL, resV, intBin, ↓reduceIte, Nat.reduceAdd, Nat.reduceSub, Nat.reduceMul, Nat.reduceLeDiff, Nat.reduceEqDiff, Int.reduceToNat, Int.reduceEq, Int.reduceLT, Int.reduceLE, Int.reduceNeg, Int.reduceAdd, Int.reduceSub, Int.reduceMul, Nat.reducePow, Int.reduceNegSucc, wr, hv.1, hv.2, r.len]
  split
  · rename_i c1
    have hx : l[i]'(by omega) = (k + 2 * i, k + 2 * i + 1) := by
      have : ∀ (m : List (Int × Int)) (hi : i < m.length), m = mkp k l.length → m[i] = (k + 2 * i, k + 2 * i + 1) := by rintro m hi rfl; exact mkp_at _ _ _ _
      exact this l _ hm
    refine idx_leaf (i := i) eP_len r rfl (by omega) fun b1 o1 e1 => ?_
    rw [hx] at e1
    have e10 := hread_c e1 0 rfl
    have e11 := hread_c e1 1 rfl
    rw [Nat.add_zero] at e10
    simp only [walk, lists, acts, mem, plain, seqs, maps, cells, resL, resV, intBin, ↓reduceIte, Nat.reduceAdd, Nat.reduceSub, Nat.reduceMul, Nat.reduceLeDiff, Nat.reduceEqDiff, Int.reduceToNat, Int.reduceEq, Int.reduceLT, Int.reduceLE, Int.reduceNeg, Int.reduceAdd, Int.reduceSub, Int.reduceMul, Nat.reducePow, Int.reduceNegSucc, e10]
    refine idx_leaf (i := i) eP_len r rfl (by omega) fun b2 o2 e2 => ?_
    rw [hx] at e2
    have e21 := hread_c e2 1 rfl
    simp (disch := omega) only [walk, lists, acts, mem, plain, seqs, maps, cells, resL, resV, intBin, ↓reduceIte, Nat.reduceAdd, Nat.reduceSub, Nat.reduceMul, Nat.reduceLeDiff, Nat.reduceEqDiff, Int.reduceToNat, Int.reduceEq, Int.reduceLT, Int.reduceLE, Int.reduceNeg, Int.reduceAdd, Int.reduceSub, Int.reduceMul, Nat.reducePow, Int.reduceNegSucc, e21, wrapI]
    exact ⟨l.length - (i + 1), by omega, h', .refl _, i + 1, by simp; omega, rfl, by omega, rfl⟩
  · rename_i c1
    have hi' : i = l.length := by omega
    subst hi'
    exact .of kr

theorem heldWord_c {h : H} {w : DWord} {s p v : Value} {k : Int} (r : sWord h w s p v) (h1 : w.slots = mks k w.slots.length) (h2 : w.pairs = mkp (k + w.slots.length) w.pairs.length) (h3 : w.vals = mks (k + w.slots.length + 2 * w.pairs.length) w.vals.length)
    (hw : wLen w) (hk : 0 ≤ k ∧ k ≤ 1099511627776) {R : Ending → H → Prop} (kr : R (.returned (.int .i64 (k + w.slots.length + 2 * w.pairs.length + w.vals.length))) h) :
    HCalls Try.prog 14 #[.agg (cWord w s p v).toArray, .int .i64 k] h R := by
  refine HCalls_ir (args := [.agg (cWord w s p v).toArray, .int .i64 k]) Try.func14 ir14 ?_
  obtain ⟨hs, hp, hv⟩ := hw
  simp only [walk, lists, acts, mem, plain, seqs, maps, cells, resL, resV, intBin, ↓reduceIte, Nat.reduceAdd, Nat.reduceSub, Nat.reduceMul, Nat.reduceLeDiff, Nat.reduceEqDiff, Int.reduceToNat, Int.reduceEq, Int.reduceLT, Int.reduceLE, Int.reduceNeg, Int.reduceAdd, Int.reduceSub, Int.reduceMul, Nat.reducePow, Int.reduceNegSucc, wWord]
  refine newB_intro fun j hj => ?_
  simp only [walk, lists, acts, mem, plain, seqs, maps, cells, resL, resV, intBin, ↓reduceIte, Nat.reduceAdd, Nat.reduceSub, Nat.reduceMul, Nat.reduceLeDiff, Nat.reduceEqDiff, Int.reduceToNat, Int.reduceEq, Int.reduceLT, Int.reduceLE, Int.reduceNeg, Int.reduceAdd, Int.reduceSub, Int.reduceMul, Nat.reducePow, Int.reduceNegSucc, wWord]
  have sb := fun o => Sub.cons (o := o) hj (Sub.refl h)
  refine heldIntS_c (r.1.sub (sb _)) h1 hs (by omega) ?_
  have n1 : ¬ (k + w.slots.length < 0) := by omega
  have n2 : ¬ (k + w.slots.length + 2 * w.pairs.length < 0) := by omega
  have n3 : ¬ (k + w.slots.length + 2 * w.pairs.length + w.vals.length < 0) := by omega
  simp only [walk, lists, acts, mem, plain, seqs, maps, cells, resL, resV, intBin, ↓reduceIte, Nat.reduceAdd, Nat.reduceSub, Nat.reduceMul, Nat.reduceLeDiff, Nat.reduceEqDiff, Int.reduceToNat, Int.reduceEq, Int.reduceLT, Int.reduceLE, Int.reduceNeg, Int.reduceAdd, Int.reduceSub, Int.reduceMul, Nat.reducePow, Int.reduceNegSucc, wWord, n1]
  refine heldPairS_c (r.2.1.sub (sb _)) h2 hp (by omega) ?_
  simp only [walk, lists, acts, mem, plain, seqs, maps, cells, resL, resV, intBin, ↓reduceIte, Nat.reduceAdd, Nat.reduceSub, Nat.reduceMul, Nat.reduceLeDiff, Nat.reduceEqDiff, Int.reduceToNat, Int.reduceEq, Int.reduceLT, Int.reduceLE, Int.reduceNeg, Int.reduceAdd, Int.reduceSub, Int.reduceMul, Nat.reducePow, Int.reduceNegSucc, wWord, n2]
  refine heldIntS_c (r.2.2.sub (sb _)) h3 hv (by omega) ?_
  simp only [walk, lists, acts, mem, plain, seqs, maps, cells, resL, resV, intBin, ↓reduceIte, Nat.reduceAdd, Nat.reduceSub, Nat.reduceMul, Nat.reduceLeDiff, Nat.reduceEqDiff, Int.reduceToNat, Int.reduceEq, Int.reduceLT, Int.reduceLE, Int.reduceNeg, Int.reduceAdd, Int.reduceSub, Int.reduceMul, Nat.reducePow, Int.reduceNegSucc, wWord, n3]
  exact ⟨h, sb _, kr⟩

theorem toByteS_c {h : H} {a : Value} {l : List UInt8} (r : rIn h eB 1 a l) (hl : l.length ≤ 1099511627776) {R : Ending → H → Prop} (k : ∀ v g, oLs 5 eB 1 v l g → Dj g h → R (.returned v) (g ++ h)) : HCalls Try.prog 8 #[a] h R := by
  refine HCalls_ir (args := [a]) Try.func8 ir8 ?_
  simp only [walk, lists, acts, mem, plain, seqs, maps, cells, resL, resV, intBin, ↓reduceIte, Nat.reduceAdd, Nat.reduceSub, Nat.reduceMul, Nat.reduceLeDiff, Nat.reduceEqDiff, Int.reduceToNat, Int.reduceEq, Int.reduceLT, Int.reduceLE, Int.reduceNeg, Int.reduceAdd, Int.reduceSub, Int.reduceMul, Nat.reducePow, Int.reduceNegSucc, r.len]
  refine ⟨⟨by omega, by omega, by omega, by omega⟩, newB_intro fun j hj => ?_⟩
  rw [zB]
  simp only [walk, lists, acts, mem, plain, seqs, maps, cells, resL, resV, intBin, ↓reduceIte, Nat.reduceAdd, Nat.reduceSub, Nat.reduceMul, Nat.reduceLeDiff, Nat.reduceEqDiff, Int.reduceToNat, Int.reduceEq, Int.reduceLT, Int.reduceLE, Int.reduceNeg, Int.reduceAdd, Int.reduceSub, Int.reduceMul, Nat.reducePow, Int.reduceNegSucc]
  have hr : (List.replicate l.length (0 : UInt8)).length = l.length := by simp
  have o0 : oLs 5 eB 1 (.slice (some ⟨j, 0, none⟩) l.length l.length) (List.replicate l.length 0) [(j, blk (fl eB (List.replicate l.length 0)) 5)] := by
    have := oLs_new (e := 5) eB_len (j := j) (l := List.replicate l.length (0 : UInt8))
    rw [hr] at this; exact this
  obtain ⟨V, hV⟩ : ∃ V, V = Value.slice (some ⟨j, 0, none⟩) l.length l.length := ⟨_, rfl⟩
  rw [← hV] at o0 ⊢
  refine vc_loop [4] (fun n vs h' => ∃ (i : Nat) (g' : H), vs = [.int .i64 i] ∧ h' = g' ++ h ∧ Dj g' h ∧ oLs 5 eB 1 V (l.take i ++ (List.replicate l.length 0).drop i) g' ∧ i ≤ l.length ∧ n = l.length - i) l.length rfl
    ⟨0, _, rfl, rfl, Dj.one hj, by simpa using o0, by omega, rfl⟩ ?_
  rintro n f h' ⟨i, g', hv, rfl, dj', o', hi, rfl⟩
  simp only [List.map_cons, List.map_nil, List.cons.injEq, and_true] at hv
  simp only [walk, lists, acts, mem, plain, seqs, maps, cells, resL, resV, intBin, ↓reduceIte, Nat.reduceAdd, Nat.reduceSub, Nat.reduceMul, Nat.reduceLeDiff, Nat.reduceEqDiff, Int.reduceToNat, Int.reduceEq, Int.reduceLT, Int.reduceLE, Int.reduceNeg, Int.reduceAdd, Int.reduceSub, Int.reduceMul, Nat.reducePow, Int.reduceNegSucc, wr, hv, r.len]
  split
  · rename_i c1
    refine idx_in (i := i) eB_len (r.sub (Sub.right dj')) rfl (by omega) fun b1 o1 e1 => ?_
    simp only [walk, lists, acts, mem, plain, seqs, maps, cells, resL, resV, intBin, ↓reduceIte, Nat.reduceAdd, Nat.reduceSub, Nat.reduceMul, Nat.reduceLeDiff, Nat.reduceEqDiff, Int.reduceToNat, Int.reduceEq, Int.reduceLT, Int.reduceLE, Int.reduceNeg, Int.reduceAdd, Int.reduceSub, Int.reduceMul, Nat.reducePow, Int.reduceNegSucc, hread_1 e1]
    refine own_idx (i := i) eB_len o' rfl (by simp; omega) fun b cap sp hv' hc hs hg => ?_
    subst hg
    simp only [walk, lists, acts, mem, plain, seqs, maps, cells, resL, resV, intBin, ↓reduceIte, Nat.reduceAdd, Nat.reduceSub, Nat.reduceMul, Nat.reduceLeDiff, Nat.reduceEqDiff, Int.reduceToNat, Int.reduceEq, Int.reduceLT, Int.reduceLE, Int.reduceNeg, Int.reduceAdd, Int.reduceSub, Int.reduceMul, Nat.reducePow, Int.reduceNegSucc]
    refine st_own (i := i) (a' := l[i]'(by omega)) (off := 0) eB_len (by omega) (by simp; omega) rfl (by omega) rfl ?_
    simp only [walk, lists, acts, mem, plain, seqs, maps, cells, resL, resV, intBin, ↓reduceIte, Nat.reduceAdd, Nat.reduceSub, Nat.reduceMul, Nat.reduceLeDiff, Nat.reduceEqDiff, Int.reduceToNat, Int.reduceEq, Int.reduceLT, Int.reduceLE, Int.reduceNeg, Int.reduceAdd, Int.reduceSub, Int.reduceMul, Nat.reducePow, Int.reduceNegSucc]
    simp (disch := omega) only [wrapI]
    refine ⟨l.length - (i + 1), by omega, _, .refl _, i + 1, _, by simp, rfl, Dj.one dj'.one', ?_, by omega, rfl⟩
    rw [← take_set (by omega) hr]
    exact own_set eB_len hv' hc hs
  · rename_i c1
    have hi' : i = l.length := by omega
    subst hi'
    have o2 : oLs 5 eB 1 V l g' := by simpa using o'
    exact .of (k _ g' o2 dj')
end Go.Proofs.Ytllhdnfcneejaaa
