/- Parts of the proof, put together: T3, T28, T42. -/
import Derived.Test.YtllhdnfcneejaaaK314
import Derived.Test.YtllhdnfcneejaaaK38
import Derived.Test.YtllhdnfcneejaaaK35
import Derived.Test.YtllhdnfcneejaaaK310
import Derived.Test.YtllhdnfcneejaaaK312
/- What the laws compare and mark: words. -/
section
set_option linter.unusedVariables false
set_option linter.unusedSimpArgs false
set_option maxRecDepth 20000
attribute [local irreducible] Go.Tk.vc Go.Tk.vops Go.Tk.vdr Go.Tk.vop Go.Tk.vfl Go.Tk.HCalls
namespace Go.Proofs.Ytllhdnfcneejaaa
open Go Go.Tk

theorem eqPair_c {h : H} {x y : Int × Int} {R : Ending → H → Prop} (k : R (.returned (.bool (decide (x = y)))) h) : HCalls Try.prog 80 #[.agg (eP x).toArray, .agg (eP y).toArray] h R := by
  refine HCalls_ir (args := [.agg (eP x).toArray, .agg (eP y).toArray]) Try.func80 ir80 ?_
  simp only [walk, lists, acts, mem, plain, seqs, maps, cells, resL, resV, intBin, ↓reduceIte, Nat.reduceAdd, Nat.reduceSub, Nat.reduceMul, Nat.reduceLeDiff, Nat.reduceEqDiff, Int.reduceToNat, Int.reduceEq, Int.reduceLT, Int.reduceLE, Int.reduceNeg, Int.reduceAdd, Int.reduceSub, Int.reduceMul, Nat.reducePow, Int.reduceNegSucc, wPair]
  refine newB_intro fun j1 h1 => ?_
  simp only [walk, lists, acts, mem, plain, seqs, maps, cells, resL, resV, intBin, ↓reduceIte, Nat.reduceAdd, Nat.reduceSub, Nat.reduceMul, Nat.reduceLeDiff, Nat.reduceEqDiff, Int.reduceToNat, Int.reduceEq, Int.reduceLT, Int.reduceLE, Int.reduceNeg, Int.reduceAdd, Int.reduceSub, Int.reduceMul, Nat.reducePow, Int.reduceNegSucc, wPair]
  refine newB_intro fun j2 h2 => ?_
  have n := fresh h2
  simp only [walk, lists, acts, mem, plain, seqs, maps, cells, resL, resV, intBin, ↓reduceIte, Nat.reduceAdd, Nat.reduceSub, Nat.reduceMul, Nat.reduceLeDiff, Nat.reduceEqDiff, Int.reduceToNat, Int.reduceEq, Int.reduceLT, Int.reduceLE, Int.reduceNeg, Int.reduceAdd, Int.reduceSub, Int.reduceMul, Nat.reducePow, Int.reduceNegSucc, wPair, n.1, n.2.1]
  refine ite_ne (fun d => ⟨h, Sub.cons h2 (Sub.cons h1 (Sub.refl h)), kF k (fun e => d (by rw [e]))⟩) fun d0 => ?_
  refine ite_ne (fun d => ⟨h, Sub.cons h2 (Sub.cons h1 (Sub.refl h)), kF k (fun e => d (by rw [e]))⟩) fun d1 => ?_
  exact ⟨h, Sub.cons h2 (Sub.cons h1 (Sub.refl h)), kT k (Prod.ext d0 d1)⟩

theorem eqCall_c {h : H} {x y : DCall} {R : Ending → H → Prop} (k : R (.returned (.bool (decide (x = y)))) h) : HCalls Try.prog 33 #[.agg (cCall x).toArray, .agg (cCall y).toArray] h R := by
  refine HCalls_ir (args := [.agg (cCall x).toArray, .agg (cCall y).toArray]) Try.func33 ir33 ?_
  simp only [walk, lists, acts, mem, plain, seqs, maps, cells, resL, resV, intBin, ↓reduceIte, Nat.reduceAdd, Nat.reduceSub, Nat.reduceMul, Nat.reduceLeDiff, Nat.reduceEqDiff, Int.reduceToNat, Int.reduceEq, Int.reduceLT, Int.reduceLE, Int.reduceNeg, Int.reduceAdd, Int.reduceSub, Int.reduceMul, Nat.reducePow, Int.reduceNegSucc, wCall]
  refine newB_intro fun j1 h1 => ?_
  simp only [walk, lists, acts, mem, plain, seqs, maps, cells, resL, resV, intBin, ↓reduceIte, Nat.reduceAdd, Nat.reduceSub, Nat.reduceMul, Nat.reduceLeDiff, Nat.reduceEqDiff, Int.reduceToNat, Int.reduceEq, Int.reduceLT, Int.reduceLE, Int.reduceNeg, Int.reduceAdd, Int.reduceSub, Int.reduceMul, Nat.reducePow, Int.reduceNegSucc, wCall]
  refine newB_intro fun j2 h2 => ?_
  have n := fresh h2
  simp only [walk, lists, acts, mem, plain, seqs, maps, cells, resL, resV, intBin, ↓reduceIte, Nat.reduceAdd, Nat.reduceSub, Nat.reduceMul, Nat.reduceLeDiff, Nat.reduceEqDiff, Int.reduceToNat, Int.reduceEq, Int.reduceLT, Int.reduceLE, Int.reduceNeg, Int.reduceAdd, Int.reduceSub, Int.reduceMul, Nat.reducePow, Int.reduceNegSucc, wCall, n.1, n.2.1, strBin, str_inj]
  refine ite_ne (fun d => ⟨h, Sub.cons h2 (Sub.cons h1 (Sub.refl h)), kF k (fun e => d (by rw [e]))⟩) fun d0 => ?_
  refine ite_ne (fun d => ⟨h, Sub.cons h2 (Sub.cons h1 (Sub.refl h)), kF k (fun e => d (by rw [e]))⟩) fun d1 => ?_
  refine ite_ne (fun d => ⟨h, Sub.cons h2 (Sub.cons h1 (Sub.refl h)), kF k (fun e => d (by rw [e]))⟩) fun d2 => ?_
  refine ite_ne (fun d => ⟨h, Sub.cons h2 (Sub.cons h1 (Sub.refl h)), kF k (fun e => d (by rw [e]))⟩) fun d3 => ?_
  refine ite_ne (fun d => ⟨h, Sub.cons h2 (Sub.cons h1 (Sub.refl h)), kF k (fun e => d (by rw [e]))⟩) fun d4 => ?_
  refine ite_ne (fun d => ⟨h, Sub.cons h2 (Sub.cons h1 (Sub.refl h)), kF k (fun e => d (by rw [e]))⟩) fun d5 => ?_
  refine ⟨h, Sub.cons h2 (Sub.cons h1 (Sub.refl h)), kT k ?_⟩
  cases x; cases y; simp_all

theorem eqPairS_c {h : H} {a b : Value} {la lb : List (Int × Int)} (ra : rPairs h a la) (rb : rPairs h b lb) (ha : la.length ≤ 1099511627776) {R : Ending → H → Prop} (k : R (.returned (.bool (decide (la = lb)))) h) :
    HCalls Try.prog 32 #[a, b] h R := by
  refine HCalls_ir (args := [a, b]) Try.func32 ir32 ?_
  simp only [walk, lists, acts, mem, plain, seqs, maps, cells, resL, resV, intBin, ↓reduceIte, Nat.reduceAdd, Nat.reduceSub, Nat.reduceMul, Nat.reduceLeDiff, Nat.reduceEqDiff, Int.reduceToNat, Int.reduceEq, Int.reduceLT, Int.reduceLE, Int.reduceNeg, Int.reduceAdd, Int.reduceSub, Int.reduceMul, Nat.reducePow, Int.reduceNegSucc, ra.len, rb.len]
  split
  · rename_i c
    exact .of (kF k fun e => c (by rw [e]))
  · rename_i c
    have hl : la.length = lb.length := by omega
    refine vc_loop [5] (fun n vs h' => ∃ i : Nat, vs = [.int .i64 i] ∧ h' = h ∧ i ≤ la.length ∧ n = la.length - i ∧ la.take i = lb.take i) la.length rfl ⟨0, rfl, rfl, by omega, by omega, by simp⟩ ?_
    rintro n f h' ⟨i, hv, rfl, hi, rfl, ht⟩
    simp only [List.map_cons, List.map_nil, List.cons.injEq, and_true] at hv
    simp only [walk, lists, acts, mem, plain, seqs, maps, cells, resL, resV, intBin, ↓reduceIte, Nat.reduceAdd, Nat.reduceSub, Nat.reduceMul, Nat.reduceLeDiff, Nat.reduceEqDiff, Int.reduceToNat, Int.reduceEq, Int.reduceLT, Int.reduceLE, Int.reduceNeg, Int.reduceAdd, Int.reduceSub, Int.reduceMul, Nat.reducePow, Int.reduceNegSucc, wr, hv, ra.len, rb.len]
    split
    · rename_i c1
      refine vc_draw h' (Sub.refl _) ?_
      simp only [walk, lists, acts, mem, plain, seqs, maps, cells, resL, resV, intBin, ↓reduceIte, Nat.reduceAdd, Nat.reduceSub, Nat.reduceMul, Nat.reduceLeDiff, Nat.reduceEqDiff, Int.reduceToNat, Int.reduceEq, Int.reduceLT, Int.reduceLE, Int.reduceNeg, Int.reduceAdd, Int.reduceSub, Int.reduceMul, Nat.reducePow, Int.reduceNegSucc]
      refine idx_leaf (i := i) eP_len ra rfl (by omega) fun b1 o1 e1 => ?_
      simp only [walk, lists, acts, mem, plain, seqs, maps, cells, resL, resV, intBin, ↓reduceIte, Nat.reduceAdd, Nat.reduceSub, Nat.reduceMul, Nat.reduceLeDiff, Nat.reduceEqDiff, Int.reduceToNat, Int.reduceEq, Int.reduceLT, Int.reduceLE, Int.reduceNeg, Int.reduceAdd, Int.reduceSub, Int.reduceMul, Nat.reducePow, Int.reduceNegSucc, e1]
      refine idx_leaf (i := i) eP_len rb rfl (by omega) fun b2 o2 e2 => ?_
      simp only [walk, lists, acts, mem, plain, seqs, maps, cells, resL, resV, intBin, ↓reduceIte, Nat.reduceAdd, Nat.reduceSub, Nat.reduceMul, Nat.reduceLeDiff, Nat.reduceEqDiff, Int.reduceToNat, Int.reduceEq, Int.reduceLT, Int.reduceLE, Int.reduceNeg, Int.reduceAdd, Int.reduceSub, Int.reduceMul, Nat.reducePow, Int.reduceNegSucc, e2]
      refine eqPair_c ?_
      simp only [walk, lists, acts, mem, plain, seqs, maps, cells, resL, resV, intBin, ↓reduceIte, Nat.reduceAdd, Nat.reduceSub, Nat.reduceMul, Nat.reduceLeDiff, Nat.reduceEqDiff, Int.reduceToNat, Int.reduceEq, Int.reduceLT, Int.reduceLE, Int.reduceNeg, Int.reduceAdd, Int.reduceSub, Int.reduceMul, Nat.reducePow, Int.reduceNegSucc]
      refine ite_ne (fun d => .of (kF k (ne_at _ _ d))) fun d => ?_
      simp (disch := omega) only [wrapI]
      exact ⟨la.length - (i + 1), by omega, h', .refl _, i + 1, by simp, rfl, by omega, rfl, take_more _ _ ht d⟩
    · rename_i c1
      exact .of (kT k (take_all (by omega) hl ht))

theorem eqWord_c {h : H} {x y : DWord} {s p v s' p' v' : Value} (rx : sWord h x s p v) (ry : sWord h y s' p' v') (hx : wLen x) {R : Ending → H → Prop} (k : R (.returned (.bool (decide (x = y)))) h) :
    HCalls Try.prog 10 #[.agg (cWord x s p v).toArray, .agg (cWord y s' p' v').toArray] h R := by
  refine HCalls_ir (args := [.agg (cWord x s p v).toArray, .agg (cWord y s' p' v').toArray]) Try.func10 ir10 ?_
  simp only [walk, lists, acts, mem, plain, seqs, maps, cells, resL, resV, intBin, ↓reduceIte, Nat.reduceAdd, Nat.reduceSub, Nat.reduceMul, Nat.reduceLeDiff, Nat.reduceEqDiff, Int.reduceToNat, Int.reduceEq, Int.reduceLT, Int.reduceLE, Int.reduceNeg, Int.reduceAdd, Int.reduceSub, Int.reduceMul, Nat.reducePow, Int.reduceNegSucc, wWord]
  refine newB_intro fun j1 h1 => ?_
  simp only [walk, lists, acts, mem, plain, seqs, maps, cells, resL, resV, intBin, ↓reduceIte, Nat.reduceAdd, Nat.reduceSub, Nat.reduceMul, Nat.reduceLeDiff, Nat.reduceEqDiff, Int.reduceToNat, Int.reduceEq, Int.reduceLT, Int.reduceLE, Int.reduceNeg, Int.reduceAdd, Int.reduceSub, Int.reduceMul, Nat.reducePow, Int.reduceNegSucc, wWord, wCall]
  refine newB_intro fun j2 h2 => ?_
  have n := fresh h2
  simp only [walk, lists, acts, mem, plain, seqs, maps, cells, resL, resV, intBin, ↓reduceIte, Nat.reduceAdd, Nat.reduceSub, Nat.reduceMul, Nat.reduceLeDiff, Nat.reduceEqDiff, Int.reduceToNat, Int.reduceEq, Int.reduceLT, Int.reduceLE, Int.reduceNeg, Int.reduceAdd, Int.reduceSub, Int.reduceMul, Nat.reducePow, Int.reduceNegSucc, wWord, wCall, n.1, n.2.1]
  have sb := fun o => Sub.cons (o := o) h2 (Sub.cons h1 (Sub.refl h))
  refine ite_ne (fun d => ⟨h, Sub.cons h2 (Sub.cons h1 (Sub.refl h)), kF k (fun e => d (by rw [e]))⟩) fun d0 => ?_
  refine ite_ne (fun d => ⟨h, Sub.cons h2 (Sub.cons h1 (Sub.refl h)), kF k (fun e => d (by rw [e]))⟩) fun d1 => ?_
  refine ite_ne (fun d => ⟨h, Sub.cons h2 (Sub.cons h1 (Sub.refl h)), kF k (fun e => d (by rw [e]))⟩) fun d2 => ?_
  refine ite_ne (fun d => ⟨h, Sub.cons h2 (Sub.cons h1 (Sub.refl h)), kF k (fun e => d (by rw [e]))⟩) fun d3 => ?_
  refine ite_ne (fun d => ⟨h, Sub.cons h2 (Sub.cons h1 (Sub.refl h)), kF k (fun e => d (by rw [e]))⟩) fun d4 => ?_
  refine ite_ne (fun d => ⟨h, Sub.cons h2 (Sub.cons h1 (Sub.refl h)), kF k (fun e => d (by rw [e]))⟩) fun d5 => ?_
  refine ite_eqb (fun d => ⟨h, Sub.cons h2 (Sub.cons h1 (Sub.refl h)), kF k (fun e => d (by rw [e]))⟩) fun d6 => ?_
  refine eqIntS_c (rx.1.sub (sb _)) (ry.1.sub (sb _)) hx.1 ?_
  simp only [walk, lists, acts, mem, plain, seqs, maps, cells, resL, resV, intBin, ↓reduceIte, Nat.reduceAdd, Nat.reduceSub, Nat.reduceMul, Nat.reduceLeDiff, Nat.reduceEqDiff, Int.reduceToNat, Int.reduceEq, Int.reduceLT, Int.reduceLE, Int.reduceNeg, Int.reduceAdd, Int.reduceSub, Int.reduceMul, Nat.reducePow, Int.reduceNegSucc, wWord, wCall]
  refine ite_ne (fun d => ⟨h, Sub.cons h2 (Sub.cons h1 (Sub.refl h)), kF k (fun e => d (by rw [e]))⟩) fun d7 => ?_
  simp only [n.1, n.2.1, walk, lists, acts, mem, plain, seqs, maps, cells, resL, resV, intBin, ↓reduceIte, Nat.reduceAdd, Nat.reduceSub, Nat.reduceMul, Nat.reduceLeDiff, Nat.reduceEqDiff, Int.reduceToNat, Int.reduceEq, Int.reduceLT, Int.reduceLE, Int.reduceNeg, Int.reduceAdd, Int.reduceSub, Int.reduceMul, Nat.reducePow, Int.reduceNegSucc, wWord, wCall]
  refine eqPairS_c (rx.2.1.sub (sb _)) (ry.2.1.sub (sb _)) hx.2.1 ?_
  simp only [walk, lists, acts, mem, plain, seqs, maps, cells, resL, resV, intBin, ↓reduceIte, Nat.reduceAdd, Nat.reduceSub, Nat.reduceMul, Nat.reduceLeDiff, Nat.reduceEqDiff, Int.reduceToNat, Int.reduceEq, Int.reduceLT, Int.reduceLE, Int.reduceNeg, Int.reduceAdd, Int.reduceSub, Int.reduceMul, Nat.reducePow, Int.reduceNegSucc, wWord, wCall, n.1, n.2.1]
  refine ite_ne (fun d => ⟨h, Sub.cons h2 (Sub.cons h1 (Sub.refl h)), kF k (fun e => d (by rw [e]))⟩) fun d8 => ?_
  refine ite_ne (fun d => ⟨h, Sub.cons h2 (Sub.cons h1 (Sub.refl h)), kF k (fun e => d (by rw [e]))⟩) fun d9 => ?_
  refine eqIntS_c (rx.2.2.sub (sb _)) (ry.2.2.sub (sb _)) hx.2.2 ?_
  simp only [walk, lists, acts, mem, plain, seqs, maps, cells, resL, resV, intBin, ↓reduceIte, Nat.reduceAdd, Nat.reduceSub, Nat.reduceMul, Nat.reduceLeDiff, Nat.reduceEqDiff, Int.reduceToNat, Int.reduceEq, Int.reduceLT, Int.reduceLE, Int.reduceNeg, Int.reduceAdd, Int.reduceSub, Int.reduceMul, Nat.reducePow, Int.reduceNegSucc, wWord, wCall, n.1, n.2.1]
  refine ite_ne (fun d => ⟨h, Sub.cons h2 (Sub.cons h1 (Sub.refl h)), kF k (fun e => d (by rw [e]))⟩) fun d10 => ?_
  refine eqCall_c (x := x.call) (y := y.call) ?_
  simp only [walk, lists, acts, mem, plain, seqs, maps, cells, resL, resV, intBin, ↓reduceIte, Nat.reduceAdd, Nat.reduceSub, Nat.reduceMul, Nat.reduceLeDiff, Nat.reduceEqDiff, Int.reduceToNat, Int.reduceEq, Int.reduceLT, Int.reduceLE, Int.reduceNeg, Int.reduceAdd, Int.reduceSub, Int.reduceMul, Nat.reducePow, Int.reduceNegSucc, wWord, wCall]
  refine ite_ne (fun d => ⟨h, Sub.cons h2 (Sub.cons h1 (Sub.refl h)), kF k (fun e => d (by rw [e]))⟩) fun d11 => ?_
  refine ⟨h, Sub.cons h2 (Sub.cons h1 (Sub.refl h)), kT k ?_⟩
  cases x; cases y; simp_all

theorem markWord_c {es ep ev : TypeId} {gs gp gv h0 : H} {w : DWord} {s p v : Value} {k : Int} (o : oWord es ep ev w s p v gs gp gv) (ds : Dj gs h0) (dp : Dj gp h0) (dv : Dj gv h0) (hw : wLen w) (hk : 0 ≤ k ∧ k ≤ 1099511627776) {R : Ending → H → Prop}
    (kr : ∀ gs' gp' gv', oWord es ep ev { w with slots := mks k w.slots.length, pairs := mkp (k + w.slots.length) w.pairs.length, vals := mks (k + w.slots.length + 2 * w.pairs.length) w.vals.length } s p v gs' gp' gv' → Dj gs' h0 → Dj gp' h0 → Dj gv' h0 →
      R (.returned (.int .i64 (k + w.slots.length + 2 * w.pairs.length + w.vals.length))) (gs' ++ (gp' ++ (gv' ++ h0)))) :
    HCalls Try.prog 13 #[.agg (cWord w s p v).toArray, .int .i64 k] (gs ++ (gp ++ (gv ++ h0))) R := by
  refine HCalls_ir (args := [.agg (cWord w s p v).toArray, .int .i64 k]) Try.func13 ir13 ?_
  obtain ⟨hs, hp, hv⟩ := hw
  obtain ⟨os, op, ov, sp, sv, pv⟩ := o
  simp only [walk, lists, acts, mem, plain, seqs, maps, cells, resL, resV, intBin, ↓reduceIte, Nat.reduceAdd, Nat.reduceSub, Nat.reduceMul, Nat.reduceLeDiff, Nat.reduceEqDiff, Int.reduceToNat, Int.reduceEq, Int.reduceLT, Int.reduceLE, Int.reduceNeg, Int.reduceAdd, Int.reduceSub, Int.reduceMul, Nat.reducePow, Int.reduceNegSucc, wWord]
  refine newB_intro fun j h1 => ?_
  simp only [walk, lists, acts, mem, plain, seqs, maps, cells, resL, resV, intBin, ↓reduceIte, Nat.reduceAdd, Nat.reduceSub, Nat.reduceMul, Nat.reduceLeDiff, Nat.reduceEqDiff, Int.reduceToNat, Int.reduceEq, Int.reduceLT, Int.reduceLE, Int.reduceNeg, Int.reduceAdd, Int.reduceSub, Int.reduceMul, Nat.reducePow, Int.reduceNegSucc, wWord]
  simp only [subs] at h1
  have sp2 := sp.symm
  have sv2 := sv.symm
  have pv2 := pv.symm
  refine (markIntS_c (g := gs) (h0 := gp ++ (gv ++ ((j, blk (cWord w s p v) 28) :: h0))) os (by simp only [subs, ds, sp, sv, h1]) hs (by omega) fun gs' os' ds' => ?_).weaken (by (repeat' first | exact Sub.refl _ | exact Sub.nil _ | assumption | refine Sub.both ?_ ?_ | refine Sub.cons_of (by simp only [subs, h1, ds, dp, dv, sp, sv, pv, sp2, sv2, pv2]) ?_ | exact Sub.left _ _ | refine Sub.app (by simp only [subs, h1, ds, dp, dv, sp, sv, pv, sp2, sv2, pv2]) ?_ | refine Sub.cons (by simp only [subs, h1, ds, dp, dv, sp, sv, pv, sp2, sv2, pv2]) ?_))
  have ds2 := ds'.symm
  simp only [subs] at ds' ds2
  simp only [walk, lists, acts, mem, plain, seqs, maps, cells, resL, resV, intBin, ↓reduceIte, Nat.reduceAdd, Nat.reduceSub, Nat.reduceMul, Nat.reduceLeDiff, Nat.reduceEqDiff, Int.reduceToNat, Int.reduceEq, Int.reduceLT, Int.reduceLE, Int.reduceNeg, Int.reduceAdd, Int.reduceSub, Int.reduceMul, Nat.reducePow, Int.reduceNegSucc, wWord, apps, h1, ds']
  refine (markPairS_c (g := gp) (h0 := gs' ++ (gv ++ ((j, blk (cWord w s p v) 28) :: h0))) op (by simp only [subs, dp, pv, h1, ds2]) hp (by omega) fun gp' op' dp' => ?_).weaken (by (repeat' first | exact Sub.refl _ | exact Sub.nil _ | assumption | refine Sub.both ?_ ?_ | refine Sub.cons_of (by simp only [subs, h1, ds', ds2, dp, dv, pv, pv2]) ?_ | exact Sub.left _ _ | refine Sub.app (by simp only [subs, h1, ds', ds2, dp, dv, pv, pv2]) ?_ | refine Sub.cons (by simp only [subs, h1, ds', ds2, dp, dv, pv, pv2]) ?_))
  have dp2 := dp'.symm
  simp only [subs] at dp' dp2
  simp only [walk, lists, acts, mem, plain, seqs, maps, cells, resL, resV, intBin, ↓reduceIte, Nat.reduceAdd, Nat.reduceSub, Nat.reduceMul, Nat.reduceLeDiff, Nat.reduceEqDiff, Int.reduceToNat, Int.reduceEq, Int.reduceLT, Int.reduceLE, Int.reduceNeg, Int.reduceAdd, Int.reduceSub, Int.reduceMul, Nat.reducePow, Int.reduceNegSucc, wWord, apps, h1, ds', dp']
  refine (markIntS_c (g := gv) (h0 := gs' ++ (gp' ++ ((j, blk (cWord w s p v) 28) :: h0))) ov (by simp only [subs, dv, h1, ds2, dp2]) hv (by omega) fun gv' ov' dv' => ?_).weaken (by (repeat' first | exact Sub.refl _ | exact Sub.nil _ | assumption | refine Sub.both ?_ ?_ | refine Sub.cons_of (by simp only [subs, h1, ds', ds2, dp', dp2, dv]) ?_ | exact Sub.left _ _ | refine Sub.app (by simp only [subs, h1, ds', ds2, dp', dp2, dv]) ?_ | refine Sub.cons (by simp only [subs, h1, ds', ds2, dp', dp2, dv]) ?_))
  have dv2 := dv'.symm
  simp only [subs] at dv' dv2
  simp only [walk, lists, acts, mem, plain, seqs, maps, cells, resL, resV, intBin, ↓reduceIte, Nat.reduceAdd, Nat.reduceSub, Nat.reduceMul, Nat.reduceLeDiff, Nat.reduceEqDiff, Int.reduceToNat, Int.reduceEq, Int.reduceLT, Int.reduceLE, Int.reduceNeg, Int.reduceAdd, Int.reduceSub, Int.reduceMul, Nat.reducePow, Int.reduceNegSucc, wWord, apps, h1, ds', dp', dv']
  refine ⟨_, ?_, kr gs' gp' gv' ⟨os', op', ov', dp2.1, dv2.1, dv2.2.1⟩ ds'.2.2.2 dp'.2.2.2 dv'.2.2.2⟩
  (repeat' first | exact Sub.refl _ | exact Sub.nil _ | assumption | refine Sub.both ?_ ?_ | refine Sub.cons_of (by simp only [subs, h1, ds', ds2, dp', dp2, dv', dv2]) ?_ | exact Sub.left _ _ | refine Sub.app (by simp only [subs, h1, ds', ds2, dp', dp2, dv', dv2]) ?_ | refine Sub.cons (by simp only [subs, h1, ds', ds2, dp', dp2, dv', dv2]) ?_)

theorem heldPairS_c {h : H} {v : Value} {l : List (Int × Int)} {k : Int} (r : rPairs h v l) (hm : l = mkp k l.length) (hl : l.length ≤ 1099511627776) (hk : 0 ≤ k ∧ k ≤ 1099511627776000) {R : Ending → H → Prop}
    (kr : R (.returned (.int .i64 (k + 2 * l.length))) h) : HCalls Try.prog 37 #[v, .int .i64 k] h R := by
  refine HCalls_ir (args := [v, .int .i64 k]) Try.func37 ir37 ?_
  simp only [walk, lists, acts, mem, plain, seqs, maps, cells, resL, resV, intBin, ↓reduceIte, Nat.reduceAdd, Nat.reduceSub, Nat.reduceMul, Nat.reduceLeDiff, Nat.reduceEqDiff, Int.reduceToNat, Int.reduceEq, Int.reduceLT, Int.reduceLE, Int.reduceNeg, Int.reduceAdd, Int.reduceSub, Int.reduceMul, Nat.reducePow, Int.reduceNegSucc]
  refine vc_loop [5, 1] (fun n vs h' => ∃ (i : Nat), vs = [.int .i64 i, .int .i64 (k + 2 * i)] ∧ h' = h ∧ i ≤ l.length ∧ n = l.length - i) l.length rfl ⟨0, by simp, rfl, by omega, rfl⟩ ?_
  rintro n f h' ⟨i, hv, rfl, hi, rfl⟩
  simp only [List.map_cons, List.map_nil, List.cons.injEq, and_true] at hv
  simp only [walk, lists, acts, mem, plain, seqs, maps, cells, resL, resV, intBin, ↓reduceIte, Nat.reduceAdd, Nat.reduceSub, Nat.reduceMul, Nat.reduceLeDiff, Nat.reduceEqDiff, Int.reduceToNat, Int.reduceEq, Int.reduceLT, Int.reduceLE, Int.reduceNeg, Int.reduceAdd, Int.reduceSub, Int.reduceMul, Nat.reducePow, Int.reduceNegSucc, wr, hv.1, hv.2, r.len]
  split
  · rename_i c1
    have hx : l[i]'(by omega) = (k + 2 * i, k + 2 * i + 1) := by
      have : ∀ (m : List (Int × Int)) (hi : i < m.length), m = mkp k l.length → m[i] = (k + 2 * i, k + 2 * i + 1) := by rintro m hi rfl; exact mkp_at _ _ _ _
      exact this l _ hm
    refine idx_leaf (i := i) eP_len r rfl (by omega) fun b1 o1 e1 => ?_
    rw [hx] at e1
    have e10 := hread_c e1 0 rfl
    have e11 := hread_c e1 1 rfl
    rw [Nat.add_zero] at e10
    simp only [walk, lists, acts, mem, plain, seqs, maps, cells, resL, resV, intBin, ↓reduceIte, Nat.reduceAdd, Nat.reduceSub, Nat.reduceMul, Nat.reduceLeDiff, Nat.reduceEqDiff, Int.reduceToNat, Int.reduceEq, Int.reduceLT, Int.reduceLE, Int.reduceNeg, Int.reduceAdd, Int.reduceSub, Int.reduceMul, Nat.reducePow, Int.reduceNegSucc, e10]
    refine idx_leaf (i := i) eP_len r rfl (by omega) fun b2 o2 e2 => ?_
    rw [hx] at e2
    have e21 := hread_c e2 1 rfl
    simp (disch := omega) only [walk, lists, acts, mem, plain, seqs, maps, cells, resL, resV, intBin, ↓reduceIte, Nat.reduceAdd, Nat.reduceSub, Nat.reduceMul, Nat.reduceLeDiff, Nat.reduceEqDiff, Int.reduceToNat, Int.reduceEq, Int.reduceLT, Int.reduceLE, Int.reduceNeg, Int.reduceAdd, Int.reduceSub, Int.reduceMul, Nat.reducePow, Int.reduceNegSucc, e21, wrapI]
    exact ⟨l.length - (i + 1), by omega, h', .refl _, i + 1, by simp; omega, rfl, by omega, rfl⟩
  · rename_i c1
    have hi' : i = l.length := by omega
    subst hi'
    exact .of kr

theorem heldWord_c {h : H} {w : DWord} {s p v : Value} {k : Int} (r : sWord h w s p v) (h1 : w.slots = mks k w.slots.length) (h2 : w.pairs = mkp (k + w.slots.length) w.pairs.length) (h3 : w.vals = mks (k + w.slots.length + 2 * w.pairs.length) w.vals.length)
    (hw : wLen w) (hk : 0 ≤ k ∧ k ≤ 1099511627776) {R : Ending → H → Prop} (kr : R (.returned (.int .i64 (k + w.slots.length + 2 * w.pairs.length + w.vals.length))) h) :
    HCalls Try.prog 14 #[.agg (cWord w s p v).toArray, .int .i64 k] h R := by
  refine HCalls_ir (args := [.agg (cWord w s p v).toArray, .int .i64 k]) Try.func14 ir14 ?_
  obtain ⟨hs, hp, hv⟩ := hw
  simp only [walk, lists, acts, mem, plain, seqs, maps, cells, resL, resV, intBin, ↓reduceIte, Nat.reduceAdd, Nat.reduceSub, Nat.reduceMul, Nat.reduceLeDiff, Nat.reduceEqDiff, Int.reduceToNat, Int.reduceEq, Int.reduceLT, Int.reduceLE, Int.reduceNeg, Int.reduceAdd, Int.reduceSub, Int.reduceMul, Nat.reducePow, Int.reduceNegSucc, wWord]
  refine newB_intro fun j hj => ?_
  simp only [walk, lists, acts, mem, plain, seqs, maps, cells, resL, resV, intBin, ↓reduceIte, Nat.reduceAdd, Nat.reduceSub, Nat.reduceMul, Nat.reduceLeDiff, Nat.reduceEqDiff, Int.reduceToNat, Int.reduceEq, Int.reduceLT, Int.reduceLE, Int.reduceNeg, Int.reduceAdd, Int.reduceSub, Int.reduceMul, Nat.reducePow, Int.reduceNegSucc, wWord]
  have sb := fun o => Sub.cons (o := o) hj (Sub.refl h)
  refine heldIntS_c (r.1.sub (sb _)) h1 hs (by omega) ?_
  have n1 : ¬ (k + w.slots.length < 0) := by omega
  have n2 : ¬ (k + w.slots.length + 2 * w.pairs.length < 0) := by omega
  have n3 : ¬ (k + w.slots.length + 2 * w.pairs.length + w.vals.length < 0) := by omega
  simp only [walk, lists, acts, mem, plain, seqs, maps, cells, resL, resV, intBin, ↓reduceIte, Nat.reduceAdd, Nat.reduceSub, Nat.reduceMul, Nat.reduceLeDiff, Nat.reduceEqDiff, Int.reduceToNat, Int.reduceEq, Int.reduceLT, Int.reduceLE, Int.reduceNeg, Int.reduceAdd, Int.reduceSub, Int.reduceMul, Nat.reducePow, Int.reduceNegSucc, wWord, n1]
  refine heldPairS_c (r.2.1.sub (sb _)) h2 hp (by omega) ?_
  simp only [walk, lists, acts, mem, plain, seqs, maps, cells, resL, resV, intBin, ↓reduceIte, Nat.reduceAdd, Nat.reduceSub, Nat.reduceMul, Nat.reduceLeDiff, Nat.reduceEqDiff, Int.reduceToNat, Int.reduceEq, Int.reduceLT, Int.reduceLE, Int.reduceNeg, Int.reduceAdd, Int.reduceSub, Int.reduceMul, Nat.reducePow, Int.reduceNegSucc, wWord, n2]
  refine heldIntS_c (r.2.2.sub (sb _)) h3 hv (by omega) ?_
  simp only [walk, lists, acts, mem, plain, seqs, maps, cells, resL, resV, intBin, ↓reduceIte, Nat.reduceAdd, Nat.reduceSub, Nat.reduceMul, Nat.reduceLeDiff, Nat.reduceEqDiff, Int.reduceToNat, Int.reduceEq, Int.reduceLT, Int.reduceLE, Int.reduceNeg, Int.reduceAdd, Int.reduceSub, Int.reduceMul, Nat.reducePow, Int.reduceNegSucc, wWord, n3]
  exact ⟨h, sb _, kr⟩

theorem toByteS_c {h : H} {a : Value} {l : List UInt8} (r : rIn h eB 1 a l) (hl : l.length ≤ 1099511627776) {R : Ending → H → Prop} (k : ∀ v g, oLs 5 eB 1 v l g → Dj g h → R (.returned v) (g ++ h)) : HCalls Try.prog 8 #[a] h R := by
  refine HCalls_ir (args := [a]) Try.func8 ir8 ?_
  simp only [walk, lists, acts, mem, plain, seqs, maps, cells, resL, resV, intBin, ↓reduceIte, Nat.reduceAdd, Nat.reduceSub, Nat.reduceMul, Nat.reduceLeDiff, Nat.reduceEqDiff, Int.reduceToNat, Int.reduceEq, Int.reduceLT, Int.reduceLE, Int.reduceNeg, Int.reduceAdd, Int.reduceSub, Int.reduceMul, Nat.reducePow, Int.reduceNegSucc, r.len]
  refine ⟨⟨by omega, by omega, by omega, by omega⟩, newB_intro fun j hj => ?_⟩
  rw [zB]
  simp only [walk, lists, acts, mem, plain, seqs, maps, cells, resL, resV, intBin, ↓reduceIte, Nat.reduceAdd, Nat.reduceSub, Nat.reduceMul, Nat.reduceLeDiff, Nat.reduceEqDiff, Int.reduceToNat, Int.reduceEq, Int.reduceLT, Int.reduceLE, Int.reduceNeg, Int.reduceAdd, Int.reduceSub, Int.reduceMul, Nat.reducePow, Int.reduceNegSucc]
  have hr : (List.replicate l.length (0 : UInt8)).length = l.length := by simp
  have o0 : oLs 5 eB 1 (.slice (some ⟨j, 0, none⟩) l.length l.length) (List.replicate l.length 0) [(j, blk (fl eB (List.replicate l.length 0)) 5)] := by
    have := oLs_new (e := 5) eB_len (j := j) (l := List.replicate l.length (0 : UInt8))
    rw [hr] at this; exact this
  obtain ⟨V, hV⟩ : ∃ V, V = Value.slice (some ⟨j, 0, none⟩) l.length l.length := ⟨_, rfl⟩
  rw [← hV] at o0 ⊢
  refine vc_loop [4] (fun n vs h' => ∃ (i : Nat) (g' : H), vs = [.int .i64 i] ∧ h' = g' ++ h ∧ Dj g' h ∧ oLs 5 eB 1 V (l.take i ++ (List.replicate l.length 0).drop i) g' ∧ i ≤ l.length ∧ n = l.length - i) l.length rfl
    ⟨0, _, rfl, rfl, Dj.one hj, by simpa using o0, by omega, rfl⟩ ?_
  rintro n f h' ⟨i, g', hv, rfl, dj', o', hi, rfl⟩
  simp only [List.map_cons, List.map_nil, List.cons.injEq, and_true] at hv
  simp only [walk, lists, acts, mem, plain, seqs, maps, cells, resL, resV, intBin, ↓reduceIte, Nat.reduceAdd, Nat.reduceSub, Nat.reduceMul, Nat.reduceLeDiff, Nat.reduceEqDiff, Int.reduceToNat, Int.reduceEq, Int.reduceLT, Int.reduceLE, Int.reduceNeg, Int.reduceAdd, Int.reduceSub, Int.reduceMul, Nat.reducePow, Int.reduceNegSucc, wr, hv, r.len]
  split
  · rename_i c1
    refine idx_in (i := i) eB_len (r.sub (Sub.right dj')) rfl (by omega) fun b1 o1 e1 => ?_
    simp only [walk, lists, acts, mem, plain, seqs, maps, cells, resL, resV, intBin, ↓reduceIte, Nat.reduceAdd, Nat.reduceSub, Nat.reduceMul, Nat.reduceLeDiff, Nat.reduceEqDiff, Int.reduceToNat, Int.reduceEq, Int.reduceLT, Int.reduceLE, Int.reduceNeg, Int.reduceAdd, Int.reduceSub, Int.reduceMul, Nat.reducePow, Int.reduceNegSucc, hread_1 e1]
    refine own_idx (i := i) eB_len o' rfl (by simp; omega) fun b cap sp hv' hc hs hg => ?_
    subst hg
    simp only [walk, lists, acts, mem, plain, seqs, maps, cells, resL, resV, intBin, ↓reduceIte, Nat.reduceAdd, Nat.reduceSub, Nat.reduceMul, Nat.reduceLeDiff, Nat.reduceEqDiff, Int.reduceToNat, Int.reduceEq, Int.reduceLT, Int.reduceLE, Int.reduceNeg, Int.reduceAdd, Int.reduceSub, Int.reduceMul, Nat.reducePow, Int.reduceNegSucc]
    refine st_own (i := i) (a' := l[i]'(by omega)) (off := 0) eB_len (by omega) (by simp; omega) rfl (by omega) rfl ?_
    simp only [walk, lists, acts, mem, plain, seqs, maps, cells, resL, resV, intBin, ↓reduceIte, Nat.reduceAdd, Nat.reduceSub, Nat.reduceMul, Nat.reduceLeDiff, Nat.reduceEqDiff, Int.reduceToNat, Int.reduceEq, Int.reduceLT, Int.reduceLE, Int.reduceNeg, Int.reduceAdd, Int.reduceSub, Int.reduceMul, Nat.reducePow, Int.reduceNegSucc]
    simp (disch := omega) only [wrapI]
    refine ⟨l.length - (i + 1), by omega, _, .refl _, i + 1, _, by simp, rfl, Dj.one dj'.one', ?_, by omega, rfl⟩
    rw [← take_set (by omega) hr]
    exact own_set eB_len hv' hc hs
  · rename_i c1
    have hi' : i = l.length := by omega
    subst hi'
    have o2 : oLs 5 eB 1 V l g' := by simpa using o'
    exact .of (k _ g' o2 dj')
end Go.Proofs.Ytllhdnfcneejaaa
end

/- What both read of bytes, and that they read the same. -/
section
set_option linter.unusedVariables false
set_option linter.unusedSimpArgs false
set_option maxRecDepth 20000
attribute [local irreducible] Go.Tk.vc Go.Tk.vops Go.Tk.vdr Go.Tk.vop Go.Tk.vfl Go.Tk.HCalls
namespace Go.Proofs.Ytllhdnfcneejaaa
open Go Go.Tk

/-- What is read of bytes. -/
def Out (l : List UInt8) (w : DWord) (ok : Bool) : Prop := (ok = true ∧ wordP w ∧ l = pack w ∧ ∀ w0, wordP w0 → l = pack w0 → w = w0) ∨ (ok = false ∧ w = zWord ∧ ∀ w0, wordP w0 → l ≠ pack w0)
theorem Out.same {l : List UInt8} {w w' : DWord} {ok ok' : Bool} (a : Out l w ok) (b : Out l w' ok') : w = w' ∧ ok = ok' := by
  rcases a with ⟨rfl, p, e, u⟩ | ⟨rfl, rfl, n⟩ <;> rcases b with ⟨rfl, p', e', u'⟩ | ⟨rfl, rfl, n'⟩
  · exact ⟨u _ p' e', rfl⟩
  · exact absurd e (n' _ p)
  · exact absurd e' (n _ p')
  · exact ⟨rfl, rfl⟩

theorem oW_nil (es ep ev : TypeId) : oWord es ep ev zWord (.slice none 0 0) (.slice none 0 0) (.slice none 0 0) [] [] [] := ⟨ows.nil _ _, ows.nil _ _, ows.nil _ _, Dj.nil _, Dj.nil _, Dj.nil _⟩

theorem specUnpack_u {h : H} {b : Value} {l : List UInt8} (rb : rBytes h b l) (hl : l.length ≤ 1099511627776) {R : Ending → H → Prop}
    (k : ∀ w ok s p v gs gp gv, Out l w ok → oWord 3 69 3 w s p v gs gp gv → wLen w → Dj gs h → Dj gp h → Dj gv h → R (.returned (.tuple #[.agg (cWord w s p v).toArray, .bool ok])) (gs ++ (gp ++ (gv ++ h)))) :
    HCalls Try.prog 7 #[b] h R :=
  specUnpack_c rb hl (fun w s p v gs gp gv h1 h2 h3 o hw ds dp dv => k w true s p v gs gp gv (.inl ⟨rfl, h1, h2, h3⟩) o hw ds dp dv)
    fun no => k zWord false _ _ _ [] [] [] (.inr ⟨rfl, rfl, no⟩) (oW_nil _ _ _) ⟨by decide, by decide, by decide⟩ (Dj.nil _) (Dj.nil _) (Dj.nil _)
theorem implUnpack_u {h : H} {b : Value} {l : List UInt8} (rb : rBytes h b l) (hl : l.length ≤ 1099511627776) {R : Ending → H → Prop}
    (k : ∀ w ok s p v gs gp gv, Out l w ok → oWord 3 69 3 w s p v gs gp gv → wLen w → Dj gs h → Dj gp h → Dj gv h → R (.returned (.tuple #[.agg (cWord w s p v).toArray, .bool ok])) (gs ++ (gp ++ (gv ++ h)))) :
    HCalls Try.prog 9 #[b] h R :=
  implUnpack_c rb hl (fun w s p v gs gp gv h1 h2 h3 o hw ds dp dv => k w true s p v gs gp gv (.inl ⟨rfl, h1, h2, h3⟩) o hw ds dp dv)
    fun no => k zWord false _ _ _ [] [] [] (.inr ⟨rfl, rfl, no⟩) (oW_nil _ _ _) ⟨by decide, by decide, by decide⟩ (Dj.nil _) (Dj.nil _) (Dj.nil _)

theorem exactUnpack_c {h : H} {b : Value} {l : List UInt8} (rb : rIn h eB 1 b l) {R : Ending → H → Prop} (k : R (.returned (.bool true)) h) :
    HCalls Try.prog 3 #[b] h R := by
  refine HCalls_ir (args := [b]) Try.func3 ir3 ?_
  have zw := zWord_eq
  simp only [str] at zw
  simp only [walk, lists, acts, mem, plain, seqs, maps, cells, resL, resV, intBin, ↓reduceIte, Nat.reduceAdd, Nat.reduceSub, Nat.reduceMul, Nat.reduceLeDiff, Nat.reduceEqDiff, Int.reduceToNat, Int.reduceEq, Int.reduceLT, Int.reduceLE, Int.reduceNeg, Int.reduceAdd, Int.reduceSub, Int.reduceMul, Nat.reducePow, Int.reduceNegSucc, str, zw, rb.len]
  refine ite_lt (fun _ => .of k) fun c0 => ?_
  have hl : l.length ≤ 1099511627776 := by omega
  refine toByteS_c rb hl fun v1 g1 o1 d1 => ?_
  simp only [walk, lists, acts, mem, plain, seqs, maps, cells, resL, resV, intBin, ↓reduceIte, Nat.reduceAdd, Nat.reduceSub, Nat.reduceMul, Nat.reduceLeDiff, Nat.reduceEqDiff, Int.reduceToNat, Int.reduceEq, Int.reduceLT, Int.reduceLE, Int.reduceNeg, Int.reduceAdd, Int.reduceSub, Int.reduceMul, Nat.reducePow, Int.reduceNegSucc, zw]
  refine specUnpack_u (o1.rd.sub (Sub.left _ _)) hl fun w ok s p v gs gp gv ou ow hw ds dp dv => ?_
  have os := ow.s.rd.one
  have op := ow.p.rd.one
  have ov := ow.v.rd.one
  simp only [walk, lists, acts, mem, plain, seqs, maps, cells, resL, resV, intBin, ↓reduceIte, Nat.reduceAdd, Nat.reduceSub, Nat.reduceMul, Nat.reduceLeDiff, Nat.reduceEqDiff, Int.reduceToNat, Int.reduceEq, Int.reduceLT, Int.reduceLE, Int.reduceNeg, Int.reduceAdd, Int.reduceSub, Int.reduceMul, Nat.reducePow, Int.reduceNegSucc, zw]
  refine newB_intro fun j3 hj3 => ?_
  simp only [walk, lists, acts, mem, plain, seqs, maps, cells, resL, resV, intBin, ↓reduceIte, Nat.reduceAdd, Nat.reduceSub, Nat.reduceMul, Nat.reduceLeDiff, Nat.reduceEqDiff, Int.reduceToNat, Int.reduceEq, Int.reduceLT, Int.reduceLE, Int.reduceNeg, Int.reduceAdd, Int.reduceSub, Int.reduceMul, Nat.reducePow, Int.reduceNegSucc, zw, wWord, os, op, ov]
  simp only [subs] at hj3
  have ds1 := ds
  have dp1 := dp
  have dv1 := dv
  have ds2 := ds.symm
  have dp2 := dp.symm
  have dv2 := dv.symm
  have sp2 := ow.sp.symm
  have sv2 := ow.sv.symm
  have pv2 := ow.pv.symm
  simp only [subs] at ds1 dp1 dv1 ds2 dp2 dv2
  obtain ⟨B, hB⟩ : ∃ B, B = (j3, blk (cWord w s p v) 28) :: (gs ++ (gp ++ (gv ++ h))) := ⟨_, rfl⟩
  have bS : Tk.Sub h B := by rw [hB]; (repeat' first | exact Sub.refl _ | exact Sub.nil _ | assumption | refine Sub.both ?_ ?_ | refine Sub.cons_of (by simp only [subs, hj3, ds1, dp1, dv1, ds2, dp2, dv2, ow.sp, ow.sv, ow.pv, sp2, sv2, pv2]) ?_ | exact Sub.left _ _ | refine Sub.app (by simp only [subs, hj3, ds1, dp1, dv1, ds2, dp2, dv2, ow.sp, ow.sv, ow.pv, sp2, sv2, pv2]) ?_ | refine Sub.cons (by simp only [subs, hj3, ds1, dp1, dv1, ds2, dp2, dv2, ow.sp, ow.sv, ow.pv, sp2, sv2, pv2]) ?_)
  have bW : sWord B w s p v := sWord.sub (by rw [hB]; (repeat' first | exact Sub.refl _ | exact Sub.nil _ | assumption | refine Sub.both ?_ ?_ | refine Sub.cons_of (by simp only [subs, hj3, ds1, dp1, dv1, ds2, dp2, dv2, ow.sp, ow.sv, ow.pv, sp2, sv2, pv2]) ?_ | exact Sub.left _ _ | refine Sub.app (by simp only [subs, hj3, ds1, dp1, dv1, ds2, dp2, dv2, ow.sp, ow.sv, ow.pv, sp2, sv2, pv2]) ?_ | refine Sub.cons (by simp only [subs, hj3, ds1, dp1, dv1, ds2, dp2, dv2, ow.sp, ow.sv, ow.pv, sp2, sv2, pv2]) ?_)) ow.rd
  have bG : hget B j3 ≠ none := by rw [hB, hget_same]; simp
  have bR : hread B j3 0 17 = some (cWord w s p v) := by rw [hB]; simp only [walk, lists, acts, mem, plain, seqs, maps, cells, resL, resV, intBin, ↓reduceIte, Nat.reduceAdd, Nat.reduceSub, Nat.reduceMul, Nat.reduceLeDiff, Nat.reduceEqDiff, Int.reduceToNat, Int.reduceEq, Int.reduceLT, Int.reduceLE, Int.reduceNeg, Int.reduceAdd, Int.reduceSub, Int.reduceMul, Nat.reducePow, Int.reduceNegSucc, wWord]
  refine (toByteS_c (h := B) (rb.sub bS) hl fun v2 g2 o2 d2 => ?_).weaken (by rw [hB]; (repeat' first | exact Sub.refl _ | exact Sub.nil _ | assumption | refine Sub.both ?_ ?_ | refine Sub.cons_of (by simp only [subs, hj3, ds1, dp1, dv1, ds2, dp2, dv2, ow.sp, ow.sv, ow.pv, sp2, sv2, pv2, d1]) ?_ | exact Sub.left _ _ | refine Sub.app (by simp only [subs, hj3, ds1, dp1, dv1, ds2, dp2, dv2, ow.sp, ow.sv, ow.pv, sp2, sv2, pv2, d1]) ?_ | refine Sub.cons (by simp only [subs, hj3, ds1, dp1, dv1, ds2, dp2, dv2, ow.sp, ow.sv, ow.pv, sp2, sv2, pv2, d1]) ?_))
  clear hB
  simp only [walk, lists, acts, mem, plain, seqs, maps, cells, resL, resV, intBin, ↓reduceIte, Nat.reduceAdd, Nat.reduceSub, Nat.reduceMul, Nat.reduceLeDiff, Nat.reduceEqDiff, Int.reduceToNat, Int.reduceEq, Int.reduceLT, Int.reduceLE, Int.reduceNeg, Int.reduceAdd, Int.reduceSub, Int.reduceMul, Nat.reducePow, Int.reduceNegSucc, zw]
  refine implUnpack_u (o2.rd.sub (Sub.left g2 B)) hl fun w' ok' s' p' v' gs' gp' gv' ou' ow' hw' es ep ev => ?_
  obtain ⟨rfl, rfl⟩ := ou.same ou'
  have os' := ow'.s.rd.one
  have op' := ow'.p.rd.one
  have ov' := ow'.v.rd.one
  have tp2 := ow'.sp.symm
  have tv2 := ow'.sv.symm
  have qv2 := ow'.pv.symm
  have es2 := es.symm
  have ep2 := ep.symm
  have ev2 := ev.symm
  have d2' := d2.symm
  simp only [subs] at es ep ev es2 ep2 ev2
  simp only [walk, lists, acts, mem, plain, seqs, maps, cells, resL, resV, intBin, ↓reduceIte, Nat.reduceAdd, Nat.reduceSub, Nat.reduceMul, Nat.reduceLeDiff, Nat.reduceEqDiff, Int.reduceToNat, Int.reduceEq, Int.reduceLT, Int.reduceLE, Int.reduceNeg, Int.reduceAdd, Int.reduceSub, Int.reduceMul, Nat.reducePow, Int.reduceNegSucc, zw]
  refine newB_intro fun j6 hj6 => ?_
  simp only [subs] at hj6
  have j36 : j3 ≠ j6 := fun e => bG (e ▸ hj6.2.2.2.2)
  have q1 := es.2.of bG
  have q2 := ep.2.of bG
  have q3 := ev.2.of bG
  have q4 := d2.of bG
  have dw : decide (w = w) = true := by simp
  have dl : decide (l = l) = true := by simp
  have C1 : Tk.Sub (gs' ++ (gp' ++ gv')) ((j6, blk (cWord w s' p' v') 28) :: (gs' ++ (gp' ++ (gv' ++ (g2 ++ B))))) := by (repeat' first | exact Sub.refl _ | exact Sub.nil _ | assumption | refine Sub.both ?_ ?_ | refine Sub.cons_of (by simp only [subs, hj6, es, ep, ev, es2, ep2, ev2, ow'.sp, ow'.sv, ow'.pv, tp2, tv2, qv2, d2, d2']) ?_ | exact Sub.left _ _ | refine Sub.app (by simp only [subs, hj6, es, ep, ev, es2, ep2, ev2, ow'.sp, ow'.sv, ow'.pv, tp2, tv2, qv2, d2, d2']) ?_ | refine Sub.cons (by simp only [subs, hj6, es, ep, ev, es2, ep2, ev2, ow'.sp, ow'.sv, ow'.pv, tp2, tv2, qv2, d2, d2']) ?_)
  have C2 : Tk.Sub B ((j6, blk (cWord w s' p' v') 28) :: (gs' ++ (gp' ++ (gv' ++ (g2 ++ B))))) := by (repeat' first | exact Sub.refl _ | exact Sub.nil _ | assumption | refine Sub.both ?_ ?_ | refine Sub.cons_of (by simp only [subs, hj6, es, ep, ev, es2, ep2, ev2, ow'.sp, ow'.sv, ow'.pv, tp2, tv2, qv2, d2, d2']) ?_ | exact Sub.left _ _ | refine Sub.app (by simp only [subs, hj6, es, ep, ev, es2, ep2, ev2, ow'.sp, ow'.sv, ow'.pv, tp2, tv2, qv2, d2, d2']) ?_ | refine Sub.cons (by simp only [subs, hj6, es, ep, ev, es2, ep2, ev2, ow'.sp, ow'.sv, ow'.pv, tp2, tv2, qv2, d2, d2']) ?_)
  have C3 : Tk.Sub g2 ((j6, blk (cWord w s' p' v') 28) :: (gs' ++ (gp' ++ (gv' ++ (g2 ++ B))))) := by (repeat' first | exact Sub.refl _ | exact Sub.nil _ | assumption | refine Sub.both ?_ ?_ | refine Sub.cons_of (by simp only [subs, hj6, es, ep, ev, es2, ep2, ev2, ow'.sp, ow'.sv, ow'.pv, tp2, tv2, qv2, d2, d2']) ?_ | exact Sub.left _ _ | refine Sub.app (by simp only [subs, hj6, es, ep, ev, es2, ep2, ev2, ow'.sp, ow'.sv, ow'.pv, tp2, tv2, qv2, d2, d2']) ?_ | refine Sub.cons (by simp only [subs, hj6, es, ep, ev, es2, ep2, ev2, ow'.sp, ow'.sv, ow'.pv, tp2, tv2, qv2, d2, d2']) ?_)
  simp only [walk, lists, acts, mem, plain, seqs, maps, cells, resL, resV, intBin, ↓reduceIte, Nat.reduceAdd, Nat.reduceSub, Nat.reduceMul, Nat.reduceLeDiff, Nat.reduceEqDiff, Int.reduceToNat, Int.reduceEq, Int.reduceLT, Int.reduceLE, Int.reduceNeg, Int.reduceAdd, Int.reduceSub, Int.reduceMul, Nat.reducePow, Int.reduceNegSucc, zw, wWord, os', op', ov', apps, j36, q1, q2, q3, q4, bR]
  refine eqWord_c (sWord.sub C1 ow'.rd) (sWord.sub C2 bW) hw ?_
  simp only [walk, lists, acts, mem, plain, seqs, maps, cells, resL, resV, intBin, ↓reduceIte, Nat.reduceAdd, Nat.reduceSub, Nat.reduceMul, Nat.reduceLeDiff, Nat.reduceEqDiff, Int.reduceToNat, Int.reduceEq, Int.reduceLT, Int.reduceLE, Int.reduceNeg, Int.reduceAdd, Int.reduceSub, Int.reduceMul, Nat.reducePow, Int.reduceNegSucc, dw, beq_self_eq_true]
  refine toByteS_c (rb.sub (bS.trans C2)) hl fun v3 g3 o3 d3 => ?_
  simp only [walk, lists, acts, mem, plain, seqs, maps, cells, resL, resV, intBin, ↓reduceIte, Nat.reduceAdd, Nat.reduceSub, Nat.reduceMul, Nat.reduceLeDiff, Nat.reduceEqDiff, Int.reduceToNat, Int.reduceEq, Int.reduceLT, Int.reduceLE, Int.reduceNeg, Int.reduceAdd, Int.reduceSub, Int.reduceMul, Nat.reducePow, Int.reduceNegSucc]
  refine eqByteS_c (o2.rd.sub (C3.trans (Sub.right d3))) (o3.rd.sub (Sub.left _ _)) hl ?_
  simp only [walk, lists, acts, mem, plain, seqs, maps, cells, resL, resV, intBin, ↓reduceIte, Nat.reduceAdd, Nat.reduceSub, Nat.reduceMul, Nat.reduceLeDiff, Nat.reduceEqDiff, Int.reduceToNat, Int.reduceEq, Int.reduceLT, Int.reduceLE, Int.reduceNeg, Int.reduceAdd, Int.reduceSub, Int.reduceMul, Nat.reducePow, Int.reduceNegSucc, dl]
  have d3' := d3.symm
  simp only [subs] at d3 d3'
  refine (markByteS_c (h0 := (j6, blk (cWord w s' p' v') 28) :: (gs' ++ (gp' ++ (gv' ++ B)))) (k := 1) o2 (by simp only [subs, hj6, es, ep, ev, es2, ep2, ev2, d2]) hl (by omega) fun l4 g4 hl4 o4 d4 => ?_).weaken (by (repeat' first | exact Sub.refl _ | exact Sub.nil _ | assumption | refine Sub.both ?_ ?_ | refine Sub.cons_of (by simp only [subs, hj6, es, ep, ev, es2, ep2, ev2, ow'.sp, ow'.sv, ow'.pv, tp2, tv2, qv2, d2, d2', d3, d3']) ?_ | exact Sub.left _ _ | refine Sub.app (by simp only [subs, hj6, es, ep, ev, es2, ep2, ev2, ow'.sp, ow'.sv, ow'.pv, tp2, tv2, qv2, d2, d2', d3, d3']) ?_ | refine Sub.cons (by simp only [subs, hj6, es, ep, ev, es2, ep2, ev2, ow'.sp, ow'.sv, ow'.pv, tp2, tv2, qv2, d2, d2', d3, d3']) ?_))
  simp only [walk, lists, acts, mem, plain, seqs, maps, cells, resL, resV, intBin, ↓reduceIte, Nat.reduceAdd, Nat.reduceSub, Nat.reduceMul, Nat.reduceLeDiff, Nat.reduceEqDiff, Int.reduceToNat, Int.reduceEq, Int.reduceLT, Int.reduceLE, Int.reduceNeg, Int.reduceAdd, Int.reduceSub, Int.reduceMul, Nat.reducePow, Int.reduceNegSucc]
  refine ite_lt (fun c => absurd c (by omega)) fun _ => ?_
  have d4' := d4.symm
  simp only [subs] at d4 d4'
  have F1 : Tk.Sub (gs' ++ (gp' ++ gv')) (g4 ++ ((j6, blk (cWord w s' p' v') 28) :: (gs' ++ (gp' ++ (gv' ++ B))))) := by (repeat' first | exact Sub.refl _ | exact Sub.nil _ | assumption | refine Sub.both ?_ ?_ | refine Sub.cons_of (by simp only [subs, hj6, es, ep, ev, es2, ep2, ev2, ow'.sp, ow'.sv, ow'.pv, tp2, tv2, qv2, d4, d4']) ?_ | exact Sub.left _ _ | refine Sub.app (by simp only [subs, hj6, es, ep, ev, es2, ep2, ev2, ow'.sp, ow'.sv, ow'.pv, tp2, tv2, qv2, d4, d4']) ?_ | refine Sub.cons (by simp only [subs, hj6, es, ep, ev, es2, ep2, ev2, ow'.sp, ow'.sv, ow'.pv, tp2, tv2, qv2, d4, d4']) ?_)
  have F2 : Tk.Sub B (g4 ++ ((j6, blk (cWord w s' p' v') 28) :: (gs' ++ (gp' ++ (gv' ++ B))))) := by (repeat' first | exact Sub.refl _ | exact Sub.nil _ | assumption | refine Sub.both ?_ ?_ | refine Sub.cons_of (by simp only [subs, hj6, es, ep, ev, es2, ep2, ev2, ow'.sp, ow'.sv, ow'.pv, tp2, tv2, qv2, d4, d4']) ?_ | exact Sub.left _ _ | refine Sub.app (by simp only [subs, hj6, es, ep, ev, es2, ep2, ev2, ow'.sp, ow'.sv, ow'.pv, tp2, tv2, qv2, d4, d4']) ?_ | refine Sub.cons (by simp only [subs, hj6, es, ep, ev, es2, ep2, ev2, ow'.sp, ow'.sv, ow'.pv, tp2, tv2, qv2, d4, d4']) ?_)
  have q5 : hget g4 j3 = none := d4.2.2.2.2.of bG
  simp only [walk, lists, acts, mem, plain, seqs, maps, cells, resL, resV, intBin, ↓reduceIte, Nat.reduceAdd, Nat.reduceSub, Nat.reduceMul, Nat.reduceLeDiff, Nat.reduceEqDiff, Int.reduceToNat, Int.reduceEq, Int.reduceLT, Int.reduceLE, Int.reduceNeg, Int.reduceAdd, Int.reduceSub, Int.reduceMul, Nat.reducePow, Int.reduceNegSucc, zw, wWord, os', op', ov', apps, d4, j36, q1, q2, q3, q5, bR]
  refine eqWord_c (sWord.sub F1 ow'.rd) (sWord.sub F2 bW) hw ?_
  simp only [walk, lists, acts, mem, plain, seqs, maps, cells, resL, resV, intBin, ↓reduceIte, Nat.reduceAdd, Nat.reduceSub, Nat.reduceMul, Nat.reduceLeDiff, Nat.reduceEqDiff, Int.reduceToNat, Int.reduceEq, Int.reduceLT, Int.reduceLE, Int.reduceNeg, Int.reduceAdd, Int.reduceSub, Int.reduceMul, Nat.reducePow, Int.reduceNegSucc, dw, beq_self_eq_true, zw, wWord, os', op', ov', apps, d4, j36, q1, q2, q3, q5, bR]
  refine (markWord_c (k := 1) (h0 := (j6, blk (cWord w s' p' v') 28) :: B) ow' (by simp only [subs, hj6, es]) (by simp only [subs, hj6, ep]) (by simp only [subs, hj6, ev]) hw (by omega) fun a1 a2 a3 aw xs xp xv => ?_).weaken (by (repeat' first | exact Sub.refl _ | exact Sub.nil _ | assumption | refine Sub.both ?_ ?_ | refine Sub.cons_of (by simp only [subs, hj6, es, ep, ev, es2, ep2, ev2, ow'.sp, ow'.sv, ow'.pv, tp2, tv2, qv2, d4, d4']) ?_ | exact Sub.left _ _ | refine Sub.app (by simp only [subs, hj6, es, ep, ev, es2, ep2, ev2, ow'.sp, ow'.sv, ow'.pv, tp2, tv2, qv2, d4, d4']) ?_ | refine Sub.cons (by simp only [subs, hj6, es, ep, ev, es2, ep2, ev2, ow'.sp, ow'.sv, ow'.pv, tp2, tv2, qv2, d4, d4']) ?_))
  have xs2 := xs.symm
  have xp2 := xp.symm
  have xv2 := xv.symm
  have yp2 := aw.sp.symm
  have yv2 := aw.sv.symm
  have yw2 := aw.pv.symm
  simp only [subs] at xs xp xv xs2 xp2 xv2
  simp only [walk, lists, acts, mem, plain, seqs, maps, cells, resL, resV, intBin, ↓reduceIte, Nat.reduceAdd, Nat.reduceSub, Nat.reduceMul, Nat.reduceLeDiff, Nat.reduceEqDiff, Int.reduceToNat, Int.reduceEq, Int.reduceLT, Int.reduceLE, Int.reduceNeg, Int.reduceAdd, Int.reduceSub, Int.reduceMul, Nat.reducePow, Int.reduceNegSucc, zw, wWord, apps, xs, xp, xv]
  have hwl := hw
  obtain ⟨w1, w2, w3⟩ := hwl
  obtain ⟨m, hm⟩ : ∃ m : DWord, m = { w with slots := mks 1 w.slots.length, pairs := mkp (1 + w.slots.length) w.pairs.length, vals := mks (1 + w.slots.length + 2 * w.pairs.length) w.vals.length } := ⟨_, rfl⟩
  have mc : ∀ a b c, cWord w a b c = cWord m a b c := fun a b c => by rw [hm]; rfl
  have m1 : m.slots.length = w.slots.length := by rw [hm]; simp [mks_len]
  have m2 : m.pairs.length = w.pairs.length := by rw [hm]; simp [mkp_len]
  have m3 : m.vals.length = w.vals.length := by rw [hm]; simp [mks_len]
  have k1 : m.slots = mks 1 m.slots.length := by rw [m1]; rw [hm]
  have k2 : m.pairs = mkp (1 + m.slots.length) m.pairs.length := by rw [m1, m2]; rw [hm]
  have k3 : m.vals = mks (1 + m.slots.length + 2 * m.pairs.length) m.vals.length := by rw [m1, m2, m3]; rw [hm]
  have hwm : wLen m := ⟨by rw [m1]; exact w1, by rw [m2]; exact w2, by rw [m3]; exact w3⟩
  rw [← hm] at aw
  obtain ⟨N, hN⟩ : ∃ N : Int, N = 1 + w.slots.length + 2 * w.pairs.length + w.vals.length := ⟨_, rfl⟩
  have hN2 : (1 + (m.slots.length : Int) + 2 * m.pairs.length + m.vals.length) = N := by rw [m1, m2, m3, hN]
  have N0 : ¬ N < 0 := by omega
  obtain ⟨A, hA⟩ : ∃ A : H, A = a1 ++ (a2 ++ a3) := ⟨_, rfl⟩
  have Aw : sWord A m s' p' v' := by rw [hA]; exact aw.rd
  have dA : Dj A ((j6, blk (cWord w s' p' v') 28) :: B) := by rw [hA]; simp only [subs, xs, xp, xv]
  have dA' := dA.symm
  simp only [subs] at dA dA'
  rw [← List.append_assoc a2, ← List.append_assoc a1, ← hA, ← hN]
  have G1 : Tk.Sub A (A ++ ((j6, blk (cWord w s' p' v') 28) :: B)) := Sub.left _ _
  have G2 : Tk.Sub B (A ++ ((j6, blk (cWord w s' p' v') 28) :: B)) := by (repeat' first | exact Sub.refl _ | exact Sub.nil _ | assumption | refine Sub.both ?_ ?_ | refine Sub.cons_of (by simp only [subs, dA, hj6]) ?_ | exact Sub.left _ _ | refine Sub.app (by simp only [subs, dA, hj6]) ?_ | refine Sub.cons (by simp only [subs, dA, hj6]) ?_)
  have q6 : hget A j3 = none := dA.2.of bG
  have held : ∀ {M : H} {R : Ending → H → Prop}, Tk.Sub A M → R (.returned (.int .i64 N)) M → HCalls Try.prog 14 #[.agg (cWord w s' p' v').toArray, .int .i64 1] M R := fun hs hr => by
    rw [mc]
    refine heldWord_c (sWord.sub hs Aw) k1 k2 k3 hwm (by omega) ?_
    rw [hN2]; exact hr
  refine held G1 ?_
  simp only [walk, lists, acts, mem, plain, seqs, maps, cells, resL, resV, intBin, ↓reduceIte, Nat.reduceAdd, Nat.reduceSub, Nat.reduceMul, Nat.reduceLeDiff, Nat.reduceEqDiff, Int.reduceToNat, Int.reduceEq, Int.reduceLT, Int.reduceLE, Int.reduceNeg, Int.reduceAdd, Int.reduceSub, Int.reduceMul, Nat.reducePow, Int.reduceNegSucc, N0, zw]
  refine toByteS_c (rb.sub (bS.trans G2)) hl fun v5 g5 o5 d5 => ?_
  simp only [walk, lists, acts, mem, plain, seqs, maps, cells, resL, resV, intBin, ↓reduceIte, Nat.reduceAdd, Nat.reduceSub, Nat.reduceMul, Nat.reduceLeDiff, Nat.reduceEqDiff, Int.reduceToNat, Int.reduceEq, Int.reduceLT, Int.reduceLE, Int.reduceNeg, Int.reduceAdd, Int.reduceSub, Int.reduceMul, Nat.reducePow, Int.reduceNegSucc, zw]
  refine implUnpack_u (o5.rd.sub (Sub.left _ _)) hl fun w' ok' s6 p6 v6 gs6 gp6 gv6 ou6 ow6 hw6 es6 ep6 ev6 => ?_
  obtain ⟨rfl, rfl⟩ := ou.same ou6
  have os6 := ow6.s.rd.one
  have op6 := ow6.p.rd.one
  have ov6 := ow6.v.rd.one
  have tp6 := ow6.sp.symm
  have tv6 := ow6.sv.symm
  have qv6 := ow6.pv.symm
  have es6' := es6.symm
  have ep6' := ep6.symm
  have ev6' := ev6.symm
  have d5' := d5.symm
  simp only [subs] at es6 ep6 ev6 es6' ep6' ev6' d5 d5'
  simp only [walk, lists, acts, mem, plain, seqs, maps, cells, resL, resV, intBin, ↓reduceIte, Nat.reduceAdd, Nat.reduceSub, Nat.reduceMul, Nat.reduceLeDiff, Nat.reduceEqDiff, Int.reduceToNat, Int.reduceEq, Int.reduceLT, Int.reduceLE, Int.reduceNeg, Int.reduceAdd, Int.reduceSub, Int.reduceMul, Nat.reducePow, Int.reduceNegSucc, zw]
  refine newB_intro fun j7 hj7 => ?_
  simp only [subs] at hj7
  have BB : hget ((j6, blk (cWord w s' p' v') 28) :: B) j3 ≠ none := by rw [hget_next _ _ _ j36]; exact bG
  have r1 : hget gs6 j3 = none := es6.2.2.2.of bG
  have r2 : hget gp6 j3 = none := ep6.2.2.2.of bG
  have r3 : hget gv6 j3 = none := ev6.2.2.2.of bG
  have r4 : hget g5 j3 = none := d5.2.2.of bG
  have j37 : j3 ≠ j7 := fun e => bG (e ▸ hj7.2.2.2.2.2.2)
  have j67 : j6 ≠ j7 := Ne.symm hj7.2.2.2.2.2.1
  obtain ⟨L, hL⟩ : ∃ L : H, L = (j7, blk (cWord w s6 p6 v6) 28) :: (gs6 ++ (gp6 ++ (gv6 ++ (g5 ++ (A ++ ((j6, blk (cWord w s' p' v') 28) :: B)))))) := ⟨_, rfl⟩
  have L1 : Tk.Sub (gs6 ++ (gp6 ++ gv6)) L := by rw [hL]; (repeat' first | exact Sub.refl _ | exact Sub.nil _ | assumption | refine Sub.both ?_ ?_ | refine Sub.cons_of (by simp only [subs, hj7, es6, ep6, ev6, es6', ep6', ev6', ow6.sp, ow6.sv, ow6.pv, tp6, tv6, qv6, d5, d5']) ?_ | exact Sub.left _ _ | refine Sub.app (by simp only [subs, hj7, es6, ep6, ev6, es6', ep6', ev6', ow6.sp, ow6.sv, ow6.pv, tp6, tv6, qv6, d5, d5']) ?_ | refine Sub.cons (by simp only [subs, hj7, es6, ep6, ev6, es6', ep6', ev6', ow6.sp, ow6.sv, ow6.pv, tp6, tv6, qv6, d5, d5']) ?_)
  have L2 : Tk.Sub B L := by rw [hL]; (repeat' first | exact Sub.refl _ | exact Sub.nil _ | assumption | refine Sub.both ?_ ?_ | refine Sub.cons_of (by simp only [subs, hj7, es6, ep6, ev6, es6', ep6', ev6', ow6.sp, ow6.sv, ow6.pv, tp6, tv6, qv6, d5, d5', dA, hj6]) ?_ | exact Sub.left _ _ | refine Sub.app (by simp only [subs, hj7, es6, ep6, ev6, es6', ep6', ev6', ow6.sp, ow6.sv, ow6.pv, tp6, tv6, qv6, d5, d5', dA, hj6]) ?_ | refine Sub.cons (by simp only [subs, hj7, es6, ep6, ev6, es6', ep6', ev6', ow6.sp, ow6.sv, ow6.pv, tp6, tv6, qv6, d5, d5', dA, hj6]) ?_)
  have L3 : Tk.Sub A L := by rw [hL]; (repeat' first | exact Sub.refl _ | exact Sub.nil _ | assumption | refine Sub.both ?_ ?_ | refine Sub.cons_of (by simp only [subs, hj7, es6, ep6, ev6, es6', ep6', ev6', ow6.sp, ow6.sv, ow6.pv, tp6, tv6, qv6, d5, d5', dA, hj6]) ?_ | exact Sub.left _ _ | refine Sub.app (by simp only [subs, hj7, es6, ep6, ev6, es6', ep6', ev6', ow6.sp, ow6.sv, ow6.pv, tp6, tv6, qv6, d5, d5', dA, hj6]) ?_ | refine Sub.cons (by simp only [subs, hj7, es6, ep6, ev6, es6', ep6', ev6', ow6.sp, ow6.sv, ow6.pv, tp6, tv6, qv6, d5, d5', dA, hj6]) ?_)
  simp only [walk, lists, acts, mem, plain, seqs, maps, cells, resL, resV, intBin, ↓reduceIte, Nat.reduceAdd, Nat.reduceSub, Nat.reduceMul, Nat.reduceLeDiff, Nat.reduceEqDiff, Int.reduceToNat, Int.reduceEq, Int.reduceLT, Int.reduceLE, Int.reduceNeg, Int.reduceAdd, Int.reduceSub, Int.reduceMul, Nat.reducePow, Int.reduceNegSucc, zw, wWord, os6, op6, ov6, apps, es6, ep6, ev6, d5, dA, j36, j37, j67, r1, r2, r3, r4, q6, bR]
  rw [← hL]
  refine eqWord_c (sWord.sub L1 ow6.rd) (sWord.sub L2 bW) hw ?_
  rw [hL]
  simp only [walk, lists, acts, mem, plain, seqs, maps, cells, resL, resV, intBin, ↓reduceIte, Nat.reduceAdd, Nat.reduceSub, Nat.reduceMul, Nat.reduceLeDiff, Nat.reduceEqDiff, Int.reduceToNat, Int.reduceEq, Int.reduceLT, Int.reduceLE, Int.reduceNeg, Int.reduceAdd, Int.reduceSub, Int.reduceMul, Nat.reducePow, Int.reduceNegSucc, dw, beq_self_eq_true, zw, wWord, os6, op6, ov6, apps, es6, ep6, ev6, d5, dA, j36, j37, j67, r1, r2, r3, r4, q6, bR]
  rw [← hL]
  refine held L3 ?_
  simp only [walk, lists, acts, mem, plain, seqs, maps, cells, resL, resV, intBin, ↓reduceIte, Nat.reduceAdd, Nat.reduceSub, Nat.reduceMul, Nat.reduceLeDiff, Nat.reduceEqDiff, Int.reduceToNat, Int.reduceEq, Int.reduceLT, Int.reduceLE, Int.reduceNeg, Int.reduceAdd, Int.reduceSub, Int.reduceMul, Nat.reducePow, Int.reduceNegSucc, N0]
  exact ⟨h, bS.trans L2, k⟩
end Go.Proofs.Ytllhdnfcneejaaa
end

/- A word is read back from its bytes. -/
section
set_option linter.unusedVariables false
set_option linter.unusedSimpArgs false
set_option maxRecDepth 20000
attribute [local irreducible] Go.Tk.vc Go.Tk.vops Go.Tk.vdr Go.Tk.vop Go.Tk.vfl Go.Tk.HCalls
namespace Go.Proofs.Ytllhdnfcneejaaa
open Go Go.Tk

theorem pack_len {w : DWord} (h : wordP w) : (pack w).length ≤ 10000 := by
  have h1 := encIs_len (headW_small h)
  have h2 := slotsP_len h.2.2.2.2.2.2.1
  have h3 := h.2.2.2.2.2.2.2.1.1
  have h4 := h.2.2.2.2.2.2.2.2.2.1.1
  have h5 := h.2.2.2.2.2.2.2.2.2.2.2.2.2.2.2
  have sn : ∀ n : Nat, n ≤ 9999 → smallP (n : Int) := fun n hn => ⟨by omega, by omega⟩
  have e1 := encIs_len (l := (w.slots.length : Int) :: w.slots) fun x hx => by
    rcases List.mem_cons.1 hx with rfl | hx
    · exact sn _ (by omega)
    · exact slotsP_small h.2.2.2.2.2.2.1 x hx
  have e2 := encIs_len (l := (w.vals.length : Int) :: w.vals) fun x hx => by
    rcases List.mem_cons.1 hx with rfl | hx
    · exact sn _ (by omega)
    · exact valsP_small h.2.2.2.2.2.2.2.2.2.1 x hx
  have e3 := encIs_len (l := (w.pairs.length : Int) :: flatP w.pairs) fun x hx => by
    rcases List.mem_cons.1 hx with rfl | hx
    · exact sn _ (by omega)
    · obtain ⟨l, hl, hx⟩ := List.mem_flatten.1 hx
      obtain ⟨p, hp, rfl⟩ := List.mem_map.1 hl
      have := pairsP_small h.2.2.2.2.2.2.2.1 hp
      simp only [List.mem_cons, List.not_mem_nil, or_false] at hx
      rcases hx with rfl | rfl
      · exact this.1
      · exact this.2
  have hh : (headW w).length = 14 := rfl
  simp only [pack, List.length_append, List.length_cons] at *
  rw [flatP_len] at e3
  omega
theorem Out_pack {w w' : DWord} {ok : Bool} (h : wordP w) (o : Out (pack w) w' ok) : w' = w ∧ ok = true := by
  rcases o with ⟨h1, h2, h3, h4⟩ | ⟨h1, _, h3⟩
  · exact ⟨h4 w h rfl, h1⟩
  · exact absurd rfl (h3 w h)

theorem drawPack_c {h : H} {b : Value} {l : List UInt8} (r : rIn h eB 1 b l) (hl : l.length ≤ 1048576) {R : Ending → H → Prop}
    (k : ∀ w s pp v gs gp gv, oWord 3 69 3 w s pp v gs gp gv → wLen w → w.call.text.length ≤ 1000000 → Dj gs h → Dj gp h → Dj gv h → R (.returned (.agg (cWord w s pp v).toArray)) (gs ++ (gp ++ (gv ++ h)))) :
    HCalls Try.prog 15 #[b] h R := by
  refine HCalls_ir (args := [b]) Try.func15 ir15 ?_
  have zw := zWord_eq
  simp only [str] at zw
  simp only [walk, lists, acts, mem, plain, seqs, maps, cells, resL, resV, intBin, ↓reduceIte, Nat.reduceAdd, Nat.reduceSub, Nat.reduceMul, Nat.reduceLeDiff, Nat.reduceEqDiff, Int.reduceToNat, Int.reduceEq, Int.reduceLT, Int.reduceLE, Int.reduceNeg, Int.reduceAdd, Int.reduceSub, Int.reduceMul, Nat.reducePow, Int.reduceNegSucc, str, zw]
  refine newB_intro fun j2 hj2 => ?_
  have s2 := fun o => Sub.cons (o := o) hj2 (Sub.refl h)
  simp only [walk, lists, acts, mem, plain, seqs, maps, cells, resL, resV, intBin, ↓reduceIte, Nat.reduceAdd, Nat.reduceSub, Nat.reduceMul, Nat.reduceLeDiff, Nat.reduceEqDiff, Int.reduceToNat, Int.reduceEq, Int.reduceLT, Int.reduceLE, Int.reduceNeg, Int.reduceAdd, Int.reduceSub, Int.reduceMul, Nat.reducePow, Int.reduceNegSucc, str, zw]
  refine open_c (r.sub (s2 _)) hl fun jr bv m hjr rm hm => ?_
  simp only [walk, lists, acts, mem, plain, seqs, maps, cells, resL, resV, intBin, ↓reduceIte, Nat.reduceAdd, Nat.reduceSub, Nat.reduceMul, Nat.reduceLeDiff, Nat.reduceEqDiff, Int.reduceToNat, Int.reduceEq, Int.reduceLT, Int.reduceLE, Int.reduceNeg, Int.reduceAdd, Int.reduceSub, Int.reduceMul, Nat.reducePow, Int.reduceNegSucc, str, zw]
  have n2 := hjr
  simp only [subs] at n2
  refine drawWord_c hjr rm hm (by omega) fun w s pp v gs gp gv p' ow hw ht ds dp dv _ _ => ?_
  have os := ow.s.rd.one
  have op := ow.p.rd.one
  have ov := ow.v.rd.one
  have sp2 := ow.sp.symm
  have sv2 := ow.sv.symm
  have pv2 := ow.pv.symm
  have ds2 := ds.symm
  have dp2 := dp.symm
  have dv2 := dv.symm
  simp only [subs] at ds dp dv ds2 dp2 dv2
  have m2 : jr ≠ j2 ∧ j2 ≠ jr := ⟨n2.1, Ne.symm n2.1⟩
  simp only [walk, lists, acts, mem, plain, seqs, maps, cells, resL, resV, intBin, ↓reduceIte, Nat.reduceAdd, Nat.reduceSub, Nat.reduceMul, Nat.reduceLeDiff, Nat.reduceEqDiff, Int.reduceToNat, Int.reduceEq, Int.reduceLT, Int.reduceLE, Int.reduceNeg, Int.reduceAdd, Int.reduceSub, Int.reduceMul, Nat.reducePow, Int.reduceNegSucc, zw, wWord, apps, ds, dp, dv, m2, os, op, ov]
  exact ⟨gs ++ (gp ++ (gv ++ h)), by (repeat' first | exact Sub.refl _ | exact Sub.nil _ | assumption | refine Sub.both ?_ ?_ | refine Sub.cons_of (by simp only [subs, ds, dp, dv, ds2, dp2, dv2, ow.sp, ow.sv, ow.pv, sp2, sv2, pv2, m2, n2, hj2]) ?_ | exact Sub.left _ _ | refine Sub.app (by simp only [subs, ds, dp, dv, ds2, dp2, dv2, ow.sp, ow.sv, ow.pv, sp2, sv2, pv2, m2, n2, hj2]) ?_ | refine Sub.cons (by simp only [subs, ds, dp, dv, ds2, dp2, dv2, ow.sp, ow.sv, ow.pv, sp2, sv2, pv2, m2, n2, hj2]) ?_), k w s pp v gs gp gv ow hw ht ds.2.2 dp.2.2 dv.2.2⟩

theorem wordBack_c {h : H} {b : Value} {l : List UInt8} (r : rIn h eB 1 b l) {R : Ending → H → Prop} (k : R (.returned (.bool true)) h) : HCalls Try.prog 4 #[b] h R := by
  refine HCalls_ir (args := [b]) Try.func4 ir4 ?_
  have zw := zWord_eq
  simp only [str] at zw
  simp only [walk, lists, acts, mem, plain, seqs, maps, cells, resL, resV, intBin, ↓reduceIte, Nat.reduceAdd, Nat.reduceSub, Nat.reduceMul, Nat.reduceLeDiff, Nat.reduceEqDiff, Int.reduceToNat, Int.reduceEq, Int.reduceLT, Int.reduceLE, Int.reduceNeg, Int.reduceAdd, Int.reduceSub, Int.reduceMul, Nat.reducePow, Int.reduceNegSucc, str, zw, r.len]
  refine ite_lt (fun _ => .of k) fun c0 => ?_
  refine drawPack_c r (by omega) fun w s p v gs gp gv ow hw ht ds dp dv => ?_
  have os := ow.s.rd.one
  have op := ow.p.rd.one
  have ov := ow.v.rd.one
  have sp2 := ow.sp.symm
  have sv2 := ow.sv.symm
  have pv2 := ow.pv.symm
  have ds2 := ds.symm
  have dp2 := dp.symm
  have dv2 := dv.symm
  simp only [walk, lists, acts, mem, plain, seqs, maps, cells, resL, resV, intBin, ↓reduceIte, Nat.reduceAdd, Nat.reduceSub, Nat.reduceMul, Nat.reduceLeDiff, Nat.reduceEqDiff, Int.reduceToNat, Int.reduceEq, Int.reduceLT, Int.reduceLE, Int.reduceNeg, Int.reduceAdd, Int.reduceSub, Int.reduceMul, Nat.reducePow, Int.reduceNegSucc, zw]
  refine newB_intro fun j3 hj3 => ?_
  simp only [subs] at hj3
  simp only [walk, lists, acts, mem, plain, seqs, maps, cells, resL, resV, intBin, ↓reduceIte, Nat.reduceAdd, Nat.reduceSub, Nat.reduceMul, Nat.reduceLeDiff, Nat.reduceEqDiff, Int.reduceToNat, Int.reduceEq, Int.reduceLT, Int.reduceLE, Int.reduceNeg, Int.reduceAdd, Int.reduceSub, Int.reduceMul, Nat.reducePow, Int.reduceNegSucc, zw, wWord, os, op, ov]
  obtain ⟨C, hC⟩ : ∃ C, C = (j3, blk (cWord w s p v) 28) :: (gs ++ (gp ++ (gv ++ h))) := ⟨_, rfl⟩
  have cS : Tk.Sub h C := by rw [hC]; (repeat' first | exact Sub.refl _ | exact Sub.nil _ | assumption | refine Sub.both ?_ ?_ | refine Sub.cons_of (by simp only [subs, hj3, ds, dp, dv, ds2, dp2, dv2, ow.sp, ow.sv, ow.pv, sp2, sv2, pv2]) ?_ | exact Sub.left _ _ | refine Sub.app (by simp only [subs, hj3, ds, dp, dv, ds2, dp2, dv2, ow.sp, ow.sv, ow.pv, sp2, sv2, pv2]) ?_ | refine Sub.cons (by simp only [subs, hj3, ds, dp, dv, ds2, dp2, dv2, ow.sp, ow.sv, ow.pv, sp2, sv2, pv2]) ?_)
  have cW : sWord C w s p v := sWord.sub (by rw [hC]; (repeat' first | exact Sub.refl _ | exact Sub.nil _ | assumption | refine Sub.both ?_ ?_ | refine Sub.cons_of (by simp only [subs, hj3, ds, dp, dv, ds2, dp2, dv2, ow.sp, ow.sv, ow.pv, sp2, sv2, pv2]) ?_ | exact Sub.left _ _ | refine Sub.app (by simp only [subs, hj3, ds, dp, dv, ds2, dp2, dv2, ow.sp, ow.sv, ow.pv, sp2, sv2, pv2]) ?_ | refine Sub.cons (by simp only [subs, hj3, ds, dp, dv, ds2, dp2, dv2, ow.sp, ow.sv, ow.pv, sp2, sv2, pv2]) ?_)) ow.rd
  have cG : hget C j3 ≠ none := by rw [hC, hget_same]; simp
  have cR : hread C j3 0 17 = some (cWord w s p v) := by rw [hC]; simp only [walk, lists, acts, mem, plain, seqs, maps, cells, resL, resV, intBin, ↓reduceIte, Nat.reduceAdd, Nat.reduceSub, Nat.reduceMul, Nat.reduceLeDiff, Nat.reduceEqDiff, Int.reduceToNat, Int.reduceEq, Int.reduceLT, Int.reduceLE, Int.reduceNeg, Int.reduceAdd, Int.reduceSub, Int.reduceMul, Nat.reducePow, Int.reduceNegSucc, wWord]
  rw [← hC]
  clear hC
  by_cases wp : wordP w
  · refine specPack_c cW hw (fun _ v1 g1 o1 d1 => ?_) fun no => absurd wp no
    have q1 := d1.of cG
    have one1 := o1.rd.one
    simp only [walk, lists, acts, mem, plain, seqs, maps, cells, resL, resV, intBin, ↓reduceIte, Nat.reduceAdd, Nat.reduceSub, Nat.reduceMul, Nat.reduceLeDiff, Nat.reduceEqDiff, Int.reduceToNat, Int.reduceEq, Int.reduceLT, Int.reduceLE, Int.reduceNeg, Int.reduceAdd, Int.reduceSub, Int.reduceMul, Nat.reducePow, Int.reduceNegSucc, zw, apps, q1, cR]
    refine specWordOk_c (sWord.sub (Sub.right d1) cW) hw fun b1 hb1 => ?_
    have e1 := hb1.2 wp
    subst e1
    simp only [walk, lists, acts, mem, plain, seqs, maps, cells, resL, resV, intBin, ↓reduceIte, Nat.reduceAdd, Nat.reduceSub, Nat.reduceMul, Nat.reduceLeDiff, Nat.reduceEqDiff, Int.reduceToNat, Int.reduceEq, Int.reduceLT, Int.reduceLE, Int.reduceNeg, Int.reduceAdd, Int.reduceSub, Int.reduceMul, Nat.reducePow, Int.reduceNegSucc, zw, apps, q1, cR]
    refine implPack_c (sWord.sub (Sub.right d1) cW) hw (fun _ v2 g2 o2 d2 => ?_) fun no => absurd wp no
    have d2x := d2
    simp only [subs] at d2x
    have q2 : hget g2 j3 = none := d2x.2.of cG
    have bt2 := fun f => btos_rd (o2.rd.sub (Sub.left g2 (g1 ++ C))) (f := f)
    have bt1 := fun f => btos_rd ((o1.rd.sub (Sub.left g1 C)).sub (Sub.right d2)) (f := f)
    have cM : Tk.Sub C (g2 ++ (g1 ++ C)) := (Sub.right d1).trans (Sub.right d2)
    simp only [walk, lists, acts, mem, plain, seqs, maps, cells, resL, resV, intBin, ↓reduceIte, Nat.reduceAdd, Nat.reduceSub, Nat.reduceMul, Nat.reduceLeDiff, Nat.reduceEqDiff, Int.reduceToNat, Int.reduceEq, Int.reduceLT, Int.reduceLE, Int.reduceNeg, Int.reduceAdd, Int.reduceSub, Int.reduceMul, Nat.reducePow, Int.reduceNegSucc, zw, apps, q1, q2, cR, bt1, bt2, strBin, str_inj]
    refine implWordOk_c (sWord.sub cM cW) hw fun b2 hb2 => ?_
    have e2 := hb2.2 wp
    subst e2
    have hl := pack_len wp
    simp only [walk, lists, acts, mem, plain, seqs, maps, cells, resL, resV, intBin, ↓reduceIte, Nat.reduceAdd, Nat.reduceSub, Nat.reduceMul, Nat.reduceLeDiff, Nat.reduceEqDiff, Int.reduceToNat, Int.reduceEq, Int.reduceLT, Int.reduceLE, Int.reduceNeg, Int.reduceAdd, Int.reduceSub, Int.reduceMul, Nat.reducePow, Int.reduceNegSucc, zw, beq_self_eq_true]
    refine implUnpack_u (o2.rd.sub (Sub.left g2 (g1 ++ C))) (by omega) fun w' ok' s' p' v' gs' gp' gv' ou ow' hw' es ep ev => ?_
    obtain ⟨rfl, rfl⟩ := Out_pack wp ou
    have os' := ow'.s.rd.one
    have op' := ow'.p.rd.one
    have ov' := ow'.v.rd.one
    have tp2 := ow'.sp.symm
    have tv2 := ow'.sv.symm
    have qv2 := ow'.pv.symm
    have es2 := es.symm
    have ep2 := ep.symm
    have ev2 := ev.symm
    simp only [subs] at es ep ev es2 ep2 ev2
    simp only [walk, lists, acts, mem, plain, seqs, maps, cells, resL, resV, intBin, ↓reduceIte, Nat.reduceAdd, Nat.reduceSub, Nat.reduceMul, Nat.reduceLeDiff, Nat.reduceEqDiff, Int.reduceToNat, Int.reduceEq, Int.reduceLT, Int.reduceLE, Int.reduceNeg, Int.reduceAdd, Int.reduceSub, Int.reduceMul, Nat.reducePow, Int.reduceNegSucc, zw]
    refine newB_intro fun j7 hj7 => ?_
    simp only [subs] at hj7
    have j37 : j3 ≠ j7 := fun e => cG (e ▸ hj7.2.2.2.2.2)
    have r1 := es.2.2.of cG
    have r2 := ep.2.2.of cG
    have r3 := ev.2.2.of cG
    have d2y := d2.symm
    have d1y := d1.symm
    simp only [subs] at d2y
    have C1 : Tk.Sub (gs' ++ (gp' ++ gv')) ((j7, blk (cWord w' s' p' v') 28) :: (gs' ++ (gp' ++ (gv' ++ (g2 ++ (g1 ++ C)))))) := by (repeat' first | exact Sub.refl _ | exact Sub.nil _ | assumption | refine Sub.both ?_ ?_ | refine Sub.cons_of (by simp only [subs, hj7, es, ep, ev, es2, ep2, ev2, ow'.sp, ow'.sv, ow'.pv, tp2, tv2, qv2, d2x, d2y, d1, d1y]) ?_ | exact Sub.left _ _ | refine Sub.app (by simp only [subs, hj7, es, ep, ev, es2, ep2, ev2, ow'.sp, ow'.sv, ow'.pv, tp2, tv2, qv2, d2x, d2y, d1, d1y]) ?_ | refine Sub.cons (by simp only [subs, hj7, es, ep, ev, es2, ep2, ev2, ow'.sp, ow'.sv, ow'.pv, tp2, tv2, qv2, d2x, d2y, d1, d1y]) ?_)
    have C2 : Tk.Sub C ((j7, blk (cWord w' s' p' v') 28) :: (gs' ++ (gp' ++ (gv' ++ (g2 ++ (g1 ++ C)))))) := by (repeat' first | exact Sub.refl _ | exact Sub.nil _ | assumption | refine Sub.both ?_ ?_ | refine Sub.cons_of (by simp only [subs, hj7, es, ep, ev, es2, ep2, ev2, ow'.sp, ow'.sv, ow'.pv, tp2, tv2, qv2, d2x, d2y, d1, d1y]) ?_ | exact Sub.left _ _ | refine Sub.app (by simp only [subs, hj7, es, ep, ev, es2, ep2, ev2, ow'.sp, ow'.sv, ow'.pv, tp2, tv2, qv2, d2x, d2y, d1, d1y]) ?_ | refine Sub.cons (by simp only [subs, hj7, es, ep, ev, es2, ep2, ev2, ow'.sp, ow'.sv, ow'.pv, tp2, tv2, qv2, d2x, d2y, d1, d1y]) ?_)
    simp only [walk, lists, acts, mem, plain, seqs, maps, cells, resL, resV, intBin, ↓reduceIte, Nat.reduceAdd, Nat.reduceSub, Nat.reduceMul, Nat.reduceLeDiff, Nat.reduceEqDiff, Int.reduceToNat, Int.reduceEq, Int.reduceLT, Int.reduceLE, Int.reduceNeg, Int.reduceAdd, Int.reduceSub, Int.reduceMul, Nat.reducePow, Int.reduceNegSucc, zw, wWord, os', op', ov', apps, j37, q1, q2, r1, r2, r3, cR]
    refine loWord_c (sWord.sub C1 ow'.rd) (sWord.sub C2 cW) hw ?_
    simp only [walk, lists, acts, mem, plain, seqs, maps, cells, resL, resV, intBin, ↓reduceIte, Nat.reduceAdd, Nat.reduceSub, Nat.reduceMul, Nat.reduceLeDiff, Nat.reduceEqDiff, Int.reduceToNat, Int.reduceEq, Int.reduceLT, Int.reduceLE, Int.reduceNeg, Int.reduceAdd, Int.reduceSub, Int.reduceMul, Nat.reducePow, Int.reduceNegSucc]
    exact ⟨h, cS.trans C2, k⟩
  · refine specPack_c cW hw (fun ok => absurd ok wp) fun _ v1 g1 o1 d1 => ?_
    have q1 := d1.of cG
    have one1 := o1.rd.one
    simp only [walk, lists, acts, mem, plain, seqs, maps, cells, resL, resV, intBin, ↓reduceIte, Nat.reduceAdd, Nat.reduceSub, Nat.reduceMul, Nat.reduceLeDiff, Nat.reduceEqDiff, Int.reduceToNat, Int.reduceEq, Int.reduceLT, Int.reduceLE, Int.reduceNeg, Int.reduceAdd, Int.reduceSub, Int.reduceMul, Nat.reducePow, Int.reduceNegSucc, zw, apps, q1, cR]
    refine specWordOk_c (sWord.sub (Sub.right d1) cW) hw fun b1 hb1 => ?_
    have e1 : b1 = false := by cases b1 with
      | false => rfl
      | true => exact absurd (hb1.1 rfl) wp
    subst e1
    simp only [walk, lists, acts, mem, plain, seqs, maps, cells, resL, resV, intBin, ↓reduceIte, Nat.reduceAdd, Nat.reduceSub, Nat.reduceMul, Nat.reduceLeDiff, Nat.reduceEqDiff, Int.reduceToNat, Int.reduceEq, Int.reduceLT, Int.reduceLE, Int.reduceNeg, Int.reduceAdd, Int.reduceSub, Int.reduceMul, Nat.reducePow, Int.reduceNegSucc, zw, apps, q1, cR]
    refine implPack_c (sWord.sub (Sub.right d1) cW) hw (fun ok => absurd ok wp) fun _ => ?_
    have bt1 := fun f => btos_rd (o1.rd.sub (Sub.left g1 C)) (f := f)
    have be : ByteArray.empty = ⟨([] : List UInt8).toArray⟩ := rfl
    simp only [walk, lists, acts, mem, plain, seqs, maps, cells, resL, resV, intBin, ↓reduceIte, Nat.reduceAdd, Nat.reduceSub, Nat.reduceMul, Nat.reduceLeDiff, Nat.reduceEqDiff, Int.reduceToNat, Int.reduceEq, Int.reduceLT, Int.reduceLE, Int.reduceNeg, Int.reduceAdd, Int.reduceSub, Int.reduceMul, Nat.reducePow, Int.reduceNegSucc, zw, apps, q1, cR, bt1, be, strBin, str_inj]
    refine implWordOk_c (sWord.sub (Sub.right d1) cW) hw fun b2 hb2 => ?_
    have e2 : b2 = false := by cases b2 with
      | false => rfl
      | true => exact absurd (hb2.1 rfl) wp
    subst e2
    simp only [walk, lists, acts, mem, plain, seqs, maps, cells, resL, resV, intBin, ↓reduceIte, Nat.reduceAdd, Nat.reduceSub, Nat.reduceMul, Nat.reduceLeDiff, Nat.reduceEqDiff, Int.reduceToNat, Int.reduceEq, Int.reduceLT, Int.reduceLE, Int.reduceNeg, Int.reduceAdd, Int.reduceSub, Int.reduceMul, Nat.reducePow, Int.reduceNegSucc, zw, beq_self_eq_true]
    exact ⟨h, cS.trans (Sub.right d1), k⟩
end Go.Proofs.Ytllhdnfcneejaaa
end
