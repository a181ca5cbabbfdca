/- What both read of bytes, and that they read the same. -/
import Derived.Test.YtllhdnfcneejaaaT27
import Derived.Test.YtllhdnfcneejaaaT3
set_option linter.unusedVariables false
set_option linter.unusedSimpArgs false
set_option maxRecDepth 20000
attribute [local irreducible] Go.Tk.vc Go.Tk.vops Go.Tk.vdr Go.Tk.vop Go.Tk.vfl Go.Tk.HCalls
namespace Go.Proofs.Ytllhdnfcneejaaa
open Go Go.Tk

/-- What is read of bytes. -/
def Out (l : List UInt8) (w : DWord) (ok : Bool) : Prop := (ok = true ∧ wordP w ∧ l = pack w ∧ ∀ w0, wordP w0 → l = pack w0 → w = w0) ∨ (ok = false ∧ w = zWord ∧ ∀ w0, wordP w0 → l ≠ pack w0)
theorem Out.same {l : List UInt8} {w w' : DWord} {ok ok' : Bool} (a : Out l w ok) (b : Out l w' ok') : w = w' ∧ ok = ok' := by
  rcases a with ⟨rfl, p, e, u⟩ | ⟨rfl, rfl, n⟩ <;> rcases b with ⟨rfl, p', e', u'⟩ | ⟨rfl, rfl, n'⟩
  · exact ⟨u _ p' e', rfl⟩
  · exact absurd e (n' _ p)
  · exact absurd e' (n _ p')
  · exact ⟨rfl, rfl⟩

theorem oW_nil (es ep ev : TypeId) : oWord es ep ev zWord (.slice none 0 0) (.slice none 0 0) (.slice none 0 0) [] [] [] := ⟨ows.nil _ _, ows.nil _ _, ows.nil _ _, Dj.nil _, Dj.nil _, Dj.nil _⟩

theorem specUnpack_u {h : H} {b : Value} {l : List UInt8} (rb : rBytes h b l) (hl : l.length ≤ 1099511627776) {R : Ending → H → Prop}
    (k : ∀ w ok s p v gs gp gv, Out l w ok → oWord 3 69 3 w s p v gs gp gv → wLen w → Dj gs h → Dj gp h → Dj gv h → R (.returned (.tuple #[.agg (cWord w s p v).toArray, .bool ok])) (gs ++ (gp ++ (gv ++ h)))) :
    HCalls Try.prog 7 #[b] h R :=
  specUnpack_c rb hl (fun w s p v gs gp gv h1 h2 h3 o hw ds dp dv => k w true s p v gs gp gv (.inl ⟨rfl, h1, h2, h3⟩) o hw ds dp dv)
    fun no => k zWord false _ _ _ [] [] [] (.inr ⟨rfl, rfl, no⟩) (oW_nil _ _ _) ⟨by decide, by decide, by decide⟩ (Dj.nil _) (Dj.nil _) (Dj.nil _)
theorem implUnpack_u {h : H} {b : Value} {l : List UInt8} (rb : rBytes h b l) (hl : l.length ≤ 1099511627776) {R : Ending → H → Prop}
    (k : ∀ w ok s p v gs gp gv, Out l w ok → oWord 3 69 3 w s p v gs gp gv → wLen w → Dj gs h → Dj gp h → Dj gv h → R (.returned (.tuple #[.agg (cWord w s p v).toArray, .bool ok])) (gs ++ (gp ++ (gv ++ h)))) :
    HCalls Try.prog 9 #[b] h R :=
  implUnpack_c rb hl (fun w s p v gs gp gv h1 h2 h3 o hw ds dp dv => k w true s p v gs gp gv (.inl ⟨rfl, h1, h2, h3⟩) o hw ds dp dv)
    fun no => k zWord false _ _ _ [] [] [] (.inr ⟨rfl, rfl, no⟩) (oW_nil _ _ _) ⟨by decide, by decide, by decide⟩ (Dj.nil _) (Dj.nil _) (Dj.nil _)

theorem exactUnpack_c {h : H} {b : Value} {l : List UInt8} (rb : rIn h eB 1 b l) {R : Ending → H → Prop} (k : R (.returned (.bool true)) h) :
    HCalls Try.prog 3 #[b] h R := by
  refine HCalls_ir (args := [b]) Try.func3 ir3 ?_
  have zw := zWord_eq
  simp only [str] at zw
  simp only [walk, lists, acts, mem, plain, seqs, maps, cells, resL, resV, intBin, ↓reduceIte, Nat.reduceAdd, Nat.reduceSub, Nat.reduceMul, Nat.reduceLeDiff, Nat.reduceEqDiff, Int.reduceToNat, Int.reduceEq, Int.reduceLT, Int.reduceLE, Int.reduceNeg, Int.reduceAdd, Int.reduceSub, Int.reduceMul, Nat.reducePow, Int.reduceNegSucc, str, zw, rb.len]
  refine ite_lt (fun _ => .of k) fun c0 => ?_
  have hl : l.length ≤ 1099511627776 := by omega
  refine toByteS_c rb hl fun v1 g1 o1 d1 => ?_
  simp only [walk, lists, acts, mem, plain, seqs, maps, cells, resL, resV, intBin, ↓reduceIte, Nat.reduceAdd, Nat.reduceSub, Nat.reduceMul, Nat.reduceLeDiff, Nat.reduceEqDiff, Int.reduceToNat, Int.reduceEq, Int.reduceLT, Int.reduceLE, Int.reduceNeg, Int.reduceAdd, Int.reduceSub, Int.reduceMul, Nat.reducePow, Int.reduceNegSucc, zw]
  refine specUnpack_u (o1.rd.sub (Sub.left _ _)) hl fun w ok s p v gs gp gv ou ow hw ds dp dv => ?_
  have os := ow.s.rd.one
  have op := ow.p.rd.one
  have ov := ow.v.rd.one
  simp only [walk, lists, acts, mem, plain, seqs, maps, cells, resL, resV, intBin, ↓reduceIte, Nat.reduceAdd, Nat.reduceSub, Nat.reduceMul, Nat.reduceLeDiff, Nat.reduceEqDiff, Int.reduceToNat, Int.reduceEq, Int.reduceLT, Int.reduceLE, Int.reduceNeg, Int.reduceAdd, Int.reduceSub, Int.reduceMul, Nat.reducePow, Int.reduceNegSucc, zw]
  refine newB_intro fun j3 hj3 => ?_
  simp only [walk, lists, acts, mem, plain, seqs, maps, cells, resL, resV, intBin, ↓reduceIte, Nat.reduceAdd, Nat.reduceSub, Nat.reduceMul, Nat.reduceLeDiff, Nat.reduceEqDiff, Int.reduceToNat, Int.reduceEq, Int.reduceLT, Int.reduceLE, Int.reduceNeg, Int.reduceAdd, Int.reduceSub, Int.reduceMul, Nat.reducePow, Int.reduceNegSucc, zw, wWord, os, op, ov]
  simp only [subs] at hj3
  have ds1 := ds
  have dp1 := dp
  have dv1 := dv
  have ds2 := ds.symm
  have dp2 := dp.symm
  have dv2 := dv.symm
  have sp2 := ow.sp.symm
  have sv2 := ow.sv.symm
  have pv2 := ow.pv.symm
  simp only [subs] at ds1 dp1 dv1 ds2 dp2 dv2
  obtain ⟨B, hB⟩ : ∃ B, B = (j3, blk (cWord w s p v) 28) :: (gs ++ (gp ++ (gv ++ h))) := ⟨_, rfl⟩
  have bS : Tk.Sub h B := by rw [hB]; (repeat' first | exact Sub.refl _ | exact Sub.nil _ | assumption | refine Sub.both ?_ ?_ | refine Sub.cons_of (by simp only [subs, hj3, ds1, dp1, dv1, ds2, dp2, dv2, ow.sp, ow.sv, ow.pv, sp2, sv2, pv2]) ?_ | exact Sub.left _ _ | refine Sub.app (by simp only [subs, hj3, ds1, dp1, dv1, ds2, dp2, dv2, ow.sp, ow.sv, ow.pv, sp2, sv2, pv2]) ?_ | refine Sub.cons (by simp only [subs, hj3, ds1, dp1, dv1, ds2, dp2, dv2, ow.sp, ow.sv, ow.pv, sp2, sv2, pv2]) ?_)
  have bW : sWord B w s p v := sWord.sub (by rw [hB]; (repeat' first | exact Sub.refl _ | exact Sub.nil _ | assumption | refine Sub.both ?_ ?_ | refine Sub.cons_of (by simp only [subs, hj3, ds1, dp1, dv1, ds2, dp2, dv2, ow.sp, ow.sv, ow.pv, sp2, sv2, pv2]) ?_ | exact Sub.left _ _ | refine Sub.app (by simp only [subs, hj3, ds1, dp1, dv1, ds2, dp2, dv2, ow.sp, ow.sv, ow.pv, sp2, sv2, pv2]) ?_ | refine Sub.cons (by simp only [subs, hj3, ds1, dp1, dv1, ds2, dp2, dv2, ow.sp, ow.sv, ow.pv, sp2, sv2, pv2]) ?_)) ow.rd
  have bG : hget B j3 ≠ none := by rw [hB, hget_same]; simp
  have bR : hread B j3 0 17 = some (cWord w s p v) := by rw [hB]; simp only [walk, lists, acts, mem, plain, seqs, maps, cells, resL, resV, intBin, ↓reduceIte, Nat.reduceAdd, Nat.reduceSub, Nat.reduceMul, Nat.reduceLeDiff, Nat.reduceEqDiff, Int.reduceToNat, Int.reduceEq, Int.reduceLT, Int.reduceLE, Int.reduceNeg, Int.reduceAdd, Int.reduceSub, Int.reduceMul, Nat.reducePow, Int.reduceNegSucc, wWord]
  refine (toByteS_c (h := B) (rb.sub bS) hl fun v2 g2 o2 d2 => ?_).weaken (by rw [hB]; (repeat' first | exact Sub.refl _ | exact Sub.nil _ | assumption | refine Sub.both ?_ ?_ | refine Sub.cons_of (by simp only [subs, hj3, ds1, dp1, dv1, ds2, dp2, dv2, ow.sp, ow.sv, ow.pv, sp2, sv2, pv2, d1]) ?_ | exact Sub.left _ _ | refine Sub.app (by simp only [subs, hj3, ds1, dp1, dv1, ds2, dp2, dv2, ow.sp, ow.sv, ow.pv, sp2, sv2, pv2, d1]) ?_ | refine Sub.cons (by simp only [subs, hj3, ds1, dp1, dv1, ds2, dp2, dv2, ow.sp, ow.sv, ow.pv, sp2, sv2, pv2, d1]) ?_))
  clear hB
  simp only [walk, lists, acts, mem, plain, seqs, maps, cells, resL, resV, intBin, ↓reduceIte, Nat.reduceAdd, Nat.reduceSub, Nat.reduceMul, Nat.reduceLeDiff, Nat.reduceEqDiff, Int.reduceToNat, Int.reduceEq, Int.reduceLT, Int.reduceLE, Int.reduceNeg, Int.reduceAdd, Int.reduceSub, Int.reduceMul, Nat.reducePow, Int.reduceNegSucc, zw]
  refine implUnpack_u (o2.rd.sub (Sub.left g2 B)) hl fun w' ok' s' p' v' gs' gp' gv' ou' ow' hw' es ep ev => ?_
  obtain ⟨rfl, rfl⟩ := ou.same ou'
  have os' := ow'.s.rd.one
  have op' := ow'.p.rd.one
  have ov' := ow'.v.rd.one
  have tp2 := ow'.sp.symm
  have tv2 := ow'.sv.symm
  have qv2 := ow'.pv.symm
  have es2 := es.symm
  have ep2 := ep.symm
  have ev2 := ev.symm
  have d2' := d2.symm
  simp only [subs] at es ep ev es2 ep2 ev2
  simp only [walk, lists, acts, mem, plain, seqs, maps, cells, resL, resV, intBin, ↓reduceIte, Nat.reduceAdd, Nat.reduceSub, Nat.reduceMul, Nat.reduceLeDiff, Nat.reduceEqDiff, Int.reduceToNat, Int.reduceEq, Int.reduceLT, Int.reduceLE, Int.reduceNeg, Int.reduceAdd, Int.reduceSub, Int.reduceMul, Nat.reducePow, Int.reduceNegSucc, zw]
  refine newB_intro fun j6 hj6 => ?_
  simp only [subs] at hj6
  have j36 : j3 ≠ j6 := fun e => bG (e ▸ hj6.2.2.2.2)
  have q1 := es.2.of bG
  have q2 := ep.2.of bG
  have q3 := ev.2.of bG
  have q4 := d2.of bG
  have dw : decide (w = w) = true := by simp
  have dl : decide (l = l) = true := by simp
  have C1 : Tk.Sub (gs' ++ (gp' ++ gv')) ((j6, blk (cWord w s' p' v') 28) :: (gs' ++ (gp' ++ (gv' ++ (g2 ++ B))))) := by (repeat' first | exact Sub.refl _ | exact Sub.nil _ | assumption | refine Sub.both ?_ ?_ | refine Sub.cons_of (by simp only [subs, hj6, es, ep, ev, es2, ep2, ev2, ow'.sp, ow'.sv, ow'.pv, tp2, tv2, qv2, d2, d2']) ?_ | exact Sub.left _ _ | refine Sub.app (by simp only [subs, hj6, es, ep, ev, es2, ep2, ev2, ow'.sp, ow'.sv, ow'.pv, tp2, tv2, qv2, d2, d2']) ?_ | refine Sub.cons (by simp only [subs, hj6, es, ep, ev, es2, ep2, ev2, ow'.sp, ow'.sv, ow'.pv, tp2, tv2, qv2, d2, d2']) ?_)
  have C2 : Tk.Sub B ((j6, blk (cWord w s' p' v') 28) :: (gs' ++ (gp' ++ (gv' ++ (g2 ++ B))))) := by (repeat' first | exact Sub.refl _ | exact Sub.nil _ | assumption | refine Sub.both ?_ ?_ | refine Sub.cons_of (by simp only [subs, hj6, es, ep, ev, es2, ep2, ev2, ow'.sp, ow'.sv, ow'.pv, tp2, tv2, qv2, d2, d2']) ?_ | exact Sub.left _ _ | refine Sub.app (by simp only [subs, hj6, es, ep, ev, es2, ep2, ev2, ow'.sp, ow'.sv, ow'.pv, tp2, tv2, qv2, d2, d2']) ?_ | refine Sub.cons (by simp only [subs, hj6, es, ep, ev, es2, ep2, ev2, ow'.sp, ow'.sv, ow'.pv, tp2, tv2, qv2, d2, d2']) ?_)
  have C3 : Tk.Sub g2 ((j6, blk (cWord w s' p' v') 28) :: (gs' ++ (gp' ++ (gv' ++ (g2 ++ B))))) := by (repeat' first | exact Sub.refl _ | exact Sub.nil _ | assumption | refine Sub.both ?_ ?_ | refine Sub.cons_of (by simp only [subs, hj6, es, ep, ev, es2, ep2, ev2, ow'.sp, ow'.sv, ow'.pv, tp2, tv2, qv2, d2, d2']) ?_ | exact Sub.left _ _ | refine Sub.app (by simp only [subs, hj6, es, ep, ev, es2, ep2, ev2, ow'.sp, ow'.sv, ow'.pv, tp2, tv2, qv2, d2, d2']) ?_ | refine Sub.cons (by simp only [subs, hj6, es, ep, ev, es2, ep2, ev2, ow'.sp, ow'.sv, ow'.pv, tp2, tv2, qv2, d2, d2']) ?_)
  simp only [walk, lists, acts, mem, plain, seqs, maps, cells, resL, resV, intBin, ↓reduceIte, Nat.reduceAdd, Nat.reduceSub, Nat.reduceMul, Nat.reduceLeDiff, Nat.reduceEqDiff, Int.reduceToNat, Int.reduceEq, Int.reduceLT, Int.reduceLE, Int.reduceNeg, Int.reduceAdd, Int.reduceSub, Int.reduceMul, Nat.reducePow, Int.reduceNegSucc, zw, wWord, os', op', ov', apps, j36, q1, q2, q3, q4, bR]
  refine eqWord_c (sWord.sub C1 ow'.rd) (sWord.sub C2 bW) hw ?_
  simp only [walk, lists, acts, mem, plain, seqs, maps, cells, resL, resV, intBin, ↓reduceIte, Nat.reduceAdd, Nat.reduceSub, Nat.reduceMul, Nat.reduceLeDiff, Nat.reduceEqDiff, Int.reduceToNat, Int.reduceEq, Int.reduceLT, Int.reduceLE, Int.reduceNeg, Int.reduceAdd, Int.reduceSub, Int.reduceMul, Nat.reducePow, Int.reduceNegSucc, dw, beq_self_eq_true]
  refine toByteS_c (rb.sub (bS.trans C2)) hl fun v3 g3 o3 d3 => ?_
  simp only [walk, lists, acts, mem, plain, seqs, maps, cells, resL, resV, intBin, ↓reduceIte, Nat.reduceAdd, Nat.reduceSub, Nat.reduceMul, Nat.reduceLeDiff, Nat.reduceEqDiff, Int.reduceToNat, Int.reduceEq, Int.reduceLT, Int.reduceLE, Int.reduceNeg, Int.reduceAdd, Int.reduceSub, Int.reduceMul, Nat.reducePow, Int.reduceNegSucc]
  refine eqByteS_c (o2.rd.sub (C3.trans (Sub.right d3))) (o3.rd.sub (Sub.left _ _)) hl ?_
  simp only [walk, lists, acts, mem, plain, seqs, maps, cells, resL, resV, intBin, ↓reduceIte, Nat.reduceAdd, Nat.reduceSub, Nat.reduceMul, Nat.reduceLeDiff, Nat.reduceEqDiff, Int.reduceToNat, Int.reduceEq, Int.reduceLT, Int.reduceLE, Int.reduceNeg, Int.reduceAdd, Int.reduceSub, Int.reduceMul, Nat.reducePow, Int.reduceNegSucc, dl]
  have d3' := d3.symm
  simp only [subs] at d3 d3'
  refine (markByteS_c (h0 := (j6, blk (cWord w s' p' v') 28) :: (gs' ++ (gp' ++ (gv' ++ B)))) (k := 1) o2 (by simp only [subs, hj6, es, ep, ev, es2, ep2, ev2, d2]) hl (by omega) fun l4 g4 hl4 o4 d4 => ?_).weaken (by (repeat' first | exact Sub.refl _ | exact Sub.nil _ | assumption | refine Sub.both ?_ ?_ | refine Sub.cons_of (by simp only [subs, hj6, es, ep, ev, es2, ep2, ev2, ow'.sp, ow'.sv, ow'.pv, tp2, tv2, qv2, d2, d2', d3, d3']) ?_ | exact Sub.left _ _ | refine Sub.app (by simp only [subs, hj6, es, ep, ev, es2, ep2, ev2, ow'.sp, ow'.sv, ow'.pv, tp2, tv2, qv2, d2, d2', d3, d3']) ?_ | refine Sub.cons (by simp only [subs, hj6, es, ep, ev, es2, ep2, ev2, ow'.sp, ow'.sv, ow'.pv, tp2, tv2, qv2, d2, d2', d3, d3']) ?_))
  simp only [walk, lists, acts, mem, plain, seqs, maps, cells, resL, resV, intBin, ↓reduceIte, Nat.reduceAdd, Nat.reduceSub, Nat.reduceMul, Nat.reduceLeDiff, Nat.reduceEqDiff, Int.reduceToNat, Int.reduceEq, Int.reduceLT, Int.reduceLE, Int.reduceNeg, Int.reduceAdd, Int.reduceSub, Int.reduceMul, Nat.reducePow, Int.reduceNegSucc]
  refine ite_lt (fun c => absurd c (by omega)) fun _ => ?_
  have d4' := d4.symm
  simp only [subs] at d4 d4'
  have F1 : Tk.Sub (gs' ++ (gp' ++ gv')) (g4 ++ ((j6, blk (cWord w s' p' v') 28) :: (gs' ++ (gp' ++ (gv' ++ B))))) := by (repeat' first | exact Sub.refl _ | exact Sub.nil _ | assumption | refine Sub.both ?_ ?_ | refine Sub.cons_of (by simp only [subs, hj6, es, ep, ev, es2, ep2, ev2, ow'.sp, ow'.sv, ow'.pv, tp2, tv2, qv2, d4, d4']) ?_ | exact Sub.left _ _ | refine Sub.app (by simp only [subs, hj6, es, ep, ev, es2, ep2, ev2, ow'.sp, ow'.sv, ow'.pv, tp2, tv2, qv2, d4, d4']) ?_ | refine Sub.cons (by simp only [subs, hj6, es, ep, ev, es2, ep2, ev2, ow'.sp, ow'.sv, ow'.pv, tp2, tv2, qv2, d4, d4']) ?_)
  have F2 : Tk.Sub B (g4 ++ ((j6, blk (cWord w s' p' v') 28) :: (gs' ++ (gp' ++ (gv' ++ B))))) := by (repeat' first | exact Sub.refl _ | exact Sub.nil _ | assumption | refine Sub.both ?_ ?_ | refine Sub.cons_of (by simp only [subs, hj6, es, ep, ev, es2, ep2, ev2, ow'.sp, ow'.sv, ow'.pv, tp2, tv2, qv2, d4, d4']) ?_ | exact Sub.left _ _ | refine Sub.app (by simp only [subs, hj6, es, ep, ev, es2, ep2, ev2, ow'.sp, ow'.sv, ow'.pv, tp2, tv2, qv2, d4, d4']) ?_ | refine Sub.cons (by simp only [subs, hj6, es, ep, ev, es2, ep2, ev2, ow'.sp, ow'.sv, ow'.pv, tp2, tv2, qv2, d4, d4']) ?_)
  have q5 : hget g4 j3 = none := d4.2.2.2.2.of bG
  simp only [walk, lists, acts, mem, plain, seqs, maps, cells, resL, resV, intBin, ↓reduceIte, Nat.reduceAdd, Nat.reduceSub, Nat.reduceMul, Nat.reduceLeDiff, Nat.reduceEqDiff, Int.reduceToNat, Int.reduceEq, Int.reduceLT, Int.reduceLE, Int.reduceNeg, Int.reduceAdd, Int.reduceSub, Int.reduceMul, Nat.reducePow, Int.reduceNegSucc, zw, wWord, os', op', ov', apps, d4, j36, q1, q2, q3, q5, bR]
  refine eqWord_c (sWord.sub F1 ow'.rd) (sWord.sub F2 bW) hw ?_
  simp only [walk, lists, acts, mem, plain, seqs, maps, cells, resL, resV, intBin, ↓reduceIte, Nat.reduceAdd, Nat.reduceSub, Nat.reduceMul, Nat.reduceLeDiff, Nat.reduceEqDiff, Int.reduceToNat, Int.reduceEq, Int.reduceLT, Int.reduceLE, Int.reduceNeg, Int.reduceAdd, Int.reduceSub, Int.reduceMul, Nat.reducePow, Int.reduceNegSucc, dw, beq_self_eq_true, zw, wWord, os', op', ov', apps, d4, j36, q1, q2, q3, q5, bR]
  refine (markWord_c (k := 1) (h0 := (j6, blk (cWord w s' p' v') 28) :: B) ow' (by simp only [subs, hj6, es]) (by simp only [subs, hj6, ep]) (by simp only [subs, hj6, ev]) hw (by omega) fun a1 a2 a3 aw xs xp xv => ?_).weaken (by (repeat' first | exact Sub.refl _ | exact Sub.nil _ | assumption | refine Sub.both ?_ ?_ | refine Sub.cons_of (by simp only [subs, hj6, es, ep, ev, es2, ep2, ev2, ow'.sp, ow'.sv, ow'.pv, tp2, tv2, qv2, d4, d4']) ?_ | exact Sub.left _ _ | refine Sub.app (by simp only [subs, hj6, es, ep, ev, es2, ep2, ev2, ow'.sp, ow'.sv, ow'.pv, tp2, tv2, qv2, d4, d4']) ?_ | refine Sub.cons (by simp only [subs, hj6, es, ep, ev, es2, ep2, ev2, ow'.sp, ow'.sv, ow'.pv, tp2, tv2, qv2, d4, d4']) ?_))
  have xs2 := xs.symm
  have xp2 := xp.symm
  have xv2 := xv.symm
  have yp2 := aw.sp.symm
  have yv2 := aw.sv.symm
  have yw2 := aw.pv.symm
  simp only [subs] at xs xp xv xs2 xp2 xv2
  simp only [walk, lists, acts, mem, plain, seqs, maps, cells, resL, resV, intBin, ↓reduceIte, Nat.reduceAdd, Nat.reduceSub, Nat.reduceMul, Nat.reduceLeDiff, Nat.reduceEqDiff, Int.reduceToNat, Int.reduceEq, Int.reduceLT, Int.reduceLE, Int.reduceNeg, Int.reduceAdd, Int.reduceSub, Int.reduceMul, Nat.reducePow, Int.reduceNegSucc, zw, wWord, apps, xs, xp, xv]
  have hwl := hw
  obtain ⟨w1, w2, w3⟩ := hwl
  obtain ⟨m, hm⟩ : ∃ m : DWord, m = { w with slots := mks 1 w.slots.length, pairs := mkp (1 + w.slots.length) w.pairs.length, vals := mks (1 + w.slots.length + 2 * w.pairs.length) w.vals.length } := ⟨_, rfl⟩
  have mc : ∀ a b c, cWord w a b c = cWord m a b c := fun a b c => by rw [hm]; rfl
  have m1 : m.slots.length = w.slots.length := by rw [hm]; simp [mks_len]
  have m2 : m.pairs.length = w.pairs.length := by rw [hm]; simp [mkp_len]
  have m3 : m.vals.length = w.vals.length := by rw [hm]; simp [mks_len]
  have k1 : m.slots = mks 1 m.slots.length := by rw [m1]; rw [hm]
  have k2 : m.pairs = mkp (1 + m.slots.length) m.pairs.length := by rw [m1, m2]; rw [hm]
  have k3 : m.vals = mks (1 + m.slots.length + 2 * m.pairs.length) m.vals.length := by rw [m1, m2, m3]; rw [hm]
  have hwm : wLen m := ⟨by rw [m1]; exact w1, by rw [m2]; exact w2, by rw [m3]; exact w3⟩
  rw [← hm] at aw
  obtain ⟨N, hN⟩ : ∃ N : Int, N = 1 + w.slots.length + 2 * w.pairs.length + w.vals.length := ⟨_, rfl⟩
  have hN2 : (1 + (m.slots.length : Int) + 2 * m.pairs.length + m.vals.length) = N := by rw [m1, m2, m3, hN]
  have N0 : ¬ N < 0 := by omega
  obtain ⟨A, hA⟩ : ∃ A : H, A = a1 ++ (a2 ++ a3) := ⟨_, rfl⟩
  have Aw : sWord A m s' p' v' := by rw [hA]; exact aw.rd
  have dA : Dj A ((j6, blk (cWord w s' p' v') 28) :: B) := by rw [hA]; simp only [subs, xs, xp, xv]
  have dA' := dA.symm
  simp only [subs] at dA dA'
  rw [← List.append_assoc a2, ← List.append_assoc a1, ← hA, ← hN]
  have G1 : Tk.Sub A (A ++ ((j6, blk (cWord w s' p' v') 28) :: B)) := Sub.left _ _
  have G2 : Tk.Sub B (A ++ ((j6, blk (cWord w s' p' v') 28) :: B)) := by (repeat' first | exact Sub.refl _ | exact Sub.nil _ | assumption | refine Sub.both ?_ ?_ | refine Sub.cons_of (by simp only [subs, dA, hj6]) ?_ | exact Sub.left _ _ | refine Sub.app (by simp only [subs, dA, hj6]) ?_ | refine Sub.cons (by simp only [subs, dA, hj6]) ?_)
  have q6 : hget A j3 = none := dA.2.of bG
  have held : ∀ {M : H} {R : Ending → H → Prop}, Tk.Sub A M → R (.returned (.int .i64 N)) M → HCalls Try.prog 14 #[.agg (cWord w s' p' v').toArray, .int .i64 1] M R := fun hs hr => by
    rw [mc]
    refine heldWord_c (sWord.sub hs Aw) k1 k2 k3 hwm (by omega) ?_
    rw [hN2]; exact hr
  refine held G1 ?_
  simp only [walk, lists, acts, mem, plain, seqs, maps, cells, resL, resV, intBin, ↓reduceIte, Nat.reduceAdd, Nat.reduceSub, Nat.reduceMul, Nat.reduceLeDiff, Nat.reduceEqDiff, Int.reduceToNat, Int.reduceEq, Int.reduceLT, Int.reduceLE, Int.reduceNeg, Int.reduceAdd, Int.reduceSub, Int.reduceMul, Nat.reducePow, Int.reduceNegSucc, N0, zw]
  refine toByteS_c (rb.sub (bS.trans G2)) hl fun v5 g5 o5 d5 => ?_
  simp only [walk, lists, acts, mem, plain, seqs, maps, cells, resL, resV, intBin, ↓reduceIte, Nat.reduceAdd, Nat.reduceSub, Nat.reduceMul, Nat.reduceLeDiff, Nat.reduceEqDiff, Int.reduceToNat, Int.reduceEq, Int.reduceLT, Int.reduceLE, Int.reduceNeg, Int.reduceAdd, Int.reduceSub, Int.reduceMul, Nat.reducePow, Int.reduceNegSucc, zw]
  refine implUnpack_u (o5.rd.sub (Sub.left _ _)) hl fun w' ok' s6 p6 v6 gs6 gp6 gv6 ou6 ow6 hw6 es6 ep6 ev6 => ?_
  obtain ⟨rfl, rfl⟩ := ou.same ou6
  have os6 := ow6.s.rd.one
  have op6 := ow6.p.rd.one
  have ov6 := ow6.v.rd.one
  have tp6 := ow6.sp.symm
  have tv6 := ow6.sv.symm
  have qv6 := ow6.pv.symm
  have es6' := es6.symm
  have ep6' := ep6.symm
  have ev6' := ev6.symm
  have d5' := d5.symm
  simp only [subs] at es6 ep6 ev6 es6' ep6' ev6' d5 d5'
  simp only [walk, lists, acts, mem, plain, seqs, maps, cells, resL, resV, intBin, ↓reduceIte, Nat.reduceAdd, Nat.reduceSub, Nat.reduceMul, Nat.reduceLeDiff, Nat.reduceEqDiff, Int.reduceToNat, Int.reduceEq, Int.reduceLT, Int.reduceLE, Int.reduceNeg, Int.reduceAdd, Int.reduceSub, Int.reduceMul, Nat.reducePow, Int.reduceNegSucc, zw]
  refine newB_intro fun j7 hj7 => ?_
  simp only [subs] at hj7
  have BB : hget ((j6, blk (cWord w s' p' v') 28) :: B) j3 ≠ none := by rw [hget_next _ _ _ j36]; exact bG
  have r1 : hget gs6 j3 = none := es6.2.2.2.of bG
  have r2 : hget gp6 j3 = none := ep6.2.2.2.of bG
  have r3 : hget gv6 j3 = none := ev6.2.2.2.of bG
  have r4 : hget g5 j3 = none := d5.2.2.of bG
  have j37 : j3 ≠ j7 := fun e => bG (e ▸ hj7.2.2.2.2.2.2)
  have j67 : j6 ≠ j7 := Ne.symm hj7.2.2.2.2.2.1
  obtain ⟨L, hL⟩ : ∃ L : H, L = (j7, blk (cWord w s6 p6 v6) 28) :: (gs6 ++ (gp6 ++ (gv6 ++ (g5 ++ (A ++ ((j6, blk (cWord w s' p' v') 28) :: B)))))) := ⟨_, rfl⟩
  have L1 : Tk.Sub (gs6 ++ (gp6 ++ gv6)) L := by rw [hL]; (repeat' first | exact Sub.refl _ | exact Sub.nil _ | assumption | refine Sub.both ?_ ?_ | refine Sub.cons_of (by simp only [subs, hj7, es6, ep6, ev6, es6', ep6', ev6', ow6.sp, ow6.sv, ow6.pv, tp6, tv6, qv6, d5, d5']) ?_ | exact Sub.left _ _ | refine Sub.app (by simp only [subs, hj7, es6, ep6, ev6, es6', ep6', ev6', ow6.sp, ow6.sv, ow6.pv, tp6, tv6, qv6, d5, d5']) ?_ | refine Sub.cons (by simp only [subs, hj7, es6, ep6, ev6, es6', ep6', ev6', ow6.sp, ow6.sv, ow6.pv, tp6, tv6, qv6, d5, d5']) ?_)
  have L2 : Tk.Sub B L := by rw [hL]; (repeat' first | exact Sub.refl _ | exact Sub.nil _ | assumption | refine Sub.both ?_ ?_ | refine Sub.cons_of (by simp only [subs, hj7, es6, ep6, ev6, es6', ep6', ev6', ow6.sp, ow6.sv, ow6.pv, tp6, tv6, qv6, d5, d5', dA, hj6]) ?_ | exact Sub.left _ _ | refine Sub.app (by simp only [subs, hj7, es6, ep6, ev6, es6', ep6', ev6', ow6.sp, ow6.sv, ow6.pv, tp6, tv6, qv6, d5, d5', dA, hj6]) ?_ | refine Sub.cons (by simp only [subs, hj7, es6, ep6, ev6, es6', ep6', ev6', ow6.sp, ow6.sv, ow6.pv, tp6, tv6, qv6, d5, d5', dA, hj6]) ?_)
  have L3 : Tk.Sub A L := by rw [hL]; (repeat' first | exact Sub.refl _ | exact Sub.nil _ | assumption | refine Sub.both ?_ ?_ | refine Sub.cons_of (by simp only [subs, hj7, es6, ep6, ev6, es6', ep6', ev6', ow6.sp, ow6.sv, ow6.pv, tp6, tv6, qv6, d5, d5', dA, hj6]) ?_ | exact Sub.left _ _ | refine Sub.app (by simp only [subs, hj7, es6, ep6, ev6, es6', ep6', ev6', ow6.sp, ow6.sv, ow6.pv, tp6, tv6, qv6, d5, d5', dA, hj6]) ?_ | refine Sub.cons (by simp only [subs, hj7, es6, ep6, ev6, es6', ep6', ev6', ow6.sp, ow6.sv, ow6.pv, tp6, tv6, qv6, d5, d5', dA, hj6]) ?_)
  simp only [walk, lists, acts, mem, plain, seqs, maps, cells, resL, resV, intBin, ↓reduceIte, Nat.reduceAdd, Nat.reduceSub, Nat.reduceMul, Nat.reduceLeDiff, Nat.reduceEqDiff, Int.reduceToNat, Int.reduceEq, Int.reduceLT, Int.reduceLE, Int.reduceNeg, Int.reduceAdd, Int.reduceSub, Int.reduceMul, Nat.reducePow, Int.reduceNegSucc, zw, wWord, os6, op6, ov6, apps, es6, ep6, ev6, d5, dA, j36, j37, j67, r1, r2, r3, r4, q6, bR]
  rw [← hL]
  refine eqWord_c (sWord.sub L1 ow6.rd) (sWord.sub L2 bW) hw ?_
  rw [hL]
  simp only [walk, lists, acts, mem, plain, seqs, maps, cells, resL, resV, intBin, ↓reduceIte, Nat.reduceAdd, Nat.reduceSub, Nat.reduceMul, Nat.reduceLeDiff, Nat.reduceEqDiff, Int.reduceToNat, Int.reduceEq, Int.reduceLT, Int.reduceLE, Int.reduceNeg, Int.reduceAdd, Int.reduceSub, Int.reduceMul, Nat.reducePow, Int.reduceNegSucc, dw, beq_self_eq_true, zw, wWord, os6, op6, ov6, apps, es6, ep6, ev6, d5, dA, j36, j37, j67, r1, r2, r3, r4, q6, bR]
  rw [← hL]
  refine held L3 ?_
  simp only [walk, lists, acts, mem, plain, seqs, maps, cells, resL, resV, intBin, ↓reduceIte, Nat.reduceAdd, Nat.reduceSub, Nat.reduceMul, Nat.reduceLeDiff, Nat.reduceEqDiff, Int.reduceToNat, Int.reduceEq, Int.reduceLT, Int.reduceLE, Int.reduceNeg, Int.reduceAdd, Int.reduceSub, Int.reduceMul, Nat.reducePow, Int.reduceNegSucc, N0]
  exact ⟨h, bS.trans L2, k⟩
end Go.Proofs.Ytllhdnfcneejaaa
