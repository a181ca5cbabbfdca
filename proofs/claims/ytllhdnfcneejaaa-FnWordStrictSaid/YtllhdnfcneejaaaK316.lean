/- Bytes that are drawn, and that each word has one row of bytes. -/
import Derived.Test.YtllhdnfcneejaaaK315
set_option linter.unusedVariables false
set_option linter.unusedSimpArgs false
set_option maxRecDepth 20000
attribute [local irreducible] Go.Tk.vc Go.Tk.vops Go.Tk.vdr Go.Tk.vop Go.Tk.vfl Go.Tk.HCalls
namespace Go.Proofs.Ytllhdnfcneejaaa
open Go Go.Tk

theorem specPack_any {h : H} {w : DWord} {s p v : Value} (r : sWord h w s p v) (hw : wLen w) {R : Ending → H → Prop}
    (k : ∀ v' l g', oLs 5 eB 1 v' l g' → l.length ≤ 10000 → Dj g' h → R (.returned v') (g' ++ h)) : HCalls Try.prog 16 #[.agg (cWord w s p v).toArray] h R :=
  specPack_c r hw (fun ok v' g' o d => k v' _ g' o (pack_len ok) d) fun _ v' g' o d => k v' [] g' o (by simp) d

theorem drawUnpack_c {h : H} {b : Value} {l : List UInt8} (r : rIn h eB 1 b l) (hl : l.length ≤ 1048576) {R : Ending → H → Prop}
    (k : ∀ v (m : List UInt8) M, Tk.Sub h M → rBytes M v m → m.length ≤ 20000 → R (.returned v) M) :
    HCalls Try.prog 21 #[b] h R := by
  refine HCalls_ir (args := [b]) Try.func21 ir21 ?_
  simp only [walk, lists, acts, mem, plain, seqs, maps, cells, resL, resV, intBin, ↓reduceIte, Nat.reduceAdd, Nat.reduceSub, Nat.reduceMul, Nat.reduceLeDiff, Nat.reduceEqDiff, Int.reduceToNat, Int.reduceEq, Int.reduceLT, Int.reduceLE, Int.reduceNeg, Int.reduceAdd, Int.reduceSub, Int.reduceMul, Nat.reducePow, Int.reduceNegSucc]
  refine open_c r hl fun jr bv m hjr rm hm => ?_
  simp only [walk, lists, acts, mem, plain, seqs, maps, cells, resL, resV, intBin, ↓reduceIte, Nat.reduceAdd, Nat.reduceSub, Nat.reduceMul, Nat.reduceLeDiff, Nat.reduceEqDiff, Int.reduceToNat, Int.reduceEq, Int.reduceLT, Int.reduceLE, Int.reduceNeg, Int.reduceAdd, Int.reduceSub, Int.reduceMul, Nat.reducePow, Int.reduceNegSucc]
  refine drawWord_c hjr rm hm (by omega) fun w s pp v gs gp gv q ow hw ht ds dp dv _ hq => ?_
  have sp2 := ow.sp.symm
  have sv2 := ow.sv.symm
  have pv2 := ow.pv.symm
  have ds2 := ds.symm
  have dp2 := dp.symm
  have dv2 := dv.symm
  simp only [subs] at ds dp dv ds2 dp2 dv2
  simp only [walk, lists, acts, mem, plain, seqs, maps, cells, resL, resV, intBin, ↓reduceIte, Nat.reduceAdd, Nat.reduceSub, Nat.reduceMul, Nat.reduceLeDiff, Nat.reduceEqDiff, Int.reduceToNat, Int.reduceEq, Int.reduceLT, Int.reduceLE, Int.reduceNeg, Int.reduceAdd, Int.reduceSub, Int.reduceMul, Nat.reducePow, Int.reduceNegSucc]
  refine specPack_any (sWord.sub (by (repeat' first | exact Sub.refl _ | exact Sub.nil _ | assumption | refine Sub.both ?_ ?_ | refine Sub.cons_of (by simp only [subs, ds, dp, dv, ds2, dp2, dv2, ow.sp, ow.sv, ow.pv, sp2, sv2, pv2]) ?_ | exact Sub.left _ _ | refine Sub.app (by simp only [subs, ds, dp, dv, ds2, dp2, dv2, ow.sp, ow.sv, ow.pv, sp2, sv2, pv2]) ?_ | refine Sub.cons (by simp only [subs, ds, dp, dv, ds2, dp2, dv2, ow.sp, ow.sv, ow.pv, sp2, sv2, pv2]) ?_)) ow.rd) hw fun v0 l0 g1 o hlen d => ?_
  have d1 := d
  have d2 := d.symm
  simp only [subs] at d1 d2
  have one := o.rd.one
  have sM : Tk.Sub (g1 ++ h) (g1 ++ (gs ++ (gp ++ (gv ++ ((jr, blk (rdr bv q) 120) :: h))))) := by (repeat' first | exact Sub.refl _ | exact Sub.nil _ | assumption | refine Sub.both ?_ ?_ | refine Sub.cons_of (by simp only [subs, ds, dp, dv, ds2, dp2, dv2, ow.sp, ow.sv, ow.pv, sp2, sv2, pv2, d1, d2, hjr]) ?_ | exact Sub.left _ _ | refine Sub.app (by simp only [subs, ds, dp, dv, ds2, dp2, dv2, ow.sp, ow.sv, ow.pv, sp2, sv2, pv2, d1, d2, hjr]) ?_ | refine Sub.cons (by simp only [subs, ds, dp, dv, ds2, dp2, dv2, ow.sp, ow.sv, ow.pv, sp2, sv2, pv2, d1, d2, hjr]) ?_)
  have hg : hget (g1 ++ h) jr = none := by simp only [subs, d1, hjr]
  have rg : rIn (g1 ++ h) eB 1 bv m := rm.sub (Sub.right d1.2.2.2.2)
  have o0 : rBytes (g1 ++ h) v0 l0 := o.rd.sub (Sub.left _ _)
  have sh : ∀ q, Tk.Sub h ((jr, blk (rdr bv q) 120) :: (g1 ++ h)) := fun q => Sub.cons hg (Sub.right d1.2.2.2.2) |>.trans (Sub.refl _)
  have sg : ∀ q, Tk.Sub (g1 ++ h) ((jr, blk (rdr bv q) 120) :: (g1 ++ h)) := fun q => Sub.cons hg (Sub.refl _)
  simp only [walk, lists, acts, mem, plain, seqs, maps, cells, resL, resV, intBin, ↓reduceIte, Nat.reduceAdd, Nat.reduceSub, Nat.reduceMul, Nat.reduceLeDiff, Nat.reduceEqDiff, Int.reduceToNat, Int.reduceEq, Int.reduceLT, Int.reduceLE, Int.reduceNeg, Int.reduceAdd, Int.reduceSub, Int.reduceMul, Nat.reducePow, Int.reduceNegSucc, o.rd.len]
  refine ite_pos (fun _ => .of (k v0 l0 _ ((Sub.right d1.2.2.2.2).trans sM) (o0.sub sM) (by omega))) fun c0 => ?_
  refine (pick_c (p := q) hg rg hm (by omega) (by omega) fun a _ _ _ => ?_).weaken (by (repeat' first | exact Sub.refl _ | exact Sub.nil _ | assumption | refine Sub.both ?_ ?_ | refine Sub.cons_of (by simp only [subs, ds, dp, dv, ds2, dp2, dv2, ow.sp, ow.sv, ow.pv, sp2, sv2, pv2, d1, d2, hjr]) ?_ | exact Sub.left _ _ | refine Sub.app (by simp only [subs, ds, dp, dv, ds2, dp2, dv2, ow.sp, ow.sv, ow.pv, sp2, sv2, pv2, d1, d2, hjr]) ?_ | refine Sub.cons (by simp only [subs, ds, dp, dv, ds2, dp2, dv2, ow.sp, ow.sv, ow.pv, sp2, sv2, pv2, d1, d2, hjr]) ?_))
  simp only [walk, lists, acts, mem, plain, seqs, maps, cells, resL, resV, intBin, ↓reduceIte, Nat.reduceAdd, Nat.reduceSub, Nat.reduceMul, Nat.reduceLeDiff, Nat.reduceEqDiff, Int.reduceToNat, Int.reduceEq, Int.reduceLT, Int.reduceLE, Int.reduceNeg, Int.reduceAdd, Int.reduceSub, Int.reduceMul, Nat.reducePow, Int.reduceNegSucc, o.rd.len]
  refine ite_pos (fun _ => .of (k v0 l0 _ (sh _) (o0.sub (sg _)) (by omega))) fun c1 => ?_
  refine pick_c (p := q + 1) hg rg hm (by omega) (by omega) fun i hi0 hi1 _ => ?_
  have hi := hi1 (by omega)
  simp only [walk, lists, acts, mem, plain, seqs, maps, cells, resL, resV, intBin, ↓reduceIte, Nat.reduceAdd, Nat.reduceSub, Nat.reduceMul, Nat.reduceLeDiff, Nat.reduceEqDiff, Int.reduceToNat, Int.reduceEq, Int.reduceLT, Int.reduceLE, Int.reduceNeg, Int.reduceAdd, Int.reduceSub, Int.reduceMul, Nat.reducePow, Int.reduceNegSucc]
  refine pick_c (p := q + 2) hg rg hm (by omega) (by omega) fun x _ _ _ => ?_
  simp only [walk, lists, acts, mem, plain, seqs, maps, cells, resL, resV, intBin, ↓reduceIte, Nat.reduceAdd, Nat.reduceSub, Nat.reduceMul, Nat.reduceLeDiff, Nat.reduceEqDiff, Int.reduceToNat, Int.reduceEq, Int.reduceLT, Int.reduceLE, Int.reduceNeg, Int.reduceAdd, Int.reduceSub, Int.reduceMul, Nat.reducePow, Int.reduceNegSucc]
  refine ite_pos (fun c2 => ?_) fun c2 => ?_
  · refine slc_pre eB_len (o0.sub (sg (q + 3))) hi0 (by omega) fun v' r' => ?_
    simp only [walk, lists, acts, mem, plain, seqs, maps, cells, resL, resV, intBin, ↓reduceIte, Nat.reduceAdd, Nat.reduceSub, Nat.reduceMul, Nat.reduceLeDiff, Nat.reduceEqDiff, Int.reduceToNat, Int.reduceEq, Int.reduceLT, Int.reduceLE, Int.reduceNeg, Int.reduceAdd, Int.reduceSub, Int.reduceMul, Nat.reducePow, Int.reduceNegSucc]
    exact .of (k v' _ _ (sh _) r' (by rw [List.length_take]; omega))
  · refine ite_pos (fun c3 => ?_) fun c3 => ?_
    · refine HCalls.drop (pick_c (p := q + 3) hg rg hm (by omega) (by omega) fun y _ _ _ => ⟨g1 ++ h, sg _, ?_⟩)
      simp only [walk, lists, acts, mem, plain, seqs, maps, cells, resL, resV, intBin, ↓reduceIte, Nat.reduceAdd, Nat.reduceSub, Nat.reduceMul, Nat.reduceLeDiff, Nat.reduceEqDiff, Int.reduceToNat, Int.reduceEq, Int.reduceLT, Int.reduceLE, Int.reduceNeg, Int.reduceAdd, Int.reduceSub, Int.reduceMul, Nat.reducePow, Int.reduceNegSucc]
      refine own_idx (i := i.toNat) eB_len o (by omega) (by omega) fun b0 cap sp hv' hc hs hgg => ?_
      subst hgg
      simp only [walk, lists, acts, mem, plain, seqs, maps, cells, resL, resV, intBin, ↓reduceIte, Nat.reduceAdd, Nat.reduceSub, Nat.reduceMul, Nat.reduceLeDiff, Nat.reduceEqDiff, Int.reduceToNat, Int.reduceEq, Int.reduceLT, Int.reduceLE, Int.reduceNeg, Int.reduceAdd, Int.reduceSub, Int.reduceMul, Nat.reducePow, Int.reduceNegSucc]
      refine st_own (i := i.toNat) (a' := UInt8.ofNat (IntKind.u8.wrap y).toNat) (off := 0) eB_len (by omega) (by omega) rfl (by omega) (eB_wrap _ _) ?_
      simp only [walk, lists, acts, mem, plain, seqs, maps, cells, resL, resV, intBin, ↓reduceIte, Nat.reduceAdd, Nat.reduceSub, Nat.reduceMul, Nat.reduceLeDiff, Nat.reduceEqDiff, Int.reduceToNat, Int.reduceEq, Int.reduceLT, Int.reduceLE, Int.reduceNeg, Int.reduceAdd, Int.reduceSub, Int.reduceMul, Nat.reducePow, Int.reduceNegSucc]
      exact .of (k v0 _ _ (Sub.right (Dj.one d1.2.2.2.2.one')) ((own_set eB_len hv' hc hs).rd.sub (Sub.left _ _)) (by rw [List.length_set]; omega))
    · refine ite_pos (fun c4 => ?_) fun c4 => ?_
      · refine newB_intro (o := blk (fl eB [0]) 5) fun j6 hj6 => ?_
        have n6 := hj6
        simp only [subs] at n6
        simp only [walk, lists, acts, mem, plain, seqs, maps, cells, resL, resV, intBin, ↓reduceIte, Nat.reduceAdd, Nat.reduceSub, Nat.reduceMul, Nat.reduceLeDiff, Nat.reduceEqDiff, Int.reduceToNat, Int.reduceEq, Int.reduceLT, Int.reduceLE, Int.reduceNeg, Int.reduceAdd, Int.reduceSub, Int.reduceMul, Nat.reducePow, Int.reduceNegSucc]
        refine app_leaf (g := g1) (h := (jr, blk (rdr bv (q + 3)) 120) :: h) (M := (j6, blk (fl eB [0]) 5) :: (jr, blk (rdr bv (q + 3)) 120) :: (g1 ++ h)) eB_len eB_one tBytes iByte (by (repeat' first | exact Sub.refl _ | exact Sub.nil _ | assumption | refine Sub.both ?_ ?_ | refine Sub.cons_of (by simp only [subs, d1, d2, hjr, n6]) ?_ | exact Sub.left _ _ | refine Sub.app (by simp only [subs, d1, d2, hjr, n6]) ?_ | refine Sub.cons (by simp only [subs, d1, d2, hjr, n6]) ?_)) (by simp only [subs, d1]) o (rL_lit eB_len [0]) (by simp; omega) (by simp; omega) fun v2 g2 o2 d3 => ?_
        simp only [walk, lists, acts, mem, plain, seqs, maps, cells, resL, resV, intBin, ↓reduceIte, Nat.reduceAdd, Nat.reduceSub, Nat.reduceMul, Nat.reduceLeDiff, Nat.reduceEqDiff, Int.reduceToNat, Int.reduceEq, Int.reduceLT, Int.reduceLE, Int.reduceNeg, Int.reduceAdd, Int.reduceSub, Int.reduceMul, Nat.reducePow, Int.reduceNegSucc]
        exact .of (k v2 _ _ ((Sub.cons hjr (Sub.refl _)).trans (Sub.right d3)) (o2.rd.sub (Sub.left _ _)) (by simp; omega))
      · refine vc_draw (g1 ++ h) (sg _) ?_
        simp only [walk, lists, acts, mem, plain, seqs, maps, cells, resL, resV, intBin, ↓reduceIte, Nat.reduceAdd, Nat.reduceSub, Nat.reduceMul, Nat.reduceLeDiff, Nat.reduceEqDiff, Int.reduceToNat, Int.reduceEq, Int.reduceLT, Int.reduceLE, Int.reduceNeg, Int.reduceAdd, Int.reduceSub, Int.reduceMul, Nat.reducePow, Int.reduceNegSucc]
        refine slc_pre eB_len o0 hi0 (by omega) fun va ra => ?_
        simp only [walk, lists, acts, mem, plain, seqs, maps, cells, resL, resV, intBin, ↓reduceIte, Nat.reduceAdd, Nat.reduceSub, Nat.reduceMul, Nat.reduceLeDiff, Nat.reduceEqDiff, Int.reduceToNat, Int.reduceEq, Int.reduceLT, Int.reduceLE, Int.reduceNeg, Int.reduceAdd, Int.reduceSub, Int.reduceMul, Nat.reducePow, Int.reduceNegSucc]
        refine slc_suf eB_len o0 hi0 (by omega) fun vb rb => ?_
        simp only [walk, lists, acts, mem, plain, seqs, maps, cells, resL, resV, intBin, ↓reduceIte, Nat.reduceAdd, Nat.reduceSub, Nat.reduceMul, Nat.reduceLeDiff, Nat.reduceEqDiff, Int.reduceToNat, Int.reduceEq, Int.reduceLT, Int.reduceLE, Int.reduceNeg, Int.reduceAdd, Int.reduceSub, Int.reduceMul, Nat.reducePow, Int.reduceNegSucc]
        refine newB_intro (o := blk (fl eB []) 5) fun j6 hj6 => ?_
        have n6 := hj6
        simp only [subs] at n6
        simp only [walk, lists, acts, mem, plain, seqs, maps, cells, resL, resV, intBin, ↓reduceIte, Nat.reduceAdd, Nat.reduceSub, Nat.reduceMul, Nat.reduceLeDiff, Nat.reduceEqDiff, Int.reduceToNat, Int.reduceEq, Int.reduceLT, Int.reduceLE, Int.reduceNeg, Int.reduceAdd, Int.reduceSub, Int.reduceMul, Nat.reducePow, Int.reduceNegSucc]
        have sj6 := (sg (q + 3)).trans (Sub.cons (o := blk (fl eB []) 5) hj6 (Sub.refl _))
        refine ⟨sj6, ?_⟩
        refine app_leaf (g := [(j6, blk (fl eB []) 5)]) (h := (jr, blk (rdr bv (q + 3)) 120) :: (g1 ++ h)) eB_len eB_one tBytes iByte (Sub.refl _) (Dj.one hj6) (oLs_new eB_len) (ra.sub sj6) (by rw [List.length_nil, List.length_take]; omega) (by rw [List.length_nil, List.length_take]; omega) fun v2 g2 o2 d3 => ?_
        have d3x := d3
        have d3y := d3.symm
        simp only [subs] at d3x d3y
        have sr2 := eq_true ((sg (q + 3)).trans (Sub.right d3))
        simp only [walk, lists, acts, mem, plain, seqs, maps, cells, resL, resV, intBin, ↓reduceIte, Nat.reduceAdd, Nat.reduceSub, Nat.reduceMul, Nat.reduceLeDiff, Nat.reduceEqDiff, Int.reduceToNat, Int.reduceEq, Int.reduceLT, Int.reduceLE, Int.reduceNeg, Int.reduceAdd, Int.reduceSub, Int.reduceMul, Nat.reducePow, Int.reduceNegSucc, sr2, true_and]
        refine (pick_c (p := q + 3) (h := g2 ++ (g1 ++ h)) (by simp only [subs, d3x, d3y, d1, hjr]) (rg.sub (Sub.right (by simp only [subs, d3x, d3y]))) hm (by omega) (by omega) fun y hy0 hy1 _ => ?_).weaken (by (repeat' first | exact Sub.refl _ | exact Sub.nil _ | assumption | refine Sub.both ?_ ?_ | refine Sub.cons_of (by simp only [subs, d1, d2, hjr, d3x, d3y]) ?_ | exact Sub.left _ _ | refine Sub.app (by simp only [subs, d1, d2, hjr, d3x, d3y]) ?_ | refine Sub.cons (by simp only [subs, d1, d2, hjr, d3x, d3y]) ?_))
        have sr3 := eq_true ((show Tk.Sub (g1 ++ h) ((jr, blk (rdr bv (q + 3 + 1)) 120) :: (g2 ++ (g1 ++ h))) from by (repeat' first | exact Sub.refl _ | exact Sub.nil _ | assumption | refine Sub.both ?_ ?_ | refine Sub.cons_of (by simp only [subs, d1, d2, hjr, d3x, d3y]) ?_ | exact Sub.left _ _ | refine Sub.app (by simp only [subs, d1, d2, hjr, d3x, d3y]) ?_ | refine Sub.cons (by simp only [subs, d1, d2, hjr, d3x, d3y]) ?_)))
        have hy := hy1 (by omega)
        obtain ⟨n, hn, hne⟩ : ∃ n : Nat, (128 : Int) + y = (n : Int) ∧ n ≤ 256 := ⟨(128 + y).toNat, by omega, by omega⟩
        simp (disch := omega) only [walk, lists, acts, mem, plain, seqs, maps, cells, resL, resV, intBin, ↓reduceIte, Nat.reduceAdd, Nat.reduceSub, Nat.reduceMul, Nat.reduceLeDiff, Nat.reduceEqDiff, Int.reduceToNat, Int.reduceEq, Int.reduceLT, Int.reduceLE, Int.reduceNeg, Int.reduceAdd, Int.reduceSub, Int.reduceMul, Nat.reducePow, Int.reduceNegSucc, sr3, true_and, hn, wrapI, u8_of]
        refine newB_intro (o := blk (fl eB [UInt8.ofNat n]) 5) fun j8 hj8 => ?_
        have n8 := hj8
        simp only [subs] at n8
        have sj8 := (show Tk.Sub (g1 ++ h) ((j8, blk (fl eB [UInt8.ofNat n]) 5) :: (jr, blk (rdr bv (q + 3 + 1)) 120) :: (g2 ++ (g1 ++ h))) from by (repeat' first | exact Sub.refl _ | exact Sub.nil _ | assumption | refine Sub.both ?_ ?_ | refine Sub.cons_of (by simp only [subs, d1, d2, hjr, d3x, d3y, n8]) ?_ | exact Sub.left _ _ | refine Sub.app (by simp only [subs, d1, d2, hjr, d3x, d3y, n8]) ?_ | refine Sub.cons (by simp only [subs, d1, d2, hjr, d3x, d3y, n8]) ?_))
        simp only [walk, lists, acts, mem, plain, seqs, maps, cells, resL, resV, intBin, ↓reduceIte, Nat.reduceAdd, Nat.reduceSub, Nat.reduceMul, Nat.reduceLeDiff, Nat.reduceEqDiff, Int.reduceToNat, Int.reduceEq, Int.reduceLT, Int.reduceLE, Int.reduceNeg, Int.reduceAdd, Int.reduceSub, Int.reduceMul, Nat.reducePow, Int.reduceNegSucc, eq_true sj8, true_and]
        have d4 : Dj g2 ((jr, blk (rdr bv (q + 3 + 1)) 120) :: (g1 ++ h)) := by simp only [subs, d3x, d3y]
        refine app_leaf (g := g2) (h := (jr, blk (rdr bv (q + 3 + 1)) 120) :: (g1 ++ h)) eB_len eB_one tBytes iByte (by (repeat' first | exact Sub.refl _ | exact Sub.nil _ | assumption | refine Sub.both ?_ ?_ | refine Sub.cons_of (by simp only [subs, d1, d2, hjr, d3x, d3y, n8]) ?_ | exact Sub.left _ _ | refine Sub.app (by simp only [subs, d1, d2, hjr, d3x, d3y, n8]) ?_ | refine Sub.cons (by simp only [subs, d1, d2, hjr, d3x, d3y, n8]) ?_)) d4 o2 (rL_lit eB_len [UInt8.ofNat n]) (by simp; omega) (by simp; omega) fun v3 g3 o3 d5 => ?_
        have sj9 := (sg (q + 3 + 1)).trans (Sub.right d5)
        simp only [walk, lists, acts, mem, plain, seqs, maps, cells, resL, resV, intBin, ↓reduceIte, Nat.reduceAdd, Nat.reduceSub, Nat.reduceMul, Nat.reduceLeDiff, Nat.reduceEqDiff, Int.reduceToNat, Int.reduceEq, Int.reduceLT, Int.reduceLE, Int.reduceNeg, Int.reduceAdd, Int.reduceSub, Int.reduceMul, Nat.reducePow, Int.reduceNegSucc, eq_true sj9, true_and]
        refine app_leaf (g := g3) (h := (jr, blk (rdr bv (q + 3 + 1)) 120) :: (g1 ++ h)) eB_len eB_one tBytes iByte (Sub.refl _) d5 o3 (rb.sub sj9) (by simp; omega) (by simp; omega) fun v4 g4 o4 d6 => ?_
        simp only [walk, lists, acts, mem, plain, seqs, maps, cells, resL, resV, intBin, ↓reduceIte, Nat.reduceAdd, Nat.reduceSub, Nat.reduceMul, Nat.reduceLeDiff, Nat.reduceEqDiff, Int.reduceToNat, Int.reduceEq, Int.reduceLT, Int.reduceLE, Int.reduceNeg, Int.reduceAdd, Int.reduceSub, Int.reduceMul, Nat.reducePow, Int.reduceNegSucc]
        exact ⟨(sg _).trans (Sub.right d6), .of (k v4 _ _ ((sh _).trans (Sub.right d6)) (o4.rd.sub (Sub.left _ _)) (by simp; omega))⟩

theorem wordStrict_c {h : H} {b : Value} {l : List UInt8} (r : rIn h eB 1 b l) {R : Ending → H → Prop} (k : R (.returned (.bool true)) h) : HCalls Try.prog 5 #[b] h R := by
  refine HCalls_ir (args := [b]) Try.func5 ir5 ?_
  have zw := zWord_eq
  simp only [str] at zw
  simp only [walk, lists, acts, mem, plain, seqs, maps, cells, resL, resV, intBin, ↓reduceIte, Nat.reduceAdd, Nat.reduceSub, Nat.reduceMul, Nat.reduceLeDiff, Nat.reduceEqDiff, Int.reduceToNat, Int.reduceEq, Int.reduceLT, Int.reduceLE, Int.reduceNeg, Int.reduceAdd, Int.reduceSub, Int.reduceMul, Nat.reducePow, Int.reduceNegSucc, str, zw, r.len]
  refine ite_lt (fun _ => .of k) fun c0 => ?_
  refine drawUnpack_c r (by omega) fun v m M sM rm hm => ?_
  simp only [walk, lists, acts, mem, plain, seqs, maps, cells, resL, resV, intBin, ↓reduceIte, Nat.reduceAdd, Nat.reduceSub, Nat.reduceMul, Nat.reduceLeDiff, Nat.reduceEqDiff, Int.reduceToNat, Int.reduceEq, Int.reduceLT, Int.reduceLE, Int.reduceNeg, Int.reduceAdd, Int.reduceSub, Int.reduceMul, Nat.reducePow, Int.reduceNegSucc, zw]
  refine specUnpack_u rm (by omega) fun w ok s p v' gs gp gv ou ow hw ds dp dv => ?_
  have os := ow.s.rd.one
  have op := ow.p.rd.one
  have ov := ow.v.rd.one
  have sp2 := ow.sp.symm
  have sv2 := ow.sv.symm
  have pv2 := ow.pv.symm
  have ds2 := ds.symm
  have dp2 := dp.symm
  have dv2 := dv.symm
  simp only [walk, lists, acts, mem, plain, seqs, maps, cells, resL, resV, intBin, ↓reduceIte, Nat.reduceAdd, Nat.reduceSub, Nat.reduceMul, Nat.reduceLeDiff, Nat.reduceEqDiff, Int.reduceToNat, Int.reduceEq, Int.reduceLT, Int.reduceLE, Int.reduceNeg, Int.reduceAdd, Int.reduceSub, Int.reduceMul, Nat.reducePow, Int.reduceNegSucc, zw]
  refine newB_intro fun j3 hj3 => ?_
  simp only [subs] at hj3
  simp only [walk, lists, acts, mem, plain, seqs, maps, cells, resL, resV, intBin, ↓reduceIte, Nat.reduceAdd, Nat.reduceSub, Nat.reduceMul, Nat.reduceLeDiff, Nat.reduceEqDiff, Int.reduceToNat, Int.reduceEq, Int.reduceLT, Int.reduceLE, Int.reduceNeg, Int.reduceAdd, Int.reduceSub, Int.reduceMul, Nat.reducePow, Int.reduceNegSucc, zw, wWord, os, op, ov]
  obtain ⟨C, hC⟩ : ∃ C, C = (j3, blk (cWord w s p v') 28) :: (gs ++ (gp ++ (gv ++ M))) := ⟨_, rfl⟩
  have cS : Tk.Sub M C := by rw [hC]; (repeat' first | exact Sub.refl _ | exact Sub.nil _ | assumption | refine Sub.both ?_ ?_ | refine Sub.cons_of (by simp only [subs, hj3, ds, dp, dv, ds2, dp2, dv2, ow.sp, ow.sv, ow.pv, sp2, sv2, pv2]) ?_ | exact Sub.left _ _ | refine Sub.app (by simp only [subs, hj3, ds, dp, dv, ds2, dp2, dv2, ow.sp, ow.sv, ow.pv, sp2, sv2, pv2]) ?_ | refine Sub.cons (by simp only [subs, hj3, ds, dp, dv, ds2, dp2, dv2, ow.sp, ow.sv, ow.pv, sp2, sv2, pv2]) ?_)
  have cW : sWord C w s p v' := sWord.sub (by rw [hC]; (repeat' first | exact Sub.refl _ | exact Sub.nil _ | assumption | refine Sub.both ?_ ?_ | refine Sub.cons_of (by simp only [subs, hj3, ds, dp, dv, ds2, dp2, dv2, ow.sp, ow.sv, ow.pv, sp2, sv2, pv2]) ?_ | exact Sub.left _ _ | refine Sub.app (by simp only [subs, hj3, ds, dp, dv, ds2, dp2, dv2, ow.sp, ow.sv, ow.pv, sp2, sv2, pv2]) ?_ | refine Sub.cons (by simp only [subs, hj3, ds, dp, dv, ds2, dp2, dv2, ow.sp, ow.sv, ow.pv, sp2, sv2, pv2]) ?_)) ow.rd
  have cG : hget C j3 ≠ none := by rw [hC, hget_same]; simp
  have cR : hread C j3 0 17 = some (cWord w s p v') := by rw [hC]; simp only [walk, lists, acts, mem, plain, seqs, maps, cells, resL, resV, intBin, ↓reduceIte, Nat.reduceAdd, Nat.reduceSub, Nat.reduceMul, Nat.reduceLeDiff, Nat.reduceEqDiff, Int.reduceToNat, Int.reduceEq, Int.reduceLT, Int.reduceLE, Int.reduceNeg, Int.reduceAdd, Int.reduceSub, Int.reduceMul, Nat.reducePow, Int.reduceNegSucc, wWord]
  have cB := rm.sub cS
  rw [← hC]
  clear hC
  refine implUnpack_u cB (by omega) fun w' ok' s' p' v2 gs' gp' gv' ou' ow' hw' es ep ev => ?_
  obtain ⟨rfl, rfl⟩ := ou.same ou'
  have os' := ow'.s.rd.one
  have op' := ow'.p.rd.one
  have ov' := ow'.v.rd.one
  have tp2 := ow'.sp.symm
  have tv2 := ow'.sv.symm
  have qv2 := ow'.pv.symm
  have es2 := es.symm
  have ep2 := ep.symm
  have ev2 := ev.symm
  simp only [walk, lists, acts, mem, plain, seqs, maps, cells, resL, resV, intBin, ↓reduceIte, Nat.reduceAdd, Nat.reduceSub, Nat.reduceMul, Nat.reduceLeDiff, Nat.reduceEqDiff, Int.reduceToNat, Int.reduceEq, Int.reduceLT, Int.reduceLE, Int.reduceNeg, Int.reduceAdd, Int.reduceSub, Int.reduceMul, Nat.reducePow, Int.reduceNegSucc, zw]
  refine newB_intro fun j7 hj7 => ?_
  simp only [subs] at hj7
  have j37 : j3 ≠ j7 := fun e => cG (e ▸ hj7.2.2.2)
  have r1 := es.of cG
  have r2 := ep.of cG
  have r3 := ev.of cG
  have C1 : Tk.Sub (gs' ++ (gp' ++ gv')) ((j7, blk (cWord w s' p' v2) 28) :: (gs' ++ (gp' ++ (gv' ++ C)))) := by (repeat' first | exact Sub.refl _ | exact Sub.nil _ | assumption | refine Sub.both ?_ ?_ | refine Sub.cons_of (by simp only [subs, hj7, es, ep, ev, es2, ep2, ev2, ow'.sp, ow'.sv, ow'.pv, tp2, tv2, qv2]) ?_ | exact Sub.left _ _ | refine Sub.app (by simp only [subs, hj7, es, ep, ev, es2, ep2, ev2, ow'.sp, ow'.sv, ow'.pv, tp2, tv2, qv2]) ?_ | refine Sub.cons (by simp only [subs, hj7, es, ep, ev, es2, ep2, ev2, ow'.sp, ow'.sv, ow'.pv, tp2, tv2, qv2]) ?_)
  have C2 : Tk.Sub C ((j7, blk (cWord w s' p' v2) 28) :: (gs' ++ (gp' ++ (gv' ++ C)))) := by (repeat' first | exact Sub.refl _ | exact Sub.nil _ | assumption | refine Sub.both ?_ ?_ | refine Sub.cons_of (by simp only [subs, hj7, es, ep, ev, es2, ep2, ev2, ow'.sp, ow'.sv, ow'.pv, tp2, tv2, qv2]) ?_ | exact Sub.left _ _ | refine Sub.app (by simp only [subs, hj7, es, ep, ev, es2, ep2, ev2, ow'.sp, ow'.sv, ow'.pv, tp2, tv2, qv2]) ?_ | refine Sub.cons (by simp only [subs, hj7, es, ep, ev, es2, ep2, ev2, ow'.sp, ow'.sv, ow'.pv, tp2, tv2, qv2]) ?_)
  have W1 := sWord.sub C1 ow'.rd
  have W2 := sWord.sub C2 cW
  have B2 := cB.sub C2
  have sub := (sM.trans cS).trans C2
  simp only [walk, lists, acts, mem, plain, seqs, maps, cells, resL, resV, intBin, ↓reduceIte, Nat.reduceAdd, Nat.reduceSub, Nat.reduceMul, Nat.reduceLeDiff, Nat.reduceEqDiff, Int.reduceToNat, Int.reduceEq, Int.reduceLT, Int.reduceLE, Int.reduceNeg, Int.reduceAdd, Int.reduceSub, Int.reduceMul, Nat.reducePow, Int.reduceNegSucc, zw, wWord, os', op', ov', apps, j37, r1, r2, r3, cR, beq_self_eq_true]
  refine loWord_c W1 W2 hw ?_
  simp only [walk, lists, acts, mem, plain, seqs, maps, cells, resL, resV, intBin, ↓reduceIte, Nat.reduceAdd, Nat.reduceSub, Nat.reduceMul, Nat.reduceLeDiff, Nat.reduceEqDiff, Int.reduceToNat, Int.reduceEq, Int.reduceLT, Int.reduceLE, Int.reduceNeg, Int.reduceAdd, Int.reduceSub, Int.reduceMul, Nat.reducePow, Int.reduceNegSucc, zw, wWord]
  refine vc_draw _ (Sub.refl _) ?_
  rcases ou with ⟨rfl, wp, e, _⟩ | ⟨rfl, rfl, _⟩
  · simp only [walk, lists, acts, mem, plain, seqs, maps, cells, resL, resV, intBin, ↓reduceIte, Nat.reduceAdd, Nat.reduceSub, Nat.reduceMul, Nat.reduceLeDiff, Nat.reduceEqDiff, Int.reduceToNat, Int.reduceEq, Int.reduceLT, Int.reduceLE, Int.reduceNeg, Int.reduceAdd, Int.reduceSub, Int.reduceMul, Nat.reducePow, Int.reduceNegSucc, zw, wWord]
    refine implWordOk_c W1 hw fun b2 hb2 => ?_
    have e2 := hb2.2 wp
    subst e2
    have bt2 := fun f => btos_rd B2 (f := f)
    simp only [walk, lists, acts, mem, plain, seqs, maps, cells, resL, resV, intBin, ↓reduceIte, Nat.reduceAdd, Nat.reduceSub, Nat.reduceMul, Nat.reduceLeDiff, Nat.reduceEqDiff, Int.reduceToNat, Int.reduceEq, Int.reduceLT, Int.reduceLE, Int.reduceNeg, Int.reduceAdd, Int.reduceSub, Int.reduceMul, Nat.reducePow, Int.reduceNegSucc, zw, wWord, bt2]
    refine implPack_c W1 hw (fun _ v3 g3 o3 d3 => ?_) fun no => absurd wp no
    have bt3 := fun f => btos_rd (o3.rd.sub (Sub.left g3 ((j7, blk (cWord w s' p' v2) 28) :: (gs' ++ (gp' ++ (gv' ++ C)))))) (f := f)
    subst e
    simp only [walk, lists, acts, mem, plain, seqs, maps, cells, resL, resV, intBin, ↓reduceIte, Nat.reduceAdd, Nat.reduceSub, Nat.reduceMul, Nat.reduceLeDiff, Nat.reduceEqDiff, Int.reduceToNat, Int.reduceEq, Int.reduceLT, Int.reduceLE, Int.reduceNeg, Int.reduceAdd, Int.reduceSub, Int.reduceMul, Nat.reducePow, Int.reduceNegSucc, zw, wWord, bt3, strBin, str_inj, beq_self_eq_true]
    have sr := eq_true (Sub.right d3)
    simp only [sr, true_and]
    exact ⟨h, sub.trans (Sub.right d3), k⟩
  · simp only [walk, lists, acts, mem, plain, seqs, maps, cells, resL, resV, intBin, ↓reduceIte, Nat.reduceAdd, Nat.reduceSub, Nat.reduceMul, Nat.reduceLeDiff, Nat.reduceEqDiff, Int.reduceToNat, Int.reduceEq, Int.reduceLT, Int.reduceLE, Int.reduceNeg, Int.reduceAdd, Int.reduceSub, Int.reduceMul, Nat.reducePow, Int.reduceNegSucc, zw, wWord]
    exact ⟨h, sub, k⟩
end Go.Proofs.Ytllhdnfcneejaaa
