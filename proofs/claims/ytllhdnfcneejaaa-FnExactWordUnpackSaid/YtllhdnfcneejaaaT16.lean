/- How the reference reads a word of bytes. -/
import Derived.Test.YtllhdnfcneejaaaT15
set_option linter.unusedVariables false
set_option linter.unusedSimpArgs false
set_option maxRecDepth 20000
attribute [local irreducible] Go.Tk.vc Go.Tk.vops Go.Tk.vdr Go.Tk.vop Go.Tk.vfl Go.Tk.HCalls
namespace Go.Proofs.Ytllhdnfcneejaaa
open Go Go.Tk

theorem encI_ne (n : Int) : encI n ≠ [] := encN_ne _
theorem pack_ne (w : DWord) : pack w ≠ [] := by
  rw [pack_head]
  intro h
  have := (List.append_eq_nil_iff.1 h).1
  rw [headW, encIs_cons] at this
  exact encI_ne _ (List.append_eq_nil_iff.1 this).1

theorem specUnpack_c {h : H} {b : Value} {l : List UInt8} (rb : rBytes h b l) (hl : l.length ≤ 1099511627776) {R : Ending → H → Prop}
    (kok : ∀ w s p v gs gp gv, wordP w → l = pack w → (∀ w0, wordP w0 → l = pack w0 → w = w0) → oWord 3 69 3 w s p v gs gp gv → wLen w → Dj gs h → Dj gp h → Dj gv h → R (.returned (.tuple #[.agg (cWord w s p v).toArray, .bool true])) (gs ++ (gp ++ (gv ++ h))))
    (kno : (∀ w, wordP w → l ≠ pack w) → R (.returned (.tuple #[.agg (cWord zWord (.slice none 0 0) (.slice none 0 0) (.slice none 0 0)).toArray, .bool false])) h) :
    HCalls Try.prog 7 #[b] h R := by
  refine HCalls_ir (args := [b]) Try.func7 ir7 ?_
  have zw := zWord_eq
  simp only [str] at zw
  have oneb := rLs.one rb
  have vcb := vcells_one oneb
  simp only [walk, lists, acts, mem, plain, seqs, maps, cells, resL, resV, intBin, ↓reduceIte, Nat.reduceAdd, Nat.reduceSub, Nat.reduceMul, Nat.reduceLeDiff, Nat.reduceEqDiff, Int.reduceToNat, Int.reduceEq, Int.reduceLT, Int.reduceLE, Int.reduceNeg, Int.reduceAdd, Int.reduceSub, Int.reduceMul, Nat.reducePow, Int.reduceNegSucc, str, zw]
  refine newB_intro fun jr hjr => ?_
  simp only [walk, lists, acts, mem, plain, seqs, maps, cells, resL, resV, intBin, ↓reduceIte, Nat.reduceAdd, Nat.reduceSub, Nat.reduceMul, Nat.reduceLeDiff, Nat.reduceEqDiff, Int.reduceToNat, Int.reduceEq, Int.reduceLT, Int.reduceLE, Int.reduceNeg, Int.reduceAdd, Int.reduceSub, Int.reduceMul, Nat.reducePow, Int.reduceNegSucc, vcb]
  refine newB_intro (o := blk (rd b 0 false) 49) fun jb hjb => ?_
  have nb := fresh hjb
  simp only [walk, lists, acts, mem, plain, seqs, maps, cells, resL, resV, intBin, ↓reduceIte, Nat.reduceAdd, Nat.reduceSub, Nat.reduceMul, Nat.reduceLeDiff, Nat.reduceEqDiff, Int.reduceToNat, Int.reduceEq, Int.reduceLT, Int.reduceLE, Int.reduceNeg, Int.reduceAdd, Int.reduceSub, Int.reduceMul, Nat.reducePow, Int.reduceNegSucc, vcb]
  refine word_c hjb (rb.sub (Sub.cons hjr (Sub.refl _))) hl fun w s p v gs gp gv at' bad' ow ds dp dv hw ex => ?_
  have os := ow.s.rd.one
  have op := ow.p.rd.one
  have ov := ow.v.rd.one
  have sp2 := ow.sp.symm
  have sv2 := ow.sv.symm
  have pv2 := ow.pv.symm
  have ds2 := ds.symm
  have dp2 := dp.symm
  have dv2 := dv.symm
  simp only [subs] at ds dp dv ds2 dp2 dv2
  simp only [walk, lists, acts, mem, plain, seqs, maps, cells, resL, resV, intBin, ↓reduceIte, Nat.reduceAdd, Nat.reduceSub, Nat.reduceMul, Nat.reduceLeDiff, Nat.reduceEqDiff, Int.reduceToNat, Int.reduceEq, Int.reduceLT, Int.reduceLE, Int.reduceNeg, Int.reduceAdd, Int.reduceSub, Int.reduceMul, Nat.reducePow, Int.reduceNegSucc, zw]
  refine newB_intro fun jw hjw => ?_
  simp only [subs] at hjw
  have njw : jb ≠ jw ∧ jr ≠ jw := ⟨Ne.symm hjw.2.2.2.1, Ne.symm hjw.2.2.2.2.1⟩
  simp only [walk, lists, acts, mem, plain, seqs, maps, cells, resL, resV, intBin, ↓reduceIte, Nat.reduceAdd, Nat.reduceSub, Nat.reduceMul, Nat.reduceLeDiff, Nat.reduceEqDiff, Int.reduceToNat, Int.reduceEq, Int.reduceLT, Int.reduceLE, Int.reduceNeg, Int.reduceAdd, Int.reduceSub, Int.reduceMul, Nat.reducePow, Int.reduceNegSucc, wWord, os, op, ov]
  have S0 : Tk.Sub h ((jw, blk (cWord w s p v) 28) :: (gs ++ (gp ++ (gv ++ ((jb, blk (rd b at' bad') 49) :: (jr, blk (cWord zWord (.slice none 0 0) (.slice none 0 0) (.slice none 0 0)) 28) :: h))))) := by (repeat' first | exact Sub.refl _ | exact Sub.nil _ | assumption | refine Sub.both ?_ ?_ | refine Sub.cons_of (by simp only [subs, hjw, njw, nb, ds, dp, dv, ds2, dp2, dv2, hjr, ow.sp, ow.sv, ow.pv, sp2, sv2, pv2]) ?_ | exact Sub.left _ _ | refine Sub.app (by simp only [subs, hjw, njw, nb, ds, dp, dv, ds2, dp2, dv2, hjr, ow.sp, ow.sv, ow.pv, sp2, sv2, pv2]) ?_ | refine Sub.cons (by simp only [subs, hjw, njw, nb, ds, dp, dv, ds2, dp2, dv2, hjr, ow.sp, ow.sv, ow.pv, sp2, sv2, pv2]) ?_)
  have SW : Tk.Sub (gs ++ (gp ++ gv)) ((jw, blk (cWord w s p v) 28) :: (gs ++ (gp ++ (gv ++ ((jb, blk (rd b at' bad') 49) :: (jr, blk (cWord zWord (.slice none 0 0) (.slice none 0 0) (.slice none 0 0)) 28) :: h))))) := by (repeat' first | exact Sub.refl _ | exact Sub.nil _ | assumption | refine Sub.both ?_ ?_ | refine Sub.cons_of (by simp only [subs, hjw, njw, nb, ds, dp, dv, ds2, dp2, dv2, hjr, ow.sp, ow.sv, ow.pv, sp2, sv2, pv2]) ?_ | exact Sub.left _ _ | refine Sub.app (by simp only [subs, hjw, njw, nb, ds, dp, dv, ds2, dp2, dv2, hjr, ow.sp, ow.sv, ow.pv, sp2, sv2, pv2]) ?_ | refine Sub.cons (by simp only [subs, hjw, njw, nb, ds, dp, dv, ds2, dp2, dv2, hjr, ow.sp, ow.sv, ow.pv, sp2, sv2, pv2]) ?_)
  have rbM := rb.sub S0
  have rwM := sWord.sub SW ow.rd
  refine vc_draw _ (Sub.refl _) ?_
  simp only [walk, lists, acts, mem, plain, seqs, maps, cells, resL, resV, intBin, ↓reduceIte, Nat.reduceAdd, Nat.reduceSub, Nat.reduceMul, Nat.reduceLeDiff, Nat.reduceEqDiff, Int.reduceToNat, Int.reduceEq, Int.reduceLT, Int.reduceLE, Int.reduceNeg, Int.reduceAdd, Int.reduceSub, Int.reduceMul, Nat.reducePow, Int.reduceNegSucc, w_rd, wWord, apps, hjw, njw, nb.1, nb.2.1, ds, dp, dv, rb.len, Sub_self, btos_rd rbM]
  refine ite_b (fun hb => dP_sub S0 (kno fun w0 ok e => by have := (ex w0 ok e).2; rw [hb] at this; cases this)) fun hb => ?_
  refine ite_pos (fun h0 => dP_sub S0 (kno fun w0 ok e => pack_ne w0 (by rw [← e]; exact List.eq_nil_of_length_eq_zero (by omega)))) fun h0 => ?_
  refine specPack_c (w := w) rwM hw (fun okw v' g' o' d' => ?_) fun okw v' g' o' d' => ?_
  · simp only [walk, lists, acts, mem, plain, seqs, maps, cells, resL, resV, intBin, ↓reduceIte, Nat.reduceAdd, Nat.reduceSub, Nat.reduceMul, Nat.reduceLeDiff, Nat.reduceEqDiff, Int.reduceToNat, Int.reduceEq, Int.reduceLT, Int.reduceLE, Int.reduceNeg, Int.reduceAdd, Int.reduceSub, Int.reduceMul, Nat.reducePow, Int.reduceNegSucc]
    have sR := Sub.right d'
    have dx := d'
    have dy := d'.symm
    simp only [subs] at dx dy
    refine ⟨sR, ?_⟩
    have bt := fun f => btos_rd (o'.rd.sub (Sub.left g' ((jw, blk (cWord w s p v) 28) :: (gs ++ (gp ++ (gv ++ ((jb, blk (rd b at' bad') 49) :: (jr, blk (cWord zWord (.slice none 0 0) (.slice none 0 0) (.slice none 0 0)) 28) :: h))))))) (f := f)
    simp only [walk, lists, acts, mem, plain, seqs, maps, cells, resL, resV, intBin, ↓reduceIte, Nat.reduceAdd, Nat.reduceSub, Nat.reduceMul, Nat.reduceLeDiff, Nat.reduceEqDiff, Int.reduceToNat, Int.reduceEq, Int.reduceLT, Int.reduceLE, Int.reduceNeg, Int.reduceAdd, Int.reduceSub, Int.reduceMul, Nat.reducePow, Int.reduceNegSucc, bt, strBin, str_inj, sR]
    simp only [walk, lists, acts, mem, plain, seqs, maps, cells, resL, resV, intBin, ↓reduceIte, Nat.reduceAdd, Nat.reduceSub, Nat.reduceMul, Nat.reduceLeDiff, Nat.reduceEqDiff, Int.reduceToNat, Int.reduceEq, Int.reduceLT, Int.reduceLE, Int.reduceNeg, Int.reduceAdd, Int.reduceSub, Int.reduceMul, Nat.reducePow, Int.reduceNegSucc, apps, dx, hjw, njw, nb.1, nb.2.1, ds, dp, dv, wWord, os, op, ov]
    refine ite_ne (fun hne => ⟨h, by (repeat' first | exact Sub.refl _ | exact Sub.nil _ | assumption | refine Sub.both ?_ ?_ | refine Sub.cons_of (by simp only [subs, dx, dy, hjw, njw, nb, ds, dp, dv, ds2, dp2, dv2, hjr, ow.sp, ow.sv, ow.pv, sp2, sv2, pv2]) ?_ | exact Sub.left _ _ | refine Sub.app (by simp only [subs, dx, dy, hjw, njw, nb, ds, dp, dv, ds2, dp2, dv2, hjr, ow.sp, ow.sv, ow.pv, sp2, sv2, pv2]) ?_ | refine Sub.cons (by simp only [subs, dx, dy, hjw, njw, nb, ds, dp, dv, ds2, dp2, dv2, hjr, ow.sp, ow.sv, ow.pv, sp2, sv2, pv2]) ?_), kno fun w0 ok e => ?_⟩) fun heq => ⟨gs ++ (gp ++ (gv ++ h)), by (repeat' first | exact Sub.refl _ | exact Sub.nil _ | assumption | refine Sub.both ?_ ?_ | refine Sub.cons_of (by simp only [subs, dx, dy, hjw, njw, nb, ds, dp, dv, ds2, dp2, dv2, hjr, ow.sp, ow.sv, ow.pv, sp2, sv2, pv2]) ?_ | exact Sub.left _ _ | refine Sub.app (by simp only [subs, dx, dy, hjw, njw, nb, ds, dp, dv, ds2, dp2, dv2, hjr, ow.sp, ow.sv, ow.pv, sp2, sv2, pv2]) ?_ | refine Sub.cons (by simp only [subs, dx, dy, hjw, njw, nb, ds, dp, dv, ds2, dp2, dv2, hjr, ow.sp, ow.sv, ow.pv, sp2, sv2, pv2]) ?_), kok w s p v gs gp gv okw heq.symm (fun w0 ok e => (ex w0 ok e).1) ow hw ds.2.2 dp.2.2 dv.2.2⟩
    have := (ex w0 ok e).1
    subst this
    exact hne e.symm
  · simp only [walk, lists, acts, mem, plain, seqs, maps, cells, resL, resV, intBin, ↓reduceIte, Nat.reduceAdd, Nat.reduceSub, Nat.reduceMul, Nat.reduceLeDiff, Nat.reduceEqDiff, Int.reduceToNat, Int.reduceEq, Int.reduceLT, Int.reduceLE, Int.reduceNeg, Int.reduceAdd, Int.reduceSub, Int.reduceMul, Nat.reducePow, Int.reduceNegSucc]
    have sR := Sub.right d'
    have dx := d'
    have dy := d'.symm
    simp only [subs] at dx dy
    refine ⟨sR, ?_⟩
    have bt := fun f => btos_rd (o'.rd.sub (Sub.left g' ((jw, blk (cWord w s p v) 28) :: (gs ++ (gp ++ (gv ++ ((jb, blk (rd b at' bad') 49) :: (jr, blk (cWord zWord (.slice none 0 0) (.slice none 0 0) (.slice none 0 0)) 28) :: h))))))) (f := f)
    simp only [walk, lists, acts, mem, plain, seqs, maps, cells, resL, resV, intBin, ↓reduceIte, Nat.reduceAdd, Nat.reduceSub, Nat.reduceMul, Nat.reduceLeDiff, Nat.reduceEqDiff, Int.reduceToNat, Int.reduceEq, Int.reduceLT, Int.reduceLE, Int.reduceNeg, Int.reduceAdd, Int.reduceSub, Int.reduceMul, Nat.reducePow, Int.reduceNegSucc, bt, strBin, str_inj, sR]
    simp only [walk, lists, acts, mem, plain, seqs, maps, cells, resL, resV, intBin, ↓reduceIte, Nat.reduceAdd, Nat.reduceSub, Nat.reduceMul, Nat.reduceLeDiff, Nat.reduceEqDiff, Int.reduceToNat, Int.reduceEq, Int.reduceLT, Int.reduceLE, Int.reduceNeg, Int.reduceAdd, Int.reduceSub, Int.reduceMul, Nat.reducePow, Int.reduceNegSucc, apps, dx, hjw, njw, nb.1, nb.2.1, ds, dp, dv, wWord, os, op, ov]
    have hne : ¬ ([] : List UInt8) = l := fun e => h0 (by rw [← e]; rfl)
    simp only [hne, walk, lists, acts, mem, plain, seqs, maps, cells, resL, resV, intBin, ↓reduceIte, Nat.reduceAdd, Nat.reduceSub, Nat.reduceMul, Nat.reduceLeDiff, Nat.reduceEqDiff, Int.reduceToNat, Int.reduceEq, Int.reduceLT, Int.reduceLE, Int.reduceNeg, Int.reduceAdd, Int.reduceSub, Int.reduceMul, Nat.reducePow, Int.reduceNegSucc, apps, dx, hjw, njw, nb.1, nb.2.1, ds, dp, dv, wWord, os, op, ov]
    refine ⟨h, by (repeat' first | exact Sub.refl _ | exact Sub.nil _ | assumption | refine Sub.both ?_ ?_ | refine Sub.cons_of (by simp only [subs, dx, dy, hjw, njw, nb, ds, dp, dv, ds2, dp2, dv2, hjr, ow.sp, ow.sv, ow.pv, sp2, sv2, pv2]) ?_ | exact Sub.left _ _ | refine Sub.app (by simp only [subs, dx, dy, hjw, njw, nb, ds, dp, dv, ds2, dp2, dv2, hjr, ow.sp, ow.sv, ow.pv, sp2, sv2, pv2]) ?_ | refine Sub.cons (by simp only [subs, dx, dy, hjw, njw, nb, ds, dp, dv, ds2, dp2, dv2, hjr, ow.sp, ow.sv, ow.pv, sp2, sv2, pv2]) ?_), kno fun w0 ok e => ?_⟩
    have := (ex w0 ok e).1
    subst this
    exact okw ok
end Go.Proofs.Ytllhdnfcneejaaa
