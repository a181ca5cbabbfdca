/- Parts of the proof, put together: T16, T41, P4, T29, T30, T31, T32, T33. -/
import Derived.Test.YtllhdnfcneejaaaK39
import Derived.Test.YtllhdnfcneejaaaK36
import Derived.Test.YtllhdnfcneejaaaK38
/- How the reference reads a word of bytes. -/
section
set_option linter.unusedVariables false
set_option linter.unusedSimpArgs false
set_option maxRecDepth 20000
attribute [local irreducible] Go.Tk.vc Go.Tk.vops Go.Tk.vdr Go.Tk.vop Go.Tk.vfl Go.Tk.HCalls
namespace Go.Proofs.Ytllhdnfcneejaaa
open Go Go.Tk

theorem encI_ne (n : Int) : encI n ≠ [] := encN_ne _
theorem pack_ne (w : DWord) : pack w ≠ [] := by
  rw [pack_head]
  intro h
  have := (List.append_eq_nil_iff.1 h).1
  rw [headW, encIs_cons] at this
  exact encI_ne _ (List.append_eq_nil_iff.1 this).1

theorem specUnpack_c {h : H} {b : Value} {l : List UInt8} (rb : rBytes h b l) (hl : l.length ≤ 1099511627776) {R : Ending → H → Prop}
    (kok : ∀ w s p v gs gp gv, wordP w → l = pack w → (∀ w0, wordP w0 → l = pack w0 → w = w0) → oWord 3 69 3 w s p v gs gp gv → wLen w → Dj gs h → Dj gp h → Dj gv h → R (.returned (.tuple #[.agg (cWord w s p v).toArray, .bool true])) (gs ++ (gp ++ (gv ++ h))))
    (kno : (∀ w, wordP w → l ≠ pack w) → R (.returned (.tuple #[.agg (cWord zWord (.slice none 0 0) (.slice none 0 0) (.slice none 0 0)).toArray, .bool false])) h) :
    HCalls Try.prog 7 #[b] h R := by
  refine HCalls_ir (args := [b]) Try.func7 ir7 ?_
  have zw := zWord_eq
  simp only [str] at zw
  have oneb := rLs.one rb
  have vcb := vcells_one oneb
  simp only [walk, lists, acts, mem, plain, seqs, maps, cells, resL, resV, intBin, ↓reduceIte, Nat.reduceAdd, Nat.reduceSub, Nat.reduceMul, Nat.reduceLeDiff, Nat.reduceEqDiff, Int.reduceToNat, Int.reduceEq, Int.reduceLT, Int.reduceLE, Int.reduceNeg, Int.reduceAdd, Int.reduceSub, Int.reduceMul, Nat.reducePow, Int.reduceNegSucc, str, zw]
  refine newB_intro fun jr hjr => ?_
  simp only [walk, lists, acts, mem, plain, seqs, maps, cells, resL, resV, intBin, ↓reduceIte, Nat.reduceAdd, Nat.reduceSub, Nat.reduceMul, Nat.reduceLeDiff, Nat.reduceEqDiff, Int.reduceToNat, Int.reduceEq, Int.reduceLT, Int.reduceLE, Int.reduceNeg, Int.reduceAdd, Int.reduceSub, Int.reduceMul, Nat.reducePow, Int.reduceNegSucc, vcb]
  refine newB_intro (o := blk (rd b 0 false) 49) fun jb hjb => ?_
  have nb := fresh hjb
  simp only [walk, lists, acts, mem, plain, seqs, maps, cells, resL, resV, intBin, ↓reduceIte, Nat.reduceAdd, Nat.reduceSub, Nat.reduceMul, Nat.reduceLeDiff, Nat.reduceEqDiff, Int.reduceToNat, Int.reduceEq, Int.reduceLT, Int.reduceLE, Int.reduceNeg, Int.reduceAdd, Int.reduceSub, Int.reduceMul, Nat.reducePow, Int.reduceNegSucc, vcb]
  refine word_c hjb (rb.sub (Sub.cons hjr (Sub.refl _))) hl fun w s p v gs gp gv at' bad' ow ds dp dv hw ex => ?_
  have os := ow.s.rd.one
  have op := ow.p.rd.one
  have ov := ow.v.rd.one
  have sp2 := ow.sp.symm
  have sv2 := ow.sv.symm
  have pv2 := ow.pv.symm
  have ds2 := ds.symm
  have dp2 := dp.symm
  have dv2 := dv.symm
  simp only [subs] at ds dp dv ds2 dp2 dv2
  simp only [walk, lists, acts, mem, plain, seqs, maps, cells, resL, resV, intBin, ↓reduceIte, Nat.reduceAdd, Nat.reduceSub, Nat.reduceMul, Nat.reduceLeDiff, Nat.reduceEqDiff, Int.reduceToNat, Int.reduceEq, Int.reduceLT, Int.reduceLE, Int.reduceNeg, Int.reduceAdd, Int.reduceSub, Int.reduceMul, Nat.reducePow, Int.reduceNegSucc, zw]
  refine newB_intro fun jw hjw => ?_
  simp only [subs] at hjw
  have njw : jb ≠ jw ∧ jr ≠ jw := ⟨Ne.symm hjw.2.2.2.1, Ne.symm hjw.2.2.2.2.1⟩
  simp only [walk, lists, acts, mem, plain, seqs, maps, cells, resL, resV, intBin, ↓reduceIte, Nat.reduceAdd, Nat.reduceSub, Nat.reduceMul, Nat.reduceLeDiff, Nat.reduceEqDiff, Int.reduceToNat, Int.reduceEq, Int.reduceLT, Int.reduceLE, Int.reduceNeg, Int.reduceAdd, Int.reduceSub, Int.reduceMul, Nat.reducePow, Int.reduceNegSucc, wWord, os, op, ov]
  have S0 : Tk.Sub h ((jw, blk (cWord w s p v) 28) :: (gs ++ (gp ++ (gv ++ ((jb, blk (rd b at' bad') 49) :: (jr, blk (cWord zWord (.slice none 0 0) (.slice none 0 0) (.slice none 0 0)) 28) :: h))))) := by (repeat' first | exact Sub.refl _ | exact Sub.nil _ | assumption | refine Sub.both ?_ ?_ | refine Sub.cons_of (by simp only [subs, hjw, njw, nb, ds, dp, dv, ds2, dp2, dv2, hjr, ow.sp, ow.sv, ow.pv, sp2, sv2, pv2]) ?_ | exact Sub.left _ _ | refine Sub.app (by simp only [subs, hjw, njw, nb, ds, dp, dv, ds2, dp2, dv2, hjr, ow.sp, ow.sv, ow.pv, sp2, sv2, pv2]) ?_ | refine Sub.cons (by simp only [subs, hjw, njw, nb, ds, dp, dv, ds2, dp2, dv2, hjr, ow.sp, ow.sv, ow.pv, sp2, sv2, pv2]) ?_)
  have SW : Tk.Sub (gs ++ (gp ++ gv)) ((jw, blk (cWord w s p v) 28) :: (gs ++ (gp ++ (gv ++ ((jb, blk (rd b at' bad') 49) :: (jr, blk (cWord zWord (.slice none 0 0) (.slice none 0 0) (.slice none 0 0)) 28) :: h))))) := by (repeat' first | exact Sub.refl _ | exact Sub.nil _ | assumption | refine Sub.both ?_ ?_ | refine Sub.cons_of (by simp only [subs, hjw, njw, nb, ds, dp, dv, ds2, dp2, dv2, hjr, ow.sp, ow.sv, ow.pv, sp2, sv2, pv2]) ?_ | exact Sub.left _ _ | refine Sub.app (by simp only [subs, hjw, njw, nb, ds, dp, dv, ds2, dp2, dv2, hjr, ow.sp, ow.sv, ow.pv, sp2, sv2, pv2]) ?_ | refine Sub.cons (by simp only [subs, hjw, njw, nb, ds, dp, dv, ds2, dp2, dv2, hjr, ow.sp, ow.sv, ow.pv, sp2, sv2, pv2]) ?_)
  have rbM := rb.sub S0
  have rwM := sWord.sub SW ow.rd
  refine vc_draw _ (Sub.refl _) ?_
  simp only [walk, lists, acts, mem, plain, seqs, maps, cells, resL, resV, intBin, ↓reduceIte, Nat.reduceAdd, Nat.reduceSub, Nat.reduceMul, Nat.reduceLeDiff, Nat.reduceEqDiff, Int.reduceToNat, Int.reduceEq, Int.reduceLT, Int.reduceLE, Int.reduceNeg, Int.reduceAdd, Int.reduceSub, Int.reduceMul, Nat.reducePow, Int.reduceNegSucc, w_rd, wWord, apps, hjw, njw, nb.1, nb.2.1, ds, dp, dv, rb.len, Sub_self, btos_rd rbM]
  refine ite_b (fun hb => dP_sub S0 (kno fun w0 ok e => by have := (ex w0 ok e).2; rw [hb] at this; cases this)) fun hb => ?_
  refine ite_pos (fun h0 => dP_sub S0 (kno fun w0 ok e => pack_ne w0 (by rw [← e]; exact List.eq_nil_of_length_eq_zero (by omega)))) fun h0 => ?_
  refine specPack_c (w := w) rwM hw (fun okw v' g' o' d' => ?_) fun okw v' g' o' d' => ?_
  · simp only [walk, lists, acts, mem, plain, seqs, maps, cells, resL, resV, intBin, ↓reduceIte, Nat.reduceAdd, Nat.reduceSub, Nat.reduceMul, Nat.reduceLeDiff, Nat.reduceEqDiff, Int.reduceToNat, Int.reduceEq, Int.reduceLT, Int.reduceLE, Int.reduceNeg, Int.reduceAdd, Int.reduceSub, Int.reduceMul, Nat.reducePow, Int.reduceNegSucc]
    have sR := Sub.right d'
    have dx := d'
    have dy := d'.symm
    simp only [subs] at dx dy
    refine ⟨sR, ?_⟩
    have bt := fun f => btos_rd (o'.rd.sub (Sub.left g' ((jw, blk (cWord w s p v) 28) :: (gs ++ (gp ++ (gv ++ ((jb, blk (rd b at' bad') 49) :: (jr, blk (cWord zWord (.slice none 0 0) (.slice none 0 0) (.slice none 0 0)) 28) :: h))))))) (f := f)
    simp only [walk, lists, acts, mem, plain, seqs, maps, cells, resL, resV, intBin, ↓reduceIte, Nat.reduceAdd, Nat.reduceSub, Nat.reduceMul, Nat.reduceLeDiff, Nat.reduceEqDiff, Int.reduceToNat, Int.reduceEq, Int.reduceLT, Int.reduceLE, Int.reduceNeg, Int.reduceAdd, Int.reduceSub, Int.reduceMul, Nat.reducePow, Int.reduceNegSucc, bt, strBin, str_inj, sR]
    simp only [walk, lists, acts, mem, plain, seqs, maps, cells, resL, resV, intBin, ↓reduceIte, Nat.reduceAdd, Nat.reduceSub, Nat.reduceMul, Nat.reduceLeDiff, Nat.reduceEqDiff, Int.reduceToNat, Int.reduceEq, Int.reduceLT, Int.reduceLE, Int.reduceNeg, Int.reduceAdd, Int.reduceSub, Int.reduceMul, Nat.reducePow, Int.reduceNegSucc, apps, dx, hjw, njw, nb.1, nb.2.1, ds, dp, dv, wWord, os, op, ov]
    refine ite_ne (fun hne => ⟨h, by (repeat' first | exact Sub.refl _ | exact Sub.nil _ | assumption | refine Sub.both ?_ ?_ | refine Sub.cons_of (by simp only [subs, dx, dy, hjw, njw, nb, ds, dp, dv, ds2, dp2, dv2, hjr, ow.sp, ow.sv, ow.pv, sp2, sv2, pv2]) ?_ | exact Sub.left _ _ | refine Sub.app (by simp only [subs, dx, dy, hjw, njw, nb, ds, dp, dv, ds2, dp2, dv2, hjr, ow.sp, ow.sv, ow.pv, sp2, sv2, pv2]) ?_ | refine Sub.cons (by simp only [subs, dx, dy, hjw, njw, nb, ds, dp, dv, ds2, dp2, dv2, hjr, ow.sp, ow.sv, ow.pv, sp2, sv2, pv2]) ?_), kno fun w0 ok e => ?_⟩) fun heq => ⟨gs ++ (gp ++ (gv ++ h)), by (repeat' first | exact Sub.refl _ | exact Sub.nil _ | assumption | refine Sub.both ?_ ?_ | refine Sub.cons_of (by simp only [subs, dx, dy, hjw, njw, nb, ds, dp, dv, ds2, dp2, dv2, hjr, ow.sp, ow.sv, ow.pv, sp2, sv2, pv2]) ?_ | exact Sub.left _ _ | refine Sub.app (by simp only [subs, dx, dy, hjw, njw, nb, ds, dp, dv, ds2, dp2, dv2, hjr, ow.sp, ow.sv, ow.pv, sp2, sv2, pv2]) ?_ | refine Sub.cons (by simp only [subs, dx, dy, hjw, njw, nb, ds, dp, dv, ds2, dp2, dv2, hjr, ow.sp, ow.sv, ow.pv, sp2, sv2, pv2]) ?_), kok w s p v gs gp gv okw heq.symm (fun w0 ok e => (ex w0 ok e).1) ow hw ds.2.2 dp.2.2 dv.2.2⟩
    have := (ex w0 ok e).1
    subst this
    exact hne e.symm
  · simp only [walk, lists, acts, mem, plain, seqs, maps, cells, resL, resV, intBin, ↓reduceIte, Nat.reduceAdd, Nat.reduceSub, Nat.reduceMul, Nat.reduceLeDiff, Nat.reduceEqDiff, Int.reduceToNat, Int.reduceEq, Int.reduceLT, Int.reduceLE, Int.reduceNeg, Int.reduceAdd, Int.reduceSub, Int.reduceMul, Nat.reducePow, Int.reduceNegSucc]
    have sR := Sub.right d'
    have dx := d'
    have dy := d'.symm
    simp only [subs] at dx dy
    refine ⟨sR, ?_⟩
    have bt := fun f => btos_rd (o'.rd.sub (Sub.left g' ((jw, blk (cWord w s p v) 28) :: (gs ++ (gp ++ (gv ++ ((jb, blk (rd b at' bad') 49) :: (jr, blk (cWord zWord (.slice none 0 0) (.slice none 0 0) (.slice none 0 0)) 28) :: h))))))) (f := f)
    simp only [walk, lists, acts, mem, plain, seqs, maps, cells, resL, resV, intBin, ↓reduceIte, Nat.reduceAdd, Nat.reduceSub, Nat.reduceMul, Nat.reduceLeDiff, Nat.reduceEqDiff, Int.reduceToNat, Int.reduceEq, Int.reduceLT, Int.reduceLE, Int.reduceNeg, Int.reduceAdd, Int.reduceSub, Int.reduceMul, Nat.reducePow, Int.reduceNegSucc, bt, strBin, str_inj, sR]
    simp only [walk, lists, acts, mem, plain, seqs, maps, cells, resL, resV, intBin, ↓reduceIte, Nat.reduceAdd, Nat.reduceSub, Nat.reduceMul, Nat.reduceLeDiff, Nat.reduceEqDiff, Int.reduceToNat, Int.reduceEq, Int.reduceLT, Int.reduceLE, Int.reduceNeg, Int.reduceAdd, Int.reduceSub, Int.reduceMul, Nat.reducePow, Int.reduceNegSucc, apps, dx, hjw, njw, nb.1, nb.2.1, ds, dp, dv, wWord, os, op, ov]
    have hne : ¬ ([] : List UInt8) = l := fun e => h0 (by rw [← e]; rfl)
    simp only [hne, walk, lists, acts, mem, plain, seqs, maps, cells, resL, resV, intBin, ↓reduceIte, Nat.reduceAdd, Nat.reduceSub, Nat.reduceMul, Nat.reduceLeDiff, Nat.reduceEqDiff, Int.reduceToNat, Int.reduceEq, Int.reduceLT, Int.reduceLE, Int.reduceNeg, Int.reduceAdd, Int.reduceSub, Int.reduceMul, Nat.reducePow, Int.reduceNegSucc, apps, dx, hjw, njw, nb.1, nb.2.1, ds, dp, dv, wWord, os, op, ov]
    refine ⟨h, by (repeat' first | exact Sub.refl _ | exact Sub.nil _ | assumption | refine Sub.both ?_ ?_ | refine Sub.cons_of (by simp only [subs, dx, dy, hjw, njw, nb, ds, dp, dv, ds2, dp2, dv2, hjr, ow.sp, ow.sv, ow.pv, sp2, sv2, pv2]) ?_ | exact Sub.left _ _ | refine Sub.app (by simp only [subs, dx, dy, hjw, njw, nb, ds, dp, dv, ds2, dp2, dv2, hjr, ow.sp, ow.sv, ow.pv, sp2, sv2, pv2]) ?_ | refine Sub.cons (by simp only [subs, dx, dy, hjw, njw, nb, ds, dp, dv, ds2, dp2, dv2, hjr, ow.sp, ow.sv, ow.pv, sp2, sv2, pv2]) ?_), kno fun w0 ok e => ?_⟩
    have := (ex w0 ok e).1
    subst this
    exact okw ok
end Go.Proofs.Ytllhdnfcneejaaa
end

/- Words that are the same, as the laws look. -/
section
set_option linter.unusedVariables false
set_option linter.unusedSimpArgs false
set_option maxRecDepth 20000
attribute [local irreducible] Go.Tk.vc Go.Tk.vops Go.Tk.vdr Go.Tk.vop Go.Tk.vfl Go.Tk.HCalls
namespace Go.Proofs.Ytllhdnfcneejaaa
open Go Go.Tk

theorem pair_same {op : BinOp} {x y : Operand} {a : Int × Int} {Q : Value → H → Prop} {E : Value → H → Prop} {h : H} (ho : op = .eql ∨ op = .neq) (k : Q (.bool (op == .eql)) h) :
    SH Try.prog (do eqGuard op 69 x y (.agg (eP a).toArray) (.agg (eP a).toArray); binOp op 69 (.agg (eP a).toArray) (.agg (eP a).toArray)) Q E h := by
  refine SH_same (fs := Try.prog.fieldsOf 69) ho (by kernel_rfl) (by kernel_rfl) (by kernel_rfl) (fun f hf => ?_) k
  have hd : Try.prog.underlying 3 = some (.int .i64) := Try.underlying3
  have hfs : (Try.prog.fieldsOf 69).toList.map (fun f => (f.type, f.offset)) = [(3, 0), (3, 1)] := by kernel_rfl
  have hm : (f.type, f.offset) ∈ [(3, 0), (3, 1)] := hfs ▸ List.mem_map.2 ⟨f, hf, rfl⟩
  simp only [List.mem_cons, List.not_mem_nil, or_false, Prod.mk.injEq] at hm
  rcases hm with ⟨e1, e2⟩ | ⟨e1, e2⟩ <;> rw [e1, e2]
  · exact ⟨.int .i64 a.1, fun Q h => SH_part hd rfl rfl, fun Q h => SH_eqI hd⟩
  · exact ⟨.int .i64 a.2, fun Q h => SH_part hd rfl rfl, fun Q h => SH_eqI hd⟩
theorem call_same {op : BinOp} {x y : Operand} {a : DCall} {Q : Value → H → Prop} {E : Value → H → Prop} {h : H} (ho : op = .eql ∨ op = .neq) (k : Q (.bool (op == .eql)) h) :
    SH Try.prog (do eqGuard op 26 x y (.agg (cCall a).toArray) (.agg (cCall a).toArray); binOp op 26 (.agg (cCall a).toArray) (.agg (cCall a).toArray)) Q E h := by
  refine SH_same (fs := Try.prog.fieldsOf 26) ho (by kernel_rfl) (by kernel_rfl) (by kernel_rfl) (fun f hf => ?_) k
  have hd : Try.prog.underlying 3 = some (.int .i64) := Try.underlying3
  have ht : Try.prog.underlying 9 = some .string := Try.underlying9
  have hfs : (Try.prog.fieldsOf 26).toList.map (fun f => (f.type, f.offset)) = [(3, 0), (3, 1), (3, 2), (9, 3), (3, 4), (3, 5)] := by kernel_rfl
  have hm : (f.type, f.offset) ∈ [(3, 0), (3, 1), (3, 2), (9, 3), (3, 4), (3, 5)] := hfs ▸ List.mem_map.2 ⟨f, hf, rfl⟩
  simp only [List.mem_cons, List.not_mem_nil, or_false, Prod.mk.injEq] at hm
  rcases hm with ⟨e1, e2⟩ | ⟨e1, e2⟩ | ⟨e1, e2⟩ | ⟨e1, e2⟩ | ⟨e1, e2⟩ | ⟨e1, e2⟩ <;> rw [e1, e2]
  · exact ⟨.int .i64 a.session, fun Q h => SH_part hd rfl rfl, fun Q h => SH_eqI hd⟩
  · exact ⟨.int .i64 a.number, fun Q h => SH_part hd rfl rfl, fun Q h => SH_eqI hd⟩
  · exact ⟨.int .i64 a.kind, fun Q h => SH_part hd rfl rfl, fun Q h => SH_eqI hd⟩
  · exact ⟨.string ⟨a.text.toArray⟩, fun Q h => SH_part ht rfl rfl, fun Q h => SH_eqT ht⟩
  · exact ⟨.int .i64 a.slot, fun Q h => SH_part hd rfl rfl, fun Q h => SH_eqI hd⟩
  · exact ⟨.int .i64 a.to, fun Q h => SH_part hd rfl rfl, fun Q h => SH_eqI hd⟩

theorem loInts_c {h : H} {x y : Value} {l : List Int} (rx : rInts h x l) (ry : rInts h y l) (hl : l.length ≤ 1099511627776) {R : Ending → H → Prop} (k : R (.returned (.bool true)) h) : HCalls Try.prog 59 #[x, y] h R := by
  refine HCalls_ir (args := [x, y]) Try.func59 ir59 ?_
  simp only [walk, lists, acts, mem, plain, seqs, maps, cells, resL, resV, intBin, ↓reduceIte, Nat.reduceAdd, Nat.reduceSub, Nat.reduceMul, Nat.reduceLeDiff, Nat.reduceEqDiff, Int.reduceToNat, Int.reduceEq, Int.reduceLT, Int.reduceLE, Int.reduceNeg, Int.reduceAdd, Int.reduceSub, Int.reduceMul, Nat.reducePow, Int.reduceNegSucc, rx.len, ry.len]
  refine vc_loop [5] (fun n' vs h' => ∃ (i : Nat), vs = [.int .i64 i] ∧ h' = h ∧ i ≤ l.length ∧ n' = l.length - i) l.length rfl ⟨0, rfl, rfl, by omega, rfl⟩ ?_
  rintro n' f h' ⟨i, hv, rfl, hi, rfl⟩
  simp only [List.map_cons, List.map_nil, List.cons.injEq, and_true] at hv
  simp only [walk, lists, acts, mem, plain, seqs, maps, cells, resL, resV, intBin, ↓reduceIte, Nat.reduceAdd, Nat.reduceSub, Nat.reduceMul, Nat.reduceLeDiff, Nat.reduceEqDiff, Int.reduceToNat, Int.reduceEq, Int.reduceLT, Int.reduceLE, Int.reduceNeg, Int.reduceAdd, Int.reduceSub, Int.reduceMul, Nat.reducePow, Int.reduceNegSucc, wr, hv, rx.len]
  refine ite_lt (fun c2 => ?_) fun c2 => .of k
  refine vc_draw _ (Sub.refl _) ?_
  simp only [walk, lists, acts, mem, plain, seqs, maps, cells, resL, resV, intBin, ↓reduceIte, Nat.reduceAdd, Nat.reduceSub, Nat.reduceMul, Nat.reduceLeDiff, Nat.reduceEqDiff, Int.reduceToNat, Int.reduceEq, Int.reduceLT, Int.reduceLE, Int.reduceNeg, Int.reduceAdd, Int.reduceSub, Int.reduceMul, Nat.reducePow, Int.reduceNegSucc]
  refine idx_leaf (i := i) eI_len rx rfl (by omega) fun b1 o1 e1 => ?_
  simp only [walk, lists, acts, mem, plain, seqs, maps, cells, resL, resV, intBin, ↓reduceIte, Nat.reduceAdd, Nat.reduceSub, Nat.reduceMul, Nat.reduceLeDiff, Nat.reduceEqDiff, Int.reduceToNat, Int.reduceEq, Int.reduceLT, Int.reduceLE, Int.reduceNeg, Int.reduceAdd, Int.reduceSub, Int.reduceMul, Nat.reducePow, Int.reduceNegSucc, hread_1 e1]
  refine idx_leaf (i := i) eI_len ry rfl (by omega) fun b2 o2 e2 => ?_
  simp only [walk, lists, acts, mem, plain, seqs, maps, cells, resL, resV, intBin, ↓reduceIte, Nat.reduceAdd, Nat.reduceSub, Nat.reduceMul, Nat.reduceLeDiff, Nat.reduceEqDiff, Int.reduceToNat, Int.reduceEq, Int.reduceLT, Int.reduceLE, Int.reduceNeg, Int.reduceAdd, Int.reduceSub, Int.reduceMul, Nat.reducePow, Int.reduceNegSucc, hread_1 e2]
  simp (disch := omega) only [wrapI]
  exact ⟨l.length - (i + 1), by omega, h', .refl _, i + 1, by simp, rfl, by omega, rfl⟩

theorem loPairs_c {h : H} {x y : Value} {l : List (Int × Int)} (rx : rPairs h x l) (ry : rPairs h y l) (hl : l.length ≤ 1099511627776) {R : Ending → H → Prop} (k : R (.returned (.bool true)) h) : HCalls Try.prog 60 #[x, y] h R := by
  refine HCalls_ir (args := [x, y]) Try.func60 ir60 ?_
  simp only [walk, lists, acts, mem, plain, seqs, maps, cells, resL, resV, intBin, ↓reduceIte, Nat.reduceAdd, Nat.reduceSub, Nat.reduceMul, Nat.reduceLeDiff, Nat.reduceEqDiff, Int.reduceToNat, Int.reduceEq, Int.reduceLT, Int.reduceLE, Int.reduceNeg, Int.reduceAdd, Int.reduceSub, Int.reduceMul, Nat.reducePow, Int.reduceNegSucc, rx.len, ry.len]
  refine vc_loop [5] (fun n' vs h' => ∃ (i : Nat), vs = [.int .i64 i] ∧ h' = h ∧ i ≤ l.length ∧ n' = l.length - i) l.length rfl ⟨0, rfl, rfl, by omega, rfl⟩ ?_
  rintro n' f h' ⟨i, hv, rfl, hi, rfl⟩
  simp only [List.map_cons, List.map_nil, List.cons.injEq, and_true] at hv
  simp only [walk, lists, acts, mem, plain, seqs, maps, cells, resL, resV, intBin, ↓reduceIte, Nat.reduceAdd, Nat.reduceSub, Nat.reduceMul, Nat.reduceLeDiff, Nat.reduceEqDiff, Int.reduceToNat, Int.reduceEq, Int.reduceLT, Int.reduceLE, Int.reduceNeg, Int.reduceAdd, Int.reduceSub, Int.reduceMul, Nat.reducePow, Int.reduceNegSucc, wr, hv, rx.len]
  refine ite_lt (fun c2 => ?_) fun c2 => .of k
  refine vc_draw _ (Sub.refl _) ?_
  simp only [walk, lists, acts, mem, plain, seqs, maps, cells, resL, resV, intBin, ↓reduceIte, Nat.reduceAdd, Nat.reduceSub, Nat.reduceMul, Nat.reduceLeDiff, Nat.reduceEqDiff, Int.reduceToNat, Int.reduceEq, Int.reduceLT, Int.reduceLE, Int.reduceNeg, Int.reduceAdd, Int.reduceSub, Int.reduceMul, Nat.reducePow, Int.reduceNegSucc]
  refine idx_leaf (i := i) eP_len rx rfl (by omega) fun b1 o1 e1 => ?_
  simp only [walk, lists, acts, mem, plain, seqs, maps, cells, resL, resV, intBin, ↓reduceIte, Nat.reduceAdd, Nat.reduceSub, Nat.reduceMul, Nat.reduceLeDiff, Nat.reduceEqDiff, Int.reduceToNat, Int.reduceEq, Int.reduceLT, Int.reduceLE, Int.reduceNeg, Int.reduceAdd, Int.reduceSub, Int.reduceMul, Nat.reducePow, Int.reduceNegSucc, e1]
  refine idx_leaf (i := i) eP_len ry rfl (by omega) fun b2 o2 e2 => ?_
  simp only [walk, lists, acts, mem, plain, seqs, maps, cells, resL, resV, intBin, ↓reduceIte, Nat.reduceAdd, Nat.reduceSub, Nat.reduceMul, Nat.reduceLeDiff, Nat.reduceEqDiff, Int.reduceToNat, Int.reduceEq, Int.reduceLT, Int.reduceLE, Int.reduceNeg, Int.reduceAdd, Int.reduceSub, Int.reduceMul, Nat.reducePow, Int.reduceNegSucc, e2]
  refine pair_same (.inr rfl) ?_
  have e0 : (BinOp.neq == BinOp.eql) = false := rfl
  simp (disch := omega) only [walk, lists, acts, mem, plain, seqs, maps, cells, resL, resV, intBin, ↓reduceIte, Nat.reduceAdd, Nat.reduceSub, Nat.reduceMul, Nat.reduceLeDiff, Nat.reduceEqDiff, Int.reduceToNat, Int.reduceEq, Int.reduceLT, Int.reduceLE, Int.reduceNeg, Int.reduceAdd, Int.reduceSub, Int.reduceMul, Nat.reducePow, Int.reduceNegSucc, e0, wrapI]
  exact ⟨l.length - (i + 1), by omega, h', .refl _, i + 1, by simp, rfl, by omega, rfl⟩

theorem loWord_c {h : H} {w : DWord} {s p v s' p' v' : Value} (rx : sWord h w s p v) (ry : sWord h w s' p' v') (hw : wLen w) {R : Ending → H → Prop} (k : R (.returned (.bool true)) h) :
    HCalls Try.prog 20 #[.agg (cWord w s p v).toArray, .agg (cWord w s' p' v').toArray] h R := by
  refine HCalls_ir (args := [.agg (cWord w s p v).toArray, .agg (cWord w s' p' v').toArray]) Try.func20 ir20 ?_
  simp only [walk, lists, acts, mem, plain, seqs, maps, cells, resL, resV, intBin, ↓reduceIte, Nat.reduceAdd, Nat.reduceSub, Nat.reduceMul, Nat.reduceLeDiff, Nat.reduceEqDiff, Int.reduceToNat, Int.reduceEq, Int.reduceLT, Int.reduceLE, Int.reduceNeg, Int.reduceAdd, Int.reduceSub, Int.reduceMul, Nat.reducePow, Int.reduceNegSucc, wWord]
  refine newB_intro (o := blk (cWord w s p v) 28) fun j1 h1 => ?_
  simp only [walk, lists, acts, mem, plain, seqs, maps, cells, resL, resV, intBin, ↓reduceIte, Nat.reduceAdd, Nat.reduceSub, Nat.reduceMul, Nat.reduceLeDiff, Nat.reduceEqDiff, Int.reduceToNat, Int.reduceEq, Int.reduceLT, Int.reduceLE, Int.reduceNeg, Int.reduceAdd, Int.reduceSub, Int.reduceMul, Nat.reducePow, Int.reduceNegSucc, wWord]
  refine newB_intro (o := blk (cWord w s' p' v') 28) fun j2 h2 => ?_
  have n := fresh h2
  have sb : Tk.Sub h ((j2, blk (cWord w s' p' v') 28) :: (j1, blk (cWord w s p v) 28) :: h) := Sub.cons h2 (Sub.cons h1 (Sub.refl h))
  have be : ∀ b : Bool, (b == b) = true := fun b => by cases b <;> rfl
  simp only [walk, lists, acts, mem, plain, seqs, maps, cells, resL, resV, intBin, ↓reduceIte, Nat.reduceAdd, Nat.reduceSub, Nat.reduceMul, Nat.reduceLeDiff, Nat.reduceEqDiff, Int.reduceToNat, Int.reduceEq, Int.reduceLT, Int.reduceLE, Int.reduceNeg, Int.reduceAdd, Int.reduceSub, Int.reduceMul, Nat.reducePow, Int.reduceNegSucc, wWord, n.1, n.2.1, decide_true, be]
  refine call_same (.inl rfl) ?_
  have e0 : (BinOp.eql == BinOp.eql) = true := rfl
  simp only [walk, lists, acts, mem, plain, seqs, maps, cells, resL, resV, intBin, ↓reduceIte, Nat.reduceAdd, Nat.reduceSub, Nat.reduceMul, Nat.reduceLeDiff, Nat.reduceEqDiff, Int.reduceToNat, Int.reduceEq, Int.reduceLT, Int.reduceLE, Int.reduceNeg, Int.reduceAdd, Int.reduceSub, Int.reduceMul, Nat.reducePow, Int.reduceNegSucc, wWord, n.1, n.2.1, e0]
  refine loInts_c (rx.1.sub sb) (ry.1.sub sb) hw.1 ?_
  simp only [walk, lists, acts, mem, plain, seqs, maps, cells, resL, resV, intBin, ↓reduceIte, Nat.reduceAdd, Nat.reduceSub, Nat.reduceMul, Nat.reduceLeDiff, Nat.reduceEqDiff, Int.reduceToNat, Int.reduceEq, Int.reduceLT, Int.reduceLE, Int.reduceNeg, Int.reduceAdd, Int.reduceSub, Int.reduceMul, Nat.reducePow, Int.reduceNegSucc, wWord, n.1, n.2.1]
  refine loPairs_c (rx.2.1.sub sb) (ry.2.1.sub sb) hw.2.1 ?_
  simp only [walk, lists, acts, mem, plain, seqs, maps, cells, resL, resV, intBin, ↓reduceIte, Nat.reduceAdd, Nat.reduceSub, Nat.reduceMul, Nat.reduceLeDiff, Nat.reduceEqDiff, Int.reduceToNat, Int.reduceEq, Int.reduceLT, Int.reduceLE, Int.reduceNeg, Int.reduceAdd, Int.reduceSub, Int.reduceMul, Nat.reducePow, Int.reduceNegSucc, wWord, n.1, n.2.1]
  refine loInts_c (rx.2.2.sub sb) (ry.2.2.sub sb) hw.2.2 ?_
  simp only [walk, lists, acts, mem, plain, seqs, maps, cells, resL, resV, intBin, ↓reduceIte, Nat.reduceAdd, Nat.reduceSub, Nat.reduceMul, Nat.reduceLeDiff, Nat.reduceEqDiff, Int.reduceToNat, Int.reduceEq, Int.reduceLT, Int.reduceLE, Int.reduceNeg, Int.reduceAdd, Int.reduceSub, Int.reduceMul, Nat.reducePow, Int.reduceNegSucc]
  exact ⟨h, sb, k⟩
end Go.Proofs.Ytllhdnfcneejaaa
end

/- Numbers in decimals, and deals as texts. -/
section
set_option linter.unusedVariables false
set_option linter.unusedSimpArgs false
namespace Go.Tk
open Go

/-- A number in decimals. -/
def decN (n : Nat) : List UInt8 := if h : n < 10 then [UInt8.ofNat (48 + n)] else decN (n / 10) ++ [UInt8.ofNat (48 + n % 10)]
termination_by n
decreasing_by omega
theorem decN_small {n : Nat} (h : n < 10) : decN n = [UInt8.ofNat (48 + n)] := by rw [decN, dif_pos h]
theorem decN_big {n : Nat} (h : ¬ n < 10) : decN n = decN (n / 10) ++ [UInt8.ofNat (48 + n % 10)] := by rw [decN, dif_neg h]
theorem decN_len : ∀ (k n : Nat), n < 10 ^ (k + 1) → (decN n).length ≤ k + 1 := by
  intro k
  induction k with
  | zero => intro n h; rw [decN_small (by simpa using h)]; simp
  | succ k ih =>
    intro n h
    by_cases c : n < 10
    · rw [decN_small c]; simp
    · rw [decN_big c, List.length_append, List.length_singleton]
      have := ih (n / 10) (by rw [Nat.pow_succ] at h; omega)
      omega
theorem decN_len20 {n : Nat} (h : n ≤ 9223372036854775807) : (decN n).length ≤ 20 := decN_len 19 n (by
  have : (10 : Nat) ^ (19 + 1) = 100000000000000000000 := by decide
  omega)
def decI (i : Int) : List UInt8 := if i < 0 then 45 :: decN (-i).toNat else decN i.toNat
theorem decI_len {i : Int} (h : -9223372036854775807 ≤ i ∧ i ≤ 9223372036854775807) : (decI i).length ≤ 21 := by
  unfold decI
  split
  · rw [List.length_cons]; have := decN_len20 (n := (-i).toNat) (by omega); omega
  · have := decN_len20 (n := i.toNat) (by omega); omega

def stP (s : DStatement) : Prop := inP 1 4 s.do_ ∧ inP 0 31 s.key ∧ valP s.num ∧ (s.do_ = 1 → s.num = 0)
def dealP (l : List DStatement) : Prop := 1 ≤ l.length ∧ l.length ≤ 6 ∧ allP stP l
/-- What a statement begins with. -/
def opName (n : Int) : List UInt8 := if n = 1 then [103, 101, 116, 32] else if n = 2 then [112, 117, 116, 32] else if n = 3 then [97, 100, 100, 32] else [110, 101, 101, 100, 32]
def stText (s : DStatement) : List UInt8 := opName s.do_ ++ decI s.key ++ (if s.do_ = 1 then [] else 32 :: decI s.num) ++ [59]
def dealText (l : List DStatement) : List UInt8 := (l.map stText).flatten
theorem dealText_app (l m : List DStatement) : dealText (l ++ m) = dealText l ++ dealText m := by simp [dealText]
theorem dealText_one (s : DStatement) : dealText [s] = stText s := by simp [dealText]
theorem opName_len (n : Int) : (opName n).length ≤ 5 := by
  unfold opName
  repeat' split
  all_goals simp
theorem stText_len {s : DStatement} (h : stP s) : (stText s).length ≤ 60 := by
  have h1 := opName_len s.do_
  have h2 := decI_len (i := s.key) (by have := h.2.1; simp only [inP] at this; omega)
  have h3 := decI_len (i := s.num) (by have := h.2.2.1; simp only [valP, inP] at this; omega)
  unfold stText
  split <;> simp only [List.length_append, List.length_cons, List.length_nil] <;> omega
theorem dealText_len {l : List DStatement} (h : allP stP l) : (dealText l).length ≤ 60 * l.length := by
  induction l with
  | nil => simp [dealText]
  | cons s l ih =>
    have h1 := ih fun x hx => h x (List.mem_cons_of_mem _ hx)
    have h2 := stText_len (h s List.mem_cons_self)
    have : dealText (s :: l) = stText s ++ dealText l := by simp [dealText]
    rw [this, List.length_append, List.length_cons]
    omega
end Go.Tk
end

/- How drawn bytes are read. -/
section
set_option linter.unusedVariables false
set_option linter.unusedSimpArgs false
set_option maxRecDepth 20000
attribute [local irreducible] Go.Tk.vc Go.Tk.vops Go.Tk.vdr Go.Tk.vop Go.Tk.vfl Go.Tk.HCalls
namespace Go.Proofs.Ytllhdnfcneejaaa
open Go Go.Tk

/-- The cells of what reads drawn bytes. -/
def rdr (b : Value) (p : Nat) : List Value := [b, .int .i64 p]
theorem w_rdr : (∀ b p, (rdr b p).length = 2) ∧ (∀ b p, (rdr b p)[0]? = some b) ∧ (∀ b p, (rdr b p)[1]? = some (.int .i64 p)) ∧ (∀ b p (q : Nat), splice (rdr b p) 1 [.int .i64 q] = rdr b q) :=
  ⟨fun _ _ => rfl, fun _ _ => rfl, fun _ _ => rfl, fun _ _ _ => rfl⟩

theorem pick_c {h : H} {j p : Nat} {bv : Value} {l : List UInt8} {n : Int} (hj : hget h j = none) (rb : rIn h eB 1 bv l) (hl : l.length ≤ 1048576) (hp : p ≤ 1099511627776) (hn : n ≤ 1099511627776) {R : Ending → H → Prop}
    (k : ∀ x : Int, 0 ≤ x → (1 ≤ n → x < n) → (n < 1 → x = 0) → R (.returned (.int .i64 x)) ((j, blk (rdr bv (p + 1)) 120) :: h)) :
    HCalls Try.prog 61 #[.pointer (some ⟨j, 0, none⟩), .int .i64 n] ((j, blk (rdr bv p) 120) :: h) R := by
  refine HCalls_ir (args := [.pointer (some ⟨j, 0, none⟩), .int .i64 n]) Try.func61 ir61 ?_
  have sj := fun o => Sub.cons (o := o) hj (Sub.refl h)
  have hc : (p : Int) + 1 = ((p + 1 : Nat) : Int) := by omega
  have hc2 : ((p + 1 : Nat) : Int) - 1 = (p : Int) := by omega
  simp (disch := omega) only [walk, lists, acts, mem, plain, seqs, maps, cells, resL, resV, intBin, ↓reduceIte, Nat.reduceAdd, Nat.reduceSub, Nat.reduceMul, Nat.reduceLeDiff, Nat.reduceEqDiff, Int.reduceToNat, Int.reduceEq, Int.reduceLT, Int.reduceLE, Int.reduceNeg, Int.reduceAdd, Int.reduceSub, Int.reduceMul, Nat.reducePow, Int.reduceNegSucc, w_rdr, wrapI, hc, rb.len]
  refine ite_lt (fun c1 => .of (k 0 (by omega) (fun x => by omega) fun _ => rfl)) fun c1 => ?_
  refine ite_pos (fun c2 => .of (k 0 (by omega) (fun x => by omega) fun _ => rfl)) fun c2 => ?_
  have hpos : 0 < l.length := by omega
  simp (disch := omega) only [walk, lists, acts, mem, plain, seqs, maps, cells, resL, resV, intBin, ↓reduceIte, Nat.reduceAdd, Nat.reduceSub, Nat.reduceMul, Nat.reduceLeDiff, Nat.reduceEqDiff, Int.reduceToNat, Int.reduceEq, Int.reduceLT, Int.reduceLE, Int.reduceNeg, Int.reduceAdd, Int.reduceSub, Int.reduceMul, Nat.reducePow, Int.reduceNegSucc, w_rdr, wrapI, hc2, rb.len]
  refine ite_lt (fun c3 => ?_) fun c3 => ?_
  · refine idx_in (i := p) eB_len (rb.sub (sj (blk (rdr bv (p + 1)) 120))) rfl (by omega) fun b1 o1 e1 => ?_
    have he1 : eB l[p] = [.int .u8 l[p].toNat] := rfl
    rw [he1] at e1
    have hx : l[p].toNat < 256 := UInt8.toNat_lt _
    simp (disch := omega) only [walk, lists, acts, mem, plain, seqs, maps, cells, resL, resV, intBin, ↓reduceIte, Nat.reduceAdd, Nat.reduceSub, Nat.reduceMul, Nat.reduceLeDiff, Nat.reduceEqDiff, Int.reduceToNat, Int.reduceEq, Int.reduceLT, Int.reduceLE, Int.reduceNeg, Int.reduceAdd, Int.reduceSub, Int.reduceMul, Nat.reducePow, Int.reduceNegSucc, hread_1 e1, wrapI]
    have hn0 : ¬ n = 0 := by omega
    simp (disch := omega) only [walk, lists, acts, mem, plain, seqs, maps, cells, resL, resV, intBin, ↓reduceIte, Nat.reduceAdd, Nat.reduceSub, Nat.reduceMul, Nat.reduceLeDiff, Nat.reduceEqDiff, Int.reduceToNat, Int.reduceEq, Int.reduceLT, Int.reduceLE, Int.reduceNeg, Int.reduceAdd, Int.reduceSub, Int.reduceMul, Nat.reducePow, Int.reduceNegSucc, hn0]
    have tm := tmodN l[p].toNat n (by omega)
    exact .of (k _ tm.1 (fun _ => tm.2) fun x => by omega)
  · have hl0 : ¬ (l.length : Int) = 0 := by omega
    have rM := rb.sub (sj (blk (rdr bv (p + 1)) 120))
    refine vc_draw _ (Sub.refl _) ?_
    simp only [walk, lists, acts, mem, plain, seqs, maps, cells, resL, resV, intBin, ↓reduceIte, Nat.reduceAdd, Nat.reduceSub, Nat.reduceMul, Nat.reduceLeDiff, Nat.reduceEqDiff, Int.reduceToNat, Int.reduceEq, Int.reduceLT, Int.reduceLE, Int.reduceNeg, Int.reduceAdd, Int.reduceSub, Int.reduceMul, Nat.reducePow, Int.reduceNegSucc, w_rdr, rb.len, hl0, tmodN']
    refine idx_in (i := p % l.length) eB_len rM rfl (Nat.mod_lt _ hpos) fun b1 o1 e1 => ?_
    have he1 : eB (l[p % l.length]'(Nat.mod_lt _ hpos)) = [.int .u8 (l[p % l.length]'(Nat.mod_lt _ hpos)).toNat] := rfl
    rw [he1] at e1
    have hx : (l[p % l.length]'(Nat.mod_lt _ hpos)).toNat < 256 := UInt8.toNat_lt _
    generalize (l[p % l.length]'(Nat.mod_lt _ hpos)).toNat = x at *
    have hk : (p : Int) * 7 + 3 = ((p * 7 + 3 : Nat) : Int) := by omega
    simp (disch := omega) only [walk, lists, acts, mem, plain, seqs, maps, cells, resL, resV, intBin, ↓reduceIte, Nat.reduceAdd, Nat.reduceSub, Nat.reduceMul, Nat.reduceLeDiff, Nat.reduceEqDiff, Int.reduceToNat, Int.reduceEq, Int.reduceLT, Int.reduceLE, Int.reduceNeg, Int.reduceAdd, Int.reduceSub, Int.reduceMul, Nat.reducePow, Int.reduceNegSucc, w_rdr, rb.len, hl0, tmodN', hread_1 e1, wrapI, hk]
    refine idx_in (i := (p * 7 + 3) % l.length) eB_len rM rfl (Nat.mod_lt _ hpos) fun b2 o2 e2 => ?_
    have he2 : eB (l[(p * 7 + 3) % l.length]'(Nat.mod_lt _ hpos)) = [.int .u8 (l[(p * 7 + 3) % l.length]'(Nat.mod_lt _ hpos)).toNat] := rfl
    rw [he2] at e2
    have hy : (l[(p * 7 + 3) % l.length]'(Nat.mod_lt _ hpos)).toNat < 256 := UInt8.toNat_lt _
    generalize (l[(p * 7 + 3) % l.length]'(Nat.mod_lt _ hpos)).toNat = y at *
    have hd : p / l.length ≤ p := Nat.div_le_self _ _
    simp only [walk, lists, acts, mem, plain, seqs, maps, cells, resL, resV, intBin, ↓reduceIte, Nat.reduceAdd, Nat.reduceSub, Nat.reduceMul, Nat.reduceLeDiff, Nat.reduceEqDiff, Int.reduceToNat, Int.reduceEq, Int.reduceLT, Int.reduceLE, Int.reduceNeg, Int.reduceAdd, Int.reduceSub, Int.reduceMul, Nat.reducePow, Int.reduceNegSucc, w_rdr, rb.len, hl0, tdivN', hread_1 e2]
    generalize p / l.length = z at *
    have hX : (x : Int) * 131 + (y : Int) * 1117 + (p : Int) * 29 + (z : Int) * 53 = ((x * 131 + y * 1117 + p * 29 + z * 53 : Nat) : Int) := by omega
    have hXb : x * 131 + y * 1117 + p * 29 + z * 53 < 1125899906842624 := by omega
    simp (disch := omega) only [wrapI]
    rw [hX]
    generalize x * 131 + y * 1117 + p * 29 + z * 53 = X at *
    obtain ⟨c, hc, hcx⟩ := xor64 X (X / 64) hXb (by omega)
    have hn0 : ¬ n = 0 := by omega
    have h64 : ((X : Nat) : Int).tdiv 64 = ((X / 64 : Nat) : Int) := rfl
    simp (disch := omega) only [h64, wrapI, hcx, hn0, walk, lists, acts, mem, plain, seqs, maps, cells, resL, resV, intBin, ↓reduceIte, Nat.reduceAdd, Nat.reduceSub, Nat.reduceMul, Nat.reduceLeDiff, Nat.reduceEqDiff, Int.reduceToNat, Int.reduceEq, Int.reduceLT, Int.reduceLE, Int.reduceNeg, Int.reduceAdd, Int.reduceSub, Int.reduceMul, Nat.reducePow, Int.reduceNegSucc]
    have tm := tmodN c n (by omega)
    exact .of (k _ tm.1 (fun _ => tm.2) fun x => by omega)

/-- What is open for drawing: a reader in a block of its own. -/
theorem open_c {h : H} {b : Value} {l : List UInt8} (r : rIn h eB 1 b l) (hl : l.length ≤ 1048576) {R : Ending → H → Prop}
    (k : ∀ j bv (m : List UInt8), hget h j = none → rIn h eB 1 bv m → m.length ≤ 1048576 → R (.returned (.pointer (some ⟨j, 0, none⟩))) ((j, blk (rdr bv 0) 120) :: h)) :
    HCalls Try.prog 39 #[b] h R := by
  refine HCalls_ir (args := [b]) Try.func39 ir39 ?_
  simp only [walk, lists, acts, mem, plain, seqs, maps, cells, resL, resV, intBin, ↓reduceIte, Nat.reduceAdd, Nat.reduceSub, Nat.reduceMul, Nat.reduceLeDiff, Nat.reduceEqDiff, Int.reduceToNat, Int.reduceEq, Int.reduceLT, Int.reduceLE, Int.reduceNeg, Int.reduceAdd, Int.reduceSub, Int.reduceMul, Nat.reducePow, Int.reduceNegSucc, r.len]
  have one := r.one
  refine ite_lt (fun c => ?_) fun c => ?_
  · rcases r with r | ⟨rfl, _⟩
    · refine slc_pre eB_len r (by omega) (by omega) fun v' r' => ?_
      have one := rLs.one r'
      have vc := vcells_one one
      simp only [walk, lists, acts, mem, plain, seqs, maps, cells, resL, resV, intBin, ↓reduceIte, Nat.reduceAdd, Nat.reduceSub, Nat.reduceMul, Nat.reduceLeDiff, Nat.reduceEqDiff, Int.reduceToNat, Int.reduceEq, Int.reduceLT, Int.reduceLE, Int.reduceNeg, Int.reduceAdd, Int.reduceSub, Int.reduceMul, Nat.reducePow, Int.reduceNegSucc, vc]
      refine newB_intro (o := blk (rdr v' 0) 120) fun j hj => ?_
      simp only [walk, lists, acts, mem, plain, seqs, maps, cells, resL, resV, intBin, ↓reduceIte, Nat.reduceAdd, Nat.reduceSub, Nat.reduceMul, Nat.reduceLeDiff, Nat.reduceEqDiff, Int.reduceToNat, Int.reduceEq, Int.reduceLT, Int.reduceLE, Int.reduceNeg, Int.reduceAdd, Int.reduceSub, Int.reduceMul, Nat.reducePow, Int.reduceNegSucc]
      exact .of (k j v' _ hj (.inl r') (by rw [List.length_take]; omega))
    · simp at c
  · have vc := vcells_one one
    simp only [walk, lists, acts, mem, plain, seqs, maps, cells, resL, resV, intBin, ↓reduceIte, Nat.reduceAdd, Nat.reduceSub, Nat.reduceMul, Nat.reduceLeDiff, Nat.reduceEqDiff, Int.reduceToNat, Int.reduceEq, Int.reduceLT, Int.reduceLE, Int.reduceNeg, Int.reduceAdd, Int.reduceSub, Int.reduceMul, Nat.reducePow, Int.reduceNegSucc, vc]
    refine newB_intro (o := blk (rdr b 0) 120) fun j hj => ?_
    simp only [walk, lists, acts, mem, plain, seqs, maps, cells, resL, resV, intBin, ↓reduceIte, Nat.reduceAdd, Nat.reduceSub, Nat.reduceMul, Nat.reduceLeDiff, Nat.reduceEqDiff, Int.reduceToNat, Int.reduceEq, Int.reduceLT, Int.reduceLE, Int.reduceNeg, Int.reduceAdd, Int.reduceSub, Int.reduceMul, Nat.reducePow, Int.reduceNegSucc]
    exact .of (k j b l hj r hl)

theorem of_c {h : H} {j p : Nat} {bv : Value} {l : List UInt8} {lv : Value} {ts : List (List UInt8)} (hj : hget h j = none) (rb : rIn h eB 1 bv l) (hl : l.length ≤ 1048576) (hp : p ≤ 1099511627776) (rt : rLs h eT 1 lv ts) (h1 : 0 < ts.length) (h2 : ts.length ≤ 1000000) {R : Ending → H → Prop}
    (k : ∀ t ∈ ts, R (.returned (.string ⟨t.toArray⟩)) ((j, blk (rdr bv (p + 1)) 120) :: h)) :
    HCalls Try.prog 97 #[.pointer (some ⟨j, 0, none⟩), lv] ((j, blk (rdr bv p) 120) :: h) R := by
  refine HCalls_ir (args := [.pointer (some ⟨j, 0, none⟩), lv]) Try.func97 ir97 ?_
  have sj := fun o => Sub.cons (o := o) hj (Sub.refl h)
  simp only [walk, lists, acts, mem, plain, seqs, maps, cells, resL, resV, intBin, ↓reduceIte, Nat.reduceAdd, Nat.reduceSub, Nat.reduceMul, Nat.reduceLeDiff, Nat.reduceEqDiff, Int.reduceToNat, Int.reduceEq, Int.reduceLT, Int.reduceLE, Int.reduceNeg, Int.reduceAdd, Int.reduceSub, Int.reduceMul, Nat.reducePow, Int.reduceNegSucc, rt.len]
  refine pick_c hj rb hl hp (by omega) fun x hx0 hx1 _ => ?_
  simp only [walk, lists, acts, mem, plain, seqs, maps, cells, resL, resV, intBin, ↓reduceIte, Nat.reduceAdd, Nat.reduceSub, Nat.reduceMul, Nat.reduceLeDiff, Nat.reduceEqDiff, Int.reduceToNat, Int.reduceEq, Int.reduceLT, Int.reduceLE, Int.reduceNeg, Int.reduceAdd, Int.reduceSub, Int.reduceMul, Nat.reducePow, Int.reduceNegSucc]
  have hxl := hx1 (by omega)
  refine idx_leaf (i := x.toNat) eT_len (rt.sub (sj (blk (rdr bv (p + 1)) 120))) (by omega) (by omega) fun b o e => ?_
  simp only [eT] at e
  simp only [walk, lists, acts, mem, plain, seqs, maps, cells, resL, resV, intBin, ↓reduceIte, Nat.reduceAdd, Nat.reduceSub, Nat.reduceMul, Nat.reduceLeDiff, Nat.reduceEqDiff, Int.reduceToNat, Int.reduceEq, Int.reduceLT, Int.reduceLE, Int.reduceNeg, Int.reduceAdd, Int.reduceSub, Int.reduceMul, Nat.reducePow, Int.reduceNegSucc, hread_1 e]
  exact .of (k _ (List.getElem_mem _))
end Go.Proofs.Ytllhdnfcneejaaa
end

/- How the reference writes numbers. -/
section
set_option linter.unusedVariables false
set_option linter.unusedSimpArgs false
set_option maxRecDepth 20000
attribute [local irreducible] Go.Tk.vc Go.Tk.vops Go.Tk.vdr Go.Tk.vop Go.Tk.vfl Go.Tk.HCalls
namespace Go.Proofs.Ytllhdnfcneejaaa
open Go Go.Tk

theorem l6DecN_c : ∀ (n : Nat), n ≤ 9223372036854775807 → ∀ {h : H} {R : Ending → H → Prop}, R (.returned (.string ⟨(decN n).toArray⟩)) h → HCalls Try.prog 63 #[.int .i64 n] h R := by
  intro n
  induction n using Nat.strongRecOn with
  | _ n ih =>
    intro hn h R k
    refine HCalls_ir (args := [.int .i64 n]) Try.func63 ir63 ?_
    simp only [walk, lists, acts, mem, plain, seqs, maps, cells, resL, resV, intBin, ↓reduceIte, Nat.reduceAdd, Nat.reduceSub, Nat.reduceMul, Nat.reduceLeDiff, Nat.reduceEqDiff, Int.reduceToNat, Int.reduceEq, Int.reduceLT, Int.reduceLE, Int.reduceNeg, Int.reduceAdd, Int.reduceSub, Int.reduceMul, Nat.reducePow, Int.reduceNegSucc]
    refine ite_lt (fun c => absurd c (by omega)) fun _ => ?_
    refine ite_lt (fun c => absurd c (by omega)) fun _ => ?_
    refine ite_lt (fun c => ?_) fun c => ?_
    · have e1 : (48 : Int) + (n : Int) = ((48 + n : Nat) : Int) := by omega
      simp (disch := omega) only [walk, lists, acts, mem, plain, seqs, maps, cells, resL, resV, intBin, ↓reduceIte, Nat.reduceAdd, Nat.reduceSub, Nat.reduceMul, Nat.reduceLeDiff, Nat.reduceEqDiff, Int.reduceToNat, Int.reduceEq, Int.reduceLT, Int.reduceLE, Int.reduceNeg, Int.reduceAdd, Int.reduceSub, Int.reduceMul, Nat.reducePow, Int.reduceNegSucc, wrapI, e1, u8_of]
      refine newB_intro (o := blk (fl eB [UInt8.ofNat (48 + n)]) 5) fun j hj => ?_
      have bt := fun f => btos_rd (rB_lit (j := j) (e := 5) (h := h) [UInt8.ofNat (48 + n)]) (f := f)
      simp only [List.length_cons, List.length_nil, Nat.zero_add] at bt
      simp only [walk, lists, acts, mem, plain, seqs, maps, cells, resL, resV, intBin, ↓reduceIte, Nat.reduceAdd, Nat.reduceSub, Nat.reduceMul, Nat.reduceLeDiff, Nat.reduceEqDiff, Int.reduceToNat, Int.reduceEq, Int.reduceLT, Int.reduceLE, Int.reduceNeg, Int.reduceAdd, Int.reduceSub, Int.reduceMul, Nat.reducePow, Int.reduceNegSucc, bt]
      rw [decN_small (by omega)] at k
      exact ⟨h, Sub.cons hj (Sub.refl _), k⟩
    · refine vc_draw _ (Sub.refl _) ?_
      have e1 : ((n : Nat) : Int).tdiv 10 = ((n / 10 : Nat) : Int) := rfl
      have e2 : ((n : Nat) : Int).tmod 10 = ((n % 10 : Nat) : Int) := rfl
      have e3 : (48 : Int) + ((n % 10 : Nat) : Int) = ((48 + n % 10 : Nat) : Int) := by omega
      simp (disch := omega) only [walk, lists, acts, mem, plain, seqs, maps, cells, resL, resV, intBin, ↓reduceIte, Nat.reduceAdd, Nat.reduceSub, Nat.reduceMul, Nat.reduceLeDiff, Nat.reduceEqDiff, Int.reduceToNat, Int.reduceEq, Int.reduceLT, Int.reduceLE, Int.reduceNeg, Int.reduceAdd, Int.reduceSub, Int.reduceMul, Nat.reducePow, Int.reduceNegSucc, wrapI, e1, e2, e3, u8_of]
      refine pcall_intro (.string ⟨(decN (n / 10)).toArray⟩) (fun R r => ih (n / 10) (by omega) (by omega) r) ?_
      simp only [walk, lists, acts, mem, plain, seqs, maps, cells, resL, resV, intBin, ↓reduceIte, Nat.reduceAdd, Nat.reduceSub, Nat.reduceMul, Nat.reduceLeDiff, Nat.reduceEqDiff, Int.reduceToNat, Int.reduceEq, Int.reduceLT, Int.reduceLE, Int.reduceNeg, Int.reduceAdd, Int.reduceSub, Int.reduceMul, Nat.reducePow, Int.reduceNegSucc]
      refine newB_intro (o := blk (fl eB [UInt8.ofNat (48 + n % 10)]) 5) fun j hj => ?_
      have bt := fun f => btos_rd (rB_lit (j := j) (e := 5) (h := h) [UInt8.ofNat (48 + n % 10)]) (f := f)
      simp only [List.length_cons, List.length_nil, Nat.zero_add] at bt
      have hle := decN_len20 (n := n / 10) (by omega)
      have hsz : (decN (n / 10)).length + [UInt8.ofNat (48 + n % 10)].length ≤ 9223372036854775807 := by simp only [List.length_cons, List.length_nil]; omega
      have sj := Sub_new (o := blk (fl eB [UInt8.ofNat (48 + n % 10)]) 5) hj
      simp only [walk, lists, acts, mem, plain, seqs, maps, cells, resL, resV, intBin, ↓reduceIte, Nat.reduceAdd, Nat.reduceSub, Nat.reduceMul, Nat.reduceLeDiff, Nat.reduceEqDiff, Int.reduceToNat, Int.reduceEq, Int.reduceLT, Int.reduceLE, Int.reduceNeg, Int.reduceAdd, Int.reduceSub, Int.reduceMul, Nat.reducePow, Int.reduceNegSucc, sj, bt, str_add _ _ hsz]
      rw [decN_big (by omega)] at k
      exact ⟨h, Sub.cons hj (Sub.refl _), k⟩

theorem l6Dec_c {i : Int} (hi : -9223372036854775807 ≤ i ∧ i ≤ 9223372036854775807) {h : H} {R : Ending → H → Prop} (k : R (.returned (.string ⟨(decI i).toArray⟩)) h) : HCalls Try.prog 63 #[.int .i64 i] h R := by
  by_cases c : 0 ≤ i
  · have e : i = ((i.toNat : Nat) : Int) := by omega
    unfold decI at k
    rw [if_neg (by omega)] at k
    rw [e]
    exact l6DecN_c i.toNat (by omega) k
  · refine HCalls_ir (args := [.int .i64 i]) Try.func63 ir63 ?_
    simp only [walk, lists, acts, mem, plain, seqs, maps, cells, resL, resV, intBin, ↓reduceIte, Nat.reduceAdd, Nat.reduceSub, Nat.reduceMul, Nat.reduceLeDiff, Nat.reduceEqDiff, Int.reduceToNat, Int.reduceEq, Int.reduceLT, Int.reduceLE, Int.reduceNeg, Int.reduceAdd, Int.reduceSub, Int.reduceMul, Nat.reducePow, Int.reduceNegSucc]
    refine ite_lt (fun c => absurd c (by omega)) fun _ => ?_
    refine ite_lt (fun _ => ?_) fun c => absurd c (by omega)
    refine raw_neg (n := i) (by simp only [walk, lists, acts, mem, plain, seqs, maps, cells, resL, resV, intBin, ↓reduceIte, Nat.reduceAdd, Nat.reduceSub, Nat.reduceMul, Nat.reduceLeDiff, Nat.reduceEqDiff, Int.reduceToNat, Int.reduceEq, Int.reduceLT, Int.reduceLE, Int.reduceNeg, Int.reduceAdd, Int.reduceSub, Int.reduceMul, Nat.reducePow, Int.reduceNegSucc]) ?_
    have e : IntKind.i64.wrap (0 - i) = (((-i).toNat : Nat) : Int) := by rw [wrapI _ (by omega)]; omega
    simp only [walk, lists, acts, mem, plain, seqs, maps, cells, resL, resV, intBin, ↓reduceIte, Nat.reduceAdd, Nat.reduceSub, Nat.reduceMul, Nat.reduceLeDiff, Nat.reduceEqDiff, Int.reduceToNat, Int.reduceEq, Int.reduceLT, Int.reduceLE, Int.reduceNeg, Int.reduceAdd, Int.reduceSub, Int.reduceMul, Nat.reducePow, Int.reduceNegSucc, e]
    refine l6DecN_c (-i).toNat (by omega) ?_
    have hle := decN_len20 (n := (-i).toNat) (by omega)
    have hsz : ([45] : List UInt8).length + (decN (-i).toNat).length ≤ 9223372036854775807 := by simp only [List.length_cons, List.length_nil]; omega
    simp only [walk, lists, acts, mem, plain, seqs, maps, cells, resL, resV, intBin, ↓reduceIte, Nat.reduceAdd, Nat.reduceSub, Nat.reduceMul, Nat.reduceLeDiff, Nat.reduceEqDiff, Int.reduceToNat, Int.reduceEq, Int.reduceLT, Int.reduceLE, Int.reduceNeg, Int.reduceAdd, Int.reduceSub, Int.reduceMul, Nat.reducePow, Int.reduceNegSucc, str, str_add _ _ hsz]
    unfold decI at k
    rw [if_pos (by omega)] at k
    exact .of k
theorem l1Int_c {i : Int} (hi : -9223372036854775807 ≤ i ∧ i ≤ 9223372036854775807) {h : H} {R : Ending → H → Prop} (k : R (.returned (.string ⟨(decI i).toArray⟩)) h) : HCalls Try.prog 64 #[.int .i64 i] h R := by
  refine HCalls_ir (args := [.int .i64 i]) Try.func64 ir64 ?_
  simp only [walk, lists, acts, mem, plain, seqs, maps, cells, resL, resV, intBin, ↓reduceIte, Nat.reduceAdd, Nat.reduceSub, Nat.reduceMul, Nat.reduceLeDiff, Nat.reduceEqDiff, Int.reduceToNat, Int.reduceEq, Int.reduceLT, Int.reduceLE, Int.reduceNeg, Int.reduceAdd, Int.reduceSub, Int.reduceMul, Nat.reducePow, Int.reduceNegSucc]
  refine ite_lt (fun c => ?_) fun c => ?_
  · refine raw_neg (n := i) (by simp only [walk, lists, acts, mem, plain, seqs, maps, cells, resL, resV, intBin, ↓reduceIte, Nat.reduceAdd, Nat.reduceSub, Nat.reduceMul, Nat.reduceLeDiff, Nat.reduceEqDiff, Int.reduceToNat, Int.reduceEq, Int.reduceLT, Int.reduceLE, Int.reduceNeg, Int.reduceAdd, Int.reduceSub, Int.reduceMul, Nat.reducePow, Int.reduceNegSucc]) ?_
    have e : IntKind.i64.wrap (0 - i) = -i := by rw [wrapI _ (by omega)]; omega
    simp only [walk, lists, acts, mem, plain, seqs, maps, cells, resL, resV, intBin, ↓reduceIte, Nat.reduceAdd, Nat.reduceSub, Nat.reduceMul, Nat.reduceLeDiff, Nat.reduceEqDiff, Int.reduceToNat, Int.reduceEq, Int.reduceLT, Int.reduceLE, Int.reduceNeg, Int.reduceAdd, Int.reduceSub, Int.reduceMul, Nat.reducePow, Int.reduceNegSucc, e]
    refine l6Dec_c (by omega) ?_
    have hle := decI_len (i := -i) (by omega)
    have hsz : ([45] : List UInt8).length + (decI (-i)).length ≤ 9223372036854775807 := by simp only [List.length_cons, List.length_nil]; omega
    simp only [walk, lists, acts, mem, plain, seqs, maps, cells, resL, resV, intBin, ↓reduceIte, Nat.reduceAdd, Nat.reduceSub, Nat.reduceMul, Nat.reduceLeDiff, Nat.reduceEqDiff, Int.reduceToNat, Int.reduceEq, Int.reduceLT, Int.reduceLE, Int.reduceNeg, Int.reduceAdd, Int.reduceSub, Int.reduceMul, Nat.reducePow, Int.reduceNegSucc, str, str_add _ _ hsz]
    have e2 : decI i = 45 :: decI (-i) := by
      have e3 : decI i = 45 :: decN (-i).toNat := by unfold decI; rw [if_pos c]
      have e4 : decI (-i) = decN (-i).toNat := by unfold decI; rw [if_neg (by omega)]
      rw [e3, e4]
    rw [e2] at k
    exact .of k
  · refine l6Dec_c hi ?_
    simp only [walk, lists, acts, mem, plain, seqs, maps, cells, resL, resV, intBin, ↓reduceIte, Nat.reduceAdd, Nat.reduceSub, Nat.reduceMul, Nat.reduceLeDiff, Nat.reduceEqDiff, Int.reduceToNat, Int.reduceEq, Int.reduceLT, Int.reduceLE, Int.reduceNeg, Int.reduceAdd, Int.reduceSub, Int.reduceMul, Nat.reducePow, Int.reduceNegSucc]
    exact .of k
end Go.Proofs.Ytllhdnfcneejaaa
end

/- How the reference writes deals. -/
section
set_option linter.unusedVariables false
set_option linter.unusedSimpArgs false
set_option maxRecDepth 20000
attribute [local irreducible] Go.Tk.vc Go.Tk.vops Go.Tk.vdr Go.Tk.vop Go.Tk.vfl Go.Tk.HCalls
namespace Go.Proofs.Ytllhdnfcneejaaa
open Go Go.Tk

theorem cStatement_len (s : DStatement) : (cStatement s).length = 3 := rfl
theorem dealOk_c {h : H} {v : Value} {l : List DStatement} (r : rLs h cStatement 3 v l) (hl : l.length ≤ 1099511627776) {R : Ending → H → Prop} (k : Asks R (dealP l) h) : HCalls Try.prog 62 #[v] h R := by
  refine HCalls_ir (args := [v]) Try.func62 ir62 ?_
  have zs := zStatement_eq
  simp only [walk, lists, acts, mem, plain, seqs, maps, cells, resL, resV, intBin, ↓reduceIte, Nat.reduceAdd, Nat.reduceSub, Nat.reduceMul, Nat.reduceLeDiff, Nat.reduceEqDiff, Int.reduceToNat, Int.reduceEq, Int.reduceLT, Int.reduceLE, Int.reduceNeg, Int.reduceAdd, Int.reduceSub, Int.reduceMul, Nat.reducePow, Int.reduceNegSucc, r.len, zs]
  refine ite_lt (fun c => .of (k.no fun p => by have := p.1; omega)) fun c0 => ?_
  refine ite_lt (fun c => .of (k.no fun p => by have := p.2.1; omega)) fun c1 => ?_
  refine vc_loopS [3] (fun n vs h' => ∃ i : Nat, vs = [.int .i64 i] ∧ h' = h ∧ i ≤ l.length ∧ n = l.length - i ∧ allP stP (l.take i)) l.length rfl (Sub.refl _) ⟨0, rfl, rfl, by omega, by omega, allP_zero _ _⟩ ?_
  rintro n f h' ⟨i, hv, rfl, hi, rfl, ht⟩
  simp only [List.map_cons, List.map_nil, List.cons.injEq, and_true] at hv
  simp only [walk, lists, acts, mem, plain, seqs, maps, cells, resL, resV, intBin, ↓reduceIte, Nat.reduceAdd, Nat.reduceSub, Nat.reduceMul, Nat.reduceLeDiff, Nat.reduceEqDiff, Int.reduceToNat, Int.reduceEq, Int.reduceLT, Int.reduceLE, Int.reduceNeg, Int.reduceAdd, Int.reduceSub, Int.reduceMul, Nat.reducePow, Int.reduceNegSucc, wr, hv, r.len, zs]
  refine ite_lt (fun c2 => ?_) fun c2 => ?_
  · refine idx_leaf (i := i) cStatement_len r rfl (by omega) fun b1 o1 e1 => ?_
    simp only [walk, lists, acts, mem, plain, seqs, maps, cells, resL, resV, intBin, ↓reduceIte, Nat.reduceAdd, Nat.reduceSub, Nat.reduceMul, Nat.reduceLeDiff, Nat.reduceEqDiff, Int.reduceToNat, Int.reduceEq, Int.reduceLT, Int.reduceLE, Int.reduceNeg, Int.reduceAdd, Int.reduceSub, Int.reduceMul, Nat.reducePow, Int.reduceNegSucc, e1, zs]
    refine newB_intro fun j hj => ?_
    have hi2 : i < l.length := by omega
    obtain ⟨s, hs⟩ : ∃ s, s = l[i] := ⟨_, rfl⟩
    have sj := fun o => Sub.cons (o := o) hj (Sub.refl h')
    simp only [walk, lists, acts, mem, plain, seqs, maps, cells, resL, resV, intBin, ↓reduceIte, Nat.reduceAdd, Nat.reduceSub, Nat.reduceMul, Nat.reduceLeDiff, Nat.reduceEqDiff, Int.reduceToNat, Int.reduceEq, Int.reduceLT, Int.reduceLE, Int.reduceNeg, Int.reduceAdd, Int.reduceSub, Int.reduceMul, Nat.reducePow, Int.reduceNegSucc, wStatement, zs]
    have no : ¬ stP l[i] → ∀ o, dP R (.returned (.bool false)) ((j, o) :: h') := fun hn o => ⟨h', sj o, k.no fun p => hn (p.2.2 _ (List.getElem_mem hi2))⟩
    refine l6In_c fun b hb => ?_
    simp only [walk, lists, acts, mem, plain, seqs, maps, cells, resL, resV, intBin, ↓reduceIte, Nat.reduceAdd, Nat.reduceSub, Nat.reduceMul, Nat.reduceLeDiff, Nat.reduceEqDiff, Int.reduceToNat, Int.reduceEq, Int.reduceLT, Int.reduceLE, Int.reduceNeg, Int.reduceAdd, Int.reduceSub, Int.reduceMul, Nat.reducePow, Int.reduceNegSucc, wStatement]
    refine ite_f (fun e => no (fun p => not_b hb e p.1) _) fun e1 => ?_
    refine l6In_c fun b2 hb2 => ?_
    simp only [walk, lists, acts, mem, plain, seqs, maps, cells, resL, resV, intBin, ↓reduceIte, Nat.reduceAdd, Nat.reduceSub, Nat.reduceMul, Nat.reduceLeDiff, Nat.reduceEqDiff, Int.reduceToNat, Int.reduceEq, Int.reduceLT, Int.reduceLE, Int.reduceNeg, Int.reduceAdd, Int.reduceSub, Int.reduceMul, Nat.reducePow, Int.reduceNegSucc, wStatement]
    refine ite_f (fun e => no (fun p => not_b hb2 e p.2.1) _) fun e2 => ?_
    refine l1Val_c fun b3 hb3 => ?_
    simp only [walk, lists, acts, mem, plain, seqs, maps, cells, resL, resV, intBin, ↓reduceIte, Nat.reduceAdd, Nat.reduceSub, Nat.reduceMul, Nat.reduceLeDiff, Nat.reduceEqDiff, Int.reduceToNat, Int.reduceEq, Int.reduceLT, Int.reduceLE, Int.reduceNeg, Int.reduceAdd, Int.reduceSub, Int.reduceMul, Nat.reducePow, Int.reduceNegSucc, wStatement]
    refine ite_f (fun e => no (fun p => not_b hb3 e p.2.2.1) _) fun e3 => ?_
    have go : stP l[i] → ∀ o, ∃ m, m < l.length - i ∧ ∃ g, Tk.Sub g ((j, o) :: h') ∧ ∃ i' : Nat, [Value.int IntKind.i64 (IntKind.i64.wrap ((i : Int) + 1))] = [Value.int IntKind.i64 i'] ∧ g = h' ∧ i' ≤ l.length ∧ m = l.length - i' ∧ allP stP (l.take i') := fun p o =>
      ⟨l.length - (i + 1), by omega, h', sj o, i + 1, by simp (disch := omega) only [wrapI]; simp, rfl, by omega, rfl, allP_more (by omega) ht p⟩
    refine ite_pos (fun e4 => ?_) fun e4 => ?_
    · refine ite_pos (fun e5 => no (fun p => e5 (p.2.2.2 e4)) _) fun e5 => ?_
      exact go ⟨hb.1 e1, hb2.1 e2, hb3.1 e3, fun _ => Classical.not_not.1 e5⟩ _
    · exact go ⟨hb.1 e1, hb2.1 e2, hb3.1 e3, fun x => absurd x e4⟩ _
  · exact .of (k.yes ⟨by omega, by omega, allP_done (by omega) ht⟩)

theorem opName_at {n : Int} (h : 1 ≤ n ∧ n ≤ 4) : (fl eT [[], [103, 101, 116, 32], [112, 117, 116, 32], [97, 100, 100, 32], [110, 101, 101, 100, 32]])[n.toNat]? = some (.string ⟨(opName n).toArray⟩) := by
  have : n = 1 ∨ n = 2 ∨ n = 3 ∨ n = 4 := by omega
  rcases this with rfl | rfl | rfl | rfl <;> rfl
def dealT (l : List DStatement) (t : List UInt8) : Prop := (dealP l ∧ t = dealText l) ∨ (¬ dealP l ∧ t = [])
theorem dealT_len {l : List DStatement} {t : List UInt8} (h : dealT l t) : t.length ≤ 360 := by
  rcases h with ⟨p, rfl⟩ | ⟨_, rfl⟩
  · have := dealText_len p.2.2
    have := p.2.1
    omega
  · simp

theorem dealWrite_c {h : H} {v : Value} {l : List DStatement} (r : rLs h cStatement 3 v l) (hl : l.length ≤ 1099511627776) {R : Ending → H → Prop} (k : ∀ t, dealT l t → R (.returned (.string ⟨t.toArray⟩)) h) : HCalls Try.prog 23 #[v] h R := by
  refine HCalls_ir (args := [v]) Try.func23 ir23 ?_
  have zs := zStatement_eq
  simp only [walk, lists, acts, mem, plain, seqs, maps, cells, resL, resV, intBin, ↓reduceIte, Nat.reduceAdd, Nat.reduceSub, Nat.reduceMul, Nat.reduceLeDiff, Nat.reduceEqDiff, Int.reduceToNat, Int.reduceEq, Int.reduceLT, Int.reduceLE, Int.reduceNeg, Int.reduceAdd, Int.reduceSub, Int.reduceMul, Nat.reducePow, Int.reduceNegSucc, str, r.len, zs]
  refine dealOk_c r hl fun b hb => ?_
  simp only [walk, lists, acts, mem, plain, seqs, maps, cells, resL, resV, intBin, ↓reduceIte, Nat.reduceAdd, Nat.reduceSub, Nat.reduceMul, Nat.reduceLeDiff, Nat.reduceEqDiff, Int.reduceToNat, Int.reduceEq, Int.reduceLT, Int.reduceLE, Int.reduceNeg, Int.reduceAdd, Int.reduceSub, Int.reduceMul, Nat.reducePow, Int.reduceNegSucc]
  refine ite_f (fun e => .of (k [] (.inr ⟨not_b hb e, rfl⟩))) fun e => ?_
  have dp := hb.1 e
  have hl6 := dp.2.1
  refine vc_loopS [3, 4] (fun n vs h' => ∃ i : Nat, vs = [.string ⟨(dealText (l.take i)).toArray⟩, .int .i64 i] ∧ h' = h ∧ i ≤ l.length ∧ n = l.length - i) l.length rfl (Sub.refl _) ⟨0, by simp [dealText], rfl, by omega, by omega⟩ ?_
  rintro n f h' ⟨i, hv, rfl, hi, rfl⟩
  simp only [List.map_cons, List.map_nil, List.cons.injEq, and_true] at hv
  simp only [walk, lists, acts, mem, plain, seqs, maps, cells, resL, resV, intBin, ↓reduceIte, Nat.reduceAdd, Nat.reduceSub, Nat.reduceMul, Nat.reduceLeDiff, Nat.reduceEqDiff, Int.reduceToNat, Int.reduceEq, Int.reduceLT, Int.reduceLE, Int.reduceNeg, Int.reduceAdd, Int.reduceSub, Int.reduceMul, Nat.reducePow, Int.reduceNegSucc, wr, hv.1, hv.2, r.len, zs]
  refine ite_lt (fun c2 => ?_) fun c2 => ?_
  · refine idx_leaf (i := i) cStatement_len r rfl (by omega) fun b1 o1 e1 => ?_
    simp only [walk, lists, acts, mem, plain, seqs, maps, cells, resL, resV, intBin, ↓reduceIte, Nat.reduceAdd, Nat.reduceSub, Nat.reduceMul, Nat.reduceLeDiff, Nat.reduceEqDiff, Int.reduceToNat, Int.reduceEq, Int.reduceLT, Int.reduceLE, Int.reduceNeg, Int.reduceAdd, Int.reduceSub, Int.reduceMul, Nat.reducePow, Int.reduceNegSucc, e1, zs]
    refine newB_intro fun j hj => ?_
    have hi2 : i < l.length := by omega
    have sj := fun o => Sub.cons (o := o) hj (Sub.refl h')
    have st : stP l[i] := dp.2.2 _ (List.getElem_mem hi2)
    have hlen := dealText_len (l := l.take i) fun x hx => dp.2.2 x (List.mem_of_mem_take hx)
    rw [List.length_take] at hlen
    have hon := opName_len l[i].do_
    have hdk := decI_len (i := l[i].key) (by have := st.2.1; simp only [inP] at this; omega)
    have hdn := decI_len (i := l[i].num) (by have := st.2.2.1; simp only [valP, inP] at this; omega)
    have hdo := st.1
    simp only [inP] at hdo
    simp only [walk, lists, acts, mem, plain, seqs, maps, cells, resL, resV, intBin, ↓reduceIte, Nat.reduceAdd, Nat.reduceSub, Nat.reduceMul, Nat.reduceLeDiff, Nat.reduceEqDiff, Int.reduceToNat, Int.reduceEq, Int.reduceLT, Int.reduceLE, Int.reduceNeg, Int.reduceAdd, Int.reduceSub, Int.reduceMul, Nat.reducePow, Int.reduceNegSucc, wStatement, zs]
    refine vc_draw _ (Sub.refl _) ?_
    simp only [walk, lists, acts, mem, plain, seqs, maps, cells, resL, resV, intBin, ↓reduceIte, Nat.reduceAdd, Nat.reduceSub, Nat.reduceMul, Nat.reduceLeDiff, Nat.reduceEqDiff, Int.reduceToNat, Int.reduceEq, Int.reduceLT, Int.reduceLE, Int.reduceNeg, Int.reduceAdd, Int.reduceSub, Int.reduceMul, Nat.reducePow, Int.reduceNegSucc, wStatement]
    refine pcall_intro (.string ⟨(decI l[i].key).toArray⟩) (fun R r => l6Dec_c (by have := st.2.1; simp only [inP] at this; omega) r) ?_
    simp only [walk, lists, acts, mem, plain, seqs, maps, cells, resL, resV, intBin, ↓reduceIte, Nat.reduceAdd, Nat.reduceSub, Nat.reduceMul, Nat.reduceLeDiff, Nat.reduceEqDiff, Int.reduceToNat, Int.reduceEq, Int.reduceLT, Int.reduceLE, Int.reduceNeg, Int.reduceAdd, Int.reduceSub, Int.reduceMul, Nat.reducePow, Int.reduceNegSucc, str]
    refine newB_intro (o := blk (fl eT [[], [103, 101, 116, 32], [112, 117, 116, 32], [97, 100, 100, 32], [110, 101, 101, 100, 32]]) 9) fun j2 hj2 => ?_
    have sj2 := Sub_new (o := blk (fl eT [[], [103, 101, 116, 32], [112, 117, 116, 32], [97, 100, 100, 32], [110, 101, 101, 100, 32]]) 9) hj2
    simp only [walk, lists, acts, mem, plain, seqs, maps, cells, resL, resV, intBin, ↓reduceIte, Nat.reduceAdd, Nat.reduceSub, Nat.reduceMul, Nat.reduceLeDiff, Nat.reduceEqDiff, Int.reduceToNat, Int.reduceEq, Int.reduceLT, Int.reduceLE, Int.reduceNeg, Int.reduceAdd, Int.reduceSub, Int.reduceMul, Nat.reducePow, Int.reduceNegSucc, sj2]
    refine ⟨⟨by omega, by omega⟩, ?_⟩
    rw [opName_at hdo]
    have z1 : (dealText (l.take i)).length + (opName l[i].do_).length ≤ 9223372036854775807 := by omega
    have z2 : (dealText (l.take i) ++ opName l[i].do_).length + (decI l[i].key).length ≤ 9223372036854775807 := by rw [List.length_append]; omega
    have n2 := fresh hj2
    simp only [walk, lists, acts, mem, plain, seqs, maps, cells, resL, resV, intBin, ↓reduceIte, Nat.reduceAdd, Nat.reduceSub, Nat.reduceMul, Nat.reduceLeDiff, Nat.reduceEqDiff, Int.reduceToNat, Int.reduceEq, Int.reduceLT, Int.reduceLE, Int.reduceNeg, Int.reduceAdd, Int.reduceSub, Int.reduceMul, Nat.reducePow, Int.reduceNegSucc, sj2, str_add _ _ z1, str_add _ _ z2, wStatement, n2.1, n2.2.1]
    have go : ∀ t, t = dealText (l.take i) ++ stText l[i] → ∀ m, Tk.Sub h' m → ∃ m', m' < l.length - i ∧ ∃ g, Tk.Sub g m ∧ ∃ i' : Nat, [Value.string ⟨t.toArray⟩, Value.int IntKind.i64 (IntKind.i64.wrap ((i : Int) + 1))] = [Value.string ⟨(dealText (l.take i')).toArray⟩, Value.int IntKind.i64 i'] ∧ g = h' ∧ i' ≤ l.length ∧ m' = l.length - i' := fun t ht m hm =>
      ⟨l.length - (i + 1), by omega, h', hm, i + 1, by
        simp (disch := omega) only [wrapI]
        rw [ht, take_app_one hi2, dealText_app, dealText_one]; simp, rfl, by omega, rfl⟩
    have sM : Tk.Sub h' ((j2, blk (fl eT [[], [103, 101, 116, 32], [112, 117, 116, 32], [97, 100, 100, 32], [110, 101, 101, 100, 32]]) 9) :: (j, blk (cStatement l[i]) 85) :: h') := Sub.cons hj2 (sj _)
    obtain ⟨A, hA⟩ : ∃ A, A = dealText (l.take i) ++ opName l[i].do_ ++ decI l[i].key := ⟨_, rfl⟩
    have hAl : A.length ≤ 400 := by rw [hA]; simp only [List.length_append]; omega
    rw [← hA]
    refine ite_pos (fun c3 => ?_) fun c3 => ?_
    · have z3 : A.length + ([32] : List UInt8).length ≤ 9223372036854775807 := by simp only [List.length_cons, List.length_nil]; omega
      simp only [walk, lists, acts, mem, plain, seqs, maps, cells, resL, resV, intBin, ↓reduceIte, Nat.reduceAdd, Nat.reduceSub, Nat.reduceMul, Nat.reduceLeDiff, Nat.reduceEqDiff, Int.reduceToNat, Int.reduceEq, Int.reduceLT, Int.reduceLE, Int.reduceNeg, Int.reduceAdd, Int.reduceSub, Int.reduceMul, Nat.reducePow, Int.reduceNegSucc, str_add _ _ z3, wStatement, n2.1, n2.2.1]
      refine l1Int_c (by have := st.2.2.1; simp only [valP, inP] at this; omega) ?_
      have z4 : (A ++ [32]).length + (decI l[i].num).length ≤ 9223372036854775807 := by simp only [List.length_append, List.length_cons, List.length_nil]; omega
      have z5 : (A ++ [32] ++ decI l[i].num).length + ([59] : List UInt8).length ≤ 9223372036854775807 := by simp only [List.length_append, List.length_cons, List.length_nil]; omega
      simp only [walk, lists, acts, mem, plain, seqs, maps, cells, resL, resV, intBin, ↓reduceIte, Nat.reduceAdd, Nat.reduceSub, Nat.reduceMul, Nat.reduceLeDiff, Nat.reduceEqDiff, Int.reduceToNat, Int.reduceEq, Int.reduceLT, Int.reduceLE, Int.reduceNeg, Int.reduceAdd, Int.reduceSub, Int.reduceMul, Nat.reducePow, Int.reduceNegSucc, str_add _ _ z4, str_add _ _ z5]
      refine go _ ?_ _ sM
      rw [hA, stText, if_neg c3]; simp
    · have z5 : A.length + ([59] : List UInt8).length ≤ 9223372036854775807 := by simp only [List.length_cons, List.length_nil]; omega
      simp only [walk, lists, acts, mem, plain, seqs, maps, cells, resL, resV, intBin, ↓reduceIte, Nat.reduceAdd, Nat.reduceSub, Nat.reduceMul, Nat.reduceLeDiff, Nat.reduceEqDiff, Int.reduceToNat, Int.reduceEq, Int.reduceLT, Int.reduceLE, Int.reduceNeg, Int.reduceAdd, Int.reduceSub, Int.reduceMul, Nat.reducePow, Int.reduceNegSucc, str_add _ _ z5]
      refine go _ ?_ _ sM
      rw [hA, stText, if_pos (Classical.not_not.1 c3)]; simp
  · rw [List.take_of_length_le (by omega)]
    exact .of (k _ (.inl ⟨dp, rfl⟩))
end Go.Proofs.Ytllhdnfcneejaaa
end

/- The worlds at first, from which drawing begins. -/
section
set_option linter.unusedVariables false
set_option linter.unusedSimpArgs false
set_option maxRecDepth 20000
attribute [local irreducible] Go.Tk.vc Go.Tk.vops Go.Tk.vdr Go.Tk.vop Go.Tk.vfl Go.Tk.HCalls
namespace Go.Proofs.Ytllhdnfcneejaaa
open Go Go.Tk

def eLk (i : Int) : List Value := [.int .i64 i, .slice none 0 0, .slice none 0 0]
theorem eLk_len (i : Int) : (eLk i).length = 3 := rfl
theorem eLk_one (l : List Int) : (fl eLk l).all vone = true := by induction l <;> simp_all [fl, eLk, vone]
/-- Cells of which nothing is known. -/
def Raw (n : Nat) := {cs : List Value // cs.length = n ∧ cs.all vone = true}
def eR (n : Nat) (a : Raw n) : List Value := a.1
theorem eR_len (n : Nat) (a : Raw n) : (eR n a).length = n := a.2.1
theorem eR_one (n : Nat) (l : List (Raw n)) : (fl (eR n) l).all vone = true := by
  induction l with
  | nil => rfl
  | cons a l ih => rw [fl_cons, List.all_append, ih, show (eR n a).all vone = true from a.2.2]; rfl
theorem tLocks : Try.prog.underlying 171 = some (.slice 179) := by kernel_rfl
theorem iLock : InfoIs Try.prog 179 3 56 := infoB_is (by kernel_rfl)
theorem tHouses : Try.prog.underlying 159 = some (.slice 174) := by kernel_rfl
theorem iHouse : InfoIs Try.prog 174 6 96 := infoB_is (by kernel_rfl)
theorem tStatements : Try.prog.underlying 43 = some (.slice 85) := by kernel_rfl
theorem iStatement : InfoIs Try.prog 85 3 24 := infoB_is (by kernel_rfl)

theorem locks_c {h : H} {R : Ending → H → Prop} (k : ∀ v, vone v = true → R (.returned v) h) : HCalls Try.prog 103 #[] h R := by
  refine HCalls_ir (args := []) Try.func103 ir103 ?_
  simp only [walk, lists, acts, mem, plain, seqs, maps, cells, resL, resV, intBin, ↓reduceIte, Nat.reduceAdd, Nat.reduceSub, Nat.reduceMul, Nat.reduceLeDiff, Nat.reduceEqDiff, Int.reduceToNat, Int.reduceEq, Int.reduceLT, Int.reduceLE, Int.reduceNeg, Int.reduceAdd, Int.reduceSub, Int.reduceMul, Nat.reducePow, Int.reduceNegSucc]
  refine newB_intro (o := blk (fl eLk []) 179) fun j hj => ?_
  simp only [walk, lists, acts, mem, plain, seqs, maps, cells, resL, resV, intBin, ↓reduceIte, Nat.reduceAdd, Nat.reduceSub, Nat.reduceMul, Nat.reduceLeDiff, Nat.reduceEqDiff, Int.reduceToNat, Int.reduceEq, Int.reduceLT, Int.reduceLE, Int.reduceNeg, Int.reduceAdd, Int.reduceSub, Int.reduceMul, Nat.reducePow, Int.reduceNegSucc]
  have o1 : oLs 179 eLk 3 (.slice (some ⟨j, 0, none⟩) 0 0) [] [(j, blk (fl eLk []) 179)] := oLs_new eLk_len
  refine vc_loop [1, 2] (fun n vs h' => ∃ (i : Nat) (v' : Value) (l : List Int) (g : H), vs = [v', .int .i64 i] ∧ h' = g ++ h ∧ Dj g h ∧ oLs 179 eLk 3 v' l g ∧ l.length = i ∧ i ≤ 8 ∧ n = 8 - i) 8 rfl ⟨0, _, [], _, rfl, rfl, Dj.one hj, o1, rfl, by omega, rfl⟩ ?_
  rintro n f h' ⟨i, v', l, g, hv, rfl, dj, o, hl, hi, rfl⟩
  simp only [List.map_cons, List.map_nil, List.cons.injEq, and_true] at hv
  simp only [walk, lists, acts, mem, plain, seqs, maps, cells, resL, resV, intBin, ↓reduceIte, Nat.reduceAdd, Nat.reduceSub, Nat.reduceMul, Nat.reduceLeDiff, Nat.reduceEqDiff, Int.reduceToNat, Int.reduceEq, Int.reduceLT, Int.reduceLE, Int.reduceNeg, Int.reduceAdd, Int.reduceSub, Int.reduceMul, Nat.reducePow, Int.reduceNegSucc, wr, hv.1, hv.2]
  refine ite_lt (fun c => ?_) fun c => ?_
  · refine newB_intro (o := blk (fl eLk [(i : Int)]) 179) fun j2 hj2 => ?_
    simp only [walk, lists, acts, mem, plain, seqs, maps, cells, resL, resV, intBin, ↓reduceIte, Nat.reduceAdd, Nat.reduceSub, Nat.reduceMul, Nat.reduceLeDiff, Nat.reduceEqDiff, Int.reduceToNat, Int.reduceEq, Int.reduceLT, Int.reduceLE, Int.reduceNeg, Int.reduceAdd, Int.reduceSub, Int.reduceMul, Nat.reducePow, Int.reduceNegSucc]
    refine app_leaf (g := g) (h := h) (M := (j2, blk (fl eLk [(i : Int)]) 179) :: (g ++ h)) eLk_len eLk_one tLocks iLock (Sub.cons hj2 (Sub.refl _)) dj o (rL_lit eLk_len [(i : Int)]) (by simp; omega) (by simp; omega) fun v2 g2 o2 d2 => ?_
    simp (disch := omega) only [walk, lists, acts, mem, plain, seqs, maps, cells, resL, resV, intBin, ↓reduceIte, Nat.reduceAdd, Nat.reduceSub, Nat.reduceMul, Nat.reduceLeDiff, Nat.reduceEqDiff, Int.reduceToNat, Int.reduceEq, Int.reduceLT, Int.reduceLE, Int.reduceNeg, Int.reduceAdd, Int.reduceSub, Int.reduceMul, Nat.reducePow, Int.reduceNegSucc, wrapI]
    exact ⟨8 - (i + 1), by omega, _, .refl _, i + 1, v2, _, g2, by simp, rfl, d2, o2, by simp [hl], by omega, rfl⟩
  · exact ⟨h, Sub.right dj, k v' o.rd.one⟩

theorem houseStart_c {h : H} {i : Int} {R : Ending → H → Prop} (k : ∀ cs : List Value, cs.length = 6 → cs.all vone = true → R (.returned (.agg cs.toArray)) h) : HCalls Try.prog 102 #[.int .i64 i] h R := by
  refine HCalls_ir (args := [.int .i64 i]) Try.func102 ir102 ?_
  simp only [walk, lists, acts, mem, plain, seqs, maps, cells, resL, resV, intBin, ↓reduceIte, Nat.reduceAdd, Nat.reduceSub, Nat.reduceMul, Nat.reduceLeDiff, Nat.reduceEqDiff, Int.reduceToNat, Int.reduceEq, Int.reduceLT, Int.reduceLE, Int.reduceNeg, Int.reduceAdd, Int.reduceSub, Int.reduceMul, Nat.reducePow, Int.reduceNegSucc]
  refine newB_intro fun j hj => ?_
  have sj := fun o => Sub.cons (o := o) hj (Sub.refl h)
  simp only [walk, lists, acts, mem, plain, seqs, maps, cells, resL, resV, intBin, ↓reduceIte, Nat.reduceAdd, Nat.reduceSub, Nat.reduceMul, Nat.reduceLeDiff, Nat.reduceEqDiff, Int.reduceToNat, Int.reduceEq, Int.reduceLT, Int.reduceLE, Int.reduceNeg, Int.reduceAdd, Int.reduceSub, Int.reduceMul, Nat.reducePow, Int.reduceNegSucc]
  refine l12House_c fun b hb => ?_
  simp only [walk, lists, acts, mem, plain, seqs, maps, cells, resL, resV, intBin, ↓reduceIte, Nat.reduceAdd, Nat.reduceSub, Nat.reduceMul, Nat.reduceLeDiff, Nat.reduceEqDiff, Int.reduceToNat, Int.reduceEq, Int.reduceLT, Int.reduceLE, Int.reduceNeg, Int.reduceAdd, Int.reduceSub, Int.reduceMul, Nat.reducePow, Int.reduceNegSucc]
  refine ite_f (fun e => ?_) fun e => ?_
  · exact ⟨h, sj _, k _ rfl rfl⟩
  · refine locks_c fun v ov => ?_
    have vc := vcells_one ov
    simp only [walk, lists, acts, mem, plain, seqs, maps, cells, resL, resV, intBin, ↓reduceIte, Nat.reduceAdd, Nat.reduceSub, Nat.reduceMul, Nat.reduceLeDiff, Nat.reduceEqDiff, Int.reduceToNat, Int.reduceEq, Int.reduceLT, Int.reduceLE, Int.reduceNeg, Int.reduceAdd, Int.reduceSub, Int.reduceMul, Nat.reducePow, Int.reduceNegSucc, vc, ov]
    exact ⟨h, sj _, k _ rfl (by simp only [cells, ov])⟩

theorem gateStart_c {h : H} {R : Ending → H → Prop} (k : R (.returned (.agg [.bool true, .int .i64 1, .int .i64 1, .slice none 0 0, .slice none 0 0, .slice none 0 0].toArray)) h) : HCalls Try.prog 101 #[] h R := by
  refine HCalls_ir (args := []) Try.func101 ir101 ?_
  simp only [walk, lists, acts, mem, plain, seqs, maps, cells, resL, resV, intBin, ↓reduceIte, Nat.reduceAdd, Nat.reduceSub, Nat.reduceMul, Nat.reduceLeDiff, Nat.reduceEqDiff, Int.reduceToNat, Int.reduceEq, Int.reduceLT, Int.reduceLE, Int.reduceNeg, Int.reduceAdd, Int.reduceSub, Int.reduceMul, Nat.reducePow, Int.reduceNegSucc]
  refine newB_intro fun j hj => ?_
  simp only [walk, lists, acts, mem, plain, seqs, maps, cells, resL, resV, intBin, ↓reduceIte, Nat.reduceAdd, Nat.reduceSub, Nat.reduceMul, Nat.reduceLeDiff, Nat.reduceEqDiff, Int.reduceToNat, Int.reduceEq, Int.reduceLT, Int.reduceLE, Int.reduceNeg, Int.reduceAdd, Int.reduceSub, Int.reduceMul, Nat.reducePow, Int.reduceNegSucc]
  exact ⟨h, Sub.cons hj (Sub.refl h), k⟩

theorem splice_all {z cs : List Value} (h : cs.length = z.length) : splice z 0 cs = cs := by
  rw [splice_eq _ _ _ (by omega), h]; simp
def wb (v : Value) : List Value := [.int .i64 0, .bool true, .int .i64 1, .int .i64 1, .slice none 0 0, .slice none 0 0, .slice none 0 0, v, .slice none 0 0, .slice none 0 0]
theorem w_wb : (∀ v, (wb v).length = 10) ∧ (∀ v, (wb v)[7]? = some v) ∧ (∀ v w, splice (wb v) 7 [w] = wb w) ∧ (∀ v, ((wb v).drop 0).take 10 = wb v) ∧ (∀ v, (wb v).take 10 = wb v) ∧ (∀ v, (wb v).all vone = vone v) :=
  ⟨fun _ => rfl, fun _ => rfl, fun _ _ => rfl, fun _ => rfl, fun _ => rfl, fun v => by simp only [wb, cells]; cases vone v <;> rfl⟩
theorem tollStart_c {h : H} {R : Ending → H → Prop} (k : ∀ cs : List Value, cs.length = 10 → cs.all vone = true → R (.returned (.agg cs.toArray)) h) : HCalls Try.prog 99 #[] h R := by
  refine HCalls_ir (args := []) Try.func99 ir99 ?_
  simp only [walk, lists, acts, mem, plain, seqs, maps, cells, resL, resV, intBin, ↓reduceIte, Nat.reduceAdd, Nat.reduceSub, Nat.reduceMul, Nat.reduceLeDiff, Nat.reduceEqDiff, Int.reduceToNat, Int.reduceEq, Int.reduceLT, Int.reduceLE, Int.reduceNeg, Int.reduceAdd, Int.reduceSub, Int.reduceMul, Nat.reducePow, Int.reduceNegSucc]
  refine newB_intro fun j hj => ?_
  simp only [walk, lists, acts, mem, plain, seqs, maps, cells, resL, resV, intBin, ↓reduceIte, Nat.reduceAdd, Nat.reduceSub, Nat.reduceMul, Nat.reduceLeDiff, Nat.reduceEqDiff, Int.reduceToNat, Int.reduceEq, Int.reduceLT, Int.reduceLE, Int.reduceNeg, Int.reduceAdd, Int.reduceSub, Int.reduceMul, Nat.reducePow, Int.reduceNegSucc]
  refine gateStart_c ?_
  simp only [walk, lists, acts, mem, plain, seqs, maps, cells, resL, resV, intBin, ↓reduceIte, Nat.reduceAdd, Nat.reduceSub, Nat.reduceMul, Nat.reduceLeDiff, Nat.reduceEqDiff, Int.reduceToNat, Int.reduceEq, Int.reduceLT, Int.reduceLE, Int.reduceNeg, Int.reduceAdd, Int.reduceSub, Int.reduceMul, Nat.reducePow, Int.reduceNegSucc]
  refine newB_intro fun j2 hj2 => ?_
  have n2 := fresh hj2
  simp only [walk, lists, acts, mem, plain, seqs, maps, cells, resL, resV, intBin, ↓reduceIte, Nat.reduceAdd, Nat.reduceSub, Nat.reduceMul, Nat.reduceLeDiff, Nat.reduceEqDiff, Int.reduceToNat, Int.reduceEq, Int.reduceLT, Int.reduceLE, Int.reduceNeg, Int.reduceAdd, Int.reduceSub, Int.reduceMul, Nat.reducePow, Int.reduceNegSucc]
  obtain ⟨Z, hZ⟩ : ∃ Z : List Value, Z = [.int .i64 0, .bool false, .int .i64 0, .int .i64 0, .slice none 0 0, .slice none 0 0, .slice none 0 0, .slice none 0 0, .slice none 0 0, .slice none 0 0] := ⟨_, rfl⟩
  have hZl : Z.length = 10 := by rw [hZ]; rfl
  obtain ⟨N, hN⟩ : ∃ N, N = Value.slice none 0 0 := ⟨_, rfl⟩
  refine vc_loop [2] (fun n vs h' => ∃ (i : Nat) (v' : Value) (l : List (Raw 6)) (g : H), vs = [.int .i64 i] ∧ h' = g ++ ((j2, blk (wb v') 163) :: (j, blk Z 163) :: h) ∧ (∀ q, Dj g ((j2, blk (wb q) 163) :: (j, blk Z 163) :: h)) ∧ oLs 174 (eR 6) 6 v' l g ∧ l.length = i ∧ i ≤ 3 ∧ n = 3 - i) 3 rfl ⟨0, .slice none 0 0, [], [], rfl, by rw [hZ]; rfl, fun q => Dj.nil _, ows.nil _ _, rfl, by omega, rfl⟩ ?_
  rintro n f h' ⟨i, v', l, g, hv, rfl, dj, o, hl, hi, rfl⟩
  simp only [List.map_cons, List.map_nil, List.cons.injEq, and_true] at hv
  have d1 := dj v'
  have d2 := d1.symm
  simp only [subs] at d1 d2
  have ov := o.rd.one
  simp only [walk, lists, acts, mem, plain, seqs, maps, cells, resL, resV, intBin, ↓reduceIte, Nat.reduceAdd, Nat.reduceSub, Nat.reduceMul, Nat.reduceLeDiff, Nat.reduceEqDiff, Int.reduceToNat, Int.reduceEq, Int.reduceLT, Int.reduceLE, Int.reduceNeg, Int.reduceAdd, Int.reduceSub, Int.reduceMul, Nat.reducePow, Int.reduceNegSucc, wr, hv]
  refine ite_lt (fun c => ?_) fun c => ?_
  · refine vc_draw ((j2, blk (wb v') 163) :: (j, blk Z 163) :: h) (Sub.right (dj _)) ?_
    simp only [walk, lists, acts, mem, plain, seqs, maps, cells, resL, resV, intBin, ↓reduceIte, Nat.reduceAdd, Nat.reduceSub, Nat.reduceMul, Nat.reduceLeDiff, Nat.reduceEqDiff, Int.reduceToNat, Int.reduceEq, Int.reduceLT, Int.reduceLE, Int.reduceNeg, Int.reduceAdd, Int.reduceSub, Int.reduceMul, Nat.reducePow, Int.reduceNegSucc, w_wb]
    have sR := Sub.right (dj v')
    refine ⟨sR, houseStart_c fun cs hc1 hc2 => ?_⟩
    simp only [walk, lists, acts, mem, plain, seqs, maps, cells, resL, resV, intBin, ↓reduceIte, Nat.reduceAdd, Nat.reduceSub, Nat.reduceMul, Nat.reduceLeDiff, Nat.reduceEqDiff, Int.reduceToNat, Int.reduceEq, Int.reduceLT, Int.reduceLE, Int.reduceNeg, Int.reduceAdd, Int.reduceSub, Int.reduceMul, Nat.reducePow, Int.reduceNegSucc, sR, hc1]
    rw [splice_all (by rw [hc1]; rfl)]
    refine newB_intro (o := blk cs 174) fun j3 hj3 => ?_
    have sR3 := eq_true (Sub.cons (o := blk cs 174) hj3 sR)
    simp only [walk, lists, acts, mem, plain, seqs, maps, cells, resL, resV, intBin, ↓reduceIte, Nat.reduceAdd, Nat.reduceSub, Nat.reduceMul, Nat.reduceLeDiff, Nat.reduceEqDiff, Int.reduceToNat, Int.reduceEq, Int.reduceLT, Int.reduceLE, Int.reduceNeg, Int.reduceAdd, Int.reduceSub, Int.reduceMul, Nat.reducePow, Int.reduceNegSucc, sR3]
    obtain ⟨rc, hrc⟩ : ∃ rc : Raw 6, eR 6 rc = cs := ⟨⟨cs, hc1, hc2⟩, rfl⟩
    have hone : fl (eR 6) [rc] = cs := (fl_one _ _).trans hrc
    have r3 : rLs ((j3, blk cs 174) :: (g ++ ((j2, blk (wb v') 163) :: (j, blk Z 163) :: h))) (eR 6) 6 (.slice (some ⟨j3, 0, none⟩) 1 1) [rc] := by
      have := rL_lit (j := j3) (e := 174) (h := g ++ ((j2, blk (wb v') 163) :: (j, blk Z 163) :: h)) (eR_len 6) [rc]
      rw [hone] at this; exact this
    refine app_leaf (g := g) (h := (j2, blk (wb v') 163) :: (j, blk Z 163) :: h) (eR_len 6) (eR_one 6) tHouses iHouse (Sub.cons hj3 (Sub.refl _)) (dj _) o r3 (by simp; omega) (by simp; omega) fun v2 g2 o2 d3 => ?_
    have d3x := d3
    simp only [subs] at d3x
    have o2v := o2.rd.one
    have vc2 := vcells_one o2v
    simp only [walk, lists, acts, mem, plain, seqs, maps, cells, resL, resV, intBin, ↓reduceIte, Nat.reduceAdd, Nat.reduceSub, Nat.reduceMul, Nat.reduceLeDiff, Nat.reduceEqDiff, Int.reduceToNat, Int.reduceEq, Int.reduceLT, Int.reduceLE, Int.reduceNeg, Int.reduceAdd, Int.reduceSub, Int.reduceMul, Nat.reducePow, Int.reduceNegSucc, Sub.right d3, apps, d3x, w_wb, o2v, vc2]
    simp (disch := omega) only [walk, lists, acts, mem, plain, seqs, maps, cells, resL, resV, intBin, ↓reduceIte, Nat.reduceAdd, Nat.reduceSub, Nat.reduceMul, Nat.reduceLeDiff, Nat.reduceEqDiff, Int.reduceToNat, Int.reduceEq, Int.reduceLT, Int.reduceLE, Int.reduceNeg, Int.reduceAdd, Int.reduceSub, Int.reduceMul, Nat.reducePow, Int.reduceNegSucc, wrapI]
    refine ⟨3 - (i + 1), by omega, _, .refl _, i + 1, v2, _, g2, by simp, rfl, fun q => by simp only [subs, d3x], o2, by simp [hl], by omega, rfl⟩
  · have z10 : splice Z 0 (wb v') = wb v' := splice_all (by rw [hZl]; rfl)
    simp only [walk, lists, acts, mem, plain, seqs, maps, cells, resL, resV, intBin, ↓reduceIte, Nat.reduceAdd, Nat.reduceSub, Nat.reduceMul, Nat.reduceLeDiff, Nat.reduceEqDiff, Int.reduceToNat, Int.reduceEq, Int.reduceLT, Int.reduceLE, Int.reduceNeg, Int.reduceAdd, Int.reduceSub, Int.reduceMul, Nat.reducePow, Int.reduceNegSucc, apps, d1, w_wb, hZl, n2.1, n2.2.1, z10, ov]
    exact ⟨h, by (repeat' first | exact Sub.refl _ | exact Sub.nil _ | assumption | refine Sub.both ?_ ?_ | refine Sub.cons_of (by simp only [subs, d1, d2, hj, n2]) ?_ | exact Sub.left _ _ | refine Sub.app (by simp only [subs, d1, d2, hj, n2]) ?_ | refine Sub.cons (by simp only [subs, d1, d2, hj, n2]) ?_), k _ rfl (by rw [w_wb.2.2.2.2.2]; exact ov)⟩
end Go.Proofs.Ytllhdnfcneejaaa
end

/- Steps of drawing in any order. -/
section
set_option linter.unusedVariables false
set_option linter.unusedSimpArgs false
set_option maxRecDepth 20000
namespace Go.Proofs.Ytllhdnfcneejaaa
open Go Go.Tk

def qI (a b : Int) : H → Value → Prop := fun _ v => ∃ n : Int, v = .int .i64 n ∧ a ≤ n ∧ n ≤ b
def qZ : H → Value → Prop := fun _ v => ∃ n : Int, v = .int .i64 n
def qV (w : Value) : H → Value → Prop := fun _ v => v = w
def qB : H → Value → Prop := fun _ v => ∃ b : Bool, v = .bool b
def qS (T len : Nat) : H → Value → Prop := fun x v => ∃ (j : Nat) (l : List Int), v = .slice (some ⟨j, 0, none⟩) len len ∧ l.length = len ∧ hget x j = some (blk (fl eI l) T)
def qP : H → Value → Prop := fun x v => ∃ (b o : Nat) (n : Int), v = .pointer (some ⟨b, o, none⟩) ∧ hread x b o 1 = some [.int .i64 n]
def qN (rest : H) (jr T : Nat) (l : List Value) : H → Value → Prop := fun x v => ∃ j : Nat, v = .pointer (some ⟨j, 0, none⟩) ∧ hget x j = some (blk l T) ∧ hget rest j = none ∧ j ≠ jr
def mono (q : H → Value → Prop) : Prop := ∀ g g' v, Tk.Sub g g' → q g v → q g' v
theorem mono_qI (a b : Int) : mono (qI a b) := fun _ _ _ _ h => h
theorem mono_qZ : mono qZ := fun _ _ _ _ h => h
theorem mono_qV (w : Value) : mono (qV w) := fun _ _ _ _ h => h
theorem mono_qB : mono qB := fun _ _ _ _ h => h
theorem mono_qS (T len : Nat) : mono (qS T len) := fun _ _ _ s ⟨j, l, a, b, c⟩ => ⟨j, l, a, b, s _ _ c⟩
theorem mono_qP : mono qP := fun _ _ _ s ⟨b, o, n, h1, h2⟩ => ⟨b, o, n, h1, hread_sub s h2⟩
theorem mono_qN (rest : H) (jr T : Nat) (l : List Value) : mono (qN rest jr T l) := fun _ _ _ s ⟨j, a, b, c⟩ => ⟨j, a, s _ _ b, c⟩

theorem ndr : (nds [] = []) ∧ (∀ d g i l, nds (⟨some d, g, i⟩ :: l) = d :: nds l) ∧ (∀ g i l, nds (⟨none, g, i⟩ :: l) = nds l) := ⟨rfl, fun _ _ _ _ => rfl, fun _ _ _ => rfl⟩
def qSt : H → Value → Prop := fun _ v => ∃ s : DStatement, v = .agg (cStatement s).toArray
theorem mono_qSt : mono qSt := fun _ _ _ _ h => h
/-- What is kept while drawing: the reader, and a part that grows. -/
def memR (jr : Nat) (bv : Value) (p P : Nat) : Nat → H → H → Prop := fun m h g => ∃ q, Tk.Sub ((jr, blk (rdr bv q) 120) :: g) h ∧ hget g jr = none ∧ q + m ≤ P ∧ p ≤ q
theorem memR.sub {jr : Nat} {bv : Value} {p P m : Nat} {h g : H} (x : memR jr bv p P m h g) : Tk.Sub g h := by
  obtain ⟨q, s, hn, _⟩ := x
  exact (Sub.cons hn (Sub.refl g)).trans s
theorem memR.next {jr : Nat} {bv : Value} {p P m : Nat} {h g : H} (x : memR jr bv p P (m + 1) h g) : memR jr bv p P m h g := by
  obtain ⟨q, s, hn, h1, h2⟩ := x
  exact ⟨q, s, hn, by omega, h2⟩

section
variable {jr p P : Nat} {bv : Value} {rest : H} {ρ : (Nat → Value) → Operand → Value} {D : H → (Nat → Value) → Prop} {q : H → Value → Prop}

theorem sA_mov {x : Operand} (k : ∀ f g, Tk.Sub rest g → D g f → q g (ρ f x)) : stA Try.prog (memR jr bv p P) q rest ρ D (.mov x) :=
  fun m f h g hm hs hd => ⟨g, hm.next, Sub.refl _, k f g hs hd⟩
theorem sA_nilc {x : Operand} (k : ∀ f g, Tk.Sub rest g → D g f → ∃ a, ρ f x = .pointer (some a) ∧ q g (.pointer (some a))) : stA Try.prog (memR jr bv p P) q rest ρ D (.nilc x) := fun m f h g hm hs hd => by
  obtain ⟨a, e, hq⟩ := k f g hs hd
  show (match ρ f x with | .pointer (some a) => _ | .func (.func f) fi ca => _ | _ => _)
  rw [e]
  exact ⟨g, hm.next, Sub.refl _, hq⟩
theorem sA_fld {x : Operand} {off : Nat} (k : ∀ f g, Tk.Sub rest g → D g f → ∃ b o, ρ f x = .pointer (some ⟨b, o, none⟩) ∧ q g (.pointer (some ⟨b, o + off, none⟩))) : stA Try.prog (memR jr bv p P) q rest ρ D (.fld x off) := fun m f h g hm hs hd => by
  obtain ⟨b, o, e, hq⟩ := k f g hs hd
  show (match ρ f x with | .pointer (some ⟨b, k, none⟩) => _ | _ => _)
  rw [e]
  exact ⟨g, hm.next, Sub.refl _, hq⟩
theorem sA_load {x : Operand} (k : ∀ f g, Tk.Sub rest g → D g f → ∃ b o v, ρ f x = .pointer (some ⟨b, o, none⟩) ∧ hcel g b o = some v ∧ q g v) : stA Try.prog (memR jr bv p P) q rest ρ D (.load x 1 false) := fun m f h g hm hs hd => by
  obtain ⟨b, o, v, e, hc, hq⟩ := k f g hs hd
  show (match ρ f x with | .pointer (some ⟨b, k, none⟩) => (match hval h b k 1 false with | some v => _ | none => False) | _ => False)
  rw [e]
  have : hval h b o 1 false = some v := hcel_sub hm.sub hc
  simp only [this]
  exact ⟨g, hm.next, Sub.refl _, hq⟩
theorem sA_bin {op : BinOp} {t : TypeId} {x y : Operand} (k : ∀ f g, Tk.Sub rest g → D g f → ∃ (a b : Int) (v : Value), ρ f x = .int .i64 a ∧ ρ f y = .int .i64 b ∧ intBin op .i64 a b = some v ∧ q g v) : stA Try.prog (memR jr bv p P) q rest ρ D (.bin op t x y) := fun m f h g hm hs hd => by
  obtain ⟨a, b, v, e1, e2, hv, hq⟩ := k f g hs hd
  show vop _ _ _ _ _ _
  unfold vop
  simp only [e1, e2, hv]
  exact ⟨.inl trivial, g, hm.next, Sub.refl _, hq⟩
theorem sA_pick {l : List UInt8} (rb : rIn rest eB 1 bv l) (hl : l.length ≤ 1048576) (hP : P ≤ 1099511627776) {x y : Operand} {n : Int} (hn : 1 ≤ n ∧ n ≤ 1000000) (k : ∀ f g, Tk.Sub rest g → D g f → ρ f x = .pointer (some ⟨jr, 0, none⟩) ∧ ρ f y = .int .i64 n) (hq : ∀ g m, 0 ≤ m → m < n → q g (.int .i64 m)) :
    stA Try.prog (memR jr bv p P) q rest ρ D (.call 61 [x, y]) := fun m f h g hm hs hd => by
  obtain ⟨e1, e2⟩ := k f g hs hd
  obtain ⟨r, s, hj, h1, h2⟩ := hm
  show HCalls _ _ _ _ _
  simp only [List.map_cons, List.map_nil, e1, e2]
  refine (pick_c hj (rb.sub hs) hl (by omega) (by omega) fun z hz0 hz1 _ => ?_).weaken s
  exact ⟨g, ⟨r + 1, Sub.refl _, hj, by omega, by omega⟩, Sub.refl _, hq g z hz0 (hz1 hn.1)⟩
theorem sA_ints {e len : Nat} {ps : List (Nat × Nat × Operand)} (k : ∀ f g, Tk.Sub rest g → D g f → ∃ l : List Int, l.length = len ∧ fillL (zrep [.int .i64 0] len) (ps.map fun p => (p.1, p.2.1, vcells (ρ f p.2.2))) = some (fl eI l)) :
    stA Try.prog (memR jr bv p P) (qS e len) rest ρ D (.bslice e [.int .i64 0] len ps) := fun m f h g hm hs hd => by
  obtain ⟨l, hl, hf⟩ := k f g hs hd
  show vop _ _ _ _ _ _
  unfold vop
  simp only [hf]
  intro j hj
  obtain ⟨r, s, hr, h1, h2⟩ := hm
  have hjg : hget ((jr, blk (rdr bv r) 120) :: g) j = none := s.none' hj
  have n := fresh hjg
  refine ⟨(j, blk (fl eI l) e) :: g, ⟨r, ?_, ?_, by omega, h2⟩, Sub.cons n.2.2 (Sub.refl _), j, l, rfl, hl, hget_same _ _ _⟩
  · have e1 : hget h jr = some (blk (rdr bv r) 120) := s _ _ (hget_same _ _ _)
    refine Sub.cons_of ?_ (Sub.cons2 ((Sub.cons hr (Sub.refl g)).trans s))
    rw [hget_next _ _ _ n.1]; exact e1
  · simp only [subs, n.1, hr]
theorem sA_idx {x i : Operand} (k : ∀ f g, Tk.Sub rest g → D g f → ∃ (T len j : Nat) (l : List Int) (n : Int), ρ f x = .slice (some ⟨j, 0, none⟩) len len ∧ l.length = len ∧ hget g j = some (blk (fl eI l) T) ∧ ρ f i = .int .i64 n ∧ 0 ≤ n ∧ n < len) :
    stA Try.prog (memR jr bv p P) qP rest ρ D (.idxS x i 1) := fun m f h g hm hs hd => by
  obtain ⟨T, len, j, l, n, e1, hl, hg, e2, h0, h1⟩ := k f g hs hd
  show vop _ _ _ _ _ _
  unfold vop
  simp only [e1, e2]
  refine ⟨⟨h0, h1⟩, g, hm.next, Sub.refl _, j, 0 + n.toNat * 1, l[n.toNat]'(by omega), rfl, ?_⟩
  unfold hread
  rw [hg]
  simp only [Option.bind_some, rdObj_blk]
  have hf := fl_len eI_len l
  rw [if_pos (by omega), Nat.zero_add]
  have := fl_at (enc := eI) (sz := 1) eI_len (l := l) (i := n.toNat) (by omega)
  rw [this]; rfl
theorem sA_build {z : List Value} {ps : List (Nat × Nat × Operand)} (k : ∀ f g, Tk.Sub rest g → D g f → ∃ l, fillL z (ps.map fun p => (p.1, p.2.1, vcells (ρ f p.2.2))) = some l ∧ q g (.agg l.toArray)) : stA Try.prog (memR jr bv p P) q rest ρ D (.build z ps) := fun m f h g hm hs hd => by
  obtain ⟨l, hf, hq⟩ := k f g hs hd
  show vop _ _ _ _ _ _
  unfold vop
  simp only [hf]
  exact ⟨g, hm.next, Sub.refl _, hq⟩
theorem sA_alloc {e : Nat} {z : List Value} : stA Try.prog (memR jr bv p P) (qN rest jr e z) rest ρ D (.alloc e z) := fun m f h g hm hs hd => by
  show ∀ j, hget h j = none → _
  intro j hj
  obtain ⟨r, s, hr, h1, h2⟩ := hm
  have hjg : hget ((jr, blk (rdr bv r) 120) :: g) j = none := s.none' hj
  have n := fresh hjg
  refine ⟨(j, blk z e) :: g, ⟨r, ?_, ?_, by omega, h2⟩, Sub.cons n.2.2 (Sub.refl _), j, rfl, hget_same _ _ _, hs.none' n.2.2, n.2.1⟩
  · have e1 : hget h jr = some (blk (rdr bv r) 120) := s _ _ (hget_same _ _ _)
    refine Sub.cons_of ?_ (Sub.cons2 ((Sub.cons hr (Sub.refl g)).trans s))
    rw [hget_next _ _ _ n.1]; exact e1
  · simp only [subs, n.1, hr]
end
end Go.Proofs.Ytllhdnfcneejaaa
end
