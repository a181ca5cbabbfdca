/- How the program writes words. -/
import Derived.Test.YtllhdnfcneejaaaT18
set_option linter.unusedVariables false
set_option linter.unusedSimpArgs false
set_option maxRecDepth 20000
attribute [local irreducible] Go.Tk.vc Go.Tk.vops Go.Tk.vdr Go.Tk.vop Go.Tk.vfl Go.Tk.HCalls
namespace Go.Proofs.Ytllhdnfcneejaaa
open Go Go.Tk

theorem implPack_c {h : H} {w : DWord} {s p v : Value} (r : sWord h w s p v) (hw : wLen w) {R : Ending → H → Prop}
    (kok : wordP w → ∀ v' g', oLs 5 eB 1 v' (pack w) g' → Dj g' h → R (.returned v') (g' ++ h))
    (kno : ¬ wordP w → R (.returned (.slice none 0 0)) h) :
    HCalls Try.prog 18 #[.agg (cWord w s p v).toArray] h R := by
  refine HCalls_ir (args := [.agg (cWord w s p v).toArray]) Try.func18 ir18 ?_
  have zc := zCall_eq
  simp only [str] at zc
  simp only [walk, lists, acts, mem, plain, seqs, maps, cells, resL, resV, intBin, ↓reduceIte, Nat.reduceAdd, Nat.reduceSub, Nat.reduceMul, Nat.reduceLeDiff, Nat.reduceEqDiff, Int.reduceToNat, Int.reduceEq, Int.reduceLT, Int.reduceLE, Int.reduceNeg, Int.reduceAdd, Int.reduceSub, Int.reduceMul, Nat.reducePow, Int.reduceNegSucc, str, zc, wWord]
  refine newB_intro fun j hj => ?_
  have sj := fun o => Sub.cons (o := o) hj (Sub.refl h)
  simp only [walk, lists, acts, mem, plain, seqs, maps, cells, resL, resV, intBin, ↓reduceIte, Nat.reduceAdd, Nat.reduceSub, Nat.reduceMul, Nat.reduceLeDiff, Nat.reduceEqDiff, Int.reduceToNat, Int.reduceEq, Int.reduceLT, Int.reduceLE, Int.reduceNeg, Int.reduceAdd, Int.reduceSub, Int.reduceMul, Nat.reducePow, Int.reduceNegSucc, zc, wWord]
  refine implWordOk_c (w := w) ⟨r.1.sub (sj _), r.2.1.sub (sj _), r.2.2.sub (sj _)⟩ hw fun b hb => ?_
  simp only [walk, lists, acts, mem, plain, seqs, maps, cells, resL, resV, intBin, ↓reduceIte, Nat.reduceAdd, Nat.reduceSub, Nat.reduceMul, Nat.reduceLeDiff, Nat.reduceEqDiff, Int.reduceToNat, Int.reduceEq, Int.reduceLT, Int.reduceLE, Int.reduceNeg, Int.reduceAdd, Int.reduceSub, Int.reduceMul, Nat.reducePow, Int.reduceNegSucc, zc, wWord, wCall]
  refine ite_f (fun e => ⟨h, sj _, kno (not_b hb e)⟩) fun e => ?_
  have ok := hb.1 e
  refine newB_intro fun jp hjp => ?_
  have n1 := fresh hjp
  simp only [walk, lists, acts, mem, plain, seqs, maps, cells, resL, resV, intBin, ↓reduceIte, Nat.reduceAdd, Nat.reduceSub, Nat.reduceMul, Nat.reduceLeDiff, Nat.reduceEqDiff, Int.reduceToNat, Int.reduceEq, Int.reduceLT, Int.reduceLE, Int.reduceNeg, Int.reduceAdd, Int.reduceSub, Int.reduceMul, Nat.reducePow, Int.reduceNegSucc, zc, wWord, wCall, n1.1, n1.2.1]
  refine ite_b (fun ey => ?_) fun ey => ?_
  · have hy : (1 : Int) = yesN w.yes := by rw [ey]; rfl
    refine newB_intro fun j2 hj2 => ?_
    have n2 := fresh hj2
    have n2' := fresh n2.2.2
    simp only [walk, lists, acts, mem, plain, seqs, maps, cells, resL, resV, intBin, ↓reduceIte, Nat.reduceAdd, Nat.reduceSub, Nat.reduceMul, Nat.reduceLeDiff, Nat.reduceEqDiff, Int.reduceToNat, Int.reduceEq, Int.reduceLT, Int.reduceLE, Int.reduceNeg, Int.reduceAdd, Int.reduceSub, Int.reduceMul, Nat.reducePow, Int.reduceNegSucc, zc, wWord, wCall, n2.1, n2.2.1, n2'.1, n2'.2.1, n1.1, n1.2.1]
    refine newB_intro (o := blk (fl eI [w.kind, w.from_, w.to, w.stamp, w.try_, w.what, 1, w.code]) 3) fun j3 hj3 => ?_
    have n3 := fresh hj3
    have n3' := fresh n3.2.2
    have n3'' := fresh n3'.2.2
    simp only [walk, lists, acts, mem, plain, seqs, maps, cells, resL, resV, intBin, ↓reduceIte, Nat.reduceAdd, Nat.reduceSub, Nat.reduceMul, Nat.reduceLeDiff, Nat.reduceEqDiff, Int.reduceToNat, Int.reduceEq, Int.reduceLT, Int.reduceLE, Int.reduceNeg, Int.reduceAdd, Int.reduceSub, Int.reduceMul, Nat.reducePow, Int.reduceNegSucc, zc, wWord, wCall, n2.1, n2.2.1, n2'.1, n2'.2.1, n1.1, n1.2.1]
    obtain ⟨hB, ehB⟩ : ∃ hB, hB = (j2, blk (cCall w.call) 26) :: (j, blk (cWord w s p v) 28) :: h := ⟨_, rfl⟩
    have rj : ∀ k, hcel hB j k = (cWord w s p v)[k]? := fun k => by rw [ehB, hcel_next _ _ _ _ n2'.1, hcel_same]
    have rc : ∀ k, hcel hB j2 k = (cCall w.call)[k]? := fun k => by rw [ehB, hcel_same]
    have hjpB : hget hB jp = none := by rw [ehB]; simp only [subs, n1, n2, n2', hjp]
    have hj3B : hget hB j3 = none := by rw [ehB]; simp only [subs, n3, n3', n3'']
    have hjB : hget hB j ≠ none := by rw [ehB, hget_next _ _ _ n2'.1, hget_same]; simp
    have hj2B : hget hB j2 ≠ none := by rw [ehB, hget_same]; simp
    have sB : Tk.Sub h hB := by rw [ehB]; exact Sub.cons (by simp only [subs, n2', n2, hjp]) (sj _)
    have rs : sWord hB w s p v := sWord.sub sB r
    have sm := headW_small ok
    have sm1 : allP smallP [w.kind, w.from_, w.to, w.stamp, w.try_, w.what, 1, w.code] := fun x hx => sm x (by rw [headW, ← hy]; simp only [List.mem_cons, List.not_mem_nil, or_false] at hx ⊢; rcases hx with h | h | h | h | h | h | h | h <;> simp [h])
    have sm2 : allP smallP [w.call.session, w.call.number, w.call.kind, w.call.slot, w.call.to, (w.call.text.length : Int)] := fun x hx => sm x (by rw [headW]; simp only [List.mem_cons, List.not_mem_nil, or_false] at hx ⊢; rcases hx with h | h | h | h | h | h <;> simp [h])
    have jpn : jp ≠ j3 ∧ j3 ≠ jp := ⟨n3'.1, n3'.2.1⟩
    refine HCalls.drop ((penNumbers_c (pv := .slice none 0 0) (l := []) (g := []) (h := (j3, blk (fl eI [w.kind, w.from_, w.to, w.stamp, w.try_, w.what, 1, w.code]) 3) :: hB) (ows.nil _ _) (fun q => Dj.nil _) (by simp only [subs, jpn, hjpB]) (rI_lit [w.kind, w.from_, w.to, w.stamp, w.try_, w.what, 1, w.code]) (by simp) sm1 (by simp) fun pv1 g1 o1 d1 => ⟨g1 ++ ((jp, blk [pv1] 75) :: hB), ?_, ?_⟩).weaken ?_)
    · rw [ehB]
      simp only [List.nil_append]
      (repeat' first | exact Sub.refl _ | exact Sub.nil _ | assumption | refine Sub.both ?_ ?_ | refine Sub.cons_of (by simp only [subs, n1, n2, n2', n3, n3', n3'', jpn, hj, hjp]) ?_ | exact Sub.left _ _ | refine Sub.app (by simp only [subs, n1, n2, n2', n3, n3', n3'', jpn, hj, hjp]) ?_ | refine Sub.cons (by simp only [subs, n1, n2, n2', n3, n3', n3'', jpn, hj, hjp]) ?_)
    · have e1 := d1 pv1
      simp only [subs] at e1
      (repeat' first | exact Sub.refl _ | exact Sub.nil _ | assumption | refine Sub.both ?_ ?_ | refine Sub.cons_of (by simp only [subs, e1, jpn, hjpB, hj3B]) ?_ | exact Sub.left _ _ | refine Sub.app (by simp only [subs, e1, jpn, hjpB, hj3B]) ?_ | refine Sub.cons (by simp only [subs, e1, jpn, hjpB, hj3B]) ?_)
    have dB : ∀ {g : H}, (∀ q, Dj g ((jp, blk [q] 75) :: (j3, blk (fl eI [w.kind, w.from_, w.to, w.stamp, w.try_, w.what, 1, w.code]) 3) :: hB)) → ∀ q, Dj g ((jp, blk [q] 75) :: hB) := fun d q => by
      have := d q
      simp only [subs] at this ⊢
      exact ⟨this.1, this.2.2⟩
    have gj2 : ∀ {g : H}, (∀ q, Dj g ((jp, blk [q] 75) :: hB)) → hget g j2 = none ∧ hget g j = none ∧ hget g jp = none ∧ Dj g hB := fun d => by
      have := d (.slice none 0 0)
      simp only [subs] at this
      exact ⟨this.2.of hj2B, this.2.of hjB, this.1, this.2⟩
    have dB1 := dB d1
    have x1 := gj2 dB1
    have njp : j ≠ jp ∧ jp ≠ j ∧ jp ≠ j2 ∧ j2 ≠ jp := ⟨n1.1, n1.2.1, n2.1, n2.2.1⟩
    simp only [walk, lists, acts, mem, plain, seqs, maps, cells, resL, resV, intBin, ↓reduceIte, Nat.reduceAdd, Nat.reduceSub, Nat.reduceMul, Nat.reduceLeDiff, Nat.reduceEqDiff, Int.reduceToNat, Int.reduceEq, Int.reduceLT, Int.reduceLE, Int.reduceNeg, Int.reduceAdd, Int.reduceSub, Int.reduceMul, Nat.reducePow, Int.reduceNegSucc, apps, x1, njp, rj, rc, wWord, wCall]
    refine newB_intro (o := blk (fl eI [w.call.session, w.call.number, w.call.kind, w.call.slot, w.call.to, (w.call.text.length : Int)]) 3) fun j5 hj5 => ?_
    simp only [subs] at hj5
    have jp5 : jp ≠ j5 := Ne.symm hj5.2.1
    simp only [walk, lists, acts, mem, plain, seqs, maps, cells, resL, resV, intBin, ↓reduceIte, Nat.reduceAdd, Nat.reduceSub, Nat.reduceMul, Nat.reduceLeDiff, Nat.reduceEqDiff, Int.reduceToNat, Int.reduceEq, Int.reduceLT, Int.reduceLE, Int.reduceNeg, Int.reduceAdd, Int.reduceSub, Int.reduceMul, Nat.reducePow, Int.reduceNegSucc]
    have hle1 := encIs_len sm1
    refine HCalls.drop ((penNumbers_c (g := g1) (h := (j5, blk (fl eI [w.call.session, w.call.number, w.call.kind, w.call.slot, w.call.to, (w.call.text.length : Int)]) 3) :: hB) o1 (fun q => by simp only [subs, x1, hj5]) (by simp only [subs, jp5, hjpB]) (rI_lit [w.call.session, w.call.number, w.call.kind, w.call.slot, w.call.to, (w.call.text.length : Int)]) (by simp at hle1 ⊢; omega) sm2 (by simp) fun pv2 g2 o2 d2 => ⟨g2 ++ ((jp, blk [pv2] 75) :: hB), ?_, ?_⟩).weaken ?_)
    · (repeat' first | exact Sub.refl _ | exact Sub.nil _ | assumption | refine Sub.both ?_ ?_ | refine Sub.cons_of (by simp only [subs, hj5, jp5, x1, hjpB]) ?_ | exact Sub.left _ _ | refine Sub.app (by simp only [subs, hj5, jp5, x1, hjpB]) ?_ | refine Sub.cons (by simp only [subs, hj5, jp5, x1, hjpB]) ?_)
    · have e1 := d2 pv2
      simp only [subs] at e1
      (repeat' first | exact Sub.refl _ | exact Sub.nil _ | assumption | refine Sub.both ?_ ?_ | refine Sub.cons_of (by simp only [subs, e1, jp5, hj5, hjpB]) ?_ | exact Sub.left _ _ | refine Sub.app (by simp only [subs, e1, jp5, hj5, hjpB]) ?_ | refine Sub.cons (by simp only [subs, e1, jp5, hj5, hjpB]) ?_)
    have dB2 : ∀ q, Dj g2 ((jp, blk [q] 75) :: hB) := fun q => by
      have := d2 q
      simp only [subs] at this ⊢
      exact ⟨this.1, this.2.2⟩
    have x2 := gj2 dB2
    simp only [walk, lists, acts, mem, plain, seqs, maps, cells, resL, resV, intBin, ↓reduceIte, Nat.reduceAdd, Nat.reduceSub, Nat.reduceMul, Nat.reduceLeDiff, Nat.reduceEqDiff, Int.reduceToNat, Int.reduceEq, Int.reduceLT, Int.reduceLE, Int.reduceNeg, Int.reduceAdd, Int.reduceSub, Int.reduceMul, Nat.reducePow, Int.reduceNegSucc, apps, x2, njp, rj, rc, wWord, wCall]
    have hH : ([] : List UInt8) ++ encIs [w.kind, w.from_, w.to, w.stamp, w.try_, w.what, 1, w.code] ++ encIs [w.call.session, w.call.number, w.call.kind, w.call.slot, w.call.to, (w.call.text.length : Int)] = encIs (headW w) := by
      rw [List.nil_append, ← encIs_app, headW, ← hy]; rfl
    rw [hH] at o2
    have hct : w.call.text.length ≤ 80 := ok.2.2.2.2.2.2.2.2.2.2.2.2.2.2.2
    have hle : (encIs (headW w)).length ≤ 42 := encIs_len sm
    refine app_text tPen tText iByte (Sub.refl _) (dB2 _) o2 (by omega) (by omega) fun pv3 g3 o3 d3 => ?_
    have e3 := d3
    simp only [subs] at e3
    have one3 := o3.rd.one
    have vc3 := vcells_one1 one3
    have dB3 : ∀ q, Dj g3 ((jp, blk [q] 75) :: hB) := fun q => by simp only [subs, e3]
    have x3 := gj2 dB3
    simp only [walk, lists, acts, mem, plain, seqs, maps, cells, resL, resV, intBin, ↓reduceIte, Nat.reduceAdd, Nat.reduceSub, Nat.reduceMul, Nat.reduceLeDiff, Nat.reduceEqDiff, Int.reduceToNat, Int.reduceEq, Int.reduceLT, Int.reduceLE, Int.reduceNeg, Int.reduceAdd, Int.reduceSub, Int.reduceMul, Nat.reducePow, Int.reduceNegSucc, apps, x3, njp, rj, rc, wWord, wCall, one3, vc3]
    obtain ⟨w1, w2, w3⟩ := hw
    have b1 := encIs_hd (n := w.slots.length) (slotsP_small ok.2.2.2.2.2.2.1)
    have b2 := encIs_hd (n := w.vals.length) (valsP_small ok.2.2.2.2.2.2.2.2.2.1)
    refine penCounted_c o3 dB3 hjpB rs.1 (by rw [List.length_append]; omega) (slotsP_small ok.2.2.2.2.2.2.1) w1 fun pv4 g4 o4 dB4 => ?_
    have x4 := gj2 dB4
    simp only [walk, lists, acts, mem, plain, seqs, maps, cells, resL, resV, intBin, ↓reduceIte, Nat.reduceAdd, Nat.reduceSub, Nat.reduceMul, Nat.reduceLeDiff, Nat.reduceEqDiff, Int.reduceToNat, Int.reduceEq, Int.reduceLT, Int.reduceLE, Int.reduceNeg, Int.reduceAdd, Int.reduceSub, Int.reduceMul, Nat.reducePow, Int.reduceNegSucc, apps, x4, njp, rj, rc, wWord, wCall]
    refine penCounted_c o4 dB4 hjpB rs.2.2 (by simp only [List.length_append]; omega) (valsP_small ok.2.2.2.2.2.2.2.2.2.1) w3 fun pv5 g5 o5 dB5 => ?_
    have x5 := gj2 dB5
    simp only [walk, lists, acts, mem, plain, seqs, maps, cells, resL, resV, intBin, ↓reduceIte, Nat.reduceAdd, Nat.reduceSub, Nat.reduceMul, Nat.reduceLeDiff, Nat.reduceEqDiff, Int.reduceToNat, Int.reduceEq, Int.reduceLT, Int.reduceLE, Int.reduceNeg, Int.reduceAdd, Int.reduceSub, Int.reduceMul, Nat.reducePow, Int.reduceNegSucc, apps, x5, njp, rj, rc, wWord, wCall, rs.2.1.len]
    refine penNumber_c o5 dB5 (by simp only [List.length_append]; omega) (by omega) fun pv6 g6 o6 dB6 => ?_
    have x6 := gj2 dB6
    simp only [walk, lists, acts, mem, plain, seqs, maps, cells, resL, resV, intBin, ↓reduceIte, Nat.reduceAdd, Nat.reduceSub, Nat.reduceMul, Nat.reduceLeDiff, Nat.reduceEqDiff, Int.reduceToNat, Int.reduceEq, Int.reduceLT, Int.reduceLE, Int.reduceNeg, Int.reduceAdd, Int.reduceSub, Int.reduceMul, Nat.reducePow, Int.reduceNegSucc, apps, x6, njp, rj, rc, wWord, wCall, rs.2.1.len]
    have okp : pairsP w.pairs := ok.2.2.2.2.2.2.2.1
    obtain ⟨pre, hpre⟩ : ∃ pre, pre = encIs (headW w) ++ w.call.text ++ encIs ((w.slots.length : Int) :: w.slots) ++ encIs ((w.vals.length : Int) :: w.vals) := ⟨_, rfl⟩
    have hp32 := okp.1
    have hprel : pre.length ≤ 12000000000000 := by rw [hpre]; simp only [List.length_append]; omega
    rw [← hpre] at o6
    refine vc_loop [64] (fun n' vs h' => ∃ (i : Nat) (v' : Value) (g' : H), vs = [.int .i64 i] ∧ h' = g' ++ ((jp, blk [v'] 75) :: hB) ∧ (∀ q, Dj g' ((jp, blk [q] 75) :: hB)) ∧ oLs 5 eB 1 v' (pre ++ encIs ((w.pairs.length : Int) :: flatP (w.pairs.take i))) g' ∧ i ≤ w.pairs.length ∧ n' = w.pairs.length - i) w.pairs.length rfl
      ⟨0, pv6, g6, rfl, rfl, dB6, by rw [List.take_zero, flatP_nil, encIs_one]; exact o6, by omega, rfl⟩ ?_
    rintro n' f h' ⟨i, v', g', hv, rfl, dj', o', hi, rfl⟩
    simp only [List.map_cons, List.map_nil, List.cons.injEq, and_true] at hv
    have x' := gj2 dj'
    simp only [walk, lists, acts, mem, plain, seqs, maps, cells, resL, resV, intBin, ↓reduceIte, Nat.reduceAdd, Nat.reduceSub, Nat.reduceMul, Nat.reduceLeDiff, Nat.reduceEqDiff, Int.reduceToNat, Int.reduceEq, Int.reduceLT, Int.reduceLE, Int.reduceNeg, Int.reduceAdd, Int.reduceSub, Int.reduceMul, Nat.reducePow, Int.reduceNegSucc, wr, hv, apps, x', njp, rj, wWord]
    refine ite_lt (fun c1 => ?_) fun c1 => ?_
    · have hi2 : i < w.pairs.length := by omega
      have rM : rPairs (g' ++ ((jp, blk [v'] 75) :: hB)) p w.pairs := rs.2.1.sub ((Sub.cons hjpB (Sub.refl _)).trans (Sub.right (dj' _)))
      refine idx_leaf (i := i) eP_len rM rfl hi2 fun bb1 oo1 e1 => ?_
      have zp : [Value.int .i64 0, .int .i64 0] = eP (0, 0) := rfl
      simp only [walk, lists, acts, mem, plain, seqs, maps, cells, resL, resV, intBin, ↓reduceIte, Nat.reduceAdd, Nat.reduceSub, Nat.reduceMul, Nat.reduceLeDiff, Nat.reduceEqDiff, Int.reduceToNat, Int.reduceEq, Int.reduceLT, Int.reduceLE, Int.reduceNeg, Int.reduceAdd, Int.reduceSub, Int.reduceMul, Nat.reducePow, Int.reduceNegSucc, e1, zp]
      refine newB_intro fun j7 hj7 => ?_
      simp only [subs] at hj7
      have sx := pairsP_small okp (List.getElem_mem hi2)
      have hb3 := encIs_hd (l := flatP (w.pairs.take i)) (n := w.pairs.length) (flatP_small fun x hx => pairsP_small okp (List.mem_of_mem_take hx))
      rw [flatP_len, List.length_take] at hb3
      generalize hxx : w.pairs[i] = px at *
      simp only [walk, lists, acts, mem, plain, seqs, maps, cells, resL, resV, intBin, ↓reduceIte, Nat.reduceAdd, Nat.reduceSub, Nat.reduceMul, Nat.reduceLeDiff, Nat.reduceEqDiff, Int.reduceToNat, Int.reduceEq, Int.reduceLT, Int.reduceLE, Int.reduceNeg, Int.reduceAdd, Int.reduceSub, Int.reduceMul, Nat.reducePow, Int.reduceNegSucc, wPair]
      refine newB_intro (o := blk (fl eI [px.1, px.2]) 3) fun j8 hj8 => ?_
      simp only [subs] at hj8
      have jp8 : jp ≠ j8 ∧ j7 ≠ j8 ∧ jp ≠ j7 := ⟨Ne.symm hj8.2.2.1, Ne.symm hj8.1, Ne.symm hj7.2.1⟩
      simp only [walk, lists, acts, mem, plain, seqs, maps, cells, resL, resV, intBin, ↓reduceIte, Nat.reduceAdd, Nat.reduceSub, Nat.reduceMul, Nat.reduceLeDiff, Nat.reduceEqDiff, Int.reduceToNat, Int.reduceEq, Int.reduceLT, Int.reduceLE, Int.reduceNeg, Int.reduceAdd, Int.reduceSub, Int.reduceMul, Nat.reducePow, Int.reduceNegSucc]
      refine HCalls.drop ((penNumbers_c (g := g') (h := (j8, blk (fl eI [px.1, px.2]) 3) :: hB) o' (fun q => by simp only [subs, x', hj8]) (by simp only [subs, jp8, hjpB]) (rI_lit [px.1, px.2]) (by rw [List.length_append]; omega) (fun x hx => by
          simp only [List.mem_cons, List.not_mem_nil, or_false] at hx
          rcases hx with rfl | rfl
          · exact sx.1
          · exact sx.2) (by simp) fun v2 g2 o2 d2 => ⟨g2 ++ ((jp, blk [v2] 75) :: hB), ?_, ?_⟩).weaken ?_)
      · (repeat' first | exact Sub.refl _ | exact Sub.nil _ | assumption | refine Sub.both ?_ ?_ | refine Sub.cons_of (by simp only [subs, hj8, jp8, x', hjpB, hj7]) ?_ | exact Sub.left _ _ | refine Sub.app (by simp only [subs, hj8, jp8, x', hjpB, hj7]) ?_ | refine Sub.cons (by simp only [subs, hj8, jp8, x', hjpB, hj7]) ?_)
      · have e1 := d2 v2
        simp only [subs] at e1
        (repeat' first | exact Sub.refl _ | exact Sub.nil _ | assumption | refine Sub.both ?_ ?_ | refine Sub.cons_of (by simp only [subs, e1, jp8, hj8, hjpB]) ?_ | exact Sub.left _ _ | refine Sub.app (by simp only [subs, e1, jp8, hj8, hjpB]) ?_ | refine Sub.cons (by simp only [subs, e1, jp8, hj8, hjpB]) ?_)
      simp (disch := omega) only [walk, lists, acts, mem, plain, seqs, maps, cells, resL, resV, intBin, ↓reduceIte, Nat.reduceAdd, Nat.reduceSub, Nat.reduceMul, Nat.reduceLeDiff, Nat.reduceEqDiff, Int.reduceToNat, Int.reduceEq, Int.reduceLT, Int.reduceLE, Int.reduceNeg, Int.reduceAdd, Int.reduceSub, Int.reduceMul, Nat.reducePow, Int.reduceNegSucc, wrapI]
      refine ⟨w.pairs.length - (i + 1), by omega, _, .refl _, i + 1, v2, g2, by simp, rfl, fun q => ?_, ?_, by omega, rfl⟩
      · have := d2 q
        simp only [subs] at this ⊢
        exact ⟨this.1, this.2.2⟩
      · rw [take_app_one hi2, hxx, flatP_app, flatP_one, ← List.cons_append, encIs_app, ← List.append_assoc]; exact o2
    · have hi2 : w.pairs.take i = w.pairs := List.take_of_length_le (by omega)
      rw [hi2, hpre] at o'
      refine ⟨g' ++ h, ?_, kok ok v' g' o' (x'.2.2.2.sub (.refl _) sB)⟩
      exact Sub.both (Sub.left _ _) (sB.trans ((Sub.cons hjpB (Sub.refl _)).trans (Sub.right (dj' _))))
  · have hy : (0 : Int) = yesN w.yes := by rw [ey]; rfl
    refine newB_intro fun j2 hj2 => ?_
    have n2 := fresh hj2
    have n2' := fresh n2.2.2
    simp only [walk, lists, acts, mem, plain, seqs, maps, cells, resL, resV, intBin, ↓reduceIte, Nat.reduceAdd, Nat.reduceSub, Nat.reduceMul, Nat.reduceLeDiff, Nat.reduceEqDiff, Int.reduceToNat, Int.reduceEq, Int.reduceLT, Int.reduceLE, Int.reduceNeg, Int.reduceAdd, Int.reduceSub, Int.reduceMul, Nat.reducePow, Int.reduceNegSucc, zc, wWord, wCall, n2.1, n2.2.1, n2'.1, n2'.2.1, n1.1, n1.2.1]
    refine newB_intro (o := blk (fl eI [w.kind, w.from_, w.to, w.stamp, w.try_, w.what, 0, w.code]) 3) fun j3 hj3 => ?_
    have n3 := fresh hj3
    have n3' := fresh n3.2.2
    have n3'' := fresh n3'.2.2
    simp only [walk, lists, acts, mem, plain, seqs, maps, cells, resL, resV, intBin, ↓reduceIte, Nat.reduceAdd, Nat.reduceSub, Nat.reduceMul, Nat.reduceLeDiff, Nat.reduceEqDiff, Int.reduceToNat, Int.reduceEq, Int.reduceLT, Int.reduceLE, Int.reduceNeg, Int.reduceAdd, Int.reduceSub, Int.reduceMul, Nat.reducePow, Int.reduceNegSucc, zc, wWord, wCall, n2.1, n2.2.1, n2'.1, n2'.2.1, n1.1, n1.2.1]
    obtain ⟨hB, ehB⟩ : ∃ hB, hB = (j2, blk (cCall w.call) 26) :: (j, blk (cWord w s p v) 28) :: h := ⟨_, rfl⟩
    have rj : ∀ k, hcel hB j k = (cWord w s p v)[k]? := fun k => by rw [ehB, hcel_next _ _ _ _ n2'.1, hcel_same]
    have rc : ∀ k, hcel hB j2 k = (cCall w.call)[k]? := fun k => by rw [ehB, hcel_same]
    have hjpB : hget hB jp = none := by rw [ehB]; simp only [subs, n1, n2, n2', hjp]
    have hj3B : hget hB j3 = none := by rw [ehB]; simp only [subs, n3, n3', n3'']
    have hjB : hget hB j ≠ none := by rw [ehB, hget_next _ _ _ n2'.1, hget_same]; simp
    have hj2B : hget hB j2 ≠ none := by rw [ehB, hget_same]; simp
    have sB : Tk.Sub h hB := by rw [ehB]; exact Sub.cons (by simp only [subs, n2', n2, hjp]) (sj _)
    have rs : sWord hB w s p v := sWord.sub sB r
    have sm := headW_small ok
    have sm1 : allP smallP [w.kind, w.from_, w.to, w.stamp, w.try_, w.what, 0, w.code] := fun x hx => sm x (by rw [headW, ← hy]; simp only [List.mem_cons, List.not_mem_nil, or_false] at hx ⊢; rcases hx with h | h | h | h | h | h | h | h <;> simp [h])
    have sm2 : allP smallP [w.call.session, w.call.number, w.call.kind, w.call.slot, w.call.to, (w.call.text.length : Int)] := fun x hx => sm x (by rw [headW]; simp only [List.mem_cons, List.not_mem_nil, or_false] at hx ⊢; rcases hx with h | h | h | h | h | h <;> simp [h])
    have jpn : jp ≠ j3 ∧ j3 ≠ jp := ⟨n3'.1, n3'.2.1⟩
    refine HCalls.drop ((penNumbers_c (pv := .slice none 0 0) (l := []) (g := []) (h := (j3, blk (fl eI [w.kind, w.from_, w.to, w.stamp, w.try_, w.what, 0, w.code]) 3) :: hB) (ows.nil _ _) (fun q => Dj.nil _) (by simp only [subs, jpn, hjpB]) (rI_lit [w.kind, w.from_, w.to, w.stamp, w.try_, w.what, 0, w.code]) (by simp) sm1 (by simp) fun pv1 g1 o1 d1 => ⟨g1 ++ ((jp, blk [pv1] 75) :: hB), ?_, ?_⟩).weaken ?_)
    · rw [ehB]
      simp only [List.nil_append]
      (repeat' first | exact Sub.refl _ | exact Sub.nil _ | assumption | refine Sub.both ?_ ?_ | refine Sub.cons_of (by simp only [subs, n1, n2, n2', n3, n3', n3'', jpn, hj, hjp]) ?_ | exact Sub.left _ _ | refine Sub.app (by simp only [subs, n1, n2, n2', n3, n3', n3'', jpn, hj, hjp]) ?_ | refine Sub.cons (by simp only [subs, n1, n2, n2', n3, n3', n3'', jpn, hj, hjp]) ?_)
    · have e1 := d1 pv1
      simp only [subs] at e1
      (repeat' first | exact Sub.refl _ | exact Sub.nil _ | assumption | refine Sub.both ?_ ?_ | refine Sub.cons_of (by simp only [subs, e1, jpn, hjpB, hj3B]) ?_ | exact Sub.left _ _ | refine Sub.app (by simp only [subs, e1, jpn, hjpB, hj3B]) ?_ | refine Sub.cons (by simp only [subs, e1, jpn, hjpB, hj3B]) ?_)
    have dB : ∀ {g : H}, (∀ q, Dj g ((jp, blk [q] 75) :: (j3, blk (fl eI [w.kind, w.from_, w.to, w.stamp, w.try_, w.what, 0, w.code]) 3) :: hB)) → ∀ q, Dj g ((jp, blk [q] 75) :: hB) := fun d q => by
      have := d q
      simp only [subs] at this ⊢
      exact ⟨this.1, this.2.2⟩
    have gj2 : ∀ {g : H}, (∀ q, Dj g ((jp, blk [q] 75) :: hB)) → hget g j2 = none ∧ hget g j = none ∧ hget g jp = none ∧ Dj g hB := fun d => by
      have := d (.slice none 0 0)
      simp only [subs] at this
      exact ⟨this.2.of hj2B, this.2.of hjB, this.1, this.2⟩
    have dB1 := dB d1
    have x1 := gj2 dB1
    have njp : j ≠ jp ∧ jp ≠ j ∧ jp ≠ j2 ∧ j2 ≠ jp := ⟨n1.1, n1.2.1, n2.1, n2.2.1⟩
    simp only [walk, lists, acts, mem, plain, seqs, maps, cells, resL, resV, intBin, ↓reduceIte, Nat.reduceAdd, Nat.reduceSub, Nat.reduceMul, Nat.reduceLeDiff, Nat.reduceEqDiff, Int.reduceToNat, Int.reduceEq, Int.reduceLT, Int.reduceLE, Int.reduceNeg, Int.reduceAdd, Int.reduceSub, Int.reduceMul, Nat.reducePow, Int.reduceNegSucc, apps, x1, njp, rj, rc, wWord, wCall]
    refine newB_intro (o := blk (fl eI [w.call.session, w.call.number, w.call.kind, w.call.slot, w.call.to, (w.call.text.length : Int)]) 3) fun j5 hj5 => ?_
    simp only [subs] at hj5
    have jp5 : jp ≠ j5 := Ne.symm hj5.2.1
    simp only [walk, lists, acts, mem, plain, seqs, maps, cells, resL, resV, intBin, ↓reduceIte, Nat.reduceAdd, Nat.reduceSub, Nat.reduceMul, Nat.reduceLeDiff, Nat.reduceEqDiff, Int.reduceToNat, Int.reduceEq, Int.reduceLT, Int.reduceLE, Int.reduceNeg, Int.reduceAdd, Int.reduceSub, Int.reduceMul, Nat.reducePow, Int.reduceNegSucc]
    have hle1 := encIs_len sm1
    refine HCalls.drop ((penNumbers_c (g := g1) (h := (j5, blk (fl eI [w.call.session, w.call.number, w.call.kind, w.call.slot, w.call.to, (w.call.text.length : Int)]) 3) :: hB) o1 (fun q => by simp only [subs, x1, hj5]) (by simp only [subs, jp5, hjpB]) (rI_lit [w.call.session, w.call.number, w.call.kind, w.call.slot, w.call.to, (w.call.text.length : Int)]) (by simp at hle1 ⊢; omega) sm2 (by simp) fun pv2 g2 o2 d2 => ⟨g2 ++ ((jp, blk [pv2] 75) :: hB), ?_, ?_⟩).weaken ?_)
    · (repeat' first | exact Sub.refl _ | exact Sub.nil _ | assumption | refine Sub.both ?_ ?_ | refine Sub.cons_of (by simp only [subs, hj5, jp5, x1, hjpB]) ?_ | exact Sub.left _ _ | refine Sub.app (by simp only [subs, hj5, jp5, x1, hjpB]) ?_ | refine Sub.cons (by simp only [subs, hj5, jp5, x1, hjpB]) ?_)
    · have e1 := d2 pv2
      simp only [subs] at e1
      (repeat' first | exact Sub.refl _ | exact Sub.nil _ | assumption | refine Sub.both ?_ ?_ | refine Sub.cons_of (by simp only [subs, e1, jp5, hj5, hjpB]) ?_ | exact Sub.left _ _ | refine Sub.app (by simp only [subs, e1, jp5, hj5, hjpB]) ?_ | refine Sub.cons (by simp only [subs, e1, jp5, hj5, hjpB]) ?_)
    have dB2 : ∀ q, Dj g2 ((jp, blk [q] 75) :: hB) := fun q => by
      have := d2 q
      simp only [subs] at this ⊢
      exact ⟨this.1, this.2.2⟩
    have x2 := gj2 dB2
    simp only [walk, lists, acts, mem, plain, seqs, maps, cells, resL, resV, intBin, ↓reduceIte, Nat.reduceAdd, Nat.reduceSub, Nat.reduceMul, Nat.reduceLeDiff, Nat.reduceEqDiff, Int.reduceToNat, Int.reduceEq, Int.reduceLT, Int.reduceLE, Int.reduceNeg, Int.reduceAdd, Int.reduceSub, Int.reduceMul, Nat.reducePow, Int.reduceNegSucc, apps, x2, njp, rj, rc, wWord, wCall]
    have hH : ([] : List UInt8) ++ encIs [w.kind, w.from_, w.to, w.stamp, w.try_, w.what, 0, w.code] ++ encIs [w.call.session, w.call.number, w.call.kind, w.call.slot, w.call.to, (w.call.text.length : Int)] = encIs (headW w) := by
      rw [List.nil_append, ← encIs_app, headW, ← hy]; rfl
    rw [hH] at o2
    have hct : w.call.text.length ≤ 80 := ok.2.2.2.2.2.2.2.2.2.2.2.2.2.2.2
    have hle : (encIs (headW w)).length ≤ 42 := encIs_len sm
    refine app_text tPen tText iByte (Sub.refl _) (dB2 _) o2 (by omega) (by omega) fun pv3 g3 o3 d3 => ?_
    have e3 := d3
    simp only [subs] at e3
    have one3 := o3.rd.one
    have vc3 := vcells_one1 one3
    have dB3 : ∀ q, Dj g3 ((jp, blk [q] 75) :: hB) := fun q => by simp only [subs, e3]
    have x3 := gj2 dB3
    simp only [walk, lists, acts, mem, plain, seqs, maps, cells, resL, resV, intBin, ↓reduceIte, Nat.reduceAdd, Nat.reduceSub, Nat.reduceMul, Nat.reduceLeDiff, Nat.reduceEqDiff, Int.reduceToNat, Int.reduceEq, Int.reduceLT, Int.reduceLE, Int.reduceNeg, Int.reduceAdd, Int.reduceSub, Int.reduceMul, Nat.reducePow, Int.reduceNegSucc, apps, x3, njp, rj, rc, wWord, wCall, one3, vc3]
    obtain ⟨w1, w2, w3⟩ := hw
    have b1 := encIs_hd (n := w.slots.length) (slotsP_small ok.2.2.2.2.2.2.1)
    have b2 := encIs_hd (n := w.vals.length) (valsP_small ok.2.2.2.2.2.2.2.2.2.1)
    refine penCounted_c o3 dB3 hjpB rs.1 (by rw [List.length_append]; omega) (slotsP_small ok.2.2.2.2.2.2.1) w1 fun pv4 g4 o4 dB4 => ?_
    have x4 := gj2 dB4
    simp only [walk, lists, acts, mem, plain, seqs, maps, cells, resL, resV, intBin, ↓reduceIte, Nat.reduceAdd, Nat.reduceSub, Nat.reduceMul, Nat.reduceLeDiff, Nat.reduceEqDiff, Int.reduceToNat, Int.reduceEq, Int.reduceLT, Int.reduceLE, Int.reduceNeg, Int.reduceAdd, Int.reduceSub, Int.reduceMul, Nat.reducePow, Int.reduceNegSucc, apps, x4, njp, rj, rc, wWord, wCall]
    refine penCounted_c o4 dB4 hjpB rs.2.2 (by simp only [List.length_append]; omega) (valsP_small ok.2.2.2.2.2.2.2.2.2.1) w3 fun pv5 g5 o5 dB5 => ?_
    have x5 := gj2 dB5
    simp only [walk, lists, acts, mem, plain, seqs, maps, cells, resL, resV, intBin, ↓reduceIte, Nat.reduceAdd, Nat.reduceSub, Nat.reduceMul, Nat.reduceLeDiff, Nat.reduceEqDiff, Int.reduceToNat, Int.reduceEq, Int.reduceLT, Int.reduceLE, Int.reduceNeg, Int.reduceAdd, Int.reduceSub, Int.reduceMul, Nat.reducePow, Int.reduceNegSucc, apps, x5, njp, rj, rc, wWord, wCall, rs.2.1.len]
    refine penNumber_c o5 dB5 (by simp only [List.length_append]; omega) (by omega) fun pv6 g6 o6 dB6 => ?_
    have x6 := gj2 dB6
    simp only [walk, lists, acts, mem, plain, seqs, maps, cells, resL, resV, intBin, ↓reduceIte, Nat.reduceAdd, Nat.reduceSub, Nat.reduceMul, Nat.reduceLeDiff, Nat.reduceEqDiff, Int.reduceToNat, Int.reduceEq, Int.reduceLT, Int.reduceLE, Int.reduceNeg, Int.reduceAdd, Int.reduceSub, Int.reduceMul, Nat.reducePow, Int.reduceNegSucc, apps, x6, njp, rj, rc, wWord, wCall, rs.2.1.len]
    have okp : pairsP w.pairs := ok.2.2.2.2.2.2.2.1
    obtain ⟨pre, hpre⟩ : ∃ pre, pre = encIs (headW w) ++ w.call.text ++ encIs ((w.slots.length : Int) :: w.slots) ++ encIs ((w.vals.length : Int) :: w.vals) := ⟨_, rfl⟩
    have hp32 := okp.1
    have hprel : pre.length ≤ 12000000000000 := by rw [hpre]; simp only [List.length_append]; omega
    rw [← hpre] at o6
    refine vc_loop [64] (fun n' vs h' => ∃ (i : Nat) (v' : Value) (g' : H), vs = [.int .i64 i] ∧ h' = g' ++ ((jp, blk [v'] 75) :: hB) ∧ (∀ q, Dj g' ((jp, blk [q] 75) :: hB)) ∧ oLs 5 eB 1 v' (pre ++ encIs ((w.pairs.length : Int) :: flatP (w.pairs.take i))) g' ∧ i ≤ w.pairs.length ∧ n' = w.pairs.length - i) w.pairs.length rfl
      ⟨0, pv6, g6, rfl, rfl, dB6, by rw [List.take_zero, flatP_nil, encIs_one]; exact o6, by omega, rfl⟩ ?_
    rintro n' f h' ⟨i, v', g', hv, rfl, dj', o', hi, rfl⟩
    simp only [List.map_cons, List.map_nil, List.cons.injEq, and_true] at hv
    have x' := gj2 dj'
    simp only [walk, lists, acts, mem, plain, seqs, maps, cells, resL, resV, intBin, ↓reduceIte, Nat.reduceAdd, Nat.reduceSub, Nat.reduceMul, Nat.reduceLeDiff, Nat.reduceEqDiff, Int.reduceToNat, Int.reduceEq, Int.reduceLT, Int.reduceLE, Int.reduceNeg, Int.reduceAdd, Int.reduceSub, Int.reduceMul, Nat.reducePow, Int.reduceNegSucc, wr, hv, apps, x', njp, rj, wWord]
    refine ite_lt (fun c1 => ?_) fun c1 => ?_
    · have hi2 : i < w.pairs.length := by omega
      have rM : rPairs (g' ++ ((jp, blk [v'] 75) :: hB)) p w.pairs := rs.2.1.sub ((Sub.cons hjpB (Sub.refl _)).trans (Sub.right (dj' _)))
      refine idx_leaf (i := i) eP_len rM rfl hi2 fun bb1 oo1 e1 => ?_
      have zp : [Value.int .i64 0, .int .i64 0] = eP (0, 0) := rfl
      simp only [walk, lists, acts, mem, plain, seqs, maps, cells, resL, resV, intBin, ↓reduceIte, Nat.reduceAdd, Nat.reduceSub, Nat.reduceMul, Nat.reduceLeDiff, Nat.reduceEqDiff, Int.reduceToNat, Int.reduceEq, Int.reduceLT, Int.reduceLE, Int.reduceNeg, Int.reduceAdd, Int.reduceSub, Int.reduceMul, Nat.reducePow, Int.reduceNegSucc, e1, zp]
      refine newB_intro fun j7 hj7 => ?_
      simp only [subs] at hj7
      have sx := pairsP_small okp (List.getElem_mem hi2)
      have hb3 := encIs_hd (l := flatP (w.pairs.take i)) (n := w.pairs.length) (flatP_small fun x hx => pairsP_small okp (List.mem_of_mem_take hx))
      rw [flatP_len, List.length_take] at hb3
      generalize hxx : w.pairs[i] = px at *
      simp only [walk, lists, acts, mem, plain, seqs, maps, cells, resL, resV, intBin, ↓reduceIte, Nat.reduceAdd, Nat.reduceSub, Nat.reduceMul, Nat.reduceLeDiff, Nat.reduceEqDiff, Int.reduceToNat, Int.reduceEq, Int.reduceLT, Int.reduceLE, Int.reduceNeg, Int.reduceAdd, Int.reduceSub, Int.reduceMul, Nat.reducePow, Int.reduceNegSucc, wPair]
      refine newB_intro (o := blk (fl eI [px.1, px.2]) 3) fun j8 hj8 => ?_
      simp only [subs] at hj8
      have jp8 : jp ≠ j8 ∧ j7 ≠ j8 ∧ jp ≠ j7 := ⟨Ne.symm hj8.2.2.1, Ne.symm hj8.1, Ne.symm hj7.2.1⟩
      simp only [walk, lists, acts, mem, plain, seqs, maps, cells, resL, resV, intBin, ↓reduceIte, Nat.reduceAdd, Nat.reduceSub, Nat.reduceMul, Nat.reduceLeDiff, Nat.reduceEqDiff, Int.reduceToNat, Int.reduceEq, Int.reduceLT, Int.reduceLE, Int.reduceNeg, Int.reduceAdd, Int.reduceSub, Int.reduceMul, Nat.reducePow, Int.reduceNegSucc]
      refine HCalls.drop ((penNumbers_c (g := g') (h := (j8, blk (fl eI [px.1, px.2]) 3) :: hB) o' (fun q => by simp only [subs, x', hj8]) (by simp only [subs, jp8, hjpB]) (rI_lit [px.1, px.2]) (by rw [List.length_append]; omega) (fun x hx => by
          simp only [List.mem_cons, List.not_mem_nil, or_false] at hx
          rcases hx with rfl | rfl
          · exact sx.1
          · exact sx.2) (by simp) fun v2 g2 o2 d2 => ⟨g2 ++ ((jp, blk [v2] 75) :: hB), ?_, ?_⟩).weaken ?_)
      · (repeat' first | exact Sub.refl _ | exact Sub.nil _ | assumption | refine Sub.both ?_ ?_ | refine Sub.cons_of (by simp only [subs, hj8, jp8, x', hjpB, hj7]) ?_ | exact Sub.left _ _ | refine Sub.app (by simp only [subs, hj8, jp8, x', hjpB, hj7]) ?_ | refine Sub.cons (by simp only [subs, hj8, jp8, x', hjpB, hj7]) ?_)
      · have e1 := d2 v2
        simp only [subs] at e1
        (repeat' first | exact Sub.refl _ | exact Sub.nil _ | assumption | refine Sub.both ?_ ?_ | refine Sub.cons_of (by simp only [subs, e1, jp8, hj8, hjpB]) ?_ | exact Sub.left _ _ | refine Sub.app (by simp only [subs, e1, jp8, hj8, hjpB]) ?_ | refine Sub.cons (by simp only [subs, e1, jp8, hj8, hjpB]) ?_)
      simp (disch := omega) only [walk, lists, acts, mem, plain, seqs, maps, cells, resL, resV, intBin, ↓reduceIte, Nat.reduceAdd, Nat.reduceSub, Nat.reduceMul, Nat.reduceLeDiff, Nat.reduceEqDiff, Int.reduceToNat, Int.reduceEq, Int.reduceLT, Int.reduceLE, Int.reduceNeg, Int.reduceAdd, Int.reduceSub, Int.reduceMul, Nat.reducePow, Int.reduceNegSucc, wrapI]
      refine ⟨w.pairs.length - (i + 1), by omega, _, .refl _, i + 1, v2, g2, by simp, rfl, fun q => ?_, ?_, by omega, rfl⟩
      · have := d2 q
        simp only [subs] at this ⊢
        exact ⟨this.1, this.2.2⟩
      · rw [take_app_one hi2, hxx, flatP_app, flatP_one, ← List.cons_append, encIs_app, ← List.append_assoc]; exact o2
    · have hi2 : w.pairs.take i = w.pairs := List.take_of_length_le (by omega)
      rw [hi2, hpre] at o'
      refine ⟨g' ++ h, ?_, kok ok v' g' o' (x'.2.2.2.sub (.refl _) sB)⟩
      exact Sub.both (Sub.left _ _) (sB.trans ((Sub.cons hjpB (Sub.refl _)).trans (Sub.right (dj' _))))
end Go.Proofs.Ytllhdnfcneejaaa
