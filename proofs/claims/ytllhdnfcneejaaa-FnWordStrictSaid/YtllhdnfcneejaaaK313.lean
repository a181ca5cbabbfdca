/- Parts of the proof, put together: T19, T20, T21, T22, T23. -/
import Derived.Test.YtllhdnfcneejaaaK312
import Derived.Test.YtllhdnfcneejaaaK35
import Derived.Test.YtllhdnfcneejaaaK39
/- How the program writes words. -/
section
set_option linter.unusedVariables false
set_option linter.unusedSimpArgs false
set_option maxRecDepth 20000
attribute [local irreducible] Go.Tk.vc Go.Tk.vops Go.Tk.vdr Go.Tk.vop Go.Tk.vfl Go.Tk.HCalls
namespace Go.Proofs.Ytllhdnfcneejaaa
open Go Go.Tk

theorem implPack_c {h : H} {w : DWord} {s p v : Value} (r : sWord h w s p v) (hw : wLen w) {R : Ending → H → Prop}
    (kok : wordP w → ∀ v' g', oLs 5 eB 1 v' (pack w) g' → Dj g' h → R (.returned v') (g' ++ h))
    (kno : ¬ wordP w → R (.returned (.slice none 0 0)) h) :
    HCalls Try.prog 18 #[.agg (cWord w s p v).toArray] h R := by
  refine HCalls_ir (args := [.agg (cWord w s p v).toArray]) Try.func18 ir18 ?_
  have zc := zCall_eq
  simp only [str] at zc
  simp only [walk, lists, acts, mem, plain, seqs, maps, cells, resL, resV, intBin, ↓reduceIte, Nat.reduceAdd, Nat.reduceSub, Nat.reduceMul, Nat.reduceLeDiff, Nat.reduceEqDiff, Int.reduceToNat, Int.reduceEq, Int.reduceLT, Int.reduceLE, Int.reduceNeg, Int.reduceAdd, Int.reduceSub, Int.reduceMul, Nat.reducePow, Int.reduceNegSucc, str, zc, wWord]
  refine newB_intro fun j hj => ?_
  have sj := fun o => Sub.cons (o := o) hj (Sub.refl h)
  simp only [walk, lists, acts, mem, plain, seqs, maps, cells, resL, resV, intBin, ↓reduceIte, Nat.reduceAdd, Nat.reduceSub, Nat.reduceMul, Nat.reduceLeDiff, Nat.reduceEqDiff, Int.reduceToNat, Int.reduceEq, Int.reduceLT, Int.reduceLE, Int.reduceNeg, Int.reduceAdd, Int.reduceSub, Int.reduceMul, Nat.reducePow, Int.reduceNegSucc, zc, wWord]
  refine implWordOk_c (w := w) ⟨r.1.sub (sj _), r.2.1.sub (sj _), r.2.2.sub (sj _)⟩ hw fun b hb => ?_
  simp only [walk, lists, acts, mem, plain, seqs, maps, cells, resL, resV, intBin, ↓reduceIte, Nat.reduceAdd, Nat.reduceSub, Nat.reduceMul, Nat.reduceLeDiff, Nat.reduceEqDiff, Int.reduceToNat, Int.reduceEq, Int.reduceLT, Int.reduceLE, Int.reduceNeg, Int.reduceAdd, Int.reduceSub, Int.reduceMul, Nat.reducePow, Int.reduceNegSucc, zc, wWord, wCall]
  refine ite_f (fun e => ⟨h, sj _, kno (not_b hb e)⟩) fun e => ?_
  have ok := hb.1 e
  refine newB_intro fun jp hjp => ?_
  have n1 := fresh hjp
  simp only [walk, lists, acts, mem, plain, seqs, maps, cells, resL, resV, intBin, ↓reduceIte, Nat.reduceAdd, Nat.reduceSub, Nat.reduceMul, Nat.reduceLeDiff, Nat.reduceEqDiff, Int.reduceToNat, Int.reduceEq, Int.reduceLT, Int.reduceLE, Int.reduceNeg, Int.reduceAdd, Int.reduceSub, Int.reduceMul, Nat.reducePow, Int.reduceNegSucc, zc, wWord, wCall, n1.1, n1.2.1]
  refine ite_b (fun ey => ?_) fun ey => ?_
  · have hy : (1 : Int) = yesN w.yes := by rw [ey]; rfl
    refine newB_intro fun j2 hj2 => ?_
    have n2 := fresh hj2
    have n2' := fresh n2.2.2
    simp only [walk, lists, acts, mem, plain, seqs, maps, cells, resL, resV, intBin, ↓reduceIte, Nat.reduceAdd, Nat.reduceSub, Nat.reduceMul, Nat.reduceLeDiff, Nat.reduceEqDiff, Int.reduceToNat, Int.reduceEq, Int.reduceLT, Int.reduceLE, Int.reduceNeg, Int.reduceAdd, Int.reduceSub, Int.reduceMul, Nat.reducePow, Int.reduceNegSucc, zc, wWord, wCall, n2.1, n2.2.1, n2'.1, n2'.2.1, n1.1, n1.2.1]
    refine newB_intro (o := blk (fl eI [w.kind, w.from_, w.to, w.stamp, w.try_, w.what, 1, w.code]) 3) fun j3 hj3 => ?_
    have n3 := fresh hj3
    have n3' := fresh n3.2.2
    have n3'' := fresh n3'.2.2
    simp only [walk, lists, acts, mem, plain, seqs, maps, cells, resL, resV, intBin, ↓reduceIte, Nat.reduceAdd, Nat.reduceSub, Nat.reduceMul, Nat.reduceLeDiff, Nat.reduceEqDiff, Int.reduceToNat, Int.reduceEq, Int.reduceLT, Int.reduceLE, Int.reduceNeg, Int.reduceAdd, Int.reduceSub, Int.reduceMul, Nat.reducePow, Int.reduceNegSucc, zc, wWord, wCall, n2.1, n2.2.1, n2'.1, n2'.2.1, n1.1, n1.2.1]
    obtain ⟨hB, ehB⟩ : ∃ hB, hB = (j2, blk (cCall w.call) 26) :: (j, blk (cWord w s p v) 28) :: h := ⟨_, rfl⟩
    have rj : ∀ k, hcel hB j k = (cWord w s p v)[k]? := fun k => by rw [ehB, hcel_next _ _ _ _ n2'.1, hcel_same]
    have rc : ∀ k, hcel hB j2 k = (cCall w.call)[k]? := fun k => by rw [ehB, hcel_same]
    have hjpB : hget hB jp = none := by rw [ehB]; simp only [subs, n1, n2, n2', hjp]
    have hj3B : hget hB j3 = none := by rw [ehB]; simp only [subs, n3, n3', n3'']
    have hjB : hget hB j ≠ none := by rw [ehB, hget_next _ _ _ n2'.1, hget_same]; simp
    have hj2B : hget hB j2 ≠ none := by rw [ehB, hget_same]; simp
    have sB : Tk.Sub h hB := by rw [ehB]; exact Sub.cons (by simp only [subs, n2', n2, hjp]) (sj _)
    have rs : sWord hB w s p v := sWord.sub sB r
    have sm := headW_small ok
    have sm1 : allP smallP [w.kind, w.from_, w.to, w.stamp, w.try_, w.what, 1, w.code] := fun x hx => sm x (by rw [headW, ← hy]; simp only [List.mem_cons, List.not_mem_nil, or_false] at hx ⊢; rcases hx with h | h | h | h | h | h | h | h <;> simp [h])
    have sm2 : allP smallP [w.call.session, w.call.number, w.call.kind, w.call.slot, w.call.to, (w.call.text.length : Int)] := fun x hx => sm x (by rw [headW]; simp only [List.mem_cons, List.not_mem_nil, or_false] at hx ⊢; rcases hx with h | h | h | h | h | h <;> simp [h])
    have jpn : jp ≠ j3 ∧ j3 ≠ jp := ⟨n3'.1, n3'.2.1⟩
    refine HCalls.drop ((penNumbers_c (pv := .slice none 0 0) (l := []) (g := []) (h := (j3, blk (fl eI [w.kind, w.from_, w.to, w.stamp, w.try_, w.what, 1, w.code]) 3) :: hB) (ows.nil _ _) (fun q => Dj.nil _) (by simp only [subs, jpn, hjpB]) (rI_lit [w.kind, w.from_, w.to, w.stamp, w.try_, w.what, 1, w.code]) (by simp) sm1 (by simp) fun pv1 g1 o1 d1 => ⟨g1 ++ ((jp, blk [pv1] 75) :: hB), ?_, ?_⟩).weaken ?_)
    · rw [ehB]
      simp only [List.nil_append]
      (repeat' first | exact Sub.refl _ | exact Sub.nil _ | assumption | refine Sub.both ?_ ?_ | refine Sub.cons_of (by simp only [subs, n1, n2, n2', n3, n3', n3'', jpn, hj, hjp]) ?_ | exact Sub.left _ _ | refine Sub.app (by simp only [subs, n1, n2, n2', n3, n3', n3'', jpn, hj, hjp]) ?_ | refine Sub.cons (by simp only [subs, n1, n2, n2', n3, n3', n3'', jpn, hj, hjp]) ?_)
    · have e1 := d1 pv1
      simp only [subs] at e1
      (repeat' first | exact Sub.refl _ | exact Sub.nil _ | assumption | refine Sub.both ?_ ?_ | refine Sub.cons_of (by simp only [subs, e1, jpn, hjpB, hj3B]) ?_ | exact Sub.left _ _ | refine Sub.app (by simp only [subs, e1, jpn, hjpB, hj3B]) ?_ | refine Sub.cons (by simp only [subs, e1, jpn, hjpB, hj3B]) ?_)
    have dB : ∀ {g : H}, (∀ q, Dj g ((jp, blk [q] 75) :: (j3, blk (fl eI [w.kind, w.from_, w.to, w.stamp, w.try_, w.what, 1, w.code]) 3) :: hB)) → ∀ q, Dj g ((jp, blk [q] 75) :: hB) := fun d q => by
      have := d q
      simp only [subs] at this ⊢
      exact ⟨this.1, this.2.2⟩
    have gj2 : ∀ {g : H}, (∀ q, Dj g ((jp, blk [q] 75) :: hB)) → hget g j2 = none ∧ hget g j = none ∧ hget g jp = none ∧ Dj g hB := fun d => by
      have := d (.slice none 0 0)
      simp only [subs] at this
      exact ⟨this.2.of hj2B, this.2.of hjB, this.1, this.2⟩
    have dB1 := dB d1
    have x1 := gj2 dB1
    have njp : j ≠ jp ∧ jp ≠ j ∧ jp ≠ j2 ∧ j2 ≠ jp := ⟨n1.1, n1.2.1, n2.1, n2.2.1⟩
    simp only [walk, lists, acts, mem, plain, seqs, maps, cells, resL, resV, intBin, ↓reduceIte, Nat.reduceAdd, Nat.reduceSub, Nat.reduceMul, Nat.reduceLeDiff, Nat.reduceEqDiff, Int.reduceToNat, Int.reduceEq, Int.reduceLT, Int.reduceLE, Int.reduceNeg, Int.reduceAdd, Int.reduceSub, Int.reduceMul, Nat.reducePow, Int.reduceNegSucc, apps, x1, njp, rj, rc, wWord, wCall]
    refine newB_intro (o := blk (fl eI [w.call.session, w.call.number, w.call.kind, w.call.slot, w.call.to, (w.call.text.length : Int)]) 3) fun j5 hj5 => ?_
    simp only [subs] at hj5
    have jp5 : jp ≠ j5 := Ne.symm hj5.2.1
    simp only [walk, lists, acts, mem, plain, seqs, maps, cells, resL, resV, intBin, ↓reduceIte, Nat.reduceAdd, Nat.reduceSub, Nat.reduceMul, Nat.reduceLeDiff, Nat.reduceEqDiff, Int.reduceToNat, Int.reduceEq, Int.reduceLT, Int.reduceLE, Int.reduceNeg, Int.reduceAdd, Int.reduceSub, Int.reduceMul, Nat.reducePow, Int.reduceNegSucc]
    have hle1 := encIs_len sm1
    refine HCalls.drop ((penNumbers_c (g := g1) (h := (j5, blk (fl eI [w.call.session, w.call.number, w.call.kind, w.call.slot, w.call.to, (w.call.text.length : Int)]) 3) :: hB) o1 (fun q => by simp only [subs, x1, hj5]) (by simp only [subs, jp5, hjpB]) (rI_lit [w.call.session, w.call.number, w.call.kind, w.call.slot, w.call.to, (w.call.text.length : Int)]) (by simp at hle1 ⊢; omega) sm2 (by simp) fun pv2 g2 o2 d2 => ⟨g2 ++ ((jp, blk [pv2] 75) :: hB), ?_, ?_⟩).weaken ?_)
    · (repeat' first | exact Sub.refl _ | exact Sub.nil _ | assumption | refine Sub.both ?_ ?_ | refine Sub.cons_of (by simp only [subs, hj5, jp5, x1, hjpB]) ?_ | exact Sub.left _ _ | refine Sub.app (by simp only [subs, hj5, jp5, x1, hjpB]) ?_ | refine Sub.cons (by simp only [subs, hj5, jp5, x1, hjpB]) ?_)
    · have e1 := d2 pv2
      simp only [subs] at e1
      (repeat' first | exact Sub.refl _ | exact Sub.nil _ | assumption | refine Sub.both ?_ ?_ | refine Sub.cons_of (by simp only [subs, e1, jp5, hj5, hjpB]) ?_ | exact Sub.left _ _ | refine Sub.app (by simp only [subs, e1, jp5, hj5, hjpB]) ?_ | refine Sub.cons (by simp only [subs, e1, jp5, hj5, hjpB]) ?_)
    have dB2 : ∀ q, Dj g2 ((jp, blk [q] 75) :: hB) := fun q => by
      have := d2 q
      simp only [subs] at this ⊢
      exact ⟨this.1, this.2.2⟩
    have x2 := gj2 dB2
    simp only [walk, lists, acts, mem, plain, seqs, maps, cells, resL, resV, intBin, ↓reduceIte, Nat.reduceAdd, Nat.reduceSub, Nat.reduceMul, Nat.reduceLeDiff, Nat.reduceEqDiff, Int.reduceToNat, Int.reduceEq, Int.reduceLT, Int.reduceLE, Int.reduceNeg, Int.reduceAdd, Int.reduceSub, Int.reduceMul, Nat.reducePow, Int.reduceNegSucc, apps, x2, njp, rj, rc, wWord, wCall]
    have hH : ([] : List UInt8) ++ encIs [w.kind, w.from_, w.to, w.stamp, w.try_, w.what, 1, w.code] ++ encIs [w.call.session, w.call.number, w.call.kind, w.call.slot, w.call.to, (w.call.text.length : Int)] = encIs (headW w) := by
      rw [List.nil_append, ← encIs_app, headW, ← hy]; rfl
    rw [hH] at o2
    have hct : w.call.text.length ≤ 80 := ok.2.2.2.2.2.2.2.2.2.2.2.2.2.2.2
    have hle : (encIs (headW w)).length ≤ 42 := encIs_len sm
    refine app_text tPen tText iByte (Sub.refl _) (dB2 _) o2 (by omega) (by omega) fun pv3 g3 o3 d3 => ?_
    have e3 := d3
    simp only [subs] at e3
    have one3 := o3.rd.one
    have vc3 := vcells_one1 one3
    have dB3 : ∀ q, Dj g3 ((jp, blk [q] 75) :: hB) := fun q => by simp only [subs, e3]
    have x3 := gj2 dB3
    simp only [walk, lists, acts, mem, plain, seqs, maps, cells, resL, resV, intBin, ↓reduceIte, Nat.reduceAdd, Nat.reduceSub, Nat.reduceMul, Nat.reduceLeDiff, Nat.reduceEqDiff, Int.reduceToNat, Int.reduceEq, Int.reduceLT, Int.reduceLE, Int.reduceNeg, Int.reduceAdd, Int.reduceSub, Int.reduceMul, Nat.reducePow, Int.reduceNegSucc, apps, x3, njp, rj, rc, wWord, wCall, one3, vc3]
    obtain ⟨w1, w2, w3⟩ := hw
    have b1 := encIs_hd (n := w.slots.length) (slotsP_small ok.2.2.2.2.2.2.1)
    have b2 := encIs_hd (n := w.vals.length) (valsP_small ok.2.2.2.2.2.2.2.2.2.1)
    refine penCounted_c o3 dB3 hjpB rs.1 (by rw [List.length_append]; omega) (slotsP_small ok.2.2.2.2.2.2.1) w1 fun pv4 g4 o4 dB4 => ?_
    have x4 := gj2 dB4
    simp only [walk, lists, acts, mem, plain, seqs, maps, cells, resL, resV, intBin, ↓reduceIte, Nat.reduceAdd, Nat.reduceSub, Nat.reduceMul, Nat.reduceLeDiff, Nat.reduceEqDiff, Int.reduceToNat, Int.reduceEq, Int.reduceLT, Int.reduceLE, Int.reduceNeg, Int.reduceAdd, Int.reduceSub, Int.reduceMul, Nat.reducePow, Int.reduceNegSucc, apps, x4, njp, rj, rc, wWord, wCall]
    refine penCounted_c o4 dB4 hjpB rs.2.2 (by simp only [List.length_append]; omega) (valsP_small ok.2.2.2.2.2.2.2.2.2.1) w3 fun pv5 g5 o5 dB5 => ?_
    have x5 := gj2 dB5
    simp only [walk, lists, acts, mem, plain, seqs, maps, cells, resL, resV, intBin, ↓reduceIte, Nat.reduceAdd, Nat.reduceSub, Nat.reduceMul, Nat.reduceLeDiff, Nat.reduceEqDiff, Int.reduceToNat, Int.reduceEq, Int.reduceLT, Int.reduceLE, Int.reduceNeg, Int.reduceAdd, Int.reduceSub, Int.reduceMul, Nat.reducePow, Int.reduceNegSucc, apps, x5, njp, rj, rc, wWord, wCall, rs.2.1.len]
    refine penNumber_c o5 dB5 (by simp only [List.length_append]; omega) (by omega) fun pv6 g6 o6 dB6 => ?_
    have x6 := gj2 dB6
    simp only [walk, lists, acts, mem, plain, seqs, maps, cells, resL, resV, intBin, ↓reduceIte, Nat.reduceAdd, Nat.reduceSub, Nat.reduceMul, Nat.reduceLeDiff, Nat.reduceEqDiff, Int.reduceToNat, Int.reduceEq, Int.reduceLT, Int.reduceLE, Int.reduceNeg, Int.reduceAdd, Int.reduceSub, Int.reduceMul, Nat.reducePow, Int.reduceNegSucc, apps, x6, njp, rj, rc, wWord, wCall, rs.2.1.len]
    have okp : pairsP w.pairs := ok.2.2.2.2.2.2.2.1
    obtain ⟨pre, hpre⟩ : ∃ pre, pre = encIs (headW w) ++ w.call.text ++ encIs ((w.slots.length : Int) :: w.slots) ++ encIs ((w.vals.length : Int) :: w.vals) := ⟨_, rfl⟩
    have hp32 := okp.1
    have hprel : pre.length ≤ 12000000000000 := by rw [hpre]; simp only [List.length_append]; omega
    rw [← hpre] at o6
    refine vc_loop [64] (fun n' vs h' => ∃ (i : Nat) (v' : Value) (g' : H), vs = [.int .i64 i] ∧ h' = g' ++ ((jp, blk [v'] 75) :: hB) ∧ (∀ q, Dj g' ((jp, blk [q] 75) :: hB)) ∧ oLs 5 eB 1 v' (pre ++ encIs ((w.pairs.length : Int) :: flatP (w.pairs.take i))) g' ∧ i ≤ w.pairs.length ∧ n' = w.pairs.length - i) w.pairs.length rfl
      ⟨0, pv6, g6, rfl, rfl, dB6, by rw [List.take_zero, flatP_nil, encIs_one]; exact o6, by omega, rfl⟩ ?_
    rintro n' f h' ⟨i, v', g', hv, rfl, dj', o', hi, rfl⟩
    simp only [List.map_cons, List.map_nil, List.cons.injEq, and_true] at hv
    have x' := gj2 dj'
    simp only [walk, lists, acts, mem, plain, seqs, maps, cells, resL, resV, intBin, ↓reduceIte, Nat.reduceAdd, Nat.reduceSub, Nat.reduceMul, Nat.reduceLeDiff, Nat.reduceEqDiff, Int.reduceToNat, Int.reduceEq, Int.reduceLT, Int.reduceLE, Int.reduceNeg, Int.reduceAdd, Int.reduceSub, Int.reduceMul, Nat.reducePow, Int.reduceNegSucc, wr, hv, apps, x', njp, rj, wWord]
    refine ite_lt (fun c1 => ?_) fun c1 => ?_
    · have hi2 : i < w.pairs.length := by omega
      have rM : rPairs (g' ++ ((jp, blk [v'] 75) :: hB)) p w.pairs := rs.2.1.sub ((Sub.cons hjpB (Sub.refl _)).trans (Sub.right (dj' _)))
      refine idx_leaf (i := i) eP_len rM rfl hi2 fun bb1 oo1 e1 => ?_
      have zp : [Value.int .i64 0, .int .i64 0] = eP (0, 0) := rfl
      simp only [walk, lists, acts, mem, plain, seqs, maps, cells, resL, resV, intBin, ↓reduceIte, Nat.reduceAdd, Nat.reduceSub, Nat.reduceMul, Nat.reduceLeDiff, Nat.reduceEqDiff, Int.reduceToNat, Int.reduceEq, Int.reduceLT, Int.reduceLE, Int.reduceNeg, Int.reduceAdd, Int.reduceSub, Int.reduceMul, Nat.reducePow, Int.reduceNegSucc, e1, zp]
      refine newB_intro fun j7 hj7 => ?_
      simp only [subs] at hj7
      have sx := pairsP_small okp (List.getElem_mem hi2)
      have hb3 := encIs_hd (l := flatP (w.pairs.take i)) (n := w.pairs.length) (flatP_small fun x hx => pairsP_small okp (List.mem_of_mem_take hx))
      rw [flatP_len, List.length_take] at hb3
      generalize hxx : w.pairs[i] = px at *
      simp only [walk, lists, acts, mem, plain, seqs, maps, cells, resL, resV, intBin, ↓reduceIte, Nat.reduceAdd, Nat.reduceSub, Nat.reduceMul, Nat.reduceLeDiff, Nat.reduceEqDiff, Int.reduceToNat, Int.reduceEq, Int.reduceLT, Int.reduceLE, Int.reduceNeg, Int.reduceAdd, Int.reduceSub, Int.reduceMul, Nat.reducePow, Int.reduceNegSucc, wPair]
      refine newB_intro (o := blk (fl eI [px.1, px.2]) 3) fun j8 hj8 => ?_
      simp only [subs] at hj8
      have jp8 : jp ≠ j8 ∧ j7 ≠ j8 ∧ jp ≠ j7 := ⟨Ne.symm hj8.2.2.1, Ne.symm hj8.1, Ne.symm hj7.2.1⟩
      simp only [walk, lists, acts, mem, plain, seqs, maps, cells, resL, resV, intBin, ↓reduceIte, Nat.reduceAdd, Nat.reduceSub, Nat.reduceMul, Nat.reduceLeDiff, Nat.reduceEqDiff, Int.reduceToNat, Int.reduceEq, Int.reduceLT, Int.reduceLE, Int.reduceNeg, Int.reduceAdd, Int.reduceSub, Int.reduceMul, Nat.reducePow, Int.reduceNegSucc]
      refine HCalls.drop ((penNumbers_c (g := g') (h := (j8, blk (fl eI [px.1, px.2]) 3) :: hB) o' (fun q => by simp only [subs, x', hj8]) (by simp only [subs, jp8, hjpB]) (rI_lit [px.1, px.2]) (by rw [List.length_append]; omega) (fun x hx => by
          simp only [List.mem_cons, List.not_mem_nil, or_false] at hx
          rcases hx with rfl | rfl
          · exact sx.1
          · exact sx.2) (by simp) fun v2 g2 o2 d2 => ⟨g2 ++ ((jp, blk [v2] 75) :: hB), ?_, ?_⟩).weaken ?_)
      · (repeat' first | exact Sub.refl _ | exact Sub.nil _ | assumption | refine Sub.both ?_ ?_ | refine Sub.cons_of (by simp only [subs, hj8, jp8, x', hjpB, hj7]) ?_ | exact Sub.left _ _ | refine Sub.app (by simp only [subs, hj8, jp8, x', hjpB, hj7]) ?_ | refine Sub.cons (by simp only [subs, hj8, jp8, x', hjpB, hj7]) ?_)
      · have e1 := d2 v2
        simp only [subs] at e1
        (repeat' first | exact Sub.refl _ | exact Sub.nil _ | assumption | refine Sub.both ?_ ?_ | refine Sub.cons_of (by simp only [subs, e1, jp8, hj8, hjpB]) ?_ | exact Sub.left _ _ | refine Sub.app (by simp only [subs, e1, jp8, hj8, hjpB]) ?_ | refine Sub.cons (by simp only [subs, e1, jp8, hj8, hjpB]) ?_)
      simp (disch := omega) only [walk, lists, acts, mem, plain, seqs, maps, cells, resL, resV, intBin, ↓reduceIte, Nat.reduceAdd, Nat.reduceSub, Nat.reduceMul, Nat.reduceLeDiff, Nat.reduceEqDiff, Int.reduceToNat, Int.reduceEq, Int.reduceLT, Int.reduceLE, Int.reduceNeg, Int.reduceAdd, Int.reduceSub, Int.reduceMul, Nat.reducePow, Int.reduceNegSucc, wrapI]
      refine ⟨w.pairs.length - (i + 1), by omega, _, .refl _, i + 1, v2, g2, by simp, rfl, fun q => ?_, ?_, by omega, rfl⟩
      · have := d2 q
        simp only [subs] at this ⊢
        exact ⟨this.1, this.2.2⟩
      · rw [take_app_one hi2, hxx, flatP_app, flatP_one, ← List.cons_append, encIs_app, ← List.append_assoc]; exact o2
    · have hi2 : w.pairs.take i = w.pairs := List.take_of_length_le (by omega)
      rw [hi2, hpre] at o'
      refine ⟨g' ++ h, ?_, kok ok v' g' o' (x'.2.2.2.sub (.refl _) sB)⟩
      exact Sub.both (Sub.left _ _) (sB.trans ((Sub.cons hjpB (Sub.refl _)).trans (Sub.right (dj' _))))
  · have hy : (0 : Int) = yesN w.yes := by rw [ey]; rfl
    refine newB_intro fun j2 hj2 => ?_
    have n2 := fresh hj2
    have n2' := fresh n2.2.2
    simp only [walk, lists, acts, mem, plain, seqs, maps, cells, resL, resV, intBin, ↓reduceIte, Nat.reduceAdd, Nat.reduceSub, Nat.reduceMul, Nat.reduceLeDiff, Nat.reduceEqDiff, Int.reduceToNat, Int.reduceEq, Int.reduceLT, Int.reduceLE, Int.reduceNeg, Int.reduceAdd, Int.reduceSub, Int.reduceMul, Nat.reducePow, Int.reduceNegSucc, zc, wWord, wCall, n2.1, n2.2.1, n2'.1, n2'.2.1, n1.1, n1.2.1]
    refine newB_intro (o := blk (fl eI [w.kind, w.from_, w.to, w.stamp, w.try_, w.what, 0, w.code]) 3) fun j3 hj3 => ?_
    have n3 := fresh hj3
    have n3' := fresh n3.2.2
    have n3'' := fresh n3'.2.2
    simp only [walk, lists, acts, mem, plain, seqs, maps, cells, resL, resV, intBin, ↓reduceIte, Nat.reduceAdd, Nat.reduceSub, Nat.reduceMul, Nat.reduceLeDiff, Nat.reduceEqDiff, Int.reduceToNat, Int.reduceEq, Int.reduceLT, Int.reduceLE, Int.reduceNeg, Int.reduceAdd, Int.reduceSub, Int.reduceMul, Nat.reducePow, Int.reduceNegSucc, zc, wWord, wCall, n2.1, n2.2.1, n2'.1, n2'.2.1, n1.1, n1.2.1]
    obtain ⟨hB, ehB⟩ : ∃ hB, hB = (j2, blk (cCall w.call) 26) :: (j, blk (cWord w s p v) 28) :: h := ⟨_, rfl⟩
    have rj : ∀ k, hcel hB j k = (cWord w s p v)[k]? := fun k => by rw [ehB, hcel_next _ _ _ _ n2'.1, hcel_same]
    have rc : ∀ k, hcel hB j2 k = (cCall w.call)[k]? := fun k => by rw [ehB, hcel_same]
    have hjpB : hget hB jp = none := by rw [ehB]; simp only [subs, n1, n2, n2', hjp]
    have hj3B : hget hB j3 = none := by rw [ehB]; simp only [subs, n3, n3', n3'']
    have hjB : hget hB j ≠ none := by rw [ehB, hget_next _ _ _ n2'.1, hget_same]; simp
    have hj2B : hget hB j2 ≠ none := by rw [ehB, hget_same]; simp
    have sB : Tk.Sub h hB := by rw [ehB]; exact Sub.cons (by simp only [subs, n2', n2, hjp]) (sj _)
    have rs : sWord hB w s p v := sWord.sub sB r
    have sm := headW_small ok
    have sm1 : allP smallP [w.kind, w.from_, w.to, w.stamp, w.try_, w.what, 0, w.code] := fun x hx => sm x (by rw [headW, ← hy]; simp only [List.mem_cons, List.not_mem_nil, or_false] at hx ⊢; rcases hx with h | h | h | h | h | h | h | h <;> simp [h])
    have sm2 : allP smallP [w.call.session, w.call.number, w.call.kind, w.call.slot, w.call.to, (w.call.text.length : Int)] := fun x hx => sm x (by rw [headW]; simp only [List.mem_cons, List.not_mem_nil, or_false] at hx ⊢; rcases hx with h | h | h | h | h | h <;> simp [h])
    have jpn : jp ≠ j3 ∧ j3 ≠ jp := ⟨n3'.1, n3'.2.1⟩
    refine HCalls.drop ((penNumbers_c (pv := .slice none 0 0) (l := []) (g := []) (h := (j3, blk (fl eI [w.kind, w.from_, w.to, w.stamp, w.try_, w.what, 0, w.code]) 3) :: hB) (ows.nil _ _) (fun q => Dj.nil _) (by simp only [subs, jpn, hjpB]) (rI_lit [w.kind, w.from_, w.to, w.stamp, w.try_, w.what, 0, w.code]) (by simp) sm1 (by simp) fun pv1 g1 o1 d1 => ⟨g1 ++ ((jp, blk [pv1] 75) :: hB), ?_, ?_⟩).weaken ?_)
    · rw [ehB]
      simp only [List.nil_append]
      (repeat' first | exact Sub.refl _ | exact Sub.nil _ | assumption | refine Sub.both ?_ ?_ | refine Sub.cons_of (by simp only [subs, n1, n2, n2', n3, n3', n3'', jpn, hj, hjp]) ?_ | exact Sub.left _ _ | refine Sub.app (by simp only [subs, n1, n2, n2', n3, n3', n3'', jpn, hj, hjp]) ?_ | refine Sub.cons (by simp only [subs, n1, n2, n2', n3, n3', n3'', jpn, hj, hjp]) ?_)
    · have e1 := d1 pv1
      simp only [subs] at e1
      (repeat' first | exact Sub.refl _ | exact Sub.nil _ | assumption | refine Sub.both ?_ ?_ | refine Sub.cons_of (by simp only [subs, e1, jpn, hjpB, hj3B]) ?_ | exact Sub.left _ _ | refine Sub.app (by simp only [subs, e1, jpn, hjpB, hj3B]) ?_ | refine Sub.cons (by simp only [subs, e1, jpn, hjpB, hj3B]) ?_)
    have dB : ∀ {g : H}, (∀ q, Dj g ((jp, blk [q] 75) :: (j3, blk (fl eI [w.kind, w.from_, w.to, w.stamp, w.try_, w.what, 0, w.code]) 3) :: hB)) → ∀ q, Dj g ((jp, blk [q] 75) :: hB) := fun d q => by
      have := d q
      simp only [subs] at this ⊢
      exact ⟨this.1, this.2.2⟩
    have gj2 : ∀ {g : H}, (∀ q, Dj g ((jp, blk [q] 75) :: hB)) → hget g j2 = none ∧ hget g j = none ∧ hget g jp = none ∧ Dj g hB := fun d => by
      have := d (.slice none 0 0)
      simp only [subs] at this
      exact ⟨this.2.of hj2B, this.2.of hjB, this.1, this.2⟩
    have dB1 := dB d1
    have x1 := gj2 dB1
    have njp : j ≠ jp ∧ jp ≠ j ∧ jp ≠ j2 ∧ j2 ≠ jp := ⟨n1.1, n1.2.1, n2.1, n2.2.1⟩
    simp only [walk, lists, acts, mem, plain, seqs, maps, cells, resL, resV, intBin, ↓reduceIte, Nat.reduceAdd, Nat.reduceSub, Nat.reduceMul, Nat.reduceLeDiff, Nat.reduceEqDiff, Int.reduceToNat, Int.reduceEq, Int.reduceLT, Int.reduceLE, Int.reduceNeg, Int.reduceAdd, Int.reduceSub, Int.reduceMul, Nat.reducePow, Int.reduceNegSucc, apps, x1, njp, rj, rc, wWord, wCall]
    refine newB_intro (o := blk (fl eI [w.call.session, w.call.number, w.call.kind, w.call.slot, w.call.to, (w.call.text.length : Int)]) 3) fun j5 hj5 => ?_
    simp only [subs] at hj5
    have jp5 : jp ≠ j5 := Ne.symm hj5.2.1
    simp only [walk, lists, acts, mem, plain, seqs, maps, cells, resL, resV, intBin, ↓reduceIte, Nat.reduceAdd, Nat.reduceSub, Nat.reduceMul, Nat.reduceLeDiff, Nat.reduceEqDiff, Int.reduceToNat, Int.reduceEq, Int.reduceLT, Int.reduceLE, Int.reduceNeg, Int.reduceAdd, Int.reduceSub, Int.reduceMul, Nat.reducePow, Int.reduceNegSucc]
    have hle1 := encIs_len sm1
    refine HCalls.drop ((penNumbers_c (g := g1) (h := (j5, blk (fl eI [w.call.session, w.call.number, w.call.kind, w.call.slot, w.call.to, (w.call.text.length : Int)]) 3) :: hB) o1 (fun q => by simp only [subs, x1, hj5]) (by simp only [subs, jp5, hjpB]) (rI_lit [w.call.session, w.call.number, w.call.kind, w.call.slot, w.call.to, (w.call.text.length : Int)]) (by simp at hle1 ⊢; omega) sm2 (by simp) fun pv2 g2 o2 d2 => ⟨g2 ++ ((jp, blk [pv2] 75) :: hB), ?_, ?_⟩).weaken ?_)
    · (repeat' first | exact Sub.refl _ | exact Sub.nil _ | assumption | refine Sub.both ?_ ?_ | refine Sub.cons_of (by simp only [subs, hj5, jp5, x1, hjpB]) ?_ | exact Sub.left _ _ | refine Sub.app (by simp only [subs, hj5, jp5, x1, hjpB]) ?_ | refine Sub.cons (by simp only [subs, hj5, jp5, x1, hjpB]) ?_)
    · have e1 := d2 pv2
      simp only [subs] at e1
      (repeat' first | exact Sub.refl _ | exact Sub.nil _ | assumption | refine Sub.both ?_ ?_ | refine Sub.cons_of (by simp only [subs, e1, jp5, hj5, hjpB]) ?_ | exact Sub.left _ _ | refine Sub.app (by simp only [subs, e1, jp5, hj5, hjpB]) ?_ | refine Sub.cons (by simp only [subs, e1, jp5, hj5, hjpB]) ?_)
    have dB2 : ∀ q, Dj g2 ((jp, blk [q] 75) :: hB) := fun q => by
      have := d2 q
      simp only [subs] at this ⊢
      exact ⟨this.1, this.2.2⟩
    have x2 := gj2 dB2
    simp only [walk, lists, acts, mem, plain, seqs, maps, cells, resL, resV, intBin, ↓reduceIte, Nat.reduceAdd, Nat.reduceSub, Nat.reduceMul, Nat.reduceLeDiff, Nat.reduceEqDiff, Int.reduceToNat, Int.reduceEq, Int.reduceLT, Int.reduceLE, Int.reduceNeg, Int.reduceAdd, Int.reduceSub, Int.reduceMul, Nat.reducePow, Int.reduceNegSucc, apps, x2, njp, rj, rc, wWord, wCall]
    have hH : ([] : List UInt8) ++ encIs [w.kind, w.from_, w.to, w.stamp, w.try_, w.what, 0, w.code] ++ encIs [w.call.session, w.call.number, w.call.kind, w.call.slot, w.call.to, (w.call.text.length : Int)] = encIs (headW w) := by
      rw [List.nil_append, ← encIs_app, headW, ← hy]; rfl
    rw [hH] at o2
    have hct : w.call.text.length ≤ 80 := ok.2.2.2.2.2.2.2.2.2.2.2.2.2.2.2
    have hle : (encIs (headW w)).length ≤ 42 := encIs_len sm
    refine app_text tPen tText iByte (Sub.refl _) (dB2 _) o2 (by omega) (by omega) fun pv3 g3 o3 d3 => ?_
    have e3 := d3
    simp only [subs] at e3
    have one3 := o3.rd.one
    have vc3 := vcells_one1 one3
    have dB3 : ∀ q, Dj g3 ((jp, blk [q] 75) :: hB) := fun q => by simp only [subs, e3]
    have x3 := gj2 dB3
    simp only [walk, lists, acts, mem, plain, seqs, maps, cells, resL, resV, intBin, ↓reduceIte, Nat.reduceAdd, Nat.reduceSub, Nat.reduceMul, Nat.reduceLeDiff, Nat.reduceEqDiff, Int.reduceToNat, Int.reduceEq, Int.reduceLT, Int.reduceLE, Int.reduceNeg, Int.reduceAdd, Int.reduceSub, Int.reduceMul, Nat.reducePow, Int.reduceNegSucc, apps, x3, njp, rj, rc, wWord, wCall, one3, vc3]
    obtain ⟨w1, w2, w3⟩ := hw
    have b1 := encIs_hd (n := w.slots.length) (slotsP_small ok.2.2.2.2.2.2.1)
    have b2 := encIs_hd (n := w.vals.length) (valsP_small ok.2.2.2.2.2.2.2.2.2.1)
    refine penCounted_c o3 dB3 hjpB rs.1 (by rw [List.length_append]; omega) (slotsP_small ok.2.2.2.2.2.2.1) w1 fun pv4 g4 o4 dB4 => ?_
    have x4 := gj2 dB4
    simp only [walk, lists, acts, mem, plain, seqs, maps, cells, resL, resV, intBin, ↓reduceIte, Nat.reduceAdd, Nat.reduceSub, Nat.reduceMul, Nat.reduceLeDiff, Nat.reduceEqDiff, Int.reduceToNat, Int.reduceEq, Int.reduceLT, Int.reduceLE, Int.reduceNeg, Int.reduceAdd, Int.reduceSub, Int.reduceMul, Nat.reducePow, Int.reduceNegSucc, apps, x4, njp, rj, rc, wWord, wCall]
    refine penCounted_c o4 dB4 hjpB rs.2.2 (by simp only [List.length_append]; omega) (valsP_small ok.2.2.2.2.2.2.2.2.2.1) w3 fun pv5 g5 o5 dB5 => ?_
    have x5 := gj2 dB5
    simp only [walk, lists, acts, mem, plain, seqs, maps, cells, resL, resV, intBin, ↓reduceIte, Nat.reduceAdd, Nat.reduceSub, Nat.reduceMul, Nat.reduceLeDiff, Nat.reduceEqDiff, Int.reduceToNat, Int.reduceEq, Int.reduceLT, Int.reduceLE, Int.reduceNeg, Int.reduceAdd, Int.reduceSub, Int.reduceMul, Nat.reducePow, Int.reduceNegSucc, apps, x5, njp, rj, rc, wWord, wCall, rs.2.1.len]
    refine penNumber_c o5 dB5 (by simp only [List.length_append]; omega) (by omega) fun pv6 g6 o6 dB6 => ?_
    have x6 := gj2 dB6
    simp only [walk, lists, acts, mem, plain, seqs, maps, cells, resL, resV, intBin, ↓reduceIte, Nat.reduceAdd, Nat.reduceSub, Nat.reduceMul, Nat.reduceLeDiff, Nat.reduceEqDiff, Int.reduceToNat, Int.reduceEq, Int.reduceLT, Int.reduceLE, Int.reduceNeg, Int.reduceAdd, Int.reduceSub, Int.reduceMul, Nat.reducePow, Int.reduceNegSucc, apps, x6, njp, rj, rc, wWord, wCall, rs.2.1.len]
    have okp : pairsP w.pairs := ok.2.2.2.2.2.2.2.1
    obtain ⟨pre, hpre⟩ : ∃ pre, pre = encIs (headW w) ++ w.call.text ++ encIs ((w.slots.length : Int) :: w.slots) ++ encIs ((w.vals.length : Int) :: w.vals) := ⟨_, rfl⟩
    have hp32 := okp.1
    have hprel : pre.length ≤ 12000000000000 := by rw [hpre]; simp only [List.length_append]; omega
    rw [← hpre] at o6
    refine vc_loop [64] (fun n' vs h' => ∃ (i : Nat) (v' : Value) (g' : H), vs = [.int .i64 i] ∧ h' = g' ++ ((jp, blk [v'] 75) :: hB) ∧ (∀ q, Dj g' ((jp, blk [q] 75) :: hB)) ∧ oLs 5 eB 1 v' (pre ++ encIs ((w.pairs.length : Int) :: flatP (w.pairs.take i))) g' ∧ i ≤ w.pairs.length ∧ n' = w.pairs.length - i) w.pairs.length rfl
      ⟨0, pv6, g6, rfl, rfl, dB6, by rw [List.take_zero, flatP_nil, encIs_one]; exact o6, by omega, rfl⟩ ?_
    rintro n' f h' ⟨i, v', g', hv, rfl, dj', o', hi, rfl⟩
    simp only [List.map_cons, List.map_nil, List.cons.injEq, and_true] at hv
    have x' := gj2 dj'
    simp only [walk, lists, acts, mem, plain, seqs, maps, cells, resL, resV, intBin, ↓reduceIte, Nat.reduceAdd, Nat.reduceSub, Nat.reduceMul, Nat.reduceLeDiff, Nat.reduceEqDiff, Int.reduceToNat, Int.reduceEq, Int.reduceLT, Int.reduceLE, Int.reduceNeg, Int.reduceAdd, Int.reduceSub, Int.reduceMul, Nat.reducePow, Int.reduceNegSucc, wr, hv, apps, x', njp, rj, wWord]
    refine ite_lt (fun c1 => ?_) fun c1 => ?_
    · have hi2 : i < w.pairs.length := by omega
      have rM : rPairs (g' ++ ((jp, blk [v'] 75) :: hB)) p w.pairs := rs.2.1.sub ((Sub.cons hjpB (Sub.refl _)).trans (Sub.right (dj' _)))
      refine idx_leaf (i := i) eP_len rM rfl hi2 fun bb1 oo1 e1 => ?_
      have zp : [Value.int .i64 0, .int .i64 0] = eP (0, 0) := rfl
      simp only [walk, lists, acts, mem, plain, seqs, maps, cells, resL, resV, intBin, ↓reduceIte, Nat.reduceAdd, Nat.reduceSub, Nat.reduceMul, Nat.reduceLeDiff, Nat.reduceEqDiff, Int.reduceToNat, Int.reduceEq, Int.reduceLT, Int.reduceLE, Int.reduceNeg, Int.reduceAdd, Int.reduceSub, Int.reduceMul, Nat.reducePow, Int.reduceNegSucc, e1, zp]
      refine newB_intro fun j7 hj7 => ?_
      simp only [subs] at hj7
      have sx := pairsP_small okp (List.getElem_mem hi2)
      have hb3 := encIs_hd (l := flatP (w.pairs.take i)) (n := w.pairs.length) (flatP_small fun x hx => pairsP_small okp (List.mem_of_mem_take hx))
      rw [flatP_len, List.length_take] at hb3
      generalize hxx : w.pairs[i] = px at *
      simp only [walk, lists, acts, mem, plain, seqs, maps, cells, resL, resV, intBin, ↓reduceIte, Nat.reduceAdd, Nat.reduceSub, Nat.reduceMul, Nat.reduceLeDiff, Nat.reduceEqDiff, Int.reduceToNat, Int.reduceEq, Int.reduceLT, Int.reduceLE, Int.reduceNeg, Int.reduceAdd, Int.reduceSub, Int.reduceMul, Nat.reducePow, Int.reduceNegSucc, wPair]
      refine newB_intro (o := blk (fl eI [px.1, px.2]) 3) fun j8 hj8 => ?_
      simp only [subs] at hj8
      have jp8 : jp ≠ j8 ∧ j7 ≠ j8 ∧ jp ≠ j7 := ⟨Ne.symm hj8.2.2.1, Ne.symm hj8.1, Ne.symm hj7.2.1⟩
      simp only [walk, lists, acts, mem, plain, seqs, maps, cells, resL, resV, intBin, ↓reduceIte, Nat.reduceAdd, Nat.reduceSub, Nat.reduceMul, Nat.reduceLeDiff, Nat.reduceEqDiff, Int.reduceToNat, Int.reduceEq, Int.reduceLT, Int.reduceLE, Int.reduceNeg, Int.reduceAdd, Int.reduceSub, Int.reduceMul, Nat.reducePow, Int.reduceNegSucc]
      refine HCalls.drop ((penNumbers_c (g := g') (h := (j8, blk (fl eI [px.1, px.2]) 3) :: hB) o' (fun q => by simp only [subs, x', hj8]) (by simp only [subs, jp8, hjpB]) (rI_lit [px.1, px.2]) (by rw [List.length_append]; omega) (fun x hx => by
          simp only [List.mem_cons, List.not_mem_nil, or_false] at hx
          rcases hx with rfl | rfl
          · exact sx.1
          · exact sx.2) (by simp) fun v2 g2 o2 d2 => ⟨g2 ++ ((jp, blk [v2] 75) :: hB), ?_, ?_⟩).weaken ?_)
      · (repeat' first | exact Sub.refl _ | exact Sub.nil _ | assumption | refine Sub.both ?_ ?_ | refine Sub.cons_of (by simp only [subs, hj8, jp8, x', hjpB, hj7]) ?_ | exact Sub.left _ _ | refine Sub.app (by simp only [subs, hj8, jp8, x', hjpB, hj7]) ?_ | refine Sub.cons (by simp only [subs, hj8, jp8, x', hjpB, hj7]) ?_)
      · have e1 := d2 v2
        simp only [subs] at e1
        (repeat' first | exact Sub.refl _ | exact Sub.nil _ | assumption | refine Sub.both ?_ ?_ | refine Sub.cons_of (by simp only [subs, e1, jp8, hj8, hjpB]) ?_ | exact Sub.left _ _ | refine Sub.app (by simp only [subs, e1, jp8, hj8, hjpB]) ?_ | refine Sub.cons (by simp only [subs, e1, jp8, hj8, hjpB]) ?_)
      simp (disch := omega) only [walk, lists, acts, mem, plain, seqs, maps, cells, resL, resV, intBin, ↓reduceIte, Nat.reduceAdd, Nat.reduceSub, Nat.reduceMul, Nat.reduceLeDiff, Nat.reduceEqDiff, Int.reduceToNat, Int.reduceEq, Int.reduceLT, Int.reduceLE, Int.reduceNeg, Int.reduceAdd, Int.reduceSub, Int.reduceMul, Nat.reducePow, Int.reduceNegSucc, wrapI]
      refine ⟨w.pairs.length - (i + 1), by omega, _, .refl _, i + 1, v2, g2, by simp, rfl, fun q => ?_, ?_, by omega, rfl⟩
      · have := d2 q
        simp only [subs] at this ⊢
        exact ⟨this.1, this.2.2⟩
      · rw [take_app_one hi2, hxx, flatP_app, flatP_one, ← List.cons_append, encIs_app, ← List.append_assoc]; exact o2
    · have hi2 : w.pairs.take i = w.pairs := List.take_of_length_le (by omega)
      rw [hi2, hpre] at o'
      refine ⟨g' ++ h, ?_, kok ok v' g' o' (x'.2.2.2.sub (.refl _) sB)⟩
      exact Sub.both (Sub.left _ _) (sB.trans ((Sub.cons hjpB (Sub.refl _)).trans (Sub.right (dj' _))))
end Go.Proofs.Ytllhdnfcneejaaa
end

/- How the program reads numbers. -/
section
set_option linter.unusedVariables false
set_option linter.unusedSimpArgs false
set_option maxRecDepth 20000
attribute [local irreducible] Go.Tk.vc Go.Tk.vops Go.Tk.vdr Go.Tk.vop Go.Tk.vfl Go.Tk.HCalls
namespace Go.Proofs.Ytllhdnfcneejaaa
open Go Go.Tk

/-- A fault, and where it is. -/
def errV : Option (Nat × Int) → Value
  | none => .nilIface
  | some (a, f) => .iface 129 (.agg #[.int .i64 a, .iface 56 (.int .i64 f)])
theorem errV_one (e : Option (Nat × Int)) : vone (errV e) = true := by
  cases e with
  | none => rfl
  | some p => obtain ⟨a, f⟩ := p; rfl
/-- The program's reader's cells. -/
def cu (bv : Value) (at_ : Nat) (e : Value) : List Value := [bv, .int .i64 at_, e]
theorem w_cu : (∀ b a d, (cu b a d).length = 3) ∧ (∀ b a d, (cu b a d)[0]? = some b) ∧ (∀ b a d, (cu b a d)[1]? = some (.int .i64 a)) ∧ (∀ b a d, (cu b a d)[2]? = some d) ∧
    (∀ b a d (n : Nat), splice (cu b a d) 1 [.int .i64 n] = cu b n d) ∧ (∀ b a d e, splice (cu b a d) 2 [e] = cu b a e) :=
  ⟨fun _ _ _ => rfl, fun _ _ _ => rfl, fun _ _ _ => rfl, fun _ _ _ => rfl, fun _ _ _ _ => rfl, fun _ _ _ _ => rfl⟩

theorem fail_c {h0 : H} {j at_ : Nat} {bv : Value} {e : Option (Nat × Int)} {f : Int} {R : Ending → H → Prop}
    (k : R (.returned (.tuple #[])) ((j, blk (cu bv at_ (errV (e.or (some (at_, f))))) 54) :: h0)) :
    HCalls Try.prog 77 #[.pointer (some ⟨j, 0, none⟩), .int .i64 f] ((j, blk (cu bv at_ (errV e)) 54) :: h0) R := by
  refine HCalls_ir (args := [.pointer (some ⟨j, 0, none⟩), .int .i64 f]) Try.func77 ir77 ?_
  cases e with
  | none =>
    simp only [walk, lists, acts, mem, plain, seqs, maps, cells, resL, resV, intBin, ↓reduceIte, Nat.reduceAdd, Nat.reduceSub, Nat.reduceMul, Nat.reduceLeDiff, Nat.reduceEqDiff, Int.reduceToNat, Int.reduceEq, Int.reduceLT, Int.reduceLE, Int.reduceNeg, Int.reduceAdd, Int.reduceSub, Int.reduceMul, Nat.reducePow, Int.reduceNegSucc, w_cu, errV]
    exact ⟨rfl, .of k⟩
  | some p =>
    obtain ⟨a, f'⟩ := p
    simp only [walk, lists, acts, mem, plain, seqs, maps, cells, resL, resV, intBin, ↓reduceIte, Nat.reduceAdd, Nat.reduceSub, Nat.reduceMul, Nat.reduceLeDiff, Nat.reduceEqDiff, Int.reduceToNat, Int.reduceEq, Int.reduceLT, Int.reduceLE, Int.reduceNeg, Int.reduceAdd, Int.reduceSub, Int.reduceMul, Nat.reducePow, Int.reduceNegSucc, w_cu, errV]
    exact .of k

theorem and127b (x : Nat) (h : x < 256) : IntKind.u8.wrap ((BitVec.ofInt IntKind.u8.bits (x : Int) &&& BitVec.ofInt IntKind.u8.bits 127).toNat : Int) = ((x % 128 : Nat) : Int) := by
  have e : (BitVec.ofInt IntKind.u8.bits (x : Int) &&& BitVec.ofInt IntKind.u8.bits 127).toNat = x % 128 := by
    rw [BitVec.toNat_and, BitVec.toNat_ofInt, BitVec.toNat_ofInt]
    show ((x : Int) % (2 ^ 8 : Nat)).toNat &&& ((127 : Int) % (2 ^ 8 : Nat)).toNat = x % 128
    have h1 : ((x : Int) % (2 ^ 8 : Nat)).toNat = x := by
      rw [show ((2 ^ 8 : Nat) : Int) = 256 from rfl]; omega
    rw [h1, show ((127 : Int) % (2 ^ 8 : Nat)).toNat = 2 ^ 7 - 1 from rfl, Nat.and_two_pow_sub_one_eq_mod]
  rw [e, u8_wrap]; omega
theorem or64 (a b s : Nat) (ha : a < 2 ^ s) (hs : a + b * 2 ^ s < 18446744073709551616) : IntKind.u64.wrap ((BitVec.ofInt IntKind.u64.bits (a : Int) ||| BitVec.ofInt IntKind.u64.bits ((b * 2 ^ s : Nat) : Int)).toNat : Int) = ((a + b * 2 ^ s : Nat) : Int) := by
  have e : (BitVec.ofInt IntKind.u64.bits (a : Int) ||| BitVec.ofInt IntKind.u64.bits ((b * 2 ^ s : Nat) : Int)).toNat = a + b * 2 ^ s := by
    rw [BitVec.toNat_or, BitVec.toNat_ofInt, BitVec.toNat_ofInt]
    show ((a : Int) % (2 ^ 64 : Nat)).toNat ||| (((b * 2 ^ s : Nat) : Int) % (2 ^ 64 : Nat)).toNat = a + b * 2 ^ s
    have h1 : ((a : Int) % (2 ^ 64 : Nat)).toNat = a := by
      rw [show ((2 ^ 64 : Nat) : Int) = 18446744073709551616 from rfl]; omega
    have h2 : (((b * 2 ^ s : Nat) : Int) % (2 ^ 64 : Nat)).toNat = b * 2 ^ s := by
      rw [show ((2 ^ 64 : Nat) : Int) = 18446744073709551616 from rfl]; omega
    rw [h1, h2, ← Nat.shiftLeft_eq, Nat.or_comm, ← Nat.shiftLeft_add_eq_or_of_lt ha, Nat.add_comm]
  rw [e, wrapU _ (by omega)]
end Go.Proofs.Ytllhdnfcneejaaa
end

/- How the program reads a number. -/
section
set_option linter.unusedVariables false
set_option linter.unusedSimpArgs false
set_option maxRecDepth 20000
attribute [local irreducible] Go.Tk.vc Go.Tk.vops Go.Tk.vdr Go.Tk.vop Go.Tk.vfl Go.Tk.HCalls
namespace Go.Proofs.Ytllhdnfcneejaaa
open Go Go.Tk

def okE (e : Option (Nat × Int)) : Prop := ∀ a f, e = some (a, f) → f = 1 ∨ f = 2

theorem number_c {h0 : H} {j at_ : Nat} {bv : Value} {l : List UInt8} {e : Option (Nat × Int)} (hj : hget h0 j = none) (rb : rBytes h0 bv l) (hl : l.length ≤ 1099511627776) (ha : at_ ≤ l.length) (he : okE e) {R : Ending → H → Prop}
    (k : ∀ (n : Int) (at' : Nat) (e' : Option (Nat × Int)), at' ≤ l.length → -72057594037927936 ≤ n ∧ n ≤ 72057594037927936 → okE e' → (e' = none → e = none) → (e = none → ∀ m r, Num (l.drop at_) m r → n = unzig m ∧ l.drop at' = r ∧ e' = none) →
      R (.returned (.int .i64 n)) ((j, blk (cu bv at' (errV e')) 54) :: h0)) :
    HCalls Try.prog 93 #[.pointer (some ⟨j, 0, none⟩)] ((j, blk (cu bv at_ (errV e)) 54) :: h0) R := by
  refine HCalls_ir (args := [.pointer (some ⟨j, 0, none⟩)]) Try.func93 ir93 ?_
  simp only [walk, lists, acts, mem, plain, seqs, maps, cells, resL, resV, intBin, ↓reduceIte, Nat.reduceAdd, Nat.reduceSub, Nat.reduceMul, Nat.reduceLeDiff, Nat.reduceEqDiff, Int.reduceToNat, Int.reduceEq, Int.reduceLT, Int.reduceLE, Int.reduceNeg, Int.reduceAdd, Int.reduceSub, Int.reduceMul, Nat.reducePow, Int.reduceNegSucc, w_cu]
  refine vc_loop [4, 3] (fun n' vs h' => ∃ (i at' a : Nat) (e' : Option (Nat × Int)), vs = [.int .i64 (7 * i : Nat), .int .u64 a] ∧ h' = (j, blk (cu bv at' (errV e')) 54) :: h0 ∧ at' ≤ l.length ∧ i ≤ 8 ∧ n' = 8 - i ∧ a < 2 ^ (7 * i) ∧ e' = e ∧
    (e = none → ∀ m r, Num (l.drop at_) m r → l.drop at' = encN (m / 128 ^ i) ++ r ∧ a = m % 128 ^ i ∧ (0 < i → 128 ^ i ≤ m))) 8 rfl ⟨0, at_, 0, e, rfl, rfl, ha, by omega, rfl, by simp, rfl, fun _ m r nm => ⟨by simpa using nm.1, by simp; omega, fun x => by omega⟩⟩ ?_
  rintro n' f h' ⟨i, at', a, e', hv, rfl, ha', hi, rfl, hai, rfl, ex⟩
  simp only [List.map_cons, List.map_nil, List.cons.injEq, and_true] at hv
  cases e' with
  | some p =>
    obtain ⟨pa, pf⟩ := p
    simp only [walk, lists, acts, mem, plain, seqs, maps, cells, resL, resV, intBin, ↓reduceIte, Nat.reduceAdd, Nat.reduceSub, Nat.reduceMul, Nat.reduceLeDiff, Nat.reduceEqDiff, Int.reduceToNat, Int.reduceEq, Int.reduceLT, Int.reduceLE, Int.reduceNeg, Int.reduceAdd, Int.reduceSub, Int.reduceMul, Nat.reducePow, Int.reduceNegSucc, wr, hv.1, hv.2, w_cu, errV]
    exact .of (k 0 at' (some (pa, pf)) ha' (by omega) he (fun h => by cases h) fun h => by cases h)
  | none =>
    simp only [walk, lists, acts, mem, plain, seqs, maps, cells, resL, resV, intBin, ↓reduceIte, Nat.reduceAdd, Nat.reduceSub, Nat.reduceMul, Nat.reduceLeDiff, Nat.reduceEqDiff, Int.reduceToNat, Int.reduceEq, Int.reduceLT, Int.reduceLE, Int.reduceNeg, Int.reduceAdd, Int.reduceSub, Int.reduceMul, Nat.reducePow, Int.reduceNegSucc, wr, hv.1, hv.2, w_cu, errV]
    refine ⟨rfl, vc_draw _ (Sub.refl _) ?_⟩
    simp only [walk, lists, acts, mem, plain, seqs, maps, cells, resL, resV, intBin, ↓reduceIte, Nat.reduceAdd, Nat.reduceSub, Nat.reduceMul, Nat.reduceLeDiff, Nat.reduceEqDiff, Int.reduceToNat, Int.reduceEq, Int.reduceLT, Int.reduceLE, Int.reduceNeg, Int.reduceAdd, Int.reduceSub, Int.reduceMul, Nat.reducePow, Int.reduceNegSucc, w_cu, rb.len]
    have sj := fun o => Sub.cons (o := o) hj (Sub.refl h0)
    refine ite_pos (fun c1 => ?_) fun c1 => ?_
    · refine fail_c (e := none) (f := 1) ?_
      simp only [walk, lists, acts, mem, plain, seqs, maps, cells, resL, resV, intBin, ↓reduceIte, Nat.reduceAdd, Nat.reduceSub, Nat.reduceMul, Nat.reduceLeDiff, Nat.reduceEqDiff, Int.reduceToNat, Int.reduceEq, Int.reduceLT, Int.reduceLE, Int.reduceNeg, Int.reduceAdd, Int.reduceSub, Int.reduceMul, Nat.reducePow, Int.reduceNegSucc]
      refine .of (k 0 at' (some (at', 1)) ha' (by omega) (fun a f h => by cases h; exact .inl rfl) (fun h => by cases h) fun _ m r nm => ?_)
      have := (ex rfl m r nm).1
      rw [List.drop_eq_nil_of_le (by omega)] at this
      exact absurd (List.append_eq_nil_iff.1 this.symm).1 (encN_ne _)
    · refine ite_lt (fun c2 => ?_) fun c2 => ?_
      · refine fail_c (e := none) (f := 2) ?_
        simp only [walk, lists, acts, mem, plain, seqs, maps, cells, resL, resV, intBin, ↓reduceIte, Nat.reduceAdd, Nat.reduceSub, Nat.reduceMul, Nat.reduceLeDiff, Nat.reduceEqDiff, Int.reduceToNat, Int.reduceEq, Int.reduceLT, Int.reduceLE, Int.reduceNeg, Int.reduceAdd, Int.reduceSub, Int.reduceMul, Nat.reducePow, Int.reduceNegSucc]
        refine .of (k 0 at' (some (at', 2)) ha' (by omega) (fun a f h => by cases h; exact .inr rfl) (fun h => by cases h) fun _ m r nm => ?_)
        have h1 := (ex rfl m r nm).2.2 (by omega)
        have h2 := nm.2
        have h3 : 128 ^ 3 ≤ 128 ^ i := Nat.pow_le_pow_right (by omega) (by omega)
        omega
      · have hlt : at' < l.length := by omega
        refine vc_draw _ (Sub.refl _) ?_
        simp only [walk, lists, acts, mem, plain, seqs, maps, cells, resL, resV, intBin, ↓reduceIte, Nat.reduceAdd, Nat.reduceSub, Nat.reduceMul, Nat.reduceLeDiff, Nat.reduceEqDiff, Int.reduceToNat, Int.reduceEq, Int.reduceLT, Int.reduceLE, Int.reduceNeg, Int.reduceAdd, Int.reduceSub, Int.reduceMul, Nat.reducePow, Int.reduceNegSucc, w_cu]
        refine idx_leaf (i := at') eB_len (rb.sub (sj (blk (cu bv at' .nilIface) 54))) rfl hlt fun b1 o1 e1 => ?_
        have hx : l[at'].toNat < 256 := UInt8.toNat_lt _
        have he1 : eB l[at'] = [.int .u8 l[at'].toNat] := rfl
        rw [he1] at e1
        have st : ∀ m r, Num (l.drop at_) m r → (l[at'].toNat < 128 → a + l[at'].toNat % 128 * 128 ^ i = m ∧ l.drop (at' + 1) = r) ∧ (128 ≤ l[at'].toNat → l.drop (at' + 1) = encN (m / 128 ^ (i + 1)) ++ r ∧ a + l[at'].toNat % 128 * 128 ^ i = m % 128 ^ (i + 1) ∧ 128 ^ (i + 1) ≤ m) := by
          intro m r nm
          obtain ⟨x1, x2, _⟩ := ex rfl m r nm
          rw [List.drop_eq_getElem_cons hlt] at x1
          exact num_step (c := l[at']) (l2 := l.drop (at' + 1)) (r := r) (i := i) (a := a) (m := m) x1 x2
        generalize l[at'].toNat = x at *
        have hi7 : i ≤ 7 := by omega
        have hp : (2 : Nat) ^ (7 * i) ≤ 562949953421312 := by
          have := Nat.pow_le_pow_right (n := 2) (by omega) (by omega : 7 * i ≤ 49)
          exact this
        have hp2 : (128 : Nat) ^ i = 2 ^ (7 * i) := by rw [Nat.pow_mul]
        have hmul : x % 128 * 2 ^ (7 * i) ≤ 127 * 2 ^ (7 * i) := Nat.mul_le_mul_right _ (by omega)
        have hc : (at' : Int) + 1 = ((at' + 1 : Nat) : Int) := by omega
        have hc2 : ((7 * i : Nat) : Int) + 7 = ((7 * (i + 1) : Nat) : Int) := by omega
        have hnn : (((7 * i : Nat) : Int) < 0) = False := by simp; omega
        have hmin : min (7 * i) IntKind.u64.bits = 7 * i := by show min (7 * i) 64 = 7 * i; omega
        have hsh : ((x % 128 : Nat) : Int) * 2 ^ (7 * i) = ((x % 128 * 2 ^ (7 * i) : Nat) : Int) := by simp
        have hor := or64 a (x % 128) (7 * i) hai (by omega)
        simp only [walk, lists, acts, mem, plain, seqs, maps, cells, resL, resV, intBin, ↓reduceIte, Nat.reduceAdd, Nat.reduceSub, Nat.reduceMul, Nat.reduceLeDiff, Nat.reduceEqDiff, Int.reduceToNat, Int.reduceEq, Int.reduceLT, Int.reduceLE, Int.reduceNeg, Int.reduceAdd, Int.reduceSub, Int.reduceMul, Nat.reducePow, Int.reduceNegSucc, w_cu, hread_1 e1]
        rw [and127b x hx]
        simp (disch := omega) only [walk, lists, acts, mem, plain, seqs, maps, cells, resL, resV, intBin, ↓reduceIte, Nat.reduceAdd, Nat.reduceSub, Nat.reduceMul, Nat.reduceLeDiff, Nat.reduceEqDiff, Int.reduceToNat, Int.reduceEq, Int.reduceLT, Int.reduceLE, Int.reduceNeg, Int.reduceAdd, Int.reduceSub, Int.reduceMul, Nat.reducePow, Int.reduceNegSucc, w_cu, wrapI, wrapU, hc, hc2, hnn, hmin, hsh, hor]
        generalize hM : a + x % 128 * 2 ^ (7 * i) = M at *
        have hMb : M ≤ 72057594037927936 := by omega
        rw [hp2] at st
        rw [hM] at st
        rw [tm2]
        by_cases c3 : (x : Int) < 128
        · rw [if_pos c3]
          by_cases c4 : ((M % 2 : Nat) : Int) = 1
          · rw [if_pos c4]
            simp (disch := omega) only [walk, lists, acts, mem, plain, seqs, maps, cells, resL, resV, intBin, ↓reduceIte, Nat.reduceAdd, Nat.reduceSub, Nat.reduceMul, Nat.reduceLeDiff, Nat.reduceEqDiff, Int.reduceToNat, Int.reduceEq, Int.reduceLT, Int.reduceLE, Int.reduceNeg, Int.reduceAdd, Int.reduceSub, Int.reduceMul, Nat.reducePow, Int.reduceNegSucc, wrapI, wrapU, td2]
            refine raw_neg (n := ((M / 2 : Nat) : Int)) (by simp (disch := omega) only [walk, lists, acts, mem, plain, seqs, maps, cells, resL, resV, intBin, ↓reduceIte, Nat.reduceAdd, Nat.reduceSub, Nat.reduceMul, Nat.reduceLeDiff, Nat.reduceEqDiff, Int.reduceToNat, Int.reduceEq, Int.reduceLT, Int.reduceLE, Int.reduceNeg, Int.reduceAdd, Int.reduceSub, Int.reduceMul, Nat.reducePow, Int.reduceNegSucc, wrapI, wrapU, td2]) ?_
            simp (disch := omega) only [walk, lists, acts, mem, plain, seqs, maps, cells, resL, resV, intBin, ↓reduceIte, Nat.reduceAdd, Nat.reduceSub, Nat.reduceMul, Nat.reduceLeDiff, Nat.reduceEqDiff, Int.reduceToNat, Int.reduceEq, Int.reduceLT, Int.reduceLE, Int.reduceNeg, Int.reduceAdd, Int.reduceSub, Int.reduceMul, Nat.reducePow, Int.reduceNegSucc, wrapI]
            refine .of (k _ (at' + 1) none (by omega) (by omega) he (fun h => h) fun _ m r nm => ?_)
            have := (st m r nm).1 (by omega)
            refine ⟨?_, this.2, rfl⟩
            unfold unzig
            rw [← this.1, if_pos (by omega)]
            omega
          · rw [if_neg c4]
            simp (disch := omega) only [walk, lists, acts, mem, plain, seqs, maps, cells, resL, resV, intBin, ↓reduceIte, Nat.reduceAdd, Nat.reduceSub, Nat.reduceMul, Nat.reduceLeDiff, Nat.reduceEqDiff, Int.reduceToNat, Int.reduceEq, Int.reduceLT, Int.reduceLE, Int.reduceNeg, Int.reduceAdd, Int.reduceSub, Int.reduceMul, Nat.reducePow, Int.reduceNegSucc, wrapI, wrapU, td2]
            refine .of (k _ (at' + 1) none (by omega) (by omega) he (fun h => h) fun _ m r nm => ?_)
            have := (st m r nm).1 (by omega)
            refine ⟨?_, this.2, rfl⟩
            unfold unzig
            rw [← this.1, if_neg (by omega)]
        · rw [if_neg c3]
          exact ⟨8 - (i + 1), by omega, _, .refl _, i + 1, at' + 1, M, none, rfl, rfl, by omega, by omega, rfl, by rw [Nat.mul_add, Nat.pow_add]; omega, rfl, fun m r nm => by
            have := (st m r nm).2 (by omega)
            exact ⟨this.1, this.2.1, fun _ => this.2.2⟩⟩
end Go.Proofs.Ytllhdnfcneejaaa
end

/- How the program reads counts, texts and lists. -/
section
set_option linter.unusedVariables false
set_option linter.unusedSimpArgs false
set_option maxRecDepth 20000
attribute [local irreducible] Go.Tk.vc Go.Tk.vops Go.Tk.vdr Go.Tk.vop Go.Tk.vfl Go.Tk.HCalls
namespace Go.Proofs.Ytllhdnfcneejaaa
open Go Go.Tk

theorem count_c {h0 : H} {j at_ : Nat} {bv : Value} {l : List UInt8} {e : Option (Nat × Int)} (hj : hget h0 j = none) (rb : rBytes h0 bv l) (hl : l.length ≤ 1099511627776) (ha : at_ ≤ l.length) (he : okE e) {R : Ending → H → Prop}
    (k : ∀ (n at' : Nat) (e' : Option (Nat × Int)), at' ≤ l.length → n ≤ l.length - at' → okE e' → (e' = none → e = none) → (e = none → ∀ (m : Nat) r, l.drop at_ = encI (m : Int) ++ r → m ≤ 9999 → m ≤ r.length → n = m ∧ l.drop at' = r ∧ e' = none) →
      R (.returned (.int .i64 n)) ((j, blk (cu bv at' (errV e')) 54) :: h0)) :
    HCalls Try.prog 76 #[.pointer (some ⟨j, 0, none⟩)] ((j, blk (cu bv at_ (errV e)) 54) :: h0) R := by
  refine HCalls_ir (args := [.pointer (some ⟨j, 0, none⟩)]) Try.func76 ir76 ?_
  simp only [walk, lists, acts, mem, plain, seqs, maps, cells, resL, resV, intBin, ↓reduceIte, Nat.reduceAdd, Nat.reduceSub, Nat.reduceMul, Nat.reduceLeDiff, Nat.reduceEqDiff, Int.reduceToNat, Int.reduceEq, Int.reduceLT, Int.reduceLE, Int.reduceNeg, Int.reduceAdd, Int.reduceSub, Int.reduceMul, Nat.reducePow, Int.reduceNegSucc, w_cu]
  refine number_c hj rb hl ha he fun n at1 e1 ha1 hn he1 hen ex => ?_
  simp only [walk, lists, acts, mem, plain, seqs, maps, cells, resL, resV, intBin, ↓reduceIte, Nat.reduceAdd, Nat.reduceSub, Nat.reduceMul, Nat.reduceLeDiff, Nat.reduceEqDiff, Int.reduceToNat, Int.reduceEq, Int.reduceLT, Int.reduceLE, Int.reduceNeg, Int.reduceAdd, Int.reduceSub, Int.reduceMul, Nat.reducePow, Int.reduceNegSucc, w_cu]
  have exm : e = none → ∀ (m : Nat) r, l.drop at_ = encI (m : Int) ++ r → m ≤ 9999 → n = m ∧ l.drop at1 = r ∧ e1 = none := fun h m r hx hm => by
    have := ex h (zig (m : Int)) r ⟨hx, small_num ⟨by omega, by omega⟩⟩
    rw [unzig_zig] at this; exact this
  have bad : (∀ (m : Nat) r, l.drop at_ = encI (m : Int) ++ r → m ≤ 9999 → m ≤ r.length → e = none → False) → dP R (.returned (.int .i64 0)) ((j, blk (cu bv at1 (errV (e1.or (some (at1, 1))))) 54) :: h0) := fun no =>
    .of (k 0 at1 (e1.or (some (at1, 1))) ha1 (by omega) (fun a f h => by
      cases e1 with
      | none => cases h; exact .inl rfl
      | some p => exact he1 a f h) (fun h => by cases e1 <;> cases h) fun h m r hx hm hr => (no m r hx hm hr h).elim)
  refine vc_draw _ (Sub.refl _) ?_
  simp only [walk, lists, acts, mem, plain, seqs, maps, cells, resL, resV, intBin, ↓reduceIte, Nat.reduceAdd, Nat.reduceSub, Nat.reduceMul, Nat.reduceLeDiff, Nat.reduceEqDiff, Int.reduceToNat, Int.reduceEq, Int.reduceLT, Int.reduceLE, Int.reduceNeg, Int.reduceAdd, Int.reduceSub, Int.reduceMul, Nat.reducePow, Int.reduceNegSucc, w_cu, rb.len]
  simp (disch := omega) only [wrapI]
  refine ite_lt (fun c1 => ?_) fun c1 => ?_
  · refine fail_c ?_
    simp only [walk, lists, acts, mem, plain, seqs, maps, cells, resL, resV, intBin, ↓reduceIte, Nat.reduceAdd, Nat.reduceSub, Nat.reduceMul, Nat.reduceLeDiff, Nat.reduceEqDiff, Int.reduceToNat, Int.reduceEq, Int.reduceLT, Int.reduceLE, Int.reduceNeg, Int.reduceAdd, Int.reduceSub, Int.reduceMul, Nat.reducePow, Int.reduceNegSucc]
    refine bad fun m r hx hm hr h => ?_
    have := (exm h m r hx hm).1
    omega
  · refine ite_lt (fun c2 => ?_) fun c2 => ?_
    · refine fail_c ?_
      simp only [walk, lists, acts, mem, plain, seqs, maps, cells, resL, resV, intBin, ↓reduceIte, Nat.reduceAdd, Nat.reduceSub, Nat.reduceMul, Nat.reduceLeDiff, Nat.reduceEqDiff, Int.reduceToNat, Int.reduceEq, Int.reduceLT, Int.reduceLE, Int.reduceNeg, Int.reduceAdd, Int.reduceSub, Int.reduceMul, Nat.reducePow, Int.reduceNegSucc]
      refine bad fun m r hx hm hr h => ?_
      obtain ⟨h1, h2, _⟩ := exm h m r hx hm
      have := congrArg List.length h2
      simp only [List.length_drop] at this
      omega
    · have hc : n = ((n.toNat : Nat) : Int) := by omega
      rw [hc]
      refine .of (k n.toNat at1 e1 ha1 (by omega) he1 hen fun h m r hx hm hr => ?_)
      obtain ⟨h1, h2, h3⟩ := exm h m r hx hm
      exact ⟨by omega, h2, h3⟩

theorem implText_c {h0 : H} {j at_ : Nat} {bv : Value} {l : List UInt8} {e : Option (Nat × Int)} (hj : hget h0 j = none) (rb : rBytes h0 bv l) (hl : l.length ≤ 1099511627776) (ha : at_ ≤ l.length) (he : okE e) {R : Ending → H → Prop}
    (k : ∀ (s : List UInt8) (at' : Nat) (e' : Option (Nat × Int)), at' ≤ l.length → s.length ≤ l.length → okE e' → (e' = none → e = none) → (e = none → ∀ t r, l.drop at_ = encI (t.length : Int) ++ (t ++ r) → t.length ≤ 9999 → s = t ∧ l.drop at' = r ∧ e' = none) →
      R (.returned (.string ⟨s.toArray⟩)) ((j, blk (cu bv at' (errV e')) 54) :: h0)) :
    HCalls Try.prog 74 #[.pointer (some ⟨j, 0, none⟩)] ((j, blk (cu bv at_ (errV e)) 54) :: h0) R := by
  refine HCalls_ir (args := [.pointer (some ⟨j, 0, none⟩)]) Try.func74 ir74 ?_
  simp only [walk, lists, acts, mem, plain, seqs, maps, cells, resL, resV, intBin, ↓reduceIte, Nat.reduceAdd, Nat.reduceSub, Nat.reduceMul, Nat.reduceLeDiff, Nat.reduceEqDiff, Int.reduceToNat, Int.reduceEq, Int.reduceLT, Int.reduceLE, Int.reduceNeg, Int.reduceAdd, Int.reduceSub, Int.reduceMul, Nat.reducePow, Int.reduceNegSucc, w_cu]
  refine count_c hj rb hl ha he fun n at1 e1 ha1 hn he1 hen ex => ?_
  have sj := fun o => Sub.cons (o := o) hj (Sub.refl h0)
  have hc : (at1 : Int) + (n : Int) = ((at1 + n : Nat) : Int) := by omega
  simp only [walk, lists, acts, mem, plain, seqs, maps, cells, resL, resV, intBin, ↓reduceIte, Nat.reduceAdd, Nat.reduceSub, Nat.reduceMul, Nat.reduceLeDiff, Nat.reduceEqDiff, Int.reduceToNat, Int.reduceEq, Int.reduceLT, Int.reduceLE, Int.reduceNeg, Int.reduceAdd, Int.reduceSub, Int.reduceMul, Nat.reducePow, Int.reduceNegSucc, w_cu]
  simp (disch := omega) only [walk, lists, acts, mem, plain, seqs, maps, cells, resL, resV, intBin, ↓reduceIte, Nat.reduceAdd, Nat.reduceSub, Nat.reduceMul, Nat.reduceLeDiff, Nat.reduceEqDiff, Int.reduceToNat, Int.reduceEq, Int.reduceLT, Int.reduceLE, Int.reduceNeg, Int.reduceAdd, Int.reduceSub, Int.reduceMul, Nat.reducePow, Int.reduceNegSucc, w_cu, wrapI, hc]
  refine vc_draw _ (Sub.refl _) ?_
  have hc2 : ((at1 + n : Nat) : Int) - (n : Int) = (at1 : Int) := by omega
  simp (disch := omega) only [walk, lists, acts, mem, plain, seqs, maps, cells, resL, resV, intBin, ↓reduceIte, Nat.reduceAdd, Nat.reduceSub, Nat.reduceMul, Nat.reduceLeDiff, Nat.reduceEqDiff, Int.reduceToNat, Int.reduceEq, Int.reduceLT, Int.reduceLE, Int.reduceNeg, Int.reduceAdd, Int.reduceSub, Int.reduceMul, Nat.reducePow, Int.reduceNegSucc, w_cu, wrapI, hc2]
  refine slc_rd eB_len (rb.sub (sj (blk (cu bv (at1 + n) (errV e1)) 54))) (by omega) (by omega) (by omega) fun v2 r2 => ?_
  simp only [Int.toNat_natCast] at r2
  rw [show at1 + n - at1 = n from by omega] at r2
  simp only [walk, lists, acts, mem, plain, seqs, maps, cells, resL, resV, intBin, ↓reduceIte, Nat.reduceAdd, Nat.reduceSub, Nat.reduceMul, Nat.reduceLeDiff, Nat.reduceEqDiff, Int.reduceToNat, Int.reduceEq, Int.reduceLT, Int.reduceLE, Int.reduceNeg, Int.reduceAdd, Int.reduceSub, Int.reduceMul, Nat.reducePow, Int.reduceNegSucc, w_cu, btos_rd r2]
  refine .of (k _ (at1 + n) e1 (by omega) (by rw [List.length_take, List.length_drop]; omega) he1 hen fun h t r hx ht => ?_)
  obtain ⟨h1, h2, h3⟩ := ex h t.length (t ++ r) hx ht (by simp)
  rw [← List.drop_drop, h2, h1]
  exact ⟨by simp, by simp, h3⟩
end Go.Proofs.Ytllhdnfcneejaaa
end

/- How the program reads numbers into places, and lists of numbers. -/
section
set_option linter.unusedVariables false
set_option linter.unusedSimpArgs false
set_option maxRecDepth 20000
attribute [local irreducible] Go.Tk.vc Go.Tk.vops Go.Tk.vdr Go.Tk.vop Go.Tk.vfl Go.Tk.HCalls
namespace Go.Proofs.Ytllhdnfcneejaaa
open Go Go.Tk

theorem errV_n : errV none = .nilIface := rfl
theorem errV_s (a : Nat) (f : Int) : errV (some (a, f)) = .iface 129 (.agg #[.int .i64 a, .iface 56 (.int .i64 f)]) := rfl

/-- A place. -/
def ePt (p : Nat × Nat) : List Value := [.pointer (some ⟨p.1, p.2, none⟩)]
theorem ePt_len (p : Nat × Nat) : (ePt p).length = 1 := rfl

theorem into_c {M : List Int → H} {j at_ : Nat} {bv lv : Value} {l : List UInt8} {ts : List (Nat × Nat)} {e : Option (Nat × Int)} (hj : ∀ ys, hget (M ys) j = none) (rb : ∀ ys, rBytes (M ys) bv l) (rl : ∀ ys, rLs (M ys) ePt 1 lv ts)
    (hw : ∀ ys z (h : ys.length < ts.length), (ts[ys.length].1 ≠ j) ∧ hwrite (M ys) ts[ys.length].1 ts[ys.length].2 [.int .i64 z] = some (M (ys ++ [z])))
    (hl : l.length ≤ 1099511627776) (ht : ts.length ≤ 1099511627776) (ha : at_ ≤ l.length) (he : okE e) {R : Ending → H → Prop}
    (k : ∀ ys (at' : Nat) (e' : Option (Nat × Int)), ys.length = ts.length → at' ≤ l.length → okE e' → (e' = none → e = none) → (e = none → ∀ xs r, xs.length = ts.length → allP smallP xs → l.drop at_ = encIs xs ++ r → ys = xs ∧ l.drop at' = r ∧ e' = none) →
      R (.returned (.tuple #[])) ((j, blk (cu bv at' (errV e')) 54) :: M ys)) :
    HCalls Try.prog 73 #[.pointer (some ⟨j, 0, none⟩), lv] ((j, blk (cu bv at_ (errV e)) 54) :: M []) R := by
  refine HCalls_ir (args := [.pointer (some ⟨j, 0, none⟩), lv]) Try.func73 ir73 ?_
  simp only [walk, lists, acts, mem, plain, seqs, maps, cells, resL, resV, intBin, ↓reduceIte, Nat.reduceAdd, Nat.reduceSub, Nat.reduceMul, Nat.reduceLeDiff, Nat.reduceEqDiff, Int.reduceToNat, Int.reduceEq, Int.reduceLT, Int.reduceLE, Int.reduceNeg, Int.reduceAdd, Int.reduceSub, Int.reduceMul, Nat.reducePow, Int.reduceNegSucc, (rl []).len]
  refine vc_loop [8] (fun n' vs h' => ∃ (ys : List Int) (at' : Nat) (e' : Option (Nat × Int)), vs = [.int .i64 ys.length] ∧ h' = (j, blk (cu bv at' (errV e')) 54) :: M ys ∧ ys.length ≤ ts.length ∧ n' = ts.length - ys.length ∧ at' ≤ l.length ∧ okE e' ∧ (e' = none → e = none) ∧
    (e = none → ∀ xs r, xs.length = ts.length → allP smallP xs → l.drop at_ = encIs xs ++ r → ys = xs.take ys.length ∧ l.drop at' = encIs (xs.drop ys.length) ++ r ∧ e' = none)) ts.length rfl
    ⟨[], at_, e, rfl, rfl, by simp, rfl, ha, he, fun h => h, fun h xs r _ _ hx => ⟨by simp, by simpa using hx, h⟩⟩ ?_
  rintro n' f h' ⟨ys, at', e', hv, rfl, hi, rfl, ha', he', hee, ex⟩
  simp only [List.map_cons, List.map_nil, List.cons.injEq, and_true] at hv
  simp only [walk, lists, acts, mem, plain, seqs, maps, cells, resL, resV, intBin, ↓reduceIte, Nat.reduceAdd, Nat.reduceSub, Nat.reduceMul, Nat.reduceLeDiff, Nat.reduceEqDiff, Int.reduceToNat, Int.reduceEq, Int.reduceLT, Int.reduceLE, Int.reduceNeg, Int.reduceAdd, Int.reduceSub, Int.reduceMul, Nat.reducePow, Int.reduceNegSucc, wr, hv]
  refine ite_lt (fun c1 => ?_) fun c1 => ?_
  · have hi2 : ys.length < ts.length := by omega
    have sj := fun o => Sub.cons (o := o) (hj ys) (Sub.refl (M ys))
    refine idx_leaf (i := ys.length) ePt_len ((rl ys).sub (sj (blk (cu bv at' (errV e')) 54))) rfl hi2 fun b1 o1 e1 => ?_
    simp only [walk, lists, acts, mem, plain, seqs, maps, cells, resL, resV, intBin, ↓reduceIte, Nat.reduceAdd, Nat.reduceSub, Nat.reduceMul, Nat.reduceLeDiff, Nat.reduceEqDiff, Int.reduceToNat, Int.reduceEq, Int.reduceLT, Int.reduceLE, Int.reduceNeg, Int.reduceAdd, Int.reduceSub, Int.reduceMul, Nat.reducePow, Int.reduceNegSucc, hread_1 e1]
    refine number_c (hj ys) (rb ys) hl ha' he' fun n at2 e2 ha2 hn2 he2 hen2 ex2 => ?_
    obtain ⟨hne, hwr⟩ := hw ys n hi2
    simp only [walk, lists, acts, mem, plain, seqs, maps, cells, resL, resV, intBin, ↓reduceIte, Nat.reduceAdd, Nat.reduceSub, Nat.reduceMul, Nat.reduceLeDiff, Nat.reduceEqDiff, Int.reduceToNat, Int.reduceEq, Int.reduceLT, Int.reduceLE, Int.reduceNeg, Int.reduceAdd, Int.reduceSub, Int.reduceMul, Nat.reducePow, Int.reduceNegSucc, w_cu, hne, hwr]
    simp (disch := omega) only [walk, lists, acts, mem, plain, seqs, maps, cells, resL, resV, intBin, ↓reduceIte, Nat.reduceAdd, Nat.reduceSub, Nat.reduceMul, Nat.reduceLeDiff, Nat.reduceEqDiff, Int.reduceToNat, Int.reduceEq, Int.reduceLT, Int.reduceLE, Int.reduceNeg, Int.reduceAdd, Int.reduceSub, Int.reduceMul, Nat.reducePow, Int.reduceNegSucc, wrapI]
    refine ⟨ts.length - (ys.length + 1), by omega, _, .refl _, ys ++ [n], at2, e2, by simp, rfl, by simp; omega, by simp, ha2, he2, fun h => hee (hen2 h), fun h xs r hx hs hd => ?_⟩
    obtain ⟨h1, h2, h3⟩ := ex h xs r hx hs hd
    have hx2 : ys.length < xs.length := by omega
    rw [List.drop_eq_getElem_cons hx2, encIs_cons, List.append_assoc] at h2
    obtain ⟨g1, g2, g3⟩ := ex2 h3 _ _ ⟨h2, small_num (hs _ (List.getElem_mem hx2))⟩
    rw [unzig_zig] at g1
    refine ⟨?_, by simpa using g2, g3⟩
    rw [List.length_append, List.length_singleton, take_app_one hx2, ← h1, g1]
  · refine .of (k ys at' e' (by omega) ha' he' hee fun h xs r hx hs hd => ?_)
    obtain ⟨h1, h2, h3⟩ := ex h xs r hx hs hd
    rw [List.take_of_length_le (by omega)] at h1
    rw [show xs.drop ys.length = [] from List.drop_eq_nil_of_le (by omega), encIs_nil] at h2
    exact ⟨h1, h2, h3⟩

theorem counted_c {h0 : H} {j at_ : Nat} {bv : Value} {l : List UInt8} {e : Option (Nat × Int)} (hj : hget h0 j = none) (rb : rBytes h0 bv l) (hl : l.length ≤ 1099511627776) (ha : at_ ≤ l.length) (he : okE e) {R : Ending → H → Prop}
    (k : ∀ v g xs (at' : Nat) (e' : Option (Nat × Int)), oLs 3 eI 1 v xs g → Dj g ((j, blk (cu bv at' (errV e')) 54) :: h0) → xs.length ≤ l.length → at' ≤ l.length → okE e' → (e' = none → e = none) →
      (e = none → ∀ ys r, ys.length ≤ 9999 → allP smallP ys → l.drop at_ = encIs ((ys.length : Int) :: ys) ++ r → xs = ys ∧ l.drop at' = r ∧ e' = none) →
      R (.returned v) (g ++ ((j, blk (cu bv at' (errV e')) 54) :: h0))) :
    HCalls Try.prog 75 #[.pointer (some ⟨j, 0, none⟩)] ((j, blk (cu bv at_ (errV e)) 54) :: h0) R := by
  refine HCalls_ir (args := [.pointer (some ⟨j, 0, none⟩)]) Try.func75 ir75 ?_
  simp only [walk, lists, acts, mem, plain, seqs, maps, cells, resL, resV, intBin, ↓reduceIte, Nat.reduceAdd, Nat.reduceSub, Nat.reduceMul, Nat.reduceLeDiff, Nat.reduceEqDiff, Int.reduceToNat, Int.reduceEq, Int.reduceLT, Int.reduceLE, Int.reduceNeg, Int.reduceAdd, Int.reduceSub, Int.reduceMul, Nat.reducePow, Int.reduceNegSucc]
  refine count_c hj rb hl ha he fun n at1 e1 ha1 hn1 he1 hen1 ex1 => ?_
  simp only [walk, lists, acts, mem, plain, seqs, maps, cells, resL, resV, intBin, ↓reduceIte, Nat.reduceAdd, Nat.reduceSub, Nat.reduceMul, Nat.reduceLeDiff, Nat.reduceEqDiff, Int.reduceToNat, Int.reduceEq, Int.reduceLT, Int.reduceLE, Int.reduceNeg, Int.reduceAdd, Int.reduceSub, Int.reduceMul, Nat.reducePow, Int.reduceNegSucc]
  refine vc_loop [3, 4] (fun n' vs h' => ∃ (i : Nat) (v' : Value) (g' : H) (xs : List Int) (at' : Nat) (e' : Option (Nat × Int)), vs = [v', .int .i64 ((n - i : Nat) : Int)] ∧ h' = g' ++ ((j, blk (cu bv at' (errV e')) 54) :: h0) ∧ Dj g' ((j, blk (cu bv at' (errV e')) 54) :: h0) ∧ oLs 3 eI 1 v' xs g' ∧
    xs.length = i ∧ i ≤ n ∧ n' = n - i ∧ at' ≤ l.length ∧ okE e' ∧ (e' = none → e = none) ∧ (e = none → ∀ ys r, ys.length ≤ 9999 → allP smallP ys → l.drop at_ = encIs ((ys.length : Int) :: ys) ++ r → n = ys.length ∧ xs = ys.take i ∧ l.drop at' = encIs (ys.drop i) ++ r ∧ e' = none)) n rfl
    ⟨0, _, [], [], at1, e1, rfl, rfl, Dj.nil _, ows.nil _ _, rfl, by omega, rfl, ha1, he1, hen1, fun h ys r hy hs hx => by
      rw [encIs_cons, List.append_assoc] at hx
      have hle : ys.length ≤ (encIs ys ++ r).length := by
        rw [List.length_append]
        have : ∀ zs : List Int, zs.length ≤ (encIs zs).length := fun zs => by
          induction zs with
          | nil => simp
          | cons a t ih =>
            rw [encIs_cons, List.length_append, List.length_cons]
            have : 0 < (encI a).length := List.length_pos_iff.2 (encN_ne _)
            omega
        have := this ys
        omega
      obtain ⟨a, b, c⟩ := ex1 h _ _ hx hy hle
      exact ⟨a, by simp, by simpa using b, c⟩⟩ ?_
  rintro n' f h' ⟨i, v', g', xs, at', e', hv, rfl, dj', o', hxl, hi, rfl, ha', he', hee, ex⟩
  simp only [List.map_cons, List.map_nil, List.cons.injEq, and_true] at hv
  have d1 := dj'
  have d2 := dj'.symm
  simp only [subs] at d1 d2
  simp only [walk, lists, acts, mem, plain, seqs, maps, cells, resL, resV, intBin, ↓reduceIte, Nat.reduceAdd, Nat.reduceSub, Nat.reduceMul, Nat.reduceLeDiff, Nat.reduceEqDiff, Int.reduceToNat, Int.reduceEq, Int.reduceLT, Int.reduceLE, Int.reduceNeg, Int.reduceAdd, Int.reduceSub, Int.reduceMul, Nat.reducePow, Int.reduceNegSucc, wr, hv.1, hv.2, apps, d1, w_cu]
  have fin : (i = n ∨ e' ≠ none) → dP R (.returned v') (g' ++ ((j, blk (cu bv at' (errV e')) 54) :: h0)) := fun hd =>
    .of (k v' g' xs at' e' o' dj' (by omega) ha' he' hee fun h ys r hy hs hx => by
      obtain ⟨a, b, c, d⟩ := ex h ys r hy hs hx
      rcases hd with hd | hd
      · rw [List.take_of_length_le (by omega)] at b
        rw [show ys.drop i = [] from List.drop_eq_nil_of_le (by omega), encIs_nil] at c
        exact ⟨b, c, d⟩
      · exact absurd d hd)
  refine ite_lt (fun c1 => ?_) fun c1 => ?_
  · cases e' with
    | some p =>
      obtain ⟨pa, pf⟩ := p
      simp only [walk, lists, acts, mem, plain, seqs, maps, cells, resL, resV, intBin, ↓reduceIte, Nat.reduceAdd, Nat.reduceSub, Nat.reduceMul, Nat.reduceLeDiff, Nat.reduceEqDiff, Int.reduceToNat, Int.reduceEq, Int.reduceLT, Int.reduceLE, Int.reduceNeg, Int.reduceAdd, Int.reduceSub, Int.reduceMul, Nat.reducePow, Int.reduceNegSucc, wr, hv.1, hv.2, w_cu, errV_n, errV_s, apps, d1]
      exact fin (.inr (by simp))
    | none =>
      simp only [walk, lists, acts, mem, plain, seqs, maps, cells, resL, resV, intBin, ↓reduceIte, Nat.reduceAdd, Nat.reduceSub, Nat.reduceMul, Nat.reduceLeDiff, Nat.reduceEqDiff, Int.reduceToNat, Int.reduceEq, Int.reduceLT, Int.reduceLE, Int.reduceNeg, Int.reduceAdd, Int.reduceSub, Int.reduceMul, Nat.reducePow, Int.reduceNegSucc, wr, hv.1, hv.2, w_cu, errV_n, errV_s, apps, d1]
      refine ⟨rfl, ?_⟩
      refine (number_c (j := j) (e := none) (at_ := at') (h0 := g' ++ h0) (by simp only [subs, d1, hj]) (rb.sub (Sub.right d1.2)) hl ha' he' fun x at2 e2 ha2 hx2 he2 hen2 ex2 => ?_).weaken (by rw [errV_n]; (repeat' first | exact Sub.refl _ | exact Sub.nil _ | assumption | refine Sub.both ?_ ?_ | refine Sub.cons_of (by simp only [subs, d1, d2, hj]) ?_ | exact Sub.left _ _ | refine Sub.app (by simp only [subs, d1, d2, hj]) ?_ | refine Sub.cons (by simp only [subs, d1, d2, hj]) ?_))
      simp only [walk, lists, acts, mem, plain, seqs, maps, cells, resL, resV, intBin, ↓reduceIte, Nat.reduceAdd, Nat.reduceSub, Nat.reduceMul, Nat.reduceLeDiff, Nat.reduceEqDiff, Int.reduceToNat, Int.reduceEq, Int.reduceLT, Int.reduceLE, Int.reduceNeg, Int.reduceAdd, Int.reduceSub, Int.reduceMul, Nat.reducePow, Int.reduceNegSucc]
      refine newB_intro fun j5 hj5 => ?_
      simp only [subs] at hj5
      simp only [walk, lists, acts, mem, plain, seqs, maps, cells, resL, resV, intBin, ↓reduceIte, Nat.reduceAdd, Nat.reduceSub, Nat.reduceMul, Nat.reduceLeDiff, Nat.reduceEqDiff, Int.reduceToNat, Int.reduceEq, Int.reduceLT, Int.reduceLE, Int.reduceNeg, Int.reduceAdd, Int.reduceSub, Int.reduceMul, Nat.reducePow, Int.reduceNegSucc]
      refine app_leaf (g := g') (h := (j, blk (cu bv at2 (errV e2)) 54) :: h0) (M := (j5, blk (fl eI [x]) 3) :: (j, blk (cu bv at2 (errV e2)) 54) :: (g' ++ h0)) eI_len eI_one tInts iInt (by (repeat' first | exact Sub.refl _ | exact Sub.nil _ | assumption | refine Sub.both ?_ ?_ | refine Sub.cons_of (by simp only [subs, d1, d2, hj, hj5]) ?_ | exact Sub.left _ _ | refine Sub.app (by simp only [subs, d1, d2, hj, hj5]) ?_ | refine Sub.cons (by simp only [subs, d1, d2, hj, hj5]) ?_)) (by simp only [subs, d1]) o' (rI_lit [x]) (by simp; omega) (by simp; omega) fun v2 g2 o2 d3 => ?_
      simp (disch := omega) only [walk, lists, acts, mem, plain, seqs, maps, cells, resL, resV, intBin, ↓reduceIte, Nat.reduceAdd, Nat.reduceSub, Nat.reduceMul, Nat.reduceLeDiff, Nat.reduceEqDiff, Int.reduceToNat, Int.reduceEq, Int.reduceLT, Int.reduceLE, Int.reduceNeg, Int.reduceAdd, Int.reduceSub, Int.reduceMul, Nat.reducePow, Int.reduceNegSucc, wrapI]
      have hx1 : (xs ++ [x]).length = i + 1 := by rw [List.length_append, hxl]; rfl
      refine ⟨n - (i + 1), by omega, _, .refl _, i + 1, v2, g2, xs ++ [x], at2, e2, by simp; omega, rfl, d3, o2, hx1, by omega, rfl, ha2, he2, fun h => hee (hen2 h), fun h ys r hy hs hx => ?_⟩
      obtain ⟨a, b, c, d⟩ := ex h ys r hy hs hx
      have hi2 : i < ys.length := by omega
      rw [List.drop_eq_getElem_cons hi2, encIs_cons, List.append_assoc] at c
      obtain ⟨g1, g2, g3⟩ := ex2 d _ _ ⟨c, small_num (hs _ (List.getElem_mem hi2))⟩
      rw [unzig_zig] at g1
      exact ⟨a, by rw [take_app_one hi2, ← b, g1], g2, g3⟩
  · exact fin (.inl (by omega))
end Go.Proofs.Ytllhdnfcneejaaa
end
