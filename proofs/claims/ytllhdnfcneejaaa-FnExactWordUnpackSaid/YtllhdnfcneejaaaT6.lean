/- Lists that are ok. -/
import Derived.Test.YtllhdnfcneejaaaT5
set_option linter.unusedVariables false
set_option linter.unusedSimpArgs false
set_option maxRecDepth 20000
attribute [local irreducible] Go.Tk.vc Go.Tk.vops Go.Tk.vdr Go.Tk.vop Go.Tk.vfl Go.Tk.HCalls
namespace Go.Proofs.Ytllhdnfcneejaaa
open Go Go.Tk

theorem valsOk_c {h : H} {v : Value} {l : List Int} (r : rInts h v l) (hl : l.length ≤ 1099511627776) {R : Ending → H → Prop} (k : Asks R (valsP l) h) : HCalls Try.prog 58 #[v] h R := by
  refine HCalls_ir (args := [v]) Try.func58 ir58 ?_
  simp only [walk, lists, acts, mem, plain, seqs, maps, cells, resL, resV, intBin, ↓reduceIte, Nat.reduceAdd, Nat.reduceSub, Nat.reduceMul, Nat.reduceLeDiff, Nat.reduceEqDiff, Int.reduceToNat, Int.reduceEq, Int.reduceLT, Int.reduceLE, Int.reduceNeg, Int.reduceAdd, Int.reduceSub, Int.reduceMul, Nat.reducePow, Int.reduceNegSucc, r.len]
  refine vc_loop [7] (fun n vs h' => ∃ i : Nat, vs = [.int .i64 i] ∧ h' = h ∧ i ≤ l.length ∧ n = l.length - i ∧ allP valP (l.take i)) l.length rfl ⟨0, rfl, rfl, by omega, by omega, allP_zero _ _⟩ ?_
  rintro n f h' ⟨i, hv, rfl, hi, rfl, ht⟩
  simp only [List.map_cons, List.map_nil, List.cons.injEq, and_true] at hv
  simp only [walk, lists, acts, mem, plain, seqs, maps, cells, resL, resV, intBin, ↓reduceIte, Nat.reduceAdd, Nat.reduceSub, Nat.reduceMul, Nat.reduceLeDiff, Nat.reduceEqDiff, Int.reduceToNat, Int.reduceEq, Int.reduceLT, Int.reduceLE, Int.reduceNeg, Int.reduceAdd, Int.reduceSub, Int.reduceMul, Nat.reducePow, Int.reduceNegSucc, wr, hv, r.len]
  refine ite_lt (fun c1 => ?_) fun c1 => ?_
  · refine idx_leaf (i := i) eI_len r rfl (by omega) fun b1 o1 e1 => ?_
    simp only [walk, lists, acts, mem, plain, seqs, maps, cells, resL, resV, intBin, ↓reduceIte, Nat.reduceAdd, Nat.reduceSub, Nat.reduceMul, Nat.reduceLeDiff, Nat.reduceEqDiff, Int.reduceToNat, Int.reduceEq, Int.reduceLT, Int.reduceLE, Int.reduceNeg, Int.reduceAdd, Int.reduceSub, Int.reduceMul, Nat.reducePow, Int.reduceNegSucc, hread_1 e1]
    refine isVal_c fun b hb => ?_
    simp only [walk, lists, acts, mem, plain, seqs, maps, cells, resL, resV, intBin, ↓reduceIte, Nat.reduceAdd, Nat.reduceSub, Nat.reduceMul, Nat.reduceLeDiff, Nat.reduceEqDiff, Int.reduceToNat, Int.reduceEq, Int.reduceLT, Int.reduceLE, Int.reduceNeg, Int.reduceAdd, Int.reduceSub, Int.reduceMul, Nat.reducePow, Int.reduceNegSucc]
    refine ite_f (fun e => .of (k.no fun p => allP_not (by omega) (not_b hb e) p.2)) fun e => ?_
    simp (disch := omega) only [wrapI]
    exact ⟨l.length - (i + 1), by omega, h', .refl _, i + 1, by simp, rfl, by omega, rfl, allP_more (by omega) ht (hb.1 e)⟩
  · have := allP_done (by omega) ht
    exact .of (k _ (by simp [valsP, this]; omega))

theorem l3Vals_c {h : H} {v : Value} {l : List Int} (r : rInts h v l) (hl : l.length ≤ 1099511627776) {R : Ending → H → Prop} (k : Asks R (valsP l) h) : HCalls Try.prog 47 #[v] h R := by
  refine HCalls_ir (args := [v]) Try.func47 ir47 ?_
  simp only [walk, lists, acts, mem, plain, seqs, maps, cells, resL, resV, intBin, ↓reduceIte, Nat.reduceAdd, Nat.reduceSub, Nat.reduceMul, Nat.reduceLeDiff, Nat.reduceEqDiff, Int.reduceToNat, Int.reduceEq, Int.reduceLT, Int.reduceLE, Int.reduceNeg, Int.reduceAdd, Int.reduceSub, Int.reduceMul, Nat.reducePow, Int.reduceNegSucc, r.len]
  refine ite_lt (fun c1 => .of (k.no fun p => ?_)) fun c1 => ?_
  · have := p.1; omega
  refine vc_loop [3] (fun n vs h' => ∃ i : Nat, vs = [.int .i64 i] ∧ h' = h ∧ i ≤ l.length ∧ n = l.length - i ∧ allP valP (l.take i)) l.length rfl ⟨0, rfl, rfl, by omega, by omega, allP_zero _ _⟩ ?_
  rintro n f h' ⟨i, hv, rfl, hi, rfl, ht⟩
  simp only [List.map_cons, List.map_nil, List.cons.injEq, and_true] at hv
  simp only [walk, lists, acts, mem, plain, seqs, maps, cells, resL, resV, intBin, ↓reduceIte, Nat.reduceAdd, Nat.reduceSub, Nat.reduceMul, Nat.reduceLeDiff, Nat.reduceEqDiff, Int.reduceToNat, Int.reduceEq, Int.reduceLT, Int.reduceLE, Int.reduceNeg, Int.reduceAdd, Int.reduceSub, Int.reduceMul, Nat.reducePow, Int.reduceNegSucc, wr, hv, r.len]
  refine ite_lt (fun c1 => ?_) fun c1 => ?_
  · refine idx_leaf (i := i) eI_len r rfl (by omega) fun b1 o1 e1 => ?_
    simp only [walk, lists, acts, mem, plain, seqs, maps, cells, resL, resV, intBin, ↓reduceIte, Nat.reduceAdd, Nat.reduceSub, Nat.reduceMul, Nat.reduceLeDiff, Nat.reduceEqDiff, Int.reduceToNat, Int.reduceEq, Int.reduceLT, Int.reduceLE, Int.reduceNeg, Int.reduceAdd, Int.reduceSub, Int.reduceMul, Nat.reducePow, Int.reduceNegSucc, hread_1 e1]
    refine l1Val_c fun b hb => ?_
    simp only [walk, lists, acts, mem, plain, seqs, maps, cells, resL, resV, intBin, ↓reduceIte, Nat.reduceAdd, Nat.reduceSub, Nat.reduceMul, Nat.reduceLeDiff, Nat.reduceEqDiff, Int.reduceToNat, Int.reduceEq, Int.reduceLT, Int.reduceLE, Int.reduceNeg, Int.reduceAdd, Int.reduceSub, Int.reduceMul, Nat.reducePow, Int.reduceNegSucc]
    refine ite_f (fun e => .of (k.no fun p => allP_not (by omega) (not_b hb e) p.2)) fun e => ?_
    simp (disch := omega) only [wrapI]
    exact ⟨l.length - (i + 1), by omega, h', .refl _, i + 1, by simp, rfl, by omega, rfl, allP_more (by omega) ht (hb.1 e)⟩
  · exact .of (k.yes ⟨by omega, allP_done (by omega) ht⟩)

theorem allWithin_c {h : H} {v : Value} {m : Int} {l : List Int} (r : rInts h v l) (hl : l.length ≤ 1099511627776) {R : Ending → H → Prop} (k : Asks R (allP (inP 0 m) l) h) : HCalls Try.prog 54 #[.int .i64 m, v] h R := by
  refine HCalls_ir (args := [.int .i64 m, v]) Try.func54 ir54 ?_
  simp only [walk, lists, acts, mem, plain, seqs, maps, cells, resL, resV, intBin, ↓reduceIte, Nat.reduceAdd, Nat.reduceSub, Nat.reduceMul, Nat.reduceLeDiff, Nat.reduceEqDiff, Int.reduceToNat, Int.reduceEq, Int.reduceLT, Int.reduceLE, Int.reduceNeg, Int.reduceAdd, Int.reduceSub, Int.reduceMul, Nat.reducePow, Int.reduceNegSucc, r.len]
  refine vc_loop [9] (fun n vs h' => ∃ i : Nat, vs = [.int .i64 i] ∧ h' = h ∧ i ≤ l.length ∧ n = l.length - i ∧ allP (inP 0 m) (l.take i)) l.length rfl ⟨0, rfl, rfl, by omega, by omega, allP_zero _ _⟩ ?_
  rintro n f h' ⟨i, hv, rfl, hi, rfl, ht⟩
  simp only [List.map_cons, List.map_nil, List.cons.injEq, and_true] at hv
  simp only [walk, lists, acts, mem, plain, seqs, maps, cells, resL, resV, intBin, ↓reduceIte, Nat.reduceAdd, Nat.reduceSub, Nat.reduceMul, Nat.reduceLeDiff, Nat.reduceEqDiff, Int.reduceToNat, Int.reduceEq, Int.reduceLT, Int.reduceLE, Int.reduceNeg, Int.reduceAdd, Int.reduceSub, Int.reduceMul, Nat.reducePow, Int.reduceNegSucc, wr, hv, r.len]
  refine ite_lt (fun c1 => ?_) fun c1 => ?_
  · refine idx_leaf (i := i) eI_len r rfl (by omega) fun b1 o1 e1 => ?_
    simp only [walk, lists, acts, mem, plain, seqs, maps, cells, resL, resV, intBin, ↓reduceIte, Nat.reduceAdd, Nat.reduceSub, Nat.reduceMul, Nat.reduceLeDiff, Nat.reduceEqDiff, Int.reduceToNat, Int.reduceEq, Int.reduceLT, Int.reduceLE, Int.reduceNeg, Int.reduceAdd, Int.reduceSub, Int.reduceMul, Nat.reducePow, Int.reduceNegSucc, hread_1 e1]
    refine within_c fun b hb => ?_
    simp only [walk, lists, acts, mem, plain, seqs, maps, cells, resL, resV, intBin, ↓reduceIte, Nat.reduceAdd, Nat.reduceSub, Nat.reduceMul, Nat.reduceLeDiff, Nat.reduceEqDiff, Int.reduceToNat, Int.reduceEq, Int.reduceLT, Int.reduceLE, Int.reduceNeg, Int.reduceAdd, Int.reduceSub, Int.reduceMul, Nat.reducePow, Int.reduceNegSucc]
    refine ite_f (fun e => .of (k.no fun p => allP_not (by omega) (not_b hb e) p)) fun e => ?_
    simp (disch := omega) only [wrapI]
    exact ⟨l.length - (i + 1), by omega, h', .refl _, i + 1, by simp, rfl, by omega, rfl, allP_more (by omega) ht (hb.1 e)⟩
  · exact .of (k.yes (allP_done (by omega) ht))

theorem isClient_c {a : Int} {h : H} {R : Ending → H → Prop} (k : Asks R (inP 100 102 a) h) : HCalls Try.prog 88 #[.int .i64 a] h R := by
  refine HCalls_ir (args := [.int .i64 a]) Try.func88 ir88 ?_
  simp only [walk, lists, acts, mem, plain, seqs, maps, cells, resL, resV, intBin, ↓reduceIte, Nat.reduceAdd, Nat.reduceSub, Nat.reduceMul, Nat.reduceLeDiff, Nat.reduceEqDiff, Int.reduceToNat, Int.reduceEq, Int.reduceLT, Int.reduceLE, Int.reduceNeg, Int.reduceAdd, Int.reduceSub, Int.reduceMul, Nat.reducePow, Int.reduceNegSucc]
  refine within_c fun b hb => ?_
  simp only [walk, lists, acts, mem, plain, seqs, maps, cells, resL, resV, intBin, ↓reduceIte, Nat.reduceAdd, Nat.reduceSub, Nat.reduceMul, Nat.reduceLeDiff, Nat.reduceEqDiff, Int.reduceToNat, Int.reduceEq, Int.reduceLT, Int.reduceLE, Int.reduceNeg, Int.reduceAdd, Int.reduceSub, Int.reduceMul, Nat.reducePow, Int.reduceNegSucc]
  exact .of (k b hb)

theorem arePlaces_c {h : H} {v : Value} {l : List Int} (r : rInts h v l) (hl : l.length ≤ 1099511627776) {R : Ending → H → Prop} (k : Asks R (allP placeP l) h) : HCalls Try.prog 53 #[v] h R := by
  refine HCalls_ir (args := [v]) Try.func53 ir53 ?_
  simp only [walk, lists, acts, mem, plain, seqs, maps, cells, resL, resV, intBin, ↓reduceIte, Nat.reduceAdd, Nat.reduceSub, Nat.reduceMul, Nat.reduceLeDiff, Nat.reduceEqDiff, Int.reduceToNat, Int.reduceEq, Int.reduceLT, Int.reduceLE, Int.reduceNeg, Int.reduceAdd, Int.reduceSub, Int.reduceMul, Nat.reducePow, Int.reduceNegSucc, r.len]
  refine vc_loop [7] (fun n vs h' => ∃ i : Nat, vs = [.int .i64 i] ∧ h' = h ∧ i ≤ l.length ∧ n = l.length - i ∧ allP placeP (l.take i)) l.length rfl ⟨0, rfl, rfl, by omega, by omega, allP_zero _ _⟩ ?_
  rintro n f h' ⟨i, hv, rfl, hi, rfl, ht⟩
  simp only [List.map_cons, List.map_nil, List.cons.injEq, and_true] at hv
  simp only [walk, lists, acts, mem, plain, seqs, maps, cells, resL, resV, intBin, ↓reduceIte, Nat.reduceAdd, Nat.reduceSub, Nat.reduceMul, Nat.reduceLeDiff, Nat.reduceEqDiff, Int.reduceToNat, Int.reduceEq, Int.reduceLT, Int.reduceLE, Int.reduceNeg, Int.reduceAdd, Int.reduceSub, Int.reduceMul, Nat.reducePow, Int.reduceNegSucc, wr, hv, r.len]
  refine ite_lt (fun c1 => ?_) fun c1 => ?_
  · refine idx_leaf (i := i) eI_len r rfl (by omega) fun b1 o1 e1 => ?_
    simp only [walk, lists, acts, mem, plain, seqs, maps, cells, resL, resV, intBin, ↓reduceIte, Nat.reduceAdd, Nat.reduceSub, Nat.reduceMul, Nat.reduceLeDiff, Nat.reduceEqDiff, Int.reduceToNat, Int.reduceEq, Int.reduceLT, Int.reduceLE, Int.reduceNeg, Int.reduceAdd, Int.reduceSub, Int.reduceMul, Nat.reducePow, Int.reduceNegSucc, hread_1 e1]
    refine isHouse_c fun b hb => ?_
    simp (disch := omega) only [walk, lists, acts, mem, plain, seqs, maps, cells, resL, resV, intBin, ↓reduceIte, Nat.reduceAdd, Nat.reduceSub, Nat.reduceMul, Nat.reduceLeDiff, Nat.reduceEqDiff, Int.reduceToNat, Int.reduceEq, Int.reduceLT, Int.reduceLE, Int.reduceNeg, Int.reduceAdd, Int.reduceSub, Int.reduceMul, Nat.reducePow, Int.reduceNegSucc, wrapI]
    have go : placeP (l[i]'(by omega)) → ∃ m, m < l.length - i ∧ ∃ g, Tk.Sub g h' ∧ ∃ i' : Nat, [Value.int .i64 ((i : Int) + 1)] = [.int .i64 i'] ∧ g = h' ∧ i' ≤ l.length ∧ m = l.length - i' ∧ allP placeP (l.take i') := fun p =>
      ⟨l.length - (i + 1), by omega, h', .refl _, i + 1, by simp, rfl, by omega, rfl, allP_more (by omega) ht p⟩
    refine ite_f (fun e => ?_) fun e => go (.inl (hb.1 e))
    refine ite_ne (fun e2 => ?_) fun e2 => go (.inr (.inl e2))
    refine isClient_c fun b2 hb2 => ?_
    simp (disch := omega) only [walk, lists, acts, mem, plain, seqs, maps, cells, resL, resV, intBin, ↓reduceIte, Nat.reduceAdd, Nat.reduceSub, Nat.reduceMul, Nat.reduceLeDiff, Nat.reduceEqDiff, Int.reduceToNat, Int.reduceEq, Int.reduceLT, Int.reduceLE, Int.reduceNeg, Int.reduceAdd, Int.reduceSub, Int.reduceMul, Nat.reducePow, Int.reduceNegSucc, wrapI]
    refine ite_f (fun e3 => ?_) fun e3 => go (.inr (.inr (hb2.1 e3)))
    refine .of (k.no (allP_not (i := i) (by omega) ?_))
    rintro (p | p | p)
    · exact not_b hb e p
    · exact e2 p
    · exact not_b hb2 e3 p
  · exact .of (k.yes (allP_done (by omega) ht))
end Go.Proofs.Ytllhdnfcneejaaa
