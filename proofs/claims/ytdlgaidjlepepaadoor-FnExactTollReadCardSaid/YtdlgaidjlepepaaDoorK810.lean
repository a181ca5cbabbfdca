/- Parts of the proof, put together: U5, U7, U8, U9. -/
import Derived.Test.YtdlgaidjlepepaaDoorK89
/- What the laws measure, copy and compare: what happens, in rows. -/
section
set_option linter.unusedVariables false
set_option linter.unusedSimpArgs false
set_option maxRecDepth 20000
attribute [local irreducible] Go.Tk.vc Go.Tk.vops Go.Tk.vdr Go.Tk.vop Go.Tk.vfl Go.Tk.HCalls
namespace Go.Tk
open Go
theorem eE_len (e : DTollEvent) : (cTollEvent e).length = 11 := rfl
theorem eE_one (l : List DTollEvent) : (fl cTollEvent l).all vone = true := by induction l <;> simp_all [fl, cTollEvent, vone]
theorem zE (n : Nat) : zrep (cTollEvent zTollEvent) n = fl cTollEvent (List.replicate n zTollEvent) := by
  induction n with
  | zero => rfl
  | succ n ih => rw [List.replicate_succ, fl_cons, ← ih]; rfl
end Go.Tk
namespace Go.Proofs.YtdlgaidjlepepaaDoor
open Go Go.Tk

theorem szEvent_c {h : H} {e : DTollEvent} {left : Int} (hl : 0 ≤ left ∧ left ≤ 1048576) (ht : e.call.text.length ≤ 9223372036854775807) {R : Ending → H → Prop}
    (k : ∀ n : Int, (0 ≤ n → n ≤ left ∧ (e.call.text.length : Int) ≤ left) → -1 ≤ n → R (.returned (.int .i64 n)) h) : HCalls Tryd.prog 14 #[.agg (cTollEvent e).toArray, .int .i64 left] h R := by
  refine HCalls_ir (args := [.agg (cTollEvent e).toArray, .int .i64 left]) Tryd.func14 ir14 ?_
  simp only [walk, lists, acts, mem, plain, seqs, maps, cells, resL, resV, intBin, ↓reduceIte, Nat.reduceAdd, Nat.reduceSub, Nat.reduceMul, Nat.reduceLeDiff, Nat.reduceEqDiff, Int.reduceToNat, Int.reduceEq, Int.reduceLT, Int.reduceLE, Int.reduceNeg, Int.reduceAdd, Int.reduceSub, Int.reduceMul, Nat.reducePow, Int.reduceNegSucc, wTollEvent]
  refine newB_intro fun j hj => ?_
  simp only [walk, lists, acts, mem, plain, seqs, maps, cells, resL, resV, intBin, ↓reduceIte, Nat.reduceAdd, Nat.reduceSub, Nat.reduceMul, Nat.reduceLeDiff, Nat.reduceEqDiff, Int.reduceToNat, Int.reduceEq, Int.reduceLT, Int.reduceLE, Int.reduceNeg, Int.reduceAdd, Int.reduceSub, Int.reduceMul, Nat.reducePow, Int.reduceNegSucc, wTollEvent]
  refine szCall_c hl ht fun n h1 h2 => ?_
  simp only [walk, lists, acts, mem, plain, seqs, maps, cells, resL, resV, intBin, ↓reduceIte, Nat.reduceAdd, Nat.reduceSub, Nat.reduceMul, Nat.reduceLeDiff, Nat.reduceEqDiff, Int.reduceToNat, Int.reduceEq, Int.reduceLT, Int.reduceLE, Int.reduceNeg, Int.reduceAdd, Int.reduceSub, Int.reduceMul, Nat.reducePow, Int.reduceNegSucc, wTollEvent]
  refine ite_lt (fun c => ⟨h, Sub.cons hj (Sub.refl h), k (-1) (by omega) (by omega)⟩) fun c => ?_
  exact ⟨h, Sub.cons hj (Sub.refl h), k n h1 h2⟩
theorem szEvents_c {h : H} {v : Value} {l : List DTollEvent} (r : rIn h cTollEvent 11 v l) (hl : l.length ≤ 9223372036854775807) (ht : ∀ e ∈ l, e.call.text.length ≤ 9223372036854775807) {R : Ending → H → Prop}
    (k : ∀ n : Int, (0 ≤ n → l.length ≤ 1048576 ∧ ∀ e ∈ l, e.call.text.length ≤ 1048576) → R (.returned (.int .i64 n)) h) : HCalls Tryd.prog 5 #[v, .int .i64 1048576] h R := by
  refine HCalls_ir (args := [v, .int .i64 1048576]) Tryd.func5 ir5 ?_
  simp (disch := omega) only [walk, lists, acts, mem, plain, seqs, maps, cells, resL, resV, intBin, ↓reduceIte, Nat.reduceAdd, Nat.reduceSub, Nat.reduceMul, Nat.reduceLeDiff, Nat.reduceEqDiff, Int.reduceToNat, Int.reduceEq, Int.reduceLT, Int.reduceLE, Int.reduceNeg, Int.reduceAdd, Int.reduceSub, Int.reduceMul, Nat.reducePow, Int.reduceNegSucc, r.len, wrapI]
  refine ite_lt (fun c => .of (k (-1) (by omega))) fun c => ?_
  refine vc_loop [5, 1] (fun n vs h' => ∃ (i : Nat) (left : Int), vs = [.int .i64 i, .int .i64 left] ∧ h' = h ∧ 0 ≤ left ∧ left ≤ 1048576 ∧ (∀ e ∈ l.take i, e.call.text.length ≤ 1048576) ∧ i ≤ l.length ∧ n = l.length - i) l.length rfl
    ⟨0, _, rfl, rfl, by omega, by omega, by simp, by omega, rfl⟩ ?_
  rintro n f h' ⟨i, left, hv, rfl, h1, h2, h3, hi, rfl⟩
  simp only [List.map_cons, List.map_nil, List.cons.injEq, and_true] at hv
  simp only [walk, lists, acts, mem, plain, seqs, maps, cells, resL, resV, intBin, ↓reduceIte, Nat.reduceAdd, Nat.reduceSub, Nat.reduceMul, Nat.reduceLeDiff, Nat.reduceEqDiff, Int.reduceToNat, Int.reduceEq, Int.reduceLT, Int.reduceLE, Int.reduceNeg, Int.reduceAdd, Int.reduceSub, Int.reduceMul, Nat.reducePow, Int.reduceNegSucc, wr, hv.1, hv.2, r.len]
  refine ite_lt (fun c1 => ?_) fun c1 => ?_
  · have hi2 : i < l.length := by omega
    refine idx_in (i := i) eE_len r rfl hi2 fun b1 o1 e1 => ?_
    simp only [walk, lists, acts, mem, plain, seqs, maps, cells, resL, resV, intBin, ↓reduceIte, Nat.reduceAdd, Nat.reduceSub, Nat.reduceMul, Nat.reduceLeDiff, Nat.reduceEqDiff, Int.reduceToNat, Int.reduceEq, Int.reduceLT, Int.reduceLE, Int.reduceNeg, Int.reduceAdd, Int.reduceSub, Int.reduceMul, Nat.reducePow, Int.reduceNegSucc, e1, wTollEvent]
    refine szEvent_c ⟨h1, h2⟩ (ht _ (List.getElem_mem hi2)) fun n h4 h5 => ?_
    simp only [walk, lists, acts, mem, plain, seqs, maps, cells, resL, resV, intBin, ↓reduceIte, Nat.reduceAdd, Nat.reduceSub, Nat.reduceMul, Nat.reduceLeDiff, Nat.reduceEqDiff, Int.reduceToNat, Int.reduceEq, Int.reduceLT, Int.reduceLE, Int.reduceNeg, Int.reduceAdd, Int.reduceSub, Int.reduceMul, Nat.reducePow, Int.reduceNegSucc]
    refine ite_lt (fun c => .of (k (-1) (by omega))) fun c => ?_
    simp (disch := omega) only [walk, lists, acts, mem, plain, seqs, maps, cells, resL, resV, intBin, ↓reduceIte, Nat.reduceAdd, Nat.reduceSub, Nat.reduceMul, Nat.reduceLeDiff, Nat.reduceEqDiff, Int.reduceToNat, Int.reduceEq, Int.reduceLT, Int.reduceLE, Int.reduceNeg, Int.reduceAdd, Int.reduceSub, Int.reduceMul, Nat.reducePow, Int.reduceNegSucc, wrapI]
    refine ⟨l.length - (i + 1), by omega, _, .refl _, i + 1, n, by simp, rfl, by omega, by omega, fun e he => ?_, by omega, rfl⟩
    rw [List.take_succ_eq_append_getElem hi2] at he
    rcases List.mem_append.1 he with he | he
    · exact h3 e he
    · rw [List.mem_singleton] at he
      subst he
      omega
  · have hi2 : i = l.length := by omega
    subst hi2
    rw [List.take_length] at h3
    exact .of (k left fun _ => ⟨by omega, h3⟩)

theorem toEvent_c {h : H} {e : DTollEvent} {R : Ending → H → Prop} (k : R (.returned (.agg (cTollEvent e).toArray)) h) : HCalls Tryd.prog 17 #[.agg (cTollEvent e).toArray] h R := by
  refine HCalls_ir (args := [.agg (cTollEvent e).toArray]) Tryd.func17 ir17 ?_
  have zc := zTollEvent_eq
  simp only [str] at zc
  simp only [walk, lists, acts, mem, plain, seqs, maps, cells, resL, resV, intBin, ↓reduceIte, Nat.reduceAdd, Nat.reduceSub, Nat.reduceMul, Nat.reduceLeDiff, Nat.reduceEqDiff, Int.reduceToNat, Int.reduceEq, Int.reduceLT, Int.reduceLE, Int.reduceNeg, Int.reduceAdd, Int.reduceSub, Int.reduceMul, Nat.reducePow, Int.reduceNegSucc, wTollEvent, str, zc]
  refine newB_intro fun j1 h1 => ?_
  simp only [walk, lists, acts, mem, plain, seqs, maps, cells, resL, resV, intBin, ↓reduceIte, Nat.reduceAdd, Nat.reduceSub, Nat.reduceMul, Nat.reduceLeDiff, Nat.reduceEqDiff, Int.reduceToNat, Int.reduceEq, Int.reduceLT, Int.reduceLE, Int.reduceNeg, Int.reduceAdd, Int.reduceSub, Int.reduceMul, Nat.reducePow, Int.reduceNegSucc, wTollEvent]
  refine newB_intro fun j2 h2 => ?_
  have n2 := h2
  simp only [subs] at n2
  simp only [walk, lists, acts, mem, plain, seqs, maps, cells, resL, resV, intBin, ↓reduceIte, Nat.reduceAdd, Nat.reduceSub, Nat.reduceMul, Nat.reduceLeDiff, Nat.reduceEqDiff, Int.reduceToNat, Int.reduceEq, Int.reduceLT, Int.reduceLE, Int.reduceNeg, Int.reduceAdd, Int.reduceSub, Int.reduceMul, Nat.reducePow, Int.reduceNegSucc, wTollEvent, n2]
  refine newB_intro fun j3 h3 => ?_
  have n3 := h3
  simp only [subs] at n3
  have m : j1 ≠ j2 ∧ j1 ≠ j3 ∧ j2 ≠ j3 ∧ j2 ≠ j1 ∧ j3 ≠ j1 ∧ j3 ≠ j2 := by refine ⟨?_, ?_, ?_, ?_, ?_, ?_⟩ <;> simp_all [Ne, eq_comm]
  simp only [walk, lists, acts, mem, plain, seqs, maps, cells, resL, resV, intBin, ↓reduceIte, Nat.reduceAdd, Nat.reduceSub, Nat.reduceMul, Nat.reduceLeDiff, Nat.reduceEqDiff, Int.reduceToNat, Int.reduceEq, Int.reduceLT, Int.reduceLE, Int.reduceNeg, Int.reduceAdd, Int.reduceSub, Int.reduceMul, Nat.reducePow, Int.reduceNegSucc, wTollEvent, m]
  refine toCall_c (c := e.call) ?_
  simp only [walk, lists, acts, mem, plain, seqs, maps, cells, resL, resV, intBin, ↓reduceIte, Nat.reduceAdd, Nat.reduceSub, Nat.reduceMul, Nat.reduceLeDiff, Nat.reduceEqDiff, Int.reduceToNat, Int.reduceEq, Int.reduceLT, Int.reduceLE, Int.reduceNeg, Int.reduceAdd, Int.reduceSub, Int.reduceMul, Nat.reducePow, Int.reduceNegSucc, wTollEvent, wCall, m]
  exact ⟨h, by (repeat' first | exact Sub.refl _ | exact Sub.nil _ | assumption | refine Sub.both ?_ ?_ | refine Sub.cons_of (by simp only [subs, n2, n3, m, h1]) ?_ | exact Sub.left _ _ | refine Sub.app (by simp only [subs, n2, n3, m, h1]) ?_ | refine Sub.cons (by simp only [subs, n2, n3, m, h1]) ?_), k⟩
theorem toEvents_c {h : H} {a : Value} {l : List DTollEvent} (r : rIn h cTollEvent 11 a l) (hl : l.length ≤ 1048576) {R : Ending → H → Prop} (k : ∀ v g, oLs 41 cTollEvent 11 v l g → Dj g h → R (.returned v) (g ++ h)) : HCalls Tryd.prog 7 #[a] h R := by
  refine HCalls_ir (args := [a]) Tryd.func7 ir7 ?_
  have zc := zTollEvent_eq
  simp only [str] at zc
  simp only [walk, lists, acts, mem, plain, seqs, maps, cells, resL, resV, intBin, ↓reduceIte, Nat.reduceAdd, Nat.reduceSub, Nat.reduceMul, Nat.reduceLeDiff, Nat.reduceEqDiff, Int.reduceToNat, Int.reduceEq, Int.reduceLT, Int.reduceLE, Int.reduceNeg, Int.reduceAdd, Int.reduceSub, Int.reduceMul, Nat.reducePow, Int.reduceNegSucc, r.len, str, zc]
  refine ⟨⟨by omega, by omega, by omega, by omega⟩, newB_intro fun j hj => ?_⟩
  rw [zE]
  simp only [walk, lists, acts, mem, plain, seqs, maps, cells, resL, resV, intBin, ↓reduceIte, Nat.reduceAdd, Nat.reduceSub, Nat.reduceMul, Nat.reduceLeDiff, Nat.reduceEqDiff, Int.reduceToNat, Int.reduceEq, Int.reduceLT, Int.reduceLE, Int.reduceNeg, Int.reduceAdd, Int.reduceSub, Int.reduceMul, Nat.reducePow, Int.reduceNegSucc]
  have hr : (List.replicate l.length zTollEvent).length = l.length := by simp
  have o0 : oLs 41 cTollEvent 11 (.slice (some ⟨j, 0, none⟩) l.length l.length) (List.replicate l.length zTollEvent) [(j, blk (fl cTollEvent (List.replicate l.length zTollEvent)) 41)] := by
    have := oLs_new (e := 41) eE_len (j := j) (l := List.replicate l.length zTollEvent)
    rw [hr] at this; exact this
  obtain ⟨V, hV⟩ : ∃ V, V = Value.slice (some ⟨j, 0, none⟩) l.length l.length := ⟨_, rfl⟩
  rw [← hV] at o0 ⊢
  refine vc_loop [4] (fun n vs h' => ∃ (i : Nat) (g' : H), vs = [.int .i64 i] ∧ h' = g' ++ h ∧ Dj g' h ∧ oLs 41 cTollEvent 11 V (l.take i ++ (List.replicate l.length zTollEvent).drop i) g' ∧ i ≤ l.length ∧ n = l.length - i) l.length rfl
    ⟨0, _, rfl, rfl, Dj.one hj, by simpa using o0, by omega, rfl⟩ ?_
  rintro n f h' ⟨i, g', hv, rfl, dj', o', hi, rfl⟩
  simp only [List.map_cons, List.map_nil, List.cons.injEq, and_true] at hv
  simp only [walk, lists, acts, mem, plain, seqs, maps, cells, resL, resV, intBin, ↓reduceIte, Nat.reduceAdd, Nat.reduceSub, Nat.reduceMul, Nat.reduceLeDiff, Nat.reduceEqDiff, Int.reduceToNat, Int.reduceEq, Int.reduceLT, Int.reduceLE, Int.reduceNeg, Int.reduceAdd, Int.reduceSub, Int.reduceMul, Nat.reducePow, Int.reduceNegSucc, wr, hv, r.len]
  refine ite_lt (fun c1 => ?_) fun c1 => ?_
  · have hi2 : i < l.length := by omega
    refine idx_in (i := i) eE_len (r.sub (Sub.right dj')) rfl hi2 fun b1 o1 e1 => ?_
    simp only [walk, lists, acts, mem, plain, seqs, maps, cells, resL, resV, intBin, ↓reduceIte, Nat.reduceAdd, Nat.reduceSub, Nat.reduceMul, Nat.reduceLeDiff, Nat.reduceEqDiff, Int.reduceToNat, Int.reduceEq, Int.reduceLT, Int.reduceLE, Int.reduceNeg, Int.reduceAdd, Int.reduceSub, Int.reduceMul, Nat.reducePow, Int.reduceNegSucc, e1, wTollEvent]
    refine toEvent_c ?_
    simp only [walk, lists, acts, mem, plain, seqs, maps, cells, resL, resV, intBin, ↓reduceIte, Nat.reduceAdd, Nat.reduceSub, Nat.reduceMul, Nat.reduceLeDiff, Nat.reduceEqDiff, Int.reduceToNat, Int.reduceEq, Int.reduceLT, Int.reduceLE, Int.reduceNeg, Int.reduceAdd, Int.reduceSub, Int.reduceMul, Nat.reducePow, Int.reduceNegSucc, wTollEvent]
    refine own_idx (i := i) eE_len o' rfl (by simp; omega) fun b cap sp hv' hc hs hg => ?_
    subst hg
    simp only [walk, lists, acts, mem, plain, seqs, maps, cells, resL, resV, intBin, ↓reduceIte, Nat.reduceAdd, Nat.reduceSub, Nat.reduceMul, Nat.reduceLeDiff, Nat.reduceEqDiff, Int.reduceToNat, Int.reduceEq, Int.reduceLT, Int.reduceLE, Int.reduceNeg, Int.reduceAdd, Int.reduceSub, Int.reduceMul, Nat.reducePow, Int.reduceNegSucc, wTollEvent]
    refine st_own (i := i) (a' := l[i]'hi2) (off := 0) eE_len (by omega) (by simp; omega) rfl (by omega) rfl ?_
    simp only [walk, lists, acts, mem, plain, seqs, maps, cells, resL, resV, intBin, ↓reduceIte, Nat.reduceAdd, Nat.reduceSub, Nat.reduceMul, Nat.reduceLeDiff, Nat.reduceEqDiff, Int.reduceToNat, Int.reduceEq, Int.reduceLT, Int.reduceLE, Int.reduceNeg, Int.reduceAdd, Int.reduceSub, Int.reduceMul, Nat.reducePow, Int.reduceNegSucc]
    simp (disch := omega) only [wrapI]
    refine ⟨l.length - (i + 1), by omega, _, .refl _, i + 1, _, by simp, rfl, Dj.one dj'.one', ?_, by omega, rfl⟩
    rw [← take_set (by omega) hr]
    exact own_set eE_len hv' hc hs
  · have hi' : i = l.length := by omega
    subst hi'
    have o2 : oLs 41 cTollEvent 11 V l g' := by simpa using o'
    exact .of (k _ g' o2 dj')

theorem eqEvent_c {h : H} {x y : DTollEvent} {R : Ending → H → Prop} (k : R (.returned (.bool (decide (x = y)))) h) : HCalls Tryd.prog 23 #[.agg (cTollEvent x).toArray, .agg (cTollEvent y).toArray] h R := by
  refine HCalls_ir (args := [.agg (cTollEvent x).toArray, .agg (cTollEvent y).toArray]) Tryd.func23 ir23 ?_
  simp only [walk, lists, acts, mem, plain, seqs, maps, cells, resL, resV, intBin, ↓reduceIte, Nat.reduceAdd, Nat.reduceSub, Nat.reduceMul, Nat.reduceLeDiff, Nat.reduceEqDiff, Int.reduceToNat, Int.reduceEq, Int.reduceLT, Int.reduceLE, Int.reduceNeg, Int.reduceAdd, Int.reduceSub, Int.reduceMul, Nat.reducePow, Int.reduceNegSucc, wTollEvent]
  refine newB_intro fun j1 h1 => ?_
  simp only [walk, lists, acts, mem, plain, seqs, maps, cells, resL, resV, intBin, ↓reduceIte, Nat.reduceAdd, Nat.reduceSub, Nat.reduceMul, Nat.reduceLeDiff, Nat.reduceEqDiff, Int.reduceToNat, Int.reduceEq, Int.reduceLT, Int.reduceLE, Int.reduceNeg, Int.reduceAdd, Int.reduceSub, Int.reduceMul, Nat.reducePow, Int.reduceNegSucc, wTollEvent]
  refine newB_intro fun j2 h2 => ?_
  have n := fresh h2
  simp only [walk, lists, acts, mem, plain, seqs, maps, cells, resL, resV, intBin, ↓reduceIte, Nat.reduceAdd, Nat.reduceSub, Nat.reduceMul, Nat.reduceLeDiff, Nat.reduceEqDiff, Int.reduceToNat, Int.reduceEq, Int.reduceLT, Int.reduceLE, Int.reduceNeg, Int.reduceAdd, Int.reduceSub, Int.reduceMul, Nat.reducePow, Int.reduceNegSucc, wTollEvent, n.1, n.2.1]
  refine ite_ne (fun d => ⟨h, Sub.cons h2 (Sub.cons h1 (Sub.refl h)), kF k (fun e => d (by rw [e]))⟩) fun d0 => ?_
  refine ite_ne (fun d => ⟨h, Sub.cons h2 (Sub.cons h1 (Sub.refl h)), kF k (fun e => d (by rw [e]))⟩) fun d1 => ?_
  refine ite_ne (fun d => ⟨h, Sub.cons h2 (Sub.cons h1 (Sub.refl h)), kF k (fun e => d (by rw [e]))⟩) fun d2 => ?_
  refine ite_ne (fun d => ⟨h, Sub.cons h2 (Sub.cons h1 (Sub.refl h)), kF k (fun e => d (by rw [e]))⟩) fun d3 => ?_
  refine ite_ne (fun d => ⟨h, Sub.cons h2 (Sub.cons h1 (Sub.refl h)), kF k (fun e => d (by rw [e]))⟩) fun d4 => ?_
  refine eqCall_c (x := x.call) (y := y.call) ?_
  simp only [walk, lists, acts, mem, plain, seqs, maps, cells, resL, resV, intBin, ↓reduceIte, Nat.reduceAdd, Nat.reduceSub, Nat.reduceMul, Nat.reduceLeDiff, Nat.reduceEqDiff, Int.reduceToNat, Int.reduceEq, Int.reduceLT, Int.reduceLE, Int.reduceNeg, Int.reduceAdd, Int.reduceSub, Int.reduceMul, Nat.reducePow, Int.reduceNegSucc, wTollEvent, wCall]
  refine ite_ne (fun d => ⟨h, Sub.cons h2 (Sub.cons h1 (Sub.refl h)), kF k (fun e => d (by rw [e]))⟩) fun d5 => ?_
  refine ⟨h, Sub.cons h2 (Sub.cons h1 (Sub.refl h)), kT k ?_⟩
  cases x; cases y; simp_all
theorem eqEvents_c {h : H} {a b : Value} {la lb : List DTollEvent} (ra : rLs h cTollEvent 11 a la) (rb : rLs h cTollEvent 11 b lb) (ha : la.length ≤ 1099511627776) {R : Ending → H → Prop} (k : R (.returned (.bool (decide (la = lb)))) h) :
    HCalls Tryd.prog 9 #[a, b] h R := by
  refine HCalls_ir (args := [a, b]) Tryd.func9 ir9 ?_
  simp only [walk, lists, acts, mem, plain, seqs, maps, cells, resL, resV, intBin, ↓reduceIte, Nat.reduceAdd, Nat.reduceSub, Nat.reduceMul, Nat.reduceLeDiff, Nat.reduceEqDiff, Int.reduceToNat, Int.reduceEq, Int.reduceLT, Int.reduceLE, Int.reduceNeg, Int.reduceAdd, Int.reduceSub, Int.reduceMul, Nat.reducePow, Int.reduceNegSucc, ra.len, rb.len]
  split
  · rename_i c
    exact .of (kF k fun e => c (by rw [e]))
  · rename_i c
    have hl : la.length = lb.length := by omega
    refine vc_loop [5] (fun n vs h' => ∃ i : Nat, vs = [.int .i64 i] ∧ h' = h ∧ i ≤ la.length ∧ n = la.length - i ∧ la.take i = lb.take i) la.length rfl ⟨0, rfl, rfl, by omega, by omega, by simp⟩ ?_
    rintro n f h' ⟨i, hv, rfl, hi, rfl, ht⟩
    simp only [List.map_cons, List.map_nil, List.cons.injEq, and_true] at hv
    simp only [walk, lists, acts, mem, plain, seqs, maps, cells, resL, resV, intBin, ↓reduceIte, Nat.reduceAdd, Nat.reduceSub, Nat.reduceMul, Nat.reduceLeDiff, Nat.reduceEqDiff, Int.reduceToNat, Int.reduceEq, Int.reduceLT, Int.reduceLE, Int.reduceNeg, Int.reduceAdd, Int.reduceSub, Int.reduceMul, Nat.reducePow, Int.reduceNegSucc, wr, hv, ra.len, rb.len]
    split
    · rename_i c1
      refine vc_draw h' (Sub.refl _) ?_
      simp only [walk, lists, acts, mem, plain, seqs, maps, cells, resL, resV, intBin, ↓reduceIte, Nat.reduceAdd, Nat.reduceSub, Nat.reduceMul, Nat.reduceLeDiff, Nat.reduceEqDiff, Int.reduceToNat, Int.reduceEq, Int.reduceLT, Int.reduceLE, Int.reduceNeg, Int.reduceAdd, Int.reduceSub, Int.reduceMul, Nat.reducePow, Int.reduceNegSucc]
      refine idx_leaf (i := i) eE_len ra rfl (by omega) fun b1 o1 e1 => ?_
      simp only [walk, lists, acts, mem, plain, seqs, maps, cells, resL, resV, intBin, ↓reduceIte, Nat.reduceAdd, Nat.reduceSub, Nat.reduceMul, Nat.reduceLeDiff, Nat.reduceEqDiff, Int.reduceToNat, Int.reduceEq, Int.reduceLT, Int.reduceLE, Int.reduceNeg, Int.reduceAdd, Int.reduceSub, Int.reduceMul, Nat.reducePow, Int.reduceNegSucc, e1, wTollEvent]
      refine idx_leaf (i := i) eE_len rb rfl (by omega) fun b2 o2 e2 => ?_
      simp only [walk, lists, acts, mem, plain, seqs, maps, cells, resL, resV, intBin, ↓reduceIte, Nat.reduceAdd, Nat.reduceSub, Nat.reduceMul, Nat.reduceLeDiff, Nat.reduceEqDiff, Int.reduceToNat, Int.reduceEq, Int.reduceLT, Int.reduceLE, Int.reduceNeg, Int.reduceAdd, Int.reduceSub, Int.reduceMul, Nat.reducePow, Int.reduceNegSucc, e2, wTollEvent]
      refine eqEvent_c ?_
      simp only [walk, lists, acts, mem, plain, seqs, maps, cells, resL, resV, intBin, ↓reduceIte, Nat.reduceAdd, Nat.reduceSub, Nat.reduceMul, Nat.reduceLeDiff, Nat.reduceEqDiff, Int.reduceToNat, Int.reduceEq, Int.reduceLT, Int.reduceLE, Int.reduceNeg, Int.reduceAdd, Int.reduceSub, Int.reduceMul, Nat.reducePow, Int.reduceNegSucc]
      refine ite_ne (fun d => .of (kF k (ne_at _ _ d))) fun d => ?_
      simp (disch := omega) only [wrapI]
      exact ⟨la.length - (i + 1), by omega, h', .refl _, i + 1, by simp, rfl, by omega, rfl, take_more _ _ ht d⟩
    · rename_i c1
      exact .of (kT k (take_all (by omega) hl ht))
end Go.Proofs.YtdlgaidjlepepaaDoor
end

/- How the reference writes lines of scripts, and reads their numbers. -/
section
set_option linter.unusedVariables false
set_option linter.unusedSimpArgs false
set_option maxRecDepth 20000
attribute [local irreducible] Go.Tk.vc Go.Tk.vops Go.Tk.vdr Go.Tk.vop Go.Tk.vfl Go.Tk.HCalls
namespace Go.Tk
open Go
def namesL : List (List UInt8) := [[], [98, 101, 103, 105, 110, 115], [115, 101, 110, 100, 115], [103, 105, 118, 101, 115], [98, 114, 105, 110, 103, 115], [108, 111, 115, 101, 115], [102, 97, 108, 108, 115], [114, 105, 115, 101, 115], [116, 101, 110, 100, 115], [102, 111, 114, 99, 101, 115], [100, 111, 117, 98, 108, 101, 115]]
def nmAt (n : Nat) : List UInt8 := namesL.getD n []
theorem nm_get {n : Nat} (h : n < namesL.length) : namesL[n] = nmAt n := by
  unfold nmAt
  rw [List.getD_eq_getElem?_getD, List.getElem?_eq_getElem h]; rfl
theorem nm_len (n : Nat) : (nmAt n).length ≤ 7 := by
  unfold nmAt
  rw [List.getD_eq_getElem?_getD]
  rcases Nat.lt_or_ge n namesL.length with h | h
  · rw [List.getElem?_eq_getElem h]
    have : ∀ x ∈ namesL, x.length ≤ 7 := by decide
    exact this _ (List.getElem_mem h)
  · rw [List.getElem?_eq_none h]; simp
theorem flT_get : ∀ (l : List (List UInt8)) (i : Nat), (fl eT l)[i]? = l[i]?.map fun t => Value.string ⟨t.toArray⟩ := by
  intro l
  induction l with
  | nil => intro i; simp [fl]
  | cons a l ih =>
    intro i
    rw [fl_cons]
    cases i with
    | zero => rfl
    | succ i => rw [List.getElem?_cons_succ, ← ih i]; rfl
theorem nm_at {i : Nat} (h : i ≤ 10) : (fl eT namesL)[i]? = some (.string ⟨(nmAt i).toArray⟩) := by
  rw [flT_get, List.getElem?_eq_getElem (show i < namesL.length by simp [namesL]; omega), nm_get]
  rfl
def evR (e : DTollEvent) : Prop := i64P e.at_ ∧ i64P e.session ∧ i64P e.word ∧ i64P e.keep ∧ i64P e.call.slot ∧ i64P e.call.to
theorem fit_keep {e : DTollEvent} {s : List UInt8} (h : Fit e s) : e.kind = 4 → e.keep = 0 ∨ e.keep = 1 := by
  refine Fit.elim (M := fun e s => e.kind = 4 → e.keep = 0 ∨ e.keep = 1) ?_ ?_ ?_ ?_ ?_ ?_ ?_ ?_ ?_ ?_ ?_ h <;> intros <;> simp_all
theorem fit_call {e : DTollEvent} {s : List UInt8} (h : Fit e s) : e.kind = 1 → e.call.kind = 1 ∨ e.call.kind = 2 := by
  refine Fit.elim (M := fun e s => e.kind = 1 → e.call.kind = 1 ∨ e.call.kind = 2) ?_ ?_ ?_ ?_ ?_ ?_ ?_ ?_ ?_ ?_ ?_ h <;> intros <;> simp_all
theorem fit_kind {e : DTollEvent} {s : List UInt8} (h : Fit e s) : 1 ≤ e.kind ∧ e.kind ≤ 9 := by
  refine Fit.elim (M := fun e s => 1 ≤ e.kind ∧ e.kind ≤ 9) ?_ ?_ ?_ ?_ ?_ ?_ ?_ ?_ ?_ ?_ ?_ h <;> intros <;> simp
/-- Which numbers a row of texts is. -/
def NumsO (ws : List (List UInt8)) (ns : List Int) (ok : Bool) : Prop := (ok = true ∧ allP sm5 ns ∧ ws = ns.map decI) ∨ (ok = false ∧ ¬ ∃ ns, allP sm5 ns ∧ ws = ns.map decI)
end Go.Tk
namespace Go.Proofs.YtdlgaidjlepepaaDoor
open Go Go.Tk

theorem names_c {h : H} {R : Ending → H → Prop} (k : ∀ j, hget h j = none → R (.returned (.slice (some ⟨j, 0, none⟩) 11 11)) ((j, blk (fl eT namesL) 9) :: h)) : HCalls Tryd.prog 30 #[] h R := by
  refine HCalls_ir (args := []) Tryd.func30 ir30 ?_
  simp only [walk, lists, acts, mem, plain, seqs, maps, cells, resL, resV, intBin, ↓reduceIte, Nat.reduceAdd, Nat.reduceSub, Nat.reduceMul, Nat.reduceLeDiff, Nat.reduceEqDiff, Int.reduceToNat, Int.reduceEq, Int.reduceLT, Int.reduceLE, Int.reduceNeg, Int.reduceAdd, Int.reduceSub, Int.reduceMul, Nat.reducePow, Int.reduceNegSucc, str]
  refine newB_intro (o := blk (fl eT namesL) 9) fun j hj => ?_
  simp only [walk, lists, acts, mem, plain, seqs, maps, cells, resL, resV, intBin, ↓reduceIte, Nat.reduceAdd, Nat.reduceSub, Nat.reduceMul, Nat.reduceLeDiff, Nat.reduceEqDiff, Int.reduceToNat, Int.reduceEq, Int.reduceLT, Int.reduceLE, Int.reduceNeg, Int.reduceAdd, Int.reduceSub, Int.reduceMul, Nat.reducePow, Int.reduceNegSucc]
  exact .of (k j hj)

theorem call_c {h : H} {c : DCall} (h1 : i64P c.slot) (h2 : i64P c.to) (ht : c.text.length ≤ 4194304) {R : Ending → H → Prop} (k : ∀ s, (c.kind = 1 ∨ c.kind = 2 → 32 :: s = callT c) → s.length ≤ c.text.length + 60 → R (.returned (.string ⟨s.toArray⟩)) h) :
    HCalls Tryd.prog 32 #[.agg (cCall c).toArray] h R := by
  refine HCalls_ir (args := [.agg (cCall c).toArray]) Tryd.func32 ir32 ?_
  simp only [walk, lists, acts, mem, plain, seqs, maps, cells, resL, resV, intBin, ↓reduceIte, Nat.reduceAdd, Nat.reduceSub, Nat.reduceMul, Nat.reduceLeDiff, Nat.reduceEqDiff, Int.reduceToNat, Int.reduceEq, Int.reduceLT, Int.reduceLE, Int.reduceNeg, Int.reduceAdd, Int.reduceSub, Int.reduceMul, Nat.reducePow, Int.reduceNegSucc, wCall, str]
  refine newB_intro fun j hj => ?_
  have sj := Sub.cons (o := blk (cCall c) 39) hj (Sub.refl h)
  have l1 := decI_len' h1
  have l2 := decI_len' h2
  simp only [walk, lists, acts, mem, plain, seqs, maps, cells, resL, resV, intBin, ↓reduceIte, Nat.reduceAdd, Nat.reduceSub, Nat.reduceMul, Nat.reduceLeDiff, Nat.reduceEqDiff, Int.reduceToNat, Int.reduceEq, Int.reduceLT, Int.reduceLE, Int.reduceNeg, Int.reduceAdd, Int.reduceSub, Int.reduceMul, Nat.reducePow, Int.reduceNegSucc, wCall]
  refine ite_pos (fun e => ?_) fun e => ?_
  · refine vc_draw _ (Sub.refl _) ?_
    simp only [walk, lists, acts, mem, plain, seqs, maps, cells, resL, resV, intBin, ↓reduceIte, Nat.reduceAdd, Nat.reduceSub, Nat.reduceMul, Nat.reduceLeDiff, Nat.reduceEqDiff, Int.reduceToNat, Int.reduceEq, Int.reduceLT, Int.reduceLE, Int.reduceNeg, Int.reduceAdd, Int.reduceSub, Int.reduceMul, Nat.reducePow, Int.reduceNegSucc, wCall, str]
    refine l6Dec_c h1 ?_
    simp (disch := (first | assumption | (simp only [List.length_append, List.length_cons, List.length_nil]; omega) | omega)) only [walk, lists, acts, mem, plain, seqs, maps, cells, resL, resV, intBin, ↓reduceIte, Nat.reduceAdd, Nat.reduceSub, Nat.reduceMul, Nat.reduceLeDiff, Nat.reduceEqDiff, Int.reduceToNat, Int.reduceEq, Int.reduceLT, Int.reduceLE, Int.reduceNeg, Int.reduceAdd, Int.reduceSub, Int.reduceMul, Nat.reducePow, Int.reduceNegSucc, wCall, str, str_add]
    refine l6Dec_c h2 ?_
    simp (disch := (first | assumption | (simp only [List.length_append, List.length_cons, List.length_nil]; omega) | omega)) only [walk, lists, acts, mem, plain, seqs, maps, cells, resL, resV, intBin, ↓reduceIte, Nat.reduceAdd, Nat.reduceSub, Nat.reduceMul, Nat.reduceLeDiff, Nat.reduceEqDiff, Int.reduceToNat, Int.reduceEq, Int.reduceLT, Int.reduceLE, Int.reduceNeg, Int.reduceAdd, Int.reduceSub, Int.reduceMul, Nat.reducePow, Int.reduceNegSucc, wCall, str, str_add]
    refine ⟨h, sj, k _ (fun _ => ?_) (by simp only [List.length_append, List.length_cons, List.length_nil]; omega)⟩
    simp [callT, e]
  · refine ite_pos (fun e2 => ?_) fun e2 => ?_
    · simp (disch := (first | assumption | (simp only [List.length_append, List.length_cons, List.length_nil]; omega) | omega)) only [walk, lists, acts, mem, plain, seqs, maps, cells, resL, resV, intBin, ↓reduceIte, Nat.reduceAdd, Nat.reduceSub, Nat.reduceMul, Nat.reduceLeDiff, Nat.reduceEqDiff, Int.reduceToNat, Int.reduceEq, Int.reduceLT, Int.reduceLE, Int.reduceNeg, Int.reduceAdd, Int.reduceSub, Int.reduceMul, Nat.reducePow, Int.reduceNegSucc, wCall, str, str_add]
      refine ⟨h, sj, k _ (fun _ => ?_) (by simp only [List.length_append, List.length_cons, List.length_nil]; omega)⟩
      simp [callT, e2]
    · exact ⟨h, sj, k [] (fun x => absurd x (by omega)) (by simp)⟩

theorem line_c {h : H} {e : DTollEvent} (hR : evR e) (ht : e.call.text.length ≤ 1048576) {R : Ending → H → Prop} (k : ∀ s, (∀ s', Fit e s' → s' = s) → s.length ≤ 1048776 → R (.returned (.string ⟨s.toArray⟩)) h) :
    HCalls Tryd.prog 15 #[.agg (cTollEvent e).toArray] h R := by
  refine HCalls_ir (args := [.agg (cTollEvent e).toArray]) Tryd.func15 ir15 ?_
  simp only [walk, lists, acts, mem, plain, seqs, maps, cells, resL, resV, intBin, ↓reduceIte, Nat.reduceAdd, Nat.reduceSub, Nat.reduceMul, Nat.reduceLeDiff, Nat.reduceEqDiff, Int.reduceToNat, Int.reduceEq, Int.reduceLT, Int.reduceLE, Int.reduceNeg, Int.reduceAdd, Int.reduceSub, Int.reduceMul, Nat.reducePow, Int.reduceNegSucc, wTollEvent, str]
  refine newB_intro fun j hj => ?_
  have sj := Sub.cons (o := blk (cTollEvent e) 41) hj (Sub.refl h)
  have n1 := hj
  obtain ⟨r1, r2, r3, r4, r5, r6⟩ := hR
  simp only [walk, lists, acts, mem, plain, seqs, maps, cells, resL, resV, intBin, ↓reduceIte, Nat.reduceAdd, Nat.reduceSub, Nat.reduceMul, Nat.reduceLeDiff, Nat.reduceEqDiff, Int.reduceToNat, Int.reduceEq, Int.reduceLT, Int.reduceLE, Int.reduceNeg, Int.reduceAdd, Int.reduceSub, Int.reduceMul, Nat.reducePow, Int.reduceNegSucc, wTollEvent]
  refine l6In_c fun b hb => ?_
  cases b with
  | false =>
    simp only [walk, lists, acts, mem, plain, seqs, maps, cells, resL, resV, intBin, ↓reduceIte, Nat.reduceAdd, Nat.reduceSub, Nat.reduceMul, Nat.reduceLeDiff, Nat.reduceEqDiff, Int.reduceToNat, Int.reduceEq, Int.reduceLT, Int.reduceLE, Int.reduceNeg, Int.reduceAdd, Int.reduceSub, Int.reduceMul, Nat.reducePow, Int.reduceNegSucc, wTollEvent]
    refine ⟨h, sj, k [] (fun s' f => absurd (hb.2 (fit_kind f)) (by simp)) (by simp)⟩
  | true =>
  have hk := hb.1 rfl
  unfold inP at hk
  simp only [walk, lists, acts, mem, plain, seqs, maps, cells, resL, resV, intBin, ↓reduceIte, Nat.reduceAdd, Nat.reduceSub, Nat.reduceMul, Nat.reduceLeDiff, Nat.reduceEqDiff, Int.reduceToNat, Int.reduceEq, Int.reduceLT, Int.reduceLE, Int.reduceNeg, Int.reduceAdd, Int.reduceSub, Int.reduceMul, Nat.reducePow, Int.reduceNegSucc, wTollEvent]
  refine vc_draw _ (Sub.refl _) ?_
  simp only [walk, lists, acts, mem, plain, seqs, maps, cells, resL, resV, intBin, ↓reduceIte, Nat.reduceAdd, Nat.reduceSub, Nat.reduceMul, Nat.reduceLeDiff, Nat.reduceEqDiff, Int.reduceToNat, Int.reduceEq, Int.reduceLT, Int.reduceLE, Int.reduceNeg, Int.reduceAdd, Int.reduceSub, Int.reduceMul, Nat.reducePow, Int.reduceNegSucc, wTollEvent]
  refine names_c fun j2 hj2 => ?_
  have n2 := hj2
  simp only [subs] at n2
  have sj2 := Sub_new (o := blk (fl eT namesL) 9) hj2
  simp only [walk, lists, acts, mem, plain, seqs, maps, cells, resL, resV, intBin, ↓reduceIte, Nat.reduceAdd, Nat.reduceSub, Nat.reduceMul, Nat.reduceLeDiff, Nat.reduceEqDiff, Int.reduceToNat, Int.reduceEq, Int.reduceLT, Int.reduceLE, Int.reduceNeg, Int.reduceAdd, Int.reduceSub, Int.reduceMul, Nat.reducePow, Int.reduceNegSucc, wTollEvent, sj2]
  have hn := nm_len e.kind.toNat
  have hn10 := nm_len 10
  have l1 := decI_len' r1
  have l2 := decI_len' r2
  have l3 := decI_len' r3
  have l4 := decI_len' r4
  have d0 : (fl eT namesL)[10]? = some (.string ⟨(nmAt 10).toArray⟩) := nm_at (by omega)
  have m : j2 ≠ j ∧ j ≠ j2 := ⟨n2.1, Ne.symm n2.1⟩
  have m1 := m.1
  have m2 := m.2
  simp only [walk, lists, acts, mem, plain, seqs, maps, cells, resL, resV, intBin, ↓reduceIte, Nat.reduceAdd, Nat.reduceSub, Nat.reduceMul, Nat.reduceLeDiff, Nat.reduceEqDiff, Int.reduceToNat, Int.reduceEq, Int.reduceLT, Int.reduceLE, Int.reduceNeg, Int.reduceAdd, Int.reduceSub, Int.reduceMul, Nat.reducePow, Int.reduceNegSucc, wTollEvent, nm_at (show e.kind.toNat ≤ 10 by omega), m, sj2, true_and]
  refine ⟨⟨by omega, by omega⟩, ?_⟩
  have sb : Tk.Sub h ((j2, blk (fl eT namesL) 9) :: (j, blk (cTollEvent e) 41) :: h) := by (repeat' first | exact Sub.refl _ | exact Sub.nil _ | assumption | refine Sub.both ?_ ?_ | refine Sub.cons_of (by simp only [subs, n1, n2]) ?_ | exact Sub.left _ _ | refine Sub.app (by simp only [subs, n1, n2]) ?_ | refine Sub.cons (by simp only [subs, n1, n2]) ?_)
  refine ite_pos (fun c1 => ?_) fun c1 => ?_
  · refine vc_draw _ (Sub.refl _) ?_
    simp (disch := (first | assumption | (simp only [List.length_append, List.length_cons, List.length_nil]; omega) | omega)) only [walk, lists, acts, mem, plain, seqs, maps, cells, resL, resV, intBin, ↓reduceIte, Nat.reduceAdd, Nat.reduceSub, Nat.reduceMul, Nat.reduceLeDiff, Nat.reduceEqDiff, Int.reduceToNat, Int.reduceEq, Int.reduceLT, Int.reduceLE, Int.reduceNeg, Int.reduceAdd, Int.reduceSub, Int.reduceMul, Nat.reducePow, Int.reduceNegSucc, wTollEvent, m, str, str_add]
    refine l6Dec_c r2 ?_
    simp (disch := (first | assumption | (simp only [List.length_append, List.length_cons, List.length_nil]; omega) | omega)) only [walk, lists, acts, mem, plain, seqs, maps, cells, resL, resV, intBin, ↓reduceIte, Nat.reduceAdd, Nat.reduceSub, Nat.reduceMul, Nat.reduceLeDiff, Nat.reduceEqDiff, Int.reduceToNat, Int.reduceEq, Int.reduceLT, Int.reduceLE, Int.reduceNeg, Int.reduceAdd, Int.reduceSub, Int.reduceMul, Nat.reducePow, Int.reduceNegSucc, wTollEvent, m, str, str_add]
    refine call_c r5 r6 (by omega) fun s h1 h2 => ?_
    simp (disch := (first | assumption | (simp only [List.length_append, List.length_cons, List.length_nil]; omega) | omega)) only [walk, lists, acts, mem, plain, seqs, maps, cells, resL, resV, intBin, ↓reduceIte, Nat.reduceAdd, Nat.reduceSub, Nat.reduceMul, Nat.reduceLeDiff, Nat.reduceEqDiff, Int.reduceToNat, Int.reduceEq, Int.reduceLT, Int.reduceLE, Int.reduceNeg, Int.reduceAdd, Int.reduceSub, Int.reduceMul, Nat.reducePow, Int.reduceNegSucc, wTollEvent, m, str, str_add]
    refine ⟨h, sb, k _ (fun s' hf => ?_) (by simp only [List.length_append, List.length_cons, List.length_nil]; omega)⟩
    have h3 := h1 (fit_call hf c1)
    rw [← itext_fit hf]
    simp [itext, forms, hitF, textF, numsT, getN, List.find?, nmAt, namesL, c1, ← h3]
  refine ite_pos (fun c2 => ?_) fun c2 => ?_
  · simp (disch := (first | assumption | (simp only [List.length_append, List.length_cons, List.length_nil]; omega) | omega)) only [walk, lists, acts, mem, plain, seqs, maps, cells, resL, resV, intBin, ↓reduceIte, Nat.reduceAdd, Nat.reduceSub, Nat.reduceMul, Nat.reduceLeDiff, Nat.reduceEqDiff, Int.reduceToNat, Int.reduceEq, Int.reduceLT, Int.reduceLE, Int.reduceNeg, Int.reduceAdd, Int.reduceSub, Int.reduceMul, Nat.reducePow, Int.reduceNegSucc, wTollEvent, m, str, str_add]
    refine l6Dec_c r2 ?_
    simp (disch := (first | assumption | (simp only [List.length_append, List.length_cons, List.length_nil]; omega) | omega)) only [walk, lists, acts, mem, plain, seqs, maps, cells, resL, resV, intBin, ↓reduceIte, Nat.reduceAdd, Nat.reduceSub, Nat.reduceMul, Nat.reduceLeDiff, Nat.reduceEqDiff, Int.reduceToNat, Int.reduceEq, Int.reduceLT, Int.reduceLE, Int.reduceNeg, Int.reduceAdd, Int.reduceSub, Int.reduceMul, Nat.reducePow, Int.reduceNegSucc, wTollEvent, m, str, str_add]
    refine ⟨h, sb, k _ (fun s' hf => ?_) (by simp only [List.length_append, List.length_cons, List.length_nil]; omega)⟩
    rw [← itext_fit hf]
    simp [itext, forms, hitF, textF, numsT, getN, List.find?, nmAt, namesL, c2]
  refine ite_pos (fun c3 => ?_) fun c3 => ?_
  · simp (disch := (first | assumption | (simp only [List.length_append, List.length_cons, List.length_nil]; omega) | omega)) only [walk, lists, acts, mem, plain, seqs, maps, cells, resL, resV, intBin, ↓reduceIte, Nat.reduceAdd, Nat.reduceSub, Nat.reduceMul, Nat.reduceLeDiff, Nat.reduceEqDiff, Int.reduceToNat, Int.reduceEq, Int.reduceLT, Int.reduceLE, Int.reduceNeg, Int.reduceAdd, Int.reduceSub, Int.reduceMul, Nat.reducePow, Int.reduceNegSucc, wTollEvent, m, str, str_add]
    refine l6Dec_c r2 ?_
    simp (disch := (first | assumption | (simp only [List.length_append, List.length_cons, List.length_nil]; omega) | omega)) only [walk, lists, acts, mem, plain, seqs, maps, cells, resL, resV, intBin, ↓reduceIte, Nat.reduceAdd, Nat.reduceSub, Nat.reduceMul, Nat.reduceLeDiff, Nat.reduceEqDiff, Int.reduceToNat, Int.reduceEq, Int.reduceLT, Int.reduceLE, Int.reduceNeg, Int.reduceAdd, Int.reduceSub, Int.reduceMul, Nat.reducePow, Int.reduceNegSucc, wTollEvent, m, str, str_add]
    refine ⟨h, sb, k _ (fun s' hf => ?_) (by simp only [List.length_append, List.length_cons, List.length_nil]; omega)⟩
    rw [← itext_fit hf]
    simp [itext, forms, hitF, textF, numsT, getN, List.find?, nmAt, namesL, c3]
  refine ite_pos (fun c4 => ?_) fun c4 => ?_
  · refine ite_pos (fun c5 => ?_) fun c5 => ?_
    · refine names_c fun j3 hj3 => ?_
      have n3 := hj3
      simp only [subs] at n3
      have m3 : j3 ≠ j ∧ j ≠ j3 ∧ j3 ≠ j2 ∧ j2 ≠ j3 := ⟨n3.2.1, Ne.symm n3.2.1, n3.1, Ne.symm n3.1⟩
      have m3a := m3.1
      have m3b := m3.2.1
      have m3c := m3.2.2.1
      have m3d := m3.2.2.2
      simp only [walk, lists, acts, mem, plain, seqs, maps, cells, resL, resV, intBin, ↓reduceIte, Nat.reduceAdd, Nat.reduceSub, Nat.reduceMul, Nat.reduceLeDiff, Nat.reduceEqDiff, Int.reduceToNat, Int.reduceEq, Int.reduceLT, Int.reduceLE, Int.reduceNeg, Int.reduceAdd, Int.reduceSub, Int.reduceMul, Nat.reducePow, Int.reduceNegSucc, wTollEvent, m, m3, d0]
      refine ⟨by omega, ?_⟩
      simp (disch := (first | assumption | (simp only [List.length_append, List.length_cons, List.length_nil]; omega) | omega)) only [walk, lists, acts, mem, plain, seqs, maps, cells, resL, resV, intBin, ↓reduceIte, Nat.reduceAdd, Nat.reduceSub, Nat.reduceMul, Nat.reduceLeDiff, Nat.reduceEqDiff, Int.reduceToNat, Int.reduceEq, Int.reduceLT, Int.reduceLE, Int.reduceNeg, Int.reduceAdd, Int.reduceSub, Int.reduceMul, Nat.reducePow, Int.reduceNegSucc, wTollEvent, m, m3, str, str_add]
      refine l6Dec_c r3 ?_
      simp (disch := (first | assumption | (simp only [List.length_append, List.length_cons, List.length_nil]; omega) | omega)) only [walk, lists, acts, mem, plain, seqs, maps, cells, resL, resV, intBin, ↓reduceIte, Nat.reduceAdd, Nat.reduceSub, Nat.reduceMul, Nat.reduceLeDiff, Nat.reduceEqDiff, Int.reduceToNat, Int.reduceEq, Int.reduceLT, Int.reduceLE, Int.reduceNeg, Int.reduceAdd, Int.reduceSub, Int.reduceMul, Nat.reducePow, Int.reduceNegSucc, wTollEvent, m, m3, str, str_add]
      refine ⟨h, sb.trans (Sub.cons hj3 (Sub.refl _)), k _ (fun s' hf => ?_) (by simp only [List.length_append, List.length_cons, List.length_nil]; omega)⟩
      rw [← itext_fit hf]
      simp [itext, forms, hitF, textF, numsT, getN, List.find?, nmAt, namesL, c4, c5]
    · simp (disch := (first | assumption | (simp only [List.length_append, List.length_cons, List.length_nil]; omega) | omega)) only [walk, lists, acts, mem, plain, seqs, maps, cells, resL, resV, intBin, ↓reduceIte, Nat.reduceAdd, Nat.reduceSub, Nat.reduceMul, Nat.reduceLeDiff, Nat.reduceEqDiff, Int.reduceToNat, Int.reduceEq, Int.reduceLT, Int.reduceLE, Int.reduceNeg, Int.reduceAdd, Int.reduceSub, Int.reduceMul, Nat.reducePow, Int.reduceNegSucc, wTollEvent, m, str, str_add]
      refine l6Dec_c r3 ?_
      simp (disch := (first | assumption | (simp only [List.length_append, List.length_cons, List.length_nil]; omega) | omega)) only [walk, lists, acts, mem, plain, seqs, maps, cells, resL, resV, intBin, ↓reduceIte, Nat.reduceAdd, Nat.reduceSub, Nat.reduceMul, Nat.reduceLeDiff, Nat.reduceEqDiff, Int.reduceToNat, Int.reduceEq, Int.reduceLT, Int.reduceLE, Int.reduceNeg, Int.reduceAdd, Int.reduceSub, Int.reduceMul, Nat.reducePow, Int.reduceNegSucc, wTollEvent, m, str, str_add]
      refine ⟨h, sb, k _ (fun s' hf => ?_) (by simp only [List.length_append, List.length_cons, List.length_nil]; omega)⟩
      rw [← itext_fit hf]
      have k0 : e.keep = 0 := by
        rcases fit_keep hf c4 with x | x
        · exact x
        · exact absurd x c5
      simp [itext, forms, hitF, textF, numsT, getN, List.find?, nmAt, namesL, c4, k0]
  refine ite_pos (fun c5 => ?_) fun c5 => ?_
  · simp (disch := (first | assumption | (simp only [List.length_append, List.length_cons, List.length_nil]; omega) | omega)) only [walk, lists, acts, mem, plain, seqs, maps, cells, resL, resV, intBin, ↓reduceIte, Nat.reduceAdd, Nat.reduceSub, Nat.reduceMul, Nat.reduceLeDiff, Nat.reduceEqDiff, Int.reduceToNat, Int.reduceEq, Int.reduceLT, Int.reduceLE, Int.reduceNeg, Int.reduceAdd, Int.reduceSub, Int.reduceMul, Nat.reducePow, Int.reduceNegSucc, wTollEvent, m, str, str_add]
    refine l6Dec_c r3 ?_
    simp (disch := (first | assumption | (simp only [List.length_append, List.length_cons, List.length_nil]; omega) | omega)) only [walk, lists, acts, mem, plain, seqs, maps, cells, resL, resV, intBin, ↓reduceIte, Nat.reduceAdd, Nat.reduceSub, Nat.reduceMul, Nat.reduceLeDiff, Nat.reduceEqDiff, Int.reduceToNat, Int.reduceEq, Int.reduceLT, Int.reduceLE, Int.reduceNeg, Int.reduceAdd, Int.reduceSub, Int.reduceMul, Nat.reducePow, Int.reduceNegSucc, wTollEvent, m, str, str_add]
    refine ⟨h, sb, k _ (fun s' hf => ?_) (by simp only [List.length_append, List.length_cons, List.length_nil]; omega)⟩
    rw [← itext_fit hf]
    simp [itext, forms, hitF, textF, numsT, getN, List.find?, nmAt, namesL, c5]
  refine ite_pos (fun c6 => ?_) fun c6 => ?_
  · refine vc_draw _ (Sub.refl _) ?_
    simp (disch := (first | assumption | (simp only [List.length_append, List.length_cons, List.length_nil]; omega) | omega)) only [walk, lists, acts, mem, plain, seqs, maps, cells, resL, resV, intBin, ↓reduceIte, Nat.reduceAdd, Nat.reduceSub, Nat.reduceMul, Nat.reduceLeDiff, Nat.reduceEqDiff, Int.reduceToNat, Int.reduceEq, Int.reduceLT, Int.reduceLE, Int.reduceNeg, Int.reduceAdd, Int.reduceSub, Int.reduceMul, Nat.reducePow, Int.reduceNegSucc, wTollEvent, m, str, str_add]
    refine l6Dec_c r1 ?_
    simp (disch := (first | assumption | (simp only [List.length_append, List.length_cons, List.length_nil]; omega) | omega)) only [walk, lists, acts, mem, plain, seqs, maps, cells, resL, resV, intBin, ↓reduceIte, Nat.reduceAdd, Nat.reduceSub, Nat.reduceMul, Nat.reduceLeDiff, Nat.reduceEqDiff, Int.reduceToNat, Int.reduceEq, Int.reduceLT, Int.reduceLE, Int.reduceNeg, Int.reduceAdd, Int.reduceSub, Int.reduceMul, Nat.reducePow, Int.reduceNegSucc, wTollEvent, m, str, str_add]
    refine l6Dec_c r4 ?_
    simp (disch := (first | assumption | (simp only [List.length_append, List.length_cons, List.length_nil]; omega) | omega)) only [walk, lists, acts, mem, plain, seqs, maps, cells, resL, resV, intBin, ↓reduceIte, Nat.reduceAdd, Nat.reduceSub, Nat.reduceMul, Nat.reduceLeDiff, Nat.reduceEqDiff, Int.reduceToNat, Int.reduceEq, Int.reduceLT, Int.reduceLE, Int.reduceNeg, Int.reduceAdd, Int.reduceSub, Int.reduceMul, Nat.reducePow, Int.reduceNegSucc, wTollEvent, m, str, str_add]
    refine ⟨h, sb, k _ (fun s' hf => ?_) (by simp only [List.length_append, List.length_cons, List.length_nil]; omega)⟩
    rw [← itext_fit hf]
    simp [itext, forms, hitF, textF, numsT, getN, List.find?, nmAt, namesL, c6]
  simp (disch := (first | assumption | (simp only [List.length_append, List.length_cons, List.length_nil]; omega) | omega)) only [walk, lists, acts, mem, plain, seqs, maps, cells, resL, resV, intBin, ↓reduceIte, Nat.reduceAdd, Nat.reduceSub, Nat.reduceMul, Nat.reduceLeDiff, Nat.reduceEqDiff, Int.reduceToNat, Int.reduceEq, Int.reduceLT, Int.reduceLE, Int.reduceNeg, Int.reduceAdd, Int.reduceSub, Int.reduceMul, Nat.reducePow, Int.reduceNegSucc, wTollEvent, m, str, str_add]
  refine l6Dec_c r1 ?_
  simp (disch := (first | assumption | (simp only [List.length_append, List.length_cons, List.length_nil]; omega) | omega)) only [walk, lists, acts, mem, plain, seqs, maps, cells, resL, resV, intBin, ↓reduceIte, Nat.reduceAdd, Nat.reduceSub, Nat.reduceMul, Nat.reduceLeDiff, Nat.reduceEqDiff, Int.reduceToNat, Int.reduceEq, Int.reduceLT, Int.reduceLE, Int.reduceNeg, Int.reduceAdd, Int.reduceSub, Int.reduceMul, Nat.reducePow, Int.reduceNegSucc, wTollEvent, m, str, str_add]
  refine ⟨h, sb, k _ (fun s' hf => ?_) (by simp only [List.length_append, List.length_cons, List.length_nil]; omega)⟩
  rw [← itext_fit hf]
  have c7 : e.kind = 7 ∨ e.kind = 8 ∨ e.kind = 9 := by omega
  rcases c7 with c7 | c7 | c7 <;> simp [itext, forms, hitF, textF, numsT, getN, List.find?, nmAt, namesL, c7]
end Go.Proofs.YtdlgaidjlepepaaDoor
end

/- How the reference reads what a call asks for. -/
section
set_option linter.unusedVariables false
set_option linter.unusedSimpArgs false
set_option maxRecDepth 20000
attribute [local irreducible] Go.Tk.vc Go.Tk.vops Go.Tk.vdr Go.Tk.vop Go.Tk.vfl Go.Tk.HCalls
namespace Go.Tk
open Go
theorem decI_sm {n : Int} (h : sm5 n) : ∃ m : Nat, n = (m : Int) ∧ m ≤ 99999 ∧ decI n = decN m ∧ numS (decI n) = some m := by
  obtain ⟨m, rfl, hm⟩ := sm5_nat h
  exact ⟨m, rfl, hm, decI_nat m, by rw [decI_nat]; exact numS_dec hm⟩
def AskO (s : List UInt8) (c : DCall) (ok : Bool) : Prop := (ok = true ∧ askP c ∧ s = askC c) ∨ (ok = false ∧ ∀ c, askP c → s ≠ askC c)
theorem ask_deal {s : List UInt8} {c : DCall} (h : askP c) (e : s = askC c) (hd : s.take 5 = [100, 101, 97, 108, 32]) : printP (s.drop 5) ∧ (s.drop 5).length ≤ 80 := by
  obtain ⟨_, _, ⟨k, p, l, _, _⟩ | ⟨k, _, _, _⟩⟩ := h
  · have : askC c = [100, 101, 97, 108, 32] ++ c.text := by simp [askC, k]
    rw [e, this]
    exact ⟨p, l⟩
  · exfalso
    rw [e] at hd
    simp [askC, k] at hd
theorem ask_move {s : List UInt8} {c : DCall} (h : askP c) (e : s = askC c) (hd : ¬ s.take 5 = [100, 101, 97, 108, 32]) : ∃ a b, sm5 a ∧ sm5 b ∧ splitB 32 s = [[109, 111, 118, 101], decI a, decI b] := by
  obtain ⟨_, _, ⟨k, p, l, _, _⟩ | ⟨k, _, sa, sb⟩⟩ := h
  · exfalso
    apply hd
    rw [e]
    simp [askC, k]
  · refine ⟨c.slot, c.to, sa, sb, ?_⟩
    have : askC c = [109, 111, 118, 101] ++ 32 :: (decI c.slot ++ 32 :: decI c.to) := by simp [askC, k]
    obtain ⟨x, _, _, hx, _⟩ := decI_sm sa
    obtain ⟨y, _, _, hy, _⟩ := decI_sm sb
    rw [e, this, splitB_app _ (by decide), hx, hy, splitB_app _ (decN_no32 x), splitB_none (decN_no32 y)]
theorem ask_moved {s w : List UInt8} {r : List (List UInt8)} {a b : Int} (hs : splitB 32 s = w :: r) (hw : w = [109, 111, 118, 101]) (hr : r = [decI a, decI b]) (sa : sm5 a) (sb : sm5 b) : askP ⟨0, 0, 2, [], a, b⟩ ∧ s = askC ⟨0, 0, 2, [], a, b⟩ := by
  refine ⟨⟨rfl, rfl, .inr ⟨rfl, rfl, sa, sb⟩⟩, ?_⟩
  rw [splitB_join hs, hw, hr]
  simp [askC]
theorem eI_one' (l : List Int) : (fl eI l).all vone = true := by induction l <;> simp_all [fl, eI, vone]
end Go.Tk
namespace Go.Proofs.YtdlgaidjlepepaaDoor
open Go Go.Tk

theorem nums_c {h : H} {v : Value} {ws : List (List UInt8)} (r : rLs h eT 1 v ws) (hw : ws.length ≤ 4194305) (hl : ∀ w ∈ ws, w.length ≤ 4194304) {R : Ending → H → Prop}
    (kT : ∀ v' g ns, allP sm5 ns → ws = ns.map decI → oLs 3 eI 1 v' ns g → Dj g h → R (.returned (.tuple #[v', .bool true])) (g ++ h))
    (kF : (¬ ∃ ns, allP sm5 ns ∧ ws = ns.map decI) → ∀ v', R (.returned (.tuple #[v', .bool false])) h) :
    HCalls Tryd.prog 34 #[v] h R := by
  refine HCalls_ir (args := [v]) Tryd.func34 ir34 ?_
  simp only [walk, lists, acts, mem, plain, seqs, maps, cells, resL, resV, intBin, ↓reduceIte, Nat.reduceAdd, Nat.reduceSub, Nat.reduceMul, Nat.reduceLeDiff, Nat.reduceEqDiff, Int.reduceToNat, Int.reduceEq, Int.reduceLT, Int.reduceLE, Int.reduceNeg, Int.reduceAdd, Int.reduceSub, Int.reduceMul, Nat.reducePow, Int.reduceNegSucc]
  refine newB_intro (o := blk (fl eI []) 3) fun j1 hj1 => ?_
  have o1 : oLs 3 eI 1 (.slice (some ⟨j1, 0, none⟩) 0 0) [] [(j1, blk (fl eI []) 3)] := oLs_new eI_len
  simp only [walk, lists, acts, mem, plain, seqs, maps, cells, resL, resV, intBin, ↓reduceIte, Nat.reduceAdd, Nat.reduceSub, Nat.reduceMul, Nat.reduceLeDiff, Nat.reduceEqDiff, Int.reduceToNat, Int.reduceEq, Int.reduceLT, Int.reduceLE, Int.reduceNeg, Int.reduceAdd, Int.reduceSub, Int.reduceMul, Nat.reducePow, Int.reduceNegSucc]
  refine vc_loop [5, 4] (fun n vs h' => ∃ (i : Nat) (v' : Value) (O : List Int) (g : H), vs = [.int .i64 i, v'] ∧ h' = g ++ h ∧ Dj g h ∧ oLs 3 eI 1 v' O g ∧ allP sm5 O ∧ ws.take i = O.map decI ∧ i ≤ ws.length ∧ n = ws.length - i) ws.length rfl
    ⟨0, _, [], _, rfl, rfl, Dj.one hj1, o1, (fun x hx => by cases hx), by simp, by omega, rfl⟩ ?_
  rintro n f h' ⟨i, v', O, g, hv, rfl, dj, o, hO, ht, hi, rfl⟩
  simp only [List.map_cons, List.map_nil, List.cons.injEq, and_true] at hv
  have hOl : O.length = i := by have := congrArg List.length ht; rw [List.length_take, List.length_map] at this; omega
  simp only [walk, lists, acts, mem, plain, seqs, maps, cells, resL, resV, intBin, ↓reduceIte, Nat.reduceAdd, Nat.reduceSub, Nat.reduceMul, Nat.reduceLeDiff, Nat.reduceEqDiff, Int.reduceToNat, Int.reduceEq, Int.reduceLT, Int.reduceLE, Int.reduceNeg, Int.reduceAdd, Int.reduceSub, Int.reduceMul, Nat.reducePow, Int.reduceNegSucc, wr, hv.1, hv.2, r.len]
  refine ite_lt (fun c1 => ?_) fun c1 => ?_
  · have hi2 : i < ws.length := by omega
    refine idx_leaf (i := i) eT_len (r.sub (Sub.right dj)) rfl hi2 fun b1 o1 e1 => ?_
    have e1' : hread (g ++ h) b1 o1 1 = some [.string ⟨ws[i].toArray⟩] := e1
    have bad : numS ws[i] = none → ¬ ∃ ns, allP sm5 ns ∧ ws = ns.map decI := by
      rintro hn ⟨ns, h1, h2⟩
      have hi3 : i < ns.length := by have := congrArg List.length h2; rw [List.length_map] at this; omega
      have h3 : ws[i] = decI ns[i] := by
        have : ∀ (m : List (List UInt8)) (hm : i < m.length), m = ns.map decI → m[i] = decI ns[i] := by rintro m hm rfl; simp
        exact this ws hi2 h2
      obtain ⟨m, _, _, _, h4⟩ := decI_sm (h1 _ (List.getElem_mem hi3))
      rw [← h3, hn] at h4
      cases h4
    simp only [walk, lists, acts, mem, plain, seqs, maps, cells, resL, resV, intBin, ↓reduceIte, Nat.reduceAdd, Nat.reduceSub, Nat.reduceMul, Nat.reduceLeDiff, Nat.reduceEqDiff, Int.reduceToNat, Int.reduceEq, Int.reduceLT, Int.reduceLE, Int.reduceNeg, Int.reduceAdd, Int.reduceSub, Int.reduceMul, Nat.reducePow, Int.reduceNegSucc, hread_1 e1']
    refine l1Num_c (hl _ (List.getElem_mem hi2)) fun n ok ha hb => ?_
    cases ok with
    | false =>
      have hn : numS ws[i] = none := by
        cases e : numS ws[i] with
        | none => rfl
        | some m => exact absurd (ha m e).1 (by simp)
      simp only [walk, lists, acts, mem, plain, seqs, maps, cells, resL, resV, intBin, ↓reduceIte, Nat.reduceAdd, Nat.reduceSub, Nat.reduceMul, Nat.reduceLeDiff, Nat.reduceEqDiff, Int.reduceToNat, Int.reduceEq, Int.reduceLT, Int.reduceLE, Int.reduceNeg, Int.reduceAdd, Int.reduceSub, Int.reduceMul, Nat.reducePow, Int.reduceNegSucc]
      refine newB_intro (o := blk (fl eI []) 3) fun j2 hj2 => ?_
      simp only [walk, lists, acts, mem, plain, seqs, maps, cells, resL, resV, intBin, ↓reduceIte, Nat.reduceAdd, Nat.reduceSub, Nat.reduceMul, Nat.reduceLeDiff, Nat.reduceEqDiff, Int.reduceToNat, Int.reduceEq, Int.reduceLT, Int.reduceLE, Int.reduceNeg, Int.reduceAdd, Int.reduceSub, Int.reduceMul, Nat.reducePow, Int.reduceNegSucc]
      exact ⟨h, (Sub.right dj).trans (Sub.cons hj2 (Sub.refl _)), kF (bad hn) _⟩
    | true =>
      simp only [walk, lists, acts, mem, plain, seqs, maps, cells, resL, resV, intBin, ↓reduceIte, Nat.reduceAdd, Nat.reduceSub, Nat.reduceMul, Nat.reduceLeDiff, Nat.reduceEqDiff, Int.reduceToNat, Int.reduceEq, Int.reduceLT, Int.reduceLE, Int.reduceNeg, Int.reduceAdd, Int.reduceSub, Int.reduceMul, Nat.reducePow, Int.reduceNegSucc]
      refine ite_lt (fun c2 => ?_) fun c2 => ?_
      · have hn : numS ws[i] = none := by
          cases e : numS ws[i] with
          | none => rfl
          | some m => exact absurd (ha m e).2 (by omega)
        refine newB_intro (o := blk (fl eI []) 3) fun j2 hj2 => ?_
        simp only [walk, lists, acts, mem, plain, seqs, maps, cells, resL, resV, intBin, ↓reduceIte, Nat.reduceAdd, Nat.reduceSub, Nat.reduceMul, Nat.reduceLeDiff, Nat.reduceEqDiff, Int.reduceToNat, Int.reduceEq, Int.reduceLT, Int.reduceLE, Int.reduceNeg, Int.reduceAdd, Int.reduceSub, Int.reduceMul, Nat.reducePow, Int.reduceNegSucc]
        exact ⟨h, (Sub.right dj).trans (Sub.cons hj2 (Sub.refl _)), kF (bad hn) _⟩
      · obtain ⟨m, hm⟩ : ∃ m, numS ws[i] = some m := by
          cases e : numS ws[i] with
          | none => exact absurd (hb e rfl) (by omega)
          | some m => exact ⟨m, rfl⟩
        have hnm := (ha m hm).2
        obtain ⟨hm1, hm2⟩ := numS_some hm
        refine newB_intro (o := blk (fl eI [n]) 3) fun j2 hj2 => ?_
        simp only [walk, lists, acts, mem, plain, seqs, maps, cells, resL, resV, intBin, ↓reduceIte, Nat.reduceAdd, Nat.reduceSub, Nat.reduceMul, Nat.reduceLeDiff, Nat.reduceEqDiff, Int.reduceToNat, Int.reduceEq, Int.reduceLT, Int.reduceLE, Int.reduceNeg, Int.reduceAdd, Int.reduceSub, Int.reduceMul, Nat.reducePow, Int.reduceNegSucc]
        refine app_leaf (g := g) (h := h) eI_len eI_one' tInts iInt (Sub.cons hj2 (Sub.refl _)) dj o (rL_lit (e := 3) eI_len [n]) (by simp; omega) (by simp; omega) fun v2 g2 o2 d2 => ?_
        simp (disch := omega) only [walk, lists, acts, mem, plain, seqs, maps, cells, resL, resV, intBin, ↓reduceIte, Nat.reduceAdd, Nat.reduceSub, Nat.reduceMul, Nat.reduceLeDiff, Nat.reduceEqDiff, Int.reduceToNat, Int.reduceEq, Int.reduceLT, Int.reduceLE, Int.reduceNeg, Int.reduceAdd, Int.reduceSub, Int.reduceMul, Nat.reducePow, Int.reduceNegSucc, wrapI]
        refine ⟨ws.length - (i + 1), by omega, _, .refl _, i + 1, v2, _, g2, by simp, rfl, d2, o2, ?_, ?_, by omega, rfl⟩
        · intro x hx
          rcases List.mem_append.1 hx with hx | hx
          · exact hO x hx
          · rw [List.mem_singleton] at hx
            subst hx
            rw [hnm]; exact nat_sm5 hm2
        · rw [List.take_succ_eq_append_getElem hi2, ht, List.map_append, hnm]
          simp [decI_nat, hm1]
  · have hi2 : i = ws.length := by omega
    subst hi2
    rw [List.take_length] at ht
    exact .of (kT v' g O hO ht o dj)

theorem asked_c {h : H} {s : List UInt8} (hs : s.length ≤ 4194304) {R : Ending → H → Prop} (k : ∀ c ok, AskO s c ok → R (.returned (.tuple #[.agg (cCall c).toArray, .bool ok])) h) :
    HCalls Tryd.prog 44 #[.string ⟨s.toArray⟩] h R := by
  refine HCalls_ir (args := [.string ⟨s.toArray⟩]) Tryd.func44 ir44 ?_
  have zc := zCall_eq
  simp only [str] at zc
  simp only [walk, lists, acts, mem, plain, seqs, maps, cells, resL, resV, intBin, ↓reduceIte, Nat.reduceAdd, Nat.reduceSub, Nat.reduceMul, Nat.reduceLeDiff, Nat.reduceEqDiff, Int.reduceToNat, Int.reduceEq, Int.reduceLT, Int.reduceLE, Int.reduceNeg, Int.reduceAdd, Int.reduceSub, Int.reduceMul, Nat.reducePow, Int.reduceNegSucc, wCall, str, zc]
  refine newB_intro fun jr hjr => ?_
  have n1 := hjr
  have sj := fun c => Sub.cons (o := blk (cCall c) 39) hjr (Sub.refl h)
  simp only [walk, lists, acts, mem, plain, seqs, maps, cells, resL, resV, intBin, ↓reduceIte, Nat.reduceAdd, Nat.reduceSub, Nat.reduceMul, Nat.reduceLeDiff, Nat.reduceEqDiff, Int.reduceToNat, Int.reduceEq, Int.reduceLT, Int.reduceLE, Int.reduceNeg, Int.reduceAdd, Int.reduceSub, Int.reduceMul, Nat.reducePow, Int.reduceNegSucc, wCall]
  have no : (∀ c, askP c → s ≠ askC c) → AskO s zCall false := fun f => .inr ⟨rfl, f⟩
  by_cases hd : s.take 5 = [100, 101, 97, 108, 32]
  · have h5 : 5 ≤ s.length := by have := congrArg List.length hd; rw [List.length_take] at this; simp at this; omega
    have h5' : (s.take 5).toArray = #[100, 101, 97, 108, 32] := by rw [hd]
    refine ite_ge (fun _ => ?_) fun x => absurd x (by omega)
    simp only [walk, lists, acts, mem, plain, seqs, maps, cells, resL, resV, intBin, ↓reduceIte, Nat.reduceAdd, Nat.reduceSub, Nat.reduceMul, Nat.reduceLeDiff, Nat.reduceEqDiff, Int.reduceToNat, Int.reduceEq, Int.reduceLT, Int.reduceLE, Int.reduceNeg, Int.reduceAdd, Int.reduceSub, Int.reduceMul, Nat.reducePow, Int.reduceNegSucc, wCall, str, strBin, h5']
    obtain ⟨T, hT⟩ : ∃ T, T = s.drop 5 := ⟨_, rfl⟩
    have hTl : T.length = s.length - 5 := by rw [hT, List.length_drop]
    have dE : s = [100, 101, 97, 108, 32] ++ T := by rw [← hd, hT, List.take_append_drop]
    rw [← hT]
    refine ⟨by omega, by omega, ?_⟩
    refine vc_loop [5] (fun n vs h' => ∃ (i : Nat), vs = [.int .i64 i] ∧ h' = (jr, blk (cCall zCall) 39) :: h ∧ (∀ b ∈ T.take i, 32 ≤ b.toNat ∧ b.toNat ≤ 126) ∧ i ≤ T.length ∧ n = T.length - i) T.length rfl
      ⟨0, rfl, rfl, by simp, by omega, rfl⟩ ?_
    rintro n f h' ⟨i, hv, rfl, hp, hi, rfl⟩
    simp only [List.map_cons, List.map_nil, List.cons.injEq, and_true] at hv
    simp only [walk, lists, acts, mem, plain, seqs, maps, cells, resL, resV, intBin, ↓reduceIte, Nat.reduceAdd, Nat.reduceSub, Nat.reduceMul, Nat.reduceLeDiff, Nat.reduceEqDiff, Int.reduceToNat, Int.reduceEq, Int.reduceLT, Int.reduceLE, Int.reduceNeg, Int.reduceAdd, Int.reduceSub, Int.reduceMul, Nat.reducePow, Int.reduceNegSucc, wr, hv]
    refine ite_lt (fun c3 => ?_) fun c3 => ?_
    · have hi2 : i < T.length := by omega
      have hg : T[i]? = some T[i] := List.getElem?_eq_getElem hi2
      have bad : ¬ (32 ≤ T[i].toNat ∧ T[i].toNat ≤ 126) → ∀ c, askP c → s ≠ askC c := fun x c hc e => x (by
        have := (ask_deal hc e hd).1
        rw [← hT] at this
        exact this _ (List.getElem_mem hi2))
      simp only [walk, lists, acts, mem, plain, seqs, maps, cells, resL, resV, intBin, ↓reduceIte, Nat.reduceAdd, Nat.reduceSub, Nat.reduceMul, Nat.reduceLeDiff, Nat.reduceEqDiff, Int.reduceToNat, Int.reduceEq, Int.reduceLT, Int.reduceLE, Int.reduceNeg, Int.reduceAdd, Int.reduceSub, Int.reduceMul, Nat.reducePow, Int.reduceNegSucc, wr, hv, hg]
      refine ⟨by omega, ?_⟩
      refine ite_lt (fun c4 => ?_) fun c4 => ?_
      · simp only [walk, lists, acts, mem, plain, seqs, maps, cells, resL, resV, intBin, ↓reduceIte, Nat.reduceAdd, Nat.reduceSub, Nat.reduceMul, Nat.reduceLeDiff, Nat.reduceEqDiff, Int.reduceToNat, Int.reduceEq, Int.reduceLT, Int.reduceLE, Int.reduceNeg, Int.reduceAdd, Int.reduceSub, Int.reduceMul, Nat.reducePow, Int.reduceNegSucc, wCall]
        exact ⟨h, sj _, k _ _ (no (bad (by omega)))⟩
      refine ⟨by omega, ?_⟩
      refine ite_lt (fun c5 => ?_) fun c5 => ?_
      · simp only [walk, lists, acts, mem, plain, seqs, maps, cells, resL, resV, intBin, ↓reduceIte, Nat.reduceAdd, Nat.reduceSub, Nat.reduceMul, Nat.reduceLeDiff, Nat.reduceEqDiff, Int.reduceToNat, Int.reduceEq, Int.reduceLT, Int.reduceLE, Int.reduceNeg, Int.reduceAdd, Int.reduceSub, Int.reduceMul, Nat.reducePow, Int.reduceNegSucc, wCall]
        exact ⟨h, sj _, k _ _ (no (bad (by omega)))⟩
      simp (disch := omega) only [walk, lists, acts, mem, plain, seqs, maps, cells, resL, resV, intBin, ↓reduceIte, Nat.reduceAdd, Nat.reduceSub, Nat.reduceMul, Nat.reduceLeDiff, Nat.reduceEqDiff, Int.reduceToNat, Int.reduceEq, Int.reduceLT, Int.reduceLE, Int.reduceNeg, Int.reduceAdd, Int.reduceSub, Int.reduceMul, Nat.reducePow, Int.reduceNegSucc, wrapI]
      refine ⟨T.length - (i + 1), by omega, _, .refl _, i + 1, by simp, rfl, fun b hb => ?_, by omega, rfl⟩
      rw [List.take_succ_eq_append_getElem hi2] at hb
      rcases List.mem_append.1 hb with hb | hb
      · exact hp b hb
      · rw [List.mem_singleton] at hb
        subst hb
        omega
    · have hi2 : i = T.length := by omega
      subst hi2
      rw [List.take_length] at hp
      simp only [walk, lists, acts, mem, plain, seqs, maps, cells, resL, resV, intBin, ↓reduceIte, Nat.reduceAdd, Nat.reduceSub, Nat.reduceMul, Nat.reduceLeDiff, Nat.reduceEqDiff, Int.reduceToNat, Int.reduceEq, Int.reduceLT, Int.reduceLE, Int.reduceNeg, Int.reduceAdd, Int.reduceSub, Int.reduceMul, Nat.reducePow, Int.reduceNegSucc, wCall]
      refine ⟨h, sj _, k ⟨0, 0, 1, T, 0, 0⟩ _ ?_⟩
      by_cases c80 : T.length ≤ 80
      · exact .inl ⟨decide_eq_true (by omega), ⟨rfl, rfl, .inl ⟨rfl, hp, c80, rfl, rfl⟩⟩, by rw [dE]; simp [askC]⟩
      · refine .inr ⟨decide_eq_false (by omega), fun c hc e => c80 ?_⟩
        have := (ask_deal hc e hd).2
        rw [← hT] at this
        exact this
  · have hd2 : ¬ (⟨(s.take 5).toArray⟩ : ByteArray) = ⟨#[100, 101, 97, 108, 32]⟩ := fun e => hd (by
      have := congrArg (fun a : ByteArray => a.data.toList) e
      simpa using this)
    refine ite_ge (fun x => ?_) fun x => ?_
    · simp only [walk, lists, acts, mem, plain, seqs, maps, cells, resL, resV, intBin, ↓reduceIte, Nat.reduceAdd, Nat.reduceSub, Nat.reduceMul, Nat.reduceLeDiff, Nat.reduceEqDiff, Int.reduceToNat, Int.reduceEq, Int.reduceLT, Int.reduceLE, Int.reduceNeg, Int.reduceAdd, Int.reduceSub, Int.reduceMul, Nat.reducePow, Int.reduceNegSucc, wCall, str, strBin, hd2]
      refine ⟨by omega, ?_⟩
      refine l1Cut_c (c := 32) hs fun v g o d => ?_
      have d1 := d
      have d2 := d.symm
      simp only [subs] at d1 d2
      obtain ⟨hsp1, hsp2⟩ := splitB_len 32 s
      obtain ⟨w, r, hw⟩ : ∃ w r, splitB 32 s = w :: r := by
        cases e : splitB 32 s with
        | nil => exact absurd e (splitB_ne 32 s)
        | cons w r => exact ⟨w, r, rfl⟩
      rw [hw] at o hsp1 hsp2
      rw [List.length_cons] at hsp1
      have ro : rLs (g ++ ((jr, blk (cCall zCall) 39) :: h)) eT 1 v (w :: r) := o.rd.sub (Sub.left _ _)
      simp only [walk, lists, acts, mem, plain, seqs, maps, cells, resL, resV, intBin, ↓reduceIte, Nat.reduceAdd, Nat.reduceSub, Nat.reduceMul, Nat.reduceLeDiff, Nat.reduceEqDiff, Int.reduceToNat, Int.reduceEq, Int.reduceLT, Int.reduceLE, Int.reduceNeg, Int.reduceAdd, Int.reduceSub, Int.reduceMul, Nat.reducePow, Int.reduceNegSucc, wCall]
      refine slc_suf eT_len ro (by omega) (by simp only [List.length_cons]; omega) fun v2 r2 => ?_
      have r2' : rLs (g ++ ((jr, blk (cCall zCall) 39) :: h)) eT 1 v2 r := by simpa using r2
      simp only [walk, lists, acts, mem, plain, seqs, maps, cells, resL, resV, intBin, ↓reduceIte, Nat.reduceAdd, Nat.reduceSub, Nat.reduceMul, Nat.reduceLeDiff, Nat.reduceEqDiff, Int.reduceToNat, Int.reduceEq, Int.reduceLT, Int.reduceLE, Int.reduceNeg, Int.reduceAdd, Int.reduceSub, Int.reduceMul, Nat.reducePow, Int.reduceNegSucc, wCall]
      refine nums_c r2' (by omega) (fun x hx => by have := hsp2 x (List.mem_cons_of_mem _ hx); omega) (fun v3 g3 ns hns hr o3 d3 => ?_) fun nn v3 => ?_
      · have d3x := d3
        have d3y := d3.symm
        simp only [subs] at d3x d3y
        have sB : Tk.Sub h (g3 ++ (g ++ ((jr, blk (cCall zCall) 39) :: h))) := by (repeat' first | exact Sub.refl _ | exact Sub.nil _ | assumption | refine Sub.both ?_ ?_ | refine Sub.cons_of (by simp only [subs, d1, d2, d3x, d3y, n1]) ?_ | exact Sub.left _ _ | refine Sub.app (by simp only [subs, d1, d2, d3x, d3y, n1]) ?_ | refine Sub.cons (by simp only [subs, d1, d2, d3x, d3y, n1]) ?_)
        have noT : (w = [109, 111, 118, 101] → ns.length = 2 → False) → ∀ c, askP c → s ≠ askC c := fun f c hc e => by
          obtain ⟨a, b, sa, sb, h1⟩ := ask_move hc e hd
          rw [hw] at h1
          have h2 := (List.cons.inj h1).2
          refine f (List.cons.inj h1).1 ?_
          have := congrArg List.length (h2.symm.trans hr)
          simpa using this.symm
        simp only [walk, lists, acts, mem, plain, seqs, maps, cells, resL, resV, intBin, ↓reduceIte, Nat.reduceAdd, Nat.reduceSub, Nat.reduceMul, Nat.reduceLeDiff, Nat.reduceEqDiff, Int.reduceToNat, Int.reduceEq, Int.reduceLT, Int.reduceLE, Int.reduceNeg, Int.reduceAdd, Int.reduceSub, Int.reduceMul, Nat.reducePow, Int.reduceNegSucc, wCall]
        refine idx_leaf (i := 0) eT_len (ro.sub (Sub.right d3)) rfl (by simp) fun b1 o1 e1 => ?_
        have e1' : hread (g3 ++ (g ++ ((jr, blk (cCall zCall) 39) :: h))) b1 o1 1 = some [.string ⟨w.toArray⟩] := e1
        have ew : ((⟨w.toArray⟩ : ByteArray) = ⟨#[109, 111, 118, 101]⟩) = (w = [109, 111, 118, 101]) := propext ⟨fun e => by simpa using congrArg (fun a : ByteArray => a.data.toList) e, fun e => by rw [e]⟩
        simp only [walk, lists, acts, mem, plain, seqs, maps, cells, resL, resV, intBin, ↓reduceIte, Nat.reduceAdd, Nat.reduceSub, Nat.reduceMul, Nat.reduceLeDiff, Nat.reduceEqDiff, Int.reduceToNat, Int.reduceEq, Int.reduceLT, Int.reduceLE, Int.reduceNeg, Int.reduceAdd, Int.reduceSub, Int.reduceMul, Nat.reducePow, Int.reduceNegSucc, wCall, hread_1 e1', strBin, o3.rd.len, ew, apps, d1, d3x]
        refine ite_ne (fun c1 => ⟨h, sB, k _ _ (no (noT fun e _ => c1 e))⟩) fun c1 => ?_
        refine ite_ne (fun c2 => ⟨h, sB, k _ _ (no (noT fun _ e => c2 (by omega)))⟩) fun c2 => ?_
        obtain ⟨a, b, rfl, sa, sb⟩ := two_nums (show ns.length = 2 by omega) hns
        have rn := o3.rd.sub (Sub.left g3 (g ++ ((jr, blk (cCall zCall) 39) :: h)))
        refine vc_draw _ (Sub.refl _) ?_
        simp only [walk, lists, acts, mem, plain, seqs, maps, cells, resL, resV, intBin, ↓reduceIte, Nat.reduceAdd, Nat.reduceSub, Nat.reduceMul, Nat.reduceLeDiff, Nat.reduceEqDiff, Int.reduceToNat, Int.reduceEq, Int.reduceLT, Int.reduceLE, Int.reduceNeg, Int.reduceAdd, Int.reduceSub, Int.reduceMul, Nat.reducePow, Int.reduceNegSucc, wCall]
        refine idx_leaf (i := 0) eI_len rn rfl (by simp) fun b2 o4 e4 => ?_
        simp only [walk, lists, acts, mem, plain, seqs, maps, cells, resL, resV, intBin, ↓reduceIte, Nat.reduceAdd, Nat.reduceSub, Nat.reduceMul, Nat.reduceLeDiff, Nat.reduceEqDiff, Int.reduceToNat, Int.reduceEq, Int.reduceLT, Int.reduceLE, Int.reduceNeg, Int.reduceAdd, Int.reduceSub, Int.reduceMul, Nat.reducePow, Int.reduceNegSucc, wCall, hread_1 e4]
        refine idx_leaf (i := 1) eI_len rn rfl (by simp) fun b3 o5 e5 => ?_
        simp only [walk, lists, acts, mem, plain, seqs, maps, cells, resL, resV, intBin, ↓reduceIte, Nat.reduceAdd, Nat.reduceSub, Nat.reduceMul, Nat.reduceLeDiff, Nat.reduceEqDiff, Int.reduceToNat, Int.reduceEq, Int.reduceLT, Int.reduceLE, Int.reduceNeg, Int.reduceAdd, Int.reduceSub, Int.reduceMul, Nat.reducePow, Int.reduceNegSucc, wCall, hread_1 e5, apps, d1, d3x, List.getElem_cons_zero, List.getElem_cons_succ]
        refine ⟨h, by (repeat' first | exact Sub.refl _ | exact Sub.nil _ | assumption | refine Sub.both ?_ ?_ | refine Sub.cons_of (by simp only [subs, d1, d2, d3x, d3y, n1]) ?_ | exact Sub.left _ _ | refine Sub.app (by simp only [subs, d1, d2, d3x, d3y, n1]) ?_ | refine Sub.cons (by simp only [subs, d1, d2, d3x, d3y, n1]) ?_), k ⟨0, 0, 2, [], a, b⟩ true ?_⟩
        have am := ask_moved hw c1 hr sa sb
        exact .inl ⟨rfl, am.1, am.2⟩
      · simp only [walk, lists, acts, mem, plain, seqs, maps, cells, resL, resV, intBin, ↓reduceIte, Nat.reduceAdd, Nat.reduceSub, Nat.reduceMul, Nat.reduceLeDiff, Nat.reduceEqDiff, Int.reduceToNat, Int.reduceEq, Int.reduceLT, Int.reduceLE, Int.reduceNeg, Int.reduceAdd, Int.reduceSub, Int.reduceMul, Nat.reducePow, Int.reduceNegSucc, wCall, apps, d1]
        have sB : Tk.Sub h (g ++ ((jr, blk (cCall zCall) 39) :: h)) := by (repeat' first | exact Sub.refl _ | exact Sub.nil _ | assumption | refine Sub.both ?_ ?_ | refine Sub.cons_of (by simp only [subs, d1, d2, n1]) ?_ | exact Sub.left _ _ | refine Sub.app (by simp only [subs, d1, d2, n1]) ?_ | refine Sub.cons (by simp only [subs, d1, d2, n1]) ?_)
        refine ⟨h, sB, k _ _ (no fun c hc e => ?_)⟩
        obtain ⟨a, b, sa, sb, h1⟩ := ask_move hc e hd
        rw [hw] at h1
        exact nn ⟨[a, b], (fun x hx => by simp only [List.mem_cons, List.not_mem_nil, or_false] at hx; rcases hx with rfl | rfl; exact sa; exact sb), (List.cons.inj h1).2⟩
    · refine l1Cut_c (c := 32) hs fun v g o d => ?_
      have d1 := d
      have d2 := d.symm
      simp only [subs] at d1 d2
      obtain ⟨hsp1, hsp2⟩ := splitB_len 32 s
      obtain ⟨w, r, hw⟩ : ∃ w r, splitB 32 s = w :: r := by
        cases e : splitB 32 s with
        | nil => exact absurd e (splitB_ne 32 s)
        | cons w r => exact ⟨w, r, rfl⟩
      rw [hw] at o hsp1 hsp2
      rw [List.length_cons] at hsp1
      have ro : rLs (g ++ ((jr, blk (cCall zCall) 39) :: h)) eT 1 v (w :: r) := o.rd.sub (Sub.left _ _)
      simp only [walk, lists, acts, mem, plain, seqs, maps, cells, resL, resV, intBin, ↓reduceIte, Nat.reduceAdd, Nat.reduceSub, Nat.reduceMul, Nat.reduceLeDiff, Nat.reduceEqDiff, Int.reduceToNat, Int.reduceEq, Int.reduceLT, Int.reduceLE, Int.reduceNeg, Int.reduceAdd, Int.reduceSub, Int.reduceMul, Nat.reducePow, Int.reduceNegSucc, wCall]
      refine slc_suf eT_len ro (by omega) (by simp only [List.length_cons]; omega) fun v2 r2 => ?_
      have r2' : rLs (g ++ ((jr, blk (cCall zCall) 39) :: h)) eT 1 v2 r := by simpa using r2
      simp only [walk, lists, acts, mem, plain, seqs, maps, cells, resL, resV, intBin, ↓reduceIte, Nat.reduceAdd, Nat.reduceSub, Nat.reduceMul, Nat.reduceLeDiff, Nat.reduceEqDiff, Int.reduceToNat, Int.reduceEq, Int.reduceLT, Int.reduceLE, Int.reduceNeg, Int.reduceAdd, Int.reduceSub, Int.reduceMul, Nat.reducePow, Int.reduceNegSucc, wCall]
      refine nums_c r2' (by omega) (fun x hx => by have := hsp2 x (List.mem_cons_of_mem _ hx); omega) (fun v3 g3 ns hns hr o3 d3 => ?_) fun nn v3 => ?_
      · have d3x := d3
        have d3y := d3.symm
        simp only [subs] at d3x d3y
        have sB : Tk.Sub h (g3 ++ (g ++ ((jr, blk (cCall zCall) 39) :: h))) := by (repeat' first | exact Sub.refl _ | exact Sub.nil _ | assumption | refine Sub.both ?_ ?_ | refine Sub.cons_of (by simp only [subs, d1, d2, d3x, d3y, n1]) ?_ | exact Sub.left _ _ | refine Sub.app (by simp only [subs, d1, d2, d3x, d3y, n1]) ?_ | refine Sub.cons (by simp only [subs, d1, d2, d3x, d3y, n1]) ?_)
        have noT : (w = [109, 111, 118, 101] → ns.length = 2 → False) → ∀ c, askP c → s ≠ askC c := fun f c hc e => by
          obtain ⟨a, b, sa, sb, h1⟩ := ask_move hc e hd
          rw [hw] at h1
          have h2 := (List.cons.inj h1).2
          refine f (List.cons.inj h1).1 ?_
          have := congrArg List.length (h2.symm.trans hr)
          simpa using this.symm
        simp only [walk, lists, acts, mem, plain, seqs, maps, cells, resL, resV, intBin, ↓reduceIte, Nat.reduceAdd, Nat.reduceSub, Nat.reduceMul, Nat.reduceLeDiff, Nat.reduceEqDiff, Int.reduceToNat, Int.reduceEq, Int.reduceLT, Int.reduceLE, Int.reduceNeg, Int.reduceAdd, Int.reduceSub, Int.reduceMul, Nat.reducePow, Int.reduceNegSucc, wCall]
        refine idx_leaf (i := 0) eT_len (ro.sub (Sub.right d3)) rfl (by simp) fun b1 o1 e1 => ?_
        have e1' : hread (g3 ++ (g ++ ((jr, blk (cCall zCall) 39) :: h))) b1 o1 1 = some [.string ⟨w.toArray⟩] := e1
        have ew : ((⟨w.toArray⟩ : ByteArray) = ⟨#[109, 111, 118, 101]⟩) = (w = [109, 111, 118, 101]) := propext ⟨fun e => by simpa using congrArg (fun a : ByteArray => a.data.toList) e, fun e => by rw [e]⟩
        simp only [walk, lists, acts, mem, plain, seqs, maps, cells, resL, resV, intBin, ↓reduceIte, Nat.reduceAdd, Nat.reduceSub, Nat.reduceMul, Nat.reduceLeDiff, Nat.reduceEqDiff, Int.reduceToNat, Int.reduceEq, Int.reduceLT, Int.reduceLE, Int.reduceNeg, Int.reduceAdd, Int.reduceSub, Int.reduceMul, Nat.reducePow, Int.reduceNegSucc, wCall, hread_1 e1', strBin, o3.rd.len, ew, apps, d1, d3x]
        refine ite_ne (fun c1 => ⟨h, sB, k _ _ (no (noT fun e _ => c1 e))⟩) fun c1 => ?_
        refine ite_ne (fun c2 => ⟨h, sB, k _ _ (no (noT fun _ e => c2 (by omega)))⟩) fun c2 => ?_
        obtain ⟨a, b, rfl, sa, sb⟩ := two_nums (show ns.length = 2 by omega) hns
        have rn := o3.rd.sub (Sub.left g3 (g ++ ((jr, blk (cCall zCall) 39) :: h)))
        refine vc_draw _ (Sub.refl _) ?_
        simp only [walk, lists, acts, mem, plain, seqs, maps, cells, resL, resV, intBin, ↓reduceIte, Nat.reduceAdd, Nat.reduceSub, Nat.reduceMul, Nat.reduceLeDiff, Nat.reduceEqDiff, Int.reduceToNat, Int.reduceEq, Int.reduceLT, Int.reduceLE, Int.reduceNeg, Int.reduceAdd, Int.reduceSub, Int.reduceMul, Nat.reducePow, Int.reduceNegSucc, wCall]
        refine idx_leaf (i := 0) eI_len rn rfl (by simp) fun b2 o4 e4 => ?_
        simp only [walk, lists, acts, mem, plain, seqs, maps, cells, resL, resV, intBin, ↓reduceIte, Nat.reduceAdd, Nat.reduceSub, Nat.reduceMul, Nat.reduceLeDiff, Nat.reduceEqDiff, Int.reduceToNat, Int.reduceEq, Int.reduceLT, Int.reduceLE, Int.reduceNeg, Int.reduceAdd, Int.reduceSub, Int.reduceMul, Nat.reducePow, Int.reduceNegSucc, wCall, hread_1 e4]
        refine idx_leaf (i := 1) eI_len rn rfl (by simp) fun b3 o5 e5 => ?_
        simp only [walk, lists, acts, mem, plain, seqs, maps, cells, resL, resV, intBin, ↓reduceIte, Nat.reduceAdd, Nat.reduceSub, Nat.reduceMul, Nat.reduceLeDiff, Nat.reduceEqDiff, Int.reduceToNat, Int.reduceEq, Int.reduceLT, Int.reduceLE, Int.reduceNeg, Int.reduceAdd, Int.reduceSub, Int.reduceMul, Nat.reducePow, Int.reduceNegSucc, wCall, hread_1 e5, apps, d1, d3x, List.getElem_cons_zero, List.getElem_cons_succ]
        refine ⟨h, by (repeat' first | exact Sub.refl _ | exact Sub.nil _ | assumption | refine Sub.both ?_ ?_ | refine Sub.cons_of (by simp only [subs, d1, d2, d3x, d3y, n1]) ?_ | exact Sub.left _ _ | refine Sub.app (by simp only [subs, d1, d2, d3x, d3y, n1]) ?_ | refine Sub.cons (by simp only [subs, d1, d2, d3x, d3y, n1]) ?_), k ⟨0, 0, 2, [], a, b⟩ true ?_⟩
        have am := ask_moved hw c1 hr sa sb
        exact .inl ⟨rfl, am.1, am.2⟩
      · simp only [walk, lists, acts, mem, plain, seqs, maps, cells, resL, resV, intBin, ↓reduceIte, Nat.reduceAdd, Nat.reduceSub, Nat.reduceMul, Nat.reduceLeDiff, Nat.reduceEqDiff, Int.reduceToNat, Int.reduceEq, Int.reduceLT, Int.reduceLE, Int.reduceNeg, Int.reduceAdd, Int.reduceSub, Int.reduceMul, Nat.reducePow, Int.reduceNegSucc, wCall, apps, d1]
        have sB : Tk.Sub h (g ++ ((jr, blk (cCall zCall) 39) :: h)) := by (repeat' first | exact Sub.refl _ | exact Sub.nil _ | assumption | refine Sub.both ?_ ?_ | refine Sub.cons_of (by simp only [subs, d1, d2, n1]) ?_ | exact Sub.left _ _ | refine Sub.app (by simp only [subs, d1, d2, n1]) ?_ | refine Sub.cons (by simp only [subs, d1, d2, n1]) ?_)
        refine ⟨h, sB, k _ _ (no fun c hc e => ?_)⟩
        obtain ⟨a, b, sa, sb, h1⟩ := ask_move hc e hd
        rw [hw] at h1
        exact nn ⟨[a, b], (fun x hx => by simp only [List.mem_cons, List.not_mem_nil, or_false] at hx; rcases hx with rfl | rfl; exact sa; exact sb), (List.cons.inj h1).2⟩
end Go.Proofs.YtdlgaidjlepepaaDoor
end

/- How the reference reads what begins a call. -/
section
set_option linter.unusedVariables false
set_option linter.unusedSimpArgs false
set_option maxRecDepth 20000
attribute [local irreducible] Go.Tk.vc Go.Tk.vops Go.Tk.vdr Go.Tk.vop Go.Tk.vfl Go.Tk.HCalls
namespace Go.Tk
open Go
def begB : List UInt8 := [98, 101, 103, 105, 110, 115]
theorem beg_fit {m : Nat} {c : DCall} (hm : m ≤ 99999) (h : askP c) : Fit ⟨1, 0, (m : Int), 0, 0, c⟩ (begB ++ 32 :: (decN m ++ 32 :: askC c)) := by
  obtain ⟨c1, c2, ⟨k, pt, lt, s0, t0⟩ | ⟨k, t0, sa, sb⟩⟩ := h
  · obtain ⟨x1, x2, x3, x4, x5, x6⟩ := c
    simp only at c1 c2 k s0 t0 pt lt
    subst c1 c2 k s0 t0
    simpa [askC, begB] using fit_D hm pt lt
  · obtain ⟨x1, x2, x3, x4, x5, x6⟩ := c
    obtain ⟨a, ha, ha2⟩ := sm5_nat sa
    obtain ⟨b, hb, hb2⟩ := sm5_nat sb
    simp only at c1 c2 k t0 ha hb
    subst c1 c2 k t0 ha hb
    simpa [askC, begB, decI_nat] using fit_M hm ha2 hb2
theorem beg_of {e : DTollEvent} {s : List UInt8} (h : Fit e (begB ++ 32 :: s)) : ∃ (m : Nat) (c : DCall), m ≤ 99999 ∧ askP c ∧ s = decN m ++ 32 :: askC c := by
  have key : ∀ s', Fit e s' → s' = begB ++ 32 :: s → ∃ (m : Nat) (c : DCall), m ≤ 99999 ∧ askP c ∧ s = decN m ++ 32 :: askC c := by
    intro s' h'
    refine Fit.elim (M := fun e s' => s' = begB ++ 32 :: s → ∃ (m : Nat) (c : DCall), m ≤ 99999 ∧ askP c ∧ s = decN m ++ 32 :: askC c) ?_ ?_ ?_ ?_ ?_ ?_ ?_ ?_ ?_ ?_ ?_ h'
    · intro m t hm pt lt e
      refine ⟨m, ⟨0, 0, 1, t, 0, 0⟩, hm, ⟨rfl, rfl, .inl ⟨rfl, pt, lt, rfl, rfl⟩⟩, ?_⟩
      simp only [begB, List.cons_append, List.nil_append, List.cons.injEq, true_and] at e
      rw [← e]; simp [askC]
    · intro m a b hm ha hb e
      refine ⟨m, ⟨0, 0, 2, [], (a : Int), (b : Int)⟩, hm, ⟨rfl, rfl, .inr ⟨rfl, rfl, nat_sm5 ha, nat_sm5 hb⟩⟩, ?_⟩
      simp only [begB, List.cons_append, List.nil_append, List.cons.injEq, true_and] at e
      rw [← e]; simp [askC, decI_nat]
    all_goals
      intros
      rename_i heq
      exfalso
      revert heq
      simp [begB]
  exact key _ h rfl
def BegO (s : List UInt8) (e : DTollEvent) (ok : Bool) : Prop := OutE (begB ++ 32 :: s) e ok
end Go.Tk
namespace Go.Proofs.YtdlgaidjlepepaaDoor
open Go Go.Tk

theorem begins_c {h : H} {s : List UInt8} (hs : s.length ≤ 4194304) {R : Ending → H → Prop} (k : ∀ e ok, BegO s e ok → R (.returned (.tuple #[.agg (cTollEvent e).toArray, .bool ok])) h) :
    HCalls Tryd.prog 33 #[.string ⟨s.toArray⟩] h R := by
  refine HCalls_ir (args := [.string ⟨s.toArray⟩]) Tryd.func33 ir33 ?_
  have ze := zTollEvent_eq
  simp only [str] at ze
  have zc := zCall_eq
  simp only [str] at zc
  simp only [walk, lists, acts, mem, plain, seqs, maps, cells, resL, resV, intBin, ↓reduceIte, Nat.reduceAdd, Nat.reduceSub, Nat.reduceMul, Nat.reduceLeDiff, Nat.reduceEqDiff, Int.reduceToNat, Int.reduceEq, Int.reduceLT, Int.reduceLE, Int.reduceNeg, Int.reduceAdd, Int.reduceSub, Int.reduceMul, Nat.reducePow, Int.reduceNegSucc, wTollEvent, str, ze]
  simp only [zc]
  refine newB_intro fun jr hjr => ?_
  have n1 := hjr
  have sj := fun c => Sub.cons (o := blk (cTollEvent c) 41) hjr (Sub.refl h)
  simp only [walk, lists, acts, mem, plain, seqs, maps, cells, resL, resV, intBin, ↓reduceIte, Nat.reduceAdd, Nat.reduceSub, Nat.reduceMul, Nat.reduceLeDiff, Nat.reduceEqDiff, Int.reduceToNat, Int.reduceEq, Int.reduceLT, Int.reduceLE, Int.reduceNeg, Int.reduceAdd, Int.reduceSub, Int.reduceMul, Nat.reducePow, Int.reduceNegSucc, wTollEvent]
  have no : (∀ e, ¬ Fit e (begB ++ 32 :: s)) → BegO s zTollEvent false := fun f => .inr ⟨rfl, f⟩
  refine vc_loop [4] (fun n vs h' => ∃ (i : Nat), vs = [.int .i64 i] ∧ h' = (jr, blk (cTollEvent zTollEvent) 41) :: h ∧ 32 ∉ s.take i ∧ i ≤ s.length ∧ n = s.length - i) s.length rfl
    ⟨0, rfl, rfl, by simp, by omega, rfl⟩ ?_
  rintro n f h' ⟨i, hv, rfl, hp, hi, rfl⟩
  simp only [List.map_cons, List.map_nil, List.cons.injEq, and_true] at hv
  simp only [walk, lists, acts, mem, plain, seqs, maps, cells, resL, resV, intBin, ↓reduceIte, Nat.reduceAdd, Nat.reduceSub, Nat.reduceMul, Nat.reduceLeDiff, Nat.reduceEqDiff, Int.reduceToNat, Int.reduceEq, Int.reduceLT, Int.reduceLE, Int.reduceNeg, Int.reduceAdd, Int.reduceSub, Int.reduceMul, Nat.reducePow, Int.reduceNegSucc, wr, hv]
  have tail : ∀ {K : Prop}, K → K := fun x => x
  refine ite_lt (fun c3 => ?_) fun c3 => ?_
  · have hi2 : i < s.length := by omega
    have hg : s[i]? = some s[i] := List.getElem?_eq_getElem hi2
    simp only [walk, lists, acts, mem, plain, seqs, maps, cells, resL, resV, intBin, ↓reduceIte, Nat.reduceAdd, Nat.reduceSub, Nat.reduceMul, Nat.reduceLeDiff, Nat.reduceEqDiff, Int.reduceToNat, Int.reduceEq, Int.reduceLT, Int.reduceLE, Int.reduceNeg, Int.reduceAdd, Int.reduceSub, Int.reduceMul, Nat.reducePow, Int.reduceNegSucc, wr, hv, hg]
    refine ⟨by omega, ?_⟩
    refine ite_ne (fun c4 => ?_) fun c4 => ?_
    · simp (disch := omega) only [walk, lists, acts, mem, plain, seqs, maps, cells, resL, resV, intBin, ↓reduceIte, Nat.reduceAdd, Nat.reduceSub, Nat.reduceMul, Nat.reduceLeDiff, Nat.reduceEqDiff, Int.reduceToNat, Int.reduceEq, Int.reduceLT, Int.reduceLE, Int.reduceNeg, Int.reduceAdd, Int.reduceSub, Int.reduceMul, Nat.reducePow, Int.reduceNegSucc, wrapI]
      refine ⟨s.length - (i + 1), by omega, _, .refl _, i + 1, by simp, rfl, ?_, by omega, rfl⟩
      rw [List.take_succ_eq_append_getElem hi2]
      intro m
      rcases List.mem_append.1 m with m | m
      · exact hp m
      · rw [List.mem_singleton] at m
        exact c4 (by rw [← m]; rfl)
    · have c32 : s[i] = 32 := UInt8.toNat_inj.1 (by have : ((32 : UInt8).toNat : Int) = 32 := rfl; omega)
      have hcut : s = s.take i ++ 32 :: s.drop (i + 1) := by
        have := take_mid s (Nat.zero_le i) hi2
        rw [List.drop_zero, Nat.sub_zero, c32] at this
        exact this
      refine ⟨⟨by omega, by omega⟩, newB_intro (o := blk (fl eT [s.take i]) 9) fun j2 hj2 => ?_⟩
      have n2 := hj2
      simp only [subs] at n2
      have m := n2.1
      have m' := Ne.symm n2.1
      simp only [walk, lists, acts, mem, plain, seqs, maps, cells, resL, resV, intBin, ↓reduceIte, Nat.reduceAdd, Nat.reduceSub, Nat.reduceMul, Nat.reduceLeDiff, Nat.reduceEqDiff, Int.reduceToNat, Int.reduceEq, Int.reduceLT, Int.reduceLE, Int.reduceNeg, Int.reduceAdd, Int.reduceSub, Int.reduceMul, Nat.reducePow, Int.reduceNegSucc]
      refine nums_c (rL_lit (e := 9) eT_len [s.take i]) (by simp) (fun x hx => by rw [List.mem_singleton] at hx; subst hx; rw [List.length_take]; omega) (fun v3 g3 ns hns hr o3 d3 => ?_) fun nn v3 => ?_
      · have d3x := d3
        have d3y := d3.symm
        simp only [subs] at d3x d3y
        obtain ⟨n, rfl, sn⟩ := one_nums (by have := congrArg List.length hr; simpa using this.symm) hns
        have htk : s.take i = decI n := by simpa using hr
        have e1 : (i : Int) + 1 = ((i + 1 : Nat) : Int) := by omega
        simp only [walk, lists, acts, mem, plain, seqs, maps, cells, resL, resV, intBin, ↓reduceIte, Nat.reduceAdd, Nat.reduceSub, Nat.reduceMul, Nat.reduceLeDiff, Nat.reduceEqDiff, Int.reduceToNat, Int.reduceEq, Int.reduceLT, Int.reduceLE, Int.reduceNeg, Int.reduceAdd, Int.reduceSub, Int.reduceMul, Nat.reducePow, Int.reduceNegSucc, wTollEvent, apps, d3x, m, m']
        refine ite_ge (fun x => absurd x (by omega)) fun _ => ?_
        simp (disch := omega) only [walk, lists, acts, mem, plain, seqs, maps, cells, resL, resV, intBin, ↓reduceIte, Nat.reduceAdd, Nat.reduceSub, Nat.reduceMul, Nat.reduceLeDiff, Nat.reduceEqDiff, Int.reduceToNat, Int.reduceEq, Int.reduceLT, Int.reduceLE, Int.reduceNeg, Int.reduceAdd, Int.reduceSub, Int.reduceMul, Nat.reducePow, Int.reduceNegSucc, wrapI, e1]
        refine ⟨⟨by omega, by omega⟩, ?_⟩
        refine asked_c (by rw [List.length_drop]; omega) fun c ok ho => ?_
        simp only [walk, lists, acts, mem, plain, seqs, maps, cells, resL, resV, intBin, ↓reduceIte, Nat.reduceAdd, Nat.reduceSub, Nat.reduceMul, Nat.reduceLeDiff, Nat.reduceEqDiff, Int.reduceToNat, Int.reduceEq, Int.reduceLT, Int.reduceLE, Int.reduceNeg, Int.reduceAdd, Int.reduceSub, Int.reduceMul, Nat.reducePow, Int.reduceNegSucc, wTollEvent]
        refine newB_intro fun j4 hj4 => ?_
        have n4 := hj4
        simp only [subs] at n4
        have m4' := n4.2.2.1
        have m4 := Ne.symm n4.2.2.1
        simp only [walk, lists, acts, mem, plain, seqs, maps, cells, resL, resV, intBin, ↓reduceIte, Nat.reduceAdd, Nat.reduceSub, Nat.reduceMul, Nat.reduceLeDiff, Nat.reduceEqDiff, Int.reduceToNat, Int.reduceEq, Int.reduceLT, Int.reduceLE, Int.reduceNeg, Int.reduceAdd, Int.reduceSub, Int.reduceMul, Nat.reducePow, Int.reduceNegSucc, wTollEvent, wCall]
        obtain ⟨mm, hmm, hm9, hdec, _⟩ := decI_sm sn
        rcases ho with ⟨rfl, hc, hsc⟩ | ⟨rfl, hno⟩
        · simp only [walk, lists, acts, mem, plain, seqs, maps, cells, resL, resV, intBin, ↓reduceIte, Nat.reduceAdd, Nat.reduceSub, Nat.reduceMul, Nat.reduceLeDiff, Nat.reduceEqDiff, Int.reduceToNat, Int.reduceEq, Int.reduceLT, Int.reduceLE, Int.reduceNeg, Int.reduceAdd, Int.reduceSub, Int.reduceMul, Nat.reducePow, Int.reduceNegSucc, wTollEvent, wCall, if_false, reduceCtorEq]
          have rn := (o3.rd.sub (Sub.left g3 ((j2, blk (fl eT [s.take i]) 9) :: (jr, blk (cTollEvent zTollEvent) 41) :: h))).sub (Sub.cons (o := blk (cCall c) 39) hj4 (Sub.refl _))
          refine vc_draw _ (Sub.refl _) ?_
          simp only [walk, lists, acts, mem, plain, seqs, maps, cells, resL, resV, intBin, ↓reduceIte, Nat.reduceAdd, Nat.reduceSub, Nat.reduceMul, Nat.reduceLeDiff, Nat.reduceEqDiff, Int.reduceToNat, Int.reduceEq, Int.reduceLT, Int.reduceLE, Int.reduceNeg, Int.reduceAdd, Int.reduceSub, Int.reduceMul, Nat.reducePow, Int.reduceNegSucc, wTollEvent, wCall]
          refine idx_leaf (i := 0) eI_len rn rfl (by simp) fun b2 o4 e4 => ?_
          simp only [walk, lists, acts, mem, plain, seqs, maps, cells, resL, resV, intBin, ↓reduceIte, Nat.reduceAdd, Nat.reduceSub, Nat.reduceMul, Nat.reduceLeDiff, Nat.reduceEqDiff, Int.reduceToNat, Int.reduceEq, Int.reduceLT, Int.reduceLE, Int.reduceNeg, Int.reduceAdd, Int.reduceSub, Int.reduceMul, Nat.reducePow, Int.reduceNegSucc, wTollEvent, wCall, hread_1 e4, apps, d3x, m, m', m4, m4', List.getElem_cons_zero]
          refine ⟨h, by (repeat' first | exact Sub.refl _ | exact Sub.nil _ | assumption | refine Sub.both ?_ ?_ | refine Sub.cons_of (by simp only [subs, n1, n2, d3x, d3y, n4, m4, m4']) ?_ | exact Sub.left _ _ | refine Sub.app (by simp only [subs, n1, n2, d3x, d3y, n4, m4, m4']) ?_ | refine Sub.cons (by simp only [subs, n1, n2, d3x, d3y, n4, m4, m4']) ?_), k ⟨1, 0, n, 0, 0, c⟩ true (.inl ⟨rfl, ?_⟩)⟩
          have := beg_fit hm9 hc
          rw [hcut, htk, hdec, hsc, hmm]
          exact this
        · simp only [walk, lists, acts, mem, plain, seqs, maps, cells, resL, resV, intBin, ↓reduceIte, Nat.reduceAdd, Nat.reduceSub, Nat.reduceMul, Nat.reduceLeDiff, Nat.reduceEqDiff, Int.reduceToNat, Int.reduceEq, Int.reduceLT, Int.reduceLE, Int.reduceNeg, Int.reduceAdd, Int.reduceSub, Int.reduceMul, Nat.reducePow, Int.reduceNegSucc, wTollEvent, wCall, apps, d3x, m, m', m4, m4']
          refine ⟨h, by (repeat' first | exact Sub.refl _ | exact Sub.nil _ | assumption | refine Sub.both ?_ ?_ | refine Sub.cons_of (by simp only [subs, n1, n2, d3x, d3y, n4, m4, m4']) ?_ | exact Sub.left _ _ | refine Sub.app (by simp only [subs, n1, n2, d3x, d3y, n4, m4, m4']) ?_ | refine Sub.cons (by simp only [subs, n1, n2, d3x, d3y, n4, m4, m4']) ?_), k _ _ (no fun e f => ?_)⟩
          obtain ⟨m2, c2, h1, h2, h3⟩ := beg_of f
          rw [hcut] at h3
          exact hno c2 h2 (cut_un hp (decN_no32 m2) h3).2
      · simp only [walk, lists, acts, mem, plain, seqs, maps, cells, resL, resV, intBin, ↓reduceIte, Nat.reduceAdd, Nat.reduceSub, Nat.reduceMul, Nat.reduceLeDiff, Nat.reduceEqDiff, Int.reduceToNat, Int.reduceEq, Int.reduceLT, Int.reduceLE, Int.reduceNeg, Int.reduceAdd, Int.reduceSub, Int.reduceMul, Nat.reducePow, Int.reduceNegSucc, wTollEvent, apps, m, m']
        refine ⟨h, by (repeat' first | exact Sub.refl _ | exact Sub.nil _ | assumption | refine Sub.both ?_ ?_ | refine Sub.cons_of (by simp only [subs, n1, n2, m, m']) ?_ | exact Sub.left _ _ | refine Sub.app (by simp only [subs, n1, n2, m, m']) ?_ | refine Sub.cons (by simp only [subs, n1, n2, m, m']) ?_), k _ _ (no fun e f => nn ?_)⟩
        obtain ⟨m2, c2, h1, h2, h3⟩ := beg_of f
        rw [hcut] at h3
        have h4 := (cut_un hp (decN_no32 m2) h3).1
        exact ⟨[(m2 : Int)], (fun x hx => by rw [List.mem_singleton] at hx; subst hx; exact nat_sm5 h1), by rw [h4]; simp [decI_nat]⟩
  · have hi2 : i = s.length := by omega
    subst hi2
    rw [List.take_length] at hp
    have hnf : ∀ e, ¬ Fit e (begB ++ 32 :: s) := fun e f => by
      obtain ⟨m, c, _, _, h3⟩ := beg_of f
      exact hp (by rw [h3]; simp)
    rw [List.take_length]
    refine ⟨⟨by omega, by omega⟩, newB_intro (o := blk (fl eT [s]) 9) fun j2 hj2 => ?_⟩
    have n2 := hj2
    simp only [subs] at n2
    have m := n2.1
    have m' := Ne.symm n2.1
    simp only [walk, lists, acts, mem, plain, seqs, maps, cells, resL, resV, intBin, ↓reduceIte, Nat.reduceAdd, Nat.reduceSub, Nat.reduceMul, Nat.reduceLeDiff, Nat.reduceEqDiff, Int.reduceToNat, Int.reduceEq, Int.reduceLT, Int.reduceLE, Int.reduceNeg, Int.reduceAdd, Int.reduceSub, Int.reduceMul, Nat.reducePow, Int.reduceNegSucc]
    refine nums_c (rL_lit (e := 9) eT_len [s]) (by simp) (fun x hx => by rw [List.mem_singleton] at hx; subst hx; omega) (fun v3 g3 ns hns hr o3 d3 => ?_) fun nn v3 => ?_
    · have d3x := d3
      have d3y := d3.symm
      simp only [subs] at d3x d3y
      simp only [walk, lists, acts, mem, plain, seqs, maps, cells, resL, resV, intBin, ↓reduceIte, Nat.reduceAdd, Nat.reduceSub, Nat.reduceMul, Nat.reduceLeDiff, Nat.reduceEqDiff, Int.reduceToNat, Int.reduceEq, Int.reduceLT, Int.reduceLE, Int.reduceNeg, Int.reduceAdd, Int.reduceSub, Int.reduceMul, Nat.reducePow, Int.reduceNegSucc, wTollEvent, apps, d3x, m, m']
      refine ite_ge (fun x => ?_) fun x => absurd x (by omega)
      exact ⟨h, by (repeat' first | exact Sub.refl _ | exact Sub.nil _ | assumption | refine Sub.both ?_ ?_ | refine Sub.cons_of (by simp only [subs, n1, n2, d3x, d3y]) ?_ | exact Sub.left _ _ | refine Sub.app (by simp only [subs, n1, n2, d3x, d3y]) ?_ | refine Sub.cons (by simp only [subs, n1, n2, d3x, d3y]) ?_), k _ _ (no hnf)⟩
    · simp only [walk, lists, acts, mem, plain, seqs, maps, cells, resL, resV, intBin, ↓reduceIte, Nat.reduceAdd, Nat.reduceSub, Nat.reduceMul, Nat.reduceLeDiff, Nat.reduceEqDiff, Int.reduceToNat, Int.reduceEq, Int.reduceLT, Int.reduceLE, Int.reduceNeg, Int.reduceAdd, Int.reduceSub, Int.reduceMul, Nat.reducePow, Int.reduceNegSucc, wTollEvent, apps, m, m']
      exact ⟨h, by (repeat' first | exact Sub.refl _ | exact Sub.nil _ | assumption | refine Sub.both ?_ ?_ | refine Sub.cons_of (by simp only [subs, n1, n2]) ?_ | exact Sub.left _ _ | refine Sub.app (by simp only [subs, n1, n2]) ?_ | refine Sub.cons (by simp only [subs, n1, n2]) ?_), k _ _ (no hnf)⟩
end Go.Proofs.YtdlgaidjlepepaaDoor
end
