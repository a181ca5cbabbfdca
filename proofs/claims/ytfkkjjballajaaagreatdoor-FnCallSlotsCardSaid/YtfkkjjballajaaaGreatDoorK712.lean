/- Parts of the proof, put together: T2I, X3, V12, V13, V14. -/
import Derived.Test.YtfkkjjballajaaaGreatDoorK78
import Derived.Test.YtfkkjjballajaaaGreatDoorK75
import Derived.Test.YtfkkjjballajaaaGreatDoorK711
import Derived.Test.YtfkkjjballajaaaGreatDoorK76
/- What the laws compare and mark: slices of numbers, bytes, pairs. -/
section
set_option linter.unusedVariables false
set_option linter.unusedSimpArgs false
set_option maxRecDepth 20000
attribute [local irreducible] Go.Tk.vc Go.Tk.vops Go.Tk.vdr Go.Tk.vop Go.Tk.vfl Go.Tk.HCalls
namespace Go.Proofs.YtfkkjjballajaaaGreatDoor
open Go Go.Tk

theorem eqIntS_c {h : H} {a b : Value} {la lb : List Int} (ra : rInts h a la) (rb : rInts h b lb) (ha : la.length ≤ 1099511627776) {R : Ending → H → Prop} (k : R (.returned (.bool (decide (la = lb)))) h) :
    HCalls Tryz.prog 9 #[a, b] h R := by
  refine HCalls_ir (args := [a, b]) Tryz.func9 ir9 ?_
  simp only [walk, lists, acts, mem, plain, seqs, maps, cells, resL, resV, intBin, ↓reduceIte, Nat.reduceAdd, Nat.reduceSub, Nat.reduceMul, Nat.reduceLeDiff, Nat.reduceEqDiff, Int.reduceToNat, Int.reduceEq, Int.reduceLT, Int.reduceLE, Int.reduceNeg, Int.reduceAdd, Int.reduceSub, Int.reduceMul, Nat.reducePow, Int.reduceNegSucc, ra.len, rb.len]
  split
  · rename_i c
    have : la ≠ lb := fun e => c (by rw [e])
    simp only [this, decide_false] at k
    exact .of k
  · rename_i c
    have hl : la.length = lb.length := by omega
    refine vc_loop [5] (fun n vs h' => ∃ i : Nat, vs = [.int .i64 i] ∧ h' = h ∧ i ≤ la.length ∧ n = la.length - i ∧ la.take i = lb.take i) la.length rfl ⟨0, rfl, rfl, by omega, by omega, by simp⟩ ?_
    rintro n f h' ⟨i, hv, rfl, hi, rfl, ht⟩
    simp only [List.map_cons, List.map_nil, List.cons.injEq, and_true] at hv
    simp only [walk, lists, acts, mem, plain, seqs, maps, cells, resL, resV, intBin, ↓reduceIte, Nat.reduceAdd, Nat.reduceSub, Nat.reduceMul, Nat.reduceLeDiff, Nat.reduceEqDiff, Int.reduceToNat, Int.reduceEq, Int.reduceLT, Int.reduceLE, Int.reduceNeg, Int.reduceAdd, Int.reduceSub, Int.reduceMul, Nat.reducePow, Int.reduceNegSucc, wr, hv, ra.len, rb.len]
    split
    · rename_i c1
      refine vc_draw h' (Sub.refl _) ?_
      simp only [walk, lists, acts, mem, plain, seqs, maps, cells, resL, resV, intBin, ↓reduceIte, Nat.reduceAdd, Nat.reduceSub, Nat.reduceMul, Nat.reduceLeDiff, Nat.reduceEqDiff, Int.reduceToNat, Int.reduceEq, Int.reduceLT, Int.reduceLE, Int.reduceNeg, Int.reduceAdd, Int.reduceSub, Int.reduceMul, Nat.reducePow, Int.reduceNegSucc]
      refine idx_leaf (i := i) eI_len ra rfl (by omega) fun b1 o1 e1 => ?_
      simp only [walk, lists, acts, mem, plain, seqs, maps, cells, resL, resV, intBin, ↓reduceIte, Nat.reduceAdd, Nat.reduceSub, Nat.reduceMul, Nat.reduceLeDiff, Nat.reduceEqDiff, Int.reduceToNat, Int.reduceEq, Int.reduceLT, Int.reduceLE, Int.reduceNeg, Int.reduceAdd, Int.reduceSub, Int.reduceMul, Nat.reducePow, Int.reduceNegSucc, hread_1 e1]
      refine idx_leaf (i := i) eI_len rb rfl (by omega) fun b2 o2 e2 => ?_
      simp only [walk, lists, acts, mem, plain, seqs, maps, cells, resL, resV, intBin, ↓reduceIte, Nat.reduceAdd, Nat.reduceSub, Nat.reduceMul, Nat.reduceLeDiff, Nat.reduceEqDiff, Int.reduceToNat, Int.reduceEq, Int.reduceLT, Int.reduceLE, Int.reduceNeg, Int.reduceAdd, Int.reduceSub, Int.reduceMul, Nat.reducePow, Int.reduceNegSucc, hread_1 e2]
      split
      · rename_i d
        have : la ≠ lb := ne_at _ _ d
        simp only [this, decide_false] at k
        exact .of k
      · rename_i d
        simp (disch := omega) only [wrapI]
        exact ⟨la.length - (i + 1), by omega, h', .refl _, i + 1, by simp, rfl, by omega, rfl, take_more _ _ ht (by simpa using d)⟩
    · rename_i c1
      have := take_all (by omega) hl ht
      simp only [this, decide_true] at k
      exact .of k

theorem markIntS_c {e : TypeId} {g h0 : H} {v : Value} {l : List Int} {k : Int} (o : oLs e eI 1 v l g) (dj : Dj g h0) (hl : l.length ≤ 1099511627776) (hk : 0 ≤ k ∧ k ≤ 1099511627776000) {R : Ending → H → Prop}
    (kr : ∀ g', oLs e eI 1 v (mks k l.length) g' → Dj g' h0 → R (.returned (.int .i64 (k + l.length))) (g' ++ h0)) :
    HCalls Tryz.prog 10 #[v, .int .i64 k] (g ++ h0) R := by
  refine HCalls_ir (args := [v, .int .i64 k]) Tryz.func10 ir10 ?_
  simp only [walk, lists, acts, mem, plain, seqs, maps, cells, resL, resV, intBin, ↓reduceIte, Nat.reduceAdd, Nat.reduceSub, Nat.reduceMul, Nat.reduceLeDiff, Nat.reduceEqDiff, Int.reduceToNat, Int.reduceEq, Int.reduceLT, Int.reduceLE, Int.reduceNeg, Int.reduceAdd, Int.reduceSub, Int.reduceMul, Nat.reducePow, Int.reduceNegSucc]
  refine vc_loop [5, 1] (fun n vs h' => ∃ (i : Nat) (g' : H), vs = [.int .i64 i, .int .i64 (k + i)] ∧ h' = g' ++ h0 ∧ Dj g' h0 ∧ oLs e eI 1 v (mks k i ++ l.drop i) g' ∧ i ≤ l.length ∧ n = l.length - i) l.length rfl ⟨0, g, by simp, rfl, dj, by simpa [mks] using o, by omega, rfl⟩ ?_
  rintro n f h' ⟨i, g', hv, rfl, dj', o', hi, rfl⟩
  simp only [List.map_cons, List.map_nil, List.cons.injEq, and_true] at hv
  have hll : (mks k i ++ l.drop i).length = l.length := by simp [mks_len]; omega
  have hlen : ∀ {f : Value → Prop}, lenSK v f = f (.int .i64 l.length) := fun {f} => by rw [← hll]; exact o'.rd.len
  simp only [walk, lists, acts, mem, plain, seqs, maps, cells, resL, resV, intBin, ↓reduceIte, Nat.reduceAdd, Nat.reduceSub, Nat.reduceMul, Nat.reduceLeDiff, Nat.reduceEqDiff, Int.reduceToNat, Int.reduceEq, Int.reduceLT, Int.reduceLE, Int.reduceNeg, Int.reduceAdd, Int.reduceSub, Int.reduceMul, Nat.reducePow, Int.reduceNegSucc, wr, hv.1, hv.2, hlen]
  split
  · rename_i c1
    refine own_idx (i := i) eI_len o' rfl (by omega) fun b cap sp hv' hc hs hg => ?_
    subst hg
    simp only [walk, lists, acts, mem, plain, seqs, maps, cells, resL, resV, intBin, ↓reduceIte, Nat.reduceAdd, Nat.reduceSub, Nat.reduceMul, Nat.reduceLeDiff, Nat.reduceEqDiff, Int.reduceToNat, Int.reduceEq, Int.reduceLT, Int.reduceLE, Int.reduceNeg, Int.reduceAdd, Int.reduceSub, Int.reduceMul, Nat.reducePow, Int.reduceNegSucc]
    refine st_own (i := i) (a' := k + i) (off := 0) eI_len (by omega) (by omega) rfl (by omega) rfl ?_
    simp only [walk, lists, acts, mem, plain, seqs, maps, cells, resL, resV, intBin, ↓reduceIte, Nat.reduceAdd, Nat.reduceSub, Nat.reduceMul, Nat.reduceLeDiff, Nat.reduceEqDiff, Int.reduceToNat, Int.reduceEq, Int.reduceLT, Int.reduceLE, Int.reduceNeg, Int.reduceAdd, Int.reduceSub, Int.reduceMul, Nat.reducePow, Int.reduceNegSucc]
    simp (disch := omega) only [wrapI]
    refine ⟨l.length - (i + 1), by omega, _, .refl _, i + 1, _, ?_, rfl, dj'.sub (.refl _) (.refl _) |> fun d => Dj.one d.one', ?_, by omega, rfl⟩
    · simp; omega
    · rw [← mks_set k l i (by omega)]; exact own_set eI_len hv' hc hs
  · rename_i c1
    have hi' : i = l.length := by omega
    subst hi'
    simp only [List.drop_length, List.append_nil] at o'
    exact .of (kr g' o' dj')

theorem heldIntS_c {h : H} {v : Value} {l : List Int} {k : Int} (r : rInts h v l) (hm : l = mks k l.length) (hl : l.length ≤ 1099511627776) (hk : 0 ≤ k ∧ k ≤ 1099511627776000) {R : Ending → H → Prop}
    (kr : R (.returned (.int .i64 (k + l.length))) h) : HCalls Tryz.prog 11 #[v, .int .i64 k] h R := by
  refine HCalls_ir (args := [v, .int .i64 k]) Tryz.func11 ir11 ?_
  simp only [walk, lists, acts, mem, plain, seqs, maps, cells, resL, resV, intBin, ↓reduceIte, Nat.reduceAdd, Nat.reduceSub, Nat.reduceMul, Nat.reduceLeDiff, Nat.reduceEqDiff, Int.reduceToNat, Int.reduceEq, Int.reduceLT, Int.reduceLE, Int.reduceNeg, Int.reduceAdd, Int.reduceSub, Int.reduceMul, Nat.reducePow, Int.reduceNegSucc]
  refine vc_loop [5, 1] (fun n vs h' => ∃ (i : Nat), vs = [.int .i64 i, .int .i64 (k + i)] ∧ h' = h ∧ i ≤ l.length ∧ n = l.length - i) l.length rfl ⟨0, by simp, rfl, by omega, rfl⟩ ?_
  rintro n f h' ⟨i, hv, rfl, hi, rfl⟩
  simp only [List.map_cons, List.map_nil, List.cons.injEq, and_true] at hv
  simp only [walk, lists, acts, mem, plain, seqs, maps, cells, resL, resV, intBin, ↓reduceIte, Nat.reduceAdd, Nat.reduceSub, Nat.reduceMul, Nat.reduceLeDiff, Nat.reduceEqDiff, Int.reduceToNat, Int.reduceEq, Int.reduceLT, Int.reduceLE, Int.reduceNeg, Int.reduceAdd, Int.reduceSub, Int.reduceMul, Nat.reducePow, Int.reduceNegSucc, wr, hv.1, hv.2, r.len]
  split
  · rename_i c1
    refine idx_leaf (i := i) eI_len r rfl (by omega) fun b1 o1 e1 => ?_
    have hx : l[i]'(by omega) = k + i := by
      have : ∀ (m : List Int) (hi : i < m.length), m = mks k l.length → m[i] = k + i := by rintro m hi rfl; exact mks_at _ _ _ _
      exact this l _ hm
    rw [hx] at e1
    simp only [walk, lists, acts, mem, plain, seqs, maps, cells, resL, resV, intBin, ↓reduceIte, Nat.reduceAdd, Nat.reduceSub, Nat.reduceMul, Nat.reduceLeDiff, Nat.reduceEqDiff, Int.reduceToNat, Int.reduceEq, Int.reduceLT, Int.reduceLE, Int.reduceNeg, Int.reduceAdd, Int.reduceSub, Int.reduceMul, Nat.reducePow, Int.reduceNegSucc, hread_1 e1]
    simp (disch := omega) only [wrapI]
    exact ⟨l.length - (i + 1), by omega, h', .refl _, i + 1, by simp; omega, rfl, by omega, rfl⟩
  · rename_i c1
    have hi' : i = l.length := by omega
    subst hi'
    exact .of kr
end Go.Proofs.YtfkkjjballajaaaGreatDoor
end

/- Which slots a call touches: the program's; the law ExactCallSlots. -/
section
set_option linter.unusedVariables false
set_option linter.unusedSimpArgs false
set_option maxRecDepth 20000
attribute [local irreducible] Go.Tk.vc Go.Tk.vops Go.Tk.vdr Go.Tk.vop Go.Tk.vfl Go.Tk.HCalls
namespace Go.Proofs.YtfkkjjballajaaaGreatDoor
open Go Go.Tk

theorem implSlots_c {h : H} {c : DCall} (gl : Gl h) (gm : MxL h) (ht : c.text.length ≤ 4194304) {R : Ending → H → Prop} (k : ∀ v g l, SlotsO c l → oLs 3 eI 1 v l g → Dj g h → R (.returned v) (g ++ h)) :
    HCalls Tryz.prog 8 #[.agg (cCall c).toArray] h R := by
  refine HCalls_ir (args := [.agg (cCall c).toArray]) Tryz.func8 ir8 ?_
  have zs := zStatement_eq
  simp only [walk, lists, acts, mem, plain, seqs, maps, cells, resL, resV, intBin, ↓reduceIte, Nat.reduceAdd, Nat.reduceSub, Nat.reduceMul, Nat.reduceLeDiff, Nat.reduceEqDiff, Int.reduceToNat, Int.reduceEq, Int.reduceLT, Int.reduceLE, Int.reduceNeg, Int.reduceAdd, Int.reduceSub, Int.reduceMul, Nat.reducePow, Int.reduceNegSucc, wCall, zs]
  refine newB_intro (o := blk (cCall c) 27) fun j hj => ?_
  have s1 := Sub.cons (o := blk (cCall c) 27) hj (Sub.refl h)
  simp only [walk, lists, acts, mem, plain, seqs, maps, cells, resL, resV, intBin, ↓reduceIte, Nat.reduceAdd, Nat.reduceSub, Nat.reduceMul, Nat.reduceLeDiff, Nat.reduceEqDiff, Int.reduceToNat, Int.reduceEq, Int.reduceLT, Int.reduceLE, Int.reduceNeg, Int.reduceAdd, Int.reduceSub, Int.reduceMul, Nat.reducePow, Int.reduceNegSucc, wCall, zs]
  refine implCallOk_c (gl.sub s1) (gm.sub s1) ht fun b1 hb1 => ?_
  simp only [walk, lists, acts, mem, plain, seqs, maps, cells, resL, resV, intBin, ↓reduceIte, Nat.reduceAdd, Nat.reduceSub, Nat.reduceMul, Nat.reduceLeDiff, Nat.reduceEqDiff, Int.reduceToNat, Int.reduceEq, Int.reduceLT, Int.reduceLE, Int.reduceNeg, Int.reduceAdd, Int.reduceSub, Int.reduceMul, Nat.reducePow, Int.reduceNegSucc, wCall, zs]
  refine ite_f (fun e => ⟨h, s1, k _ [] [] (.inl ⟨fun p => (by rw [hb1.2 p] at e; cases e), rfl⟩) (ows.nil _ _) (Dj.nil _)⟩) fun e1 => ?_
  have hok := hb1.1 e1
  refine ite_pos (fun hk => ?_) fun hk => ?_
  · refine newB_intro (o := blk (fl eI [c.slot]) 3) fun j6 hj6 => ?_
    have n6 := hj6
    simp only [subs] at n6
    have o6 : oLs 3 eI 1 (.slice (some ⟨j6, 0, none⟩) 1 1) [c.slot] [(j6, blk (fl eI [c.slot]) 3)] := oLs_new (l := [c.slot]) eI_len
    simp only [walk, lists, acts, mem, plain, seqs, maps, cells, resL, resV, intBin, ↓reduceIte, Nat.reduceAdd, Nat.reduceSub, Nat.reduceMul, Nat.reduceLeDiff, Nat.reduceEqDiff, Int.reduceToNat, Int.reduceEq, Int.reduceLT, Int.reduceLE, Int.reduceNeg, Int.reduceAdd, Int.reduceSub, Int.reduceMul, Nat.reducePow, Int.reduceNegSucc, wCall, zs]
    refine ⟨[(j6, blk (fl eI [c.slot]) 3)] ++ h, by (repeat' first | exact Sub.refl _ | exact Sub.nil _ | assumption | refine Sub.both ?_ ?_ | refine Sub.cons_of (by simp only [subs, n6, hj]) ?_ | exact Sub.left _ _ | refine Sub.app (by simp only [subs, n6, hj]) ?_ | refine Sub.cons (by simp only [subs, n6, hj]) ?_), k _ _ [c.slot] (.inr ⟨hok, by simp, [], false, ?_, fun s => ?_⟩) o6 (by simp only [subs, n6])⟩
    · have : c.text = [] := by
        rcases hok.1.2.2 with q | q
        · have := q.1; omega
        · exact q.2.1
      rw [this]; exact OutD.none
    · unfold touchP
      rw [List.mem_singleton]
      constructor
      · intro e; exact .inl ⟨hk, e.symm⟩
      · rintro (e | ⟨st, e, _⟩)
        · exact e.2.symm
        · cases e
  · refine implRead_c (gl.sub s1) (gm.sub s1) ht fun v4 g4 ds ok O o4 d4 => ?_
    have n4 := d4
    simp only [subs] at n4
    obtain ⟨B, hB⟩ : ∃ B, B = g4 ++ ((j, blk (cCall c) 27) :: h) := ⟨_, rfl⟩
    have r4 : rLs B cStatement 3 v4 ds := o4.rd.sub (by rw [hB]; exact Sub.left _ _)
    have hds := O.le
    have hds1 : ds ≠ [] := by
      have h1 : c.kind = 1 := by
        rcases hok.1.2.2 with q | q
        · exact q.1
        · exact absurd q.1 hk
      have ho := O.iff.2 (hok.2 h1)
      rcases O with ⟨_, p, _⟩ | ⟨e, _⟩
      · intro e; have := p.1; rw [e] at this; simp at this
      · rw [e] at ho; cases ho
    simp only [walk, lists, acts, mem, plain, seqs, maps, cells, resL, resV, intBin, ↓reduceIte, Nat.reduceAdd, Nat.reduceSub, Nat.reduceMul, Nat.reduceLeDiff, Nat.reduceEqDiff, Int.reduceToNat, Int.reduceEq, Int.reduceLT, Int.reduceLE, Int.reduceNeg, Int.reduceAdd, Int.reduceSub, Int.reduceMul, Nat.reducePow, Int.reduceNegSucc, wCall, zs]
    rw [← hB]
    simp only [walk, lists, acts, mem, plain, seqs, maps, cells, resL, resV, intBin, ↓reduceIte, Nat.reduceAdd, Nat.reduceSub, Nat.reduceMul, Nat.reduceLeDiff, Nat.reduceEqDiff, Int.reduceToNat, Int.reduceEq, Int.reduceLT, Int.reduceLE, Int.reduceNeg, Int.reduceAdd, Int.reduceSub, Int.reduceMul, Nat.reducePow, Int.reduceNegSucc, wCall, zs, r4.len]
    refine vc_loopS (g0 := B) [25, 5] (fun n vs h' => ∃ (i : Nat) (v' : Value) (G : H), vs = [.int .i64 i, v'] ∧ h' = G ++ B ∧ Dj G B ∧ oLs 3 eI 1 v' ((ds.take i).map fun st => slotK st.key) G ∧ i ≤ ds.length ∧ n = ds.length - i) ds.length rfl (Sub.refl _)
      ⟨0, _, [], rfl, rfl, Dj.nil _, ows.nil _ _, by omega, rfl⟩ ?_
    rintro n f h' ⟨i, v', G, hv, rfl, dG, oG, hi, rfl⟩
    simp only [List.map_cons, List.map_nil, List.cons.injEq, and_true] at hv
    have sG := Sub.right dG
    simp only [walk, lists, acts, mem, plain, seqs, maps, cells, resL, resV, intBin, ↓reduceIte, Nat.reduceAdd, Nat.reduceSub, Nat.reduceMul, Nat.reduceLeDiff, Nat.reduceEqDiff, Int.reduceToNat, Int.reduceEq, Int.reduceLT, Int.reduceLE, Int.reduceNeg, Int.reduceAdd, Int.reduceSub, Int.reduceMul, Nat.reducePow, Int.reduceNegSucc, wr, hv.1, hv.2, zs]
    refine ite_lt (fun c2 => ?_) fun c2 => ?_
    · have hi2 : i < ds.length := by omega
      refine idx_leaf (i := i) cStatement_len (r4.sub sG) rfl hi2 fun b1 o1 e1 => ?_
      simp only [walk, lists, acts, mem, plain, seqs, maps, cells, resL, resV, intBin, ↓reduceIte, Nat.reduceAdd, Nat.reduceSub, Nat.reduceMul, Nat.reduceLeDiff, Nat.reduceEqDiff, Int.reduceToNat, Int.reduceEq, Int.reduceLT, Int.reduceLE, Int.reduceNeg, Int.reduceAdd, Int.reduceSub, Int.reduceMul, Nat.reducePow, Int.reduceNegSucc, e1, zs, wStatement]
      refine newB_intro fun j6 hj6 => ?_
      have n6 := hj6
      simp only [subs] at n6
      have s6 := Sub.cons (o := blk (cStatement ds[i]) 40) hj6 (Sub.refl (G ++ B))
      simp only [walk, lists, acts, mem, plain, seqs, maps, cells, resL, resV, intBin, ↓reduceIte, Nat.reduceAdd, Nat.reduceSub, Nat.reduceMul, Nat.reduceLeDiff, Nat.reduceEqDiff, Int.reduceToNat, Int.reduceEq, Int.reduceLT, Int.reduceLE, Int.reduceNeg, Int.reduceAdd, Int.reduceSub, Int.reduceMul, Nat.reducePow, Int.reduceNegSucc, zs, wStatement]
      refine implMapSlot_c ?_
      simp only [walk, lists, acts, mem, plain, seqs, maps, cells, resL, resV, intBin, ↓reduceIte, Nat.reduceAdd, Nat.reduceSub, Nat.reduceMul, Nat.reduceLeDiff, Nat.reduceEqDiff, Int.reduceToNat, Int.reduceEq, Int.reduceLT, Int.reduceLE, Int.reduceNeg, Int.reduceAdd, Int.reduceSub, Int.reduceMul, Nat.reducePow, Int.reduceNegSucc, zs, wStatement]
      refine newB_intro (o := blk (fl eI [slotK ds[i].key]) 3) fun j7 hj7 => ?_
      simp only [walk, lists, acts, mem, plain, seqs, maps, cells, resL, resV, intBin, ↓reduceIte, Nat.reduceAdd, Nat.reduceSub, Nat.reduceMul, Nat.reduceLeDiff, Nat.reduceEqDiff, Int.reduceToNat, Int.reduceEq, Int.reduceLT, Int.reduceLE, Int.reduceNeg, Int.reduceAdd, Int.reduceSub, Int.reduceMul, Nat.reducePow, Int.reduceNegSucc, zs, wStatement]
      refine app_leaf (g := G) (h := B) eI_len eI_one tInts iInt (s6.trans (Sub.cons hj7 (Sub.refl _))) dG oG (rI_lit (e := 3) [slotK ds[i].key]) (by rw [List.length_map, List.length_take]; simp; omega) (by rw [List.length_map, List.length_take]; simp; omega) fun v3 g3 o3 d3 => ?_
      simp (disch := omega) only [walk, lists, acts, mem, plain, seqs, maps, cells, resL, resV, intBin, ↓reduceIte, Nat.reduceAdd, Nat.reduceSub, Nat.reduceMul, Nat.reduceLeDiff, Nat.reduceEqDiff, Int.reduceToNat, Int.reduceEq, Int.reduceLT, Int.reduceLE, Int.reduceNeg, Int.reduceAdd, Int.reduceSub, Int.reduceMul, Nat.reducePow, Int.reduceNegSucc, wrapI]
      refine ⟨ds.length - (i + 1), by omega, _, .refl _, i + 1, v3, g3, by simp, rfl, d3, ?_, by omega, rfl⟩
      rw [List.take_succ_eq_append_getElem hi2, List.map_append]; exact o3
    · have hi2 : i = ds.length := by omega
      subst hi2
      rw [List.take_length] at oG
      have hne : (ds.map fun st => slotK st.key) ≠ [] := by simpa using hds1
      refine sort_c oG dG hne (by rw [List.length_map]; omega) fun g5 l5 o5 d5 hp5 hm5 hl5 => ?_
      rw [List.length_map] at hl5
      simp only [walk, lists, acts, mem, plain, seqs, maps, cells, resL, resV, intBin, ↓reduceIte, Nat.reduceAdd, Nat.reduceSub, Nat.reduceMul, Nat.reduceLeDiff, Nat.reduceEqDiff, Int.reduceToNat, Int.reduceEq, Int.reduceLT, Int.reduceLE, Int.reduceNeg, Int.reduceAdd, Int.reduceSub, Int.reduceMul, Nat.reducePow, Int.reduceNegSucc]
      have hne5 : l5 ≠ [] := fun e => by
        rw [e] at hl5
        exact hds1 (List.length_eq_zero_iff.1 hl5.symm)
      refine compact_c o5 d5 hne5 (by omega) hp5 fun v6 g6 l6 o6 d6 hp6 hm6 => ?_
      simp only [walk, lists, acts, mem, plain, seqs, maps, cells, resL, resV, intBin, ↓reduceIte, Nat.reduceAdd, Nat.reduceSub, Nat.reduceMul, Nat.reduceLeDiff, Nat.reduceEqDiff, Int.reduceToNat, Int.reduceEq, Int.reduceLT, Int.reduceLE, Int.reduceNeg, Int.reduceAdd, Int.reduceSub, Int.reduceMul, Nat.reducePow, Int.reduceNegSucc]
      have dh : Dj g6 h := by
        have := d6
        rw [hB] at this
        simp only [subs] at this
        exact this.2.2
      refine ⟨g6 ++ h, ?_, k v6 g6 l6 (.inr ⟨hok, hp6, ds, ok, O, fun x => ?_⟩) o6 dh⟩
      · rw [hB] at d6 ⊢
        have dg := d6
        simp only [subs] at dg
        (repeat' first | exact Sub.refl _ | exact Sub.nil _ | assumption | refine Sub.both ?_ ?_ | refine Sub.cons_of (by simp only [subs, dg, n4, hj]) ?_ | exact Sub.left _ _ | refine Sub.app (by simp only [subs, dg, n4, hj]) ?_ | refine Sub.cons (by simp only [subs, dg, n4, hj]) ?_)
      · rw [hm6, hm5, List.mem_map]
        unfold touchP
        constructor
        · rintro ⟨st, h1, h2⟩; exact .inr ⟨st, h1, h2⟩
        · rintro (h1 | ⟨st, h1, h2⟩)
          · exact absurd h1.1 hk
          · exact ⟨st, h1, h2⟩

theorem exactCallSlots_c {h : H} {c : DCall} (gl : Gl h) (gm : MxL h) (ht : c.text.length ≤ maxLen) {R : Ending → H → Prop} (k : R (.returned (.bool true)) h) : HCalls Tryz.prog 3 #[.agg (cCall c).toArray] h R := by
  refine HCalls_ir (args := [.agg (cCall c).toArray]) Tryz.func3 ir3 ?_
  have hmax : maxLen = 9223372036854775807 := by decide
  simp only [walk, lists, acts, mem, plain, seqs, maps, cells, resL, resV, intBin, ↓reduceIte, Nat.reduceAdd, Nat.reduceSub, Nat.reduceMul, Nat.reduceLeDiff, Nat.reduceEqDiff, Int.reduceToNat, Int.reduceEq, Int.reduceLT, Int.reduceLE, Int.reduceNeg, Int.reduceAdd, Int.reduceSub, Int.reduceMul, Nat.reducePow, Int.reduceNegSucc, wCall]
  refine newB_intro fun j hj => ?_
  have s1 := fun o => Sub.cons (o := o) hj (Sub.refl h)
  simp only [walk, lists, acts, mem, plain, seqs, maps, cells, resL, resV, intBin, ↓reduceIte, Nat.reduceAdd, Nat.reduceSub, Nat.reduceMul, Nat.reduceLeDiff, Nat.reduceEqDiff, Int.reduceToNat, Int.reduceEq, Int.reduceLT, Int.reduceLE, Int.reduceNeg, Int.reduceAdd, Int.reduceSub, Int.reduceMul, Nat.reducePow, Int.reduceNegSucc, wCall]
  refine szCall_c (by omega) (by omega) fun n hn _ => ?_
  simp only [walk, lists, acts, mem, plain, seqs, maps, cells, resL, resV, intBin, ↓reduceIte, Nat.reduceAdd, Nat.reduceSub, Nat.reduceMul, Nat.reduceLeDiff, Nat.reduceEqDiff, Int.reduceToNat, Int.reduceEq, Int.reduceLT, Int.reduceLE, Int.reduceNeg, Int.reduceAdd, Int.reduceSub, Int.reduceMul, Nat.reducePow, Int.reduceNegSucc, wCall]
  refine ite_lt (fun c => ⟨h, s1 _, k⟩) fun c0 => ?_
  have hl := (hn c0).2
  obtain ⟨B, hB⟩ : ∃ B, B = (j, blk (cCall c) 23) :: h := ⟨_, rfl⟩
  have sB : Tk.Sub h B := by rw [hB]; exact s1 _
  have cB : hread B j 0 6 = some (cCall c) := by rw [hB, hread_same]; rfl
  rw [← hB]
  refine toCall_c ?_
  simp only [walk, lists, acts, mem, plain, seqs, maps, cells, resL, resV, intBin, ↓reduceIte, Nat.reduceAdd, Nat.reduceSub, Nat.reduceMul, Nat.reduceLeDiff, Nat.reduceEqDiff, Int.reduceToNat, Int.reduceEq, Int.reduceLT, Int.reduceLE, Int.reduceNeg, Int.reduceAdd, Int.reduceSub, Int.reduceMul, Nat.reducePow, Int.reduceNegSucc, wCall]
  refine specSlots_c (by omega) fun v3 g3 l3 O3 hl3 o3 d3 => ?_
  have s3 := Sub.right d3
  simp only [walk, lists, acts, mem, plain, seqs, maps, cells, resL, resV, intBin, ↓reduceIte, Nat.reduceAdd, Nat.reduceSub, Nat.reduceMul, Nat.reduceLeDiff, Nat.reduceEqDiff, Int.reduceToNat, Int.reduceEq, Int.reduceLT, Int.reduceLE, Int.reduceNeg, Int.reduceAdd, Int.reduceSub, Int.reduceMul, Nat.reducePow, Int.reduceNegSucc, wCall, hval, hread_sub s3 cB]
  refine toCall_c ?_
  simp only [walk, lists, acts, mem, plain, seqs, maps, cells, resL, resV, intBin, ↓reduceIte, Nat.reduceAdd, Nat.reduceSub, Nat.reduceMul, Nat.reduceLeDiff, Nat.reduceEqDiff, Int.reduceToNat, Int.reduceEq, Int.reduceLT, Int.reduceLE, Int.reduceNeg, Int.reduceAdd, Int.reduceSub, Int.reduceMul, Nat.reducePow, Int.reduceNegSucc, wCall]
  have g3l := sB.trans s3
  refine implSlots_c (gl.sub g3l) (gm.sub g3l) (by omega) fun v5 g5 l5 O5 o5 d5 => ?_
  have e53 : l5 = l3 := O5.same O3
  subst e53
  have s5 := Sub.right d5
  simp only [walk, lists, acts, mem, plain, seqs, maps, cells, resL, resV, intBin, ↓reduceIte, Nat.reduceAdd, Nat.reduceSub, Nat.reduceMul, Nat.reduceLeDiff, Nat.reduceEqDiff, Int.reduceToNat, Int.reduceEq, Int.reduceLT, Int.reduceLE, Int.reduceNeg, Int.reduceAdd, Int.reduceSub, Int.reduceMul, Nat.reducePow, Int.reduceNegSucc, wCall]
  refine eqIntS_c (o5.rd.sub (Sub.left _ _)) ((o3.rd.sub (Sub.left _ _)).sub s5) (by omega) ?_
  simp only [walk, lists, acts, mem, plain, seqs, maps, cells, resL, resV, intBin, ↓reduceIte, Nat.reduceAdd, Nat.reduceSub, Nat.reduceMul, Nat.reduceLeDiff, Nat.reduceEqDiff, Int.reduceToNat, Int.reduceEq, Int.reduceLT, Int.reduceLE, Int.reduceNeg, Int.reduceAdd, Int.reduceSub, Int.reduceMul, Nat.reducePow, Int.reduceNegSucc, decide_true]
  refine markIntS_c (k := 1) o5 d5 (by omega) (by omega) fun g6 o6 d6 => ?_
  have s6 := Sub.right d6
  simp only [walk, lists, acts, mem, plain, seqs, maps, cells, resL, resV, intBin, ↓reduceIte, Nat.reduceAdd, Nat.reduceSub, Nat.reduceMul, Nat.reduceLeDiff, Nat.reduceEqDiff, Int.reduceToNat, Int.reduceEq, Int.reduceLT, Int.reduceLE, Int.reduceNeg, Int.reduceAdd, Int.reduceSub, Int.reduceMul, Nat.reducePow, Int.reduceNegSucc]
  have ml := mks_len 1 l5.length
  have hm : mks 1 l5.length = mks 1 (mks 1 l5.length).length := by rw [ml]
  refine heldIntS_c (k := 1) (l := mks 1 l5.length) (o6.rd.sub (Sub.left _ _)) hm (by rw [ml]; omega) (by omega) ?_
  simp only [walk, lists, acts, mem, plain, seqs, maps, cells, resL, resV, intBin, ↓reduceIte, Nat.reduceAdd, Nat.reduceSub, Nat.reduceMul, Nat.reduceLeDiff, Nat.reduceEqDiff, Int.reduceToNat, Int.reduceEq, Int.reduceLT, Int.reduceLE, Int.reduceNeg, Int.reduceAdd, Int.reduceSub, Int.reduceMul, Nat.reducePow, Int.reduceNegSucc, ml]
  refine ite_lt (fun c => by omega) fun c1 => ?_
  have s36 := s3.trans s6
  simp only [walk, lists, acts, mem, plain, seqs, maps, cells, resL, resV, intBin, ↓reduceIte, Nat.reduceAdd, Nat.reduceSub, Nat.reduceMul, Nat.reduceLeDiff, Nat.reduceEqDiff, Int.reduceToNat, Int.reduceEq, Int.reduceLT, Int.reduceLE, Int.reduceNeg, Int.reduceAdd, Int.reduceSub, Int.reduceMul, Nat.reducePow, Int.reduceNegSucc, hval, hread_sub s36 cB]
  refine toCall_c ?_
  simp only [walk, lists, acts, mem, plain, seqs, maps, cells, resL, resV, intBin, ↓reduceIte, Nat.reduceAdd, Nat.reduceSub, Nat.reduceMul, Nat.reduceLeDiff, Nat.reduceEqDiff, Int.reduceToNat, Int.reduceEq, Int.reduceLT, Int.reduceLE, Int.reduceNeg, Int.reduceAdd, Int.reduceSub, Int.reduceMul, Nat.reducePow, Int.reduceNegSucc, wCall]
  have g6l := sB.trans s36
  refine implSlots_c (gl.sub g6l) (gm.sub g6l) (by omega) fun v9 g9 l9 O9 o9 d9 => ?_
  have e93 : l9 = l5 := O9.same O3
  subst e93
  have s9 := Sub.right d9
  simp only [walk, lists, acts, mem, plain, seqs, maps, cells, resL, resV, intBin, ↓reduceIte, Nat.reduceAdd, Nat.reduceSub, Nat.reduceMul, Nat.reduceLeDiff, Nat.reduceEqDiff, Int.reduceToNat, Int.reduceEq, Int.reduceLT, Int.reduceLE, Int.reduceNeg, Int.reduceAdd, Int.reduceSub, Int.reduceMul, Nat.reducePow, Int.reduceNegSucc, wCall]
  refine eqIntS_c (o9.rd.sub (Sub.left _ _)) (((o3.rd.sub (Sub.left _ _)).sub s6).sub s9) (by omega) ?_
  simp only [walk, lists, acts, mem, plain, seqs, maps, cells, resL, resV, intBin, ↓reduceIte, Nat.reduceAdd, Nat.reduceSub, Nat.reduceMul, Nat.reduceLeDiff, Nat.reduceEqDiff, Int.reduceToNat, Int.reduceEq, Int.reduceLT, Int.reduceLE, Int.reduceNeg, Int.reduceAdd, Int.reduceSub, Int.reduceMul, Nat.reducePow, Int.reduceNegSucc, decide_true]
  refine heldIntS_c (k := 1) (l := mks 1 l9.length) ((o6.rd.sub (Sub.left _ _)).sub s9) hm (by rw [ml]; omega) (by omega) ?_
  simp only [walk, lists, acts, mem, plain, seqs, maps, cells, resL, resV, intBin, ↓reduceIte, Nat.reduceAdd, Nat.reduceSub, Nat.reduceMul, Nat.reduceLeDiff, Nat.reduceEqDiff, Int.reduceToNat, Int.reduceEq, Int.reduceLT, Int.reduceLE, Int.reduceNeg, Int.reduceAdd, Int.reduceSub, Int.reduceMul, Nat.reducePow, Int.reduceNegSucc, ml]
  refine ite_lt (fun c => by omega) fun c1 => ?_
  exact ⟨h, g6l.trans s9, k⟩
end Go.Proofs.YtfkkjjballajaaaGreatDoor
end

/- How drawn bytes are read; the worlds at first. -/
section
set_option linter.unusedVariables false
set_option linter.unusedSimpArgs false
set_option maxRecDepth 20000
attribute [local irreducible] Go.Tk.vc Go.Tk.vops Go.Tk.vdr Go.Tk.vop Go.Tk.vfl Go.Tk.HCalls
namespace Go.Proofs.YtfkkjjballajaaaGreatDoor
open Go Go.Tk
theorem vcells_one {v : Value} (h : vone v = true) : vcells v = [v] := by cases v <;> first | rfl | cases h
theorem l12House_c {a : Int} {h : H} {R : Ending → H → Prop} (k : Asks R (houseP a) h) : HCalls Tryz.prog 97 #[.int .i64 a] h R := by
  refine HCalls_ir (args := [.int .i64 a]) Tryz.func97 ir97 ?_
  simp only [walk, lists, acts, mem, plain, seqs, maps, cells, resL, resV, intBin, ↓reduceIte, Nat.reduceAdd, Nat.reduceSub, Nat.reduceMul, Nat.reduceLeDiff, Nat.reduceEqDiff, Int.reduceToNat, Int.reduceEq, Int.reduceLT, Int.reduceLE, Int.reduceNeg, Int.reduceAdd, Int.reduceSub, Int.reduceMul, Nat.reducePow, Int.reduceNegSucc]
  refine l6In_c fun b hb => ?_
  simp only [walk, lists, acts, mem, plain, seqs, maps, cells, resL, resV, intBin, ↓reduceIte, Nat.reduceAdd, Nat.reduceSub, Nat.reduceMul, Nat.reduceLeDiff, Nat.reduceEqDiff, Int.reduceToNat, Int.reduceEq, Int.reduceLT, Int.reduceLE, Int.reduceNeg, Int.reduceAdd, Int.reduceSub, Int.reduceMul, Nat.reducePow, Int.reduceNegSucc]
  exact .of (k b hb)

/-- The cells of what reads drawn bytes. -/
def rdr (b : Value) (p : Nat) : List Value := [b, .int .i64 p]
theorem w_rdr : (∀ b p, (rdr b p).length = 2) ∧ (∀ b p, (rdr b p)[0]? = some b) ∧ (∀ b p, (rdr b p)[1]? = some (.int .i64 p)) ∧ (∀ b p (q : Nat), splice (rdr b p) 1 [.int .i64 q] = rdr b q) :=
  ⟨fun _ _ => rfl, fun _ _ => rfl, fun _ _ => rfl, fun _ _ _ => rfl⟩

theorem pick_c {h : H} {j p : Nat} {bv : Value} {l : List UInt8} {n : Int} (hj : hget h j = none) (rb : rIn h eB 1 bv l) (hl : l.length ≤ 1048576) (hp : p ≤ 1099511627776) (hn : n ≤ 1099511627776) {R : Ending → H → Prop}
    (k : ∀ x : Int, 0 ≤ x → (1 ≤ n → x < n) → (n < 1 → x = 0) → R (.returned (.int .i64 x)) ((j, blk (rdr bv (p + 1)) 67) :: h)) :
    HCalls Tryz.prog 42 #[.pointer (some ⟨j, 0, none⟩), .int .i64 n] ((j, blk (rdr bv p) 67) :: h) R := by
  refine HCalls_ir (args := [.pointer (some ⟨j, 0, none⟩), .int .i64 n]) Tryz.func42 ir42 ?_
  have sj := fun o => Sub.cons (o := o) hj (Sub.refl h)
  have hc : (p : Int) + 1 = ((p + 1 : Nat) : Int) := by omega
  have hc2 : ((p + 1 : Nat) : Int) - 1 = (p : Int) := by omega
  simp (disch := omega) only [walk, lists, acts, mem, plain, seqs, maps, cells, resL, resV, intBin, ↓reduceIte, Nat.reduceAdd, Nat.reduceSub, Nat.reduceMul, Nat.reduceLeDiff, Nat.reduceEqDiff, Int.reduceToNat, Int.reduceEq, Int.reduceLT, Int.reduceLE, Int.reduceNeg, Int.reduceAdd, Int.reduceSub, Int.reduceMul, Nat.reducePow, Int.reduceNegSucc, w_rdr, wrapI, hc, rb.len]
  refine ite_lt (fun c1 => .of (k 0 (by omega) (fun x => by omega) fun _ => rfl)) fun c1 => ?_
  refine ite_pos (fun c2 => .of (k 0 (by omega) (fun x => by omega) fun _ => rfl)) fun c2 => ?_
  have hpos : 0 < l.length := by omega
  simp (disch := omega) only [walk, lists, acts, mem, plain, seqs, maps, cells, resL, resV, intBin, ↓reduceIte, Nat.reduceAdd, Nat.reduceSub, Nat.reduceMul, Nat.reduceLeDiff, Nat.reduceEqDiff, Int.reduceToNat, Int.reduceEq, Int.reduceLT, Int.reduceLE, Int.reduceNeg, Int.reduceAdd, Int.reduceSub, Int.reduceMul, Nat.reducePow, Int.reduceNegSucc, w_rdr, wrapI, hc2, rb.len]
  refine ite_lt (fun c3 => ?_) fun c3 => ?_
  · refine idx_in (i := p) eB_len (rb.sub (sj (blk (rdr bv (p + 1)) 67))) rfl (by omega) fun b1 o1 e1 => ?_
    have he1 : eB l[p] = [.int .u8 l[p].toNat] := rfl
    rw [he1] at e1
    have hx : l[p].toNat < 256 := UInt8.toNat_lt _
    simp (disch := omega) only [walk, lists, acts, mem, plain, seqs, maps, cells, resL, resV, intBin, ↓reduceIte, Nat.reduceAdd, Nat.reduceSub, Nat.reduceMul, Nat.reduceLeDiff, Nat.reduceEqDiff, Int.reduceToNat, Int.reduceEq, Int.reduceLT, Int.reduceLE, Int.reduceNeg, Int.reduceAdd, Int.reduceSub, Int.reduceMul, Nat.reducePow, Int.reduceNegSucc, hread_1 e1, wrapI]
    have hn0 : ¬ n = 0 := by omega
    simp (disch := omega) only [walk, lists, acts, mem, plain, seqs, maps, cells, resL, resV, intBin, ↓reduceIte, Nat.reduceAdd, Nat.reduceSub, Nat.reduceMul, Nat.reduceLeDiff, Nat.reduceEqDiff, Int.reduceToNat, Int.reduceEq, Int.reduceLT, Int.reduceLE, Int.reduceNeg, Int.reduceAdd, Int.reduceSub, Int.reduceMul, Nat.reducePow, Int.reduceNegSucc, hn0]
    have tm := tmodN l[p].toNat n (by omega)
    exact .of (k _ tm.1 (fun _ => tm.2) fun x => by omega)
  · have hl0 : ¬ (l.length : Int) = 0 := by omega
    have rM := rb.sub (sj (blk (rdr bv (p + 1)) 67))
    refine vc_draw _ (Sub.refl _) ?_
    simp only [walk, lists, acts, mem, plain, seqs, maps, cells, resL, resV, intBin, ↓reduceIte, Nat.reduceAdd, Nat.reduceSub, Nat.reduceMul, Nat.reduceLeDiff, Nat.reduceEqDiff, Int.reduceToNat, Int.reduceEq, Int.reduceLT, Int.reduceLE, Int.reduceNeg, Int.reduceAdd, Int.reduceSub, Int.reduceMul, Nat.reducePow, Int.reduceNegSucc, w_rdr, rb.len, hl0, tmodN']
    refine idx_in (i := p % l.length) eB_len rM rfl (Nat.mod_lt _ hpos) fun b1 o1 e1 => ?_
    have he1 : eB (l[p % l.length]'(Nat.mod_lt _ hpos)) = [.int .u8 (l[p % l.length]'(Nat.mod_lt _ hpos)).toNat] := rfl
    rw [he1] at e1
    have hx : (l[p % l.length]'(Nat.mod_lt _ hpos)).toNat < 256 := UInt8.toNat_lt _
    generalize (l[p % l.length]'(Nat.mod_lt _ hpos)).toNat = x at *
    have hk : (p : Int) * 7 + 3 = ((p * 7 + 3 : Nat) : Int) := by omega
    simp (disch := omega) only [walk, lists, acts, mem, plain, seqs, maps, cells, resL, resV, intBin, ↓reduceIte, Nat.reduceAdd, Nat.reduceSub, Nat.reduceMul, Nat.reduceLeDiff, Nat.reduceEqDiff, Int.reduceToNat, Int.reduceEq, Int.reduceLT, Int.reduceLE, Int.reduceNeg, Int.reduceAdd, Int.reduceSub, Int.reduceMul, Nat.reducePow, Int.reduceNegSucc, w_rdr, rb.len, hl0, tmodN', hread_1 e1, wrapI, hk]
    refine idx_in (i := (p * 7 + 3) % l.length) eB_len rM rfl (Nat.mod_lt _ hpos) fun b2 o2 e2 => ?_
    have he2 : eB (l[(p * 7 + 3) % l.length]'(Nat.mod_lt _ hpos)) = [.int .u8 (l[(p * 7 + 3) % l.length]'(Nat.mod_lt _ hpos)).toNat] := rfl
    rw [he2] at e2
    have hy : (l[(p * 7 + 3) % l.length]'(Nat.mod_lt _ hpos)).toNat < 256 := UInt8.toNat_lt _
    generalize (l[(p * 7 + 3) % l.length]'(Nat.mod_lt _ hpos)).toNat = y at *
    have hd : p / l.length ≤ p := Nat.div_le_self _ _
    simp only [walk, lists, acts, mem, plain, seqs, maps, cells, resL, resV, intBin, ↓reduceIte, Nat.reduceAdd, Nat.reduceSub, Nat.reduceMul, Nat.reduceLeDiff, Nat.reduceEqDiff, Int.reduceToNat, Int.reduceEq, Int.reduceLT, Int.reduceLE, Int.reduceNeg, Int.reduceAdd, Int.reduceSub, Int.reduceMul, Nat.reducePow, Int.reduceNegSucc, w_rdr, rb.len, hl0, tdivN', hread_1 e2]
    generalize p / l.length = z at *
    have hX : (x : Int) * 131 + (y : Int) * 1117 + (p : Int) * 29 + (z : Int) * 53 = ((x * 131 + y * 1117 + p * 29 + z * 53 : Nat) : Int) := by omega
    have hXb : x * 131 + y * 1117 + p * 29 + z * 53 < 1125899906842624 := by omega
    simp (disch := omega) only [wrapI]
    rw [hX]
    generalize x * 131 + y * 1117 + p * 29 + z * 53 = X at *
    obtain ⟨c, hc, hcx⟩ := xor64 X (X / 64) hXb (by omega)
    have hn0 : ¬ n = 0 := by omega
    have h64 : ((X : Nat) : Int).tdiv 64 = ((X / 64 : Nat) : Int) := rfl
    simp (disch := omega) only [h64, wrapI, hcx, hn0, walk, lists, acts, mem, plain, seqs, maps, cells, resL, resV, intBin, ↓reduceIte, Nat.reduceAdd, Nat.reduceSub, Nat.reduceMul, Nat.reduceLeDiff, Nat.reduceEqDiff, Int.reduceToNat, Int.reduceEq, Int.reduceLT, Int.reduceLE, Int.reduceNeg, Int.reduceAdd, Int.reduceSub, Int.reduceMul, Nat.reducePow, Int.reduceNegSucc]
    have tm := tmodN c n (by omega)
    exact .of (k _ tm.1 (fun _ => tm.2) fun x => by omega)

/-- What is open for drawing: a reader in a block of its own. -/
theorem open_c {h : H} {b : Value} {l : List UInt8} (r : rIn h eB 1 b l) (hl : l.length ≤ 1048576) {R : Ending → H → Prop}
    (k : ∀ j bv (m : List UInt8), hget h j = none → rIn h eB 1 bv m → m.length ≤ 1048576 → R (.returned (.pointer (some ⟨j, 0, none⟩))) ((j, blk (rdr bv 0) 67) :: h)) :
    HCalls Tryz.prog 23 #[b] h R := by
  refine HCalls_ir (args := [b]) Tryz.func23 ir23 ?_
  simp only [walk, lists, acts, mem, plain, seqs, maps, cells, resL, resV, intBin, ↓reduceIte, Nat.reduceAdd, Nat.reduceSub, Nat.reduceMul, Nat.reduceLeDiff, Nat.reduceEqDiff, Int.reduceToNat, Int.reduceEq, Int.reduceLT, Int.reduceLE, Int.reduceNeg, Int.reduceAdd, Int.reduceSub, Int.reduceMul, Nat.reducePow, Int.reduceNegSucc, r.len]
  have one := r.one
  refine ite_lt (fun c => ?_) fun c => ?_
  · rcases r with r | ⟨rfl, _⟩
    · refine slc_pre eB_len r (by omega) (by omega) fun v' r' => ?_
      have one := rLs.one r'
      have vc := vcells_one one
      simp only [walk, lists, acts, mem, plain, seqs, maps, cells, resL, resV, intBin, ↓reduceIte, Nat.reduceAdd, Nat.reduceSub, Nat.reduceMul, Nat.reduceLeDiff, Nat.reduceEqDiff, Int.reduceToNat, Int.reduceEq, Int.reduceLT, Int.reduceLE, Int.reduceNeg, Int.reduceAdd, Int.reduceSub, Int.reduceMul, Nat.reducePow, Int.reduceNegSucc, vc]
      refine newB_intro (o := blk (rdr v' 0) 67) fun j hj => ?_
      simp only [walk, lists, acts, mem, plain, seqs, maps, cells, resL, resV, intBin, ↓reduceIte, Nat.reduceAdd, Nat.reduceSub, Nat.reduceMul, Nat.reduceLeDiff, Nat.reduceEqDiff, Int.reduceToNat, Int.reduceEq, Int.reduceLT, Int.reduceLE, Int.reduceNeg, Int.reduceAdd, Int.reduceSub, Int.reduceMul, Nat.reducePow, Int.reduceNegSucc]
      exact .of (k j v' _ hj (.inl r') (by rw [List.length_take]; omega))
    · simp at c
  · have vc := vcells_one one
    simp only [walk, lists, acts, mem, plain, seqs, maps, cells, resL, resV, intBin, ↓reduceIte, Nat.reduceAdd, Nat.reduceSub, Nat.reduceMul, Nat.reduceLeDiff, Nat.reduceEqDiff, Int.reduceToNat, Int.reduceEq, Int.reduceLT, Int.reduceLE, Int.reduceNeg, Int.reduceAdd, Int.reduceSub, Int.reduceMul, Nat.reducePow, Int.reduceNegSucc, vc]
    refine newB_intro (o := blk (rdr b 0) 67) fun j hj => ?_
    simp only [walk, lists, acts, mem, plain, seqs, maps, cells, resL, resV, intBin, ↓reduceIte, Nat.reduceAdd, Nat.reduceSub, Nat.reduceMul, Nat.reduceLeDiff, Nat.reduceEqDiff, Int.reduceToNat, Int.reduceEq, Int.reduceLT, Int.reduceLE, Int.reduceNeg, Int.reduceAdd, Int.reduceSub, Int.reduceMul, Nat.reducePow, Int.reduceNegSucc]
    exact .of (k j b l hj r hl)

theorem of_c {h : H} {j p : Nat} {bv : Value} {l : List UInt8} {lv : Value} {ts : List (List UInt8)} (hj : hget h j = none) (rb : rIn h eB 1 bv l) (hl : l.length ≤ 1048576) (hp : p ≤ 1099511627776) (rt : rLs h eT 1 lv ts) (h1 : 0 < ts.length) (h2 : ts.length ≤ 1000000) {R : Ending → H → Prop}
    (k : ∀ t ∈ ts, R (.returned (.string ⟨t.toArray⟩)) ((j, blk (rdr bv (p + 1)) 67) :: h)) :
    HCalls Tryz.prog 43 #[.pointer (some ⟨j, 0, none⟩), lv] ((j, blk (rdr bv p) 67) :: h) R := by
  refine HCalls_ir (args := [.pointer (some ⟨j, 0, none⟩), lv]) Tryz.func43 ir43 ?_
  have sj := fun o => Sub.cons (o := o) hj (Sub.refl h)
  simp only [walk, lists, acts, mem, plain, seqs, maps, cells, resL, resV, intBin, ↓reduceIte, Nat.reduceAdd, Nat.reduceSub, Nat.reduceMul, Nat.reduceLeDiff, Nat.reduceEqDiff, Int.reduceToNat, Int.reduceEq, Int.reduceLT, Int.reduceLE, Int.reduceNeg, Int.reduceAdd, Int.reduceSub, Int.reduceMul, Nat.reducePow, Int.reduceNegSucc, rt.len]
  refine pick_c hj rb hl hp (by omega) fun x hx0 hx1 _ => ?_
  simp only [walk, lists, acts, mem, plain, seqs, maps, cells, resL, resV, intBin, ↓reduceIte, Nat.reduceAdd, Nat.reduceSub, Nat.reduceMul, Nat.reduceLeDiff, Nat.reduceEqDiff, Int.reduceToNat, Int.reduceEq, Int.reduceLT, Int.reduceLE, Int.reduceNeg, Int.reduceAdd, Int.reduceSub, Int.reduceMul, Nat.reducePow, Int.reduceNegSucc]
  have hxl := hx1 (by omega)
  refine idx_leaf (i := x.toNat) eT_len (rt.sub (sj (blk (rdr bv (p + 1)) 67))) (by omega) (by omega) fun b o e => ?_
  simp only [eT] at e
  simp only [walk, lists, acts, mem, plain, seqs, maps, cells, resL, resV, intBin, ↓reduceIte, Nat.reduceAdd, Nat.reduceSub, Nat.reduceMul, Nat.reduceLeDiff, Nat.reduceEqDiff, Int.reduceToNat, Int.reduceEq, Int.reduceLT, Int.reduceLE, Int.reduceNeg, Int.reduceAdd, Int.reduceSub, Int.reduceMul, Nat.reducePow, Int.reduceNegSucc, hread_1 e]
  exact .of (k _ (List.getElem_mem _))

def eLk (i : Int) : List Value := [.int .i64 i, .slice none 0 0, .slice none 0 0]
theorem eLk_len (i : Int) : (eLk i).length = 3 := rfl
theorem eLk_one (l : List Int) : (fl eLk l).all vone = true := by induction l <;> simp_all [fl, eLk, vone]
/-- Cells of which nothing is known. -/
def Raw (n : Nat) := {cs : List Value // cs.length = n ∧ cs.all vone = true}
def eR (n : Nat) (a : Raw n) : List Value := a.1
theorem eR_len (n : Nat) (a : Raw n) : (eR n a).length = n := a.2.1
theorem eR_one (n : Nat) (l : List (Raw n)) : (fl (eR n) l).all vone = true := by
  induction l with
  | nil => rfl
  | cons a l ih => rw [fl_cons, List.all_append, ih, show (eR n a).all vone = true from a.2.2]; rfl
theorem tLocks : Tryz.prog.underlying 125 = some (.slice 163) := by kernel_rfl
theorem iLock : InfoIs Tryz.prog 163 3 56 := infoB_is (by kernel_rfl)
theorem tHouses : Tryz.prog.underlying 101 = some (.slice 128) := by kernel_rfl
theorem iHouse : InfoIs Tryz.prog 128 6 96 := infoB_is (by kernel_rfl)

theorem locks_c {h : H} {R : Ending → H → Prop} (k : ∀ v, vone v = true → R (.returned v) h) : HCalls Tryz.prog 98 #[] h R := by
  refine HCalls_ir (args := []) Tryz.func98 ir98 ?_
  simp only [walk, lists, acts, mem, plain, seqs, maps, cells, resL, resV, intBin, ↓reduceIte, Nat.reduceAdd, Nat.reduceSub, Nat.reduceMul, Nat.reduceLeDiff, Nat.reduceEqDiff, Int.reduceToNat, Int.reduceEq, Int.reduceLT, Int.reduceLE, Int.reduceNeg, Int.reduceAdd, Int.reduceSub, Int.reduceMul, Nat.reducePow, Int.reduceNegSucc]
  refine newB_intro (o := blk (fl eLk []) 163) fun j hj => ?_
  simp only [walk, lists, acts, mem, plain, seqs, maps, cells, resL, resV, intBin, ↓reduceIte, Nat.reduceAdd, Nat.reduceSub, Nat.reduceMul, Nat.reduceLeDiff, Nat.reduceEqDiff, Int.reduceToNat, Int.reduceEq, Int.reduceLT, Int.reduceLE, Int.reduceNeg, Int.reduceAdd, Int.reduceSub, Int.reduceMul, Nat.reducePow, Int.reduceNegSucc]
  have o1 : oLs 163 eLk 3 (.slice (some ⟨j, 0, none⟩) 0 0) [] [(j, blk (fl eLk []) 163)] := oLs_new eLk_len
  refine vc_loop [1, 2] (fun n vs h' => ∃ (i : Nat) (v' : Value) (l : List Int) (g : H), vs = [v', .int .i64 i] ∧ h' = g ++ h ∧ Dj g h ∧ oLs 163 eLk 3 v' l g ∧ l.length = i ∧ i ≤ 8 ∧ n = 8 - i) 8 rfl ⟨0, _, [], _, rfl, rfl, Dj.one hj, o1, rfl, by omega, rfl⟩ ?_
  rintro n f h' ⟨i, v', l, g, hv, rfl, dj, o, hl, hi, rfl⟩
  simp only [List.map_cons, List.map_nil, List.cons.injEq, and_true] at hv
  simp only [walk, lists, acts, mem, plain, seqs, maps, cells, resL, resV, intBin, ↓reduceIte, Nat.reduceAdd, Nat.reduceSub, Nat.reduceMul, Nat.reduceLeDiff, Nat.reduceEqDiff, Int.reduceToNat, Int.reduceEq, Int.reduceLT, Int.reduceLE, Int.reduceNeg, Int.reduceAdd, Int.reduceSub, Int.reduceMul, Nat.reducePow, Int.reduceNegSucc, wr, hv.1, hv.2]
  refine ite_lt (fun c => ?_) fun c => ?_
  · refine newB_intro (o := blk (fl eLk [(i : Int)]) 163) fun j2 hj2 => ?_
    simp only [walk, lists, acts, mem, plain, seqs, maps, cells, resL, resV, intBin, ↓reduceIte, Nat.reduceAdd, Nat.reduceSub, Nat.reduceMul, Nat.reduceLeDiff, Nat.reduceEqDiff, Int.reduceToNat, Int.reduceEq, Int.reduceLT, Int.reduceLE, Int.reduceNeg, Int.reduceAdd, Int.reduceSub, Int.reduceMul, Nat.reducePow, Int.reduceNegSucc]
    refine app_leaf (g := g) (h := h) (M := (j2, blk (fl eLk [(i : Int)]) 163) :: (g ++ h)) eLk_len eLk_one tLocks iLock (Sub.cons hj2 (Sub.refl _)) dj o (rL_lit eLk_len [(i : Int)]) (by simp; omega) (by simp; omega) fun v2 g2 o2 d2 => ?_
    simp (disch := omega) only [walk, lists, acts, mem, plain, seqs, maps, cells, resL, resV, intBin, ↓reduceIte, Nat.reduceAdd, Nat.reduceSub, Nat.reduceMul, Nat.reduceLeDiff, Nat.reduceEqDiff, Int.reduceToNat, Int.reduceEq, Int.reduceLT, Int.reduceLE, Int.reduceNeg, Int.reduceAdd, Int.reduceSub, Int.reduceMul, Nat.reducePow, Int.reduceNegSucc, wrapI]
    exact ⟨8 - (i + 1), by omega, _, .refl _, i + 1, v2, _, g2, by simp, rfl, d2, o2, by simp [hl], by omega, rfl⟩
  · exact ⟨h, Sub.right dj, k v' o.rd.one⟩

theorem houseStart_c {h : H} {i : Int} {R : Ending → H → Prop} (k : ∀ cs : List Value, cs.length = 6 → cs.all vone = true → R (.returned (.agg cs.toArray)) h) : HCalls Tryz.prog 81 #[.int .i64 i] h R := by
  refine HCalls_ir (args := [.int .i64 i]) Tryz.func81 ir81 ?_
  simp only [walk, lists, acts, mem, plain, seqs, maps, cells, resL, resV, intBin, ↓reduceIte, Nat.reduceAdd, Nat.reduceSub, Nat.reduceMul, Nat.reduceLeDiff, Nat.reduceEqDiff, Int.reduceToNat, Int.reduceEq, Int.reduceLT, Int.reduceLE, Int.reduceNeg, Int.reduceAdd, Int.reduceSub, Int.reduceMul, Nat.reducePow, Int.reduceNegSucc]
  refine newB_intro fun j hj => ?_
  have sj := fun o => Sub.cons (o := o) hj (Sub.refl h)
  simp only [walk, lists, acts, mem, plain, seqs, maps, cells, resL, resV, intBin, ↓reduceIte, Nat.reduceAdd, Nat.reduceSub, Nat.reduceMul, Nat.reduceLeDiff, Nat.reduceEqDiff, Int.reduceToNat, Int.reduceEq, Int.reduceLT, Int.reduceLE, Int.reduceNeg, Int.reduceAdd, Int.reduceSub, Int.reduceMul, Nat.reducePow, Int.reduceNegSucc]
  refine l12House_c fun b hb => ?_
  simp only [walk, lists, acts, mem, plain, seqs, maps, cells, resL, resV, intBin, ↓reduceIte, Nat.reduceAdd, Nat.reduceSub, Nat.reduceMul, Nat.reduceLeDiff, Nat.reduceEqDiff, Int.reduceToNat, Int.reduceEq, Int.reduceLT, Int.reduceLE, Int.reduceNeg, Int.reduceAdd, Int.reduceSub, Int.reduceMul, Nat.reducePow, Int.reduceNegSucc]
  refine ite_f (fun e => ?_) fun e => ?_
  · exact ⟨h, sj _, k _ rfl rfl⟩
  · refine locks_c fun v ov => ?_
    have vc := vcells_one ov
    simp only [walk, lists, acts, mem, plain, seqs, maps, cells, resL, resV, intBin, ↓reduceIte, Nat.reduceAdd, Nat.reduceSub, Nat.reduceMul, Nat.reduceLeDiff, Nat.reduceEqDiff, Int.reduceToNat, Int.reduceEq, Int.reduceLT, Int.reduceLE, Int.reduceNeg, Int.reduceAdd, Int.reduceSub, Int.reduceMul, Nat.reducePow, Int.reduceNegSucc, vc, ov]
    exact ⟨h, sj _, k _ rfl (by simp only [cells, ov])⟩

theorem gateStart_c {h : H} {R : Ending → H → Prop} (k : R (.returned (.agg [.bool true, .int .i64 1, .int .i64 1, .slice none 0 0, .slice none 0 0, .slice none 0 0].toArray)) h) : HCalls Tryz.prog 80 #[] h R := by
  refine HCalls_ir (args := []) Tryz.func80 ir80 ?_
  simp only [walk, lists, acts, mem, plain, seqs, maps, cells, resL, resV, intBin, ↓reduceIte, Nat.reduceAdd, Nat.reduceSub, Nat.reduceMul, Nat.reduceLeDiff, Nat.reduceEqDiff, Int.reduceToNat, Int.reduceEq, Int.reduceLT, Int.reduceLE, Int.reduceNeg, Int.reduceAdd, Int.reduceSub, Int.reduceMul, Nat.reducePow, Int.reduceNegSucc]
  refine newB_intro fun j hj => ?_
  simp only [walk, lists, acts, mem, plain, seqs, maps, cells, resL, resV, intBin, ↓reduceIte, Nat.reduceAdd, Nat.reduceSub, Nat.reduceMul, Nat.reduceLeDiff, Nat.reduceEqDiff, Int.reduceToNat, Int.reduceEq, Int.reduceLT, Int.reduceLE, Int.reduceNeg, Int.reduceAdd, Int.reduceSub, Int.reduceMul, Nat.reducePow, Int.reduceNegSucc]
  exact ⟨h, Sub.cons hj (Sub.refl h), k⟩

theorem splice_all {z cs : List Value} (h : cs.length = z.length) : splice z 0 cs = cs := by
  rw [splice_eq _ _ _ (by omega), h]; simp
def wb (v : Value) : List Value := [.int .i64 0, .bool true, .int .i64 1, .int .i64 1, .slice none 0 0, .slice none 0 0, .slice none 0 0, v, .slice none 0 0, .slice none 0 0]
theorem w_wb : (∀ v, (wb v).length = 10) ∧ (∀ v, (wb v)[7]? = some v) ∧ (∀ v w, splice (wb v) 7 [w] = wb w) ∧ (∀ v, ((wb v).drop 0).take 10 = wb v) ∧ (∀ v, (wb v).take 10 = wb v) ∧ (∀ v, (wb v).all vone = vone v) :=
  ⟨fun _ => rfl, fun _ => rfl, fun _ _ => rfl, fun _ => rfl, fun _ => rfl, fun v => by simp only [wb, cells]; cases vone v <;> rfl⟩
theorem tollStart_c {h : H} {R : Ending → H → Prop} (k : ∀ cs : List Value, cs.length = 10 → cs.all vone = true → R (.returned (.agg cs.toArray)) h) : HCalls Tryz.prog 65 #[] h R := by
  refine HCalls_ir (args := []) Tryz.func65 ir65 ?_
  simp only [walk, lists, acts, mem, plain, seqs, maps, cells, resL, resV, intBin, ↓reduceIte, Nat.reduceAdd, Nat.reduceSub, Nat.reduceMul, Nat.reduceLeDiff, Nat.reduceEqDiff, Int.reduceToNat, Int.reduceEq, Int.reduceLT, Int.reduceLE, Int.reduceNeg, Int.reduceAdd, Int.reduceSub, Int.reduceMul, Nat.reducePow, Int.reduceNegSucc]
  refine newB_intro fun j hj => ?_
  simp only [walk, lists, acts, mem, plain, seqs, maps, cells, resL, resV, intBin, ↓reduceIte, Nat.reduceAdd, Nat.reduceSub, Nat.reduceMul, Nat.reduceLeDiff, Nat.reduceEqDiff, Int.reduceToNat, Int.reduceEq, Int.reduceLT, Int.reduceLE, Int.reduceNeg, Int.reduceAdd, Int.reduceSub, Int.reduceMul, Nat.reducePow, Int.reduceNegSucc]
  refine gateStart_c ?_
  simp only [walk, lists, acts, mem, plain, seqs, maps, cells, resL, resV, intBin, ↓reduceIte, Nat.reduceAdd, Nat.reduceSub, Nat.reduceMul, Nat.reduceLeDiff, Nat.reduceEqDiff, Int.reduceToNat, Int.reduceEq, Int.reduceLT, Int.reduceLE, Int.reduceNeg, Int.reduceAdd, Int.reduceSub, Int.reduceMul, Nat.reducePow, Int.reduceNegSucc]
  refine newB_intro fun j2 hj2 => ?_
  have n2 := fresh hj2
  simp only [walk, lists, acts, mem, plain, seqs, maps, cells, resL, resV, intBin, ↓reduceIte, Nat.reduceAdd, Nat.reduceSub, Nat.reduceMul, Nat.reduceLeDiff, Nat.reduceEqDiff, Int.reduceToNat, Int.reduceEq, Int.reduceLT, Int.reduceLE, Int.reduceNeg, Int.reduceAdd, Int.reduceSub, Int.reduceMul, Nat.reducePow, Int.reduceNegSucc]
  obtain ⟨Z, hZ⟩ : ∃ Z : List Value, Z = [.int .i64 0, .bool false, .int .i64 0, .int .i64 0, .slice none 0 0, .slice none 0 0, .slice none 0 0, .slice none 0 0, .slice none 0 0, .slice none 0 0] := ⟨_, rfl⟩
  have hZl : Z.length = 10 := by rw [hZ]; rfl
  obtain ⟨N, hN⟩ : ∃ N, N = Value.slice none 0 0 := ⟨_, rfl⟩
  refine vc_loop [2] (fun n vs h' => ∃ (i : Nat) (v' : Value) (l : List (Raw 6)) (g : H), vs = [.int .i64 i] ∧ h' = g ++ ((j2, blk (wb v') 105) :: (j, blk Z 105) :: h) ∧ (∀ q, Dj g ((j2, blk (wb q) 105) :: (j, blk Z 105) :: h)) ∧ oLs 128 (eR 6) 6 v' l g ∧ l.length = i ∧ i ≤ 3 ∧ n = 3 - i) 3 rfl ⟨0, .slice none 0 0, [], [], rfl, by rw [hZ]; rfl, fun q => Dj.nil _, ows.nil _ _, rfl, by omega, rfl⟩ ?_
  rintro n f h' ⟨i, v', l, g, hv, rfl, dj, o, hl, hi, rfl⟩
  simp only [List.map_cons, List.map_nil, List.cons.injEq, and_true] at hv
  have d1 := dj v'
  have d2 := d1.symm
  simp only [subs] at d1 d2
  have ov := o.rd.one
  simp only [walk, lists, acts, mem, plain, seqs, maps, cells, resL, resV, intBin, ↓reduceIte, Nat.reduceAdd, Nat.reduceSub, Nat.reduceMul, Nat.reduceLeDiff, Nat.reduceEqDiff, Int.reduceToNat, Int.reduceEq, Int.reduceLT, Int.reduceLE, Int.reduceNeg, Int.reduceAdd, Int.reduceSub, Int.reduceMul, Nat.reducePow, Int.reduceNegSucc, wr, hv]
  refine ite_lt (fun c => ?_) fun c => ?_
  · refine vc_draw ((j2, blk (wb v') 105) :: (j, blk Z 105) :: h) (Sub.right (dj _)) ?_
    simp only [walk, lists, acts, mem, plain, seqs, maps, cells, resL, resV, intBin, ↓reduceIte, Nat.reduceAdd, Nat.reduceSub, Nat.reduceMul, Nat.reduceLeDiff, Nat.reduceEqDiff, Int.reduceToNat, Int.reduceEq, Int.reduceLT, Int.reduceLE, Int.reduceNeg, Int.reduceAdd, Int.reduceSub, Int.reduceMul, Nat.reducePow, Int.reduceNegSucc, w_wb]
    have sR := Sub.right (dj v')
    refine ⟨sR, houseStart_c fun cs hc1 hc2 => ?_⟩
    simp only [walk, lists, acts, mem, plain, seqs, maps, cells, resL, resV, intBin, ↓reduceIte, Nat.reduceAdd, Nat.reduceSub, Nat.reduceMul, Nat.reduceLeDiff, Nat.reduceEqDiff, Int.reduceToNat, Int.reduceEq, Int.reduceLT, Int.reduceLE, Int.reduceNeg, Int.reduceAdd, Int.reduceSub, Int.reduceMul, Nat.reducePow, Int.reduceNegSucc, sR, hc1]
    rw [splice_all (by rw [hc1]; rfl)]
    refine newB_intro (o := blk cs 128) fun j3 hj3 => ?_
    have sR3 := eq_true (Sub.cons (o := blk cs 128) hj3 sR)
    simp only [walk, lists, acts, mem, plain, seqs, maps, cells, resL, resV, intBin, ↓reduceIte, Nat.reduceAdd, Nat.reduceSub, Nat.reduceMul, Nat.reduceLeDiff, Nat.reduceEqDiff, Int.reduceToNat, Int.reduceEq, Int.reduceLT, Int.reduceLE, Int.reduceNeg, Int.reduceAdd, Int.reduceSub, Int.reduceMul, Nat.reducePow, Int.reduceNegSucc, sR3]
    obtain ⟨rc, hrc⟩ : ∃ rc : Raw 6, eR 6 rc = cs := ⟨⟨cs, hc1, hc2⟩, rfl⟩
    have hone : fl (eR 6) [rc] = cs := (fl_one _ _).trans hrc
    have r3 : rLs ((j3, blk cs 128) :: (g ++ ((j2, blk (wb v') 105) :: (j, blk Z 105) :: h))) (eR 6) 6 (.slice (some ⟨j3, 0, none⟩) 1 1) [rc] := by
      have := rL_lit (j := j3) (e := 128) (h := g ++ ((j2, blk (wb v') 105) :: (j, blk Z 105) :: h)) (eR_len 6) [rc]
      rw [hone] at this; exact this
    refine app_leaf (g := g) (h := (j2, blk (wb v') 105) :: (j, blk Z 105) :: h) (eR_len 6) (eR_one 6) tHouses iHouse (Sub.cons hj3 (Sub.refl _)) (dj _) o r3 (by simp; omega) (by simp; omega) fun v2 g2 o2 d3 => ?_
    have d3x := d3
    simp only [subs] at d3x
    have o2v := o2.rd.one
    have vc2 := vcells_one o2v
    simp only [walk, lists, acts, mem, plain, seqs, maps, cells, resL, resV, intBin, ↓reduceIte, Nat.reduceAdd, Nat.reduceSub, Nat.reduceMul, Nat.reduceLeDiff, Nat.reduceEqDiff, Int.reduceToNat, Int.reduceEq, Int.reduceLT, Int.reduceLE, Int.reduceNeg, Int.reduceAdd, Int.reduceSub, Int.reduceMul, Nat.reducePow, Int.reduceNegSucc, Sub.right d3, apps, d3x, w_wb, o2v, vc2]
    simp (disch := omega) only [walk, lists, acts, mem, plain, seqs, maps, cells, resL, resV, intBin, ↓reduceIte, Nat.reduceAdd, Nat.reduceSub, Nat.reduceMul, Nat.reduceLeDiff, Nat.reduceEqDiff, Int.reduceToNat, Int.reduceEq, Int.reduceLT, Int.reduceLE, Int.reduceNeg, Int.reduceAdd, Int.reduceSub, Int.reduceMul, Nat.reducePow, Int.reduceNegSucc, wrapI]
    refine ⟨3 - (i + 1), by omega, _, .refl _, i + 1, v2, _, g2, by simp, rfl, fun q => by simp only [subs, d3x], o2, by simp [hl], by omega, rfl⟩
  · have z10 : splice Z 0 (wb v') = wb v' := splice_all (by rw [hZl]; rfl)
    simp only [walk, lists, acts, mem, plain, seqs, maps, cells, resL, resV, intBin, ↓reduceIte, Nat.reduceAdd, Nat.reduceSub, Nat.reduceMul, Nat.reduceLeDiff, Nat.reduceEqDiff, Int.reduceToNat, Int.reduceEq, Int.reduceLT, Int.reduceLE, Int.reduceNeg, Int.reduceAdd, Int.reduceSub, Int.reduceMul, Nat.reducePow, Int.reduceNegSucc, apps, d1, w_wb, hZl, n2.1, n2.2.1, z10, ov]
    exact ⟨h, by (repeat' first | exact Sub.refl _ | exact Sub.nil _ | assumption | refine Sub.both ?_ ?_ | refine Sub.cons_of (by simp only [subs, d1, d2, hj, n2]) ?_ | exact Sub.left _ _ | refine Sub.app (by simp only [subs, d1, d2, hj, n2]) ?_ | refine Sub.cons (by simp only [subs, d1, d2, hj, n2]) ?_), k _ rfl (by rw [w_wb.2.2.2.2.2]; exact ov)⟩
end Go.Proofs.YtfkkjjballajaaaGreatDoor
end

/- Steps of drawing in any order. -/
section
set_option linter.unusedVariables false
set_option linter.unusedSimpArgs false
set_option maxRecDepth 20000
namespace Go.Proofs.YtfkkjjballajaaaGreatDoor
open Go Go.Tk

def qI (a b : Int) : H → Value → Prop := fun _ v => ∃ n : Int, v = .int .i64 n ∧ a ≤ n ∧ n ≤ b
def qZ : H → Value → Prop := fun _ v => ∃ n : Int, v = .int .i64 n
def qV (w : Value) : H → Value → Prop := fun _ v => v = w
def qB : H → Value → Prop := fun _ v => ∃ b : Bool, v = .bool b
def qS (T len : Nat) : H → Value → Prop := fun x v => ∃ (j : Nat) (l : List Int), v = .slice (some ⟨j, 0, none⟩) len len ∧ l.length = len ∧ hget x j = some (blk (fl eI l) T)
def qP : H → Value → Prop := fun x v => ∃ (b o : Nat) (n : Int), v = .pointer (some ⟨b, o, none⟩) ∧ hread x b o 1 = some [.int .i64 n]
def qN (rest : H) (jr T : Nat) (l : List Value) : H → Value → Prop := fun x v => ∃ j : Nat, v = .pointer (some ⟨j, 0, none⟩) ∧ hget x j = some (blk l T) ∧ hget rest j = none ∧ j ≠ jr
def mono (q : H → Value → Prop) : Prop := ∀ g g' v, Tk.Sub g g' → q g v → q g' v
theorem mono_qI (a b : Int) : mono (qI a b) := fun _ _ _ _ h => h
theorem mono_qZ : mono qZ := fun _ _ _ _ h => h
theorem mono_qV (w : Value) : mono (qV w) := fun _ _ _ _ h => h
theorem mono_qB : mono qB := fun _ _ _ _ h => h
theorem mono_qS (T len : Nat) : mono (qS T len) := fun _ _ _ s ⟨j, l, a, b, c⟩ => ⟨j, l, a, b, s _ _ c⟩
theorem mono_qP : mono qP := fun _ _ _ s ⟨b, o, n, h1, h2⟩ => ⟨b, o, n, h1, hread_sub s h2⟩
theorem mono_qN (rest : H) (jr T : Nat) (l : List Value) : mono (qN rest jr T l) := fun _ _ _ s ⟨j, a, b, c⟩ => ⟨j, a, s _ _ b, c⟩

theorem ndr : (nds [] = []) ∧ (∀ d g i l, nds (⟨some d, g, i⟩ :: l) = d :: nds l) ∧ (∀ g i l, nds (⟨none, g, i⟩ :: l) = nds l) := ⟨rfl, fun _ _ _ _ => rfl, fun _ _ _ => rfl⟩
def qSt : H → Value → Prop := fun _ v => ∃ s : DStatement, v = .agg (cStatement s).toArray
theorem mono_qSt : mono qSt := fun _ _ _ _ h => h
/-- What is kept while drawing: the reader, and a part that grows. -/
def memR (jr : Nat) (bv : Value) (p P : Nat) : Nat → H → H → Prop := fun m h g => ∃ q, Tk.Sub ((jr, blk (rdr bv q) 67) :: g) h ∧ hget g jr = none ∧ q + m ≤ P ∧ p ≤ q
theorem memR.sub {jr : Nat} {bv : Value} {p P m : Nat} {h g : H} (x : memR jr bv p P m h g) : Tk.Sub g h := by
  obtain ⟨q, s, hn, _⟩ := x
  exact (Sub.cons hn (Sub.refl g)).trans s
theorem memR.next {jr : Nat} {bv : Value} {p P m : Nat} {h g : H} (x : memR jr bv p P (m + 1) h g) : memR jr bv p P m h g := by
  obtain ⟨q, s, hn, h1, h2⟩ := x
  exact ⟨q, s, hn, by omega, h2⟩

section
variable {jr p P : Nat} {bv : Value} {rest : H} {ρ : (Nat → Value) → Operand → Value} {D : H → (Nat → Value) → Prop} {q : H → Value → Prop}

theorem sA_mov {x : Operand} (k : ∀ f g, Tk.Sub rest g → D g f → q g (ρ f x)) : stA Tryz.prog (memR jr bv p P) q rest ρ D (.mov x) :=
  fun m f h g hm hs hd => ⟨g, hm.next, Sub.refl _, k f g hs hd⟩
theorem sA_nilc {x : Operand} (k : ∀ f g, Tk.Sub rest g → D g f → ∃ a, ρ f x = .pointer (some a) ∧ q g (.pointer (some a))) : stA Tryz.prog (memR jr bv p P) q rest ρ D (.nilc x) := fun m f h g hm hs hd => by
  obtain ⟨a, e, hq⟩ := k f g hs hd
  show (match ρ f x with | .pointer (some a) => _ | .func (.func f) fi ca => _ | _ => _)
  rw [e]
  exact ⟨g, hm.next, Sub.refl _, hq⟩
theorem sA_fld {x : Operand} {off : Nat} (k : ∀ f g, Tk.Sub rest g → D g f → ∃ b o, ρ f x = .pointer (some ⟨b, o, none⟩) ∧ q g (.pointer (some ⟨b, o + off, none⟩))) : stA Tryz.prog (memR jr bv p P) q rest ρ D (.fld x off) := fun m f h g hm hs hd => by
  obtain ⟨b, o, e, hq⟩ := k f g hs hd
  show (match ρ f x with | .pointer (some ⟨b, k, none⟩) => _ | _ => _)
  rw [e]
  exact ⟨g, hm.next, Sub.refl _, hq⟩
theorem sA_load {x : Operand} (k : ∀ f g, Tk.Sub rest g → D g f → ∃ b o v, ρ f x = .pointer (some ⟨b, o, none⟩) ∧ hcel g b o = some v ∧ q g v) : stA Tryz.prog (memR jr bv p P) q rest ρ D (.load x 1 false) := fun m f h g hm hs hd => by
  obtain ⟨b, o, v, e, hc, hq⟩ := k f g hs hd
  show (match ρ f x with | .pointer (some ⟨b, k, none⟩) => (match hval h b k 1 false with | some v => _ | none => False) | _ => False)
  rw [e]
  have : hval h b o 1 false = some v := hcel_sub hm.sub hc
  simp only [this]
  exact ⟨g, hm.next, Sub.refl _, hq⟩
theorem sA_bin {op : BinOp} {t : TypeId} {x y : Operand} (k : ∀ f g, Tk.Sub rest g → D g f → ∃ (a b : Int) (v : Value), ρ f x = .int .i64 a ∧ ρ f y = .int .i64 b ∧ intBin op .i64 a b = some v ∧ q g v) : stA Tryz.prog (memR jr bv p P) q rest ρ D (.bin op t x y) := fun m f h g hm hs hd => by
  obtain ⟨a, b, v, e1, e2, hv, hq⟩ := k f g hs hd
  show vop _ _ _ _ _ _
  unfold vop
  simp only [e1, e2, hv]
  exact ⟨.inl trivial, g, hm.next, Sub.refl _, hq⟩
theorem sA_pick {l : List UInt8} (rb : rIn rest eB 1 bv l) (hl : l.length ≤ 1048576) (hP : P ≤ 1099511627776) {x y : Operand} {n : Int} (hn : 1 ≤ n ∧ n ≤ 1000000) (k : ∀ f g, Tk.Sub rest g → D g f → ρ f x = .pointer (some ⟨jr, 0, none⟩) ∧ ρ f y = .int .i64 n) (hq : ∀ g m, 0 ≤ m → m < n → q g (.int .i64 m)) :
    stA Tryz.prog (memR jr bv p P) q rest ρ D (.call 42 [x, y]) := fun m f h g hm hs hd => by
  obtain ⟨e1, e2⟩ := k f g hs hd
  obtain ⟨r, s, hj, h1, h2⟩ := hm
  show HCalls _ _ _ _ _
  simp only [List.map_cons, List.map_nil, e1, e2]
  refine (pick_c hj (rb.sub hs) hl (by omega) (by omega) fun z hz0 hz1 _ => ?_).weaken s
  exact ⟨g, ⟨r + 1, Sub.refl _, hj, by omega, by omega⟩, Sub.refl _, hq g z hz0 (hz1 hn.1)⟩
theorem sA_ints {e len : Nat} {ps : List (Nat × Nat × Operand)} (k : ∀ f g, Tk.Sub rest g → D g f → ∃ l : List Int, l.length = len ∧ fillL (zrep [.int .i64 0] len) (ps.map fun p => (p.1, p.2.1, vcells (ρ f p.2.2))) = some (fl eI l)) :
    stA Tryz.prog (memR jr bv p P) (qS e len) rest ρ D (.bslice e [.int .i64 0] len ps) := fun m f h g hm hs hd => by
  obtain ⟨l, hl, hf⟩ := k f g hs hd
  show vop _ _ _ _ _ _
  unfold vop
  simp only [hf]
  intro j hj
  obtain ⟨r, s, hr, h1, h2⟩ := hm
  have hjg : hget ((jr, blk (rdr bv r) 67) :: g) j = none := s.none' hj
  have n := fresh hjg
  refine ⟨(j, blk (fl eI l) e) :: g, ⟨r, ?_, ?_, by omega, h2⟩, Sub.cons n.2.2 (Sub.refl _), j, l, rfl, hl, hget_same _ _ _⟩
  · have e1 : hget h jr = some (blk (rdr bv r) 67) := s _ _ (hget_same _ _ _)
    refine Sub.cons_of ?_ (Sub.cons2 ((Sub.cons hr (Sub.refl g)).trans s))
    rw [hget_next _ _ _ n.1]; exact e1
  · simp only [subs, n.1, hr]
theorem sA_idx {x i : Operand} (k : ∀ f g, Tk.Sub rest g → D g f → ∃ (T len j : Nat) (l : List Int) (n : Int), ρ f x = .slice (some ⟨j, 0, none⟩) len len ∧ l.length = len ∧ hget g j = some (blk (fl eI l) T) ∧ ρ f i = .int .i64 n ∧ 0 ≤ n ∧ n < len) :
    stA Tryz.prog (memR jr bv p P) qP rest ρ D (.idxS x i 1) := fun m f h g hm hs hd => by
  obtain ⟨T, len, j, l, n, e1, hl, hg, e2, h0, h1⟩ := k f g hs hd
  show vop _ _ _ _ _ _
  unfold vop
  simp only [e1, e2]
  refine ⟨⟨h0, h1⟩, g, hm.next, Sub.refl _, j, 0 + n.toNat * 1, l[n.toNat]'(by omega), rfl, ?_⟩
  unfold hread
  rw [hg]
  simp only [Option.bind_some, rdObj_blk]
  have hf := fl_len eI_len l
  rw [if_pos (by omega), Nat.zero_add]
  have := fl_at (enc := eI) (sz := 1) eI_len (l := l) (i := n.toNat) (by omega)
  rw [this]; rfl
theorem sA_build {z : List Value} {ps : List (Nat × Nat × Operand)} (k : ∀ f g, Tk.Sub rest g → D g f → ∃ l, fillL z (ps.map fun p => (p.1, p.2.1, vcells (ρ f p.2.2))) = some l ∧ q g (.agg l.toArray)) : stA Tryz.prog (memR jr bv p P) q rest ρ D (.build z ps) := fun m f h g hm hs hd => by
  obtain ⟨l, hf, hq⟩ := k f g hs hd
  show vop _ _ _ _ _ _
  unfold vop
  simp only [hf]
  exact ⟨g, hm.next, Sub.refl _, hq⟩
theorem sA_alloc {e : Nat} {z : List Value} : stA Tryz.prog (memR jr bv p P) (qN rest jr e z) rest ρ D (.alloc e z) := fun m f h g hm hs hd => by
  show ∀ j, hget h j = none → _
  intro j hj
  obtain ⟨r, s, hr, h1, h2⟩ := hm
  have hjg : hget ((jr, blk (rdr bv r) 67) :: g) j = none := s.none' hj
  have n := fresh hjg
  refine ⟨(j, blk z e) :: g, ⟨r, ?_, ?_, by omega, h2⟩, Sub.cons n.2.2 (Sub.refl _), j, rfl, hget_same _ _ _, hs.none' n.2.2, n.2.1⟩
  · have e1 : hget h jr = some (blk (rdr bv r) 67) := s _ _ (hget_same _ _ _)
    refine Sub.cons_of ?_ (Sub.cons2 ((Sub.cons hr (Sub.refl g)).trans s))
    rw [hget_next _ _ _ n.1]; exact e1
  · simp only [subs, n.1, hr]
end
end Go.Proofs.YtfkkjjballajaaaGreatDoor
end

/- What is drawn of deals. -/
section
set_option linter.unusedVariables false
set_option linter.unusedSimpArgs false
set_option maxRecDepth 20000
attribute [local irreducible] Go.Tk.vc Go.Tk.vops Go.Tk.vdr Go.Tk.vop Go.Tk.vfl Go.Tk.HCalls
namespace Go.Proofs.YtfkkjjballajaaaGreatDoor
open Go Go.Tk

theorem sim_c {h : H} {r : Value} (hr : vone r = true) {R : Ending → H → Prop} (k : ∀ (j : Nat) (S : List Value), hget h j = none → R (.returned (.pointer (some ⟨j, 0, none⟩))) ((j, blk (r :: S) 109) :: h)) : HCalls Tryz.prog 40 #[r] h R := by
  refine HCalls_ir (args := [r]) Tryz.func40 ir40 ?_
  have vc := vcells_one hr
  simp only [walk, lists, acts, mem, plain, seqs, maps, cells, resL, resV, intBin, ↓reduceIte, Nat.reduceAdd, Nat.reduceSub, Nat.reduceMul, Nat.reduceLeDiff, Nat.reduceEqDiff, Int.reduceToNat, Int.reduceEq, Int.reduceLT, Int.reduceLE, Int.reduceNeg, Int.reduceAdd, Int.reduceSub, Int.reduceMul, Nat.reducePow, Int.reduceNegSucc]
  refine tollStart_c fun cs h1 h2 => ?_
  simp only [walk, lists, acts, mem, plain, seqs, maps, cells, resL, resV, intBin, ↓reduceIte, Nat.reduceAdd, Nat.reduceSub, Nat.reduceMul, Nat.reduceLeDiff, Nat.reduceEqDiff, Int.reduceToNat, Int.reduceEq, Int.reduceLT, Int.reduceLE, Int.reduceNeg, Int.reduceAdd, Int.reduceSub, Int.reduceMul, Nat.reducePow, Int.reduceNegSucc, vc, h1]
  refine newB_intro fun j hj => ?_
  simp only [walk, lists, acts, mem, plain, seqs, maps, cells, resL, resV, intBin, ↓reduceIte, Nat.reduceAdd, Nat.reduceSub, Nat.reduceMul, Nat.reduceLeDiff, Nat.reduceEqDiff, Int.reduceToNat, Int.reduceEq, Int.reduceLT, Int.reduceLE, Int.reduceNeg, Int.reduceAdd, Int.reduceSub, Int.reduceMul, Nat.reducePow, Int.reduceNegSucc]
  exact .of (k j _ hj)

theorem deal_c {h : H} {js jr p : Nat} {bv : Value} {l : List UInt8} (hs : hcel h js 0 = some (.pointer (some ⟨jr, 0, none⟩))) (hne : js ≠ jr) (hj : hget h jr = none) (rb : rIn h eB 1 bv l) (hl : l.length ≤ 1048576) (hp : p ≤ 549755813888) {R : Ending → H → Prop}
    (k : ∀ v g ds (p' : Nat), oLs 40 cStatement 3 v ds g → Dj g ((jr, blk (rdr bv p') 67) :: h) → (1 ≤ ds.length ∧ ds.length ≤ 4) → p ≤ p' → p' ≤ p + 200 → R (.returned v) (g ++ ((jr, blk (rdr bv p') 67) :: h))) :
    HCalls Tryz.prog 66 #[.pointer (some ⟨js, 0, none⟩)] ((jr, blk (rdr bv p) 67) :: h) R := by
  refine HCalls_ir (args := [.pointer (some ⟨js, 0, none⟩)]) Tryz.func66 ir66 ?_
  have zs := zStatement_eq
  have hsj := fun o => hcel_sub (Sub.cons (o := o) hj (Sub.refl h)) hs
  simp only [walk, lists, acts, mem, plain, seqs, maps, cells, resL, resV, intBin, ↓reduceIte, Nat.reduceAdd, Nat.reduceSub, Nat.reduceMul, Nat.reduceLeDiff, Nat.reduceEqDiff, Int.reduceToNat, Int.reduceEq, Int.reduceLT, Int.reduceLE, Int.reduceNeg, Int.reduceAdd, Int.reduceSub, Int.reduceMul, Nat.reducePow, Int.reduceNegSucc, zs]
  refine newB_intro (o := blk (fl cStatement []) 40) fun j1 hj1 => ?_
  have n1 := fresh hj1
  have hs1 : ∀ o o2, hcel ((j1, o) :: (jr, o2) :: h) js 0 = some (.pointer (some ⟨jr, 0, none⟩)) := fun o o2 => by
    refine hcel_sub (Sub.cons (o := o) ?_ (Sub.refl ((jr, o2) :: h))) (hsj _)
    simp only [subs, n1]
  simp only [walk, lists, acts, mem, plain, seqs, maps, cells, resL, resV, intBin, ↓reduceIte, Nat.reduceAdd, Nat.reduceSub, Nat.reduceMul, Nat.reduceLeDiff, Nat.reduceEqDiff, Int.reduceToNat, Int.reduceEq, Int.reduceLT, Int.reduceLE, Int.reduceNeg, Int.reduceAdd, Int.reduceSub, Int.reduceMul, Nat.reducePow, Int.reduceNegSucc, zs, hs1]
  refine (pick_c (p := p) (h := (j1, blk (fl cStatement []) 40) :: h) (by simp only [subs, n1, hj]) (rb.sub (Sub.cons n1.2.2 (Sub.refl _))) hl (by omega) (by omega) fun x hx0 hx1 _ => ?_).weaken (by (repeat' first | exact Sub.refl _ | exact Sub.nil _ | assumption | refine Sub.both ?_ ?_ | refine Sub.cons_of (by simp only [subs, n1, hj]) ?_ | exact Sub.left _ _ | refine Sub.app (by simp only [subs, n1, hj]) ?_ | refine Sub.cons (by simp only [subs, n1, hj]) ?_))
  have hx := hx1 (by omega)
  simp (disch := omega) only [walk, lists, acts, mem, plain, seqs, maps, cells, resL, resV, intBin, ↓reduceIte, Nat.reduceAdd, Nat.reduceSub, Nat.reduceMul, Nat.reduceLeDiff, Nat.reduceEqDiff, Int.reduceToNat, Int.reduceEq, Int.reduceLT, Int.reduceLE, Int.reduceNeg, Int.reduceAdd, Int.reduceSub, Int.reduceMul, Nat.reducePow, Int.reduceNegSucc, wrapI]
  have o1 : oLs 40 cStatement 3 (.slice (some ⟨j1, 0, none⟩) 0 0) [] [(j1, blk (fl cStatement []) 40)] := oLs_new cStatement_len
  have hm : (1 : Int) + x = (((1 + x).toNat : Nat) : Int) := by omega
  refine vc_loopS (g0 := (j1, blk (fl cStatement []) 40) :: (jr, blk (rdr bv (p + 1)) 67) :: h) [3, 4] (fun n vs h' => ∃ (m : Nat) (v' : Value) (ds : List DStatement) (g : H) (p' : Nat), vs = [v', .int .i64 m] ∧ h' = g ++ ((jr, blk (rdr bv p') 67) :: h) ∧ Dj g ((jr, blk (rdr bv p') 67) :: h) ∧ oLs 40 cStatement 3 v' ds g ∧ (1 ≤ ds.length + m ∧ ds.length + m ≤ 4) ∧ p' + 40 * m ≤ p + 161 ∧ p ≤ p' ∧ n = m) (1 + x).toNat rfl (by (repeat' first | exact Sub.refl _ | exact Sub.nil _ | assumption | refine Sub.both ?_ ?_ | refine Sub.cons_of (by simp only [subs, n1, hj]) ?_ | exact Sub.left _ _ | refine Sub.app (by simp only [subs, n1, hj]) ?_ | refine Sub.cons (by simp only [subs, n1, hj]) ?_))
    ⟨(1 + x).toNat, .slice (some ⟨j1, 0, none⟩) 0 0, [], [(j1, blk (fl cStatement []) 40)], p + 1, by show [Value.slice (some ⟨j1, 0, none⟩) 0 0, Value.int IntKind.i64 (1 + x)] = _; rw [← hm], rfl, Dj.one (by simp only [subs, n1]), o1, by simp only [List.length_nil]; omega, by omega, by omega, rfl⟩ ?_
  rintro n f h' ⟨m, v', ds, g, p', hv, rfl, dj, o, hlen, hpp, hpp2, rfl⟩
  simp only [List.map_cons, List.map_nil, List.cons.injEq, and_true] at hv
  have d1 := dj
  have d2 := dj.symm
  simp only [subs] at d1 d2
  simp only [walk, lists, acts, mem, plain, seqs, maps, cells, resL, resV, intBin, ↓reduceIte, Nat.reduceAdd, Nat.reduceSub, Nat.reduceMul, Nat.reduceLeDiff, Nat.reduceEqDiff, Int.reduceToNat, Int.reduceEq, Int.reduceLT, Int.reduceLE, Int.reduceNeg, Int.reduceAdd, Int.reduceSub, Int.reduceMul, Nat.reducePow, Int.reduceNegSucc, wr, hv.1, hv.2, zs]
  refine ite_lt (fun c => ?_) fun c => ?_
  · have HS : ∀ x, Tk.Sub (g ++ h) x → hcel x js 0 = some (.pointer (some ⟨jr, 0, none⟩)) := fun x hx => hcel_sub ((Sub.right d1.2).trans hx) hs
    have rbR : rIn (g ++ h) eB 1 bv l := rb.sub (Sub.right d1.2)
    have pj : ∀ x, Tk.Sub (g ++ h) x → ∀ v, v = Value.pointer (some ⟨js, 0, none⟩) → ∃ b o w, v = Value.pointer (some ⟨b, o, none⟩) ∧ hcel x b o = some w ∧ qV (.pointer (some ⟨jr, 0, none⟩)) x w := fun x hx v e => ⟨js, 0, _, e, HS x hx, rfl⟩
    refine vc_anyR (memR jr bv p (p' + 22)) [qV (.pointer (some ⟨js, 0, none⟩)), qV (.pointer (some ⟨js, 0, none⟩)), qV (.pointer (some ⟨js, 0, none⟩)), qV (.pointer (some ⟨jr, 0, none⟩)), qI 0 3, qI 1 4,
      qV (.pointer (some ⟨js, 0, none⟩)), qV (.pointer (some ⟨js, 0, none⟩)), qV (.pointer (some ⟨js, 0, none⟩)), qV (.pointer (some ⟨jr, 0, none⟩)), qI 0 31, qS 3 7,
      qV (.pointer (some ⟨js, 0, none⟩)), qV (.pointer (some ⟨js, 0, none⟩)), qV (.pointer (some ⟨js, 0, none⟩)), qV (.pointer (some ⟨jr, 0, none⟩)), qI 0 6, qP, qZ, qSt, qN (g ++ h) jr 40 (cStatement zStatement)] (g ++ h) ?_ ⟨p', by (repeat' first | exact Sub.refl _ | exact Sub.nil _ | assumption | refine Sub.both ?_ ?_ | refine Sub.cons_of (by simp only [subs, d1, d2, hj]) ?_ | exact Sub.left _ _ | refine Sub.app (by simp only [subs, d1, d2, hj]) ?_ | refine Sub.cons (by simp only [subs, d1, d2, hj]) ?_), by simp only [subs, d1, hj], by simp, hpp2⟩ rfl fun ρ hi ho hc => ?_
    · repeat' first | exact fun _ h => absurd h List.not_mem_nil | refine List.forall_mem_cons.2 ⟨?_, ?_⟩ | exact mono_qV _ | exact mono_qI _ _ | exact mono_qS _ _ | exact mono_qP | exact mono_qZ | exact mono_qSt | exact mono_qN _ _ _ _
    simp only [anysR, ndr, maps, lists, plain, Nat.reduceAdd]
    have hP : p' + 22 ≤ 1099511627776 := by omega
    refine ⟨sA_mov fun f g _ _ => ho f 0 rfl, sA_nilc fun f g _ hd => ⟨_, (hi f 17 rfl).trans hd, rfl⟩, sA_fld fun f g _ hd => ⟨_, _, (hi f 18 rfl).trans hd, rfl⟩, sA_load fun f g hs hd => pj _ hs _ ((hi f 19 rfl).trans hd), sA_pick rbR hl hP (n := 4) ⟨by decide, by decide⟩ (fun f g _ hd => ⟨(hi f 20 rfl).trans hd, hc f _⟩) fun g m h0 h1 => ⟨m, rfl, h0, by omega⟩,
      sA_bin fun f g _ hd => ?_,
      sA_mov fun f g _ _ => ho f 0 rfl, sA_nilc fun f g _ hd => ⟨_, (hi f 23 rfl).trans hd, rfl⟩, sA_fld fun f g _ hd => ⟨_, _, (hi f 24 rfl).trans hd, rfl⟩, sA_load fun f g hs hd => pj _ hs _ ((hi f 25 rfl).trans hd), sA_pick rbR hl hP (n := 32) ⟨by decide, by decide⟩ (fun f g _ hd => ⟨(hi f 26 rfl).trans hd.1, hc f _⟩) fun g m h0 h1 => ⟨m, rfl, h0, by omega⟩,
      sA_ints fun f g _ hd => ?_,
      sA_mov fun f g _ _ => ho f 0 rfl, sA_nilc fun f g _ hd => ⟨_, (hi f 29 rfl).trans hd, rfl⟩, sA_fld fun f g _ hd => ⟨_, _, (hi f 30 rfl).trans hd, rfl⟩, sA_load fun f g hs hd => pj _ hs _ ((hi f 31 rfl).trans hd), sA_pick rbR hl hP (n := 7) ⟨by decide, by decide⟩ (fun f g _ hd => ⟨(hi f 32 rfl).trans hd.1, hc f _⟩) fun g m h0 h1 => ⟨m, rfl, h0, by omega⟩,
      sA_idx fun f g _ hd => ?_, sA_load fun f g _ hd => ?_, sA_build fun f g _ hd => ?_, sA_alloc, ?_⟩
    · obtain ⟨n, e, h0, h1⟩ := hd
      exact ⟨1, n, .int .i64 (IntKind.i64.wrap (1 + n)), hc f _, (hi f 21 rfl).trans e, rfl, 1 + n, by rw [wrapI _ (by omega)], by omega, by omega⟩
    · obtain ⟨n, e, _⟩ := hd
      refine ⟨[0, 1, 4, 5, 8, 9, n], rfl, ?_⟩
      simp only [maps, hc, (hi f 27 rfl).trans e]
      rfl
    · obtain ⟨⟨j, l, e, hl, hg⟩, n, e2, h0, h1⟩ := hd
      exact ⟨_, 7, j, l, n, (hi f 28 rfl).trans e, hl, hg, (hi f 33 rfl).trans e2, h0, by omega⟩
    · obtain ⟨b, o, n, e, hr⟩ := hd
      exact ⟨b, o, _, (hi f 34 rfl).trans e, hread_1 hr, n, rfl⟩
    · obtain ⟨⟨a, ea, _⟩, b, eb⟩ := hd
      refine ⟨cStatement ⟨a, b, 0⟩, ?_, _, rfl⟩
      simp only [maps, (hi f 22 rfl).trans ea, (hi f 35 rfl).trans eb]
      rfl
    · intro m2 f2 h2 g2 hm hs2 hd
      obtain ⟨-, -, -, -, -, -, -, -, -, -, -, -, -, -, -, -, -, -, -, ⟨st, est⟩, j5, e5, hg5, hn5, hne5⟩ := hd
      obtain ⟨q, hsub, hq0, hq1, hq2⟩ := hm
      simp only [subs] at hn5
      have m5 : j5 ≠ jr ∧ jr ≠ j5 := ⟨hne5, Ne.symm hne5⟩
      have hlt : q ≤ p' + 21 := by omega
      refine ⟨(j5, blk (cStatement zStatement) 40) :: (g ++ ((jr, blk (rdr bv q) 67) :: h)), ?_, ?_⟩
      · have A : Tk.Sub ((jr, blk (rdr bv q) 67) :: (j5, blk (cStatement zStatement) 40) :: (g ++ h)) h2 := (Sub.cons2 (Sub.cons_of hg5 hs2)).trans hsub
        exact Tk.Sub.trans (by (repeat' first | exact Sub.refl _ | exact Sub.nil _ | assumption | refine Sub.both ?_ ?_ | refine Sub.cons_of (by simp only [subs, d1, d2, hj, m5, hn5]) ?_ | exact Sub.left _ _ | refine Sub.app (by simp only [subs, d1, d2, hj, m5, hn5]) ?_ | refine Sub.cons (by simp only [subs, d1, d2, hj, m5, hn5]) ?_)) A
      have H5 : hcel ((j5, blk (cStatement st) 40) :: (g ++ ((jr, blk (rdr bv q) 67) :: h))) js 0 = some (.pointer (some ⟨jr, 0, none⟩)) := hcel_sub (by (repeat' first | exact Sub.refl _ | exact Sub.nil _ | assumption | refine Sub.both ?_ ?_ | refine Sub.cons_of (by simp only [subs, d1, d2, hj, m5, hn5]) ?_ | exact Sub.left _ _ | refine Sub.app (by simp only [subs, d1, d2, hj, m5, hn5]) ?_ | refine Sub.cons (by simp only [subs, d1, d2, hj, m5, hn5]) ?_)) hs
      simp only [walk, lists, acts, mem, plain, seqs, maps, cells, resL, resV, intBin, ↓reduceIte, Nat.reduceAdd, Nat.reduceSub, Nat.reduceMul, Nat.reduceLeDiff, Nat.reduceEqDiff, Int.reduceToNat, Int.reduceEq, Int.reduceLT, Int.reduceLE, Int.reduceNeg, Int.reduceAdd, Int.reduceSub, Int.reduceMul, Nat.reducePow, Int.reduceNegSucc, wr, hi f2 5 rfl, hi f2 36 rfl, est, e5, wStatement]
      refine ite_pos (fun c2 => ?_) fun c2 => ?_
      · simp only [walk, lists, acts, mem, plain, seqs, maps, cells, resL, resV, intBin, ↓reduceIte, Nat.reduceAdd, Nat.reduceSub, Nat.reduceMul, Nat.reduceLeDiff, Nat.reduceEqDiff, Int.reduceToNat, Int.reduceEq, Int.reduceLT, Int.reduceLE, Int.reduceNeg, Int.reduceAdd, Int.reduceSub, Int.reduceMul, Nat.reducePow, Int.reduceNegSucc, H5]
        refine (pick_c (p := q) (h := (j5, blk (cStatement st) 40) :: (g ++ h)) (by simp only [subs, d1, hj, m5]) ((rbR).sub (Sub.cons (by simp only [subs, hn5]) (Sub.refl _))) hl (by omega) (by omega) fun y hy0 hy1 _ => ?_).weaken (by (repeat' first | exact Sub.refl _ | exact Sub.nil _ | assumption | refine Sub.both ?_ ?_ | refine Sub.cons_of (by simp only [subs, d1, d2, hj, m5, hn5]) ?_ | exact Sub.left _ _ | refine Sub.app (by simp only [subs, d1, d2, hj, m5, hn5]) ?_ | refine Sub.cons (by simp only [subs, d1, d2, hj, m5, hn5]) ?_))
        have hy := hy1 (by omega)
        simp (disch := omega) only [walk, lists, acts, mem, plain, seqs, maps, cells, resL, resV, intBin, ↓reduceIte, Nat.reduceAdd, Nat.reduceSub, Nat.reduceMul, Nat.reduceLeDiff, Nat.reduceEqDiff, Int.reduceToNat, Int.reduceEq, Int.reduceLT, Int.reduceLE, Int.reduceNeg, Int.reduceAdd, Int.reduceSub, Int.reduceMul, Nat.reducePow, Int.reduceNegSucc, wrapI, m5, wStatement]
        refine newB_intro (o := blk (fl cStatement [{ st with num := y }]) 40) fun j9 hj9 => ?_
        simp only [subs] at hj9
        simp only [walk, lists, acts, mem, plain, seqs, maps, cells, resL, resV, intBin, ↓reduceIte, Nat.reduceAdd, Nat.reduceSub, Nat.reduceMul, Nat.reduceLeDiff, Nat.reduceEqDiff, Int.reduceToNat, Int.reduceEq, Int.reduceLT, Int.reduceLE, Int.reduceNeg, Int.reduceAdd, Int.reduceSub, Int.reduceMul, Nat.reducePow, Int.reduceNegSucc]
        refine app_leaf (g := g) (h := (jr, blk (rdr bv (q + 1)) 67) :: h) (M := (j9, blk (fl cStatement [{ st with num := y }]) 40) :: (jr, blk (rdr bv (q + 1)) 67) :: (j5, blk (cStatement { st with num := y }) 40) :: (g ++ h)) cStatement_len cStatement_one tStatements iStatement (by (repeat' first | exact Sub.refl _ | exact Sub.nil _ | assumption | refine Sub.both ?_ ?_ | refine Sub.cons_of (by simp only [subs, d1, d2, hj, hj9, m5, hn5]) ?_ | exact Sub.left _ _ | refine Sub.app (by simp only [subs, d1, d2, hj, hj9, m5, hn5]) ?_ | refine Sub.cons (by simp only [subs, d1, d2, hj, hj9, m5, hn5]) ?_)) (by simp only [subs, d1]) o (rL_lit cStatement_len [{ st with num := y }]) (by simp; omega) (by simp; omega) fun v2 g9 o9 d9 => ?_
        simp (disch := omega) only [walk, lists, acts, mem, plain, seqs, maps, cells, resL, resV, intBin, ↓reduceIte, Nat.reduceAdd, Nat.reduceSub, Nat.reduceMul, Nat.reduceLeDiff, Nat.reduceEqDiff, Int.reduceToNat, Int.reduceEq, Int.reduceLT, Int.reduceLE, Int.reduceNeg, Int.reduceAdd, Int.reduceSub, Int.reduceMul, Nat.reducePow, Int.reduceNegSucc, wrapI]
        exact ⟨n - 1, by omega, _, .refl _, n - 1, v2, _, g9, (q + 1), by simp; omega, rfl, d9, o9, by simp; omega, by omega, by omega, rfl⟩
      · refine ite_pos (fun c3 => ?_) fun c3 => ?_
        · simp only [walk, lists, acts, mem, plain, seqs, maps, cells, resL, resV, intBin, ↓reduceIte, Nat.reduceAdd, Nat.reduceSub, Nat.reduceMul, Nat.reduceLeDiff, Nat.reduceEqDiff, Int.reduceToNat, Int.reduceEq, Int.reduceLT, Int.reduceLE, Int.reduceNeg, Int.reduceAdd, Int.reduceSub, Int.reduceMul, Nat.reducePow, Int.reduceNegSucc, H5]
          refine (pick_c (p := q) (h := (j5, blk (cStatement st) 40) :: (g ++ h)) (by simp only [subs, d1, hj, m5]) ((rbR).sub (Sub.cons (by simp only [subs, hn5]) (Sub.refl _))) hl (by omega) (by omega) fun y hy0 hy1 _ => ?_).weaken (by (repeat' first | exact Sub.refl _ | exact Sub.nil _ | assumption | refine Sub.both ?_ ?_ | refine Sub.cons_of (by simp only [subs, d1, d2, hj, m5, hn5]) ?_ | exact Sub.left _ _ | refine Sub.app (by simp only [subs, d1, d2, hj, m5, hn5]) ?_ | refine Sub.cons (by simp only [subs, d1, d2, hj, m5, hn5]) ?_))
          have hy := hy1 (by omega)
          simp (disch := omega) only [walk, lists, acts, mem, plain, seqs, maps, cells, resL, resV, intBin, ↓reduceIte, Nat.reduceAdd, Nat.reduceSub, Nat.reduceMul, Nat.reduceLeDiff, Nat.reduceEqDiff, Int.reduceToNat, Int.reduceEq, Int.reduceLT, Int.reduceLE, Int.reduceNeg, Int.reduceAdd, Int.reduceSub, Int.reduceMul, Nat.reducePow, Int.reduceNegSucc, wrapI, m5, wStatement]
          refine newB_intro (o := blk (fl cStatement [{ st with num := y - 10 }]) 40) fun j9 hj9 => ?_
          simp only [subs] at hj9
          simp only [walk, lists, acts, mem, plain, seqs, maps, cells, resL, resV, intBin, ↓reduceIte, Nat.reduceAdd, Nat.reduceSub, Nat.reduceMul, Nat.reduceLeDiff, Nat.reduceEqDiff, Int.reduceToNat, Int.reduceEq, Int.reduceLT, Int.reduceLE, Int.reduceNeg, Int.reduceAdd, Int.reduceSub, Int.reduceMul, Nat.reducePow, Int.reduceNegSucc]
          refine app_leaf (g := g) (h := (jr, blk (rdr bv (q + 1)) 67) :: h) (M := (j9, blk (fl cStatement [{ st with num := y - 10 }]) 40) :: (jr, blk (rdr bv (q + 1)) 67) :: (j5, blk (cStatement { st with num := y - 10 }) 40) :: (g ++ h)) cStatement_len cStatement_one tStatements iStatement (by (repeat' first | exact Sub.refl _ | exact Sub.nil _ | assumption | refine Sub.both ?_ ?_ | refine Sub.cons_of (by simp only [subs, d1, d2, hj, hj9, m5, hn5]) ?_ | exact Sub.left _ _ | refine Sub.app (by simp only [subs, d1, d2, hj, hj9, m5, hn5]) ?_ | refine Sub.cons (by simp only [subs, d1, d2, hj, hj9, m5, hn5]) ?_)) (by simp only [subs, d1]) o (rL_lit cStatement_len [{ st with num := y - 10 }]) (by simp; omega) (by simp; omega) fun v2 g9 o9 d9 => ?_
          simp (disch := omega) only [walk, lists, acts, mem, plain, seqs, maps, cells, resL, resV, intBin, ↓reduceIte, Nat.reduceAdd, Nat.reduceSub, Nat.reduceMul, Nat.reduceLeDiff, Nat.reduceEqDiff, Int.reduceToNat, Int.reduceEq, Int.reduceLT, Int.reduceLE, Int.reduceNeg, Int.reduceAdd, Int.reduceSub, Int.reduceMul, Nat.reducePow, Int.reduceNegSucc, wrapI]
          exact ⟨n - 1, by omega, _, .refl _, n - 1, v2, _, g9, (q + 1), by simp; omega, rfl, d9, o9, by simp; omega, by omega, by omega, rfl⟩
        · refine ite_pos (fun c4 => ?_) fun c4 => ?_
          · simp only [walk, lists, acts, mem, plain, seqs, maps, cells, resL, resV, intBin, ↓reduceIte, Nat.reduceAdd, Nat.reduceSub, Nat.reduceMul, Nat.reduceLeDiff, Nat.reduceEqDiff, Int.reduceToNat, Int.reduceEq, Int.reduceLT, Int.reduceLE, Int.reduceNeg, Int.reduceAdd, Int.reduceSub, Int.reduceMul, Nat.reducePow, Int.reduceNegSucc, H5]
            refine (pick_c (p := q) (h := (j5, blk (cStatement st) 40) :: (g ++ h)) (by simp only [subs, d1, hj, m5]) ((rbR).sub (Sub.cons (by simp only [subs, hn5]) (Sub.refl _))) hl (by omega) (by omega) fun y hy0 hy1 _ => ?_).weaken (by (repeat' first | exact Sub.refl _ | exact Sub.nil _ | assumption | refine Sub.both ?_ ?_ | refine Sub.cons_of (by simp only [subs, d1, d2, hj, m5, hn5]) ?_ | exact Sub.left _ _ | refine Sub.app (by simp only [subs, d1, d2, hj, m5, hn5]) ?_ | refine Sub.cons (by simp only [subs, d1, d2, hj, m5, hn5]) ?_))
            have hy := hy1 (by omega)
            simp (disch := omega) only [walk, lists, acts, mem, plain, seqs, maps, cells, resL, resV, intBin, ↓reduceIte, Nat.reduceAdd, Nat.reduceSub, Nat.reduceMul, Nat.reduceLeDiff, Nat.reduceEqDiff, Int.reduceToNat, Int.reduceEq, Int.reduceLT, Int.reduceLE, Int.reduceNeg, Int.reduceAdd, Int.reduceSub, Int.reduceMul, Nat.reducePow, Int.reduceNegSucc, wrapI, m5, wStatement]
            refine newB_intro (o := blk (fl cStatement [{ st with num := y - 20 }]) 40) fun j9 hj9 => ?_
            simp only [subs] at hj9
            simp only [walk, lists, acts, mem, plain, seqs, maps, cells, resL, resV, intBin, ↓reduceIte, Nat.reduceAdd, Nat.reduceSub, Nat.reduceMul, Nat.reduceLeDiff, Nat.reduceEqDiff, Int.reduceToNat, Int.reduceEq, Int.reduceLT, Int.reduceLE, Int.reduceNeg, Int.reduceAdd, Int.reduceSub, Int.reduceMul, Nat.reducePow, Int.reduceNegSucc]
            refine app_leaf (g := g) (h := (jr, blk (rdr bv (q + 1)) 67) :: h) (M := (j9, blk (fl cStatement [{ st with num := y - 20 }]) 40) :: (jr, blk (rdr bv (q + 1)) 67) :: (j5, blk (cStatement { st with num := y - 20 }) 40) :: (g ++ h)) cStatement_len cStatement_one tStatements iStatement (by (repeat' first | exact Sub.refl _ | exact Sub.nil _ | assumption | refine Sub.both ?_ ?_ | refine Sub.cons_of (by simp only [subs, d1, d2, hj, hj9, m5, hn5]) ?_ | exact Sub.left _ _ | refine Sub.app (by simp only [subs, d1, d2, hj, hj9, m5, hn5]) ?_ | refine Sub.cons (by simp only [subs, d1, d2, hj, hj9, m5, hn5]) ?_)) (by simp only [subs, d1]) o (rL_lit cStatement_len [{ st with num := y - 20 }]) (by simp; omega) (by simp; omega) fun v2 g9 o9 d9 => ?_
            simp (disch := omega) only [walk, lists, acts, mem, plain, seqs, maps, cells, resL, resV, intBin, ↓reduceIte, Nat.reduceAdd, Nat.reduceSub, Nat.reduceMul, Nat.reduceLeDiff, Nat.reduceEqDiff, Int.reduceToNat, Int.reduceEq, Int.reduceLT, Int.reduceLE, Int.reduceNeg, Int.reduceAdd, Int.reduceSub, Int.reduceMul, Nat.reducePow, Int.reduceNegSucc, wrapI]
            exact ⟨n - 1, by omega, _, .refl _, n - 1, v2, _, g9, (q + 1), by simp; omega, rfl, d9, o9, by simp; omega, by omega, by omega, rfl⟩
          · refine newB_intro (o := blk (fl cStatement [st]) 40) fun j9 hj9 => ?_
            simp only [subs] at hj9
            simp only [walk, lists, acts, mem, plain, seqs, maps, cells, resL, resV, intBin, ↓reduceIte, Nat.reduceAdd, Nat.reduceSub, Nat.reduceMul, Nat.reduceLeDiff, Nat.reduceEqDiff, Int.reduceToNat, Int.reduceEq, Int.reduceLT, Int.reduceLE, Int.reduceNeg, Int.reduceAdd, Int.reduceSub, Int.reduceMul, Nat.reducePow, Int.reduceNegSucc]
            refine app_leaf (g := g) (h := (jr, blk (rdr bv q) 67) :: h) (M := (j9, blk (fl cStatement [st]) 40) :: (j5, blk (cStatement st) 40) :: (g ++ ((jr, blk (rdr bv q) 67) :: h))) cStatement_len cStatement_one tStatements iStatement (by (repeat' first | exact Sub.refl _ | exact Sub.nil _ | assumption | refine Sub.both ?_ ?_ | refine Sub.cons_of (by simp only [subs, d1, d2, hj, hj9, m5, hn5]) ?_ | exact Sub.left _ _ | refine Sub.app (by simp only [subs, d1, d2, hj, hj9, m5, hn5]) ?_ | refine Sub.cons (by simp only [subs, d1, d2, hj, hj9, m5, hn5]) ?_)) (by simp only [subs, d1]) o (rL_lit cStatement_len [st]) (by simp; omega) (by simp; omega) fun v2 g9 o9 d9 => ?_
            simp (disch := omega) only [walk, lists, acts, mem, plain, seqs, maps, cells, resL, resV, intBin, ↓reduceIte, Nat.reduceAdd, Nat.reduceSub, Nat.reduceMul, Nat.reduceLeDiff, Nat.reduceEqDiff, Int.reduceToNat, Int.reduceEq, Int.reduceLT, Int.reduceLE, Int.reduceNeg, Int.reduceAdd, Int.reduceSub, Int.reduceMul, Nat.reducePow, Int.reduceNegSucc, wrapI]
            exact ⟨n - 1, by omega, _, .refl _, n - 1, v2, _, g9, q, by simp; omega, rfl, d9, o9, by simp; omega, by omega, by omega, rfl⟩
  · exact .of (k v' g ds p' o dj (by omega) hpp2 (by omega))
end Go.Proofs.YtfkkjjballajaaaGreatDoor
end
