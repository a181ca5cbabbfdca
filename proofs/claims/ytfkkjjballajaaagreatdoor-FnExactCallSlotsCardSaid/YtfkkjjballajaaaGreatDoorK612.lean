/- Parts of the proof, put together: T2I, X3. -/
import Derived.Test.YtfkkjjballajaaaGreatDoorK68
import Derived.Test.YtfkkjjballajaaaGreatDoorK65
import Derived.Test.YtfkkjjballajaaaGreatDoorK611
/- What the laws compare and mark: slices of numbers, bytes, pairs. -/
section
set_option linter.unusedVariables false
set_option linter.unusedSimpArgs false
set_option maxRecDepth 20000
attribute [local irreducible] Go.Tk.vc Go.Tk.vops Go.Tk.vdr Go.Tk.vop Go.Tk.vfl Go.Tk.HCalls
namespace Go.Proofs.YtfkkjjballajaaaGreatDoor
open Go Go.Tk

theorem eqIntS_c {h : H} {a b : Value} {la lb : List Int} (ra : rInts h a la) (rb : rInts h b lb) (ha : la.length ≤ 1099511627776) {R : Ending → H → Prop} (k : R (.returned (.bool (decide (la = lb)))) h) :
    HCalls Tryz.prog 9 #[a, b] h R := by
  refine HCalls_ir (args := [a, b]) Tryz.func9 ir9 ?_
  simp only [walk, lists, acts, mem, plain, seqs, maps, cells, resL, resV, intBin, ↓reduceIte, Nat.reduceAdd, Nat.reduceSub, Nat.reduceMul, Nat.reduceLeDiff, Nat.reduceEqDiff, Int.reduceToNat, Int.reduceEq, Int.reduceLT, Int.reduceLE, Int.reduceNeg, Int.reduceAdd, Int.reduceSub, Int.reduceMul, Nat.reducePow, Int.reduceNegSucc, ra.len, rb.len]
  split
  · rename_i c
    have : la ≠ lb := fun e => c (by rw [e])
    simp only [this, decide_false] at k
    exact .of k
  · rename_i c
    have hl : la.length = lb.length := by omega
    refine vc_loop [5] (fun n vs h' => ∃ i : Nat, vs = [.int .i64 i] ∧ h' = h ∧ i ≤ la.length ∧ n = la.length - i ∧ la.take i = lb.take i) la.length rfl ⟨0, rfl, rfl, by omega, by omega, by simp⟩ ?_
    rintro n f h' ⟨i, hv, rfl, hi, rfl, ht⟩
    simp only [List.map_cons, List.map_nil, List.cons.injEq, and_true] at hv
    simp only [walk, lists, acts, mem, plain, seqs, maps, cells, resL, resV, intBin, ↓reduceIte, Nat.reduceAdd, Nat.reduceSub, Nat.reduceMul, Nat.reduceLeDiff, Nat.reduceEqDiff, Int.reduceToNat, Int.reduceEq, Int.reduceLT, Int.reduceLE, Int.reduceNeg, Int.reduceAdd, Int.reduceSub, Int.reduceMul, Nat.reducePow, Int.reduceNegSucc, wr, hv, ra.len, rb.len]
    split
    · rename_i c1
      refine vc_draw h' (Sub.refl _) ?_
      simp only [walk, lists, acts, mem, plain, seqs, maps, cells, resL, resV, intBin, ↓reduceIte, Nat.reduceAdd, Nat.reduceSub, Nat.reduceMul, Nat.reduceLeDiff, Nat.reduceEqDiff, Int.reduceToNat, Int.reduceEq, Int.reduceLT, Int.reduceLE, Int.reduceNeg, Int.reduceAdd, Int.reduceSub, Int.reduceMul, Nat.reducePow, Int.reduceNegSucc]
      refine idx_leaf (i := i) eI_len ra rfl (by omega) fun b1 o1 e1 => ?_
      simp only [walk, lists, acts, mem, plain, seqs, maps, cells, resL, resV, intBin, ↓reduceIte, Nat.reduceAdd, Nat.reduceSub, Nat.reduceMul, Nat.reduceLeDiff, Nat.reduceEqDiff, Int.reduceToNat, Int.reduceEq, Int.reduceLT, Int.reduceLE, Int.reduceNeg, Int.reduceAdd, Int.reduceSub, Int.reduceMul, Nat.reducePow, Int.reduceNegSucc, hread_1 e1]
      refine idx_leaf (i := i) eI_len rb rfl (by omega) fun b2 o2 e2 => ?_
      simp only [walk, lists, acts, mem, plain, seqs, maps, cells, resL, resV, intBin, ↓reduceIte, Nat.reduceAdd, Nat.reduceSub, Nat.reduceMul, Nat.reduceLeDiff, Nat.reduceEqDiff, Int.reduceToNat, Int.reduceEq, Int.reduceLT, Int.reduceLE, Int.reduceNeg, Int.reduceAdd, Int.reduceSub, Int.reduceMul, Nat.reducePow, Int.reduceNegSucc, hread_1 e2]
      split
      · rename_i d
        have : la ≠ lb := ne_at _ _ d
        simp only [this, decide_false] at k
        exact .of k
      · rename_i d
        simp (disch := omega) only [wrapI]
        exact ⟨la.length - (i + 1), by omega, h', .refl _, i + 1, by simp, rfl, by omega, rfl, take_more _ _ ht (by simpa using d)⟩
    · rename_i c1
      have := take_all (by omega) hl ht
      simp only [this, decide_true] at k
      exact .of k

theorem markIntS_c {e : TypeId} {g h0 : H} {v : Value} {l : List Int} {k : Int} (o : oLs e eI 1 v l g) (dj : Dj g h0) (hl : l.length ≤ 1099511627776) (hk : 0 ≤ k ∧ k ≤ 1099511627776000) {R : Ending → H → Prop}
    (kr : ∀ g', oLs e eI 1 v (mks k l.length) g' → Dj g' h0 → R (.returned (.int .i64 (k + l.length))) (g' ++ h0)) :
    HCalls Tryz.prog 10 #[v, .int .i64 k] (g ++ h0) R := by
  refine HCalls_ir (args := [v, .int .i64 k]) Tryz.func10 ir10 ?_
  simp only [walk, lists, acts, mem, plain, seqs, maps, cells, resL, resV, intBin, ↓reduceIte, Nat.reduceAdd, Nat.reduceSub, Nat.reduceMul, Nat.reduceLeDiff, Nat.reduceEqDiff, Int.reduceToNat, Int.reduceEq, Int.reduceLT, Int.reduceLE, Int.reduceNeg, Int.reduceAdd, Int.reduceSub, Int.reduceMul, Nat.reducePow, Int.reduceNegSucc]
  refine vc_loop [5, 1] (fun n vs h' => ∃ (i : Nat) (g' : H), vs = [.int .i64 i, .int .i64 (k + i)] ∧ h' = g' ++ h0 ∧ Dj g' h0 ∧ oLs e eI 1 v (mks k i ++ l.drop i) g' ∧ i ≤ l.length ∧ n = l.length - i) l.length rfl ⟨0, g, by simp, rfl, dj, by simpa [mks] using o, by omega, rfl⟩ ?_
  rintro n f h' ⟨i, g', hv, rfl, dj', o', hi, rfl⟩
  simp only [List.map_cons, List.map_nil, List.cons.injEq, and_true] at hv
  have hll : (mks k i ++ l.drop i).length = l.length := by simp [mks_len]; omega
  have hlen : ∀ {f : Value → Prop}, lenSK v f = f (.int .i64 l.length) := fun {f} => by rw [← hll]; exact o'.rd.len
  simp only [walk, lists, acts, mem, plain, seqs, maps, cells, resL, resV, intBin, ↓reduceIte, Nat.reduceAdd, Nat.reduceSub, Nat.reduceMul, Nat.reduceLeDiff, Nat.reduceEqDiff, Int.reduceToNat, Int.reduceEq, Int.reduceLT, Int.reduceLE, Int.reduceNeg, Int.reduceAdd, Int.reduceSub, Int.reduceMul, Nat.reducePow, Int.reduceNegSucc, wr, hv.1, hv.2, hlen]
  split
  · rename_i c1
    refine own_idx (i := i) eI_len o' rfl (by omega) fun b cap sp hv' hc hs hg => ?_
    subst hg
    simp only [walk, lists, acts, mem, plain, seqs, maps, cells, resL, resV, intBin, ↓reduceIte, Nat.reduceAdd, Nat.reduceSub, Nat.reduceMul, Nat.reduceLeDiff, Nat.reduceEqDiff, Int.reduceToNat, Int.reduceEq, Int.reduceLT, Int.reduceLE, Int.reduceNeg, Int.reduceAdd, Int.reduceSub, Int.reduceMul, Nat.reducePow, Int.reduceNegSucc]
    refine st_own (i := i) (a' := k + i) (off := 0) eI_len (by omega) (by omega) rfl (by omega) rfl ?_
    simp only [walk, lists, acts, mem, plain, seqs, maps, cells, resL, resV, intBin, ↓reduceIte, Nat.reduceAdd, Nat.reduceSub, Nat.reduceMul, Nat.reduceLeDiff, Nat.reduceEqDiff, Int.reduceToNat, Int.reduceEq, Int.reduceLT, Int.reduceLE, Int.reduceNeg, Int.reduceAdd, Int.reduceSub, Int.reduceMul, Nat.reducePow, Int.reduceNegSucc]
    simp (disch := omega) only [wrapI]
    refine ⟨l.length - (i + 1), by omega, _, .refl _, i + 1, _, ?_, rfl, dj'.sub (.refl _) (.refl _) |> fun d => Dj.one d.one', ?_, by omega, rfl⟩
    · simp; omega
    · rw [← mks_set k l i (by omega)]; exact own_set eI_len hv' hc hs
  · rename_i c1
    have hi' : i = l.length := by omega
    subst hi'
    simp only [List.drop_length, List.append_nil] at o'
    exact .of (kr g' o' dj')

theorem heldIntS_c {h : H} {v : Value} {l : List Int} {k : Int} (r : rInts h v l) (hm : l = mks k l.length) (hl : l.length ≤ 1099511627776) (hk : 0 ≤ k ∧ k ≤ 1099511627776000) {R : Ending → H → Prop}
    (kr : R (.returned (.int .i64 (k + l.length))) h) : HCalls Tryz.prog 11 #[v, .int .i64 k] h R := by
  refine HCalls_ir (args := [v, .int .i64 k]) Tryz.func11 ir11 ?_
  simp only [walk, lists, acts, mem, plain, seqs, maps, cells, resL, resV, intBin, ↓reduceIte, Nat.reduceAdd, Nat.reduceSub, Nat.reduceMul, Nat.reduceLeDiff, Nat.reduceEqDiff, Int.reduceToNat, Int.reduceEq, Int.reduceLT, Int.reduceLE, Int.reduceNeg, Int.reduceAdd, Int.reduceSub, Int.reduceMul, Nat.reducePow, Int.reduceNegSucc]
  refine vc_loop [5, 1] (fun n vs h' => ∃ (i : Nat), vs = [.int .i64 i, .int .i64 (k + i)] ∧ h' = h ∧ i ≤ l.length ∧ n = l.length - i) l.length rfl ⟨0, by simp, rfl, by omega, rfl⟩ ?_
  rintro n f h' ⟨i, hv, rfl, hi, rfl⟩
  simp only [List.map_cons, List.map_nil, List.cons.injEq, and_true] at hv
  simp only [walk, lists, acts, mem, plain, seqs, maps, cells, resL, resV, intBin, ↓reduceIte, Nat.reduceAdd, Nat.reduceSub, Nat.reduceMul, Nat.reduceLeDiff, Nat.reduceEqDiff, Int.reduceToNat, Int.reduceEq, Int.reduceLT, Int.reduceLE, Int.reduceNeg, Int.reduceAdd, Int.reduceSub, Int.reduceMul, Nat.reducePow, Int.reduceNegSucc, wr, hv.1, hv.2, r.len]
  split
  · rename_i c1
    refine idx_leaf (i := i) eI_len r rfl (by omega) fun b1 o1 e1 => ?_
    have hx : l[i]'(by omega) = k + i := by
      have : ∀ (m : List Int) (hi : i < m.length), m = mks k l.length → m[i] = k + i := by rintro m hi rfl; exact mks_at _ _ _ _
      exact this l _ hm
    rw [hx] at e1
    simp only [walk, lists, acts, mem, plain, seqs, maps, cells, resL, resV, intBin, ↓reduceIte, Nat.reduceAdd, Nat.reduceSub, Nat.reduceMul, Nat.reduceLeDiff, Nat.reduceEqDiff, Int.reduceToNat, Int.reduceEq, Int.reduceLT, Int.reduceLE, Int.reduceNeg, Int.reduceAdd, Int.reduceSub, Int.reduceMul, Nat.reducePow, Int.reduceNegSucc, hread_1 e1]
    simp (disch := omega) only [wrapI]
    exact ⟨l.length - (i + 1), by omega, h', .refl _, i + 1, by simp; omega, rfl, by omega, rfl⟩
  · rename_i c1
    have hi' : i = l.length := by omega
    subst hi'
    exact .of kr
end Go.Proofs.YtfkkjjballajaaaGreatDoor
end

/- Which slots a call touches: the program's; the law ExactCallSlots. -/
section
set_option linter.unusedVariables false
set_option linter.unusedSimpArgs false
set_option maxRecDepth 20000
attribute [local irreducible] Go.Tk.vc Go.Tk.vops Go.Tk.vdr Go.Tk.vop Go.Tk.vfl Go.Tk.HCalls
namespace Go.Proofs.YtfkkjjballajaaaGreatDoor
open Go Go.Tk

theorem implSlots_c {h : H} {c : DCall} (gl : Gl h) (gm : MxL h) (ht : c.text.length ≤ 4194304) {R : Ending → H → Prop} (k : ∀ v g l, SlotsO c l → oLs 3 eI 1 v l g → Dj g h → R (.returned v) (g ++ h)) :
    HCalls Tryz.prog 8 #[.agg (cCall c).toArray] h R := by
  refine HCalls_ir (args := [.agg (cCall c).toArray]) Tryz.func8 ir8 ?_
  have zs := zStatement_eq
  simp only [walk, lists, acts, mem, plain, seqs, maps, cells, resL, resV, intBin, ↓reduceIte, Nat.reduceAdd, Nat.reduceSub, Nat.reduceMul, Nat.reduceLeDiff, Nat.reduceEqDiff, Int.reduceToNat, Int.reduceEq, Int.reduceLT, Int.reduceLE, Int.reduceNeg, Int.reduceAdd, Int.reduceSub, Int.reduceMul, Nat.reducePow, Int.reduceNegSucc, wCall, zs]
  refine newB_intro (o := blk (cCall c) 27) fun j hj => ?_
  have s1 := Sub.cons (o := blk (cCall c) 27) hj (Sub.refl h)
  simp only [walk, lists, acts, mem, plain, seqs, maps, cells, resL, resV, intBin, ↓reduceIte, Nat.reduceAdd, Nat.reduceSub, Nat.reduceMul, Nat.reduceLeDiff, Nat.reduceEqDiff, Int.reduceToNat, Int.reduceEq, Int.reduceLT, Int.reduceLE, Int.reduceNeg, Int.reduceAdd, Int.reduceSub, Int.reduceMul, Nat.reducePow, Int.reduceNegSucc, wCall, zs]
  refine implCallOk_c (gl.sub s1) (gm.sub s1) ht fun b1 hb1 => ?_
  simp only [walk, lists, acts, mem, plain, seqs, maps, cells, resL, resV, intBin, ↓reduceIte, Nat.reduceAdd, Nat.reduceSub, Nat.reduceMul, Nat.reduceLeDiff, Nat.reduceEqDiff, Int.reduceToNat, Int.reduceEq, Int.reduceLT, Int.reduceLE, Int.reduceNeg, Int.reduceAdd, Int.reduceSub, Int.reduceMul, Nat.reducePow, Int.reduceNegSucc, wCall, zs]
  refine ite_f (fun e => ⟨h, s1, k _ [] [] (.inl ⟨fun p => (by rw [hb1.2 p] at e; cases e), rfl⟩) (ows.nil _ _) (Dj.nil _)⟩) fun e1 => ?_
  have hok := hb1.1 e1
  refine ite_pos (fun hk => ?_) fun hk => ?_
  · refine newB_intro (o := blk (fl eI [c.slot]) 3) fun j6 hj6 => ?_
    have n6 := hj6
    simp only [subs] at n6
    have o6 : oLs 3 eI 1 (.slice (some ⟨j6, 0, none⟩) 1 1) [c.slot] [(j6, blk (fl eI [c.slot]) 3)] := oLs_new (l := [c.slot]) eI_len
    simp only [walk, lists, acts, mem, plain, seqs, maps, cells, resL, resV, intBin, ↓reduceIte, Nat.reduceAdd, Nat.reduceSub, Nat.reduceMul, Nat.reduceLeDiff, Nat.reduceEqDiff, Int.reduceToNat, Int.reduceEq, Int.reduceLT, Int.reduceLE, Int.reduceNeg, Int.reduceAdd, Int.reduceSub, Int.reduceMul, Nat.reducePow, Int.reduceNegSucc, wCall, zs]
    refine ⟨[(j6, blk (fl eI [c.slot]) 3)] ++ h, by (repeat' first | exact Sub.refl _ | exact Sub.nil _ | assumption | refine Sub.both ?_ ?_ | refine Sub.cons_of (by simp only [subs, n6, hj]) ?_ | exact Sub.left _ _ | refine Sub.app (by simp only [subs, n6, hj]) ?_ | refine Sub.cons (by simp only [subs, n6, hj]) ?_), k _ _ [c.slot] (.inr ⟨hok, by simp, [], false, ?_, fun s => ?_⟩) o6 (by simp only [subs, n6])⟩
    · have : c.text = [] := by
        rcases hok.1.2.2 with q | q
        · have := q.1; omega
        · exact q.2.1
      rw [this]; exact OutD.none
    · unfold touchP
      rw [List.mem_singleton]
      constructor
      · intro e; exact .inl ⟨hk, e.symm⟩
      · rintro (e | ⟨st, e, _⟩)
        · exact e.2.symm
        · cases e
  · refine implRead_c (gl.sub s1) (gm.sub s1) ht fun v4 g4 ds ok O o4 d4 => ?_
    have n4 := d4
    simp only [subs] at n4
    obtain ⟨B, hB⟩ : ∃ B, B = g4 ++ ((j, blk (cCall c) 27) :: h) := ⟨_, rfl⟩
    have r4 : rLs B cStatement 3 v4 ds := o4.rd.sub (by rw [hB]; exact Sub.left _ _)
    have hds := O.le
    have hds1 : ds ≠ [] := by
      have h1 : c.kind = 1 := by
        rcases hok.1.2.2 with q | q
        · exact q.1
        · exact absurd q.1 hk
      have ho := O.iff.2 (hok.2 h1)
      rcases O with ⟨_, p, _⟩ | ⟨e, _⟩
      · intro e; have := p.1; rw [e] at this; simp at this
      · rw [e] at ho; cases ho
    simp only [walk, lists, acts, mem, plain, seqs, maps, cells, resL, resV, intBin, ↓reduceIte, Nat.reduceAdd, Nat.reduceSub, Nat.reduceMul, Nat.reduceLeDiff, Nat.reduceEqDiff, Int.reduceToNat, Int.reduceEq, Int.reduceLT, Int.reduceLE, Int.reduceNeg, Int.reduceAdd, Int.reduceSub, Int.reduceMul, Nat.reducePow, Int.reduceNegSucc, wCall, zs]
    rw [← hB]
    simp only [walk, lists, acts, mem, plain, seqs, maps, cells, resL, resV, intBin, ↓reduceIte, Nat.reduceAdd, Nat.reduceSub, Nat.reduceMul, Nat.reduceLeDiff, Nat.reduceEqDiff, Int.reduceToNat, Int.reduceEq, Int.reduceLT, Int.reduceLE, Int.reduceNeg, Int.reduceAdd, Int.reduceSub, Int.reduceMul, Nat.reducePow, Int.reduceNegSucc, wCall, zs, r4.len]
    refine vc_loopS (g0 := B) [25, 5] (fun n vs h' => ∃ (i : Nat) (v' : Value) (G : H), vs = [.int .i64 i, v'] ∧ h' = G ++ B ∧ Dj G B ∧ oLs 3 eI 1 v' ((ds.take i).map fun st => slotK st.key) G ∧ i ≤ ds.length ∧ n = ds.length - i) ds.length rfl (Sub.refl _)
      ⟨0, _, [], rfl, rfl, Dj.nil _, ows.nil _ _, by omega, rfl⟩ ?_
    rintro n f h' ⟨i, v', G, hv, rfl, dG, oG, hi, rfl⟩
    simp only [List.map_cons, List.map_nil, List.cons.injEq, and_true] at hv
    have sG := Sub.right dG
    simp only [walk, lists, acts, mem, plain, seqs, maps, cells, resL, resV, intBin, ↓reduceIte, Nat.reduceAdd, Nat.reduceSub, Nat.reduceMul, Nat.reduceLeDiff, Nat.reduceEqDiff, Int.reduceToNat, Int.reduceEq, Int.reduceLT, Int.reduceLE, Int.reduceNeg, Int.reduceAdd, Int.reduceSub, Int.reduceMul, Nat.reducePow, Int.reduceNegSucc, wr, hv.1, hv.2, zs]
    refine ite_lt (fun c2 => ?_) fun c2 => ?_
    · have hi2 : i < ds.length := by omega
      refine idx_leaf (i := i) cStatement_len (r4.sub sG) rfl hi2 fun b1 o1 e1 => ?_
      simp only [walk, lists, acts, mem, plain, seqs, maps, cells, resL, resV, intBin, ↓reduceIte, Nat.reduceAdd, Nat.reduceSub, Nat.reduceMul, Nat.reduceLeDiff, Nat.reduceEqDiff, Int.reduceToNat, Int.reduceEq, Int.reduceLT, Int.reduceLE, Int.reduceNeg, Int.reduceAdd, Int.reduceSub, Int.reduceMul, Nat.reducePow, Int.reduceNegSucc, e1, zs, wStatement]
      refine newB_intro fun j6 hj6 => ?_
      have n6 := hj6
      simp only [subs] at n6
      have s6 := Sub.cons (o := blk (cStatement ds[i]) 40) hj6 (Sub.refl (G ++ B))
      simp only [walk, lists, acts, mem, plain, seqs, maps, cells, resL, resV, intBin, ↓reduceIte, Nat.reduceAdd, Nat.reduceSub, Nat.reduceMul, Nat.reduceLeDiff, Nat.reduceEqDiff, Int.reduceToNat, Int.reduceEq, Int.reduceLT, Int.reduceLE, Int.reduceNeg, Int.reduceAdd, Int.reduceSub, Int.reduceMul, Nat.reducePow, Int.reduceNegSucc, zs, wStatement]
      refine implMapSlot_c ?_
      simp only [walk, lists, acts, mem, plain, seqs, maps, cells, resL, resV, intBin, ↓reduceIte, Nat.reduceAdd, Nat.reduceSub, Nat.reduceMul, Nat.reduceLeDiff, Nat.reduceEqDiff, Int.reduceToNat, Int.reduceEq, Int.reduceLT, Int.reduceLE, Int.reduceNeg, Int.reduceAdd, Int.reduceSub, Int.reduceMul, Nat.reducePow, Int.reduceNegSucc, zs, wStatement]
      refine newB_intro (o := blk (fl eI [slotK ds[i].key]) 3) fun j7 hj7 => ?_
      simp only [walk, lists, acts, mem, plain, seqs, maps, cells, resL, resV, intBin, ↓reduceIte, Nat.reduceAdd, Nat.reduceSub, Nat.reduceMul, Nat.reduceLeDiff, Nat.reduceEqDiff, Int.reduceToNat, Int.reduceEq, Int.reduceLT, Int.reduceLE, Int.reduceNeg, Int.reduceAdd, Int.reduceSub, Int.reduceMul, Nat.reducePow, Int.reduceNegSucc, zs, wStatement]
      refine app_leaf (g := G) (h := B) eI_len eI_one tInts iInt (s6.trans (Sub.cons hj7 (Sub.refl _))) dG oG (rI_lit (e := 3) [slotK ds[i].key]) (by rw [List.length_map, List.length_take]; simp; omega) (by rw [List.length_map, List.length_take]; simp; omega) fun v3 g3 o3 d3 => ?_
      simp (disch := omega) only [walk, lists, acts, mem, plain, seqs, maps, cells, resL, resV, intBin, ↓reduceIte, Nat.reduceAdd, Nat.reduceSub, Nat.reduceMul, Nat.reduceLeDiff, Nat.reduceEqDiff, Int.reduceToNat, Int.reduceEq, Int.reduceLT, Int.reduceLE, Int.reduceNeg, Int.reduceAdd, Int.reduceSub, Int.reduceMul, Nat.reducePow, Int.reduceNegSucc, wrapI]
      refine ⟨ds.length - (i + 1), by omega, _, .refl _, i + 1, v3, g3, by simp, rfl, d3, ?_, by omega, rfl⟩
      rw [List.take_succ_eq_append_getElem hi2, List.map_append]; exact o3
    · have hi2 : i = ds.length := by omega
      subst hi2
      rw [List.take_length] at oG
      have hne : (ds.map fun st => slotK st.key) ≠ [] := by simpa using hds1
      refine sort_c oG dG hne (by rw [List.length_map]; omega) fun g5 l5 o5 d5 hp5 hm5 hl5 => ?_
      rw [List.length_map] at hl5
      simp only [walk, lists, acts, mem, plain, seqs, maps, cells, resL, resV, intBin, ↓reduceIte, Nat.reduceAdd, Nat.reduceSub, Nat.reduceMul, Nat.reduceLeDiff, Nat.reduceEqDiff, Int.reduceToNat, Int.reduceEq, Int.reduceLT, Int.reduceLE, Int.reduceNeg, Int.reduceAdd, Int.reduceSub, Int.reduceMul, Nat.reducePow, Int.reduceNegSucc]
      have hne5 : l5 ≠ [] := fun e => by
        rw [e] at hl5
        exact hds1 (List.length_eq_zero_iff.1 hl5.symm)
      refine compact_c o5 d5 hne5 (by omega) hp5 fun v6 g6 l6 o6 d6 hp6 hm6 => ?_
      simp only [walk, lists, acts, mem, plain, seqs, maps, cells, resL, resV, intBin, ↓reduceIte, Nat.reduceAdd, Nat.reduceSub, Nat.reduceMul, Nat.reduceLeDiff, Nat.reduceEqDiff, Int.reduceToNat, Int.reduceEq, Int.reduceLT, Int.reduceLE, Int.reduceNeg, Int.reduceAdd, Int.reduceSub, Int.reduceMul, Nat.reducePow, Int.reduceNegSucc]
      have dh : Dj g6 h := by
        have := d6
        rw [hB] at this
        simp only [subs] at this
        exact this.2.2
      refine ⟨g6 ++ h, ?_, k v6 g6 l6 (.inr ⟨hok, hp6, ds, ok, O, fun x => ?_⟩) o6 dh⟩
      · rw [hB] at d6 ⊢
        have dg := d6
        simp only [subs] at dg
        (repeat' first | exact Sub.refl _ | exact Sub.nil _ | assumption | refine Sub.both ?_ ?_ | refine Sub.cons_of (by simp only [subs, dg, n4, hj]) ?_ | exact Sub.left _ _ | refine Sub.app (by simp only [subs, dg, n4, hj]) ?_ | refine Sub.cons (by simp only [subs, dg, n4, hj]) ?_)
      · rw [hm6, hm5, List.mem_map]
        unfold touchP
        constructor
        · rintro ⟨st, h1, h2⟩; exact .inr ⟨st, h1, h2⟩
        · rintro (h1 | ⟨st, h1, h2⟩)
          · exact absurd h1.1 hk
          · exact ⟨st, h1, h2⟩

theorem exactCallSlots_c {h : H} {c : DCall} (gl : Gl h) (gm : MxL h) (ht : c.text.length ≤ maxLen) {R : Ending → H → Prop} (k : R (.returned (.bool true)) h) : HCalls Tryz.prog 3 #[.agg (cCall c).toArray] h R := by
  refine HCalls_ir (args := [.agg (cCall c).toArray]) Tryz.func3 ir3 ?_
  have hmax : maxLen = 9223372036854775807 := by decide
  simp only [walk, lists, acts, mem, plain, seqs, maps, cells, resL, resV, intBin, ↓reduceIte, Nat.reduceAdd, Nat.reduceSub, Nat.reduceMul, Nat.reduceLeDiff, Nat.reduceEqDiff, Int.reduceToNat, Int.reduceEq, Int.reduceLT, Int.reduceLE, Int.reduceNeg, Int.reduceAdd, Int.reduceSub, Int.reduceMul, Nat.reducePow, Int.reduceNegSucc, wCall]
  refine newB_intro fun j hj => ?_
  have s1 := fun o => Sub.cons (o := o) hj (Sub.refl h)
  simp only [walk, lists, acts, mem, plain, seqs, maps, cells, resL, resV, intBin, ↓reduceIte, Nat.reduceAdd, Nat.reduceSub, Nat.reduceMul, Nat.reduceLeDiff, Nat.reduceEqDiff, Int.reduceToNat, Int.reduceEq, Int.reduceLT, Int.reduceLE, Int.reduceNeg, Int.reduceAdd, Int.reduceSub, Int.reduceMul, Nat.reducePow, Int.reduceNegSucc, wCall]
  refine szCall_c (by omega) (by omega) fun n hn _ => ?_
  simp only [walk, lists, acts, mem, plain, seqs, maps, cells, resL, resV, intBin, ↓reduceIte, Nat.reduceAdd, Nat.reduceSub, Nat.reduceMul, Nat.reduceLeDiff, Nat.reduceEqDiff, Int.reduceToNat, Int.reduceEq, Int.reduceLT, Int.reduceLE, Int.reduceNeg, Int.reduceAdd, Int.reduceSub, Int.reduceMul, Nat.reducePow, Int.reduceNegSucc, wCall]
  refine ite_lt (fun c => ⟨h, s1 _, k⟩) fun c0 => ?_
  have hl := (hn c0).2
  obtain ⟨B, hB⟩ : ∃ B, B = (j, blk (cCall c) 23) :: h := ⟨_, rfl⟩
  have sB : Tk.Sub h B := by rw [hB]; exact s1 _
  have cB : hread B j 0 6 = some (cCall c) := by rw [hB, hread_same]; rfl
  rw [← hB]
  refine toCall_c ?_
  simp only [walk, lists, acts, mem, plain, seqs, maps, cells, resL, resV, intBin, ↓reduceIte, Nat.reduceAdd, Nat.reduceSub, Nat.reduceMul, Nat.reduceLeDiff, Nat.reduceEqDiff, Int.reduceToNat, Int.reduceEq, Int.reduceLT, Int.reduceLE, Int.reduceNeg, Int.reduceAdd, Int.reduceSub, Int.reduceMul, Nat.reducePow, Int.reduceNegSucc, wCall]
  refine specSlots_c (by omega) fun v3 g3 l3 O3 hl3 o3 d3 => ?_
  have s3 := Sub.right d3
  simp only [walk, lists, acts, mem, plain, seqs, maps, cells, resL, resV, intBin, ↓reduceIte, Nat.reduceAdd, Nat.reduceSub, Nat.reduceMul, Nat.reduceLeDiff, Nat.reduceEqDiff, Int.reduceToNat, Int.reduceEq, Int.reduceLT, Int.reduceLE, Int.reduceNeg, Int.reduceAdd, Int.reduceSub, Int.reduceMul, Nat.reducePow, Int.reduceNegSucc, wCall, hval, hread_sub s3 cB]
  refine toCall_c ?_
  simp only [walk, lists, acts, mem, plain, seqs, maps, cells, resL, resV, intBin, ↓reduceIte, Nat.reduceAdd, Nat.reduceSub, Nat.reduceMul, Nat.reduceLeDiff, Nat.reduceEqDiff, Int.reduceToNat, Int.reduceEq, Int.reduceLT, Int.reduceLE, Int.reduceNeg, Int.reduceAdd, Int.reduceSub, Int.reduceMul, Nat.reducePow, Int.reduceNegSucc, wCall]
  have g3l := sB.trans s3
  refine implSlots_c (gl.sub g3l) (gm.sub g3l) (by omega) fun v5 g5 l5 O5 o5 d5 => ?_
  have e53 : l5 = l3 := O5.same O3
  subst e53
  have s5 := Sub.right d5
  simp only [walk, lists, acts, mem, plain, seqs, maps, cells, resL, resV, intBin, ↓reduceIte, Nat.reduceAdd, Nat.reduceSub, Nat.reduceMul, Nat.reduceLeDiff, Nat.reduceEqDiff, Int.reduceToNat, Int.reduceEq, Int.reduceLT, Int.reduceLE, Int.reduceNeg, Int.reduceAdd, Int.reduceSub, Int.reduceMul, Nat.reducePow, Int.reduceNegSucc, wCall]
  refine eqIntS_c (o5.rd.sub (Sub.left _ _)) ((o3.rd.sub (Sub.left _ _)).sub s5) (by omega) ?_
  simp only [walk, lists, acts, mem, plain, seqs, maps, cells, resL, resV, intBin, ↓reduceIte, Nat.reduceAdd, Nat.reduceSub, Nat.reduceMul, Nat.reduceLeDiff, Nat.reduceEqDiff, Int.reduceToNat, Int.reduceEq, Int.reduceLT, Int.reduceLE, Int.reduceNeg, Int.reduceAdd, Int.reduceSub, Int.reduceMul, Nat.reducePow, Int.reduceNegSucc, decide_true]
  refine markIntS_c (k := 1) o5 d5 (by omega) (by omega) fun g6 o6 d6 => ?_
  have s6 := Sub.right d6
  simp only [walk, lists, acts, mem, plain, seqs, maps, cells, resL, resV, intBin, ↓reduceIte, Nat.reduceAdd, Nat.reduceSub, Nat.reduceMul, Nat.reduceLeDiff, Nat.reduceEqDiff, Int.reduceToNat, Int.reduceEq, Int.reduceLT, Int.reduceLE, Int.reduceNeg, Int.reduceAdd, Int.reduceSub, Int.reduceMul, Nat.reducePow, Int.reduceNegSucc]
  have ml := mks_len 1 l5.length
  have hm : mks 1 l5.length = mks 1 (mks 1 l5.length).length := by rw [ml]
  refine heldIntS_c (k := 1) (l := mks 1 l5.length) (o6.rd.sub (Sub.left _ _)) hm (by rw [ml]; omega) (by omega) ?_
  simp only [walk, lists, acts, mem, plain, seqs, maps, cells, resL, resV, intBin, ↓reduceIte, Nat.reduceAdd, Nat.reduceSub, Nat.reduceMul, Nat.reduceLeDiff, Nat.reduceEqDiff, Int.reduceToNat, Int.reduceEq, Int.reduceLT, Int.reduceLE, Int.reduceNeg, Int.reduceAdd, Int.reduceSub, Int.reduceMul, Nat.reducePow, Int.reduceNegSucc, ml]
  refine ite_lt (fun c => by omega) fun c1 => ?_
  have s36 := s3.trans s6
  simp only [walk, lists, acts, mem, plain, seqs, maps, cells, resL, resV, intBin, ↓reduceIte, Nat.reduceAdd, Nat.reduceSub, Nat.reduceMul, Nat.reduceLeDiff, Nat.reduceEqDiff, Int.reduceToNat, Int.reduceEq, Int.reduceLT, Int.reduceLE, Int.reduceNeg, Int.reduceAdd, Int.reduceSub, Int.reduceMul, Nat.reducePow, Int.reduceNegSucc, hval, hread_sub s36 cB]
  refine toCall_c ?_
  simp only [walk, lists, acts, mem, plain, seqs, maps, cells, resL, resV, intBin, ↓reduceIte, Nat.reduceAdd, Nat.reduceSub, Nat.reduceMul, Nat.reduceLeDiff, Nat.reduceEqDiff, Int.reduceToNat, Int.reduceEq, Int.reduceLT, Int.reduceLE, Int.reduceNeg, Int.reduceAdd, Int.reduceSub, Int.reduceMul, Nat.reducePow, Int.reduceNegSucc, wCall]
  have g6l := sB.trans s36
  refine implSlots_c (gl.sub g6l) (gm.sub g6l) (by omega) fun v9 g9 l9 O9 o9 d9 => ?_
  have e93 : l9 = l5 := O9.same O3
  subst e93
  have s9 := Sub.right d9
  simp only [walk, lists, acts, mem, plain, seqs, maps, cells, resL, resV, intBin, ↓reduceIte, Nat.reduceAdd, Nat.reduceSub, Nat.reduceMul, Nat.reduceLeDiff, Nat.reduceEqDiff, Int.reduceToNat, Int.reduceEq, Int.reduceLT, Int.reduceLE, Int.reduceNeg, Int.reduceAdd, Int.reduceSub, Int.reduceMul, Nat.reducePow, Int.reduceNegSucc, wCall]
  refine eqIntS_c (o9.rd.sub (Sub.left _ _)) (((o3.rd.sub (Sub.left _ _)).sub s6).sub s9) (by omega) ?_
  simp only [walk, lists, acts, mem, plain, seqs, maps, cells, resL, resV, intBin, ↓reduceIte, Nat.reduceAdd, Nat.reduceSub, Nat.reduceMul, Nat.reduceLeDiff, Nat.reduceEqDiff, Int.reduceToNat, Int.reduceEq, Int.reduceLT, Int.reduceLE, Int.reduceNeg, Int.reduceAdd, Int.reduceSub, Int.reduceMul, Nat.reducePow, Int.reduceNegSucc, decide_true]
  refine heldIntS_c (k := 1) (l := mks 1 l9.length) ((o6.rd.sub (Sub.left _ _)).sub s9) hm (by rw [ml]; omega) (by omega) ?_
  simp only [walk, lists, acts, mem, plain, seqs, maps, cells, resL, resV, intBin, ↓reduceIte, Nat.reduceAdd, Nat.reduceSub, Nat.reduceMul, Nat.reduceLeDiff, Nat.reduceEqDiff, Int.reduceToNat, Int.reduceEq, Int.reduceLT, Int.reduceLE, Int.reduceNeg, Int.reduceAdd, Int.reduceSub, Int.reduceMul, Nat.reducePow, Int.reduceNegSucc, ml]
  refine ite_lt (fun c => by omega) fun c1 => ?_
  exact ⟨h, g6l.trans s9, k⟩
end Go.Proofs.YtfkkjjballajaaaGreatDoor
end
