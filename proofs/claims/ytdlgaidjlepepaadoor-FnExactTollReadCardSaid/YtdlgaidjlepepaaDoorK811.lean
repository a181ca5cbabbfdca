/- Parts of the proof, put together: U10, U22, U23. -/
import Derived.Test.YtdlgaidjlepepaaDoorK810
/- How the reference reads lines of scripts. -/
section
set_option linter.unusedVariables false
set_option linter.unusedSimpArgs false
set_option maxRecDepth 20000
attribute [local irreducible] Go.Tk.vc Go.Tk.vops Go.Tk.vdr Go.Tk.vop Go.Tk.vfl Go.Tk.HCalls
namespace Go.Tk
open Go
theorem nm_no32 {k : Nat} (h : k ≤ 10) : (32 : UInt8) ∉ nmAt k := by
  have : ∀ k : Fin 11, (32 : UInt8) ∉ nmAt k.val := by decide
  exact this ⟨k, by omega⟩
theorem nm_inj {k j : Nat} (hk : k ≤ 10) (hj : j ≤ 10) (h : nmAt k = nmAt j) : k = j := by
  have : ∀ k j : Fin 11, nmAt k.val = nmAt j.val → k.val = j.val := by decide
  exact this ⟨k, by omega⟩ ⟨j, by omega⟩ h
theorem fit_split {e : DTollEvent} {s : List UInt8} (h : Fit e s) (hb : ¬ s.take 7 = [98, 101, 103, 105, 110, 115, 32]) : ∃ (k : Nat) (ms : List Int), 2 ≤ k ∧ k ≤ 10 ∧ splitB 32 s = nmAt k :: ms.map decI ∧ allP sm5 ms ∧ (k = 6 → ms.length = 2) ∧ (k ≠ 6 → ms.length = 1) := by
  have one : ∀ (k m : Nat), 2 ≤ k → k ≤ 10 → k ≠ 6 → m ≤ 99999 → ∃ (k' : Nat) (ms : List Int), 2 ≤ k' ∧ k' ≤ 10 ∧ splitB 32 (nmAt k ++ 32 :: decN m) = nmAt k' :: ms.map decI ∧ allP sm5 ms ∧ (k' = 6 → ms.length = 2) ∧ (k' ≠ 6 → ms.length = 1) := fun k m h1 h2 h3 hm =>
    ⟨k, [(m : Int)], h1, h2, by rw [splitB_app _ (nm_no32 h2), splitB_none (decN_no32 m)]; simp [decI_nat], (fun x hx => by rw [List.mem_singleton] at hx; subst hx; exact nat_sm5 hm), fun x => absurd x h3, fun _ => rfl⟩
  revert hb
  refine Fit.elim (M := fun e s => ¬ s.take 7 = [98, 101, 103, 105, 110, 115, 32] → ∃ (k : Nat) (ms : List Int), 2 ≤ k ∧ k ≤ 10 ∧ splitB 32 s = nmAt k :: ms.map decI ∧ allP sm5 ms ∧ (k = 6 → ms.length = 2) ∧ (k ≠ 6 → ms.length = 1)) ?_ ?_ ?_ ?_ ?_ ?_ ?_ ?_ ?_ ?_ ?_ h
  · intro m t _ _ _ x; exact absurd (by simp) x
  · intro m a b _ _ _ x; exact absurd (by simp) x
  · intro m hm _; exact one 2 m (by omega) (by omega) (by omega) hm
  · intro m hm _; exact one 3 m (by omega) (by omega) (by omega) hm
  · intro m hm _; exact one 4 m (by omega) (by omega) (by omega) hm
  · intro m hm _; exact one 10 m (by omega) (by omega) (by omega) hm
  · intro m hm _; exact one 5 m (by omega) (by omega) (by omega) hm
  · intro m b hm hb2 _
    refine ⟨6, [(m : Int), (b : Int)], by omega, by omega, ?_, ?_, fun _ => rfl, fun x => absurd rfl x⟩
    · have := splitB_app (c := 32) (a := nmAt 6) (decN m ++ 32 :: decN b) (nm_no32 (by omega))
      rw [splitB_app _ (decN_no32 m), splitB_none (decN_no32 b)] at this
      simpa [nmAt, namesL, decI_nat] using this
    · intro x hx
      simp only [List.mem_cons, List.not_mem_nil, or_false] at hx
      rcases hx with rfl | rfl
      · exact nat_sm5 hm
      · exact nat_sm5 hb2
  · intro m hm _; exact one 7 m (by omega) (by omega) (by omega) hm
  · intro m hm _; exact one 8 m (by omega) (by omega) (by omega) hm
  · intro m hm _; exact one 9 m (by omega) (by omega) (by omega) hm
theorem rd_two {s : List UInt8} {a b : Int} (hs : splitB 32 s = nmAt 6 :: [a, b].map decI) (ha : sm5 a) (hb : sm5 b) : Fit ⟨6, a, 0, 0, b, zCall⟩ s := by
  obtain ⟨x, rfl, hx⟩ := sm5_nat ha
  obtain ⟨y, rfl, hy⟩ := sm5_nat hb
  rw [splitB_join hs]
  simpa [nmAt, namesL, decI_nat] using fit_falls hx hy
theorem rd_one {s : List UInt8} {k : Nat} {a : Int} (hs : splitB 32 s = nmAt k :: [a].map decI) (ha : sm5 a) :
    (k = 10 → Fit ⟨4, 0, 0, a, 1, zCall⟩ s) ∧ (k = 4 ∨ k = 5 → Fit ⟨(k : Int), 0, 0, a, 0, zCall⟩ s) ∧ (k = 2 ∨ k = 3 → Fit ⟨(k : Int), 0, a, 0, 0, zCall⟩ s) ∧ (k = 7 ∨ k = 8 ∨ k = 9 → Fit ⟨(k : Int), a, 0, 0, 0, zCall⟩ s) := by
  obtain ⟨x, rfl, hx⟩ := sm5_nat ha
  rw [splitB_join hs]
  refine ⟨fun e => ?_, fun e => ?_, fun e => ?_, fun e => ?_⟩
  · subst e; simpa [nmAt, namesL, decI_nat] using fit_doubles hx
  · rcases e with rfl | rfl
    · simpa [nmAt, namesL, decI_nat] using fit_brings hx
    · simpa [nmAt, namesL, decI_nat] using fit_loses hx
  · rcases e with rfl | rfl
    · simpa [nmAt, namesL, decI_nat] using fit_sends hx
    · simpa [nmAt, namesL, decI_nat] using fit_gives hx
  · rcases e with rfl | rfl | rfl
    · simpa [nmAt, namesL, decI_nat] using fit_rises hx
    · simpa [nmAt, namesL, decI_nat] using fit_tends hx
    · simpa [nmAt, namesL, decI_nat] using fit_forces hx
end Go.Tk
namespace Go.Proofs.YtdlgaidjlepepaaDoor
open Go Go.Tk

set_option maxHeartbeats 4000000 in
theorem read_c {h : H} {s : List UInt8} (hs : s.length ≤ 4194304) {R : Ending → H → Prop} (k : ∀ e ok, OutE s e ok → R (.returned (.tuple #[.agg (cTollEvent e).toArray, .bool ok])) h) :
    HCalls Tryd.prog 16 #[.string ⟨s.toArray⟩] h R := by
  refine HCalls_ir (args := [.string ⟨s.toArray⟩]) Tryd.func16 ir16 ?_
  have ze := zTollEvent_eq
  simp only [str] at ze
  simp only [walk, lists, acts, mem, plain, seqs, maps, cells, resL, resV, intBin, ↓reduceIte, Nat.reduceAdd, Nat.reduceSub, Nat.reduceMul, Nat.reduceLeDiff, Nat.reduceEqDiff, Int.reduceToNat, Int.reduceEq, Int.reduceLT, Int.reduceLE, Int.reduceNeg, Int.reduceAdd, Int.reduceSub, Int.reduceMul, Nat.reducePow, Int.reduceNegSucc, wTollEvent, str, ze]
  refine newB_intro fun jr hjr => ?_
  have n1 := hjr
  have sj := fun c => Sub.cons (o := blk (cTollEvent c) 41) hjr (Sub.refl h)
  simp only [walk, lists, acts, mem, plain, seqs, maps, cells, resL, resV, intBin, ↓reduceIte, Nat.reduceAdd, Nat.reduceSub, Nat.reduceMul, Nat.reduceLeDiff, Nat.reduceEqDiff, Int.reduceToNat, Int.reduceEq, Int.reduceLT, Int.reduceLE, Int.reduceNeg, Int.reduceAdd, Int.reduceSub, Int.reduceMul, Nat.reducePow, Int.reduceNegSucc, wTollEvent]
  have no : (∀ e, ¬ Fit e s) → OutE s zTollEvent false := fun f => .inr ⟨rfl, f⟩
  by_cases hd : s.take 7 = [98, 101, 103, 105, 110, 115, 32]
  · have h7 : 7 ≤ s.length := by have := congrArg List.length hd; rw [List.length_take] at this; simp at this; omega
    have h7' : (s.take 7).toArray = #[98, 101, 103, 105, 110, 115, 32] := by rw [hd]
    have dE : s = begB ++ 32 :: s.drop 7 := by
      have : begB ++ 32 :: s.drop 7 = s.take 7 ++ s.drop 7 := by rw [hd]; rfl
      rw [this, List.take_append_drop]
    refine ite_ge (fun _ => ?_) fun x => absurd x (by omega)
    simp only [walk, lists, acts, mem, plain, seqs, maps, cells, resL, resV, intBin, ↓reduceIte, Nat.reduceAdd, Nat.reduceSub, Nat.reduceMul, Nat.reduceLeDiff, Nat.reduceEqDiff, Int.reduceToNat, Int.reduceEq, Int.reduceLT, Int.reduceLE, Int.reduceNeg, Int.reduceAdd, Int.reduceSub, Int.reduceMul, Nat.reducePow, Int.reduceNegSucc, wTollEvent, str, strBin, h7']
    refine ⟨by omega, by omega, ?_⟩
    refine begins_c (by rw [List.length_drop]; omega) fun e ok ho => ?_
    simp only [walk, lists, acts, mem, plain, seqs, maps, cells, resL, resV, intBin, ↓reduceIte, Nat.reduceAdd, Nat.reduceSub, Nat.reduceMul, Nat.reduceLeDiff, Nat.reduceEqDiff, Int.reduceToNat, Int.reduceEq, Int.reduceLT, Int.reduceLE, Int.reduceNeg, Int.reduceAdd, Int.reduceSub, Int.reduceMul, Nat.reducePow, Int.reduceNegSucc, wTollEvent]
    unfold BegO at ho
    rw [← dE] at ho
    exact ⟨h, sj _, k e ok ho⟩
  · have hd2 : ¬ (⟨(s.take 7).toArray⟩ : ByteArray) = ⟨#[98, 101, 103, 105, 110, 115, 32]⟩ := fun e => hd (by
      have := congrArg (fun a : ByteArray => a.data.toList) e
      simpa using this)
    refine ite_ge (fun x => ?_) fun x => ?_
    · simp only [walk, lists, acts, mem, plain, seqs, maps, cells, resL, resV, intBin, ↓reduceIte, Nat.reduceAdd, Nat.reduceSub, Nat.reduceMul, Nat.reduceLeDiff, Nat.reduceEqDiff, Int.reduceToNat, Int.reduceEq, Int.reduceLT, Int.reduceLE, Int.reduceNeg, Int.reduceAdd, Int.reduceSub, Int.reduceMul, Nat.reducePow, Int.reduceNegSucc, wTollEvent, str, strBin, hd2]
      refine ⟨by omega, ?_⟩
      refine l1Cut_c (c := 32) hs fun v g o d => ?_
      have d1 := d
      have d2 := d.symm
      simp only [subs] at d1 d2
      obtain ⟨hsp1, hsp2⟩ := splitB_len 32 s
      obtain ⟨w, r, hw⟩ : ∃ w r, splitB 32 s = w :: r := by
        cases e : splitB 32 s with
        | nil => exact absurd e (splitB_ne 32 s)
        | cons w r => exact ⟨w, r, rfl⟩
      rw [hw] at o hsp1 hsp2
      rw [List.length_cons] at hsp1
      have ro : rLs (g ++ ((jr, blk (cTollEvent zTollEvent) 41) :: h)) eT 1 v (w :: r) := o.rd.sub (Sub.left _ _)
      simp only [walk, lists, acts, mem, plain, seqs, maps, cells, resL, resV, intBin, ↓reduceIte, Nat.reduceAdd, Nat.reduceSub, Nat.reduceMul, Nat.reduceLeDiff, Nat.reduceEqDiff, Int.reduceToNat, Int.reduceEq, Int.reduceLT, Int.reduceLE, Int.reduceNeg, Int.reduceAdd, Int.reduceSub, Int.reduceMul, Nat.reducePow, Int.reduceNegSucc, wTollEvent]
      refine slc_suf eT_len ro (by omega) (by simp only [List.length_cons]; omega) fun v2 r2 => ?_
      have r2' : rLs (g ++ ((jr, blk (cTollEvent zTollEvent) 41) :: h)) eT 1 v2 r := by simpa using r2
      simp only [walk, lists, acts, mem, plain, seqs, maps, cells, resL, resV, intBin, ↓reduceIte, Nat.reduceAdd, Nat.reduceSub, Nat.reduceMul, Nat.reduceLeDiff, Nat.reduceEqDiff, Int.reduceToNat, Int.reduceEq, Int.reduceLT, Int.reduceLE, Int.reduceNeg, Int.reduceAdd, Int.reduceSub, Int.reduceMul, Nat.reducePow, Int.reduceNegSucc, wTollEvent]
      refine nums_c r2' (by omega) (fun x hx => by have := hsp2 x (List.mem_cons_of_mem _ hx); omega) (fun v3 g3 ns hns hr o3 d3 => ?_) fun nn v3 => ?_
      · have d3x := d3
        have d3y := d3.symm
        simp only [subs] at d3x d3y
        simp only [walk, lists, acts, mem, plain, seqs, maps, cells, resL, resV, intBin, ↓reduceIte, Nat.reduceAdd, Nat.reduceSub, Nat.reduceMul, Nat.reduceLeDiff, Nat.reduceEqDiff, Int.reduceToNat, Int.reduceEq, Int.reduceLT, Int.reduceLE, Int.reduceNeg, Int.reduceAdd, Int.reduceSub, Int.reduceMul, Nat.reducePow, Int.reduceNegSucc, wTollEvent]
        refine names_c fun j5 hj5 => ?_
        have n5 := hj5
        simp only [subs] at n5
        have m5' := n5.2.2.1
        have m5 := Ne.symm n5.2.2.1
        have sB : ∀ q, Tk.Sub h ((j5, blk (fl eT namesL) 9) :: (g3 ++ (g ++ ((jr, blk (cTollEvent q) 41) :: h)))) := fun q => by (repeat' first | exact Sub.refl _ | exact Sub.nil _ | assumption | refine Sub.both ?_ ?_ | refine Sub.cons_of (by simp only [subs, d1, d2, d3x, d3y, n1, n5, m5, m5']) ?_ | exact Sub.left _ _ | refine Sub.app (by simp only [subs, d1, d2, d3x, d3y, n1, n5, m5, m5']) ?_ | refine Sub.cons (by simp only [subs, d1, d2, d3x, d3y, n1, n5, m5, m5']) ?_)
        have noT : (∀ k : Nat, 2 ≤ k → k ≤ 10 → nmAt k = w → (k = 6 → ns.length = 2) → (k ≠ 6 → ns.length = 1) → False) → ∀ e, ¬ Fit e s := fun f e ft => by
          obtain ⟨k, ms, h1, h2, h3, h4, h5, h6⟩ := fit_split ft hd
          rw [hw] at h3
          have h7 := congrArg List.length (((List.cons.inj h3).2).symm.trans hr)
          rw [List.length_map, List.length_map] at h7
          exact f k h1 h2 (List.cons.inj h3).1.symm (fun e => by have := h5 e; omega) fun e => by have := h6 e; omega
        simp only [walk, lists, acts, mem, plain, seqs, maps, cells, resL, resV, intBin, ↓reduceIte, Nat.reduceAdd, Nat.reduceSub, Nat.reduceMul, Nat.reduceLeDiff, Nat.reduceEqDiff, Int.reduceToNat, Int.reduceEq, Int.reduceLT, Int.reduceLE, Int.reduceNeg, Int.reduceAdd, Int.reduceSub, Int.reduceMul, Nat.reducePow, Int.reduceNegSucc, wTollEvent]
        have rw1 := ro.sub ((Sub.right d3).trans (Sub.cons (o := blk (fl eT namesL) 9) hj5 (Sub.refl _)))
        have rn := (o3.rd.sub (Sub.left g3 (g ++ ((jr, blk (cTollEvent zTollEvent) 41) :: h)))).sub (Sub.cons (o := blk (fl eT namesL) 9) hj5 (Sub.refl _))
        refine vc_loop [8] (fun n vs h' => ∃ (i : Nat), vs = [.int .i64 i] ∧ h' = (j5, blk (fl eT namesL) 9) :: (g3 ++ (g ++ ((jr, blk (cTollEvent zTollEvent) 41) :: h))) ∧ 2 ≤ i ∧ i ≤ 11 ∧ (∀ k : Nat, 2 ≤ k → k < i → nmAt k ≠ w) ∧ n = 11 - i) 9 rfl
          ⟨2, rfl, rfl, by omega, by omega, (fun k h1 h2 => absurd h2 (by omega)), rfl⟩ ?_
        rintro n f h' ⟨i, hv, rfl, h2, h11, hne, rfl⟩
        simp only [List.map_cons, List.map_nil, List.cons.injEq, and_true] at hv
        simp only [walk, lists, acts, mem, plain, seqs, maps, cells, resL, resV, intBin, ↓reduceIte, Nat.reduceAdd, Nat.reduceSub, Nat.reduceMul, Nat.reduceLeDiff, Nat.reduceEqDiff, Int.reduceToNat, Int.reduceEq, Int.reduceLT, Int.reduceLE, Int.reduceNeg, Int.reduceAdd, Int.reduceSub, Int.reduceMul, Nat.reducePow, Int.reduceNegSucc, wr, hv, wTollEvent]
        refine ite_lt (fun c => ?_) fun c => ?_
        · have hi10 : i ≤ 10 := by omega
          refine vc_draw _ (Sub.refl _) ?_
          simp only [walk, lists, acts, mem, plain, seqs, maps, cells, resL, resV, intBin, ↓reduceIte, Nat.reduceAdd, Nat.reduceSub, Nat.reduceMul, Nat.reduceLeDiff, Nat.reduceEqDiff, Int.reduceToNat, Int.reduceEq, Int.reduceLT, Int.reduceLE, Int.reduceNeg, Int.reduceAdd, Int.reduceSub, Int.reduceMul, Nat.reducePow, Int.reduceNegSucc, wTollEvent]
          refine idx_leaf (i := 0) eT_len rw1 rfl (by simp) fun b1 o1 e1 => ?_
          have e1' : hread ((j5, blk (fl eT namesL) 9) :: (g3 ++ (g ++ ((jr, blk (cTollEvent zTollEvent) 41) :: h)))) b1 o1 1 = some [.string ⟨w.toArray⟩] := e1
          simp only [walk, lists, acts, mem, plain, seqs, maps, cells, resL, resV, intBin, ↓reduceIte, Nat.reduceAdd, Nat.reduceSub, Nat.reduceMul, Nat.reduceLeDiff, Nat.reduceEqDiff, Int.reduceToNat, Int.reduceEq, Int.reduceLT, Int.reduceLE, Int.reduceNeg, Int.reduceAdd, Int.reduceSub, Int.reduceMul, Nat.reducePow, Int.reduceNegSucc, wTollEvent, hread_1 e1', nm_at hi10, strBin, str_inj, o3.rd.len]
          refine ⟨⟨by omega, by omega⟩, ?_⟩
          refine ite_ne (fun cw => ?_) fun cw => ?_
          · simp (disch := omega) only [wrapI]
            refine ⟨11 - (i + 1), by omega, _, .refl _, i + 1, by simp, rfl, by omega, by omega, fun k h1 h3 e => ?_, rfl⟩
            rcases Nat.lt_or_ge k i with h4 | h4
            · exact hne k h1 h4 e
            · have : k = i := by omega
              subst this
              exact cw e.symm
          have hsp : splitB 32 s = nmAt i :: ns.map decI := by rw [hw, cw, hr]
          have noK : (i = 6 → ns.length = 2 → False) → (i ≠ 6 → ns.length = 1 → False) → OutE s zTollEvent false := fun f1 f2 => no (noT fun k h1 h2 h3 h4 h5 => by
            have : k = i := nm_inj h2 hi10 (by rw [h3, cw])
            subst this
            by_cases c : k = 6
            · exact f1 c (h4 c)
            · exact f2 c (h5 c))
          refine ite_pos (fun c6 => ?_) fun c6 => ?_
          · have i6 : i = 6 := by omega
            subst i6
            refine ite_pos (fun c2 => ?_) fun c2 => ?_
            · obtain ⟨a, b, rfl, sa, sb⟩ := two_nums (show ns.length = 2 by omega) hns
              refine vc_draw _ (Sub.refl _) ?_
              simp only [walk, lists, acts, mem, plain, seqs, maps, cells, resL, resV, intBin, ↓reduceIte, Nat.reduceAdd, Nat.reduceSub, Nat.reduceMul, Nat.reduceLeDiff, Nat.reduceEqDiff, Int.reduceToNat, Int.reduceEq, Int.reduceLT, Int.reduceLE, Int.reduceNeg, Int.reduceAdd, Int.reduceSub, Int.reduceMul, Nat.reducePow, Int.reduceNegSucc, wTollEvent]
              refine idx_leaf (i := 0) eI_len rn rfl (by simp) fun b2 o4 e4 => ?_
              simp only [walk, lists, acts, mem, plain, seqs, maps, cells, resL, resV, intBin, ↓reduceIte, Nat.reduceAdd, Nat.reduceSub, Nat.reduceMul, Nat.reduceLeDiff, Nat.reduceEqDiff, Int.reduceToNat, Int.reduceEq, Int.reduceLT, Int.reduceLE, Int.reduceNeg, Int.reduceAdd, Int.reduceSub, Int.reduceMul, Nat.reducePow, Int.reduceNegSucc, wTollEvent, hread_1 e4]
              refine idx_leaf (i := 1) eI_len rn rfl (by simp) fun b3 o5 e5 => ?_
              simp only [walk, lists, acts, mem, plain, seqs, maps, cells, resL, resV, intBin, ↓reduceIte, Nat.reduceAdd, Nat.reduceSub, Nat.reduceMul, Nat.reduceLeDiff, Nat.reduceEqDiff, Int.reduceToNat, Int.reduceEq, Int.reduceLT, Int.reduceLE, Int.reduceNeg, Int.reduceAdd, Int.reduceSub, Int.reduceMul, Nat.reducePow, Int.reduceNegSucc, wTollEvent, hread_1 e5, apps, d1, d3x, m5, List.getElem_cons_zero, List.getElem_cons_succ]
              exact ⟨h, sB _, k ⟨6, a, 0, 0, b, zCall⟩ true (.inl ⟨rfl, rd_two hsp sa sb⟩)⟩
            · have bad := noK (fun _ e => c2 (by omega)) fun e => absurd rfl e
              refine ite_ne (fun c7 => ?_) fun c7 => ?_
              · simp only [apps, d1, d3x, m5, walk, lists, acts, mem, plain, seqs, maps, cells, resL, resV, intBin, ↓reduceIte, Nat.reduceAdd, Nat.reduceSub, Nat.reduceMul, Nat.reduceLeDiff, Nat.reduceEqDiff, Int.reduceToNat, Int.reduceEq, Int.reduceLT, Int.reduceLE, Int.reduceNeg, Int.reduceAdd, Int.reduceSub, Int.reduceMul, Nat.reducePow, Int.reduceNegSucc, wTollEvent]
                exact ⟨h, sB _, k _ _ bad⟩
              · simp only [apps, d1, d3x, m5, walk, lists, acts, mem, plain, seqs, maps, cells, resL, resV, intBin, ↓reduceIte, Nat.reduceAdd, Nat.reduceSub, Nat.reduceMul, Nat.reduceLeDiff, Nat.reduceEqDiff, Int.reduceToNat, Int.reduceEq, Int.reduceLT, Int.reduceLE, Int.reduceNeg, Int.reduceAdd, Int.reduceSub, Int.reduceMul, Nat.reducePow, Int.reduceNegSucc, wTollEvent]
                exact ⟨h, sB _, k _ _ bad⟩
          · refine ite_ne (fun c7 => ?_) fun c7 => ?_
            · have bad := noK (fun e => absurd e (by omega)) fun _ e => c7 (by omega)
              simp only [apps, d1, d3x, m5, walk, lists, acts, mem, plain, seqs, maps, cells, resL, resV, intBin, ↓reduceIte, Nat.reduceAdd, Nat.reduceSub, Nat.reduceMul, Nat.reduceLeDiff, Nat.reduceEqDiff, Int.reduceToNat, Int.reduceEq, Int.reduceLT, Int.reduceLE, Int.reduceNeg, Int.reduceAdd, Int.reduceSub, Int.reduceMul, Nat.reducePow, Int.reduceNegSucc, wTollEvent]
              exact ⟨h, sB _, k _ _ bad⟩
            · obtain ⟨a, rfl, sa⟩ := one_nums (show ns.length = 1 by omega) hns
              obtain ⟨q1, q2, q3, q4⟩ := rd_one hsp sa
              refine ite_pos (fun c8 => absurd c8 c6) fun c8 => ?_
              refine ite_pos (fun c9 => ?_) fun c9 => ?_
              · refine idx_leaf (i := 0) eI_len rn rfl (by simp) fun b2 o4 e4 => ?_
                simp only [walk, lists, acts, mem, plain, seqs, maps, cells, resL, resV, intBin, ↓reduceIte, Nat.reduceAdd, Nat.reduceSub, Nat.reduceMul, Nat.reduceLeDiff, Nat.reduceEqDiff, Int.reduceToNat, Int.reduceEq, Int.reduceLT, Int.reduceLE, Int.reduceNeg, Int.reduceAdd, Int.reduceSub, Int.reduceMul, Nat.reducePow, Int.reduceNegSucc, wTollEvent, hread_1 e4, apps, d1, d3x, m5, List.getElem_cons_zero]
                exact ⟨h, sB _, k ⟨4, 0, 0, a, 1, zCall⟩ true (.inl ⟨rfl, q1 (by omega)⟩)⟩
              refine ite_pos (fun cx4 => ?_) fun cx4 => ?_
              · refine idx_leaf (i := 0) eI_len rn rfl (by simp) fun b2 o4 e4 => ?_
                simp only [walk, lists, acts, mem, plain, seqs, maps, cells, resL, resV, intBin, ↓reduceIte, Nat.reduceAdd, Nat.reduceSub, Nat.reduceMul, Nat.reduceLeDiff, Nat.reduceEqDiff, Int.reduceToNat, Int.reduceEq, Int.reduceLT, Int.reduceLE, Int.reduceNeg, Int.reduceAdd, Int.reduceSub, Int.reduceMul, Nat.reducePow, Int.reduceNegSucc, wTollEvent, hread_1 e4, apps, d1, d3x, m5, List.getElem_cons_zero]
                exact ⟨h, sB _, k ⟨(i : Int), 0, 0, a, 0, zCall⟩ true (.inl ⟨rfl, q2 (by omega)⟩)⟩
              refine ite_pos (fun cx5 => ?_) fun cx5 => ?_
              · refine idx_leaf (i := 0) eI_len rn rfl (by simp) fun b2 o4 e4 => ?_
                simp only [walk, lists, acts, mem, plain, seqs, maps, cells, resL, resV, intBin, ↓reduceIte, Nat.reduceAdd, Nat.reduceSub, Nat.reduceMul, Nat.reduceLeDiff, Nat.reduceEqDiff, Int.reduceToNat, Int.reduceEq, Int.reduceLT, Int.reduceLE, Int.reduceNeg, Int.reduceAdd, Int.reduceSub, Int.reduceMul, Nat.reducePow, Int.reduceNegSucc, wTollEvent, hread_1 e4, apps, d1, d3x, m5, List.getElem_cons_zero]
                exact ⟨h, sB _, k ⟨(i : Int), 0, 0, a, 0, zCall⟩ true (.inl ⟨rfl, q2 (by omega)⟩)⟩
              refine ite_pos (fun cx2 => ?_) fun cx2 => ?_
              · refine idx_leaf (i := 0) eI_len rn rfl (by simp) fun b2 o4 e4 => ?_
                simp only [walk, lists, acts, mem, plain, seqs, maps, cells, resL, resV, intBin, ↓reduceIte, Nat.reduceAdd, Nat.reduceSub, Nat.reduceMul, Nat.reduceLeDiff, Nat.reduceEqDiff, Int.reduceToNat, Int.reduceEq, Int.reduceLT, Int.reduceLE, Int.reduceNeg, Int.reduceAdd, Int.reduceSub, Int.reduceMul, Nat.reducePow, Int.reduceNegSucc, wTollEvent, hread_1 e4, apps, d1, d3x, m5, List.getElem_cons_zero]
                exact ⟨h, sB _, k ⟨(i : Int), 0, a, 0, 0, zCall⟩ true (.inl ⟨rfl, q3 (by omega)⟩)⟩
              refine ite_pos (fun cx3 => ?_) fun cx3 => ?_
              · refine idx_leaf (i := 0) eI_len rn rfl (by simp) fun b2 o4 e4 => ?_
                simp only [walk, lists, acts, mem, plain, seqs, maps, cells, resL, resV, intBin, ↓reduceIte, Nat.reduceAdd, Nat.reduceSub, Nat.reduceMul, Nat.reduceLeDiff, Nat.reduceEqDiff, Int.reduceToNat, Int.reduceEq, Int.reduceLT, Int.reduceLE, Int.reduceNeg, Int.reduceAdd, Int.reduceSub, Int.reduceMul, Nat.reducePow, Int.reduceNegSucc, wTollEvent, hread_1 e4, apps, d1, d3x, m5, List.getElem_cons_zero]
                exact ⟨h, sB _, k ⟨(i : Int), 0, a, 0, 0, zCall⟩ true (.inl ⟨rfl, q3 (by omega)⟩)⟩
              refine idx_leaf (i := 0) eI_len rn rfl (by simp) fun b2 o4 e4 => ?_
              simp only [walk, lists, acts, mem, plain, seqs, maps, cells, resL, resV, intBin, ↓reduceIte, Nat.reduceAdd, Nat.reduceSub, Nat.reduceMul, Nat.reduceLeDiff, Nat.reduceEqDiff, Int.reduceToNat, Int.reduceEq, Int.reduceLT, Int.reduceLE, Int.reduceNeg, Int.reduceAdd, Int.reduceSub, Int.reduceMul, Nat.reducePow, Int.reduceNegSucc, wTollEvent, hread_1 e4, apps, d1, d3x, m5, List.getElem_cons_zero]
              exact ⟨h, sB _, k ⟨(i : Int), a, 0, 0, 0, zCall⟩ true (.inl ⟨rfl, q4 (by omega)⟩)⟩
        · simp only [apps, d1, d3x, m5, walk, lists, acts, mem, plain, seqs, maps, cells, resL, resV, intBin, ↓reduceIte, Nat.reduceAdd, Nat.reduceSub, Nat.reduceMul, Nat.reduceLeDiff, Nat.reduceEqDiff, Int.reduceToNat, Int.reduceEq, Int.reduceLT, Int.reduceLE, Int.reduceNeg, Int.reduceAdd, Int.reduceSub, Int.reduceMul, Nat.reducePow, Int.reduceNegSucc, wTollEvent]
          exact ⟨h, sB _, k _ _ (no (noT fun k h1 h2 h3 _ _ => hne k h1 (by omega) h3))⟩
      · simp only [walk, lists, acts, mem, plain, seqs, maps, cells, resL, resV, intBin, ↓reduceIte, Nat.reduceAdd, Nat.reduceSub, Nat.reduceMul, Nat.reduceLeDiff, Nat.reduceEqDiff, Int.reduceToNat, Int.reduceEq, Int.reduceLT, Int.reduceLE, Int.reduceNeg, Int.reduceAdd, Int.reduceSub, Int.reduceMul, Nat.reducePow, Int.reduceNegSucc, wTollEvent]
        refine names_c fun j5 hj5 => ?_
        have n5 := hj5
        simp only [subs] at n5
        have m5' := n5.2.1
        have m5 := Ne.symm n5.2.1
        simp only [walk, lists, acts, mem, plain, seqs, maps, cells, resL, resV, intBin, ↓reduceIte, Nat.reduceAdd, Nat.reduceSub, Nat.reduceMul, Nat.reduceLeDiff, Nat.reduceEqDiff, Int.reduceToNat, Int.reduceEq, Int.reduceLT, Int.reduceLE, Int.reduceNeg, Int.reduceAdd, Int.reduceSub, Int.reduceMul, Nat.reducePow, Int.reduceNegSucc, wTollEvent, apps, d1, m5]
        refine ⟨h, by (repeat' first | exact Sub.refl _ | exact Sub.nil _ | assumption | refine Sub.both ?_ ?_ | refine Sub.cons_of (by simp only [subs, d1, d2, n1, n5, m5, m5']) ?_ | exact Sub.left _ _ | refine Sub.app (by simp only [subs, d1, d2, n1, n5, m5, m5']) ?_ | refine Sub.cons (by simp only [subs, d1, d2, n1, n5, m5, m5']) ?_), k _ _ (no fun e ft => nn ?_)⟩
        obtain ⟨k, ms, h1, h2, h3, h4, h5, h6⟩ := fit_split ft hd
        rw [hw] at h3
        exact ⟨ms, h4, (List.cons.inj h3).2⟩
    · refine l1Cut_c (c := 32) hs fun v g o d => ?_
      have d1 := d
      have d2 := d.symm
      simp only [subs] at d1 d2
      obtain ⟨hsp1, hsp2⟩ := splitB_len 32 s
      obtain ⟨w, r, hw⟩ : ∃ w r, splitB 32 s = w :: r := by
        cases e : splitB 32 s with
        | nil => exact absurd e (splitB_ne 32 s)
        | cons w r => exact ⟨w, r, rfl⟩
      rw [hw] at o hsp1 hsp2
      rw [List.length_cons] at hsp1
      have ro : rLs (g ++ ((jr, blk (cTollEvent zTollEvent) 41) :: h)) eT 1 v (w :: r) := o.rd.sub (Sub.left _ _)
      simp only [walk, lists, acts, mem, plain, seqs, maps, cells, resL, resV, intBin, ↓reduceIte, Nat.reduceAdd, Nat.reduceSub, Nat.reduceMul, Nat.reduceLeDiff, Nat.reduceEqDiff, Int.reduceToNat, Int.reduceEq, Int.reduceLT, Int.reduceLE, Int.reduceNeg, Int.reduceAdd, Int.reduceSub, Int.reduceMul, Nat.reducePow, Int.reduceNegSucc, wTollEvent]
      refine slc_suf eT_len ro (by omega) (by simp only [List.length_cons]; omega) fun v2 r2 => ?_
      have r2' : rLs (g ++ ((jr, blk (cTollEvent zTollEvent) 41) :: h)) eT 1 v2 r := by simpa using r2
      simp only [walk, lists, acts, mem, plain, seqs, maps, cells, resL, resV, intBin, ↓reduceIte, Nat.reduceAdd, Nat.reduceSub, Nat.reduceMul, Nat.reduceLeDiff, Nat.reduceEqDiff, Int.reduceToNat, Int.reduceEq, Int.reduceLT, Int.reduceLE, Int.reduceNeg, Int.reduceAdd, Int.reduceSub, Int.reduceMul, Nat.reducePow, Int.reduceNegSucc, wTollEvent]
      refine nums_c r2' (by omega) (fun x hx => by have := hsp2 x (List.mem_cons_of_mem _ hx); omega) (fun v3 g3 ns hns hr o3 d3 => ?_) fun nn v3 => ?_
      · have d3x := d3
        have d3y := d3.symm
        simp only [subs] at d3x d3y
        simp only [walk, lists, acts, mem, plain, seqs, maps, cells, resL, resV, intBin, ↓reduceIte, Nat.reduceAdd, Nat.reduceSub, Nat.reduceMul, Nat.reduceLeDiff, Nat.reduceEqDiff, Int.reduceToNat, Int.reduceEq, Int.reduceLT, Int.reduceLE, Int.reduceNeg, Int.reduceAdd, Int.reduceSub, Int.reduceMul, Nat.reducePow, Int.reduceNegSucc, wTollEvent]
        refine names_c fun j5 hj5 => ?_
        have n5 := hj5
        simp only [subs] at n5
        have m5' := n5.2.2.1
        have m5 := Ne.symm n5.2.2.1
        have sB : ∀ q, Tk.Sub h ((j5, blk (fl eT namesL) 9) :: (g3 ++ (g ++ ((jr, blk (cTollEvent q) 41) :: h)))) := fun q => by (repeat' first | exact Sub.refl _ | exact Sub.nil _ | assumption | refine Sub.both ?_ ?_ | refine Sub.cons_of (by simp only [subs, d1, d2, d3x, d3y, n1, n5, m5, m5']) ?_ | exact Sub.left _ _ | refine Sub.app (by simp only [subs, d1, d2, d3x, d3y, n1, n5, m5, m5']) ?_ | refine Sub.cons (by simp only [subs, d1, d2, d3x, d3y, n1, n5, m5, m5']) ?_)
        have noT : (∀ k : Nat, 2 ≤ k → k ≤ 10 → nmAt k = w → (k = 6 → ns.length = 2) → (k ≠ 6 → ns.length = 1) → False) → ∀ e, ¬ Fit e s := fun f e ft => by
          obtain ⟨k, ms, h1, h2, h3, h4, h5, h6⟩ := fit_split ft hd
          rw [hw] at h3
          have h7 := congrArg List.length (((List.cons.inj h3).2).symm.trans hr)
          rw [List.length_map, List.length_map] at h7
          exact f k h1 h2 (List.cons.inj h3).1.symm (fun e => by have := h5 e; omega) fun e => by have := h6 e; omega
        simp only [walk, lists, acts, mem, plain, seqs, maps, cells, resL, resV, intBin, ↓reduceIte, Nat.reduceAdd, Nat.reduceSub, Nat.reduceMul, Nat.reduceLeDiff, Nat.reduceEqDiff, Int.reduceToNat, Int.reduceEq, Int.reduceLT, Int.reduceLE, Int.reduceNeg, Int.reduceAdd, Int.reduceSub, Int.reduceMul, Nat.reducePow, Int.reduceNegSucc, wTollEvent]
        have rw1 := ro.sub ((Sub.right d3).trans (Sub.cons (o := blk (fl eT namesL) 9) hj5 (Sub.refl _)))
        have rn := (o3.rd.sub (Sub.left g3 (g ++ ((jr, blk (cTollEvent zTollEvent) 41) :: h)))).sub (Sub.cons (o := blk (fl eT namesL) 9) hj5 (Sub.refl _))
        refine vc_loop [8] (fun n vs h' => ∃ (i : Nat), vs = [.int .i64 i] ∧ h' = (j5, blk (fl eT namesL) 9) :: (g3 ++ (g ++ ((jr, blk (cTollEvent zTollEvent) 41) :: h))) ∧ 2 ≤ i ∧ i ≤ 11 ∧ (∀ k : Nat, 2 ≤ k → k < i → nmAt k ≠ w) ∧ n = 11 - i) 9 rfl
          ⟨2, rfl, rfl, by omega, by omega, (fun k h1 h2 => absurd h2 (by omega)), rfl⟩ ?_
        rintro n f h' ⟨i, hv, rfl, h2, h11, hne, rfl⟩
        simp only [List.map_cons, List.map_nil, List.cons.injEq, and_true] at hv
        simp only [walk, lists, acts, mem, plain, seqs, maps, cells, resL, resV, intBin, ↓reduceIte, Nat.reduceAdd, Nat.reduceSub, Nat.reduceMul, Nat.reduceLeDiff, Nat.reduceEqDiff, Int.reduceToNat, Int.reduceEq, Int.reduceLT, Int.reduceLE, Int.reduceNeg, Int.reduceAdd, Int.reduceSub, Int.reduceMul, Nat.reducePow, Int.reduceNegSucc, wr, hv, wTollEvent]
        refine ite_lt (fun c => ?_) fun c => ?_
        · have hi10 : i ≤ 10 := by omega
          refine vc_draw _ (Sub.refl _) ?_
          simp only [walk, lists, acts, mem, plain, seqs, maps, cells, resL, resV, intBin, ↓reduceIte, Nat.reduceAdd, Nat.reduceSub, Nat.reduceMul, Nat.reduceLeDiff, Nat.reduceEqDiff, Int.reduceToNat, Int.reduceEq, Int.reduceLT, Int.reduceLE, Int.reduceNeg, Int.reduceAdd, Int.reduceSub, Int.reduceMul, Nat.reducePow, Int.reduceNegSucc, wTollEvent]
          refine idx_leaf (i := 0) eT_len rw1 rfl (by simp) fun b1 o1 e1 => ?_
          have e1' : hread ((j5, blk (fl eT namesL) 9) :: (g3 ++ (g ++ ((jr, blk (cTollEvent zTollEvent) 41) :: h)))) b1 o1 1 = some [.string ⟨w.toArray⟩] := e1
          simp only [walk, lists, acts, mem, plain, seqs, maps, cells, resL, resV, intBin, ↓reduceIte, Nat.reduceAdd, Nat.reduceSub, Nat.reduceMul, Nat.reduceLeDiff, Nat.reduceEqDiff, Int.reduceToNat, Int.reduceEq, Int.reduceLT, Int.reduceLE, Int.reduceNeg, Int.reduceAdd, Int.reduceSub, Int.reduceMul, Nat.reducePow, Int.reduceNegSucc, wTollEvent, hread_1 e1', nm_at hi10, strBin, str_inj, o3.rd.len]
          refine ⟨⟨by omega, by omega⟩, ?_⟩
          refine ite_ne (fun cw => ?_) fun cw => ?_
          · simp (disch := omega) only [wrapI]
            refine ⟨11 - (i + 1), by omega, _, .refl _, i + 1, by simp, rfl, by omega, by omega, fun k h1 h3 e => ?_, rfl⟩
            rcases Nat.lt_or_ge k i with h4 | h4
            · exact hne k h1 h4 e
            · have : k = i := by omega
              subst this
              exact cw e.symm
          have hsp : splitB 32 s = nmAt i :: ns.map decI := by rw [hw, cw, hr]
          have noK : (i = 6 → ns.length = 2 → False) → (i ≠ 6 → ns.length = 1 → False) → OutE s zTollEvent false := fun f1 f2 => no (noT fun k h1 h2 h3 h4 h5 => by
            have : k = i := nm_inj h2 hi10 (by rw [h3, cw])
            subst this
            by_cases c : k = 6
            · exact f1 c (h4 c)
            · exact f2 c (h5 c))
          refine ite_pos (fun c6 => ?_) fun c6 => ?_
          · have i6 : i = 6 := by omega
            subst i6
            refine ite_pos (fun c2 => ?_) fun c2 => ?_
            · obtain ⟨a, b, rfl, sa, sb⟩ := two_nums (show ns.length = 2 by omega) hns
              refine vc_draw _ (Sub.refl _) ?_
              simp only [walk, lists, acts, mem, plain, seqs, maps, cells, resL, resV, intBin, ↓reduceIte, Nat.reduceAdd, Nat.reduceSub, Nat.reduceMul, Nat.reduceLeDiff, Nat.reduceEqDiff, Int.reduceToNat, Int.reduceEq, Int.reduceLT, Int.reduceLE, Int.reduceNeg, Int.reduceAdd, Int.reduceSub, Int.reduceMul, Nat.reducePow, Int.reduceNegSucc, wTollEvent]
              refine idx_leaf (i := 0) eI_len rn rfl (by simp) fun b2 o4 e4 => ?_
              simp only [walk, lists, acts, mem, plain, seqs, maps, cells, resL, resV, intBin, ↓reduceIte, Nat.reduceAdd, Nat.reduceSub, Nat.reduceMul, Nat.reduceLeDiff, Nat.reduceEqDiff, Int.reduceToNat, Int.reduceEq, Int.reduceLT, Int.reduceLE, Int.reduceNeg, Int.reduceAdd, Int.reduceSub, Int.reduceMul, Nat.reducePow, Int.reduceNegSucc, wTollEvent, hread_1 e4]
              refine idx_leaf (i := 1) eI_len rn rfl (by simp) fun b3 o5 e5 => ?_
              simp only [walk, lists, acts, mem, plain, seqs, maps, cells, resL, resV, intBin, ↓reduceIte, Nat.reduceAdd, Nat.reduceSub, Nat.reduceMul, Nat.reduceLeDiff, Nat.reduceEqDiff, Int.reduceToNat, Int.reduceEq, Int.reduceLT, Int.reduceLE, Int.reduceNeg, Int.reduceAdd, Int.reduceSub, Int.reduceMul, Nat.reducePow, Int.reduceNegSucc, wTollEvent, hread_1 e5, apps, d1, d3x, m5, List.getElem_cons_zero, List.getElem_cons_succ]
              exact ⟨h, sB _, k ⟨6, a, 0, 0, b, zCall⟩ true (.inl ⟨rfl, rd_two hsp sa sb⟩)⟩
            · have bad := noK (fun _ e => c2 (by omega)) fun e => absurd rfl e
              refine ite_ne (fun c7 => ?_) fun c7 => ?_
              · simp only [apps, d1, d3x, m5, walk, lists, acts, mem, plain, seqs, maps, cells, resL, resV, intBin, ↓reduceIte, Nat.reduceAdd, Nat.reduceSub, Nat.reduceMul, Nat.reduceLeDiff, Nat.reduceEqDiff, Int.reduceToNat, Int.reduceEq, Int.reduceLT, Int.reduceLE, Int.reduceNeg, Int.reduceAdd, Int.reduceSub, Int.reduceMul, Nat.reducePow, Int.reduceNegSucc, wTollEvent]
                exact ⟨h, sB _, k _ _ bad⟩
              · simp only [apps, d1, d3x, m5, walk, lists, acts, mem, plain, seqs, maps, cells, resL, resV, intBin, ↓reduceIte, Nat.reduceAdd, Nat.reduceSub, Nat.reduceMul, Nat.reduceLeDiff, Nat.reduceEqDiff, Int.reduceToNat, Int.reduceEq, Int.reduceLT, Int.reduceLE, Int.reduceNeg, Int.reduceAdd, Int.reduceSub, Int.reduceMul, Nat.reducePow, Int.reduceNegSucc, wTollEvent]
                exact ⟨h, sB _, k _ _ bad⟩
          · refine ite_ne (fun c7 => ?_) fun c7 => ?_
            · have bad := noK (fun e => absurd e (by omega)) fun _ e => c7 (by omega)
              simp only [apps, d1, d3x, m5, walk, lists, acts, mem, plain, seqs, maps, cells, resL, resV, intBin, ↓reduceIte, Nat.reduceAdd, Nat.reduceSub, Nat.reduceMul, Nat.reduceLeDiff, Nat.reduceEqDiff, Int.reduceToNat, Int.reduceEq, Int.reduceLT, Int.reduceLE, Int.reduceNeg, Int.reduceAdd, Int.reduceSub, Int.reduceMul, Nat.reducePow, Int.reduceNegSucc, wTollEvent]
              exact ⟨h, sB _, k _ _ bad⟩
            · obtain ⟨a, rfl, sa⟩ := one_nums (show ns.length = 1 by omega) hns
              obtain ⟨q1, q2, q3, q4⟩ := rd_one hsp sa
              refine ite_pos (fun c8 => absurd c8 c6) fun c8 => ?_
              refine ite_pos (fun c9 => ?_) fun c9 => ?_
              · refine idx_leaf (i := 0) eI_len rn rfl (by simp) fun b2 o4 e4 => ?_
                simp only [walk, lists, acts, mem, plain, seqs, maps, cells, resL, resV, intBin, ↓reduceIte, Nat.reduceAdd, Nat.reduceSub, Nat.reduceMul, Nat.reduceLeDiff, Nat.reduceEqDiff, Int.reduceToNat, Int.reduceEq, Int.reduceLT, Int.reduceLE, Int.reduceNeg, Int.reduceAdd, Int.reduceSub, Int.reduceMul, Nat.reducePow, Int.reduceNegSucc, wTollEvent, hread_1 e4, apps, d1, d3x, m5, List.getElem_cons_zero]
                exact ⟨h, sB _, k ⟨4, 0, 0, a, 1, zCall⟩ true (.inl ⟨rfl, q1 (by omega)⟩)⟩
              refine ite_pos (fun cx4 => ?_) fun cx4 => ?_
              · refine idx_leaf (i := 0) eI_len rn rfl (by simp) fun b2 o4 e4 => ?_
                simp only [walk, lists, acts, mem, plain, seqs, maps, cells, resL, resV, intBin, ↓reduceIte, Nat.reduceAdd, Nat.reduceSub, Nat.reduceMul, Nat.reduceLeDiff, Nat.reduceEqDiff, Int.reduceToNat, Int.reduceEq, Int.reduceLT, Int.reduceLE, Int.reduceNeg, Int.reduceAdd, Int.reduceSub, Int.reduceMul, Nat.reducePow, Int.reduceNegSucc, wTollEvent, hread_1 e4, apps, d1, d3x, m5, List.getElem_cons_zero]
                exact ⟨h, sB _, k ⟨(i : Int), 0, 0, a, 0, zCall⟩ true (.inl ⟨rfl, q2 (by omega)⟩)⟩
              refine ite_pos (fun cx5 => ?_) fun cx5 => ?_
              · refine idx_leaf (i := 0) eI_len rn rfl (by simp) fun b2 o4 e4 => ?_
                simp only [walk, lists, acts, mem, plain, seqs, maps, cells, resL, resV, intBin, ↓reduceIte, Nat.reduceAdd, Nat.reduceSub, Nat.reduceMul, Nat.reduceLeDiff, Nat.reduceEqDiff, Int.reduceToNat, Int.reduceEq, Int.reduceLT, Int.reduceLE, Int.reduceNeg, Int.reduceAdd, Int.reduceSub, Int.reduceMul, Nat.reducePow, Int.reduceNegSucc, wTollEvent, hread_1 e4, apps, d1, d3x, m5, List.getElem_cons_zero]
                exact ⟨h, sB _, k ⟨(i : Int), 0, 0, a, 0, zCall⟩ true (.inl ⟨rfl, q2 (by omega)⟩)⟩
              refine ite_pos (fun cx2 => ?_) fun cx2 => ?_
              · refine idx_leaf (i := 0) eI_len rn rfl (by simp) fun b2 o4 e4 => ?_
                simp only [walk, lists, acts, mem, plain, seqs, maps, cells, resL, resV, intBin, ↓reduceIte, Nat.reduceAdd, Nat.reduceSub, Nat.reduceMul, Nat.reduceLeDiff, Nat.reduceEqDiff, Int.reduceToNat, Int.reduceEq, Int.reduceLT, Int.reduceLE, Int.reduceNeg, Int.reduceAdd, Int.reduceSub, Int.reduceMul, Nat.reducePow, Int.reduceNegSucc, wTollEvent, hread_1 e4, apps, d1, d3x, m5, List.getElem_cons_zero]
                exact ⟨h, sB _, k ⟨(i : Int), 0, a, 0, 0, zCall⟩ true (.inl ⟨rfl, q3 (by omega)⟩)⟩
              refine ite_pos (fun cx3 => ?_) fun cx3 => ?_
              · refine idx_leaf (i := 0) eI_len rn rfl (by simp) fun b2 o4 e4 => ?_
                simp only [walk, lists, acts, mem, plain, seqs, maps, cells, resL, resV, intBin, ↓reduceIte, Nat.reduceAdd, Nat.reduceSub, Nat.reduceMul, Nat.reduceLeDiff, Nat.reduceEqDiff, Int.reduceToNat, Int.reduceEq, Int.reduceLT, Int.reduceLE, Int.reduceNeg, Int.reduceAdd, Int.reduceSub, Int.reduceMul, Nat.reducePow, Int.reduceNegSucc, wTollEvent, hread_1 e4, apps, d1, d3x, m5, List.getElem_cons_zero]
                exact ⟨h, sB _, k ⟨(i : Int), 0, a, 0, 0, zCall⟩ true (.inl ⟨rfl, q3 (by omega)⟩)⟩
              refine idx_leaf (i := 0) eI_len rn rfl (by simp) fun b2 o4 e4 => ?_
              simp only [walk, lists, acts, mem, plain, seqs, maps, cells, resL, resV, intBin, ↓reduceIte, Nat.reduceAdd, Nat.reduceSub, Nat.reduceMul, Nat.reduceLeDiff, Nat.reduceEqDiff, Int.reduceToNat, Int.reduceEq, Int.reduceLT, Int.reduceLE, Int.reduceNeg, Int.reduceAdd, Int.reduceSub, Int.reduceMul, Nat.reducePow, Int.reduceNegSucc, wTollEvent, hread_1 e4, apps, d1, d3x, m5, List.getElem_cons_zero]
              exact ⟨h, sB _, k ⟨(i : Int), a, 0, 0, 0, zCall⟩ true (.inl ⟨rfl, q4 (by omega)⟩)⟩
        · simp only [apps, d1, d3x, m5, walk, lists, acts, mem, plain, seqs, maps, cells, resL, resV, intBin, ↓reduceIte, Nat.reduceAdd, Nat.reduceSub, Nat.reduceMul, Nat.reduceLeDiff, Nat.reduceEqDiff, Int.reduceToNat, Int.reduceEq, Int.reduceLT, Int.reduceLE, Int.reduceNeg, Int.reduceAdd, Int.reduceSub, Int.reduceMul, Nat.reducePow, Int.reduceNegSucc, wTollEvent]
          exact ⟨h, sB _, k _ _ (no (noT fun k h1 h2 h3 _ _ => hne k h1 (by omega) h3))⟩
      · simp only [walk, lists, acts, mem, plain, seqs, maps, cells, resL, resV, intBin, ↓reduceIte, Nat.reduceAdd, Nat.reduceSub, Nat.reduceMul, Nat.reduceLeDiff, Nat.reduceEqDiff, Int.reduceToNat, Int.reduceEq, Int.reduceLT, Int.reduceLE, Int.reduceNeg, Int.reduceAdd, Int.reduceSub, Int.reduceMul, Nat.reducePow, Int.reduceNegSucc, wTollEvent]
        refine names_c fun j5 hj5 => ?_
        have n5 := hj5
        simp only [subs] at n5
        have m5' := n5.2.1
        have m5 := Ne.symm n5.2.1
        simp only [walk, lists, acts, mem, plain, seqs, maps, cells, resL, resV, intBin, ↓reduceIte, Nat.reduceAdd, Nat.reduceSub, Nat.reduceMul, Nat.reduceLeDiff, Nat.reduceEqDiff, Int.reduceToNat, Int.reduceEq, Int.reduceLT, Int.reduceLE, Int.reduceNeg, Int.reduceAdd, Int.reduceSub, Int.reduceMul, Nat.reducePow, Int.reduceNegSucc, wTollEvent, apps, d1, m5]
        refine ⟨h, by (repeat' first | exact Sub.refl _ | exact Sub.nil _ | assumption | refine Sub.both ?_ ?_ | refine Sub.cons_of (by simp only [subs, d1, d2, n1, n5, m5, m5']) ?_ | exact Sub.left _ _ | refine Sub.app (by simp only [subs, d1, d2, n1, n5, m5, m5']) ?_ | refine Sub.cons (by simp only [subs, d1, d2, n1, n5, m5, m5']) ?_), k _ _ (no fun e ft => nn ?_)⟩
        obtain ⟨k, ms, h1, h2, h3, h4, h5, h6⟩ := fit_split ft hd
        rw [hw] at h3
        exact ⟨ms, h4, (List.cons.inj h3).2⟩
end Go.Proofs.YtdlgaidjlepepaaDoor
end

/- What the laws mark: rows of events. -/
section
set_option linter.unusedVariables false
set_option linter.unusedSimpArgs false
set_option maxRecDepth 20000
attribute [local irreducible] Go.Tk.vc Go.Tk.vops Go.Tk.vdr Go.Tk.vop Go.Tk.vfl Go.Tk.HCalls
namespace Go.Tk
open Go
/-- A text that is marked. -/
def mT (k : Int) : List UInt8 := 109 :: decN k.toNat
/-- What is marked from k on. -/
def mkTollEvent (k : Int) (n : Nat) : List DTollEvent := (List.range n).map fun (i : Nat) => ⟨(k + 11 * (i : Int)), (k + 11 * (i : Int)) + 1, (k + 11 * (i : Int)) + 2, (k + 11 * (i : Int)) + 3, (k + 11 * (i : Int)) + 4, ⟨(k + 11 * (i : Int)) + 5, (k + 11 * (i : Int)) + 6, (k + 11 * (i : Int)) + 7, mT ((k + 11 * (i : Int)) + 8), (k + 11 * (i : Int)) + 9, (k + 11 * (i : Int)) + 10⟩⟩
theorem mkTollEvent_len (k : Int) (n : Nat) : (mkTollEvent k n).length = n := by simp [mkTollEvent]
theorem mkTollEvent_at (k : Int) (n i : Nat) (h : i < (mkTollEvent k n).length) : (mkTollEvent k n)[i] = ⟨(k + 11 * (i : Int)), (k + 11 * (i : Int)) + 1, (k + 11 * (i : Int)) + 2, (k + 11 * (i : Int)) + 3, (k + 11 * (i : Int)) + 4, ⟨(k + 11 * (i : Int)) + 5, (k + 11 * (i : Int)) + 6, (k + 11 * (i : Int)) + 7, mT ((k + 11 * (i : Int)) + 8), (k + 11 * (i : Int)) + 9, (k + 11 * (i : Int)) + 10⟩⟩ := by simp [mkTollEvent]
theorem mkTollEvent_set (k : Int) (l : List DTollEvent) (i : Nat) (h : i < l.length) : (mkTollEvent k i ++ l.drop i).set i ⟨(k + 11 * (i : Int)), (k + 11 * (i : Int)) + 1, (k + 11 * (i : Int)) + 2, (k + 11 * (i : Int)) + 3, (k + 11 * (i : Int)) + 4, ⟨(k + 11 * (i : Int)) + 5, (k + 11 * (i : Int)) + 6, (k + 11 * (i : Int)) + 7, mT ((k + 11 * (i : Int)) + 8), (k + 11 * (i : Int)) + 9, (k + 11 * (i : Int)) + 10⟩⟩ = mkTollEvent k (i + 1) ++ l.drop (i + 1) := by
  rw [List.set_append_right _ _ (by rw [mkTollEvent_len]; omega), mkTollEvent_len, Nat.sub_self, List.drop_eq_getElem_cons h, List.set_cons_zero]
  simp [mkTollEvent, List.range_succ]
end Go.Tk
namespace Go.Proofs.YtdlgaidjlepepaaDoor
open Go Go.Tk

theorem markText_c {k : Int} (hk : 1 ≤ k ∧ k ≤ 1099511627776) {h : H} {R : Ending → H → Prop} (kr : R (.returned (.string ⟨(mT k).toArray⟩)) h) : HCalls Tryd.prog 27 #[.int .i64 k] h R := by
  obtain ⟨K, rfl⟩ : ∃ K : Nat, k = K := ⟨k.toNat, by omega⟩
  refine HCalls_ir (args := [.int .i64 K]) Tryd.func27 ir27 ?_
  have hK := decN_len20 (n := K) (by omega)
  simp only [walk, lists, acts, mem, plain, seqs, maps, cells, resL, resV, intBin, ↓reduceIte, Nat.reduceAdd, Nat.reduceSub, Nat.reduceMul, Nat.reduceLeDiff, Nat.reduceEqDiff, Int.reduceToNat, Int.reduceEq, Int.reduceLT, Int.reduceLE, Int.reduceNeg, Int.reduceAdd, Int.reduceSub, Int.reduceMul, Nat.reducePow, Int.reduceNegSucc, str]
  refine ite_ge (fun c => by omega) fun c => ?_
  refine vc_loopS (g0 := h) [3, 0] (fun n vs h' => ∃ (m : Nat) (s : List UInt8), vs = [.string ⟨s.toArray⟩, .int .i64 m] ∧ h' = h ∧ ((m = 0 ∧ s = decN K) ∨ (1 ≤ m ∧ decN K = decN m ++ s)) ∧ m ≤ K ∧ n = m) K rfl (Sub.refl _)
    ⟨K, [], rfl, rfl, .inr ⟨by omega, by simp⟩, by omega, rfl⟩ ?_
  rintro n f h' ⟨m, s, hv, rfl, hs, hm, rfl⟩
  simp only [List.map_cons, List.map_nil, List.cons.injEq, and_true] at hv
  simp only [walk, lists, acts, mem, plain, seqs, maps, cells, resL, resV, intBin, ↓reduceIte, Nat.reduceAdd, Nat.reduceSub, Nat.reduceMul, Nat.reduceLeDiff, Nat.reduceEqDiff, Int.reduceToNat, Int.reduceEq, Int.reduceLT, Int.reduceLE, Int.reduceNeg, Int.reduceAdd, Int.reduceSub, Int.reduceMul, Nat.reducePow, Int.reduceNegSucc, wr, hv.1, hv.2, str]
  refine ite_pos (fun c1 => ?_) fun c1 => ?_
  · have hn0 : 1 ≤ n := by omega
    have hs := (hs.resolve_left fun x => by omega).2
    have e1 : ((n : Nat) : Int).tdiv 10 = ((n / 10 : Nat) : Int) := rfl
    have e2 : ((n : Nat) : Int).tmod 10 = ((n % 10 : Nat) : Int) := rfl
    have e3 : (48 : Int) + ((n % 10 : Nat) : Int) = ((48 + n % 10 : Nat) : Int) := by omega
    simp (disch := omega) only [walk, lists, acts, mem, plain, seqs, maps, cells, resL, resV, intBin, ↓reduceIte, Nat.reduceAdd, Nat.reduceSub, Nat.reduceMul, Nat.reduceLeDiff, Nat.reduceEqDiff, Int.reduceToNat, Int.reduceEq, Int.reduceLT, Int.reduceLE, Int.reduceNeg, Int.reduceAdd, Int.reduceSub, Int.reduceMul, Nat.reducePow, Int.reduceNegSucc, wrapI, e1, e2, e3, u8_of]
    refine newB_intro (o := blk (fl eB [UInt8.ofNat (48 + n % 10)]) 5) fun j hj => ?_
    have bt := fun f => btos_rd (rB_lit (j := j) (e := 5) (h := h') [UInt8.ofNat (48 + n % 10)]) (f := f)
    simp only [List.length_cons, List.length_nil, Nat.zero_add] at bt
    have hsl : s.length ≤ 20 := by have := congrArg List.length hs; rw [List.length_append] at this; omega
    have hsz : [UInt8.ofNat (48 + n % 10)].length + s.length ≤ 9223372036854775807 := by simp only [List.length_cons, List.length_nil]; omega
    simp (disch := omega) only [walk, lists, acts, mem, plain, seqs, maps, cells, resL, resV, intBin, ↓reduceIte, Nat.reduceAdd, Nat.reduceSub, Nat.reduceMul, Nat.reduceLeDiff, Nat.reduceEqDiff, Int.reduceToNat, Int.reduceEq, Int.reduceLT, Int.reduceLE, Int.reduceNeg, Int.reduceAdd, Int.reduceSub, Int.reduceMul, Nat.reducePow, Int.reduceNegSucc, bt, str_add _ _ hsz, wrapI, e1]
    refine ⟨n / 10, by omega, h', Sub.cons hj (Sub.refl _), n / 10, [UInt8.ofNat (48 + n % 10)] ++ s, rfl, rfl, ?_, by omega, rfl⟩
    by_cases c2 : n < 10
    · refine .inl ⟨by omega, ?_⟩
      rw [hs, decN_small c2]
      have : n % 10 = n := by omega
      rw [this]
    · refine .inr ⟨by omega, ?_⟩
      rw [hs, decN_big c2, List.append_assoc]
  · have hs := (hs.resolve_right fun x => by omega).2
    subst hs
    have hsz : ([109] : List UInt8).length + (decN K).length ≤ 9223372036854775807 := by simp only [List.length_cons, List.length_nil]; omega
    simp only [walk, lists, acts, mem, plain, seqs, maps, cells, resL, resV, intBin, ↓reduceIte, Nat.reduceAdd, Nat.reduceSub, Nat.reduceMul, Nat.reduceLeDiff, Nat.reduceEqDiff, Int.reduceToNat, Int.reduceEq, Int.reduceLT, Int.reduceLE, Int.reduceNeg, Int.reduceAdd, Int.reduceSub, Int.reduceMul, Nat.reducePow, Int.reduceNegSucc, str, str_add _ _ hsz]
    exact .of kr
theorem markTollEventS_c {e : TypeId} {g h0 : H} {v : Value} {l : List DTollEvent} {k : Int} (o : oLs e cTollEvent 11 v l g) (dj : Dj g h0) (hl : l.length ≤ 1048576) (hk : 1 ≤ k ∧ k ≤ 1048576) {R : Ending → H → Prop}
    (kr : ∀ g', oLs e cTollEvent 11 v (mkTollEvent k l.length) g' → Dj g' h0 → R (.returned (.int .i64 (k + 11 * l.length))) (g' ++ h0)) :
    HCalls Tryd.prog 12 #[v, .int .i64 k] (g ++ h0) R := by
  refine HCalls_ir (args := [v, .int .i64 k]) Tryd.func12 ir12 ?_
  simp only [walk, lists, acts, mem, plain, seqs, maps, cells, resL, resV, intBin, ↓reduceIte, Nat.reduceAdd, Nat.reduceSub, Nat.reduceMul, Nat.reduceLeDiff, Nat.reduceEqDiff, Int.reduceToNat, Int.reduceEq, Int.reduceLT, Int.reduceLE, Int.reduceNeg, Int.reduceAdd, Int.reduceSub, Int.reduceMul, Nat.reducePow, Int.reduceNegSucc]
  refine vc_loop [5, 1] (fun n vs h' => ∃ (i : Nat) (g' : H), vs = [.int .i64 i, .int .i64 (k + 11 * (i : Int))] ∧ h' = g' ++ h0 ∧ Dj g' h0 ∧ oLs e cTollEvent 11 v (mkTollEvent k i ++ l.drop i) g' ∧ i ≤ l.length ∧ n = l.length - i) l.length rfl ⟨0, g, by simp, rfl, dj, by simpa [mkTollEvent] using o, by omega, rfl⟩ ?_
  rintro n f h' ⟨i, g', hv, rfl, dj', o', hi, rfl⟩
  simp only [List.map_cons, List.map_nil, List.cons.injEq, and_true] at hv
  have hll : (mkTollEvent k i ++ l.drop i).length = l.length := by simp [mkTollEvent_len]; omega
  have hlen : ∀ {f : Value → Prop}, lenSK v f = f (.int .i64 l.length) := fun {f} => by rw [← hll]; exact o'.rd.len
  simp only [walk, lists, acts, mem, plain, seqs, maps, cells, resL, resV, intBin, ↓reduceIte, Nat.reduceAdd, Nat.reduceSub, Nat.reduceMul, Nat.reduceLeDiff, Nat.reduceEqDiff, Int.reduceToNat, Int.reduceEq, Int.reduceLT, Int.reduceLE, Int.reduceNeg, Int.reduceAdd, Int.reduceSub, Int.reduceMul, Nat.reducePow, Int.reduceNegSucc, wr, hv.1, hv.2, hlen]
  split
  · rename_i c1
    obtain ⟨L, hL⟩ : ∃ L, L = mkTollEvent k i ++ l.drop i := ⟨_, rfl⟩
    rw [← hL] at o' hll
    have hb : i < L.length := by omega
    obtain ⟨E, hE⟩ : ∃ E, E = L[i] := ⟨_, rfl⟩
    obtain ⟨q, hq⟩ : ∃ q : Int, q = k + 11 * (i : Int) := ⟨_, rfl⟩
    have hqb : 1 ≤ q ∧ q ≤ 20000000 := by omega
    rw [← hq]
    refine own_idx (i := i) eE_len o' rfl (by omega) fun b0 cap0 sp0 hv0 hc0 hs0 hg0 => ?_
    subst hg0
    simp only [walk, lists, acts, mem, plain, seqs, maps, cells, resL, resV, intBin, ↓reduceIte, Nat.reduceAdd, Nat.reduceSub, Nat.reduceMul, Nat.reduceLeDiff, Nat.reduceEqDiff, Int.reduceToNat, Int.reduceEq, Int.reduceLT, Int.reduceLE, Int.reduceNeg, Int.reduceAdd, Int.reduceSub, Int.reduceMul, Nat.reducePow, Int.reduceNegSucc]
    refine st_own (i := i) (a' := { E with kind := q }) (off := 0) eE_len (by omega) hb rfl (by omega) (by rw [← hE]; rfl) ?_
    simp only [walk, lists, acts, mem, plain, seqs, maps, cells, resL, resV, intBin, ↓reduceIte, Nat.reduceAdd, Nat.reduceSub, Nat.reduceMul, Nat.reduceLeDiff, Nat.reduceEqDiff, Int.reduceToNat, Int.reduceEq, Int.reduceLT, Int.reduceLE, Int.reduceNeg, Int.reduceAdd, Int.reduceSub, Int.reduceMul, Nat.reducePow, Int.reduceNegSucc]
    have o0 := own_set (e := e) (i := i) (a' := { E with kind := q }) eE_len hv0 hc0 hs0
    simp (disch := omega) only [wrapI, Int.add_assoc, Int.reduceAdd]
    refine own_idx (i := i) eE_len o0 rfl (by simp only [List.length_set]; omega) fun b1 cap1 sp1 hv1 hc1 hs1 hg1 => ?_
    simp only [List.singleton_append, List.cons.injEq, Prod.mk.injEq, and_true] at hg1
    obtain ⟨rfl, hg1⟩ := hg1
    rw [hg1]
    simp only [walk, lists, acts, mem, plain, seqs, maps, cells, resL, resV, intBin, ↓reduceIte, Nat.reduceAdd, Nat.reduceSub, Nat.reduceMul, Nat.reduceLeDiff, Nat.reduceEqDiff, Int.reduceToNat, Int.reduceEq, Int.reduceLT, Int.reduceLE, Int.reduceNeg, Int.reduceAdd, Int.reduceSub, Int.reduceMul, Nat.reducePow, Int.reduceNegSucc]
    refine st_own (i := i) (a' := { E with kind := q, at_ := q + 1 }) (off := 1) eE_len (by omega) (by simp only [List.length_set]; omega) rfl (by omega) (by rw [List.getElem_set_self]; rfl) ?_
    simp only [walk, lists, acts, mem, plain, seqs, maps, cells, resL, resV, intBin, ↓reduceIte, Nat.reduceAdd, Nat.reduceSub, Nat.reduceMul, Nat.reduceLeDiff, Nat.reduceEqDiff, Int.reduceToNat, Int.reduceEq, Int.reduceLT, Int.reduceLE, Int.reduceNeg, Int.reduceAdd, Int.reduceSub, Int.reduceMul, Nat.reducePow, Int.reduceNegSucc]
    have o1 := own_set (e := e) (i := i) (a' := { E with kind := q, at_ := q + 1 }) eE_len hv1 hc1 hs1
    rw [List.set_set] at o1
    try rw [List.set_set]
    simp (disch := omega) only [wrapI, Int.add_assoc, Int.reduceAdd]
    refine own_idx (i := i) eE_len o1 rfl (by simp only [List.length_set]; omega) fun b2 cap2 sp2 hv2 hc2 hs2 hg2 => ?_
    simp only [List.singleton_append, List.cons.injEq, Prod.mk.injEq, and_true] at hg2
    obtain ⟨rfl, hg2⟩ := hg2
    rw [hg2]
    simp only [walk, lists, acts, mem, plain, seqs, maps, cells, resL, resV, intBin, ↓reduceIte, Nat.reduceAdd, Nat.reduceSub, Nat.reduceMul, Nat.reduceLeDiff, Nat.reduceEqDiff, Int.reduceToNat, Int.reduceEq, Int.reduceLT, Int.reduceLE, Int.reduceNeg, Int.reduceAdd, Int.reduceSub, Int.reduceMul, Nat.reducePow, Int.reduceNegSucc]
    refine st_own (i := i) (a' := { E with kind := q, at_ := q + 1, session := q + 2 }) (off := 2) eE_len (by omega) (by simp only [List.length_set]; omega) rfl (by omega) (by rw [List.getElem_set_self]; rfl) ?_
    simp only [walk, lists, acts, mem, plain, seqs, maps, cells, resL, resV, intBin, ↓reduceIte, Nat.reduceAdd, Nat.reduceSub, Nat.reduceMul, Nat.reduceLeDiff, Nat.reduceEqDiff, Int.reduceToNat, Int.reduceEq, Int.reduceLT, Int.reduceLE, Int.reduceNeg, Int.reduceAdd, Int.reduceSub, Int.reduceMul, Nat.reducePow, Int.reduceNegSucc]
    have o2 := own_set (e := e) (i := i) (a' := { E with kind := q, at_ := q + 1, session := q + 2 }) eE_len hv2 hc2 hs2
    rw [List.set_set] at o2
    try rw [List.set_set]
    simp (disch := omega) only [wrapI, Int.add_assoc, Int.reduceAdd]
    refine own_idx (i := i) eE_len o2 rfl (by simp only [List.length_set]; omega) fun b3 cap3 sp3 hv3 hc3 hs3 hg3 => ?_
    simp only [List.singleton_append, List.cons.injEq, Prod.mk.injEq, and_true] at hg3
    obtain ⟨rfl, hg3⟩ := hg3
    rw [hg3]
    simp only [walk, lists, acts, mem, plain, seqs, maps, cells, resL, resV, intBin, ↓reduceIte, Nat.reduceAdd, Nat.reduceSub, Nat.reduceMul, Nat.reduceLeDiff, Nat.reduceEqDiff, Int.reduceToNat, Int.reduceEq, Int.reduceLT, Int.reduceLE, Int.reduceNeg, Int.reduceAdd, Int.reduceSub, Int.reduceMul, Nat.reducePow, Int.reduceNegSucc]
    refine st_own (i := i) (a' := { E with kind := q, at_ := q + 1, session := q + 2, word := q + 3 }) (off := 3) eE_len (by omega) (by simp only [List.length_set]; omega) rfl (by omega) (by rw [List.getElem_set_self]; rfl) ?_
    simp only [walk, lists, acts, mem, plain, seqs, maps, cells, resL, resV, intBin, ↓reduceIte, Nat.reduceAdd, Nat.reduceSub, Nat.reduceMul, Nat.reduceLeDiff, Nat.reduceEqDiff, Int.reduceToNat, Int.reduceEq, Int.reduceLT, Int.reduceLE, Int.reduceNeg, Int.reduceAdd, Int.reduceSub, Int.reduceMul, Nat.reducePow, Int.reduceNegSucc]
    have o3 := own_set (e := e) (i := i) (a' := { E with kind := q, at_ := q + 1, session := q + 2, word := q + 3 }) eE_len hv3 hc3 hs3
    rw [List.set_set] at o3
    try rw [List.set_set]
    simp (disch := omega) only [wrapI, Int.add_assoc, Int.reduceAdd]
    refine own_idx (i := i) eE_len o3 rfl (by simp only [List.length_set]; omega) fun b4 cap4 sp4 hv4 hc4 hs4 hg4 => ?_
    simp only [List.singleton_append, List.cons.injEq, Prod.mk.injEq, and_true] at hg4
    obtain ⟨rfl, hg4⟩ := hg4
    rw [hg4]
    simp only [walk, lists, acts, mem, plain, seqs, maps, cells, resL, resV, intBin, ↓reduceIte, Nat.reduceAdd, Nat.reduceSub, Nat.reduceMul, Nat.reduceLeDiff, Nat.reduceEqDiff, Int.reduceToNat, Int.reduceEq, Int.reduceLT, Int.reduceLE, Int.reduceNeg, Int.reduceAdd, Int.reduceSub, Int.reduceMul, Nat.reducePow, Int.reduceNegSucc]
    refine st_own (i := i) (a' := { E with kind := q, at_ := q + 1, session := q + 2, word := q + 3, keep := q + 4 }) (off := 4) eE_len (by omega) (by simp only [List.length_set]; omega) rfl (by omega) (by rw [List.getElem_set_self]; rfl) ?_
    simp only [walk, lists, acts, mem, plain, seqs, maps, cells, resL, resV, intBin, ↓reduceIte, Nat.reduceAdd, Nat.reduceSub, Nat.reduceMul, Nat.reduceLeDiff, Nat.reduceEqDiff, Int.reduceToNat, Int.reduceEq, Int.reduceLT, Int.reduceLE, Int.reduceNeg, Int.reduceAdd, Int.reduceSub, Int.reduceMul, Nat.reducePow, Int.reduceNegSucc]
    have o4 := own_set (e := e) (i := i) (a' := { E with kind := q, at_ := q + 1, session := q + 2, word := q + 3, keep := q + 4 }) eE_len hv4 hc4 hs4
    rw [List.set_set] at o4
    try rw [List.set_set]
    simp (disch := omega) only [wrapI, Int.add_assoc, Int.reduceAdd]
    refine own_idx (i := i) eE_len o4 rfl (by simp only [List.length_set]; omega) fun b5 cap5 sp5 hv5 hc5 hs5 hg5 => ?_
    simp only [List.singleton_append, List.cons.injEq, Prod.mk.injEq, and_true] at hg5
    obtain ⟨rfl, hg5⟩ := hg5
    rw [hg5]
    simp only [walk, lists, acts, mem, plain, seqs, maps, cells, resL, resV, intBin, ↓reduceIte, Nat.reduceAdd, Nat.reduceSub, Nat.reduceMul, Nat.reduceLeDiff, Nat.reduceEqDiff, Int.reduceToNat, Int.reduceEq, Int.reduceLT, Int.reduceLE, Int.reduceNeg, Int.reduceAdd, Int.reduceSub, Int.reduceMul, Nat.reducePow, Int.reduceNegSucc]
    refine st_own (i := i) (a' := { E with kind := q, at_ := q + 1, session := q + 2, word := q + 3, keep := q + 4, call := { E.call with session := q + 5 } }) (off := 5) eE_len (by omega) (by simp only [List.length_set]; omega) rfl (by omega) (by rw [List.getElem_set_self]; rfl) ?_
    simp only [walk, lists, acts, mem, plain, seqs, maps, cells, resL, resV, intBin, ↓reduceIte, Nat.reduceAdd, Nat.reduceSub, Nat.reduceMul, Nat.reduceLeDiff, Nat.reduceEqDiff, Int.reduceToNat, Int.reduceEq, Int.reduceLT, Int.reduceLE, Int.reduceNeg, Int.reduceAdd, Int.reduceSub, Int.reduceMul, Nat.reducePow, Int.reduceNegSucc]
    have o5 := own_set (e := e) (i := i) (a' := { E with kind := q, at_ := q + 1, session := q + 2, word := q + 3, keep := q + 4, call := { E.call with session := q + 5 } }) eE_len hv5 hc5 hs5
    rw [List.set_set] at o5
    try rw [List.set_set]
    simp (disch := omega) only [wrapI, Int.add_assoc, Int.reduceAdd]
    refine own_idx (i := i) eE_len o5 rfl (by simp only [List.length_set]; omega) fun b6 cap6 sp6 hv6 hc6 hs6 hg6 => ?_
    simp only [List.singleton_append, List.cons.injEq, Prod.mk.injEq, and_true] at hg6
    obtain ⟨rfl, hg6⟩ := hg6
    rw [hg6]
    simp only [walk, lists, acts, mem, plain, seqs, maps, cells, resL, resV, intBin, ↓reduceIte, Nat.reduceAdd, Nat.reduceSub, Nat.reduceMul, Nat.reduceLeDiff, Nat.reduceEqDiff, Int.reduceToNat, Int.reduceEq, Int.reduceLT, Int.reduceLE, Int.reduceNeg, Int.reduceAdd, Int.reduceSub, Int.reduceMul, Nat.reducePow, Int.reduceNegSucc]
    refine st_own (i := i) (a' := { E with kind := q, at_ := q + 1, session := q + 2, word := q + 3, keep := q + 4, call := { E.call with session := q + 5, number := q + 6 } }) (off := 6) eE_len (by omega) (by simp only [List.length_set]; omega) rfl (by omega) (by rw [List.getElem_set_self]; rfl) ?_
    simp only [walk, lists, acts, mem, plain, seqs, maps, cells, resL, resV, intBin, ↓reduceIte, Nat.reduceAdd, Nat.reduceSub, Nat.reduceMul, Nat.reduceLeDiff, Nat.reduceEqDiff, Int.reduceToNat, Int.reduceEq, Int.reduceLT, Int.reduceLE, Int.reduceNeg, Int.reduceAdd, Int.reduceSub, Int.reduceMul, Nat.reducePow, Int.reduceNegSucc]
    have o6 := own_set (e := e) (i := i) (a' := { E with kind := q, at_ := q + 1, session := q + 2, word := q + 3, keep := q + 4, call := { E.call with session := q + 5, number := q + 6 } }) eE_len hv6 hc6 hs6
    rw [List.set_set] at o6
    try rw [List.set_set]
    simp (disch := omega) only [wrapI, Int.add_assoc, Int.reduceAdd]
    refine own_idx (i := i) eE_len o6 rfl (by simp only [List.length_set]; omega) fun b7 cap7 sp7 hv7 hc7 hs7 hg7 => ?_
    simp only [List.singleton_append, List.cons.injEq, Prod.mk.injEq, and_true] at hg7
    obtain ⟨rfl, hg7⟩ := hg7
    rw [hg7]
    simp only [walk, lists, acts, mem, plain, seqs, maps, cells, resL, resV, intBin, ↓reduceIte, Nat.reduceAdd, Nat.reduceSub, Nat.reduceMul, Nat.reduceLeDiff, Nat.reduceEqDiff, Int.reduceToNat, Int.reduceEq, Int.reduceLT, Int.reduceLE, Int.reduceNeg, Int.reduceAdd, Int.reduceSub, Int.reduceMul, Nat.reducePow, Int.reduceNegSucc]
    refine st_own (i := i) (a' := { E with kind := q, at_ := q + 1, session := q + 2, word := q + 3, keep := q + 4, call := { E.call with session := q + 5, number := q + 6, kind := q + 7 } }) (off := 7) eE_len (by omega) (by simp only [List.length_set]; omega) rfl (by omega) (by rw [List.getElem_set_self]; rfl) ?_
    simp only [walk, lists, acts, mem, plain, seqs, maps, cells, resL, resV, intBin, ↓reduceIte, Nat.reduceAdd, Nat.reduceSub, Nat.reduceMul, Nat.reduceLeDiff, Nat.reduceEqDiff, Int.reduceToNat, Int.reduceEq, Int.reduceLT, Int.reduceLE, Int.reduceNeg, Int.reduceAdd, Int.reduceSub, Int.reduceMul, Nat.reducePow, Int.reduceNegSucc]
    have o7 := own_set (e := e) (i := i) (a' := { E with kind := q, at_ := q + 1, session := q + 2, word := q + 3, keep := q + 4, call := { E.call with session := q + 5, number := q + 6, kind := q + 7 } }) eE_len hv7 hc7 hs7
    rw [List.set_set] at o7
    try rw [List.set_set]
    simp (disch := omega) only [wrapI, Int.add_assoc, Int.reduceAdd]
    refine markText_c (k := q + 8) (by omega) ?_
    simp only [walk, lists, acts, mem, plain, seqs, maps, cells, resL, resV, intBin, ↓reduceIte, Nat.reduceAdd, Nat.reduceSub, Nat.reduceMul, Nat.reduceLeDiff, Nat.reduceEqDiff, Int.reduceToNat, Int.reduceEq, Int.reduceLT, Int.reduceLE, Int.reduceNeg, Int.reduceAdd, Int.reduceSub, Int.reduceMul, Nat.reducePow, Int.reduceNegSucc, str]
    refine own_idx (i := i) eE_len o7 rfl (by simp only [List.length_set]; omega) fun b8 cap8 sp8 hv8 hc8 hs8 hg8 => ?_
    simp only [List.singleton_append, List.cons.injEq, Prod.mk.injEq, and_true] at hg8
    obtain ⟨rfl, hg8⟩ := hg8
    rw [hg8]
    simp only [walk, lists, acts, mem, plain, seqs, maps, cells, resL, resV, intBin, ↓reduceIte, Nat.reduceAdd, Nat.reduceSub, Nat.reduceMul, Nat.reduceLeDiff, Nat.reduceEqDiff, Int.reduceToNat, Int.reduceEq, Int.reduceLT, Int.reduceLE, Int.reduceNeg, Int.reduceAdd, Int.reduceSub, Int.reduceMul, Nat.reducePow, Int.reduceNegSucc]
    refine st_own (i := i) (a' := { E with kind := q, at_ := q + 1, session := q + 2, word := q + 3, keep := q + 4, call := { E.call with session := q + 5, number := q + 6, kind := q + 7, text := mT (q + 8) } }) (off := 8) eE_len (by omega) (by simp only [List.length_set]; omega) rfl (by omega) (by rw [List.getElem_set_self]; rfl) ?_
    simp only [walk, lists, acts, mem, plain, seqs, maps, cells, resL, resV, intBin, ↓reduceIte, Nat.reduceAdd, Nat.reduceSub, Nat.reduceMul, Nat.reduceLeDiff, Nat.reduceEqDiff, Int.reduceToNat, Int.reduceEq, Int.reduceLT, Int.reduceLE, Int.reduceNeg, Int.reduceAdd, Int.reduceSub, Int.reduceMul, Nat.reducePow, Int.reduceNegSucc]
    have o8 := own_set (e := e) (i := i) (a' := { E with kind := q, at_ := q + 1, session := q + 2, word := q + 3, keep := q + 4, call := { E.call with session := q + 5, number := q + 6, kind := q + 7, text := mT (q + 8) } }) eE_len hv8 hc8 hs8
    rw [List.set_set] at o8
    try rw [List.set_set]
    simp (disch := omega) only [wrapI, Int.add_assoc, Int.reduceAdd]
    refine own_idx (i := i) eE_len o8 rfl (by simp only [List.length_set]; omega) fun b9 cap9 sp9 hv9 hc9 hs9 hg9 => ?_
    simp only [List.singleton_append, List.cons.injEq, Prod.mk.injEq, and_true] at hg9
    obtain ⟨rfl, hg9⟩ := hg9
    rw [hg9]
    simp only [walk, lists, acts, mem, plain, seqs, maps, cells, resL, resV, intBin, ↓reduceIte, Nat.reduceAdd, Nat.reduceSub, Nat.reduceMul, Nat.reduceLeDiff, Nat.reduceEqDiff, Int.reduceToNat, Int.reduceEq, Int.reduceLT, Int.reduceLE, Int.reduceNeg, Int.reduceAdd, Int.reduceSub, Int.reduceMul, Nat.reducePow, Int.reduceNegSucc]
    refine st_own (i := i) (a' := { E with kind := q, at_ := q + 1, session := q + 2, word := q + 3, keep := q + 4, call := { E.call with session := q + 5, number := q + 6, kind := q + 7, text := mT (q + 8), slot := q + 9 } }) (off := 9) eE_len (by omega) (by simp only [List.length_set]; omega) rfl (by omega) (by rw [List.getElem_set_self]; rfl) ?_
    simp only [walk, lists, acts, mem, plain, seqs, maps, cells, resL, resV, intBin, ↓reduceIte, Nat.reduceAdd, Nat.reduceSub, Nat.reduceMul, Nat.reduceLeDiff, Nat.reduceEqDiff, Int.reduceToNat, Int.reduceEq, Int.reduceLT, Int.reduceLE, Int.reduceNeg, Int.reduceAdd, Int.reduceSub, Int.reduceMul, Nat.reducePow, Int.reduceNegSucc]
    have o9 := own_set (e := e) (i := i) (a' := { E with kind := q, at_ := q + 1, session := q + 2, word := q + 3, keep := q + 4, call := { E.call with session := q + 5, number := q + 6, kind := q + 7, text := mT (q + 8), slot := q + 9 } }) eE_len hv9 hc9 hs9
    rw [List.set_set] at o9
    try rw [List.set_set]
    simp (disch := omega) only [wrapI, Int.add_assoc, Int.reduceAdd]
    refine own_idx (i := i) eE_len o9 rfl (by simp only [List.length_set]; omega) fun b10 cap10 sp10 hv10 hc10 hs10 hg10 => ?_
    simp only [List.singleton_append, List.cons.injEq, Prod.mk.injEq, and_true] at hg10
    obtain ⟨rfl, hg10⟩ := hg10
    rw [hg10]
    simp only [walk, lists, acts, mem, plain, seqs, maps, cells, resL, resV, intBin, ↓reduceIte, Nat.reduceAdd, Nat.reduceSub, Nat.reduceMul, Nat.reduceLeDiff, Nat.reduceEqDiff, Int.reduceToNat, Int.reduceEq, Int.reduceLT, Int.reduceLE, Int.reduceNeg, Int.reduceAdd, Int.reduceSub, Int.reduceMul, Nat.reducePow, Int.reduceNegSucc]
    refine st_own (i := i) (a' := { E with kind := q, at_ := q + 1, session := q + 2, word := q + 3, keep := q + 4, call := { E.call with session := q + 5, number := q + 6, kind := q + 7, text := mT (q + 8), slot := q + 9, to := q + 10 } }) (off := 10) eE_len (by omega) (by simp only [List.length_set]; omega) rfl (by omega) (by rw [List.getElem_set_self]; rfl) ?_
    simp only [walk, lists, acts, mem, plain, seqs, maps, cells, resL, resV, intBin, ↓reduceIte, Nat.reduceAdd, Nat.reduceSub, Nat.reduceMul, Nat.reduceLeDiff, Nat.reduceEqDiff, Int.reduceToNat, Int.reduceEq, Int.reduceLT, Int.reduceLE, Int.reduceNeg, Int.reduceAdd, Int.reduceSub, Int.reduceMul, Nat.reducePow, Int.reduceNegSucc]
    have o10 := own_set (e := e) (i := i) (a' := { E with kind := q, at_ := q + 1, session := q + 2, word := q + 3, keep := q + 4, call := { E.call with session := q + 5, number := q + 6, kind := q + 7, text := mT (q + 8), slot := q + 9, to := q + 10 } }) eE_len hv10 hc10 hs10
    rw [List.set_set] at o10
    try rw [List.set_set]
    simp (disch := omega) only [wrapI, Int.add_assoc, Int.reduceAdd]
    refine ⟨l.length - (i + 1), by omega, _, .refl _, i + 1, _, ?_, rfl, Dj.one dj'.one', ?_, by omega, rfl⟩
    · simp; omega
    · have e1 := mkTollEvent_set k l i (by omega)
      rw [← hL, ← hq] at e1
      rw [← e1]
      exact o10
  · rename_i c1
    have hi' : i = l.length := by omega
    subst hi'
    simp only [List.drop_length, List.append_nil] at o'
    exact .of (kr g' o' dj')

theorem heldTollEventS_c {h : H} {v : Value} {l : List DTollEvent} {k : Int} (r : rLs h cTollEvent 11 v l) (hm : l = mkTollEvent k l.length) (hl : l.length ≤ 1048576) (hk : 1 ≤ k ∧ k ≤ 1048576) {R : Ending → H → Prop}
    (kr : R (.returned (.int .i64 (k + 11 * l.length))) h) : HCalls Tryd.prog 13 #[v, .int .i64 k] h R := by
  refine HCalls_ir (args := [v, .int .i64 k]) Tryd.func13 ir13 ?_
  simp only [walk, lists, acts, mem, plain, seqs, maps, cells, resL, resV, intBin, ↓reduceIte, Nat.reduceAdd, Nat.reduceSub, Nat.reduceMul, Nat.reduceLeDiff, Nat.reduceEqDiff, Int.reduceToNat, Int.reduceEq, Int.reduceLT, Int.reduceLE, Int.reduceNeg, Int.reduceAdd, Int.reduceSub, Int.reduceMul, Nat.reducePow, Int.reduceNegSucc]
  refine vc_loop [5, 1] (fun n vs h' => ∃ (i : Nat), vs = [.int .i64 i, .int .i64 (k + 11 * (i : Int))] ∧ h' = h ∧ i ≤ l.length ∧ n = l.length - i) l.length rfl ⟨0, by simp, rfl, by omega, rfl⟩ ?_
  rintro n f h' ⟨i, hv, rfl, hi, rfl⟩
  simp only [List.map_cons, List.map_nil, List.cons.injEq, and_true] at hv
  simp only [walk, lists, acts, mem, plain, seqs, maps, cells, resL, resV, intBin, ↓reduceIte, Nat.reduceAdd, Nat.reduceSub, Nat.reduceMul, Nat.reduceLeDiff, Nat.reduceEqDiff, Int.reduceToNat, Int.reduceEq, Int.reduceLT, Int.reduceLE, Int.reduceNeg, Int.reduceAdd, Int.reduceSub, Int.reduceMul, Nat.reducePow, Int.reduceNegSucc, wr, hv.1, hv.2, r.len]
  split
  · rename_i c1
    have hx : l[i]'(by omega) = ⟨(k + 11 * (i : Int)), (k + 11 * (i : Int)) + 1, (k + 11 * (i : Int)) + 2, (k + 11 * (i : Int)) + 3, (k + 11 * (i : Int)) + 4, ⟨(k + 11 * (i : Int)) + 5, (k + 11 * (i : Int)) + 6, (k + 11 * (i : Int)) + 7, mT ((k + 11 * (i : Int)) + 8), (k + 11 * (i : Int)) + 9, (k + 11 * (i : Int)) + 10⟩⟩ := by
      have : ∀ (m : List DTollEvent) (hi : i < m.length), m = mkTollEvent k l.length → m[i] = ⟨(k + 11 * (i : Int)), (k + 11 * (i : Int)) + 1, (k + 11 * (i : Int)) + 2, (k + 11 * (i : Int)) + 3, (k + 11 * (i : Int)) + 4, ⟨(k + 11 * (i : Int)) + 5, (k + 11 * (i : Int)) + 6, (k + 11 * (i : Int)) + 7, mT ((k + 11 * (i : Int)) + 8), (k + 11 * (i : Int)) + 9, (k + 11 * (i : Int)) + 10⟩⟩ := by rintro m hi rfl; exact mkTollEvent_at _ _ _ _
      exact this l _ hm
    obtain ⟨q, hq⟩ : ∃ q : Int, q = k + 11 * (i : Int) := ⟨_, rfl⟩
    have hqb : 1 ≤ q ∧ q ≤ 20000000 := by omega
    rw [← hq] at hx ⊢
    refine idx_leaf (i := i) eE_len r rfl (by omega) fun b0 p0 e0 => ?_
    rw [hx] at e0
    have f0 := hread_c e0 0 rfl
    rw [Nat.add_zero] at f0
    simp (disch := omega) only [walk, lists, acts, mem, plain, seqs, maps, cells, resL, resV, intBin, ↓reduceIte, Nat.reduceAdd, Nat.reduceSub, Nat.reduceMul, Nat.reduceLeDiff, Nat.reduceEqDiff, Int.reduceToNat, Int.reduceEq, Int.reduceLT, Int.reduceLE, Int.reduceNeg, Int.reduceAdd, Int.reduceSub, Int.reduceMul, Nat.reducePow, Int.reduceNegSucc, f0, wrapI, Int.add_assoc, Int.reduceAdd]
    refine idx_leaf (i := i) eE_len r rfl (by omega) fun b1 p1 e1 => ?_
    rw [hx] at e1
    have f1 := hread_c e1 1 rfl
    simp (disch := omega) only [walk, lists, acts, mem, plain, seqs, maps, cells, resL, resV, intBin, ↓reduceIte, Nat.reduceAdd, Nat.reduceSub, Nat.reduceMul, Nat.reduceLeDiff, Nat.reduceEqDiff, Int.reduceToNat, Int.reduceEq, Int.reduceLT, Int.reduceLE, Int.reduceNeg, Int.reduceAdd, Int.reduceSub, Int.reduceMul, Nat.reducePow, Int.reduceNegSucc, f1, wrapI, Int.add_assoc, Int.reduceAdd]
    refine idx_leaf (i := i) eE_len r rfl (by omega) fun b2 p2 e2 => ?_
    rw [hx] at e2
    have f2 := hread_c e2 2 rfl
    simp (disch := omega) only [walk, lists, acts, mem, plain, seqs, maps, cells, resL, resV, intBin, ↓reduceIte, Nat.reduceAdd, Nat.reduceSub, Nat.reduceMul, Nat.reduceLeDiff, Nat.reduceEqDiff, Int.reduceToNat, Int.reduceEq, Int.reduceLT, Int.reduceLE, Int.reduceNeg, Int.reduceAdd, Int.reduceSub, Int.reduceMul, Nat.reducePow, Int.reduceNegSucc, f2, wrapI, Int.add_assoc, Int.reduceAdd]
    refine idx_leaf (i := i) eE_len r rfl (by omega) fun b3 p3 e3 => ?_
    rw [hx] at e3
    have f3 := hread_c e3 3 rfl
    simp (disch := omega) only [walk, lists, acts, mem, plain, seqs, maps, cells, resL, resV, intBin, ↓reduceIte, Nat.reduceAdd, Nat.reduceSub, Nat.reduceMul, Nat.reduceLeDiff, Nat.reduceEqDiff, Int.reduceToNat, Int.reduceEq, Int.reduceLT, Int.reduceLE, Int.reduceNeg, Int.reduceAdd, Int.reduceSub, Int.reduceMul, Nat.reducePow, Int.reduceNegSucc, f3, wrapI, Int.add_assoc, Int.reduceAdd]
    refine idx_leaf (i := i) eE_len r rfl (by omega) fun b4 p4 e4 => ?_
    rw [hx] at e4
    have f4 := hread_c e4 4 rfl
    simp (disch := omega) only [walk, lists, acts, mem, plain, seqs, maps, cells, resL, resV, intBin, ↓reduceIte, Nat.reduceAdd, Nat.reduceSub, Nat.reduceMul, Nat.reduceLeDiff, Nat.reduceEqDiff, Int.reduceToNat, Int.reduceEq, Int.reduceLT, Int.reduceLE, Int.reduceNeg, Int.reduceAdd, Int.reduceSub, Int.reduceMul, Nat.reducePow, Int.reduceNegSucc, f4, wrapI, Int.add_assoc, Int.reduceAdd]
    refine idx_leaf (i := i) eE_len r rfl (by omega) fun b5 p5 e5 => ?_
    rw [hx] at e5
    have f5 := hread_c e5 5 rfl
    simp (disch := omega) only [walk, lists, acts, mem, plain, seqs, maps, cells, resL, resV, intBin, ↓reduceIte, Nat.reduceAdd, Nat.reduceSub, Nat.reduceMul, Nat.reduceLeDiff, Nat.reduceEqDiff, Int.reduceToNat, Int.reduceEq, Int.reduceLT, Int.reduceLE, Int.reduceNeg, Int.reduceAdd, Int.reduceSub, Int.reduceMul, Nat.reducePow, Int.reduceNegSucc, f5, wrapI, Int.add_assoc, Int.reduceAdd]
    refine idx_leaf (i := i) eE_len r rfl (by omega) fun b6 p6 e6 => ?_
    rw [hx] at e6
    have f6 := hread_c e6 6 rfl
    simp (disch := omega) only [walk, lists, acts, mem, plain, seqs, maps, cells, resL, resV, intBin, ↓reduceIte, Nat.reduceAdd, Nat.reduceSub, Nat.reduceMul, Nat.reduceLeDiff, Nat.reduceEqDiff, Int.reduceToNat, Int.reduceEq, Int.reduceLT, Int.reduceLE, Int.reduceNeg, Int.reduceAdd, Int.reduceSub, Int.reduceMul, Nat.reducePow, Int.reduceNegSucc, f6, wrapI, Int.add_assoc, Int.reduceAdd]
    refine idx_leaf (i := i) eE_len r rfl (by omega) fun b7 p7 e7 => ?_
    rw [hx] at e7
    have f7 := hread_c e7 7 rfl
    simp (disch := omega) only [walk, lists, acts, mem, plain, seqs, maps, cells, resL, resV, intBin, ↓reduceIte, Nat.reduceAdd, Nat.reduceSub, Nat.reduceMul, Nat.reduceLeDiff, Nat.reduceEqDiff, Int.reduceToNat, Int.reduceEq, Int.reduceLT, Int.reduceLE, Int.reduceNeg, Int.reduceAdd, Int.reduceSub, Int.reduceMul, Nat.reducePow, Int.reduceNegSucc, f7, wrapI, Int.add_assoc, Int.reduceAdd]
    refine vc_draw _ (Sub.refl _) ?_
    simp only [walk, lists, acts, mem, plain, seqs, maps, cells, resL, resV, intBin, ↓reduceIte, Nat.reduceAdd, Nat.reduceSub, Nat.reduceMul, Nat.reduceLeDiff, Nat.reduceEqDiff, Int.reduceToNat, Int.reduceEq, Int.reduceLT, Int.reduceLE, Int.reduceNeg, Int.reduceAdd, Int.reduceSub, Int.reduceMul, Nat.reducePow, Int.reduceNegSucc]
    refine idx_leaf (i := i) eE_len r rfl (by omega) fun b8 p8 e8 => ?_
    rw [hx] at e8
    have f8 := hread_c e8 8 rfl
    simp only [walk, lists, acts, mem, plain, seqs, maps, cells, resL, resV, intBin, ↓reduceIte, Nat.reduceAdd, Nat.reduceSub, Nat.reduceMul, Nat.reduceLeDiff, Nat.reduceEqDiff, Int.reduceToNat, Int.reduceEq, Int.reduceLT, Int.reduceLE, Int.reduceNeg, Int.reduceAdd, Int.reduceSub, Int.reduceMul, Nat.reducePow, Int.reduceNegSucc, f8]
    refine markText_c (k := q + 8) (by omega) ?_
    simp (disch := omega) only [walk, lists, acts, mem, plain, seqs, maps, cells, resL, resV, intBin, ↓reduceIte, Nat.reduceAdd, Nat.reduceSub, Nat.reduceMul, Nat.reduceLeDiff, Nat.reduceEqDiff, Int.reduceToNat, Int.reduceEq, Int.reduceLT, Int.reduceLE, Int.reduceNeg, Int.reduceAdd, Int.reduceSub, Int.reduceMul, Nat.reducePow, Int.reduceNegSucc, strBin, str_inj, wrapI, Int.add_assoc, Int.reduceAdd]
    refine idx_leaf (i := i) eE_len r rfl (by omega) fun b9 p9 e9 => ?_
    rw [hx] at e9
    have f9 := hread_c e9 9 rfl
    simp (disch := omega) only [walk, lists, acts, mem, plain, seqs, maps, cells, resL, resV, intBin, ↓reduceIte, Nat.reduceAdd, Nat.reduceSub, Nat.reduceMul, Nat.reduceLeDiff, Nat.reduceEqDiff, Int.reduceToNat, Int.reduceEq, Int.reduceLT, Int.reduceLE, Int.reduceNeg, Int.reduceAdd, Int.reduceSub, Int.reduceMul, Nat.reducePow, Int.reduceNegSucc, f9, wrapI, Int.add_assoc, Int.reduceAdd]
    refine idx_leaf (i := i) eE_len r rfl (by omega) fun b10 p10 e10 => ?_
    rw [hx] at e10
    have f10 := hread_c e10 10 rfl
    simp (disch := omega) only [walk, lists, acts, mem, plain, seqs, maps, cells, resL, resV, intBin, ↓reduceIte, Nat.reduceAdd, Nat.reduceSub, Nat.reduceMul, Nat.reduceLeDiff, Nat.reduceEqDiff, Int.reduceToNat, Int.reduceEq, Int.reduceLT, Int.reduceLE, Int.reduceNeg, Int.reduceAdd, Int.reduceSub, Int.reduceMul, Nat.reducePow, Int.reduceNegSucc, f10, wrapI, Int.add_assoc, Int.reduceAdd]
    exact ⟨l.length - (i + 1), by omega, h', .refl _, i + 1, by simp; omega, rfl, by omega, rfl⟩
  · rename_i c1
    have hi' : i = l.length := by omega
    subst hi'
    exact .of kr
end Go.Proofs.YtdlgaidjlepepaaDoor
end

/- Scripts that are read: the reference's. -/
section
set_option linter.unusedVariables false
set_option linter.unusedSimpArgs false
set_option maxRecDepth 20000
attribute [local irreducible] Go.Tk.vc Go.Tk.vops Go.Tk.vdr Go.Tk.vop Go.Tk.vfl Go.Tk.HCalls
namespace Go.Tk
open Go
theorem fit_ne {e : DTollEvent} : ¬ Fit e [] := by
  rintro ⟨f, ns, c, ⟨hf, _⟩, _, hs⟩
  have : ∀ f ∈ forms, f.name ≠ [] := by decide
  have h2 := this f hf
  unfold lineF at hs
  have h3 := congrArg List.length hs
  simp only [List.length_append, List.length_nil] at h3
  exact h2 (List.length_eq_zero_iff.1 (by omega))
open Classical in
noncomputable def evO (s : List UInt8) : Option DTollEvent := if h : ∃ e, Fit e s then some (Classical.choose h) else none
theorem evO_fit {e : DTollEvent} {s : List UInt8} (h : Fit e s) : evO s = some e := by
  have hx : ∃ e, Fit e s := ⟨e, h⟩
  unfold evO
  rw [dif_pos hx]
  exact congrArg some ((Classical.choose_spec hx).inj h)
theorem evO_nil : evO [] = none := by
  unfold evO
  rw [dif_neg]
  rintro ⟨e, h⟩
  exact fit_ne h
def goodL (s : List UInt8) : Prop := s = [] ∨ ∃ e, Fit e s
/-- What a reader of a script says. -/
def TollO (t : List UInt8) (l : List DTollEvent) (n : Int) : Prop :=
  (60000 < t.length ∧ l = [] ∧ n = -1) ∨ (t.length ≤ 60000 ∧ (∀ s ∈ splitB 10 t, goodL s) ∧ n = 0 ∧ l = (splitB 10 t).filterMap evO) ∨
  (t.length ≤ 60000 ∧ l = [] ∧ ∃ (i : Nat) (hi : i < (splitB 10 t).length), ¬ goodL (splitB 10 t)[i] ∧ (∀ j (hj : j < i), goodL ((splitB 10 t)[j]'(by omega))) ∧ n = (i : Int) + 1)
theorem TollO.same {t : List UInt8} {l m : List DTollEvent} {a b : Int} (x : TollO t l a) (y : TollO t m b) : l = m ∧ a = b := by
  rcases x with ⟨x1, rfl, rfl⟩ | ⟨x1, x2, rfl, rfl⟩ | ⟨x1, rfl, i, hi, x2, x3, rfl⟩
  · rcases y with ⟨y1, rfl, rfl⟩ | ⟨y1, _⟩ | ⟨y1, _⟩
    · exact ⟨rfl, rfl⟩
    · omega
    · omega
  · rcases y with ⟨y1, _⟩ | ⟨y1, _, rfl, rfl⟩ | ⟨y1, _, j, hj, y2, _⟩
    · omega
    · exact ⟨rfl, rfl⟩
    · exact absurd (x2 _ (List.getElem_mem hj)) y2
  · rcases y with ⟨y1, _⟩ | ⟨y1, y2, _⟩ | ⟨y1, rfl, j, hj, y2, y3, rfl⟩
    · omega
    · exact absurd (y2 _ (List.getElem_mem hi)) x2
    · refine ⟨rfl, ?_⟩
      by_cases h1 : i < j
      · exact absurd (y3 i h1) x2
      · by_cases h2 : j < i
        · exact absurd (x3 j h2) y2
        · omega
theorem lines_n (t : List UInt8) : (splitB 10 t).length ≤ t.length + 1 := (splitB_len 10 t).1
theorem TollO.len {t : List UInt8} {l : List DTollEvent} {a : Int} (x : TollO t l a) : l.length ≤ 60001 := by
  rcases x with ⟨_, rfl, _⟩ | ⟨x1, _, _, rfl⟩ | ⟨_, rfl, _⟩
  · simp
  · have h1 := List.length_filterMap_le evO (splitB 10 t)
    have h2 := lines_n t
    omega
  · simp
end Go.Tk
namespace Go.Proofs.YtdlgaidjlepepaaDoor
open Go Go.Tk
theorem tEvents : Tryd.prog.underlying 25 = some (.slice 41) := by kernel_rfl
theorem iEvent : InfoIs Tryd.prog 41 11 96 := infoB_is (by kernel_rfl)

theorem specTollRead_c {h : H} {t : List UInt8} (ht : t.length ≤ 4194304) {R : Ending → H → Prop} (k : ∀ v g l n, TollO t l n → oLs 41 cTollEvent 11 v l g → Dj g h → R (.returned (.tuple #[v, .int .i64 n])) (g ++ h)) :
    HCalls Tryd.prog 10 #[.string ⟨t.toArray⟩] h R := by
  refine HCalls_ir (args := [.string ⟨t.toArray⟩]) Tryd.func10 ir10 ?_
  have zs := zTollEvent_eq
  simp only [str] at zs
  simp only [walk, lists, acts, mem, plain, seqs, maps, cells, resL, resV, intBin, ↓reduceIte, Nat.reduceAdd, Nat.reduceSub, Nat.reduceMul, Nat.reduceLeDiff, Nat.reduceEqDiff, Int.reduceToNat, Int.reduceEq, Int.reduceLT, Int.reduceLE, Int.reduceNeg, Int.reduceAdd, Int.reduceSub, Int.reduceMul, Nat.reducePow, Int.reduceNegSucc, str, zs]
  refine newB_intro (o := blk (fl cTollEvent []) 41) fun jn hjn => ?_
  have on : oLs 41 cTollEvent 11 (.slice (some ⟨jn, 0, none⟩) 0 0) [] [(jn, blk (fl cTollEvent []) 41)] := oLs_new eE_len
  have bad : ∀ {M : H} {n : Int}, Tk.Sub ((jn, blk (fl cTollEvent []) 41) :: h) M → TollO t [] n → dP R (.returned (.tuple #[.slice (some ⟨jn, 0, none⟩) 0 0, .int .i64 n])) M := fun {M n} sM e => ⟨_, sM, k _ _ [] n e on (by simp only [subs, hjn])⟩
  simp only [walk, lists, acts, mem, plain, seqs, maps, cells, resL, resV, intBin, ↓reduceIte, Nat.reduceAdd, Nat.reduceSub, Nat.reduceMul, Nat.reduceLeDiff, Nat.reduceEqDiff, Int.reduceToNat, Int.reduceEq, Int.reduceLT, Int.reduceLE, Int.reduceNeg, Int.reduceAdd, Int.reduceSub, Int.reduceMul, Nat.reducePow, Int.reduceNegSucc, str, zs]
  refine ite_lt (fun c => bad (.refl _) (.inl ⟨by omega, rfl, rfl⟩)) fun c => ?_
  have ht6 : t.length ≤ 60000 := by omega
  refine newB_intro (o := blk (fl cTollEvent []) 41) fun jo hjo => ?_
  have no := hjo
  simp only [subs] at no
  have ejn : ¬ jn = jo := fun e => no.1 e.symm
  have oo : oLs 41 cTollEvent 11 (.slice (some ⟨jo, 0, none⟩) 0 0) [] [(jo, blk (fl cTollEvent []) 41)] := oLs_new eE_len
  simp only [walk, lists, acts, mem, plain, seqs, maps, cells, resL, resV, intBin, ↓reduceIte, Nat.reduceAdd, Nat.reduceSub, Nat.reduceMul, Nat.reduceLeDiff, Nat.reduceEqDiff, Int.reduceToNat, Int.reduceEq, Int.reduceLT, Int.reduceLE, Int.reduceNeg, Int.reduceAdd, Int.reduceSub, Int.reduceMul, Nat.reducePow, Int.reduceNegSucc, str, zs]
  refine l1Cut_c (c := 10) (by omega) fun pv gp op dp => ?_
  obtain ⟨ps, hps⟩ : ∃ ps, ps = splitB 10 t := ⟨_, rfl⟩
  have hpl := lines_n t
  have hpw := (splitB_len 10 t).2
  rw [← hps] at op hpl hpw
  have dpx := dp
  simp only [subs] at dpx
  obtain ⟨B, hB⟩ : ∃ B, B = gp ++ ((jn, blk (fl cTollEvent []) 41) :: h) := ⟨_, rfl⟩
  have sB : Tk.Sub ((jn, blk (fl cTollEvent []) 41) :: h) B := by rw [hB]; (repeat' first | exact Sub.refl _ | exact Sub.nil _ | assumption | refine Sub.both ?_ ?_ | refine Sub.cons_of (by simp only [subs, dpx, hjn]) ?_ | exact Sub.left _ _ | refine Sub.app (by simp only [subs, dpx, hjn]) ?_ | refine Sub.cons (by simp only [subs, dpx, hjn]) ?_)
  have rpB : rLs B eT 1 pv ps := op.rd.sub (by rw [hB]; exact Sub.left _ _)
  have hBo : hget B jo = none := by rw [hB]; simp only [subs, dpx, no]
  simp only [walk, lists, acts, mem, plain, seqs, maps, cells, resL, resV, intBin, ↓reduceIte, Nat.reduceAdd, Nat.reduceSub, Nat.reduceMul, Nat.reduceLeDiff, Nat.reduceEqDiff, Int.reduceToNat, Int.reduceEq, Int.reduceLT, Int.reduceLE, Int.reduceNeg, Int.reduceAdd, Int.reduceSub, Int.reduceMul, Nat.reducePow, Int.reduceNegSucc, str, zs, op.rd.len]
  refine vc_loopS [7, 5] (fun n vs h' => ∃ (i : Nat) (v : Value) (G : H), vs = [.int .i64 i, v] ∧ h' = G ++ B ∧ Dj G B ∧ oLs 41 cTollEvent 11 v ((ps.take i).filterMap evO) G ∧ (∀ j (hj : j < i) (hj2 : j < ps.length), goodL ps[j]) ∧ i ≤ ps.length ∧ n = ps.length - i) ps.length rfl
    (g0 := [(jo, blk (fl cTollEvent []) 41)] ++ B) (by rw [hB]; (repeat' first | exact Sub.refl _ | exact Sub.nil _ | assumption | refine Sub.both ?_ ?_ | refine Sub.cons_of (by simp only [subs, dpx, hjn, no, ejn]) ?_ | exact Sub.left _ _ | refine Sub.app (by simp only [subs, dpx, hjn, no, ejn]) ?_ | refine Sub.cons (by simp only [subs, dpx, hjn, no, ejn]) ?_)) ⟨0, _, _, rfl, rfl, by simp only [subs, hBo], oo, fun j hj => by omega, by omega, rfl⟩ ?_
  rintro n f h' ⟨i, v, G, hv, rfl, dG, oG, hgd, hi, rfl⟩
  simp only [List.map_cons, List.map_nil, List.cons.injEq, and_true] at hv
  have sG := Sub.right dG
  have rpG := rpB.sub sG
  simp (disch := omega) only [walk, lists, acts, mem, plain, seqs, maps, cells, resL, resV, intBin, ↓reduceIte, Nat.reduceAdd, Nat.reduceSub, Nat.reduceMul, Nat.reduceLeDiff, Nat.reduceEqDiff, Int.reduceToNat, Int.reduceEq, Int.reduceLT, Int.reduceLE, Int.reduceNeg, Int.reduceAdd, Int.reduceSub, Int.reduceMul, Nat.reducePow, Int.reduceNegSucc, wr, hv.1, hv.2, rpG.len, wrapI, str, zs]
  refine ite_lt (fun c1 => ?_) fun c1 => ?_
  · have hi2 : i < ps.length := by omega
    have nxt : ∀ {v2 : Value} {g2 M : H}, goodL ps[i] → Dj g2 B → oLs 41 cTollEvent 11 v2 ((ps.take (i + 1)).filterMap evO) g2 → Tk.Sub (g2 ++ B) M →
        ∃ m, m < ps.length - i ∧ ∃ g, Tk.Sub g M ∧ ∃ (i' : Nat) (v : Value) (G : H), [Value.int IntKind.i64 (IntKind.i64.wrap ((i : Int) + 1)), v2] = [Value.int IntKind.i64 i', v] ∧ g = G ++ B ∧ Dj G B ∧ oLs 41 cTollEvent 11 v ((ps.take i').filterMap evO) G ∧ (∀ j (hj : j < i') (hj2 : j < ps.length), goodL ps[j]) ∧ i' ≤ ps.length ∧ m = ps.length - i' := fun {v2 g2 M} hg d2 o2 sM =>
      ⟨ps.length - (i + 1), by omega, _, sM, i + 1, v2, g2, by simp (disch := omega) only [wrapI]; simp, rfl, d2, o2, fun j hj hj2 => by
        by_cases e : j = i
        · subst e; exact hg
        · exact hgd j (by omega) hj2, by omega, rfl⟩
    refine idx_leaf (i := i) eT_len rpG rfl hi2 fun b1 o1 e1 => ?_
    have e1' : hread (G ++ B) b1 o1 1 = some [.string ⟨ps[i].toArray⟩] := e1
    simp only [walk, lists, acts, mem, plain, seqs, maps, cells, resL, resV, intBin, ↓reduceIte, Nat.reduceAdd, Nat.reduceSub, Nat.reduceMul, Nat.reduceLeDiff, Nat.reduceEqDiff, Int.reduceToNat, Int.reduceEq, Int.reduceLT, Int.reduceLE, Int.reduceNeg, Int.reduceAdd, Int.reduceSub, Int.reduceMul, Nat.reducePow, Int.reduceNegSucc, hread_1 e1', str, strBin, str_inj, zs]
    refine ite_pos (fun c2 => ?_) fun c2 => ?_
    · refine nxt (.inl c2) dG ?_ (.refl _)
      rw [List.take_succ_eq_append_getElem hi2, List.filterMap_append, c2]
      simp only [List.filterMap_cons, List.filterMap_nil, evO_nil, List.append_nil]
      exact oG
    · refine idx_leaf (i := i) eT_len rpG rfl hi2 fun b2 o2 e2 => ?_
      have e2' : hread (G ++ B) b2 o2 1 = some [.string ⟨ps[i].toArray⟩] := e2
      simp only [walk, lists, acts, mem, plain, seqs, maps, cells, resL, resV, intBin, ↓reduceIte, Nat.reduceAdd, Nat.reduceSub, Nat.reduceMul, Nat.reduceLeDiff, Nat.reduceEqDiff, Int.reduceToNat, Int.reduceEq, Int.reduceLT, Int.reduceLE, Int.reduceNeg, Int.reduceAdd, Int.reduceSub, Int.reduceMul, Nat.reducePow, Int.reduceNegSucc, hread_1 e2', str, zs]
      have hwl := hpw ps[i] (List.getElem_mem hi2)
      refine read_c (by omega) fun e ok he => ?_
      simp only [walk, lists, acts, mem, plain, seqs, maps, cells, resL, resV, intBin, ↓reduceIte, Nat.reduceAdd, Nat.reduceSub, Nat.reduceMul, Nat.reduceLeDiff, Nat.reduceEqDiff, Int.reduceToNat, Int.reduceEq, Int.reduceLT, Int.reduceLE, Int.reduceNeg, Int.reduceAdd, Int.reduceSub, Int.reduceMul, Nat.reducePow, Int.reduceNegSucc, str, zs]
      refine newB_intro fun j8 hj8 => ?_
      have n8 := hj8
      simp only [subs] at n8
      have s8 := Sub.cons (o := blk (cTollEvent e) 41) hj8 (Sub.refl (G ++ B))
      simp only [walk, lists, acts, mem, plain, seqs, maps, cells, resL, resV, intBin, ↓reduceIte, Nat.reduceAdd, Nat.reduceSub, Nat.reduceMul, Nat.reduceLeDiff, Nat.reduceEqDiff, Int.reduceToNat, Int.reduceEq, Int.reduceLT, Int.reduceLE, Int.reduceNeg, Int.reduceAdd, Int.reduceSub, Int.reduceMul, Nat.reducePow, Int.reduceNegSucc, wTollEvent, str, zs]
      cases ok with
      | false =>
        rcases he with ⟨x, _⟩ | ⟨_, he⟩
        · cases x
        simp (disch := omega) only [walk, lists, acts, mem, plain, seqs, maps, cells, resL, resV, intBin, ↓reduceIte, Nat.reduceAdd, Nat.reduceSub, Nat.reduceMul, Nat.reduceLeDiff, Nat.reduceEqDiff, Int.reduceToNat, Int.reduceEq, Int.reduceLT, Int.reduceLE, Int.reduceNeg, Int.reduceAdd, Int.reduceSub, Int.reduceMul, Nat.reducePow, Int.reduceNegSucc, wTollEvent, str, zs, wrapI]
        refine bad (sB.trans (sG.trans s8)) (.inr (.inr ⟨ht6, rfl, i, hps ▸ hi2, ?_, ?_, rfl⟩))
        · have : ∀ (m : List (List UInt8)) (hm : i < m.length), m = splitB 10 t → m[i] = (splitB 10 t)[i]'(hps ▸ hi2) := by rintro m hm rfl; rfl
          rw [← this ps hi2 hps]
          rintro (x | ⟨e', x⟩)
          · exact c2 x
          · exact he e' x
        · intro j hj
          have : ∀ (m : List (List UInt8)) (hm : j < m.length), m = splitB 10 t → m[j] = (splitB 10 t)[j]'(by rw [← hps]; omega) := by rintro m hm rfl; rfl
          rw [← this ps (by omega) hps]
          exact hgd j hj (by omega)
      | true =>
        rcases he with ⟨_, he⟩ | ⟨x, _⟩
        · refine newB_intro (o := blk (fl cTollEvent [e]) 41) fun j7 hj7 => ?_
          simp only [walk, lists, acts, mem, plain, seqs, maps, cells, resL, resV, intBin, ↓reduceIte, Nat.reduceAdd, Nat.reduceSub, Nat.reduceMul, Nat.reduceLeDiff, Nat.reduceEqDiff, Int.reduceToNat, Int.reduceEq, Int.reduceLT, Int.reduceLE, Int.reduceNeg, Int.reduceAdd, Int.reduceSub, Int.reduceMul, Nat.reducePow, Int.reduceNegSucc, wTollEvent, str, zs]
          refine app_leaf (g := G) (h := B) eE_len eE_one tEvents iEvent (s8.trans (Sub.cons hj7 (Sub.refl _))) dG oG (rL_lit (e := 41) eE_len [e]) (by have := List.length_filterMap_le evO (ps.take i); rw [List.length_take] at this; simp; omega) (by have := List.length_filterMap_le evO (ps.take i); rw [List.length_take] at this; simp; omega) fun v3 g3 o3 d3 => ?_
          simp only [walk, lists, acts, mem, plain, seqs, maps, cells, resL, resV, intBin, ↓reduceIte, Nat.reduceAdd, Nat.reduceSub, Nat.reduceMul, Nat.reduceLeDiff, Nat.reduceEqDiff, Int.reduceToNat, Int.reduceEq, Int.reduceLT, Int.reduceLE, Int.reduceNeg, Int.reduceAdd, Int.reduceSub, Int.reduceMul, Nat.reducePow, Int.reduceNegSucc]
          refine nxt (.inr ⟨e, he⟩) d3 ?_ (.refl _)
          rw [List.take_succ_eq_append_getElem hi2, List.filterMap_append]
          simp only [List.filterMap_cons, List.filterMap_nil, evO_fit he]
          exact o3
        · cases x
  · have hi2 : i = ps.length := by omega
    subst hi2
    rw [List.take_length] at oG
    have dh : Dj G h := by
      have := dG
      rw [hB] at this
      simp only [subs] at this
      exact this.2.2
    refine ⟨G ++ h, ?_, k v G _ 0 (.inr (.inl ⟨ht6, fun s hs => ?_, rfl, rfl⟩)) (hps ▸ oG) dh⟩
    · rw [hB] at dG ⊢
      have dg := dG
      simp only [subs] at dg
      (repeat' first | exact Sub.refl _ | exact Sub.nil _ | assumption | refine Sub.both ?_ ?_ | refine Sub.cons_of (by simp only [subs, dg, dpx, hjn]) ?_ | exact Sub.left _ _ | refine Sub.app (by simp only [subs, dg, dpx, hjn]) ?_ | refine Sub.cons (by simp only [subs, dg, dpx, hjn]) ?_)
    · rw [← hps] at hs
      obtain ⟨j, hj, rfl⟩ := List.getElem_of_mem hs
      exact hgd j hj hj
end Go.Proofs.YtdlgaidjlepepaaDoor
end
