/- Parts of the proof, put together: U10, U11, U12, U13, U14. -/
import Derived.Test.YtdlgaidjlepepaaDoorK110
import Derived.Test.YtdlgaidjlepepaaDoorK16
import Derived.Test.YtdlgaidjlepepaaDoorK19
/- How the reference reads lines of scripts. -/
section
set_option linter.unusedVariables false
set_option linter.unusedSimpArgs false
set_option maxRecDepth 20000
attribute [local irreducible] Go.Tk.vc Go.Tk.vops Go.Tk.vdr Go.Tk.vop Go.Tk.vfl Go.Tk.HCalls
namespace Go.Tk
open Go
theorem nm_no32 {k : Nat} (h : k ≤ 10) : (32 : UInt8) ∉ nmAt k := by
  have : ∀ k : Fin 11, (32 : UInt8) ∉ nmAt k.val := by decide
  exact this ⟨k, by omega⟩
theorem nm_inj {k j : Nat} (hk : k ≤ 10) (hj : j ≤ 10) (h : nmAt k = nmAt j) : k = j := by
  have : ∀ k j : Fin 11, nmAt k.val = nmAt j.val → k.val = j.val := by decide
  exact this ⟨k, by omega⟩ ⟨j, by omega⟩ h
theorem fit_split {e : DTollEvent} {s : List UInt8} (h : Fit e s) (hb : ¬ s.take 7 = [98, 101, 103, 105, 110, 115, 32]) : ∃ (k : Nat) (ms : List Int), 2 ≤ k ∧ k ≤ 10 ∧ splitB 32 s = nmAt k :: ms.map decI ∧ allP sm5 ms ∧ (k = 6 → ms.length = 2) ∧ (k ≠ 6 → ms.length = 1) := by
  have one : ∀ (k m : Nat), 2 ≤ k → k ≤ 10 → k ≠ 6 → m ≤ 99999 → ∃ (k' : Nat) (ms : List Int), 2 ≤ k' ∧ k' ≤ 10 ∧ splitB 32 (nmAt k ++ 32 :: decN m) = nmAt k' :: ms.map decI ∧ allP sm5 ms ∧ (k' = 6 → ms.length = 2) ∧ (k' ≠ 6 → ms.length = 1) := fun k m h1 h2 h3 hm =>
    ⟨k, [(m : Int)], h1, h2, by rw [splitB_app _ (nm_no32 h2), splitB_none (decN_no32 m)]; simp [decI_nat], (fun x hx => by rw [List.mem_singleton] at hx; subst hx; exact nat_sm5 hm), fun x => absurd x h3, fun _ => rfl⟩
  revert hb
  refine Fit.elim (M := fun e s => ¬ s.take 7 = [98, 101, 103, 105, 110, 115, 32] → ∃ (k : Nat) (ms : List Int), 2 ≤ k ∧ k ≤ 10 ∧ splitB 32 s = nmAt k :: ms.map decI ∧ allP sm5 ms ∧ (k = 6 → ms.length = 2) ∧ (k ≠ 6 → ms.length = 1)) ?_ ?_ ?_ ?_ ?_ ?_ ?_ ?_ ?_ ?_ ?_ h
  · intro m t _ _ _ x; exact absurd (by simp) x
  · intro m a b _ _ _ x; exact absurd (by simp) x
  · intro m hm _; exact one 2 m (by omega) (by omega) (by omega) hm
  · intro m hm _; exact one 3 m (by omega) (by omega) (by omega) hm
  · intro m hm _; exact one 4 m (by omega) (by omega) (by omega) hm
  · intro m hm _; exact one 10 m (by omega) (by omega) (by omega) hm
  · intro m hm _; exact one 5 m (by omega) (by omega) (by omega) hm
  · intro m b hm hb2 _
    refine ⟨6, [(m : Int), (b : Int)], by omega, by omega, ?_, ?_, fun _ => rfl, fun x => absurd rfl x⟩
    · have := splitB_app (c := 32) (a := nmAt 6) (decN m ++ 32 :: decN b) (nm_no32 (by omega))
      rw [splitB_app _ (decN_no32 m), splitB_none (decN_no32 b)] at this
      simpa [nmAt, namesL, decI_nat] using this
    · intro x hx
      simp only [List.mem_cons, List.not_mem_nil, or_false] at hx
      rcases hx with rfl | rfl
      · exact nat_sm5 hm
      · exact nat_sm5 hb2
  · intro m hm _; exact one 7 m (by omega) (by omega) (by omega) hm
  · intro m hm _; exact one 8 m (by omega) (by omega) (by omega) hm
  · intro m hm _; exact one 9 m (by omega) (by omega) (by omega) hm
theorem rd_two {s : List UInt8} {a b : Int} (hs : splitB 32 s = nmAt 6 :: [a, b].map decI) (ha : sm5 a) (hb : sm5 b) : Fit ⟨6, a, 0, 0, b, zCall⟩ s := by
  obtain ⟨x, rfl, hx⟩ := sm5_nat ha
  obtain ⟨y, rfl, hy⟩ := sm5_nat hb
  rw [splitB_join hs]
  simpa [nmAt, namesL, decI_nat] using fit_falls hx hy
theorem rd_one {s : List UInt8} {k : Nat} {a : Int} (hs : splitB 32 s = nmAt k :: [a].map decI) (ha : sm5 a) :
    (k = 10 → Fit ⟨4, 0, 0, a, 1, zCall⟩ s) ∧ (k = 4 ∨ k = 5 → Fit ⟨(k : Int), 0, 0, a, 0, zCall⟩ s) ∧ (k = 2 ∨ k = 3 → Fit ⟨(k : Int), 0, a, 0, 0, zCall⟩ s) ∧ (k = 7 ∨ k = 8 ∨ k = 9 → Fit ⟨(k : Int), a, 0, 0, 0, zCall⟩ s) := by
  obtain ⟨x, rfl, hx⟩ := sm5_nat ha
  rw [splitB_join hs]
  refine ⟨fun e => ?_, fun e => ?_, fun e => ?_, fun e => ?_⟩
  · subst e; simpa [nmAt, namesL, decI_nat] using fit_doubles hx
  · rcases e with rfl | rfl
    · simpa [nmAt, namesL, decI_nat] using fit_brings hx
    · simpa [nmAt, namesL, decI_nat] using fit_loses hx
  · rcases e with rfl | rfl
    · simpa [nmAt, namesL, decI_nat] using fit_sends hx
    · simpa [nmAt, namesL, decI_nat] using fit_gives hx
  · rcases e with rfl | rfl | rfl
    · simpa [nmAt, namesL, decI_nat] using fit_rises hx
    · simpa [nmAt, namesL, decI_nat] using fit_tends hx
    · simpa [nmAt, namesL, decI_nat] using fit_forces hx
end Go.Tk
namespace Go.Proofs.YtdlgaidjlepepaaDoor
open Go Go.Tk

set_option maxHeartbeats 4000000 in
theorem read_c {h : H} {s : List UInt8} (hs : s.length ≤ 4194304) {R : Ending → H → Prop} (k : ∀ e ok, OutE s e ok → R (.returned (.tuple #[.agg (cTollEvent e).toArray, .bool ok])) h) :
    HCalls Tryd.prog 16 #[.string ⟨s.toArray⟩] h R := by
  refine HCalls_ir (args := [.string ⟨s.toArray⟩]) Tryd.func16 ir16 ?_
  have ze := zTollEvent_eq
  simp only [str] at ze
  simp only [walk, lists, acts, mem, plain, seqs, maps, cells, resL, resV, intBin, ↓reduceIte, Nat.reduceAdd, Nat.reduceSub, Nat.reduceMul, Nat.reduceLeDiff, Nat.reduceEqDiff, Int.reduceToNat, Int.reduceEq, Int.reduceLT, Int.reduceLE, Int.reduceNeg, Int.reduceAdd, Int.reduceSub, Int.reduceMul, Nat.reducePow, Int.reduceNegSucc, wTollEvent, str, ze]
  refine newB_intro fun jr hjr => ?_
  have n1 := hjr
  have sj := fun c => Sub.cons (o := blk (cTollEvent c) 41) hjr (Sub.refl h)
  simp only [walk, lists, acts, mem, plain, seqs, maps, cells, resL, resV, intBin, ↓reduceIte, Nat.reduceAdd, Nat.reduceSub, Nat.reduceMul, Nat.reduceLeDiff, Nat.reduceEqDiff, Int.reduceToNat, Int.reduceEq, Int.reduceLT, Int.reduceLE, Int.reduceNeg, Int.reduceAdd, Int.reduceSub, Int.reduceMul, Nat.reducePow, Int.reduceNegSucc, wTollEvent]
  have no : (∀ e, ¬ Fit e s) → OutE s zTollEvent false := fun f => .inr ⟨rfl, f⟩
  by_cases hd : s.take 7 = [98, 101, 103, 105, 110, 115, 32]
  · have h7 : 7 ≤ s.length := by have := congrArg List.length hd; rw [List.length_take] at this; simp at this; omega
    have h7' : (s.take 7).toArray = #[98, 101, 103, 105, 110, 115, 32] := by rw [hd]
    have dE : s = begB ++ 32 :: s.drop 7 := by
      have : begB ++ 32 :: s.drop 7 = s.take 7 ++ s.drop 7 := by rw [hd]; rfl
      rw [this, List.take_append_drop]
    refine ite_ge (fun _ => ?_) fun x => absurd x (by omega)
    simp only [walk, lists, acts, mem, plain, seqs, maps, cells, resL, resV, intBin, ↓reduceIte, Nat.reduceAdd, Nat.reduceSub, Nat.reduceMul, Nat.reduceLeDiff, Nat.reduceEqDiff, Int.reduceToNat, Int.reduceEq, Int.reduceLT, Int.reduceLE, Int.reduceNeg, Int.reduceAdd, Int.reduceSub, Int.reduceMul, Nat.reducePow, Int.reduceNegSucc, wTollEvent, str, strBin, h7']
    refine ⟨by omega, by omega, ?_⟩
    refine begins_c (by rw [List.length_drop]; omega) fun e ok ho => ?_
    simp only [walk, lists, acts, mem, plain, seqs, maps, cells, resL, resV, intBin, ↓reduceIte, Nat.reduceAdd, Nat.reduceSub, Nat.reduceMul, Nat.reduceLeDiff, Nat.reduceEqDiff, Int.reduceToNat, Int.reduceEq, Int.reduceLT, Int.reduceLE, Int.reduceNeg, Int.reduceAdd, Int.reduceSub, Int.reduceMul, Nat.reducePow, Int.reduceNegSucc, wTollEvent]
    unfold BegO at ho
    rw [← dE] at ho
    exact ⟨h, sj _, k e ok ho⟩
  · have hd2 : ¬ (⟨(s.take 7).toArray⟩ : ByteArray) = ⟨#[98, 101, 103, 105, 110, 115, 32]⟩ := fun e => hd (by
      have := congrArg (fun a : ByteArray => a.data.toList) e
      simpa using this)
    refine ite_ge (fun x => ?_) fun x => ?_
    · simp only [walk, lists, acts, mem, plain, seqs, maps, cells, resL, resV, intBin, ↓reduceIte, Nat.reduceAdd, Nat.reduceSub, Nat.reduceMul, Nat.reduceLeDiff, Nat.reduceEqDiff, Int.reduceToNat, Int.reduceEq, Int.reduceLT, Int.reduceLE, Int.reduceNeg, Int.reduceAdd, Int.reduceSub, Int.reduceMul, Nat.reducePow, Int.reduceNegSucc, wTollEvent, str, strBin, hd2]
      refine ⟨by omega, ?_⟩
      refine l1Cut_c (c := 32) hs fun v g o d => ?_
      have d1 := d
      have d2 := d.symm
      simp only [subs] at d1 d2
      obtain ⟨hsp1, hsp2⟩ := splitB_len 32 s
      obtain ⟨w, r, hw⟩ : ∃ w r, splitB 32 s = w :: r := by
        cases e : splitB 32 s with
        | nil => exact absurd e (splitB_ne 32 s)
        | cons w r => exact ⟨w, r, rfl⟩
      rw [hw] at o hsp1 hsp2
      rw [List.length_cons] at hsp1
      have ro : rLs (g ++ ((jr, blk (cTollEvent zTollEvent) 41) :: h)) eT 1 v (w :: r) := o.rd.sub (Sub.left _ _)
      simp only [walk, lists, acts, mem, plain, seqs, maps, cells, resL, resV, intBin, ↓reduceIte, Nat.reduceAdd, Nat.reduceSub, Nat.reduceMul, Nat.reduceLeDiff, Nat.reduceEqDiff, Int.reduceToNat, Int.reduceEq, Int.reduceLT, Int.reduceLE, Int.reduceNeg, Int.reduceAdd, Int.reduceSub, Int.reduceMul, Nat.reducePow, Int.reduceNegSucc, wTollEvent]
      refine slc_suf eT_len ro (by omega) (by simp only [List.length_cons]; omega) fun v2 r2 => ?_
      have r2' : rLs (g ++ ((jr, blk (cTollEvent zTollEvent) 41) :: h)) eT 1 v2 r := by simpa using r2
      simp only [walk, lists, acts, mem, plain, seqs, maps, cells, resL, resV, intBin, ↓reduceIte, Nat.reduceAdd, Nat.reduceSub, Nat.reduceMul, Nat.reduceLeDiff, Nat.reduceEqDiff, Int.reduceToNat, Int.reduceEq, Int.reduceLT, Int.reduceLE, Int.reduceNeg, Int.reduceAdd, Int.reduceSub, Int.reduceMul, Nat.reducePow, Int.reduceNegSucc, wTollEvent]
      refine nums_c r2' (by omega) (fun x hx => by have := hsp2 x (List.mem_cons_of_mem _ hx); omega) (fun v3 g3 ns hns hr o3 d3 => ?_) fun nn v3 => ?_
      · have d3x := d3
        have d3y := d3.symm
        simp only [subs] at d3x d3y
        simp only [walk, lists, acts, mem, plain, seqs, maps, cells, resL, resV, intBin, ↓reduceIte, Nat.reduceAdd, Nat.reduceSub, Nat.reduceMul, Nat.reduceLeDiff, Nat.reduceEqDiff, Int.reduceToNat, Int.reduceEq, Int.reduceLT, Int.reduceLE, Int.reduceNeg, Int.reduceAdd, Int.reduceSub, Int.reduceMul, Nat.reducePow, Int.reduceNegSucc, wTollEvent]
        refine names_c fun j5 hj5 => ?_
        have n5 := hj5
        simp only [subs] at n5
        have m5' := n5.2.2.1
        have m5 := Ne.symm n5.2.2.1
        have sB : ∀ q, Tk.Sub h ((j5, blk (fl eT namesL) 9) :: (g3 ++ (g ++ ((jr, blk (cTollEvent q) 41) :: h)))) := fun q => by (repeat' first | exact Sub.refl _ | exact Sub.nil _ | assumption | refine Sub.both ?_ ?_ | refine Sub.cons_of (by simp only [subs, d1, d2, d3x, d3y, n1, n5, m5, m5']) ?_ | exact Sub.left _ _ | refine Sub.app (by simp only [subs, d1, d2, d3x, d3y, n1, n5, m5, m5']) ?_ | refine Sub.cons (by simp only [subs, d1, d2, d3x, d3y, n1, n5, m5, m5']) ?_)
        have noT : (∀ k : Nat, 2 ≤ k → k ≤ 10 → nmAt k = w → (k = 6 → ns.length = 2) → (k ≠ 6 → ns.length = 1) → False) → ∀ e, ¬ Fit e s := fun f e ft => by
          obtain ⟨k, ms, h1, h2, h3, h4, h5, h6⟩ := fit_split ft hd
          rw [hw] at h3
          have h7 := congrArg List.length (((List.cons.inj h3).2).symm.trans hr)
          rw [List.length_map, List.length_map] at h7
          exact f k h1 h2 (List.cons.inj h3).1.symm (fun e => by have := h5 e; omega) fun e => by have := h6 e; omega
        simp only [walk, lists, acts, mem, plain, seqs, maps, cells, resL, resV, intBin, ↓reduceIte, Nat.reduceAdd, Nat.reduceSub, Nat.reduceMul, Nat.reduceLeDiff, Nat.reduceEqDiff, Int.reduceToNat, Int.reduceEq, Int.reduceLT, Int.reduceLE, Int.reduceNeg, Int.reduceAdd, Int.reduceSub, Int.reduceMul, Nat.reducePow, Int.reduceNegSucc, wTollEvent]
        have rw1 := ro.sub ((Sub.right d3).trans (Sub.cons (o := blk (fl eT namesL) 9) hj5 (Sub.refl _)))
        have rn := (o3.rd.sub (Sub.left g3 (g ++ ((jr, blk (cTollEvent zTollEvent) 41) :: h)))).sub (Sub.cons (o := blk (fl eT namesL) 9) hj5 (Sub.refl _))
        refine vc_loop [8] (fun n vs h' => ∃ (i : Nat), vs = [.int .i64 i] ∧ h' = (j5, blk (fl eT namesL) 9) :: (g3 ++ (g ++ ((jr, blk (cTollEvent zTollEvent) 41) :: h))) ∧ 2 ≤ i ∧ i ≤ 11 ∧ (∀ k : Nat, 2 ≤ k → k < i → nmAt k ≠ w) ∧ n = 11 - i) 9 rfl
          ⟨2, rfl, rfl, by omega, by omega, (fun k h1 h2 => absurd h2 (by omega)), rfl⟩ ?_
        rintro n f h' ⟨i, hv, rfl, h2, h11, hne, rfl⟩
        simp only [List.map_cons, List.map_nil, List.cons.injEq, and_true] at hv
        simp only [walk, lists, acts, mem, plain, seqs, maps, cells, resL, resV, intBin, ↓reduceIte, Nat.reduceAdd, Nat.reduceSub, Nat.reduceMul, Nat.reduceLeDiff, Nat.reduceEqDiff, Int.reduceToNat, Int.reduceEq, Int.reduceLT, Int.reduceLE, Int.reduceNeg, Int.reduceAdd, Int.reduceSub, Int.reduceMul, Nat.reducePow, Int.reduceNegSucc, wr, hv, wTollEvent]
        refine ite_lt (fun c => ?_) fun c => ?_
        · have hi10 : i ≤ 10 := by omega
          refine vc_draw _ (Sub.refl _) ?_
          simp only [walk, lists, acts, mem, plain, seqs, maps, cells, resL, resV, intBin, ↓reduceIte, Nat.reduceAdd, Nat.reduceSub, Nat.reduceMul, Nat.reduceLeDiff, Nat.reduceEqDiff, Int.reduceToNat, Int.reduceEq, Int.reduceLT, Int.reduceLE, Int.reduceNeg, Int.reduceAdd, Int.reduceSub, Int.reduceMul, Nat.reducePow, Int.reduceNegSucc, wTollEvent]
          refine idx_leaf (i := 0) eT_len rw1 rfl (by simp) fun b1 o1 e1 => ?_
          have e1' : hread ((j5, blk (fl eT namesL) 9) :: (g3 ++ (g ++ ((jr, blk (cTollEvent zTollEvent) 41) :: h)))) b1 o1 1 = some [.string ⟨w.toArray⟩] := e1
          simp only [walk, lists, acts, mem, plain, seqs, maps, cells, resL, resV, intBin, ↓reduceIte, Nat.reduceAdd, Nat.reduceSub, Nat.reduceMul, Nat.reduceLeDiff, Nat.reduceEqDiff, Int.reduceToNat, Int.reduceEq, Int.reduceLT, Int.reduceLE, Int.reduceNeg, Int.reduceAdd, Int.reduceSub, Int.reduceMul, Nat.reducePow, Int.reduceNegSucc, wTollEvent, hread_1 e1', nm_at hi10, strBin, str_inj, o3.rd.len]
          refine ⟨⟨by omega, by omega⟩, ?_⟩
          refine ite_ne (fun cw => ?_) fun cw => ?_
          · simp (disch := omega) only [wrapI]
            refine ⟨11 - (i + 1), by omega, _, .refl _, i + 1, by simp, rfl, by omega, by omega, fun k h1 h3 e => ?_, rfl⟩
            rcases Nat.lt_or_ge k i with h4 | h4
            · exact hne k h1 h4 e
            · have : k = i := by omega
              subst this
              exact cw e.symm
          have hsp : splitB 32 s = nmAt i :: ns.map decI := by rw [hw, cw, hr]
          have noK : (i = 6 → ns.length = 2 → False) → (i ≠ 6 → ns.length = 1 → False) → OutE s zTollEvent false := fun f1 f2 => no (noT fun k h1 h2 h3 h4 h5 => by
            have : k = i := nm_inj h2 hi10 (by rw [h3, cw])
            subst this
            by_cases c : k = 6
            · exact f1 c (h4 c)
            · exact f2 c (h5 c))
          refine ite_pos (fun c6 => ?_) fun c6 => ?_
          · have i6 : i = 6 := by omega
            subst i6
            refine ite_pos (fun c2 => ?_) fun c2 => ?_
            · obtain ⟨a, b, rfl, sa, sb⟩ := two_nums (show ns.length = 2 by omega) hns
              refine vc_draw _ (Sub.refl _) ?_
              simp only [walk, lists, acts, mem, plain, seqs, maps, cells, resL, resV, intBin, ↓reduceIte, Nat.reduceAdd, Nat.reduceSub, Nat.reduceMul, Nat.reduceLeDiff, Nat.reduceEqDiff, Int.reduceToNat, Int.reduceEq, Int.reduceLT, Int.reduceLE, Int.reduceNeg, Int.reduceAdd, Int.reduceSub, Int.reduceMul, Nat.reducePow, Int.reduceNegSucc, wTollEvent]
              refine idx_leaf (i := 0) eI_len rn rfl (by simp) fun b2 o4 e4 => ?_
              simp only [walk, lists, acts, mem, plain, seqs, maps, cells, resL, resV, intBin, ↓reduceIte, Nat.reduceAdd, Nat.reduceSub, Nat.reduceMul, Nat.reduceLeDiff, Nat.reduceEqDiff, Int.reduceToNat, Int.reduceEq, Int.reduceLT, Int.reduceLE, Int.reduceNeg, Int.reduceAdd, Int.reduceSub, Int.reduceMul, Nat.reducePow, Int.reduceNegSucc, wTollEvent, hread_1 e4]
              refine idx_leaf (i := 1) eI_len rn rfl (by simp) fun b3 o5 e5 => ?_
              simp only [walk, lists, acts, mem, plain, seqs, maps, cells, resL, resV, intBin, ↓reduceIte, Nat.reduceAdd, Nat.reduceSub, Nat.reduceMul, Nat.reduceLeDiff, Nat.reduceEqDiff, Int.reduceToNat, Int.reduceEq, Int.reduceLT, Int.reduceLE, Int.reduceNeg, Int.reduceAdd, Int.reduceSub, Int.reduceMul, Nat.reducePow, Int.reduceNegSucc, wTollEvent, hread_1 e5, apps, d1, d3x, m5, List.getElem_cons_zero, List.getElem_cons_succ]
              exact ⟨h, sB _, k ⟨6, a, 0, 0, b, zCall⟩ true (.inl ⟨rfl, rd_two hsp sa sb⟩)⟩
            · have bad := noK (fun _ e => c2 (by omega)) fun e => absurd rfl e
              refine ite_ne (fun c7 => ?_) fun c7 => ?_
              · simp only [apps, d1, d3x, m5, walk, lists, acts, mem, plain, seqs, maps, cells, resL, resV, intBin, ↓reduceIte, Nat.reduceAdd, Nat.reduceSub, Nat.reduceMul, Nat.reduceLeDiff, Nat.reduceEqDiff, Int.reduceToNat, Int.reduceEq, Int.reduceLT, Int.reduceLE, Int.reduceNeg, Int.reduceAdd, Int.reduceSub, Int.reduceMul, Nat.reducePow, Int.reduceNegSucc, wTollEvent]
                exact ⟨h, sB _, k _ _ bad⟩
              · simp only [apps, d1, d3x, m5, walk, lists, acts, mem, plain, seqs, maps, cells, resL, resV, intBin, ↓reduceIte, Nat.reduceAdd, Nat.reduceSub, Nat.reduceMul, Nat.reduceLeDiff, Nat.reduceEqDiff, Int.reduceToNat, Int.reduceEq, Int.reduceLT, Int.reduceLE, Int.reduceNeg, Int.reduceAdd, Int.reduceSub, Int.reduceMul, Nat.reducePow, Int.reduceNegSucc, wTollEvent]
                exact ⟨h, sB _, k _ _ bad⟩
          · refine ite_ne (fun c7 => ?_) fun c7 => ?_
            · have bad := noK (fun e => absurd e (by omega)) fun _ e => c7 (by omega)
              simp only [apps, d1, d3x, m5, walk, lists, acts, mem, plain, seqs, maps, cells, resL, resV, intBin, ↓reduceIte, Nat.reduceAdd, Nat.reduceSub, Nat.reduceMul, Nat.reduceLeDiff, Nat.reduceEqDiff, Int.reduceToNat, Int.reduceEq, Int.reduceLT, Int.reduceLE, Int.reduceNeg, Int.reduceAdd, Int.reduceSub, Int.reduceMul, Nat.reducePow, Int.reduceNegSucc, wTollEvent]
              exact ⟨h, sB _, k _ _ bad⟩
            · obtain ⟨a, rfl, sa⟩ := one_nums (show ns.length = 1 by omega) hns
              obtain ⟨q1, q2, q3, q4⟩ := rd_one hsp sa
              refine ite_pos (fun c8 => absurd c8 c6) fun c8 => ?_
              refine ite_pos (fun c9 => ?_) fun c9 => ?_
              · refine idx_leaf (i := 0) eI_len rn rfl (by simp) fun b2 o4 e4 => ?_
                simp only [walk, lists, acts, mem, plain, seqs, maps, cells, resL, resV, intBin, ↓reduceIte, Nat.reduceAdd, Nat.reduceSub, Nat.reduceMul, Nat.reduceLeDiff, Nat.reduceEqDiff, Int.reduceToNat, Int.reduceEq, Int.reduceLT, Int.reduceLE, Int.reduceNeg, Int.reduceAdd, Int.reduceSub, Int.reduceMul, Nat.reducePow, Int.reduceNegSucc, wTollEvent, hread_1 e4, apps, d1, d3x, m5, List.getElem_cons_zero]
                exact ⟨h, sB _, k ⟨4, 0, 0, a, 1, zCall⟩ true (.inl ⟨rfl, q1 (by omega)⟩)⟩
              refine ite_pos (fun cx4 => ?_) fun cx4 => ?_
              · refine idx_leaf (i := 0) eI_len rn rfl (by simp) fun b2 o4 e4 => ?_
                simp only [walk, lists, acts, mem, plain, seqs, maps, cells, resL, resV, intBin, ↓reduceIte, Nat.reduceAdd, Nat.reduceSub, Nat.reduceMul, Nat.reduceLeDiff, Nat.reduceEqDiff, Int.reduceToNat, Int.reduceEq, Int.reduceLT, Int.reduceLE, Int.reduceNeg, Int.reduceAdd, Int.reduceSub, Int.reduceMul, Nat.reducePow, Int.reduceNegSucc, wTollEvent, hread_1 e4, apps, d1, d3x, m5, List.getElem_cons_zero]
                exact ⟨h, sB _, k ⟨(i : Int), 0, 0, a, 0, zCall⟩ true (.inl ⟨rfl, q2 (by omega)⟩)⟩
              refine ite_pos (fun cx5 => ?_) fun cx5 => ?_
              · refine idx_leaf (i := 0) eI_len rn rfl (by simp) fun b2 o4 e4 => ?_
                simp only [walk, lists, acts, mem, plain, seqs, maps, cells, resL, resV, intBin, ↓reduceIte, Nat.reduceAdd, Nat.reduceSub, Nat.reduceMul, Nat.reduceLeDiff, Nat.reduceEqDiff, Int.reduceToNat, Int.reduceEq, Int.reduceLT, Int.reduceLE, Int.reduceNeg, Int.reduceAdd, Int.reduceSub, Int.reduceMul, Nat.reducePow, Int.reduceNegSucc, wTollEvent, hread_1 e4, apps, d1, d3x, m5, List.getElem_cons_zero]
                exact ⟨h, sB _, k ⟨(i : Int), 0, 0, a, 0, zCall⟩ true (.inl ⟨rfl, q2 (by omega)⟩)⟩
              refine ite_pos (fun cx2 => ?_) fun cx2 => ?_
              · refine idx_leaf (i := 0) eI_len rn rfl (by simp) fun b2 o4 e4 => ?_
                simp only [walk, lists, acts, mem, plain, seqs, maps, cells, resL, resV, intBin, ↓reduceIte, Nat.reduceAdd, Nat.reduceSub, Nat.reduceMul, Nat.reduceLeDiff, Nat.reduceEqDiff, Int.reduceToNat, Int.reduceEq, Int.reduceLT, Int.reduceLE, Int.reduceNeg, Int.reduceAdd, Int.reduceSub, Int.reduceMul, Nat.reducePow, Int.reduceNegSucc, wTollEvent, hread_1 e4, apps, d1, d3x, m5, List.getElem_cons_zero]
                exact ⟨h, sB _, k ⟨(i : Int), 0, a, 0, 0, zCall⟩ true (.inl ⟨rfl, q3 (by omega)⟩)⟩
              refine ite_pos (fun cx3 => ?_) fun cx3 => ?_
              · refine idx_leaf (i := 0) eI_len rn rfl (by simp) fun b2 o4 e4 => ?_
                simp only [walk, lists, acts, mem, plain, seqs, maps, cells, resL, resV, intBin, ↓reduceIte, Nat.reduceAdd, Nat.reduceSub, Nat.reduceMul, Nat.reduceLeDiff, Nat.reduceEqDiff, Int.reduceToNat, Int.reduceEq, Int.reduceLT, Int.reduceLE, Int.reduceNeg, Int.reduceAdd, Int.reduceSub, Int.reduceMul, Nat.reducePow, Int.reduceNegSucc, wTollEvent, hread_1 e4, apps, d1, d3x, m5, List.getElem_cons_zero]
                exact ⟨h, sB _, k ⟨(i : Int), 0, a, 0, 0, zCall⟩ true (.inl ⟨rfl, q3 (by omega)⟩)⟩
              refine idx_leaf (i := 0) eI_len rn rfl (by simp) fun b2 o4 e4 => ?_
              simp only [walk, lists, acts, mem, plain, seqs, maps, cells, resL, resV, intBin, ↓reduceIte, Nat.reduceAdd, Nat.reduceSub, Nat.reduceMul, Nat.reduceLeDiff, Nat.reduceEqDiff, Int.reduceToNat, Int.reduceEq, Int.reduceLT, Int.reduceLE, Int.reduceNeg, Int.reduceAdd, Int.reduceSub, Int.reduceMul, Nat.reducePow, Int.reduceNegSucc, wTollEvent, hread_1 e4, apps, d1, d3x, m5, List.getElem_cons_zero]
              exact ⟨h, sB _, k ⟨(i : Int), a, 0, 0, 0, zCall⟩ true (.inl ⟨rfl, q4 (by omega)⟩)⟩
        · simp only [apps, d1, d3x, m5, walk, lists, acts, mem, plain, seqs, maps, cells, resL, resV, intBin, ↓reduceIte, Nat.reduceAdd, Nat.reduceSub, Nat.reduceMul, Nat.reduceLeDiff, Nat.reduceEqDiff, Int.reduceToNat, Int.reduceEq, Int.reduceLT, Int.reduceLE, Int.reduceNeg, Int.reduceAdd, Int.reduceSub, Int.reduceMul, Nat.reducePow, Int.reduceNegSucc, wTollEvent]
          exact ⟨h, sB _, k _ _ (no (noT fun k h1 h2 h3 _ _ => hne k h1 (by omega) h3))⟩
      · simp only [walk, lists, acts, mem, plain, seqs, maps, cells, resL, resV, intBin, ↓reduceIte, Nat.reduceAdd, Nat.reduceSub, Nat.reduceMul, Nat.reduceLeDiff, Nat.reduceEqDiff, Int.reduceToNat, Int.reduceEq, Int.reduceLT, Int.reduceLE, Int.reduceNeg, Int.reduceAdd, Int.reduceSub, Int.reduceMul, Nat.reducePow, Int.reduceNegSucc, wTollEvent]
        refine names_c fun j5 hj5 => ?_
        have n5 := hj5
        simp only [subs] at n5
        have m5' := n5.2.1
        have m5 := Ne.symm n5.2.1
        simp only [walk, lists, acts, mem, plain, seqs, maps, cells, resL, resV, intBin, ↓reduceIte, Nat.reduceAdd, Nat.reduceSub, Nat.reduceMul, Nat.reduceLeDiff, Nat.reduceEqDiff, Int.reduceToNat, Int.reduceEq, Int.reduceLT, Int.reduceLE, Int.reduceNeg, Int.reduceAdd, Int.reduceSub, Int.reduceMul, Nat.reducePow, Int.reduceNegSucc, wTollEvent, apps, d1, m5]
        refine ⟨h, by (repeat' first | exact Sub.refl _ | exact Sub.nil _ | assumption | refine Sub.both ?_ ?_ | refine Sub.cons_of (by simp only [subs, d1, d2, n1, n5, m5, m5']) ?_ | exact Sub.left _ _ | refine Sub.app (by simp only [subs, d1, d2, n1, n5, m5, m5']) ?_ | refine Sub.cons (by simp only [subs, d1, d2, n1, n5, m5, m5']) ?_), k _ _ (no fun e ft => nn ?_)⟩
        obtain ⟨k, ms, h1, h2, h3, h4, h5, h6⟩ := fit_split ft hd
        rw [hw] at h3
        exact ⟨ms, h4, (List.cons.inj h3).2⟩
    · refine l1Cut_c (c := 32) hs fun v g o d => ?_
      have d1 := d
      have d2 := d.symm
      simp only [subs] at d1 d2
      obtain ⟨hsp1, hsp2⟩ := splitB_len 32 s
      obtain ⟨w, r, hw⟩ : ∃ w r, splitB 32 s = w :: r := by
        cases e : splitB 32 s with
        | nil => exact absurd e (splitB_ne 32 s)
        | cons w r => exact ⟨w, r, rfl⟩
      rw [hw] at o hsp1 hsp2
      rw [List.length_cons] at hsp1
      have ro : rLs (g ++ ((jr, blk (cTollEvent zTollEvent) 41) :: h)) eT 1 v (w :: r) := o.rd.sub (Sub.left _ _)
      simp only [walk, lists, acts, mem, plain, seqs, maps, cells, resL, resV, intBin, ↓reduceIte, Nat.reduceAdd, Nat.reduceSub, Nat.reduceMul, Nat.reduceLeDiff, Nat.reduceEqDiff, Int.reduceToNat, Int.reduceEq, Int.reduceLT, Int.reduceLE, Int.reduceNeg, Int.reduceAdd, Int.reduceSub, Int.reduceMul, Nat.reducePow, Int.reduceNegSucc, wTollEvent]
      refine slc_suf eT_len ro (by omega) (by simp only [List.length_cons]; omega) fun v2 r2 => ?_
      have r2' : rLs (g ++ ((jr, blk (cTollEvent zTollEvent) 41) :: h)) eT 1 v2 r := by simpa using r2
      simp only [walk, lists, acts, mem, plain, seqs, maps, cells, resL, resV, intBin, ↓reduceIte, Nat.reduceAdd, Nat.reduceSub, Nat.reduceMul, Nat.reduceLeDiff, Nat.reduceEqDiff, Int.reduceToNat, Int.reduceEq, Int.reduceLT, Int.reduceLE, Int.reduceNeg, Int.reduceAdd, Int.reduceSub, Int.reduceMul, Nat.reducePow, Int.reduceNegSucc, wTollEvent]
      refine nums_c r2' (by omega) (fun x hx => by have := hsp2 x (List.mem_cons_of_mem _ hx); omega) (fun v3 g3 ns hns hr o3 d3 => ?_) fun nn v3 => ?_
      · have d3x := d3
        have d3y := d3.symm
        simp only [subs] at d3x d3y
        simp only [walk, lists, acts, mem, plain, seqs, maps, cells, resL, resV, intBin, ↓reduceIte, Nat.reduceAdd, Nat.reduceSub, Nat.reduceMul, Nat.reduceLeDiff, Nat.reduceEqDiff, Int.reduceToNat, Int.reduceEq, Int.reduceLT, Int.reduceLE, Int.reduceNeg, Int.reduceAdd, Int.reduceSub, Int.reduceMul, Nat.reducePow, Int.reduceNegSucc, wTollEvent]
        refine names_c fun j5 hj5 => ?_
        have n5 := hj5
        simp only [subs] at n5
        have m5' := n5.2.2.1
        have m5 := Ne.symm n5.2.2.1
        have sB : ∀ q, Tk.Sub h ((j5, blk (fl eT namesL) 9) :: (g3 ++ (g ++ ((jr, blk (cTollEvent q) 41) :: h)))) := fun q => by (repeat' first | exact Sub.refl _ | exact Sub.nil _ | assumption | refine Sub.both ?_ ?_ | refine Sub.cons_of (by simp only [subs, d1, d2, d3x, d3y, n1, n5, m5, m5']) ?_ | exact Sub.left _ _ | refine Sub.app (by simp only [subs, d1, d2, d3x, d3y, n1, n5, m5, m5']) ?_ | refine Sub.cons (by simp only [subs, d1, d2, d3x, d3y, n1, n5, m5, m5']) ?_)
        have noT : (∀ k : Nat, 2 ≤ k → k ≤ 10 → nmAt k = w → (k = 6 → ns.length = 2) → (k ≠ 6 → ns.length = 1) → False) → ∀ e, ¬ Fit e s := fun f e ft => by
          obtain ⟨k, ms, h1, h2, h3, h4, h5, h6⟩ := fit_split ft hd
          rw [hw] at h3
          have h7 := congrArg List.length (((List.cons.inj h3).2).symm.trans hr)
          rw [List.length_map, List.length_map] at h7
          exact f k h1 h2 (List.cons.inj h3).1.symm (fun e => by have := h5 e; omega) fun e => by have := h6 e; omega
        simp only [walk, lists, acts, mem, plain, seqs, maps, cells, resL, resV, intBin, ↓reduceIte, Nat.reduceAdd, Nat.reduceSub, Nat.reduceMul, Nat.reduceLeDiff, Nat.reduceEqDiff, Int.reduceToNat, Int.reduceEq, Int.reduceLT, Int.reduceLE, Int.reduceNeg, Int.reduceAdd, Int.reduceSub, Int.reduceMul, Nat.reducePow, Int.reduceNegSucc, wTollEvent]
        have rw1 := ro.sub ((Sub.right d3).trans (Sub.cons (o := blk (fl eT namesL) 9) hj5 (Sub.refl _)))
        have rn := (o3.rd.sub (Sub.left g3 (g ++ ((jr, blk (cTollEvent zTollEvent) 41) :: h)))).sub (Sub.cons (o := blk (fl eT namesL) 9) hj5 (Sub.refl _))
        refine vc_loop [8] (fun n vs h' => ∃ (i : Nat), vs = [.int .i64 i] ∧ h' = (j5, blk (fl eT namesL) 9) :: (g3 ++ (g ++ ((jr, blk (cTollEvent zTollEvent) 41) :: h))) ∧ 2 ≤ i ∧ i ≤ 11 ∧ (∀ k : Nat, 2 ≤ k → k < i → nmAt k ≠ w) ∧ n = 11 - i) 9 rfl
          ⟨2, rfl, rfl, by omega, by omega, (fun k h1 h2 => absurd h2 (by omega)), rfl⟩ ?_
        rintro n f h' ⟨i, hv, rfl, h2, h11, hne, rfl⟩
        simp only [List.map_cons, List.map_nil, List.cons.injEq, and_true] at hv
        simp only [walk, lists, acts, mem, plain, seqs, maps, cells, resL, resV, intBin, ↓reduceIte, Nat.reduceAdd, Nat.reduceSub, Nat.reduceMul, Nat.reduceLeDiff, Nat.reduceEqDiff, Int.reduceToNat, Int.reduceEq, Int.reduceLT, Int.reduceLE, Int.reduceNeg, Int.reduceAdd, Int.reduceSub, Int.reduceMul, Nat.reducePow, Int.reduceNegSucc, wr, hv, wTollEvent]
        refine ite_lt (fun c => ?_) fun c => ?_
        · have hi10 : i ≤ 10 := by omega
          refine vc_draw _ (Sub.refl _) ?_
          simp only [walk, lists, acts, mem, plain, seqs, maps, cells, resL, resV, intBin, ↓reduceIte, Nat.reduceAdd, Nat.reduceSub, Nat.reduceMul, Nat.reduceLeDiff, Nat.reduceEqDiff, Int.reduceToNat, Int.reduceEq, Int.reduceLT, Int.reduceLE, Int.reduceNeg, Int.reduceAdd, Int.reduceSub, Int.reduceMul, Nat.reducePow, Int.reduceNegSucc, wTollEvent]
          refine idx_leaf (i := 0) eT_len rw1 rfl (by simp) fun b1 o1 e1 => ?_
          have e1' : hread ((j5, blk (fl eT namesL) 9) :: (g3 ++ (g ++ ((jr, blk (cTollEvent zTollEvent) 41) :: h)))) b1 o1 1 = some [.string ⟨w.toArray⟩] := e1
          simp only [walk, lists, acts, mem, plain, seqs, maps, cells, resL, resV, intBin, ↓reduceIte, Nat.reduceAdd, Nat.reduceSub, Nat.reduceMul, Nat.reduceLeDiff, Nat.reduceEqDiff, Int.reduceToNat, Int.reduceEq, Int.reduceLT, Int.reduceLE, Int.reduceNeg, Int.reduceAdd, Int.reduceSub, Int.reduceMul, Nat.reducePow, Int.reduceNegSucc, wTollEvent, hread_1 e1', nm_at hi10, strBin, str_inj, o3.rd.len]
          refine ⟨⟨by omega, by omega⟩, ?_⟩
          refine ite_ne (fun cw => ?_) fun cw => ?_
          · simp (disch := omega) only [wrapI]
            refine ⟨11 - (i + 1), by omega, _, .refl _, i + 1, by simp, rfl, by omega, by omega, fun k h1 h3 e => ?_, rfl⟩
            rcases Nat.lt_or_ge k i with h4 | h4
            · exact hne k h1 h4 e
            · have : k = i := by omega
              subst this
              exact cw e.symm
          have hsp : splitB 32 s = nmAt i :: ns.map decI := by rw [hw, cw, hr]
          have noK : (i = 6 → ns.length = 2 → False) → (i ≠ 6 → ns.length = 1 → False) → OutE s zTollEvent false := fun f1 f2 => no (noT fun k h1 h2 h3 h4 h5 => by
            have : k = i := nm_inj h2 hi10 (by rw [h3, cw])
            subst this
            by_cases c : k = 6
            · exact f1 c (h4 c)
            · exact f2 c (h5 c))
          refine ite_pos (fun c6 => ?_) fun c6 => ?_
          · have i6 : i = 6 := by omega
            subst i6
            refine ite_pos (fun c2 => ?_) fun c2 => ?_
            · obtain ⟨a, b, rfl, sa, sb⟩ := two_nums (show ns.length = 2 by omega) hns
              refine vc_draw _ (Sub.refl _) ?_
              simp only [walk, lists, acts, mem, plain, seqs, maps, cells, resL, resV, intBin, ↓reduceIte, Nat.reduceAdd, Nat.reduceSub, Nat.reduceMul, Nat.reduceLeDiff, Nat.reduceEqDiff, Int.reduceToNat, Int.reduceEq, Int.reduceLT, Int.reduceLE, Int.reduceNeg, Int.reduceAdd, Int.reduceSub, Int.reduceMul, Nat.reducePow, Int.reduceNegSucc, wTollEvent]
              refine idx_leaf (i := 0) eI_len rn rfl (by simp) fun b2 o4 e4 => ?_
              simp only [walk, lists, acts, mem, plain, seqs, maps, cells, resL, resV, intBin, ↓reduceIte, Nat.reduceAdd, Nat.reduceSub, Nat.reduceMul, Nat.reduceLeDiff, Nat.reduceEqDiff, Int.reduceToNat, Int.reduceEq, Int.reduceLT, Int.reduceLE, Int.reduceNeg, Int.reduceAdd, Int.reduceSub, Int.reduceMul, Nat.reducePow, Int.reduceNegSucc, wTollEvent, hread_1 e4]
              refine idx_leaf (i := 1) eI_len rn rfl (by simp) fun b3 o5 e5 => ?_
              simp only [walk, lists, acts, mem, plain, seqs, maps, cells, resL, resV, intBin, ↓reduceIte, Nat.reduceAdd, Nat.reduceSub, Nat.reduceMul, Nat.reduceLeDiff, Nat.reduceEqDiff, Int.reduceToNat, Int.reduceEq, Int.reduceLT, Int.reduceLE, Int.reduceNeg, Int.reduceAdd, Int.reduceSub, Int.reduceMul, Nat.reducePow, Int.reduceNegSucc, wTollEvent, hread_1 e5, apps, d1, d3x, m5, List.getElem_cons_zero, List.getElem_cons_succ]
              exact ⟨h, sB _, k ⟨6, a, 0, 0, b, zCall⟩ true (.inl ⟨rfl, rd_two hsp sa sb⟩)⟩
            · have bad := noK (fun _ e => c2 (by omega)) fun e => absurd rfl e
              refine ite_ne (fun c7 => ?_) fun c7 => ?_
              · simp only [apps, d1, d3x, m5, walk, lists, acts, mem, plain, seqs, maps, cells, resL, resV, intBin, ↓reduceIte, Nat.reduceAdd, Nat.reduceSub, Nat.reduceMul, Nat.reduceLeDiff, Nat.reduceEqDiff, Int.reduceToNat, Int.reduceEq, Int.reduceLT, Int.reduceLE, Int.reduceNeg, Int.reduceAdd, Int.reduceSub, Int.reduceMul, Nat.reducePow, Int.reduceNegSucc, wTollEvent]
                exact ⟨h, sB _, k _ _ bad⟩
              · simp only [apps, d1, d3x, m5, walk, lists, acts, mem, plain, seqs, maps, cells, resL, resV, intBin, ↓reduceIte, Nat.reduceAdd, Nat.reduceSub, Nat.reduceMul, Nat.reduceLeDiff, Nat.reduceEqDiff, Int.reduceToNat, Int.reduceEq, Int.reduceLT, Int.reduceLE, Int.reduceNeg, Int.reduceAdd, Int.reduceSub, Int.reduceMul, Nat.reducePow, Int.reduceNegSucc, wTollEvent]
                exact ⟨h, sB _, k _ _ bad⟩
          · refine ite_ne (fun c7 => ?_) fun c7 => ?_
            · have bad := noK (fun e => absurd e (by omega)) fun _ e => c7 (by omega)
              simp only [apps, d1, d3x, m5, walk, lists, acts, mem, plain, seqs, maps, cells, resL, resV, intBin, ↓reduceIte, Nat.reduceAdd, Nat.reduceSub, Nat.reduceMul, Nat.reduceLeDiff, Nat.reduceEqDiff, Int.reduceToNat, Int.reduceEq, Int.reduceLT, Int.reduceLE, Int.reduceNeg, Int.reduceAdd, Int.reduceSub, Int.reduceMul, Nat.reducePow, Int.reduceNegSucc, wTollEvent]
              exact ⟨h, sB _, k _ _ bad⟩
            · obtain ⟨a, rfl, sa⟩ := one_nums (show ns.length = 1 by omega) hns
              obtain ⟨q1, q2, q3, q4⟩ := rd_one hsp sa
              refine ite_pos (fun c8 => absurd c8 c6) fun c8 => ?_
              refine ite_pos (fun c9 => ?_) fun c9 => ?_
              · refine idx_leaf (i := 0) eI_len rn rfl (by simp) fun b2 o4 e4 => ?_
                simp only [walk, lists, acts, mem, plain, seqs, maps, cells, resL, resV, intBin, ↓reduceIte, Nat.reduceAdd, Nat.reduceSub, Nat.reduceMul, Nat.reduceLeDiff, Nat.reduceEqDiff, Int.reduceToNat, Int.reduceEq, Int.reduceLT, Int.reduceLE, Int.reduceNeg, Int.reduceAdd, Int.reduceSub, Int.reduceMul, Nat.reducePow, Int.reduceNegSucc, wTollEvent, hread_1 e4, apps, d1, d3x, m5, List.getElem_cons_zero]
                exact ⟨h, sB _, k ⟨4, 0, 0, a, 1, zCall⟩ true (.inl ⟨rfl, q1 (by omega)⟩)⟩
              refine ite_pos (fun cx4 => ?_) fun cx4 => ?_
              · refine idx_leaf (i := 0) eI_len rn rfl (by simp) fun b2 o4 e4 => ?_
                simp only [walk, lists, acts, mem, plain, seqs, maps, cells, resL, resV, intBin, ↓reduceIte, Nat.reduceAdd, Nat.reduceSub, Nat.reduceMul, Nat.reduceLeDiff, Nat.reduceEqDiff, Int.reduceToNat, Int.reduceEq, Int.reduceLT, Int.reduceLE, Int.reduceNeg, Int.reduceAdd, Int.reduceSub, Int.reduceMul, Nat.reducePow, Int.reduceNegSucc, wTollEvent, hread_1 e4, apps, d1, d3x, m5, List.getElem_cons_zero]
                exact ⟨h, sB _, k ⟨(i : Int), 0, 0, a, 0, zCall⟩ true (.inl ⟨rfl, q2 (by omega)⟩)⟩
              refine ite_pos (fun cx5 => ?_) fun cx5 => ?_
              · refine idx_leaf (i := 0) eI_len rn rfl (by simp) fun b2 o4 e4 => ?_
                simp only [walk, lists, acts, mem, plain, seqs, maps, cells, resL, resV, intBin, ↓reduceIte, Nat.reduceAdd, Nat.reduceSub, Nat.reduceMul, Nat.reduceLeDiff, Nat.reduceEqDiff, Int.reduceToNat, Int.reduceEq, Int.reduceLT, Int.reduceLE, Int.reduceNeg, Int.reduceAdd, Int.reduceSub, Int.reduceMul, Nat.reducePow, Int.reduceNegSucc, wTollEvent, hread_1 e4, apps, d1, d3x, m5, List.getElem_cons_zero]
                exact ⟨h, sB _, k ⟨(i : Int), 0, 0, a, 0, zCall⟩ true (.inl ⟨rfl, q2 (by omega)⟩)⟩
              refine ite_pos (fun cx2 => ?_) fun cx2 => ?_
              · refine idx_leaf (i := 0) eI_len rn rfl (by simp) fun b2 o4 e4 => ?_
                simp only [walk, lists, acts, mem, plain, seqs, maps, cells, resL, resV, intBin, ↓reduceIte, Nat.reduceAdd, Nat.reduceSub, Nat.reduceMul, Nat.reduceLeDiff, Nat.reduceEqDiff, Int.reduceToNat, Int.reduceEq, Int.reduceLT, Int.reduceLE, Int.reduceNeg, Int.reduceAdd, Int.reduceSub, Int.reduceMul, Nat.reducePow, Int.reduceNegSucc, wTollEvent, hread_1 e4, apps, d1, d3x, m5, List.getElem_cons_zero]
                exact ⟨h, sB _, k ⟨(i : Int), 0, a, 0, 0, zCall⟩ true (.inl ⟨rfl, q3 (by omega)⟩)⟩
              refine ite_pos (fun cx3 => ?_) fun cx3 => ?_
              · refine idx_leaf (i := 0) eI_len rn rfl (by simp) fun b2 o4 e4 => ?_
                simp only [walk, lists, acts, mem, plain, seqs, maps, cells, resL, resV, intBin, ↓reduceIte, Nat.reduceAdd, Nat.reduceSub, Nat.reduceMul, Nat.reduceLeDiff, Nat.reduceEqDiff, Int.reduceToNat, Int.reduceEq, Int.reduceLT, Int.reduceLE, Int.reduceNeg, Int.reduceAdd, Int.reduceSub, Int.reduceMul, Nat.reducePow, Int.reduceNegSucc, wTollEvent, hread_1 e4, apps, d1, d3x, m5, List.getElem_cons_zero]
                exact ⟨h, sB _, k ⟨(i : Int), 0, a, 0, 0, zCall⟩ true (.inl ⟨rfl, q3 (by omega)⟩)⟩
              refine idx_leaf (i := 0) eI_len rn rfl (by simp) fun b2 o4 e4 => ?_
              simp only [walk, lists, acts, mem, plain, seqs, maps, cells, resL, resV, intBin, ↓reduceIte, Nat.reduceAdd, Nat.reduceSub, Nat.reduceMul, Nat.reduceLeDiff, Nat.reduceEqDiff, Int.reduceToNat, Int.reduceEq, Int.reduceLT, Int.reduceLE, Int.reduceNeg, Int.reduceAdd, Int.reduceSub, Int.reduceMul, Nat.reducePow, Int.reduceNegSucc, wTollEvent, hread_1 e4, apps, d1, d3x, m5, List.getElem_cons_zero]
              exact ⟨h, sB _, k ⟨(i : Int), a, 0, 0, 0, zCall⟩ true (.inl ⟨rfl, q4 (by omega)⟩)⟩
        · simp only [apps, d1, d3x, m5, walk, lists, acts, mem, plain, seqs, maps, cells, resL, resV, intBin, ↓reduceIte, Nat.reduceAdd, Nat.reduceSub, Nat.reduceMul, Nat.reduceLeDiff, Nat.reduceEqDiff, Int.reduceToNat, Int.reduceEq, Int.reduceLT, Int.reduceLE, Int.reduceNeg, Int.reduceAdd, Int.reduceSub, Int.reduceMul, Nat.reducePow, Int.reduceNegSucc, wTollEvent]
          exact ⟨h, sB _, k _ _ (no (noT fun k h1 h2 h3 _ _ => hne k h1 (by omega) h3))⟩
      · simp only [walk, lists, acts, mem, plain, seqs, maps, cells, resL, resV, intBin, ↓reduceIte, Nat.reduceAdd, Nat.reduceSub, Nat.reduceMul, Nat.reduceLeDiff, Nat.reduceEqDiff, Int.reduceToNat, Int.reduceEq, Int.reduceLT, Int.reduceLE, Int.reduceNeg, Int.reduceAdd, Int.reduceSub, Int.reduceMul, Nat.reducePow, Int.reduceNegSucc, wTollEvent]
        refine names_c fun j5 hj5 => ?_
        have n5 := hj5
        simp only [subs] at n5
        have m5' := n5.2.1
        have m5 := Ne.symm n5.2.1
        simp only [walk, lists, acts, mem, plain, seqs, maps, cells, resL, resV, intBin, ↓reduceIte, Nat.reduceAdd, Nat.reduceSub, Nat.reduceMul, Nat.reduceLeDiff, Nat.reduceEqDiff, Int.reduceToNat, Int.reduceEq, Int.reduceLT, Int.reduceLE, Int.reduceNeg, Int.reduceAdd, Int.reduceSub, Int.reduceMul, Nat.reducePow, Int.reduceNegSucc, wTollEvent, apps, d1, m5]
        refine ⟨h, by (repeat' first | exact Sub.refl _ | exact Sub.nil _ | assumption | refine Sub.both ?_ ?_ | refine Sub.cons_of (by simp only [subs, d1, d2, n1, n5, m5, m5']) ?_ | exact Sub.left _ _ | refine Sub.app (by simp only [subs, d1, d2, n1, n5, m5, m5']) ?_ | refine Sub.cons (by simp only [subs, d1, d2, n1, n5, m5, m5']) ?_), k _ _ (no fun e ft => nn ?_)⟩
        obtain ⟨k, ms, h1, h2, h3, h4, h5, h6⟩ := fit_split ft hd
        rw [hw] at h3
        exact ⟨ms, h4, (List.cons.inj h3).2⟩
end Go.Proofs.YtdlgaidjlepepaaDoor
end

/- Whether two things that happen are the same. -/
section
set_option linter.unusedVariables false
set_option linter.unusedSimpArgs false
set_option maxRecDepth 20000
attribute [local irreducible] Go.Tk.vc Go.Tk.vops Go.Tk.vdr Go.Tk.vop Go.Tk.vfl Go.Tk.HCalls
namespace Go.Proofs.YtdlgaidjlepepaaDoor
open Go Go.Tk

def bCall (a b : DCall) (o : Nat) : Bool := match o with
  | 0 => a.session == b.session
  | 1 => a.number == b.number
  | 2 => a.kind == b.kind
  | 3 => (⟨a.text.toArray⟩ : ByteArray) == ⟨b.text.toArray⟩
  | 4 => a.slot == b.slot
  | _ => a.to == b.to
theorem text_beq (a b : List UInt8) : ((⟨a.toArray⟩ : ByteArray) == ⟨b.toArray⟩) = decide (a = b) := by
  have e : ∀ l : List UInt8, (⟨l.toArray⟩ : ByteArray).toList = l := fun l => by rw [ByteArray.toList_eq]
  rw [beq_toListBytes, e, e]
  by_cases h : a = b
  · subst h; simp
  · rw [decide_eq_false h]
    exact beq_eq_false_iff_ne.2 h
theorem fCall : (Tryd.prog.fieldsOf 39).toList.map (fun f => (f.type, f.offset, f.name == "_")) = [(3, 0, false), (3, 1, false), (3, 2, false), (9, 3, false), (3, 4, false), (3, 5, false)] := by kernel_rfl
theorem all_off {fs : List Field} {l : List (TypeId × Nat × Bool)} (h : fs.map (fun f => (f.type, f.offset, f.name == "_")) = l) (b : Nat → Bool) : fs.all (fun f => b f.offset) = l.all (fun p => b p.2.1) := by
  rw [← h, List.all_map]; rfl
theorem call_eqs {d : Nat} {a b : DCall} {Q : Bool → H → Prop} {E : Value → H → Prop} {h : H} : SH Tryd.prog (Op.equalIn (d + 2) 39 (.agg (cCall a).toArray) (.agg (cCall b).toArray)) Q E h = Q (decide (a = b)) h := by
  have hd : Tryd.prog.underlying 3 = some (.int .i64) := Tryd.underlying3
  have ht : Tryd.prog.underlying 9 = some .string := Tryd.underlying9
  rw [SH_struct (fs := Tryd.prog.fieldsOf 39) (by kernel_rfl) (by kernel_rfl), SH_eqFieldsB (fun f => bCall a b f.offset) fun f hf => ?_]
  · rw [all_off fCall]
    have : ([(3, 0, false), (3, 1, false), (3, 2, false), (9, 3, false), (3, 4, false), (3, 5, false)].all fun p => bCall a b p.2.1) = decide (a = b) := by
      simp only [List.all_cons, List.all_nil, bCall, text_beq, Bool.and_true]
      rw [Bool.eq_iff_iff]
      obtain ⟨a1, a2, a3, a4, a5, a6⟩ := a
      obtain ⟨b1, b2, b3, b4, b5, b6⟩ := b
      simp only [Bool.and_eq_true, beq_iff_eq, decide_eq_true_eq, DCall.mk.injEq]
    rw [this]
  · have hm : (f.type, f.offset, f.name == "_") ∈ [(3, 0, false), (3, 1, false), (3, 2, false), (9, 3, false), (3, 4, false), (3, 5, false)] := fCall ▸ List.mem_map.2 ⟨f, hf, rfl⟩
    simp only [List.mem_cons, List.not_mem_nil, or_false, Prod.mk.injEq] at hm
    have hn : f.name ≠ "_" := by
      rcases hm with ⟨-, -, e⟩ | ⟨-, -, e⟩ | ⟨-, -, e⟩ | ⟨-, -, e⟩ | ⟨-, -, e⟩ | ⟨-, -, e⟩ <;> exact beq_eq_false_iff_ne.1 e
    refine ⟨hn, ?_⟩
    rcases hm with ⟨e1, e2, -⟩ | ⟨e1, e2, -⟩ | ⟨e1, e2, -⟩ | ⟨e1, e2, -⟩ | ⟨e1, e2, -⟩ | ⟨e1, e2, -⟩ <;> rw [e1, e2]
    · exact ⟨.int .i64 a.session, .int .i64 b.session, fun Q h => SH_part hd rfl rfl, fun Q h => SH_part hd rfl rfl, fun Q h => SH_eqIB hd⟩
    · exact ⟨.int .i64 a.number, .int .i64 b.number, fun Q h => SH_part hd rfl rfl, fun Q h => SH_part hd rfl rfl, fun Q h => SH_eqIB hd⟩
    · exact ⟨.int .i64 a.kind, .int .i64 b.kind, fun Q h => SH_part hd rfl rfl, fun Q h => SH_part hd rfl rfl, fun Q h => SH_eqIB hd⟩
    · exact ⟨.string ⟨a.text.toArray⟩, .string ⟨b.text.toArray⟩, fun Q h => SH_part ht rfl rfl, fun Q h => SH_part ht rfl rfl, fun Q h => SH_eqTB ht⟩
    · exact ⟨.int .i64 a.slot, .int .i64 b.slot, fun Q h => SH_part hd rfl rfl, fun Q h => SH_part hd rfl rfl, fun Q h => SH_eqIB hd⟩
    · exact ⟨.int .i64 a.to, .int .i64 b.to, fun Q h => SH_part hd rfl rfl, fun Q h => SH_part hd rfl rfl, fun Q h => SH_eqIB hd⟩
def bEvent (a b : DTollEvent) (o : Nat) : Bool := match o with
  | 0 => a.kind == b.kind
  | 1 => a.at_ == b.at_
  | 2 => a.session == b.session
  | 3 => a.word == b.word
  | 4 => a.keep == b.keep
  | _ => decide (a.call = b.call)
theorem fEvent : (Tryd.prog.fieldsOf 41).toList.map (fun f => (f.type, f.offset, f.name == "_")) = [(3, 0, false), (3, 1, false), (3, 2, false), (3, 3, false), (3, 4, false), (39, 5, false)] := by kernel_rfl
theorem event_eqs {d : Nat} {a b : DTollEvent} {Q : Bool → H → Prop} {E : Value → H → Prop} {h : H} : SH Tryd.prog (Op.equalIn (d + 3) 41 (.agg (cTollEvent a).toArray) (.agg (cTollEvent b).toArray)) Q E h = Q (decide (a = b)) h := by
  have hd : Tryd.prog.underlying 3 = some (.int .i64) := Tryd.underlying3
  obtain ⟨i, hi, hz⟩ : ∃ i, Tryd.prog.info? 39 = some i ∧ i.size = 6 := Option.map_eq_some_iff.1 (show (Tryd.prog.info? 39).map (·.size) = some 6 by kernel_rfl)
  have hc : Tryd.prog.underlying 39 = some (.struct (Tryd.prog.fieldsOf 39)) := by kernel_rfl
  rw [SH_struct (fs := Tryd.prog.fieldsOf 41) (by kernel_rfl) (by kernel_rfl), SH_eqFieldsB (fun f => bEvent a b f.offset) fun f hf => ?_]
  · rw [all_off fEvent]
    have : ([(3, 0, false), (3, 1, false), (3, 2, false), (3, 3, false), (3, 4, false), (39, 5, false)].all fun p => bEvent a b p.2.1) = decide (a = b) := by
      simp only [List.all_cons, List.all_nil, bEvent, Bool.and_true]
      rw [Bool.eq_iff_iff]
      obtain ⟨a1, a2, a3, a4, a5, a6⟩ := a
      obtain ⟨b1, b2, b3, b4, b5, b6⟩ := b
      simp only [Bool.and_eq_true, beq_iff_eq, decide_eq_true_eq, DTollEvent.mk.injEq]
    rw [this]
  · have hm : (f.type, f.offset, f.name == "_") ∈ [(3, 0, false), (3, 1, false), (3, 2, false), (3, 3, false), (3, 4, false), (39, 5, false)] := fEvent ▸ List.mem_map.2 ⟨f, hf, rfl⟩
    simp only [List.mem_cons, List.not_mem_nil, or_false, Prod.mk.injEq] at hm
    have hn : f.name ≠ "_" := by
      rcases hm with ⟨-, -, e⟩ | ⟨-, -, e⟩ | ⟨-, -, e⟩ | ⟨-, -, e⟩ | ⟨-, -, e⟩ | ⟨-, -, e⟩ <;> exact beq_eq_false_iff_ne.1 e
    refine ⟨hn, ?_⟩
    rcases hm with ⟨e1, e2, -⟩ | ⟨e1, e2, -⟩ | ⟨e1, e2, -⟩ | ⟨e1, e2, -⟩ | ⟨e1, e2, -⟩ | ⟨e1, e2, -⟩ <;> rw [e1, e2]
    · exact ⟨.int .i64 a.kind, .int .i64 b.kind, fun Q h => SH_part hd rfl rfl, fun Q h => SH_part hd rfl rfl, fun Q h => SH_eqIB hd⟩
    · exact ⟨.int .i64 a.at_, .int .i64 b.at_, fun Q h => SH_part hd rfl rfl, fun Q h => SH_part hd rfl rfl, fun Q h => SH_eqIB hd⟩
    · exact ⟨.int .i64 a.session, .int .i64 b.session, fun Q h => SH_part hd rfl rfl, fun Q h => SH_part hd rfl rfl, fun Q h => SH_eqIB hd⟩
    · exact ⟨.int .i64 a.word, .int .i64 b.word, fun Q h => SH_part hd rfl rfl, fun Q h => SH_part hd rfl rfl, fun Q h => SH_eqIB hd⟩
    · exact ⟨.int .i64 a.keep, .int .i64 b.keep, fun Q h => SH_part hd rfl rfl, fun Q h => SH_part hd rfl rfl, fun Q h => SH_eqIB hd⟩
    · refine ⟨.agg (cCall a.call).toArray, .agg (cCall b.call).toArray, fun Q h => ?_, fun Q h => ?_, fun Q h => call_eqs⟩
      · rw [SH_partA hc hi (by rw [hz]; exact Nat.le_refl 11), hz]; rfl
      · rw [SH_partA hc hi (by rw [hz]; exact Nat.le_refl 11), hz]; rfl
theorem event_eq {op : BinOp} {x y : Operand} {a b : DTollEvent} {Q : Value → H → Prop} {E : Value → H → Prop} {h : H} (ho : op = .eql ∨ op = .neq) (k : Q (.bool (if op = .eql then decide (a = b) else !decide (a = b))) h) :
    SH Tryd.prog (do eqGuard op 41 x y (.agg (cTollEvent a).toArray) (.agg (cTollEvent b).toArray); binOp op 41 (.agg (cTollEvent a).toArray) (.agg (cTollEvent b).toArray)) Q E h :=
  SH_eqs ho (by kernel_rfl) (fun Q' => event_eqs (d := 9997)) k
end Go.Proofs.YtdlgaidjlepepaaDoor
end

/- How the reference writes a script. -/
section
set_option linter.unusedVariables false
set_option linter.unusedSimpArgs false
set_option maxRecDepth 20000
attribute [local irreducible] Go.Tk.vc Go.Tk.vops Go.Tk.vdr Go.Tk.vop Go.Tk.vfl Go.Tk.HCalls
namespace Go.Tk
open Go
def lines (l : List DTollEvent) : List UInt8 := (l.map fun e => itext e ++ [10]).flatten
def okW (l : List DTollEvent) : Prop := (∀ e ∈ l, ∃ s, Fit e s) ∧ (lines l).length ≤ 60000
theorem lines_app (l m : List DTollEvent) : lines (l ++ m) = lines l ++ lines m := by simp [lines]
theorem lines_one (e : DTollEvent) : lines [e] = itext e ++ [10] := by simp [lines]
theorem lines_take {l : List DTollEvent} {i : Nat} (h : i < l.length) : lines (l.take (i + 1)) = lines (l.take i) ++ (itext l[i] ++ [10]) := by
  rw [List.take_succ_eq_append_getElem h, lines_app, lines_one]
theorem lines_le {l : List DTollEvent} (i : Nat) : (lines (l.take i)).length ≤ (lines l).length := by
  have : lines l = lines (l.take i) ++ lines (l.drop i) := by rw [← lines_app, List.take_append_drop]
  rw [this, List.length_append]; omega
theorem OutE.same {e e' : DTollEvent} {s : List UInt8} {ok : Bool} (o : OutE s e' ok) (hl : ∀ s', Fit e s' → s' = s) : (∃ s', Fit e s') ↔ (ok = true ∧ e' = e) := by
  constructor
  · rintro ⟨s', f⟩
    have := hl s' f
    subst this
    rcases o with ⟨h1, h2⟩ | ⟨_, h2⟩
    · exact ⟨h1, h2.inj f⟩
    · exact absurd f (h2 e)
  · rintro ⟨h1, h2⟩
    rcases o with ⟨_, h3⟩ | ⟨h3, _⟩
    · exact ⟨s, h2 ▸ h3⟩
    · rw [h1] at h3; cases h3
end Go.Tk
namespace Go.Proofs.YtdlgaidjlepepaaDoor
open Go Go.Tk

theorem specWrite_c {h : H} {v : Value} {l : List DTollEvent} (r : rLs h cTollEvent 11 v l) (hl : l.length ≤ 1048576) (hR : ∀ e ∈ l, evR e) (ht : ∀ e ∈ l, e.call.text.length ≤ 1048576) {R : Ending → H → Prop}
    (k1 : okW l → R (.returned (.string ⟨(lines l).toArray⟩)) h) (k2 : ¬ okW l → R (.returned (.string ⟨#[]⟩)) h) : HCalls Tryd.prog 6 #[v] h R := by
  refine HCalls_ir (args := [v]) Tryd.func6 ir6 ?_
  have ze := zTollEvent_eq
  simp only [str] at ze
  simp only [walk, lists, acts, mem, plain, seqs, maps, cells, resL, resV, intBin, ↓reduceIte, Nat.reduceAdd, Nat.reduceSub, Nat.reduceMul, Nat.reduceLeDiff, Nat.reduceEqDiff, Int.reduceToNat, Int.reduceEq, Int.reduceLT, Int.reduceLE, Int.reduceNeg, Int.reduceAdd, Int.reduceSub, Int.reduceMul, Nat.reducePow, Int.reduceNegSucc, str, ze]
  refine vc_loop [4, 3] (fun n vs h' => ∃ (i : Nat), vs = [.int .i64 i, .string ⟨(lines (l.take i)).toArray⟩] ∧ h' = h ∧ (∀ e ∈ l.take i, ∃ s, Fit e s) ∧ (lines (l.take i)).length ≤ 60000 ∧ i ≤ l.length ∧ n = l.length - i) l.length rfl
    ⟨0, rfl, rfl, by simp, by simp [lines], by omega, rfl⟩ ?_
  rintro n f h' ⟨i, hv, rfl, hf, hlen, hi, rfl⟩
  simp only [List.map_cons, List.map_nil, List.cons.injEq, and_true] at hv
  simp only [walk, lists, acts, mem, plain, seqs, maps, cells, resL, resV, intBin, ↓reduceIte, Nat.reduceAdd, Nat.reduceSub, Nat.reduceMul, Nat.reduceLeDiff, Nat.reduceEqDiff, Int.reduceToNat, Int.reduceEq, Int.reduceLT, Int.reduceLE, Int.reduceNeg, Int.reduceAdd, Int.reduceSub, Int.reduceMul, Nat.reducePow, Int.reduceNegSucc, wr, hv.1, hv.2, r.len, str, ze]
  refine ite_lt (fun c => ?_) fun c => ?_
  · have hi2 : i < l.length := by omega
    refine idx_leaf (i := i) eE_len r rfl hi2 fun b1 o1 e1 => ?_
    simp only [walk, lists, acts, mem, plain, seqs, maps, cells, resL, resV, intBin, ↓reduceIte, Nat.reduceAdd, Nat.reduceSub, Nat.reduceMul, Nat.reduceLeDiff, Nat.reduceEqDiff, Int.reduceToNat, Int.reduceEq, Int.reduceLT, Int.reduceLE, Int.reduceNeg, Int.reduceAdd, Int.reduceSub, Int.reduceMul, Nat.reducePow, Int.reduceNegSucc, e1, wTollEvent]
    have hm := List.getElem_mem hi2
    refine line_c (hR _ hm) (ht _ hm) fun s hs hsl => ?_
    simp only [walk, lists, acts, mem, plain, seqs, maps, cells, resL, resV, intBin, ↓reduceIte, Nat.reduceAdd, Nat.reduceSub, Nat.reduceMul, Nat.reduceLeDiff, Nat.reduceEqDiff, Int.reduceToNat, Int.reduceEq, Int.reduceLT, Int.reduceLE, Int.reduceNeg, Int.reduceAdd, Int.reduceSub, Int.reduceMul, Nat.reducePow, Int.reduceNegSucc, wTollEvent]
    refine read_c (by omega) fun e' ok ho => ?_
    simp only [walk, lists, acts, mem, plain, seqs, maps, cells, resL, resV, intBin, ↓reduceIte, Nat.reduceAdd, Nat.reduceSub, Nat.reduceMul, Nat.reduceLeDiff, Nat.reduceEqDiff, Int.reduceToNat, Int.reduceEq, Int.reduceLT, Int.reduceLE, Int.reduceNeg, Int.reduceAdd, Int.reduceSub, Int.reduceMul, Nat.reducePow, Int.reduceNegSucc, wTollEvent]
    refine newB_intro fun j hj => ?_
    have sj := Sub.cons (o := blk (cTollEvent e') 41) hj (Sub.refl h')
    have same := ho.same hs
    have bad : ¬ (ok = true ∧ e' = l[i]) → ¬ okW l := fun x y => x (same.1 (y.1 _ hm))
    simp only [walk, lists, acts, mem, plain, seqs, maps, cells, resL, resV, intBin, ↓reduceIte, Nat.reduceAdd, Nat.reduceSub, Nat.reduceMul, Nat.reduceLeDiff, Nat.reduceEqDiff, Int.reduceToNat, Int.reduceEq, Int.reduceLT, Int.reduceLE, Int.reduceNeg, Int.reduceAdd, Int.reduceSub, Int.reduceMul, Nat.reducePow, Int.reduceNegSucc, wTollEvent]
    refine vc_draw _ (Sub.refl _) ?_
    cases ok with
    | false =>
      simp only [walk, lists, acts, mem, plain, seqs, maps, cells, resL, resV, intBin, ↓reduceIte, Nat.reduceAdd, Nat.reduceSub, Nat.reduceMul, Nat.reduceLeDiff, Nat.reduceEqDiff, Int.reduceToNat, Int.reduceEq, Int.reduceLT, Int.reduceLE, Int.reduceNeg, Int.reduceAdd, Int.reduceSub, Int.reduceMul, Nat.reducePow, Int.reduceNegSucc, wTollEvent, str]
      exact ⟨h', sj, k2 (bad (by simp))⟩
    | true =>
      simp only [walk, lists, acts, mem, plain, seqs, maps, cells, resL, resV, intBin, ↓reduceIte, Nat.reduceAdd, Nat.reduceSub, Nat.reduceMul, Nat.reduceLeDiff, Nat.reduceEqDiff, Int.reduceToNat, Int.reduceEq, Int.reduceLT, Int.reduceLE, Int.reduceNeg, Int.reduceAdd, Int.reduceSub, Int.reduceMul, Nat.reducePow, Int.reduceNegSucc, wTollEvent]
      refine idx_leaf (i := i) eE_len (r.sub sj) rfl hi2 fun b2 o2 e2 => ?_
      simp only [walk, lists, acts, mem, plain, seqs, maps, cells, resL, resV, intBin, ↓reduceIte, Nat.reduceAdd, Nat.reduceSub, Nat.reduceMul, Nat.reduceLeDiff, Nat.reduceEqDiff, Int.reduceToNat, Int.reduceEq, Int.reduceLT, Int.reduceLE, Int.reduceNeg, Int.reduceAdd, Int.reduceSub, Int.reduceMul, Nat.reducePow, Int.reduceNegSucc, wTollEvent, e2]
      refine event_eq (.inr rfl) ?_
      simp only [walk, lists, acts, mem, plain, seqs, maps, cells, resL, resV, intBin, ↓reduceIte, Nat.reduceAdd, Nat.reduceSub, Nat.reduceMul, Nat.reduceLeDiff, Nat.reduceEqDiff, Int.reduceToNat, Int.reduceEq, Int.reduceLT, Int.reduceLE, Int.reduceNeg, Int.reduceAdd, Int.reduceSub, Int.reduceMul, Nat.reducePow, Int.reduceNegSucc, wTollEvent, reduceCtorEq]
      by_cases ce : e' = l[i]
      · subst ce
        have fs : Fit l[i] s := by
          rcases ho with ⟨_, f⟩ | ⟨x, _⟩
          · exact f
          · cases x
        have it := itext_fit fs
        have lt := lines_take hi2
        rw [it] at lt
        have ll := congrArg List.length lt
        simp only [List.length_append, List.length_cons, List.length_nil] at ll
        simp only [walk, lists, acts, mem, plain, seqs, maps, cells, resL, resV, intBin, ↓reduceIte, Nat.reduceAdd, Nat.reduceSub, Nat.reduceMul, Nat.reduceLeDiff, Nat.reduceEqDiff, Int.reduceToNat, Int.reduceEq, Int.reduceLT, Int.reduceLE, Int.reduceNeg, Int.reduceAdd, Int.reduceSub, Int.reduceMul, Nat.reducePow, Int.reduceNegSucc, decide_true, Bool.not_true]
        simp (disch := (first | assumption | (simp only [List.length_append, List.length_cons, List.length_nil]; omega) | omega)) only [walk, lists, acts, mem, plain, seqs, maps, cells, resL, resV, intBin, ↓reduceIte, Nat.reduceAdd, Nat.reduceSub, Nat.reduceMul, Nat.reduceLeDiff, Nat.reduceEqDiff, Int.reduceToNat, Int.reduceEq, Int.reduceLT, Int.reduceLE, Int.reduceNeg, Int.reduceAdd, Int.reduceSub, Int.reduceMul, Nat.reducePow, Int.reduceNegSucc, wTollEvent, str, str_add]
        have el : lines (l.take i) ++ s ++ [10] = lines (l.take (i + 1)) := by rw [lt]; simp
        rw [el]
        refine ite_lt (fun c6 => ?_) fun c6 => ?_
        · exact ⟨h', sj, k2 fun y => by have := y.2; have := lines_le (l := l) (i + 1); omega⟩
        · simp (disch := omega) only [wrapI]
          refine ⟨l.length - (i + 1), by omega, h', sj, i + 1, by simp, rfl, fun e he => ?_, by omega, by omega, rfl⟩
          rw [List.take_succ_eq_append_getElem hi2] at he
          rcases List.mem_append.1 he with he | he
          · exact hf e he
          · rw [List.mem_singleton] at he
            subst he
            exact ⟨s, fs⟩
      · simp only [walk, lists, acts, mem, plain, seqs, maps, cells, resL, resV, intBin, ↓reduceIte, Nat.reduceAdd, Nat.reduceSub, Nat.reduceMul, Nat.reduceLeDiff, Nat.reduceEqDiff, Int.reduceToNat, Int.reduceEq, Int.reduceLT, Int.reduceLE, Int.reduceNeg, Int.reduceAdd, Int.reduceSub, Int.reduceMul, Nat.reducePow, Int.reduceNegSucc, decide_false, Bool.not_false, ce]
        exact ⟨h', sj, k2 (bad (by simp [ce]))⟩
  · have hi2 : i = l.length := by omega
    subst hi2
    rw [List.take_length] at hf hlen ⊢
    exact .of (k1 ⟨hf, hlen⟩)
end Go.Proofs.YtdlgaidjlepepaaDoor
end

/- How the program reads numbers and what calls ask for. -/
section
set_option linter.unusedVariables false
set_option linter.unusedSimpArgs false
set_option maxRecDepth 20000
attribute [local irreducible] Go.Tk.vc Go.Tk.vops Go.Tk.vdr Go.Tk.vop Go.Tk.vfl Go.Tk.HCalls
namespace Go.Proofs.YtdlgaidjlepepaaDoor
open Go Go.Tk

theorem number_c {h : H} {t : List UInt8} (g : Gl h) (ht : t.length ≤ 4194304) {R : Ending → H → Prop}
    (k : ∀ (n : Int) (ok : Bool), i64P n → (∀ m : Nat, numS t = some m → ok = true ∧ n = (m : Int)) → (ok = true → numS t ≠ none) → R (.returned (.tuple #[.int .i64 n, .bool ok])) h) :
    HCalls Tryd.prog 43 #[.string ⟨t.toArray⟩] h R := by
  refine HCalls_ir (args := [.string ⟨t.toArray⟩]) Tryd.func43 ir43 ?_
  simp only [walk, lists, acts, mem, plain, seqs, maps, cells, resL, resV, intBin, ↓reduceIte, Nat.reduceAdd, Nat.reduceSub, Nat.reduceMul, Nat.reduceLeDiff, Nat.reduceEqDiff, Int.reduceToNat, Int.reduceEq, Int.reduceLT, Int.reduceLE, Int.reduceNeg, Int.reduceAdd, Int.reduceSub, Int.reduceMul, Nat.reducePow, Int.reduceNegSucc]
  refine atoi_c g ht fun n e hm hn he => ?_
  have bad : ∀ {b : Bool}, b = false → (e = .nilIface → 0 ≤ n → t.length ≤ 5 → ¬ decI n = t) → dP R (.returned (.tuple #[.int .i64 n, .bool b])) h := fun {b} hb f => by
    subst hb
    refine .of (k n false hn (fun m x => ?_) fun x => by cases x)
    obtain ⟨h1, h2⟩ := hm m x
    obtain ⟨h3, h4⟩ := numS_some x
    exact absurd (by rw [h1, decI_nat]; exact h3.symm) (f h2 (by omega) (by rw [h3]; exact (decN_len5 m).2 h4))
  rcases he with rfl | ⟨y, p, rfl⟩
  · simp only [walk, lists, acts, mem, plain, seqs, maps, cells, resL, resV, intBin, ↓reduceIte, Nat.reduceAdd, Nat.reduceSub, Nat.reduceMul, Nat.reduceLeDiff, Nat.reduceEqDiff, Int.reduceToNat, Int.reduceEq, Int.reduceLT, Int.reduceLE, Int.reduceNeg, Int.reduceAdd, Int.reduceSub, Int.reduceMul, Nat.reducePow, Int.reduceNegSucc, str]
    refine ⟨rfl, ?_⟩
    refine ite_ge (fun c1 => ?_) fun c1 => ?_
    · refine ite_ge (fun c2 => ?_) fun c2 => ?_
      · refine itoa_c g hn ?_
        simp only [walk, lists, acts, mem, plain, seqs, maps, cells, resL, resV, intBin, ↓reduceIte, Nat.reduceAdd, Nat.reduceSub, Nat.reduceMul, Nat.reduceLeDiff, Nat.reduceEqDiff, Int.reduceToNat, Int.reduceEq, Int.reduceLT, Int.reduceLE, Int.reduceNeg, Int.reduceAdd, Int.reduceSub, Int.reduceMul, Nat.reducePow, Int.reduceNegSucc, strBin, str_inj]
        by_cases ce : decI n = t
        · refine .of (k n _ hn (fun m x => ⟨decide_eq_true ce, (hm m x).1⟩) fun _ x => ?_)
          have hnn : decI n = decN n.toNat := by unfold decI; rw [if_neg (by omega)]
          rw [hnn] at ce
          rw [← ce, numS_dec ((decN_len5 _).1 (by rw [ce]; omega))] at x
          cases x
        · exact bad (decide_eq_false ce) fun _ _ _ => ce
      · exact bad rfl fun _ _ x => absurd x (by omega)
    · exact bad rfl fun _ x => absurd x (by omega)
  · simp only [walk, lists, acts, mem, plain, seqs, maps, cells, resL, resV, intBin, ↓reduceIte, Nat.reduceAdd, Nat.reduceSub, Nat.reduceMul, Nat.reduceLeDiff, Nat.reduceEqDiff, Int.reduceToNat, Int.reduceEq, Int.reduceLT, Int.reduceLE, Int.reduceNeg, Int.reduceAdd, Int.reduceSub, Int.reduceMul, Nat.reducePow, Int.reduceNegSucc, str]
    exact bad rfl fun x => by cases x

theorem scriptText_c {h : H} {t : List UInt8} (ht : t.length ≤ 4194304) {R : Ending → H → Prop} (k : Asks R (printP t ∧ t.length ≤ 80) h) : HCalls Tryd.prog 61 #[.string ⟨t.toArray⟩] h R := by
  refine HCalls_ir (args := [.string ⟨t.toArray⟩]) Tryd.func61 ir61 ?_
  simp only [walk, lists, acts, mem, plain, seqs, maps, cells, resL, resV, intBin, ↓reduceIte, Nat.reduceAdd, Nat.reduceSub, Nat.reduceMul, Nat.reduceLeDiff, Nat.reduceEqDiff, Int.reduceToNat, Int.reduceEq, Int.reduceLT, Int.reduceLE, Int.reduceNeg, Int.reduceAdd, Int.reduceSub, Int.reduceMul, Nat.reducePow, Int.reduceNegSucc]
  refine vc_loop [6] (fun n vs h' => ∃ (i : Nat), vs = [.int .i64 i] ∧ h' = h ∧ (∀ b ∈ t.take i, 32 ≤ b.toNat ∧ b.toNat ≤ 126) ∧ i ≤ t.length ∧ n = t.length - i) t.length rfl
    ⟨0, rfl, rfl, by simp, by omega, rfl⟩ ?_
  rintro n f h' ⟨i, hv, rfl, hp, hi, rfl⟩
  simp only [List.map_cons, List.map_nil, List.cons.injEq, and_true] at hv
  simp only [walk, lists, acts, mem, plain, seqs, maps, cells, resL, resV, intBin, ↓reduceIte, Nat.reduceAdd, Nat.reduceSub, Nat.reduceMul, Nat.reduceLeDiff, Nat.reduceEqDiff, Int.reduceToNat, Int.reduceEq, Int.reduceLT, Int.reduceLE, Int.reduceNeg, Int.reduceAdd, Int.reduceSub, Int.reduceMul, Nat.reducePow, Int.reduceNegSucc, wr, hv]
  refine ite_lt (fun c3 => ?_) fun c3 => ?_
  · have hi2 : i < t.length := by omega
    have hg : t[i]? = some t[i] := List.getElem?_eq_getElem hi2
    have bad : ¬ (32 ≤ t[i].toNat ∧ t[i].toNat ≤ 126) → ¬ (printP t ∧ t.length ≤ 80) := fun x y => x (y.1 _ (List.getElem_mem hi2))
    simp only [walk, lists, acts, mem, plain, seqs, maps, cells, resL, resV, intBin, ↓reduceIte, Nat.reduceAdd, Nat.reduceSub, Nat.reduceMul, Nat.reduceLeDiff, Nat.reduceEqDiff, Int.reduceToNat, Int.reduceEq, Int.reduceLT, Int.reduceLE, Int.reduceNeg, Int.reduceAdd, Int.reduceSub, Int.reduceMul, Nat.reducePow, Int.reduceNegSucc, wr, hv, hg]
    refine ⟨by omega, ?_⟩
    refine ite_lt (fun c4 => .of (k.no (bad (by omega)))) fun c4 => ?_
    refine ⟨by omega, ?_⟩
    refine ite_lt (fun c5 => .of (k.no (bad (by omega)))) fun c5 => ?_
    simp (disch := omega) only [walk, lists, acts, mem, plain, seqs, maps, cells, resL, resV, intBin, ↓reduceIte, Nat.reduceAdd, Nat.reduceSub, Nat.reduceMul, Nat.reduceLeDiff, Nat.reduceEqDiff, Int.reduceToNat, Int.reduceEq, Int.reduceLT, Int.reduceLE, Int.reduceNeg, Int.reduceAdd, Int.reduceSub, Int.reduceMul, Nat.reducePow, Int.reduceNegSucc, wrapI]
    refine ⟨t.length - (i + 1), by omega, _, .refl _, i + 1, by simp, rfl, fun b hb => ?_, by omega, rfl⟩
    rw [List.take_succ_eq_append_getElem hi2] at hb
    rcases List.mem_append.1 hb with hb | hb
    · exact hp b hb
    · rw [List.mem_singleton] at hb
      subst hb
      omega
  · have hi2 : i = t.length := by omega
    subst hi2
    rw [List.take_length] at hp
    refine .of (k _ ?_)
    simp only [decide_eq_true_eq]
    exact ⟨fun x => ⟨hp, by omega⟩, fun x => by omega⟩

theorem nothing_c {h : H} {v : Value} {t : List UInt8} {R : Ending → H → Prop} (k : R (.returned (.bool (decide (t = [])))) h) : HCalls Tryd.prog 52 #[v, .string ⟨t.toArray⟩] h R := by
  refine HCalls_ir (args := [v, .string ⟨t.toArray⟩]) Tryd.func52 ir52 ?_
  have e : ((⟨t.toArray⟩ : ByteArray) = ⟨#[]⟩) = (t = []) := propext ⟨fun e => by simpa using congrArg (fun a : ByteArray => a.data.toList) e, fun e => by rw [e]⟩
  simp only [walk, lists, acts, mem, plain, seqs, maps, cells, resL, resV, intBin, ↓reduceIte, Nat.reduceAdd, Nat.reduceSub, Nat.reduceMul, Nat.reduceLeDiff, Nat.reduceEqDiff, Int.reduceToNat, Int.reduceEq, Int.reduceLT, Int.reduceLE, Int.reduceNeg, Int.reduceAdd, Int.reduceSub, Int.reduceMul, Nat.reducePow, Int.reduceNegSucc, str, strBin, e]
  exact .of k
theorem noText_c {h : H} {v : Value} {R : Ending → H → Prop} (k : R (.returned (.string ⟨#[]⟩)) h) : HCalls Tryd.prog 53 #[v] h R := by
  refine HCalls_ir (args := [v]) Tryd.func53 ir53 ?_
  simp only [walk, lists, acts, mem, plain, seqs, maps, cells, resL, resV, intBin, ↓reduceIte, Nat.reduceAdd, Nat.reduceSub, Nat.reduceMul, Nat.reduceLeDiff, Nat.reduceEqDiff, Int.reduceToNat, Int.reduceEq, Int.reduceLT, Int.reduceLE, Int.reduceNeg, Int.reduceAdd, Int.reduceSub, Int.reduceMul, Nat.reducePow, Int.reduceNegSucc, str]
  exact .of k
theorem callText_c {h : H} {jd : Nat} {e : DTollEvent} (g : Gl h) (hd : hget h jd = some (blk (cTollEvent e) 74)) (h1 : i64P e.call.slot) (h2 : i64P e.call.to) (ht : e.call.text.length ≤ 4194304) {R : Ending → H → Prop} (k : R (.returned (.string ⟨(callT e.call).toArray⟩)) h) :
    HCalls Tryd.prog 51 #[.pointer (some ⟨jd, 0, none⟩)] h R := by
  refine HCalls_ir (args := [.pointer (some ⟨jd, 0, none⟩)]) Tryd.func51 ir51 ?_
  have c7 : hcel h jd 7 = some (.int .i64 e.call.kind) := by unfold hcel; rw [hd]; rfl
  have c8 : hcel h jd 8 = some (.string ⟨e.call.text.toArray⟩) := by unfold hcel; rw [hd]; rfl
  have c9 : hcel h jd 9 = some (.int .i64 e.call.slot) := by unfold hcel; rw [hd]; rfl
  have c10 : hcel h jd 10 = some (.int .i64 e.call.to) := by unfold hcel; rw [hd]; rfl
  have l1 := decI_len' h1
  have l2 := decI_len' h2
  simp only [walk, lists, acts, mem, plain, seqs, maps, cells, resL, resV, intBin, ↓reduceIte, Nat.reduceAdd, Nat.reduceSub, Nat.reduceMul, Nat.reduceLeDiff, Nat.reduceEqDiff, Int.reduceToNat, Int.reduceEq, Int.reduceLT, Int.reduceLE, Int.reduceNeg, Int.reduceAdd, Int.reduceSub, Int.reduceMul, Nat.reducePow, Int.reduceNegSucc, str, c7]
  refine ite_pos (fun e1 => ?_) fun e1 => ?_
  · simp only [walk, lists, acts, mem, plain, seqs, maps, cells, resL, resV, intBin, ↓reduceIte, Nat.reduceAdd, Nat.reduceSub, Nat.reduceMul, Nat.reduceLeDiff, Nat.reduceEqDiff, Int.reduceToNat, Int.reduceEq, Int.reduceLT, Int.reduceLE, Int.reduceNeg, Int.reduceAdd, Int.reduceSub, Int.reduceMul, Nat.reducePow, Int.reduceNegSucc, str, c8]
    simp (disch := (first | assumption | (simp only [List.length_append, List.length_cons, List.length_nil]; omega) | omega)) only [walk, lists, acts, mem, plain, seqs, maps, cells, resL, resV, intBin, ↓reduceIte, Nat.reduceAdd, Nat.reduceSub, Nat.reduceMul, Nat.reduceLeDiff, Nat.reduceEqDiff, Int.reduceToNat, Int.reduceEq, Int.reduceLT, Int.reduceLE, Int.reduceNeg, Int.reduceAdd, Int.reduceSub, Int.reduceMul, Nat.reducePow, Int.reduceNegSucc, str, str_add]
    have : callT e.call = [32, 100, 101, 97, 108, 32] ++ e.call.text := by unfold callT; rw [if_pos e1]
    rw [this] at k
    exact .of k
  · refine ite_pos (fun e2 => ?_) fun e2 => ?_
    · refine vc_draw _ (Sub.refl _) ?_
      simp only [walk, lists, acts, mem, plain, seqs, maps, cells, resL, resV, intBin, ↓reduceIte, Nat.reduceAdd, Nat.reduceSub, Nat.reduceMul, Nat.reduceLeDiff, Nat.reduceEqDiff, Int.reduceToNat, Int.reduceEq, Int.reduceLT, Int.reduceLE, Int.reduceNeg, Int.reduceAdd, Int.reduceSub, Int.reduceMul, Nat.reducePow, Int.reduceNegSucc, str, c9, c10]
      refine itoa_c g h1 ?_
      simp (disch := (first | assumption | (simp only [List.length_append, List.length_cons, List.length_nil]; omega) | omega)) only [walk, lists, acts, mem, plain, seqs, maps, cells, resL, resV, intBin, ↓reduceIte, Nat.reduceAdd, Nat.reduceSub, Nat.reduceMul, Nat.reduceLeDiff, Nat.reduceEqDiff, Int.reduceToNat, Int.reduceEq, Int.reduceLT, Int.reduceLE, Int.reduceNeg, Int.reduceAdd, Int.reduceSub, Int.reduceMul, Nat.reducePow, Int.reduceNegSucc, str, str_add]
      refine itoa_c g h2 ?_
      simp (disch := (first | assumption | (simp only [List.length_append, List.length_cons, List.length_nil]; omega) | omega)) only [walk, lists, acts, mem, plain, seqs, maps, cells, resL, resV, intBin, ↓reduceIte, Nat.reduceAdd, Nat.reduceSub, Nat.reduceMul, Nat.reduceLeDiff, Nat.reduceEqDiff, Int.reduceToNat, Int.reduceEq, Int.reduceLT, Int.reduceLE, Int.reduceNeg, Int.reduceAdd, Int.reduceSub, Int.reduceMul, Nat.reducePow, Int.reduceNegSucc, str, str_add]
      have : callT e.call = [32, 109, 111, 118, 101, 32] ++ decI e.call.slot ++ [32] ++ decI e.call.to := by unfold callT; rw [if_neg e1, if_pos e2]
      rw [this] at k
      exact .of k
    · have : callT e.call = [] := by unfold callT; rw [if_neg e1, if_neg e2]
      rw [this] at k
      exact .of k

/-- What the program reads of what a call asks for: leniently. -/
theorem readCall_c {h : H} {jd : Nat} {e : DTollEvent} {s : List UInt8} (g : Gl h) (hj : hget h jd = none) (he : e.call = zCall) (hs : s.length ≤ 4194304) {R : Ending → H → Prop}
    (k : ∀ c ok, (ok = true → askP c) → (∀ c', askP c' → s = askC c' → ok = true ∧ c = c') → i64P c.slot → i64P c.to → c.text.length ≤ 4194304 → (ok = false ∨ ok = true) → R (.returned (.bool ok)) ((jd, blk (cTollEvent { e with call := c }) 74) :: h) ) :
    HCalls Tryd.prog 50 #[.pointer (some ⟨jd, 0, none⟩), .string ⟨s.toArray⟩] ((jd, blk (cTollEvent e) 74) :: h) R := by
  refine HCalls_ir (args := [.pointer (some ⟨jd, 0, none⟩), .string ⟨s.toArray⟩]) Tryd.func50 ir50 ?_
  have zc := zCall_eq
  simp only [str] at zc
  simp only [walk, lists, acts, mem, plain, seqs, maps, cells, resL, resV, intBin, ↓reduceIte, Nat.reduceAdd, Nat.reduceSub, Nat.reduceMul, Nat.reduceLeDiff, Nat.reduceEqDiff, Int.reduceToNat, Int.reduceEq, Int.reduceLT, Int.reduceLE, Int.reduceNeg, Int.reduceAdd, Int.reduceSub, Int.reduceMul, Nat.reducePow, Int.reduceNegSucc, wTollEvent, str, zc]
  have sg : ∀ q, Gl ((jd, blk (cTollEvent q) 74) :: h) := fun q => g.sub (Sub.cons hj (Sub.refl _))
  have el : ∀ (x y : List UInt8), ((⟨x.toArray⟩ : ByteArray) = ⟨y.toArray⟩) = (x = y) := fun x y => propext ⟨fun e => by simpa using congrArg (fun a : ByteArray => a.data.toList) e, fun e => by rw [e]⟩
  refine cut_c hs fun a b f hc => ?_
  have hab : a.length ≤ s.length ∧ b.length ≤ s.length := by
    obtain ⟨_, ⟨_, h2⟩ | ⟨_, h2, h3⟩⟩ := hc
    · rw [h2]; simp; omega
    · rw [h2, h3]; simp
  simp only [walk, lists, acts, mem, plain, seqs, maps, cells, resL, resV, intBin, ↓reduceIte, Nat.reduceAdd, Nat.reduceSub, Nat.reduceMul, Nat.reduceLeDiff, Nat.reduceEqDiff, Int.reduceToNat, Int.reduceEq, Int.reduceLT, Int.reduceLE, Int.reduceNeg, Int.reduceAdd, Int.reduceSub, Int.reduceMul, Nat.reducePow, Int.reduceNegSucc, wTollEvent, str, strBin, el]
  have comp : ∀ c', askP c' → s = askC c' → (c'.kind = 1 ∧ a = [100, 101, 97, 108] ∧ b = c'.text ∧ c' = ⟨0, 0, 1, b, 0, 0⟩ ∧ printP b ∧ b.length ≤ 80) ∨ (c'.kind = 2 ∧ a = [109, 111, 118, 101] ∧ ∃ x y : Nat, x ≤ 99999 ∧ y ≤ 99999 ∧ b = decN x ++ 32 :: decN y ∧ c' = ⟨0, 0, 2, [], (x : Int), (y : Int)⟩) := by
    intro c' hp hsc
    obtain ⟨q1, q2, ⟨kd, pt, lt, s0, t0⟩ | ⟨kd, t0, sa, sb⟩⟩ := hp
    · have h1 : s = [100, 101, 97, 108] ++ 32 :: c'.text := by rw [hsc]; simp [askC, kd]
      obtain ⟨r1, r2, _⟩ := hc.at h1 (by decide)
      refine .inl ⟨kd, r1, r2, ?_, by rw [r2]; exact pt, by rw [r2]; exact lt⟩
      obtain ⟨x1, x2, x3, x4, x5, x6⟩ := c'
      simp only at q1 q2 kd s0 t0 r2
      rw [q1, q2, kd, s0, t0, r2]
    · obtain ⟨x, hx, hx2⟩ := sm5_nat sa
      obtain ⟨y, hy, hy2⟩ := sm5_nat sb
      have h1 : s = [109, 111, 118, 101] ++ 32 :: (decN x ++ 32 :: decN y) := by rw [hsc]; simp [askC, kd, hx, hy, decI_nat]
      obtain ⟨r1, r2, _⟩ := hc.at h1 (by decide)
      refine .inr ⟨kd, r1, x, y, hx2, hy2, r2, ?_⟩
      obtain ⟨x1, x2, x3, x4, x5, x6⟩ := c'
      simp only at q1 q2 kd t0 hx hy
      rw [q1, q2, kd, t0, hx, hy]
  refine ite_pos (fun ca => ?_) fun ca => ?_
  · simp only [walk, lists, acts, mem, plain, seqs, maps, cells, resL, resV, intBin, ↓reduceIte, Nat.reduceAdd, Nat.reduceSub, Nat.reduceMul, Nat.reduceLeDiff, Nat.reduceEqDiff, Int.reduceToNat, Int.reduceEq, Int.reduceLT, Int.reduceLE, Int.reduceNeg, Int.reduceAdd, Int.reduceSub, Int.reduceMul, Nat.reducePow, Int.reduceNegSucc, wTollEvent, wCall]
    refine scriptText_c (by omega) fun b1 hb1 => ?_
    simp only [walk, lists, acts, mem, plain, seqs, maps, cells, resL, resV, intBin, ↓reduceIte, Nat.reduceAdd, Nat.reduceSub, Nat.reduceMul, Nat.reduceLeDiff, Nat.reduceEqDiff, Int.reduceToNat, Int.reduceEq, Int.reduceLT, Int.reduceLE, Int.reduceNeg, Int.reduceAdd, Int.reduceSub, Int.reduceMul, Nat.reducePow, Int.reduceNegSucc, wTollEvent, wCall]
    refine .of (k ⟨0, 0, 1, b, 0, 0⟩ b1 (fun x => ⟨rfl, rfl, .inl ⟨rfl, (hb1.1 x).1, (hb1.1 x).2, rfl, rfl⟩⟩) (fun c' hp hsc => ?_) (show i64P 0 from ⟨by decide, by decide⟩) (show i64P 0 from ⟨by decide, by decide⟩) (by show b.length ≤ _; omega) (by cases b1 <;> simp))
    rcases comp c' hp hsc with ⟨_, _, _, h4, h5, h6⟩ | ⟨_, h2, _⟩
    · exact ⟨hb1.2 ⟨h5, h6⟩, h4.symm⟩
    · rw [ca] at h2; exact absurd h2 (by decide)
  · refine ite_pos (fun cb => ?_) fun cb => ?_
    · refine cut_c (by omega) fun a2 b2 f2 hc2 => ?_
      have hab2 : a2.length ≤ b.length ∧ b2.length ≤ b.length := by
        obtain ⟨_, ⟨_, h2⟩ | ⟨_, h2, h3⟩⟩ := hc2
        · rw [h2]; simp; omega
        · rw [h2, h3]; simp
      simp only [walk, lists, acts, mem, plain, seqs, maps, cells, resL, resV, intBin, ↓reduceIte, Nat.reduceAdd, Nat.reduceSub, Nat.reduceMul, Nat.reduceLeDiff, Nat.reduceEqDiff, Int.reduceToNat, Int.reduceEq, Int.reduceLT, Int.reduceLE, Int.reduceNeg, Int.reduceAdd, Int.reduceSub, Int.reduceMul, Nat.reducePow, Int.reduceNegSucc, wTollEvent, wCall]
      refine number_c (sg _) (by omega) fun n1 ok1 i1 ha1 hb1 => ?_
      simp only [walk, lists, acts, mem, plain, seqs, maps, cells, resL, resV, intBin, ↓reduceIte, Nat.reduceAdd, Nat.reduceSub, Nat.reduceMul, Nat.reduceLeDiff, Nat.reduceEqDiff, Int.reduceToNat, Int.reduceEq, Int.reduceLT, Int.reduceLE, Int.reduceNeg, Int.reduceAdd, Int.reduceSub, Int.reduceMul, Nat.reducePow, Int.reduceNegSucc, wTollEvent, wCall]
      refine number_c (sg _) (by omega) fun n2 ok2 i2 ha2 hb2 => ?_
      simp only [walk, lists, acts, mem, plain, seqs, maps, cells, resL, resV, intBin, ↓reduceIte, Nat.reduceAdd, Nat.reduceSub, Nat.reduceMul, Nat.reduceLeDiff, Nat.reduceEqDiff, Int.reduceToNat, Int.reduceEq, Int.reduceLT, Int.reduceLE, Int.reduceNeg, Int.reduceAdd, Int.reduceSub, Int.reduceMul, Nat.reducePow, Int.reduceNegSucc, wTollEvent, wCall]
      have fin : ∀ ok, (ok = true → ok1 = true ∧ ok2 = true) → (ok1 = true → ok2 = true → ok = true) → dP R (.returned (.bool ok)) ((jd, blk (cTollEvent { e with call := ⟨0, 0, 2, [], n1, n2⟩ }) 74) :: h) := fun ok h1 h2 => by
        have sm : ∀ {t : List UInt8} {n : Int}, numS t ≠ none → (∀ m : Nat, numS t = some m → n = (m : Int)) → sm5 n := fun {t n} x y => by
          cases e : numS t with
          | none => exact absurd e x
          | some m => rw [y m e]; exact nat_sm5 (numS_some e).2
        refine .of (k ⟨0, 0, 2, [], n1, n2⟩ ok (fun x => ?_) (fun c' hp hsc => ?_) i1 i2 (by simp) (by cases ok <;> simp))
        · obtain ⟨o1, o2⟩ := h1 x
          exact ⟨rfl, rfl, .inr ⟨rfl, rfl, sm (hb1 o1) fun m y => (ha1 m y).2, sm (hb2 o2) fun m y => (ha2 m y).2⟩⟩
        · rcases comp c' hp hsc with ⟨_, h2', _⟩ | ⟨_, _, x, y, hx, hy, h4, h5⟩
          · rw [cb] at h2'; exact absurd h2' (by decide)
          · obtain ⟨r1, r2, _⟩ := hc2.at h4 (decN_no32 x)
            have p1 := ha1 x (by rw [r1]; exact numS_dec hx)
            have p2 := ha2 y (by rw [r2]; exact numS_dec hy)
            exact ⟨h2 p1.1 p2.1, by rw [h5, p1.2, p2.2]⟩
      refine ite_pos (fun o1 => ?_) fun o1 => ?_
      · exact fin ok2 (fun x => ⟨o1, x⟩) fun _ x => x
      · exact fin false (fun x => by cases x) fun x _ => absurd x o1
    · refine .of ?_
      have := k e.call false (fun x => by cases x) (fun c' hp hsc => ?_) (by rw [he]; exact ⟨by decide, by decide⟩) (by rw [he]; exact ⟨by decide, by decide⟩) (by rw [he]; simp [zCall]) (.inl rfl)
      · exact this
      · rcases comp c' hp hsc with ⟨_, h2', _⟩ | ⟨_, h2', _⟩
        · exact absurd h2' ca
        · exact absurd h2' cb
end Go.Proofs.YtdlgaidjlepepaaDoor
end

/- How all that may happen is written: the forms. -/
section
set_option linter.unusedVariables false
set_option linter.unusedSimpArgs false
set_option maxRecDepth 20000
namespace Go.Tk
open Go
def F0 : Form := ⟨[98, 101, 103, 105, 110, 115], 1, 0, [2]⟩
def F1 : Form := ⟨[115, 101, 110, 100, 115], 2, 0, [2]⟩
def F2 : Form := ⟨[103, 105, 118, 101, 115], 3, 0, [2]⟩
def F3 : Form := ⟨[98, 114, 105, 110, 103, 115], 4, 0, [3]⟩
def F4 : Form := ⟨[100, 111, 117, 98, 108, 101, 115], 4, 1, [3]⟩
def F5 : Form := ⟨[108, 111, 115, 101, 115], 5, 0, [3]⟩
def F6 : Form := ⟨[102, 97, 108, 108, 115], 6, 0, [1, 4]⟩
def F7 : Form := ⟨[114, 105, 115, 101, 115], 7, 0, [1]⟩
def F8 : Form := ⟨[116, 101, 110, 100, 115], 8, 0, [1]⟩
def F9 : Form := ⟨[102, 111, 114, 99, 101, 115], 9, 0, [1]⟩
def qV (w : Value) : H → Value → Prop := fun _ v => v = w
def ePtr (a : Nat × Nat) : List Value := [.pointer (some ⟨a.1, a.2, none⟩)]
theorem ePtr_len (a : Nat × Nat) : (ePtr a).length = 1 := rfl
def qA (rest : H) (T : Nat) (L : List (Nat × Nat)) : H → Value → Prop := fun g v => ∃ j, v = .slice (some ⟨j, 0, none⟩) L.length L.length ∧ hget g j = some (blk (fl ePtr L) T) ∧ hget rest j = none
def mono (q : H → Value → Prop) : Prop := ∀ g g' v, Sub g g' → q g v → q g' v
theorem mono_qV (w : Value) : mono (qV w) := fun _ _ _ _ h => h
theorem mono_qA (rest : H) (T : Nat) (L : List (Nat × Nat)) : mono (qA rest T L) := fun _ _ _ s ⟨j, a, b, c⟩ => ⟨j, a, s _ _ b, c⟩
theorem ndr : (nds [] = []) ∧ (∀ d g i l, nds (⟨some d, g, i⟩ :: l) = d :: nds l) ∧ (∀ g i l, nds (⟨none, g, i⟩ :: l) = nds l) := ⟨rfl, fun _ _ _ _ => rfl, fun _ _ _ => rfl⟩
/-- What is kept: a part that grows. -/
def memF : Nat → H → H → Prop := fun _ h g => Sub g h
theorem hget_list {g : H} : ∀ {G : H}, (∀ p ∈ G, hget g p.1 = some p.2) → ∀ p ∈ G, hget G p.1 = some p.2 := by
  intro G
  induction G with
  | nil => intro _ p hp; cases hp
  | cons q G ih =>
    intro h p hp
    rw [hget_cons]
    split
    · rename_i e
      have h1 := h p hp
      have h2 := h q List.mem_cons_self
      rw [e, h2] at h1
      exact h1
    · rename_i e
      rcases List.mem_cons.1 hp with rfl | hp
      · exact absurd rfl e
      · exact ih (fun p hp => h p (List.mem_cons_of_mem _ hp)) p hp
theorem Sub_list {g : H} : ∀ {G rest : H}, (∀ p ∈ G, hget g p.1 = some p.2) → Sub rest g → Sub (G ++ rest) g := by
  intro G
  induction G with
  | nil => intro rest _ s; exact s
  | cons q G ih =>
    intro rest h s
    exact Sub.cons_of (h q List.mem_cons_self) (ih (fun p hp => h p (List.mem_cons_of_mem _ hp)) s)
theorem Dj_list {rest : H} {G : H} (h : ∀ p ∈ G, hget rest p.1 = none) : Dj G rest := by
  intro i hi
  induction G with
  | nil => exact absurd rfl hi
  | cons q G ih =>
    rw [hget_cons] at hi
    split at hi
    · rename_i e; rw [e]; exact h q List.mem_cons_self
    · exact ih (fun p hp => h p (List.mem_cons_of_mem _ hp)) hi
end Go.Tk
namespace Go.Proofs.YtdlgaidjlepepaaDoor
open Go Go.Tk

def rdFn (f : Tk.Form) : Nat := if f.kind = 1 then 50 else 52
def wrFn (f : Tk.Form) : Nat := if f.kind = 1 then 51 else 53
/-- The cells of a form; its numbers' row lies elsewhere. -/
def eForm (jd : Nat) (p : Tk.Form × Value) : List Value := [.string ⟨p.1.name.toArray⟩, .int .i64 p.1.kind, .int .i64 p.1.keep, p.2, .func (.func (rdFn p.1)) #[(.pointer (some ⟨jd, 0, none⟩))] #[], .func (.func (wrFn p.1)) #[(.pointer (some ⟨jd, 0, none⟩))] #[]]
theorem eForm_len (jd : Nat) (p : Tk.Form × Value) : (eForm jd p).length = 6 := rfl
def qF (rest : H) (jd : Nat) (F : Tk.Form) : H → Value → Prop := fun g v => ∃ j, v = .agg (eForm jd (F, .slice (some ⟨j, 0, none⟩) F.offs.length F.offs.length)).toArray ∧ hget g j = some (blk (fl ePtr (F.offs.map fun o => (jd, o))) 86) ∧ hget rest j = none
def rowF (rest g : H) (jd : Nat) (L : List (Tk.Form × Value)) : Prop := L.map Prod.fst = forms ∧ ∀ p ∈ L, ∃ i, p.2 = .slice (some ⟨i, 0, none⟩) p.1.offs.length p.1.offs.length ∧ hget g i = some (blk (fl ePtr (p.1.offs.map fun o => (jd, o))) 86) ∧ hget rest i = none
def qL (rest : H) (jd : Nat) : H → Value → Prop := fun g v => ∃ j L, v = .slice (some ⟨j, 0, none⟩) 10 10 ∧ hget g j = some (blk (fl (eForm jd) L) 85) ∧ hget rest j = none ∧ rowF rest g jd L
theorem mono_qF (rest : H) (jd : Nat) (F : Tk.Form) : mono (qF rest jd F) := fun _ _ _ s ⟨j, a, b, c⟩ => ⟨j, a, s _ _ b, c⟩
theorem mono_qL (rest : H) (jd : Nat) : mono (qL rest jd) := fun _ _ _ s ⟨j, L, a, b, c, d, e⟩ => ⟨j, L, a, s _ _ b, c, d, fun p hp => by obtain ⟨i, x, y, z⟩ := e p hp; exact ⟨i, x, s _ _ y, z⟩⟩
section
variable {jd : Nat} {rest : H} {ρ : (Nat → Value) → Operand → Value} {D : H → (Nat → Value) → Prop} {q : H → Value → Prop}
theorem sF_mov {x : Operand} (k : ∀ f g, Tk.Sub rest g → D g f → q g (ρ f x)) : stA Tryd.prog memF q rest ρ D (.mov x) := fun m f h g hm hs hd => ⟨g, hm, Sub.refl _, k f g hs hd⟩
theorem sF_nilc {x : Operand} (k : ∀ f g, Tk.Sub rest g → D g f → ∃ a, ρ f x = .pointer (some a) ∧ q g (.pointer (some a))) : stA Tryd.prog memF q rest ρ D (.nilc x) := fun m f h g hm hs hd => by
  obtain ⟨a, e, hq⟩ := k f g hs hd
  show (match ρ f x with | .pointer (some a) => _ | .func (.func f) fi ca => _ | _ => _)
  rw [e]
  exact ⟨g, hm, Sub.refl _, hq⟩
theorem sF_fld {x : Operand} {off : Nat} (k : ∀ f g, Tk.Sub rest g → D g f → ∃ b o, ρ f x = .pointer (some ⟨b, o, none⟩) ∧ q g (.pointer (some ⟨b, o + off, none⟩))) : stA Tryd.prog memF q rest ρ D (.fld x off) := fun m f h g hm hs hd => by
  obtain ⟨b, o, e, hq⟩ := k f g hs hd
  show (match ρ f x with | .pointer (some ⟨b, k, none⟩) => _ | _ => _)
  rw [e]
  exact ⟨g, hm, Sub.refl _, hq⟩
theorem sF_fn {F : Fn} {x : Operand} {w : Value} (k : ∀ f g, Tk.Sub rest g → D g f → Value.func F ([x].map (ρ f)).toArray (([] : List Operand).map (ρ f)).toArray = w) : stA Tryd.prog memF (qV w) rest ρ D (.fn F [x] []) := fun m f h g hm hs hd =>
  ⟨g, hm, Sub.refl _, k f g hs hd⟩
theorem sF_ptrs {e : Nat} {L : List (Nat × Nat)} {ps : List (Nat × Nat × Operand)} (k : ∀ f g, Tk.Sub rest g → D g f → fillL (zrep [.pointer none] L.length) (ps.map fun p => (p.1, p.2.1, vcells (ρ f p.2.2))) = some (fl ePtr L)) :
    stA Tryd.prog memF (qA rest e L) rest ρ D (.bslice e [.pointer none] L.length ps) := fun m f h g hm hs hd => by
  have hf := k f g hs hd
  show vop _ _ _ _ _ _
  unfold vop
  simp only [hf]
  intro j hj
  have n : hget g j = none := Sub.none' hm hj
  exact ⟨(j, blk (fl ePtr L) e) :: g, Sub.cons2 hm, Sub.cons n (Sub.refl _), j, rfl, hget_same _ _ _, hs.none' n⟩
theorem sF_build {z : List Value} {ps : List (Nat × Nat × Operand)} (k : ∀ f g, Tk.Sub rest g → D g f → ∃ l, fillL z (ps.map fun p => (p.1, p.2.1, vcells (ρ f p.2.2))) = some l ∧ q g (.agg l.toArray)) : stA Tryd.prog memF q rest ρ D (.build z ps) := fun m f h g hm hs hd => by
  obtain ⟨l, hf, hq⟩ := k f g hs hd
  show vop _ _ _ _ _ _
  unfold vop
  simp only [hf]
  exact ⟨g, hm, Sub.refl _, hq⟩
theorem sF_all {z : List Value} {ps : List (Nat × Nat × Operand)} (k : ∀ f g, Tk.Sub rest g → D g f → ∃ L, fillL (zrep z 10) (ps.map fun p => (p.1, p.2.1, vcells (ρ f p.2.2))) = some (fl (eForm jd) L) ∧ rowF rest g jd L) :
    stA Tryd.prog memF (qL rest jd) rest ρ D (.bslice 85 z 10 ps) := fun m f h g hm hs hd => by
  obtain ⟨L, hf, h1, h2⟩ := k f g hs hd
  show vop _ _ _ _ _ _
  unfold vop
  simp only [hf]
  intro j hj
  have n : hget g j = none := Sub.none' hm hj
  have sn := Sub.cons (o := blk (fl (eForm jd) L) 85) n (Sub.refl g)
  exact ⟨(j, blk (fl (eForm jd) L) 85) :: g, Sub.cons2 hm, sn, j, L, rfl, hget_same _ _ _, hs.none' n, h1, fun p hp => by obtain ⟨i, x, y, w⟩ := h2 p hp; exact ⟨i, x, sn _ _ y, w⟩⟩
end

def boxP (jd : Nat) (p : Tk.Form × Value) : Nat × Obj := match p.2 with
  | .slice (some a) _ _ => (a.block, blk (fl ePtr (p.1.offs.map fun o => (jd, o))) 86)
  | _ => (0, blk [] 0)
end Go.Proofs.YtdlgaidjlepepaaDoor
end
