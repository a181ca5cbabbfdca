/- Parts of the proof, put together: V14, V15, V16, V17. -/
import Derived.Test.YtfkkjjballajaaaDoorK511
import Derived.Test.YtfkkjjballajaaaDoorK56
/- What is drawn of deals. -/
section
set_option linter.unusedVariables false
set_option linter.unusedSimpArgs false
set_option maxRecDepth 20000
attribute [local irreducible] Go.Tk.vc Go.Tk.vops Go.Tk.vdr Go.Tk.vop Go.Tk.vfl Go.Tk.HCalls
namespace Go.Proofs.YtfkkjjballajaaaDoor
open Go Go.Tk

theorem sim_c {h : H} {r : Value} (hr : vone r = true) {R : Ending → H → Prop} (k : ∀ (j : Nat) (S : List Value), hget h j = none → R (.returned (.pointer (some ⟨j, 0, none⟩))) ((j, blk (r :: S) 107) :: h)) : HCalls Tryd.prog 54 #[r] h R := by
  refine HCalls_ir (args := [r]) Tryd.func54 ir54 ?_
  have vc := vcells_one hr
  simp only [walk, lists, acts, mem, plain, seqs, maps, cells, resL, resV, intBin, ↓reduceIte, Nat.reduceAdd, Nat.reduceSub, Nat.reduceMul, Nat.reduceLeDiff, Nat.reduceEqDiff, Int.reduceToNat, Int.reduceEq, Int.reduceLT, Int.reduceLE, Int.reduceNeg, Int.reduceAdd, Int.reduceSub, Int.reduceMul, Nat.reducePow, Int.reduceNegSucc]
  refine tollStart_c fun cs h1 h2 => ?_
  simp only [walk, lists, acts, mem, plain, seqs, maps, cells, resL, resV, intBin, ↓reduceIte, Nat.reduceAdd, Nat.reduceSub, Nat.reduceMul, Nat.reduceLeDiff, Nat.reduceEqDiff, Int.reduceToNat, Int.reduceEq, Int.reduceLT, Int.reduceLE, Int.reduceNeg, Int.reduceAdd, Int.reduceSub, Int.reduceMul, Nat.reducePow, Int.reduceNegSucc, vc, h1]
  refine newB_intro fun j hj => ?_
  simp only [walk, lists, acts, mem, plain, seqs, maps, cells, resL, resV, intBin, ↓reduceIte, Nat.reduceAdd, Nat.reduceSub, Nat.reduceMul, Nat.reduceLeDiff, Nat.reduceEqDiff, Int.reduceToNat, Int.reduceEq, Int.reduceLT, Int.reduceLE, Int.reduceNeg, Int.reduceAdd, Int.reduceSub, Int.reduceMul, Nat.reducePow, Int.reduceNegSucc]
  exact .of (k j _ hj)

theorem deal_c {h : H} {js jr p : Nat} {bv : Value} {l : List UInt8} (hs : hcel h js 0 = some (.pointer (some ⟨jr, 0, none⟩))) (hne : js ≠ jr) (hj : hget h jr = none) (rb : rIn h eB 1 bv l) (hl : l.length ≤ 1048576) (hp : p ≤ 549755813888) {R : Ending → H → Prop}
    (k : ∀ v g ds (p' : Nat), oLs 52 cStatement 3 v ds g → Dj g ((jr, blk (rdr bv p') 88) :: h) → (1 ≤ ds.length ∧ ds.length ≤ 4) → p ≤ p' → p' ≤ p + 200 → R (.returned v) (g ++ ((jr, blk (rdr bv p') 88) :: h))) :
    HCalls Tryd.prog 55 #[.pointer (some ⟨js, 0, none⟩)] ((jr, blk (rdr bv p) 88) :: h) R := by
  refine HCalls_ir (args := [.pointer (some ⟨js, 0, none⟩)]) Tryd.func55 ir55 ?_
  have zs := zStatement_eq
  have hsj := fun o => hcel_sub (Sub.cons (o := o) hj (Sub.refl h)) hs
  simp only [walk, lists, acts, mem, plain, seqs, maps, cells, resL, resV, intBin, ↓reduceIte, Nat.reduceAdd, Nat.reduceSub, Nat.reduceMul, Nat.reduceLeDiff, Nat.reduceEqDiff, Int.reduceToNat, Int.reduceEq, Int.reduceLT, Int.reduceLE, Int.reduceNeg, Int.reduceAdd, Int.reduceSub, Int.reduceMul, Nat.reducePow, Int.reduceNegSucc, zs]
  refine newB_intro (o := blk (fl cStatement []) 52) fun j1 hj1 => ?_
  have n1 := fresh hj1
  have hs1 : ∀ o o2, hcel ((j1, o) :: (jr, o2) :: h) js 0 = some (.pointer (some ⟨jr, 0, none⟩)) := fun o o2 => by
    refine hcel_sub (Sub.cons (o := o) ?_ (Sub.refl ((jr, o2) :: h))) (hsj _)
    simp only [subs, n1]
  simp only [walk, lists, acts, mem, plain, seqs, maps, cells, resL, resV, intBin, ↓reduceIte, Nat.reduceAdd, Nat.reduceSub, Nat.reduceMul, Nat.reduceLeDiff, Nat.reduceEqDiff, Int.reduceToNat, Int.reduceEq, Int.reduceLT, Int.reduceLE, Int.reduceNeg, Int.reduceAdd, Int.reduceSub, Int.reduceMul, Nat.reducePow, Int.reduceNegSucc, zs, hs1]
  refine (pick_c (p := p) (h := (j1, blk (fl cStatement []) 52) :: h) (by simp only [subs, n1, hj]) (rb.sub (Sub.cons n1.2.2 (Sub.refl _))) hl (by omega) (by omega) fun x hx0 hx1 _ => ?_).weaken (by (repeat' first | exact Sub.refl _ | exact Sub.nil _ | assumption | refine Sub.both ?_ ?_ | refine Sub.cons_of (by simp only [subs, n1, hj]) ?_ | exact Sub.left _ _ | refine Sub.app (by simp only [subs, n1, hj]) ?_ | refine Sub.cons (by simp only [subs, n1, hj]) ?_))
  have hx := hx1 (by omega)
  simp (disch := omega) only [walk, lists, acts, mem, plain, seqs, maps, cells, resL, resV, intBin, ↓reduceIte, Nat.reduceAdd, Nat.reduceSub, Nat.reduceMul, Nat.reduceLeDiff, Nat.reduceEqDiff, Int.reduceToNat, Int.reduceEq, Int.reduceLT, Int.reduceLE, Int.reduceNeg, Int.reduceAdd, Int.reduceSub, Int.reduceMul, Nat.reducePow, Int.reduceNegSucc, wrapI]
  have o1 : oLs 52 cStatement 3 (.slice (some ⟨j1, 0, none⟩) 0 0) [] [(j1, blk (fl cStatement []) 52)] := oLs_new cStatement_len
  have hm : (1 : Int) + x = (((1 + x).toNat : Nat) : Int) := by omega
  refine vc_loopS (g0 := (j1, blk (fl cStatement []) 52) :: (jr, blk (rdr bv (p + 1)) 88) :: h) [3, 4] (fun n vs h' => ∃ (m : Nat) (v' : Value) (ds : List DStatement) (g : H) (p' : Nat), vs = [v', .int .i64 m] ∧ h' = g ++ ((jr, blk (rdr bv p') 88) :: h) ∧ Dj g ((jr, blk (rdr bv p') 88) :: h) ∧ oLs 52 cStatement 3 v' ds g ∧ (1 ≤ ds.length + m ∧ ds.length + m ≤ 4) ∧ p' + 40 * m ≤ p + 161 ∧ p ≤ p' ∧ n = m) (1 + x).toNat rfl (by (repeat' first | exact Sub.refl _ | exact Sub.nil _ | assumption | refine Sub.both ?_ ?_ | refine Sub.cons_of (by simp only [subs, n1, hj]) ?_ | exact Sub.left _ _ | refine Sub.app (by simp only [subs, n1, hj]) ?_ | refine Sub.cons (by simp only [subs, n1, hj]) ?_))
    ⟨(1 + x).toNat, .slice (some ⟨j1, 0, none⟩) 0 0, [], [(j1, blk (fl cStatement []) 52)], p + 1, by show [Value.slice (some ⟨j1, 0, none⟩) 0 0, Value.int IntKind.i64 (1 + x)] = _; rw [← hm], rfl, Dj.one (by simp only [subs, n1]), o1, by simp only [List.length_nil]; omega, by omega, by omega, rfl⟩ ?_
  rintro n f h' ⟨m, v', ds, g, p', hv, rfl, dj, o, hlen, hpp, hpp2, rfl⟩
  simp only [List.map_cons, List.map_nil, List.cons.injEq, and_true] at hv
  have d1 := dj
  have d2 := dj.symm
  simp only [subs] at d1 d2
  simp only [walk, lists, acts, mem, plain, seqs, maps, cells, resL, resV, intBin, ↓reduceIte, Nat.reduceAdd, Nat.reduceSub, Nat.reduceMul, Nat.reduceLeDiff, Nat.reduceEqDiff, Int.reduceToNat, Int.reduceEq, Int.reduceLT, Int.reduceLE, Int.reduceNeg, Int.reduceAdd, Int.reduceSub, Int.reduceMul, Nat.reducePow, Int.reduceNegSucc, wr, hv.1, hv.2, zs]
  refine ite_lt (fun c => ?_) fun c => ?_
  · have HS : ∀ x, Tk.Sub (g ++ h) x → hcel x js 0 = some (.pointer (some ⟨jr, 0, none⟩)) := fun x hx => hcel_sub ((Sub.right d1.2).trans hx) hs
    have rbR : rIn (g ++ h) eB 1 bv l := rb.sub (Sub.right d1.2)
    have pj : ∀ x, Tk.Sub (g ++ h) x → ∀ v, v = Value.pointer (some ⟨js, 0, none⟩) → ∃ b o w, v = Value.pointer (some ⟨b, o, none⟩) ∧ hcel x b o = some w ∧ qV (.pointer (some ⟨jr, 0, none⟩)) x w := fun x hx v e => ⟨js, 0, _, e, HS x hx, rfl⟩
    refine vc_anyR (memR jr bv p (p' + 22)) [qV (.pointer (some ⟨js, 0, none⟩)), qV (.pointer (some ⟨js, 0, none⟩)), qV (.pointer (some ⟨js, 0, none⟩)), qV (.pointer (some ⟨jr, 0, none⟩)), qI 0 3, qI 1 4,
      qV (.pointer (some ⟨js, 0, none⟩)), qV (.pointer (some ⟨js, 0, none⟩)), qV (.pointer (some ⟨js, 0, none⟩)), qV (.pointer (some ⟨jr, 0, none⟩)), qI 0 31, qS 3 7,
      qV (.pointer (some ⟨js, 0, none⟩)), qV (.pointer (some ⟨js, 0, none⟩)), qV (.pointer (some ⟨js, 0, none⟩)), qV (.pointer (some ⟨jr, 0, none⟩)), qI 0 6, qP, qZ, qSt, qN (g ++ h) jr 52 (cStatement zStatement)] (g ++ h) ?_ ⟨p', by (repeat' first | exact Sub.refl _ | exact Sub.nil _ | assumption | refine Sub.both ?_ ?_ | refine Sub.cons_of (by simp only [subs, d1, d2, hj]) ?_ | exact Sub.left _ _ | refine Sub.app (by simp only [subs, d1, d2, hj]) ?_ | refine Sub.cons (by simp only [subs, d1, d2, hj]) ?_), by simp only [subs, d1, hj], by simp, hpp2⟩ rfl fun ρ hi ho hc => ?_
    · repeat' first | exact fun _ h => absurd h List.not_mem_nil | refine List.forall_mem_cons.2 ⟨?_, ?_⟩ | exact mono_qV _ | exact mono_qI _ _ | exact mono_qS _ _ | exact mono_qP | exact mono_qZ | exact mono_qSt | exact mono_qN _ _ _ _
    simp only [anysR, ndr, maps, lists, plain, Nat.reduceAdd]
    have hP : p' + 22 ≤ 1099511627776 := by omega
    refine ⟨sA_mov fun f g _ _ => ho f 0 rfl, sA_nilc fun f g _ hd => ⟨_, (hi f 17 rfl).trans hd, rfl⟩, sA_fld fun f g _ hd => ⟨_, _, (hi f 18 rfl).trans hd, rfl⟩, sA_load fun f g hs hd => pj _ hs _ ((hi f 19 rfl).trans hd), sA_pick rbR hl hP (n := 4) ⟨by decide, by decide⟩ (fun f g _ hd => ⟨(hi f 20 rfl).trans hd, hc f _⟩) fun g m h0 h1 => ⟨m, rfl, h0, by omega⟩,
      sA_bin fun f g _ hd => ?_,
      sA_mov fun f g _ _ => ho f 0 rfl, sA_nilc fun f g _ hd => ⟨_, (hi f 23 rfl).trans hd, rfl⟩, sA_fld fun f g _ hd => ⟨_, _, (hi f 24 rfl).trans hd, rfl⟩, sA_load fun f g hs hd => pj _ hs _ ((hi f 25 rfl).trans hd), sA_pick rbR hl hP (n := 32) ⟨by decide, by decide⟩ (fun f g _ hd => ⟨(hi f 26 rfl).trans hd.1, hc f _⟩) fun g m h0 h1 => ⟨m, rfl, h0, by omega⟩,
      sA_ints fun f g _ hd => ?_,
      sA_mov fun f g _ _ => ho f 0 rfl, sA_nilc fun f g _ hd => ⟨_, (hi f 29 rfl).trans hd, rfl⟩, sA_fld fun f g _ hd => ⟨_, _, (hi f 30 rfl).trans hd, rfl⟩, sA_load fun f g hs hd => pj _ hs _ ((hi f 31 rfl).trans hd), sA_pick rbR hl hP (n := 7) ⟨by decide, by decide⟩ (fun f g _ hd => ⟨(hi f 32 rfl).trans hd.1, hc f _⟩) fun g m h0 h1 => ⟨m, rfl, h0, by omega⟩,
      sA_idx fun f g _ hd => ?_, sA_load fun f g _ hd => ?_, sA_build fun f g _ hd => ?_, sA_alloc, ?_⟩
    · obtain ⟨n, e, h0, h1⟩ := hd
      exact ⟨1, n, .int .i64 (IntKind.i64.wrap (1 + n)), hc f _, (hi f 21 rfl).trans e, rfl, 1 + n, by rw [wrapI _ (by omega)], by omega, by omega⟩
    · obtain ⟨n, e, _⟩ := hd
      refine ⟨[0, 1, 4, 5, 8, 9, n], rfl, ?_⟩
      simp only [maps, hc, (hi f 27 rfl).trans e]
      rfl
    · obtain ⟨⟨j, l, e, hl, hg⟩, n, e2, h0, h1⟩ := hd
      exact ⟨_, 7, j, l, n, (hi f 28 rfl).trans e, hl, hg, (hi f 33 rfl).trans e2, h0, by omega⟩
    · obtain ⟨b, o, n, e, hr⟩ := hd
      exact ⟨b, o, _, (hi f 34 rfl).trans e, hread_1 hr, n, rfl⟩
    · obtain ⟨⟨a, ea, _⟩, b, eb⟩ := hd
      refine ⟨cStatement ⟨a, b, 0⟩, ?_, _, rfl⟩
      simp only [maps, (hi f 22 rfl).trans ea, (hi f 35 rfl).trans eb]
      rfl
    · intro m2 f2 h2 g2 hm hs2 hd
      obtain ⟨-, -, -, -, -, -, -, -, -, -, -, -, -, -, -, -, -, -, -, ⟨st, est⟩, j5, e5, hg5, hn5, hne5⟩ := hd
      obtain ⟨q, hsub, hq0, hq1, hq2⟩ := hm
      simp only [subs] at hn5
      have m5 : j5 ≠ jr ∧ jr ≠ j5 := ⟨hne5, Ne.symm hne5⟩
      have hlt : q ≤ p' + 21 := by omega
      refine ⟨(j5, blk (cStatement zStatement) 52) :: (g ++ ((jr, blk (rdr bv q) 88) :: h)), ?_, ?_⟩
      · have A : Tk.Sub ((jr, blk (rdr bv q) 88) :: (j5, blk (cStatement zStatement) 52) :: (g ++ h)) h2 := (Sub.cons2 (Sub.cons_of hg5 hs2)).trans hsub
        exact Tk.Sub.trans (by (repeat' first | exact Sub.refl _ | exact Sub.nil _ | assumption | refine Sub.both ?_ ?_ | refine Sub.cons_of (by simp only [subs, d1, d2, hj, m5, hn5]) ?_ | exact Sub.left _ _ | refine Sub.app (by simp only [subs, d1, d2, hj, m5, hn5]) ?_ | refine Sub.cons (by simp only [subs, d1, d2, hj, m5, hn5]) ?_)) A
      have H5 : hcel ((j5, blk (cStatement st) 52) :: (g ++ ((jr, blk (rdr bv q) 88) :: h))) js 0 = some (.pointer (some ⟨jr, 0, none⟩)) := hcel_sub (by (repeat' first | exact Sub.refl _ | exact Sub.nil _ | assumption | refine Sub.both ?_ ?_ | refine Sub.cons_of (by simp only [subs, d1, d2, hj, m5, hn5]) ?_ | exact Sub.left _ _ | refine Sub.app (by simp only [subs, d1, d2, hj, m5, hn5]) ?_ | refine Sub.cons (by simp only [subs, d1, d2, hj, m5, hn5]) ?_)) hs
      simp only [walk, lists, acts, mem, plain, seqs, maps, cells, resL, resV, intBin, ↓reduceIte, Nat.reduceAdd, Nat.reduceSub, Nat.reduceMul, Nat.reduceLeDiff, Nat.reduceEqDiff, Int.reduceToNat, Int.reduceEq, Int.reduceLT, Int.reduceLE, Int.reduceNeg, Int.reduceAdd, Int.reduceSub, Int.reduceMul, Nat.reducePow, Int.reduceNegSucc, wr, hi f2 5 rfl, hi f2 36 rfl, est, e5, wStatement]
      refine ite_pos (fun c2 => ?_) fun c2 => ?_
      · simp only [walk, lists, acts, mem, plain, seqs, maps, cells, resL, resV, intBin, ↓reduceIte, Nat.reduceAdd, Nat.reduceSub, Nat.reduceMul, Nat.reduceLeDiff, Nat.reduceEqDiff, Int.reduceToNat, Int.reduceEq, Int.reduceLT, Int.reduceLE, Int.reduceNeg, Int.reduceAdd, Int.reduceSub, Int.reduceMul, Nat.reducePow, Int.reduceNegSucc, H5]
        refine (pick_c (p := q) (h := (j5, blk (cStatement st) 52) :: (g ++ h)) (by simp only [subs, d1, hj, m5]) ((rbR).sub (Sub.cons (by simp only [subs, hn5]) (Sub.refl _))) hl (by omega) (by omega) fun y hy0 hy1 _ => ?_).weaken (by (repeat' first | exact Sub.refl _ | exact Sub.nil _ | assumption | refine Sub.both ?_ ?_ | refine Sub.cons_of (by simp only [subs, d1, d2, hj, m5, hn5]) ?_ | exact Sub.left _ _ | refine Sub.app (by simp only [subs, d1, d2, hj, m5, hn5]) ?_ | refine Sub.cons (by simp only [subs, d1, d2, hj, m5, hn5]) ?_))
        have hy := hy1 (by omega)
        simp (disch := omega) only [walk, lists, acts, mem, plain, seqs, maps, cells, resL, resV, intBin, ↓reduceIte, Nat.reduceAdd, Nat.reduceSub, Nat.reduceMul, Nat.reduceLeDiff, Nat.reduceEqDiff, Int.reduceToNat, Int.reduceEq, Int.reduceLT, Int.reduceLE, Int.reduceNeg, Int.reduceAdd, Int.reduceSub, Int.reduceMul, Nat.reducePow, Int.reduceNegSucc, wrapI, m5, wStatement]
        refine newB_intro (o := blk (fl cStatement [{ st with num := y }]) 52) fun j9 hj9 => ?_
        simp only [subs] at hj9
        simp only [walk, lists, acts, mem, plain, seqs, maps, cells, resL, resV, intBin, ↓reduceIte, Nat.reduceAdd, Nat.reduceSub, Nat.reduceMul, Nat.reduceLeDiff, Nat.reduceEqDiff, Int.reduceToNat, Int.reduceEq, Int.reduceLT, Int.reduceLE, Int.reduceNeg, Int.reduceAdd, Int.reduceSub, Int.reduceMul, Nat.reducePow, Int.reduceNegSucc]
        refine app_leaf (g := g) (h := (jr, blk (rdr bv (q + 1)) 88) :: h) (M := (j9, blk (fl cStatement [{ st with num := y }]) 52) :: (jr, blk (rdr bv (q + 1)) 88) :: (j5, blk (cStatement { st with num := y }) 52) :: (g ++ h)) cStatement_len cStatement_one tStatements iStatement (by (repeat' first | exact Sub.refl _ | exact Sub.nil _ | assumption | refine Sub.both ?_ ?_ | refine Sub.cons_of (by simp only [subs, d1, d2, hj, hj9, m5, hn5]) ?_ | exact Sub.left _ _ | refine Sub.app (by simp only [subs, d1, d2, hj, hj9, m5, hn5]) ?_ | refine Sub.cons (by simp only [subs, d1, d2, hj, hj9, m5, hn5]) ?_)) (by simp only [subs, d1]) o (rL_lit cStatement_len [{ st with num := y }]) (by simp; omega) (by simp; omega) fun v2 g9 o9 d9 => ?_
        simp (disch := omega) only [walk, lists, acts, mem, plain, seqs, maps, cells, resL, resV, intBin, ↓reduceIte, Nat.reduceAdd, Nat.reduceSub, Nat.reduceMul, Nat.reduceLeDiff, Nat.reduceEqDiff, Int.reduceToNat, Int.reduceEq, Int.reduceLT, Int.reduceLE, Int.reduceNeg, Int.reduceAdd, Int.reduceSub, Int.reduceMul, Nat.reducePow, Int.reduceNegSucc, wrapI]
        exact ⟨n - 1, by omega, _, .refl _, n - 1, v2, _, g9, (q + 1), by simp; omega, rfl, d9, o9, by simp; omega, by omega, by omega, rfl⟩
      · refine ite_pos (fun c3 => ?_) fun c3 => ?_
        · simp only [walk, lists, acts, mem, plain, seqs, maps, cells, resL, resV, intBin, ↓reduceIte, Nat.reduceAdd, Nat.reduceSub, Nat.reduceMul, Nat.reduceLeDiff, Nat.reduceEqDiff, Int.reduceToNat, Int.reduceEq, Int.reduceLT, Int.reduceLE, Int.reduceNeg, Int.reduceAdd, Int.reduceSub, Int.reduceMul, Nat.reducePow, Int.reduceNegSucc, H5]
          refine (pick_c (p := q) (h := (j5, blk (cStatement st) 52) :: (g ++ h)) (by simp only [subs, d1, hj, m5]) ((rbR).sub (Sub.cons (by simp only [subs, hn5]) (Sub.refl _))) hl (by omega) (by omega) fun y hy0 hy1 _ => ?_).weaken (by (repeat' first | exact Sub.refl _ | exact Sub.nil _ | assumption | refine Sub.both ?_ ?_ | refine Sub.cons_of (by simp only [subs, d1, d2, hj, m5, hn5]) ?_ | exact Sub.left _ _ | refine Sub.app (by simp only [subs, d1, d2, hj, m5, hn5]) ?_ | refine Sub.cons (by simp only [subs, d1, d2, hj, m5, hn5]) ?_))
          have hy := hy1 (by omega)
          simp (disch := omega) only [walk, lists, acts, mem, plain, seqs, maps, cells, resL, resV, intBin, ↓reduceIte, Nat.reduceAdd, Nat.reduceSub, Nat.reduceMul, Nat.reduceLeDiff, Nat.reduceEqDiff, Int.reduceToNat, Int.reduceEq, Int.reduceLT, Int.reduceLE, Int.reduceNeg, Int.reduceAdd, Int.reduceSub, Int.reduceMul, Nat.reducePow, Int.reduceNegSucc, wrapI, m5, wStatement]
          refine newB_intro (o := blk (fl cStatement [{ st with num := y - 10 }]) 52) fun j9 hj9 => ?_
          simp only [subs] at hj9
          simp only [walk, lists, acts, mem, plain, seqs, maps, cells, resL, resV, intBin, ↓reduceIte, Nat.reduceAdd, Nat.reduceSub, Nat.reduceMul, Nat.reduceLeDiff, Nat.reduceEqDiff, Int.reduceToNat, Int.reduceEq, Int.reduceLT, Int.reduceLE, Int.reduceNeg, Int.reduceAdd, Int.reduceSub, Int.reduceMul, Nat.reducePow, Int.reduceNegSucc]
          refine app_leaf (g := g) (h := (jr, blk (rdr bv (q + 1)) 88) :: h) (M := (j9, blk (fl cStatement [{ st with num := y - 10 }]) 52) :: (jr, blk (rdr bv (q + 1)) 88) :: (j5, blk (cStatement { st with num := y - 10 }) 52) :: (g ++ h)) cStatement_len cStatement_one tStatements iStatement (by (repeat' first | exact Sub.refl _ | exact Sub.nil _ | assumption | refine Sub.both ?_ ?_ | refine Sub.cons_of (by simp only [subs, d1, d2, hj, hj9, m5, hn5]) ?_ | exact Sub.left _ _ | refine Sub.app (by simp only [subs, d1, d2, hj, hj9, m5, hn5]) ?_ | refine Sub.cons (by simp only [subs, d1, d2, hj, hj9, m5, hn5]) ?_)) (by simp only [subs, d1]) o (rL_lit cStatement_len [{ st with num := y - 10 }]) (by simp; omega) (by simp; omega) fun v2 g9 o9 d9 => ?_
          simp (disch := omega) only [walk, lists, acts, mem, plain, seqs, maps, cells, resL, resV, intBin, ↓reduceIte, Nat.reduceAdd, Nat.reduceSub, Nat.reduceMul, Nat.reduceLeDiff, Nat.reduceEqDiff, Int.reduceToNat, Int.reduceEq, Int.reduceLT, Int.reduceLE, Int.reduceNeg, Int.reduceAdd, Int.reduceSub, Int.reduceMul, Nat.reducePow, Int.reduceNegSucc, wrapI]
          exact ⟨n - 1, by omega, _, .refl _, n - 1, v2, _, g9, (q + 1), by simp; omega, rfl, d9, o9, by simp; omega, by omega, by omega, rfl⟩
        · refine ite_pos (fun c4 => ?_) fun c4 => ?_
          · simp only [walk, lists, acts, mem, plain, seqs, maps, cells, resL, resV, intBin, ↓reduceIte, Nat.reduceAdd, Nat.reduceSub, Nat.reduceMul, Nat.reduceLeDiff, Nat.reduceEqDiff, Int.reduceToNat, Int.reduceEq, Int.reduceLT, Int.reduceLE, Int.reduceNeg, Int.reduceAdd, Int.reduceSub, Int.reduceMul, Nat.reducePow, Int.reduceNegSucc, H5]
            refine (pick_c (p := q) (h := (j5, blk (cStatement st) 52) :: (g ++ h)) (by simp only [subs, d1, hj, m5]) ((rbR).sub (Sub.cons (by simp only [subs, hn5]) (Sub.refl _))) hl (by omega) (by omega) fun y hy0 hy1 _ => ?_).weaken (by (repeat' first | exact Sub.refl _ | exact Sub.nil _ | assumption | refine Sub.both ?_ ?_ | refine Sub.cons_of (by simp only [subs, d1, d2, hj, m5, hn5]) ?_ | exact Sub.left _ _ | refine Sub.app (by simp only [subs, d1, d2, hj, m5, hn5]) ?_ | refine Sub.cons (by simp only [subs, d1, d2, hj, m5, hn5]) ?_))
            have hy := hy1 (by omega)
            simp (disch := omega) only [walk, lists, acts, mem, plain, seqs, maps, cells, resL, resV, intBin, ↓reduceIte, Nat.reduceAdd, Nat.reduceSub, Nat.reduceMul, Nat.reduceLeDiff, Nat.reduceEqDiff, Int.reduceToNat, Int.reduceEq, Int.reduceLT, Int.reduceLE, Int.reduceNeg, Int.reduceAdd, Int.reduceSub, Int.reduceMul, Nat.reducePow, Int.reduceNegSucc, wrapI, m5, wStatement]
            refine newB_intro (o := blk (fl cStatement [{ st with num := y - 20 }]) 52) fun j9 hj9 => ?_
            simp only [subs] at hj9
            simp only [walk, lists, acts, mem, plain, seqs, maps, cells, resL, resV, intBin, ↓reduceIte, Nat.reduceAdd, Nat.reduceSub, Nat.reduceMul, Nat.reduceLeDiff, Nat.reduceEqDiff, Int.reduceToNat, Int.reduceEq, Int.reduceLT, Int.reduceLE, Int.reduceNeg, Int.reduceAdd, Int.reduceSub, Int.reduceMul, Nat.reducePow, Int.reduceNegSucc]
            refine app_leaf (g := g) (h := (jr, blk (rdr bv (q + 1)) 88) :: h) (M := (j9, blk (fl cStatement [{ st with num := y - 20 }]) 52) :: (jr, blk (rdr bv (q + 1)) 88) :: (j5, blk (cStatement { st with num := y - 20 }) 52) :: (g ++ h)) cStatement_len cStatement_one tStatements iStatement (by (repeat' first | exact Sub.refl _ | exact Sub.nil _ | assumption | refine Sub.both ?_ ?_ | refine Sub.cons_of (by simp only [subs, d1, d2, hj, hj9, m5, hn5]) ?_ | exact Sub.left _ _ | refine Sub.app (by simp only [subs, d1, d2, hj, hj9, m5, hn5]) ?_ | refine Sub.cons (by simp only [subs, d1, d2, hj, hj9, m5, hn5]) ?_)) (by simp only [subs, d1]) o (rL_lit cStatement_len [{ st with num := y - 20 }]) (by simp; omega) (by simp; omega) fun v2 g9 o9 d9 => ?_
            simp (disch := omega) only [walk, lists, acts, mem, plain, seqs, maps, cells, resL, resV, intBin, ↓reduceIte, Nat.reduceAdd, Nat.reduceSub, Nat.reduceMul, Nat.reduceLeDiff, Nat.reduceEqDiff, Int.reduceToNat, Int.reduceEq, Int.reduceLT, Int.reduceLE, Int.reduceNeg, Int.reduceAdd, Int.reduceSub, Int.reduceMul, Nat.reducePow, Int.reduceNegSucc, wrapI]
            exact ⟨n - 1, by omega, _, .refl _, n - 1, v2, _, g9, (q + 1), by simp; omega, rfl, d9, o9, by simp; omega, by omega, by omega, rfl⟩
          · refine newB_intro (o := blk (fl cStatement [st]) 52) fun j9 hj9 => ?_
            simp only [subs] at hj9
            simp only [walk, lists, acts, mem, plain, seqs, maps, cells, resL, resV, intBin, ↓reduceIte, Nat.reduceAdd, Nat.reduceSub, Nat.reduceMul, Nat.reduceLeDiff, Nat.reduceEqDiff, Int.reduceToNat, Int.reduceEq, Int.reduceLT, Int.reduceLE, Int.reduceNeg, Int.reduceAdd, Int.reduceSub, Int.reduceMul, Nat.reducePow, Int.reduceNegSucc]
            refine app_leaf (g := g) (h := (jr, blk (rdr bv q) 88) :: h) (M := (j9, blk (fl cStatement [st]) 52) :: (j5, blk (cStatement st) 52) :: (g ++ ((jr, blk (rdr bv q) 88) :: h))) cStatement_len cStatement_one tStatements iStatement (by (repeat' first | exact Sub.refl _ | exact Sub.nil _ | assumption | refine Sub.both ?_ ?_ | refine Sub.cons_of (by simp only [subs, d1, d2, hj, hj9, m5, hn5]) ?_ | exact Sub.left _ _ | refine Sub.app (by simp only [subs, d1, d2, hj, hj9, m5, hn5]) ?_ | refine Sub.cons (by simp only [subs, d1, d2, hj, hj9, m5, hn5]) ?_)) (by simp only [subs, d1]) o (rL_lit cStatement_len [st]) (by simp; omega) (by simp; omega) fun v2 g9 o9 d9 => ?_
            simp (disch := omega) only [walk, lists, acts, mem, plain, seqs, maps, cells, resL, resV, intBin, ↓reduceIte, Nat.reduceAdd, Nat.reduceSub, Nat.reduceMul, Nat.reduceLeDiff, Nat.reduceEqDiff, Int.reduceToNat, Int.reduceEq, Int.reduceLT, Int.reduceLE, Int.reduceNeg, Int.reduceAdd, Int.reduceSub, Int.reduceMul, Nat.reducePow, Int.reduceNegSucc, wrapI]
            exact ⟨n - 1, by omega, _, .refl _, n - 1, v2, _, g9, q, by simp; omega, rfl, d9, o9, by simp; omega, by omega, by omega, rfl⟩
  · exact .of (k v' g ds p' o dj (by omega) hpp2 (by omega))
end Go.Proofs.YtfkkjjballajaaaDoor
end

/- What is drawn for the laws of deals. -/
section
set_option linter.unusedVariables false
set_option linter.unusedSimpArgs false
set_option maxRecDepth 20000
attribute [local irreducible] Go.Tk.vc Go.Tk.vops Go.Tk.vdr Go.Tk.vop Go.Tk.vfl Go.Tk.HCalls
namespace Go.Tk
open Go
theorem hK_map (F : H → H) (o : Option H) (f : H → Prop) : hK (Option.map F o) f = hK o (fun x => f (F x)) := by cases o <;> rfl
theorem fl_eI (l : List Int) : fl eI l = l.map (Value.int .i64) := by
  induction l with
  | nil => rfl
  | cons a l ih => rw [fl_cons, ih]; rfl
theorem hcel_ints {M : H} {j k : Nat} {l : List Int} {T : Nat} (h : hget M j = some (blk (fl eI l) T)) (hk : k < l.length) : hcel M j k = some (.int .i64 l[k]) := by
  unfold hcel
  rw [h, fl_eI]
  simp [blk, hk]
end Go.Tk
namespace Go.Proofs.YtfkkjjballajaaaDoor
open Go Go.Tk

theorem l72Deal_c {h : H} {jr p : Nat} {bv : Value} {l : List UInt8} (hj : hget h jr = none) (rb : rIn h eB 1 bv l) (hl : l.length ≤ 1048576) (hp : p ≤ 1000000) {R : Ending → H → Prop}
    (k : ∀ v g ds (p' : Nat), oLs 52 cStatement 3 v ds g → Dj g ((jr, blk (rdr bv p') 88) :: h) → ds.length ≤ 8 → p' ≤ p + 1000 → R (.returned v) (g ++ ((jr, blk (rdr bv p') 88) :: h))) :
    HCalls Tryd.prog 29 #[.pointer (some ⟨jr, 0, none⟩)] ((jr, blk (rdr bv p) 88) :: h) R := by
  refine HCalls_ir (args := [.pointer (some ⟨jr, 0, none⟩)]) Tryd.func29 ir29 ?_
  have zs := zStatement_eq
  simp only [walk, lists, acts, mem, plain, seqs, maps, cells, resL, resV, intBin, ↓reduceIte, Nat.reduceAdd, Nat.reduceSub, Nat.reduceMul, Nat.reduceLeDiff, Nat.reduceEqDiff, Int.reduceToNat, Int.reduceEq, Int.reduceLT, Int.reduceLE, Int.reduceNeg, Int.reduceAdd, Int.reduceSub, Int.reduceMul, Nat.reducePow, Int.reduceNegSucc, zs]
  refine sim_c rfl fun js S hjs => ?_
  have ns := hjs
  simp only [subs] at ns
  have ers : ¬ jr = js := fun e => ns.1 e.symm
  simp only [walk, lists, acts, mem, plain, seqs, maps, cells, resL, resV, intBin, ↓reduceIte, Nat.reduceAdd, Nat.reduceSub, Nat.reduceMul, Nat.reduceLeDiff, Nat.reduceEqDiff, Int.reduceToNat, Int.reduceEq, Int.reduceLT, Int.reduceLE, Int.reduceNeg, Int.reduceAdd, Int.reduceSub, Int.reduceMul, Nat.reducePow, Int.reduceNegSucc, zs]
  refine (deal_c (h := (js, blk (.pointer (some ⟨jr, 0, none⟩) :: S) 107) :: h) (js := js) (p := p) (by unfold hcel; rw [hget_same]; rfl) ns.1 (by simp only [subs, ers, hj]) (rb.sub (Sub.cons ns.2 (Sub.refl _))) hl (by omega) fun v g ds p1 o d hlen hp1 hp2 => ?_).weaken (by (repeat' first | exact Sub.refl _ | exact Sub.nil _ | assumption | refine Sub.both ?_ ?_ | refine Sub.cons_of (by simp only [subs, ns, ers, hj]) ?_ | exact Sub.left _ _ | refine Sub.app (by simp only [subs, ns, ers, hj]) ?_ | refine Sub.cons (by simp only [subs, ns, ers, hj]) ?_))
  have dg := d
  simp only [subs] at dg
  have gh : ∀ q, Tk.Sub ((jr, blk (rdr bv q) 88) :: (g ++ h)) (g ++ ((jr, blk (rdr bv q) 88) :: (js, blk (.pointer (some ⟨jr, 0, none⟩) :: S) 107) :: h)) := fun q => by (repeat' first | exact Sub.refl _ | exact Sub.nil _ | assumption | refine Sub.both ?_ ?_ | refine Sub.cons_of (by simp only [subs, dg, ns, ers, hj]) ?_ | exact Sub.left _ _ | refine Sub.app (by simp only [subs, dg, ns, ers, hj]) ?_ | refine Sub.cons (by simp only [subs, dg, ns, ers, hj]) ?_)
  have hjg : hget (g ++ h) jr = none := by simp only [subs, dg, hj]
  have rbg : rIn (g ++ h) eB 1 bv l := rb.sub (Sub.right dg.2.2)
  simp only [walk, lists, acts, mem, plain, seqs, maps, cells, resL, resV, intBin, ↓reduceIte, Nat.reduceAdd, Nat.reduceSub, Nat.reduceMul, Nat.reduceLeDiff, Nat.reduceEqDiff, Int.reduceToNat, Int.reduceEq, Int.reduceLT, Int.reduceLE, Int.reduceNeg, Int.reduceAdd, Int.reduceSub, Int.reduceMul, Nat.reducePow, Int.reduceNegSucc, zs]
  refine (pick_c (p := p1) (h := g ++ h) hjg rbg hl (by omega) (by omega) fun x hx0 hx1 _ => ?_).weaken (gh p1)
  have hx := hx1 (by omega)
  simp only [walk, lists, acts, mem, plain, seqs, maps, cells, resL, resV, intBin, ↓reduceIte, Nat.reduceAdd, Nat.reduceSub, Nat.reduceMul, Nat.reduceLeDiff, Nat.reduceEqDiff, Int.reduceToNat, Int.reduceEq, Int.reduceLT, Int.reduceLE, Int.reduceNeg, Int.reduceAdd, Int.reduceSub, Int.reduceMul, Nat.reducePow, Int.reduceNegSucc, zs]
  have fin : ∀ {q : Nat} {M : H}, q ≤ p + 1000 → Tk.Sub ((jr, blk (rdr bv q) 88) :: (g ++ h)) M → dP R (.returned v) M := fun {q M} hq sM =>
    ⟨g ++ ((jr, blk (rdr bv q) 88) :: h), Tk.Sub.trans (by (repeat' first | exact Sub.refl _ | exact Sub.nil _ | assumption | refine Sub.both ?_ ?_ | refine Sub.cons_of (by simp only [subs, dg, hj]) ?_ | exact Sub.left _ _ | refine Sub.app (by simp only [subs, dg, hj]) ?_ | refine Sub.cons (by simp only [subs, dg, hj]) ?_)) sM, k v g ds q o (by simp only [subs, dg]) (by omega) hq⟩
  refine ite_pos (fun c0 => ?_) fun c0 => ?_
  · simp only [walk, lists, acts, mem, plain, seqs, maps, cells, resL, resV, intBin, ↓reduceIte, Nat.reduceAdd, Nat.reduceSub, Nat.reduceMul, Nat.reduceLeDiff, Nat.reduceEqDiff, Int.reduceToNat, Int.reduceEq, Int.reduceLT, Int.reduceLE, Int.reduceNeg, Int.reduceAdd, Int.reduceSub, Int.reduceMul, Nat.reducePow, Int.reduceNegSucc, zs, o.rd.len]
    refine pick_c (p := p1 + 1) (h := g ++ h) hjg rbg hl (by omega) (by omega) fun y hy0 hy1 _ => ?_
    have hy := hy1 (by omega)
    simp only [walk, lists, acts, mem, plain, seqs, maps, cells, resL, resV, intBin, ↓reduceIte, Nat.reduceAdd, Nat.reduceSub, Nat.reduceMul, Nat.reduceLeDiff, Nat.reduceEqDiff, Int.reduceToNat, Int.reduceEq, Int.reduceLT, Int.reduceLE, Int.reduceNeg, Int.reduceAdd, Int.reduceSub, Int.reduceMul, Nat.reducePow, Int.reduceNegSucc, zs]
    refine newB_intro (o := blk (fl eI [0, 5]) 3) fun j5 hj5 => ?_
    have n5 := hj5
    simp only [subs] at n5
    have e5 : ¬ jr = j5 := fun e => n5.1 e.symm
    have ns5 : ¬ j5 = jr := n5.1
    have hjg5 : hget ((j5, blk (fl eI [0, 5]) 3) :: (g ++ h)) jr = none := by simp only [subs, e5, dg, hj]
    simp only [walk, lists, acts, mem, plain, seqs, maps, cells, resL, resV, intBin, ↓reduceIte, Nat.reduceAdd, Nat.reduceSub, Nat.reduceMul, Nat.reduceLeDiff, Nat.reduceEqDiff, Int.reduceToNat, Int.reduceEq, Int.reduceLT, Int.reduceLE, Int.reduceNeg, Int.reduceAdd, Int.reduceSub, Int.reduceMul, Nat.reducePow, Int.reduceNegSucc, zs]
    refine (pick_c (p := p1 + 1 + 1) (h := (j5, blk (fl eI [0, 5]) 3) :: (g ++ h)) hjg5 (rbg.sub (Sub.cons (by simp only [subs, n5]) (Sub.refl _))) hl (by omega) (by omega) fun z hz0 hz1 _ => ?_).weaken (by (repeat' first | exact Sub.refl _ | exact Sub.nil _ | assumption | refine Sub.both ?_ ?_ | refine Sub.cons_of (by simp only [subs, n5, e5, dg, hj]) ?_ | exact Sub.left _ _ | refine Sub.app (by simp only [subs, n5, e5, dg, hj]) ?_ | refine Sub.cons (by simp only [subs, n5, e5, dg, hj]) ?_))
    have hz := hz1 (by omega)
    simp only [walk, lists, acts, mem, plain, seqs, maps, cells, resL, resV, intBin, ↓reduceIte, Nat.reduceAdd, Nat.reduceSub, Nat.reduceMul, Nat.reduceLeDiff, Nat.reduceEqDiff, Int.reduceToNat, Int.reduceEq, Int.reduceLT, Int.reduceLE, Int.reduceNeg, Int.reduceAdd, Int.reduceSub, Int.reduceMul, Nat.reducePow, Int.reduceNegSucc, zs]
    have hcz := hcel_ints (M := (jr, blk (rdr bv (p1 + 1 + 1 + 1)) 88) :: (j5, blk (fl eI [0, 5]) 3) :: (g ++ h)) (j := j5) (l := [0, 5]) (T := 3) (k := z.toNat) (by simp only [subs, n5, ns5]) (by show z.toNat < 2; omega)
    generalize ([0, 5] : List Int)[z.toNat]'(by show z.toNat < 2; omega) = a at hcz
    refine ⟨⟨by omega, by omega⟩, ?_⟩
    simp only [walk, lists, acts, mem, plain, seqs, maps, cells, resL, resV, intBin, ↓reduceIte, Nat.reduceAdd, Nat.reduceSub, Nat.reduceMul, Nat.reduceLeDiff, Nat.reduceEqDiff, Int.reduceToNat, Int.reduceEq, Int.reduceLT, Int.reduceLE, Int.reduceNeg, Int.reduceAdd, Int.reduceSub, Int.reduceMul, Nat.reducePow, Int.reduceNegSucc, hcz, zs]
    refine own_idx (j := y) (i := y.toNat) cStatement_len o (by omega) (by omega) fun b cap sp hv' hc hs hg => ?_
    subst hg
    have nb := dg
    have nb5 := n5
    simp only [subs] at nb nb5
    have f1 : ¬ b = jr := fun e => by have := dg.1; rw [e, hget_same] at this; cases this
    have f2 : ¬ b = j5 := fun e => by have := n5.2.1; rw [e, hget_same] at this; cases this
    have f3 : ¬ jr = b := fun e => f1 e.symm
    have f4 : ¬ j5 = b := fun e => f2 e.symm
    simp only [walk, lists, acts, mem, plain, seqs, maps, cells, resL, resV, intBin, ↓reduceIte, Nat.reduceAdd, Nat.reduceSub, Nat.reduceMul, Nat.reduceLeDiff, Nat.reduceEqDiff, Int.reduceToNat, Int.reduceEq, Int.reduceLT, Int.reduceLE, Int.reduceNeg, Int.reduceAdd, Int.reduceSub, Int.reduceMul, Nat.reducePow, Int.reduceNegSucc, zs, f1, f2]
    simp only [hK_map]
    refine st_own (i := y.toNat) (a' := { ds[y.toNat]'(by omega) with do_ := a }) (off := 0) cStatement_len (by omega) (by omega) rfl (by omega) rfl ?_
    simp only [walk, lists, acts, mem, plain, seqs, maps, cells, resL, resV, intBin, ↓reduceIte, Nat.reduceAdd, Nat.reduceSub, Nat.reduceMul, Nat.reduceLeDiff, Nat.reduceEqDiff, Int.reduceToNat, Int.reduceEq, Int.reduceLT, Int.reduceLE, Int.reduceNeg, Int.reduceAdd, Int.reduceSub, Int.reduceMul, Nat.reducePow, Int.reduceNegSucc, zs]
    have o3 := own_set (e := 52) (i := y.toNat) (a' := { ds[y.toNat]'(by omega) with do_ := a }) cStatement_len hv' hc hs
    exact ⟨_, by (repeat' first | exact Sub.refl _ | exact Sub.nil _ | assumption | refine Sub.both ?_ ?_ | refine Sub.cons_of (by simp only [subs, nb, nb5, f1, f2, f3, f4, e5, ns5, hj]) ?_ | exact Sub.left _ _ | refine Sub.app (by simp only [subs, nb, nb5, f1, f2, f3, f4, e5, ns5, hj]) ?_ | refine Sub.cons (by simp only [subs, nb, nb5, f1, f2, f3, f4, e5, ns5, hj]) ?_), k v _ _ (p1 + 1 + 1 + 1) o3 (by simp only [subs, nb]) (by rw [List.length_set]; omega) (by omega)⟩
  refine ite_pos (fun c1 => ?_) fun c1 => ?_
  · simp only [walk, lists, acts, mem, plain, seqs, maps, cells, resL, resV, intBin, ↓reduceIte, Nat.reduceAdd, Nat.reduceSub, Nat.reduceMul, Nat.reduceLeDiff, Nat.reduceEqDiff, Int.reduceToNat, Int.reduceEq, Int.reduceLT, Int.reduceLE, Int.reduceNeg, Int.reduceAdd, Int.reduceSub, Int.reduceMul, Nat.reducePow, Int.reduceNegSucc, zs, o.rd.len]
    refine pick_c (p := p1 + 1) (h := g ++ h) hjg rbg hl (by omega) (by omega) fun y hy0 hy1 _ => ?_
    have hy := hy1 (by omega)
    simp only [walk, lists, acts, mem, plain, seqs, maps, cells, resL, resV, intBin, ↓reduceIte, Nat.reduceAdd, Nat.reduceSub, Nat.reduceMul, Nat.reduceLeDiff, Nat.reduceEqDiff, Int.reduceToNat, Int.reduceEq, Int.reduceLT, Int.reduceLE, Int.reduceNeg, Int.reduceAdd, Int.reduceSub, Int.reduceMul, Nat.reducePow, Int.reduceNegSucc, zs]
    refine newB_intro (o := blk (fl eI [-1, 32, 31]) 3) fun j5 hj5 => ?_
    have n5 := hj5
    simp only [subs] at n5
    have e5 : ¬ jr = j5 := fun e => n5.1 e.symm
    have ns5 : ¬ j5 = jr := n5.1
    have hjg5 : hget ((j5, blk (fl eI [-1, 32, 31]) 3) :: (g ++ h)) jr = none := by simp only [subs, e5, dg, hj]
    simp only [walk, lists, acts, mem, plain, seqs, maps, cells, resL, resV, intBin, ↓reduceIte, Nat.reduceAdd, Nat.reduceSub, Nat.reduceMul, Nat.reduceLeDiff, Nat.reduceEqDiff, Int.reduceToNat, Int.reduceEq, Int.reduceLT, Int.reduceLE, Int.reduceNeg, Int.reduceAdd, Int.reduceSub, Int.reduceMul, Nat.reducePow, Int.reduceNegSucc, zs]
    refine (pick_c (p := p1 + 1 + 1) (h := (j5, blk (fl eI [-1, 32, 31]) 3) :: (g ++ h)) hjg5 (rbg.sub (Sub.cons (by simp only [subs, n5]) (Sub.refl _))) hl (by omega) (by omega) fun z hz0 hz1 _ => ?_).weaken (by (repeat' first | exact Sub.refl _ | exact Sub.nil _ | assumption | refine Sub.both ?_ ?_ | refine Sub.cons_of (by simp only [subs, n5, e5, dg, hj]) ?_ | exact Sub.left _ _ | refine Sub.app (by simp only [subs, n5, e5, dg, hj]) ?_ | refine Sub.cons (by simp only [subs, n5, e5, dg, hj]) ?_))
    have hz := hz1 (by omega)
    simp only [walk, lists, acts, mem, plain, seqs, maps, cells, resL, resV, intBin, ↓reduceIte, Nat.reduceAdd, Nat.reduceSub, Nat.reduceMul, Nat.reduceLeDiff, Nat.reduceEqDiff, Int.reduceToNat, Int.reduceEq, Int.reduceLT, Int.reduceLE, Int.reduceNeg, Int.reduceAdd, Int.reduceSub, Int.reduceMul, Nat.reducePow, Int.reduceNegSucc, zs]
    have hcz := hcel_ints (M := (jr, blk (rdr bv (p1 + 1 + 1 + 1)) 88) :: (j5, blk (fl eI [-1, 32, 31]) 3) :: (g ++ h)) (j := j5) (l := [-1, 32, 31]) (T := 3) (k := z.toNat) (by simp only [subs, n5, ns5]) (by show z.toNat < 3; omega)
    generalize ([-1, 32, 31] : List Int)[z.toNat]'(by show z.toNat < 3; omega) = a at hcz
    refine ⟨⟨by omega, by omega⟩, ?_⟩
    simp only [walk, lists, acts, mem, plain, seqs, maps, cells, resL, resV, intBin, ↓reduceIte, Nat.reduceAdd, Nat.reduceSub, Nat.reduceMul, Nat.reduceLeDiff, Nat.reduceEqDiff, Int.reduceToNat, Int.reduceEq, Int.reduceLT, Int.reduceLE, Int.reduceNeg, Int.reduceAdd, Int.reduceSub, Int.reduceMul, Nat.reducePow, Int.reduceNegSucc, hcz, zs]
    refine own_idx (j := y) (i := y.toNat) cStatement_len o (by omega) (by omega) fun b cap sp hv' hc hs hg => ?_
    subst hg
    have nb := dg
    have nb5 := n5
    simp only [subs] at nb nb5
    have f1 : ¬ b = jr := fun e => by have := dg.1; rw [e, hget_same] at this; cases this
    have f2 : ¬ b = j5 := fun e => by have := n5.2.1; rw [e, hget_same] at this; cases this
    have f3 : ¬ jr = b := fun e => f1 e.symm
    have f4 : ¬ j5 = b := fun e => f2 e.symm
    simp only [walk, lists, acts, mem, plain, seqs, maps, cells, resL, resV, intBin, ↓reduceIte, Nat.reduceAdd, Nat.reduceSub, Nat.reduceMul, Nat.reduceLeDiff, Nat.reduceEqDiff, Int.reduceToNat, Int.reduceEq, Int.reduceLT, Int.reduceLE, Int.reduceNeg, Int.reduceAdd, Int.reduceSub, Int.reduceMul, Nat.reducePow, Int.reduceNegSucc, zs, f1, f2]
    simp only [hK_map]
    refine st_own (i := y.toNat) (a' := { ds[y.toNat]'(by omega) with key := a }) (off := 1) cStatement_len (by omega) (by omega) rfl (by omega) rfl ?_
    simp only [walk, lists, acts, mem, plain, seqs, maps, cells, resL, resV, intBin, ↓reduceIte, Nat.reduceAdd, Nat.reduceSub, Nat.reduceMul, Nat.reduceLeDiff, Nat.reduceEqDiff, Int.reduceToNat, Int.reduceEq, Int.reduceLT, Int.reduceLE, Int.reduceNeg, Int.reduceAdd, Int.reduceSub, Int.reduceMul, Nat.reducePow, Int.reduceNegSucc, zs]
    have o3 := own_set (e := 52) (i := y.toNat) (a' := { ds[y.toNat]'(by omega) with key := a }) cStatement_len hv' hc hs
    exact ⟨_, by (repeat' first | exact Sub.refl _ | exact Sub.nil _ | assumption | refine Sub.both ?_ ?_ | refine Sub.cons_of (by simp only [subs, nb, nb5, f1, f2, f3, f4, e5, ns5, hj]) ?_ | exact Sub.left _ _ | refine Sub.app (by simp only [subs, nb, nb5, f1, f2, f3, f4, e5, ns5, hj]) ?_ | refine Sub.cons (by simp only [subs, nb, nb5, f1, f2, f3, f4, e5, ns5, hj]) ?_), k v _ _ (p1 + 1 + 1 + 1) o3 (by simp only [subs, nb]) (by rw [List.length_set]; omega) (by omega)⟩
  refine ite_pos (fun c2 => ?_) fun c2 => ?_
  · simp only [walk, lists, acts, mem, plain, seqs, maps, cells, resL, resV, intBin, ↓reduceIte, Nat.reduceAdd, Nat.reduceSub, Nat.reduceMul, Nat.reduceLeDiff, Nat.reduceEqDiff, Int.reduceToNat, Int.reduceEq, Int.reduceLT, Int.reduceLE, Int.reduceNeg, Int.reduceAdd, Int.reduceSub, Int.reduceMul, Nat.reducePow, Int.reduceNegSucc, zs, o.rd.len]
    refine pick_c (p := p1 + 1) (h := g ++ h) hjg rbg hl (by omega) (by omega) fun y hy0 hy1 _ => ?_
    have hy := hy1 (by omega)
    simp only [walk, lists, acts, mem, plain, seqs, maps, cells, resL, resV, intBin, ↓reduceIte, Nat.reduceAdd, Nat.reduceSub, Nat.reduceMul, Nat.reduceLeDiff, Nat.reduceEqDiff, Int.reduceToNat, Int.reduceEq, Int.reduceLT, Int.reduceLE, Int.reduceNeg, Int.reduceAdd, Int.reduceSub, Int.reduceMul, Nat.reducePow, Int.reduceNegSucc, zs]
    refine newB_intro (o := blk (fl eI [-10000, 10000, 9999, -9999]) 3) fun j5 hj5 => ?_
    have n5 := hj5
    simp only [subs] at n5
    have e5 : ¬ jr = j5 := fun e => n5.1 e.symm
    have ns5 : ¬ j5 = jr := n5.1
    have hjg5 : hget ((j5, blk (fl eI [-10000, 10000, 9999, -9999]) 3) :: (g ++ h)) jr = none := by simp only [subs, e5, dg, hj]
    simp only [walk, lists, acts, mem, plain, seqs, maps, cells, resL, resV, intBin, ↓reduceIte, Nat.reduceAdd, Nat.reduceSub, Nat.reduceMul, Nat.reduceLeDiff, Nat.reduceEqDiff, Int.reduceToNat, Int.reduceEq, Int.reduceLT, Int.reduceLE, Int.reduceNeg, Int.reduceAdd, Int.reduceSub, Int.reduceMul, Nat.reducePow, Int.reduceNegSucc, zs]
    refine (pick_c (p := p1 + 1 + 1) (h := (j5, blk (fl eI [-10000, 10000, 9999, -9999]) 3) :: (g ++ h)) hjg5 (rbg.sub (Sub.cons (by simp only [subs, n5]) (Sub.refl _))) hl (by omega) (by omega) fun z hz0 hz1 _ => ?_).weaken (by (repeat' first | exact Sub.refl _ | exact Sub.nil _ | assumption | refine Sub.both ?_ ?_ | refine Sub.cons_of (by simp only [subs, n5, e5, dg, hj]) ?_ | exact Sub.left _ _ | refine Sub.app (by simp only [subs, n5, e5, dg, hj]) ?_ | refine Sub.cons (by simp only [subs, n5, e5, dg, hj]) ?_))
    have hz := hz1 (by omega)
    simp only [walk, lists, acts, mem, plain, seqs, maps, cells, resL, resV, intBin, ↓reduceIte, Nat.reduceAdd, Nat.reduceSub, Nat.reduceMul, Nat.reduceLeDiff, Nat.reduceEqDiff, Int.reduceToNat, Int.reduceEq, Int.reduceLT, Int.reduceLE, Int.reduceNeg, Int.reduceAdd, Int.reduceSub, Int.reduceMul, Nat.reducePow, Int.reduceNegSucc, zs]
    have hcz := hcel_ints (M := (jr, blk (rdr bv (p1 + 1 + 1 + 1)) 88) :: (j5, blk (fl eI [-10000, 10000, 9999, -9999]) 3) :: (g ++ h)) (j := j5) (l := [-10000, 10000, 9999, -9999]) (T := 3) (k := z.toNat) (by simp only [subs, n5, ns5]) (by show z.toNat < 4; omega)
    generalize ([-10000, 10000, 9999, -9999] : List Int)[z.toNat]'(by show z.toNat < 4; omega) = a at hcz
    refine ⟨⟨by omega, by omega⟩, ?_⟩
    simp only [walk, lists, acts, mem, plain, seqs, maps, cells, resL, resV, intBin, ↓reduceIte, Nat.reduceAdd, Nat.reduceSub, Nat.reduceMul, Nat.reduceLeDiff, Nat.reduceEqDiff, Int.reduceToNat, Int.reduceEq, Int.reduceLT, Int.reduceLE, Int.reduceNeg, Int.reduceAdd, Int.reduceSub, Int.reduceMul, Nat.reducePow, Int.reduceNegSucc, hcz, zs]
    refine own_idx (j := y) (i := y.toNat) cStatement_len o (by omega) (by omega) fun b cap sp hv' hc hs hg => ?_
    subst hg
    have nb := dg
    have nb5 := n5
    simp only [subs] at nb nb5
    have f1 : ¬ b = jr := fun e => by have := dg.1; rw [e, hget_same] at this; cases this
    have f2 : ¬ b = j5 := fun e => by have := n5.2.1; rw [e, hget_same] at this; cases this
    have f3 : ¬ jr = b := fun e => f1 e.symm
    have f4 : ¬ j5 = b := fun e => f2 e.symm
    simp only [walk, lists, acts, mem, plain, seqs, maps, cells, resL, resV, intBin, ↓reduceIte, Nat.reduceAdd, Nat.reduceSub, Nat.reduceMul, Nat.reduceLeDiff, Nat.reduceEqDiff, Int.reduceToNat, Int.reduceEq, Int.reduceLT, Int.reduceLE, Int.reduceNeg, Int.reduceAdd, Int.reduceSub, Int.reduceMul, Nat.reducePow, Int.reduceNegSucc, zs, f1, f2]
    simp only [hK_map]
    refine st_own (i := y.toNat) (a' := { ds[y.toNat]'(by omega) with num := a }) (off := 2) cStatement_len (by omega) (by omega) rfl (by omega) rfl ?_
    simp only [walk, lists, acts, mem, plain, seqs, maps, cells, resL, resV, intBin, ↓reduceIte, Nat.reduceAdd, Nat.reduceSub, Nat.reduceMul, Nat.reduceLeDiff, Nat.reduceEqDiff, Int.reduceToNat, Int.reduceEq, Int.reduceLT, Int.reduceLE, Int.reduceNeg, Int.reduceAdd, Int.reduceSub, Int.reduceMul, Nat.reducePow, Int.reduceNegSucc, zs]
    have o3 := own_set (e := 52) (i := y.toNat) (a' := { ds[y.toNat]'(by omega) with num := a }) cStatement_len hv' hc hs
    exact ⟨_, by (repeat' first | exact Sub.refl _ | exact Sub.nil _ | assumption | refine Sub.both ?_ ?_ | refine Sub.cons_of (by simp only [subs, nb, nb5, f1, f2, f3, f4, e5, ns5, hj]) ?_ | exact Sub.left _ _ | refine Sub.app (by simp only [subs, nb, nb5, f1, f2, f3, f4, e5, ns5, hj]) ?_ | refine Sub.cons (by simp only [subs, nb, nb5, f1, f2, f3, f4, e5, ns5, hj]) ?_), k v _ _ (p1 + 1 + 1 + 1) o3 (by simp only [subs, nb]) (by rw [List.length_set]; omega) (by omega)⟩
  refine ite_pos (fun c3 => ?_) fun c3 => ?_
  · refine vc_loopS (g0 := g ++ ((jr, blk (rdr bv (p1 + 1)) 88) :: h)) [3] (fun n vs h' => ∃ (v' : Value) (ds' : List DStatement) (g' : H) (p' : Nat), vs = [v'] ∧ h' = g' ++ ((jr, blk (rdr bv p') 88) :: h) ∧ Dj g' ((jr, blk (rdr bv p') 88) :: h) ∧ oLs 52 cStatement 3 v' ds' g' ∧ ds'.length ≤ 8 ∧ p' + 2 * n ≤ p + 300 ∧ n = 8 - ds'.length) (8 - ds.length) rfl (by (repeat' first | exact Sub.refl _ | exact Sub.nil _ | assumption | refine Sub.both ?_ ?_ | refine Sub.cons_of (by simp only [subs, dg, hj]) ?_ | exact Sub.left _ _ | refine Sub.app (by simp only [subs, dg, hj]) ?_ | refine Sub.cons (by simp only [subs, dg, hj]) ?_))
      ⟨v, ds, g, p1 + 1, rfl, rfl, by simp only [subs, dg], o, by omega, by omega, rfl⟩ ?_
    rintro n f h' ⟨v', ds', g', p', hv, rfl, dj, o', hlen', hpp, rfl⟩
    simp only [List.map_cons, List.map_nil, List.cons.injEq, and_true] at hv
    have d1 := dj
    have d2 := dj.symm
    simp only [subs] at d1 d2
    have jg' : hget (g' ++ h) jr = none := by simp only [subs, d1, hj]
    have rg' : rIn (g' ++ h) eB 1 bv l := rb.sub (Sub.right d1.2)
    simp only [walk, lists, acts, mem, plain, seqs, maps, cells, resL, resV, intBin, ↓reduceIte, Nat.reduceAdd, Nat.reduceSub, Nat.reduceMul, Nat.reduceLeDiff, Nat.reduceEqDiff, Int.reduceToNat, Int.reduceEq, Int.reduceLT, Int.reduceLE, Int.reduceNeg, Int.reduceAdd, Int.reduceSub, Int.reduceMul, Nat.reducePow, Int.reduceNegSucc, wr, hv, zs, o'.rd.len]
    refine (pick_c (p := p') (h := g' ++ h) jg' rg' hl (by omega) (by omega) fun y hy0 hy1 _ => ?_).weaken (by (repeat' first | exact Sub.refl _ | exact Sub.nil _ | assumption | refine Sub.both ?_ ?_ | refine Sub.cons_of (by simp only [subs, d1, d2, hj]) ?_ | exact Sub.left _ _ | refine Sub.app (by simp only [subs, d1, d2, hj]) ?_ | refine Sub.cons (by simp only [subs, d1, d2, hj]) ?_))
    have hy := hy1 (by omega)
    simp (disch := omega) only [walk, lists, acts, mem, plain, seqs, maps, cells, resL, resV, intBin, ↓reduceIte, Nat.reduceAdd, Nat.reduceSub, Nat.reduceMul, Nat.reduceLeDiff, Nat.reduceEqDiff, Int.reduceToNat, Int.reduceEq, Int.reduceLT, Int.reduceLE, Int.reduceNeg, Int.reduceAdd, Int.reduceSub, Int.reduceMul, Nat.reducePow, Int.reduceNegSucc, wrapI]
    refine ite_lt (fun c => ?_) fun c => ?_
    · refine pick_c (p := p' + 1) (h := g' ++ h) jg' rg' hl (by omega) (by omega) fun z hz0 hz1 _ => ?_
      have hz := hz1 (by omega)
      simp only [← zs]
      simp only [walk, lists, acts, mem, plain, seqs, maps, cells, resL, resV, intBin, ↓reduceIte, Nat.reduceAdd, Nat.reduceSub, Nat.reduceMul, Nat.reduceLeDiff, Nat.reduceEqDiff, Int.reduceToNat, Int.reduceEq, Int.reduceLT, Int.reduceLE, Int.reduceNeg, Int.reduceAdd, Int.reduceSub, Int.reduceMul, Nat.reducePow, Int.reduceNegSucc]
      refine newB_intro (o := blk (fl cStatement [⟨1, z, 0⟩]) 52) fun j9 hj9 => ?_
      simp only [subs] at hj9
      simp only [walk, lists, acts, mem, plain, seqs, maps, cells, resL, resV, intBin, ↓reduceIte, Nat.reduceAdd, Nat.reduceSub, Nat.reduceMul, Nat.reduceLeDiff, Nat.reduceEqDiff, Int.reduceToNat, Int.reduceEq, Int.reduceLT, Int.reduceLE, Int.reduceNeg, Int.reduceAdd, Int.reduceSub, Int.reduceMul, Nat.reducePow, Int.reduceNegSucc]
      refine app_leaf (g := g') (h := (jr, blk (rdr bv (p' + 1 + 1)) 88) :: h) (M := (j9, blk (fl cStatement [⟨1, z, 0⟩]) 52) :: (jr, blk (rdr bv (p' + 1 + 1)) 88) :: (g' ++ h)) cStatement_len cStatement_one tStatements iStatement (by (repeat' first | exact Sub.refl _ | exact Sub.nil _ | assumption | refine Sub.both ?_ ?_ | refine Sub.cons_of (by simp only [subs, d1, d2, hj, hj9]) ?_ | exact Sub.left _ _ | refine Sub.app (by simp only [subs, d1, d2, hj, hj9]) ?_ | refine Sub.cons (by simp only [subs, d1, d2, hj, hj9]) ?_)) (by simp only [subs, d1]) o' (rL_lit cStatement_len [⟨1, z, 0⟩]) (by simp; omega) (by simp; omega) fun v2 g9 o9 d9 => ?_
      simp only [walk, lists, acts, mem, plain, seqs, maps, cells, resL, resV, intBin, ↓reduceIte, Nat.reduceAdd, Nat.reduceSub, Nat.reduceMul, Nat.reduceLeDiff, Nat.reduceEqDiff, Int.reduceToNat, Int.reduceEq, Int.reduceLT, Int.reduceLE, Int.reduceNeg, Int.reduceAdd, Int.reduceSub, Int.reduceMul, Nat.reducePow, Int.reduceNegSucc]
      exact ⟨8 - (ds'.length + 1), by omega, _, .refl _, v2, _, g9, (p' + 1 + 1), rfl, rfl, d9, o9, by simp; omega, by omega, by simp⟩
    · exact ⟨_, by (repeat' first | exact Sub.refl _ | exact Sub.nil _ | assumption | refine Sub.both ?_ ?_ | refine Sub.cons_of (by simp only [subs, d1, d2, hj]) ?_ | exact Sub.left _ _ | refine Sub.app (by simp only [subs, d1, d2, hj]) ?_ | refine Sub.cons (by simp only [subs, d1, d2, hj]) ?_), k v' g' ds' (p' + 1) o' (by simp only [subs, d1]) hlen' (by omega)⟩
  · refine ite_pos (fun c4 => ?_) fun c4 => ?_
    · refine newB_intro (o := blk (fl cStatement []) 52) fun j6 hj6 => ?_
      have n6 := hj6
      simp only [subs] at n6
      have on : oLs 52 cStatement 3 (.slice (some ⟨j6, 0, none⟩) 0 0) [] [(j6, blk (fl cStatement []) 52)] := oLs_new cStatement_len
      simp only [walk, lists, acts, mem, plain, seqs, maps, cells, resL, resV, intBin, ↓reduceIte, Nat.reduceAdd, Nat.reduceSub, Nat.reduceMul, Nat.reduceLeDiff, Nat.reduceEqDiff, Int.reduceToNat, Int.reduceEq, Int.reduceLT, Int.reduceLE, Int.reduceNeg, Int.reduceAdd, Int.reduceSub, Int.reduceMul, Nat.reducePow, Int.reduceNegSucc, zs]
      exact ⟨_, by (repeat' first | exact Sub.refl _ | exact Sub.nil _ | assumption | refine Sub.both ?_ ?_ | refine Sub.cons_of (by simp only [subs, n6, dg, hj]) ?_ | exact Sub.left _ _ | refine Sub.app (by simp only [subs, n6, dg, hj]) ?_ | refine Sub.cons (by simp only [subs, n6, dg, hj]) ?_), k _ _ [] (p1 + 1) on (by simp only [subs, n6]; exact ⟨fun e => n6.1 e.symm, rfl⟩) (by simp) (by omega)⟩
    · exact fin (by omega) (Sub.refl _)
end Go.Proofs.YtfkkjjballajaaaDoor
end

/- Texts that are bent; deals that are compared. -/
section
set_option linter.unusedVariables false
set_option linter.unusedSimpArgs false
set_option maxRecDepth 20000
attribute [local irreducible] Go.Tk.vc Go.Tk.vops Go.Tk.vdr Go.Tk.vop Go.Tk.vfl Go.Tk.HCalls
namespace Go.Proofs.YtfkkjjballajaaaDoor
open Go Go.Tk

def bStatement (a b : DStatement) (o : Nat) : Bool := match o with
  | 0 => a.do_ == b.do_
  | 1 => a.key == b.key
  | _ => a.num == b.num
theorem fStatement : (Tryd.prog.fieldsOf 52).toList.map (fun f => (f.type, f.offset, f.name == "_")) = [(3, 0, false), (3, 1, false), (3, 2, false)] := by kernel_rfl
theorem all_off {fs : List Field} {l : List (TypeId × Nat × Bool)} (h : fs.map (fun f => (f.type, f.offset, f.name == "_")) = l) (b : Nat → Bool) : fs.all (fun f => b f.offset) = l.all (fun p => b p.2.1) := by
  rw [← h, List.all_map]; rfl
theorem statement_eqs {d : Nat} {a b : DStatement} {Q : Bool → H → Prop} {E : Value → H → Prop} {h : H} : SH Tryd.prog (Op.equalIn (d + 2) 52 (.agg (cStatement a).toArray) (.agg (cStatement b).toArray)) Q E h = Q (decide (a = b)) h := by
  have hd : Tryd.prog.underlying 3 = some (.int .i64) := Tryd.underlying3
  rw [SH_struct (fs := Tryd.prog.fieldsOf 52) (by kernel_rfl) (by kernel_rfl), SH_eqFieldsB (fun f => bStatement a b f.offset) fun f hf => ?_]
  · rw [all_off fStatement]
    have : ([(3, 0, false), (3, 1, false), (3, 2, false)].all fun p => bStatement a b p.2.1) = decide (a = b) := by
      simp only [List.all_cons, List.all_nil, bStatement, Bool.and_true]
      rw [Bool.eq_iff_iff]
      obtain ⟨a1, a2, a3⟩ := a
      obtain ⟨b1, b2, b3⟩ := b
      simp only [Bool.and_eq_true, beq_iff_eq, decide_eq_true_eq, DStatement.mk.injEq]
    rw [this]
  · have hm : (f.type, f.offset, f.name == "_") ∈ [(3, 0, false), (3, 1, false), (3, 2, false)] := fStatement ▸ List.mem_map.2 ⟨f, hf, rfl⟩
    simp only [List.mem_cons, List.not_mem_nil, or_false, Prod.mk.injEq] at hm
    have hn : f.name ≠ "_" := by
      rcases hm with ⟨-, -, e⟩ | ⟨-, -, e⟩ | ⟨-, -, e⟩ <;> exact beq_eq_false_iff_ne.1 e
    refine ⟨hn, ?_⟩
    rcases hm with ⟨e1, e2, -⟩ | ⟨e1, e2, -⟩ | ⟨e1, e2, -⟩ <;> rw [e1, e2]
    · exact ⟨.int .i64 a.do_, .int .i64 b.do_, fun Q h => SH_part hd rfl rfl, fun Q h => SH_part hd rfl rfl, fun Q h => SH_eqIB hd⟩
    · exact ⟨.int .i64 a.key, .int .i64 b.key, fun Q h => SH_part hd rfl rfl, fun Q h => SH_part hd rfl rfl, fun Q h => SH_eqIB hd⟩
    · exact ⟨.int .i64 a.num, .int .i64 b.num, fun Q h => SH_part hd rfl rfl, fun Q h => SH_part hd rfl rfl, fun Q h => SH_eqIB hd⟩
theorem statement_eq {op : BinOp} {x y : Operand} {a b : DStatement} {Q : Value → H → Prop} {E : Value → H → Prop} {h : H} (ho : op = .eql ∨ op = .neq) (k : Q (.bool (if op = .eql then decide (a = b) else !decide (a = b))) h) :
    SH Tryd.prog (do eqGuard op 52 x y (.agg (cStatement a).toArray) (.agg (cStatement b).toArray); binOp op 52 (.agg (cStatement a).toArray) (.agg (cStatement b).toArray)) Q E h :=
  SH_eqs ho (by kernel_rfl) (fun Q' => statement_eqs (d := 9998)) k

theorem loDeal_c {h : H} {a b : Value} {la lb : List DStatement} (ra : rLs h cStatement 3 a la) (rb : rLs h cStatement 3 b lb) (ha : la.length ≤ 1099511627776) {R : Ending → H → Prop} (k : R (.returned (.bool (decide (la = lb)))) h) :
    HCalls Tryd.prog 14 #[a, b] h R := by
  refine HCalls_ir (args := [a, b]) Tryd.func14 ir14 ?_
  simp only [walk, lists, acts, mem, plain, seqs, maps, cells, resL, resV, intBin, ↓reduceIte, Nat.reduceAdd, Nat.reduceSub, Nat.reduceMul, Nat.reduceLeDiff, Nat.reduceEqDiff, Int.reduceToNat, Int.reduceEq, Int.reduceLT, Int.reduceLE, Int.reduceNeg, Int.reduceAdd, Int.reduceSub, Int.reduceMul, Nat.reducePow, Int.reduceNegSucc, ra.len, rb.len]
  split
  · rename_i c
    exact .of (kF k fun e => c (by rw [e]))
  · rename_i c
    have hl : la.length = lb.length := by omega
    refine vc_loop [5] (fun n vs h' => ∃ i : Nat, vs = [.int .i64 i] ∧ h' = h ∧ i ≤ la.length ∧ n = la.length - i ∧ la.take i = lb.take i) la.length rfl ⟨0, rfl, rfl, by omega, by omega, by simp⟩ ?_
    rintro n f h' ⟨i, hv, rfl, hi, rfl, ht⟩
    simp only [List.map_cons, List.map_nil, List.cons.injEq, and_true] at hv
    simp only [walk, lists, acts, mem, plain, seqs, maps, cells, resL, resV, intBin, ↓reduceIte, Nat.reduceAdd, Nat.reduceSub, Nat.reduceMul, Nat.reduceLeDiff, Nat.reduceEqDiff, Int.reduceToNat, Int.reduceEq, Int.reduceLT, Int.reduceLE, Int.reduceNeg, Int.reduceAdd, Int.reduceSub, Int.reduceMul, Nat.reducePow, Int.reduceNegSucc, wr, hv, ra.len, rb.len]
    split
    · rename_i c1
      refine vc_draw h' (Sub.refl _) ?_
      simp only [walk, lists, acts, mem, plain, seqs, maps, cells, resL, resV, intBin, ↓reduceIte, Nat.reduceAdd, Nat.reduceSub, Nat.reduceMul, Nat.reduceLeDiff, Nat.reduceEqDiff, Int.reduceToNat, Int.reduceEq, Int.reduceLT, Int.reduceLE, Int.reduceNeg, Int.reduceAdd, Int.reduceSub, Int.reduceMul, Nat.reducePow, Int.reduceNegSucc]
      refine idx_leaf (i := i) cStatement_len ra rfl (by omega) fun b1 o1 e1 => ?_
      simp only [walk, lists, acts, mem, plain, seqs, maps, cells, resL, resV, intBin, ↓reduceIte, Nat.reduceAdd, Nat.reduceSub, Nat.reduceMul, Nat.reduceLeDiff, Nat.reduceEqDiff, Int.reduceToNat, Int.reduceEq, Int.reduceLT, Int.reduceLE, Int.reduceNeg, Int.reduceAdd, Int.reduceSub, Int.reduceMul, Nat.reducePow, Int.reduceNegSucc, e1]
      refine idx_leaf (i := i) cStatement_len rb rfl (by omega) fun b2 o2 e2 => ?_
      simp only [walk, lists, acts, mem, plain, seqs, maps, cells, resL, resV, intBin, ↓reduceIte, Nat.reduceAdd, Nat.reduceSub, Nat.reduceMul, Nat.reduceLeDiff, Nat.reduceEqDiff, Int.reduceToNat, Int.reduceEq, Int.reduceLT, Int.reduceLE, Int.reduceNeg, Int.reduceAdd, Int.reduceSub, Int.reduceMul, Nat.reducePow, Int.reduceNegSucc, e2]
      refine statement_eq (.inr rfl) ?_
      simp only [walk, lists, acts, mem, plain, seqs, maps, cells, resL, resV, intBin, ↓reduceIte, Nat.reduceAdd, Nat.reduceSub, Nat.reduceMul, Nat.reduceLeDiff, Nat.reduceEqDiff, Int.reduceToNat, Int.reduceEq, Int.reduceLT, Int.reduceLE, Int.reduceNeg, Int.reduceAdd, Int.reduceSub, Int.reduceMul, Nat.reducePow, Int.reduceNegSucc, reduceCtorEq]
      by_cases d : la[i] = lb[i]
      · simp (disch := omega) only [walk, lists, acts, mem, plain, seqs, maps, cells, resL, resV, intBin, ↓reduceIte, Nat.reduceAdd, Nat.reduceSub, Nat.reduceMul, Nat.reduceLeDiff, Nat.reduceEqDiff, Int.reduceToNat, Int.reduceEq, Int.reduceLT, Int.reduceLE, Int.reduceNeg, Int.reduceAdd, Int.reduceSub, Int.reduceMul, Nat.reducePow, Int.reduceNegSucc, d, decide_true, Bool.not_true, Bool.false_eq_true, if_false, wrapI]
        exact ⟨la.length - (i + 1), by omega, h', .refl _, i + 1, by simp, rfl, by omega, rfl, take_more _ _ ht d⟩
      · simp only [walk, lists, acts, mem, plain, seqs, maps, cells, resL, resV, intBin, ↓reduceIte, Nat.reduceAdd, Nat.reduceSub, Nat.reduceMul, Nat.reduceLeDiff, Nat.reduceEqDiff, Int.reduceToNat, Int.reduceEq, Int.reduceLT, Int.reduceLE, Int.reduceNeg, Int.reduceAdd, Int.reduceSub, Int.reduceMul, Nat.reducePow, Int.reduceNegSucc, d, decide_false, Bool.not_false, if_true]
        exact .of (kF k (ne_at _ _ d))
    · rename_i c1
      have hil : i = la.length := by omega
      subst hil
      exact .of (kT k (by rw [List.take_length] at ht; rw [ht, hl, List.take_length]))

theorem bend_c {h : H} {jr p : Nat} {bv : Value} {l s : List UInt8} (hj : hget h jr = none) (rb : rIn h eB 1 bv l) (hl : l.length ≤ 1048576) (hp : p ≤ 1000000) (hs : s.length ≤ 1000000) {R : Ending → H → Prop}
    (k : ∀ (t : List UInt8) (p' : Nat), t.length ≤ 2 * s.length + 10 → R (.returned (.string ⟨t.toArray⟩)) ((jr, blk (rdr bv p') 88) :: h)) :
    HCalls Tryd.prog 50 #[.pointer (some ⟨jr, 0, none⟩), .string ⟨s.toArray⟩] ((jr, blk (rdr bv p) 88) :: h) R := by
  refine HCalls_ir (args := [.pointer (some ⟨jr, 0, none⟩), .string ⟨s.toArray⟩]) Tryd.func50 ir50 ?_
  simp only [walk, lists, acts, mem, plain, seqs, maps, cells, resL, resV, intBin, ↓reduceIte, Nat.reduceAdd, Nat.reduceSub, Nat.reduceMul, Nat.reduceLeDiff, Nat.reduceEqDiff, Int.reduceToNat, Int.reduceEq, Int.reduceLT, Int.reduceLE, Int.reduceNeg, Int.reduceAdd, Int.reduceSub, Int.reduceMul, Nat.reducePow, Int.reduceNegSucc, str]
  refine ite_pos (fun c => .of (k s p (by omega))) fun c0 => ?_
  refine pick_c (p := p) hj rb hl (by omega) (by omega) fun x hx0 hx1 _ => ?_
  simp only [walk, lists, acts, mem, plain, seqs, maps, cells, resL, resV, intBin, ↓reduceIte, Nat.reduceAdd, Nat.reduceSub, Nat.reduceMul, Nat.reduceLeDiff, Nat.reduceEqDiff, Int.reduceToNat, Int.reduceEq, Int.reduceLT, Int.reduceLE, Int.reduceNeg, Int.reduceAdd, Int.reduceSub, Int.reduceMul, Nat.reducePow, Int.reduceNegSucc]
  refine ite_pos (fun c => .of (k s _ (by omega))) fun c1 => ?_
  refine pick_c (p := p + 1) hj rb hl (by omega) (by omega) fun i hi0 hi1 _ => ?_
  have hi := hi1 (by omega)
  simp only [walk, lists, acts, mem, plain, seqs, maps, cells, resL, resV, intBin, ↓reduceIte, Nat.reduceAdd, Nat.reduceSub, Nat.reduceMul, Nat.reduceLeDiff, Nat.reduceEqDiff, Int.reduceToNat, Int.reduceEq, Int.reduceLT, Int.reduceLE, Int.reduceNeg, Int.reduceAdd, Int.reduceSub, Int.reduceMul, Nat.reducePow, Int.reduceNegSucc]
  refine pick_c (p := p + 1 + 1) hj rb hl (by omega) (by omega) fun y hy0 hy1 _ => ?_
  have hy := hy1 (by omega)
  simp only [walk, lists, acts, mem, plain, seqs, maps, cells, resL, resV, intBin, ↓reduceIte, Nat.reduceAdd, Nat.reduceSub, Nat.reduceMul, Nat.reduceLeDiff, Nat.reduceEqDiff, Int.reduceToNat, Int.reduceEq, Int.reduceLT, Int.reduceLE, Int.reduceNeg, Int.reduceAdd, Int.reduceSub, Int.reduceMul, Nat.reducePow, Int.reduceNegSucc]
  have lt : (s.take i.toNat).length ≤ s.length := by rw [List.length_take]; omega
  have ld : ∀ m, (s.drop m).length ≤ s.length := fun m => by rw [List.length_drop]; omega
  refine ite_pos (fun c2 => ?_) fun c2 => ?_
  · refine vc_draw _ (Sub.refl _) ?_
    simp (disch := omega) only [walk, lists, acts, mem, plain, seqs, maps, cells, resL, resV, intBin, ↓reduceIte, Nat.reduceAdd, Nat.reduceSub, Nat.reduceMul, Nat.reduceLeDiff, Nat.reduceEqDiff, Int.reduceToNat, Int.reduceEq, Int.reduceLT, Int.reduceLE, Int.reduceNeg, Int.reduceAdd, Int.reduceSub, Int.reduceMul, Nat.reducePow, Int.reduceNegSucc, wrapI]
    refine ⟨⟨by omega, by omega⟩, ⟨by omega, by omega⟩, ?_⟩
    have z1 : (s.take i.toNat).length + (s.drop (i + 1).toNat).length ≤ 9223372036854775807 := by have := ld (i + 1).toNat; omega
    simp only [walk, lists, acts, mem, plain, seqs, maps, cells, resL, resV, intBin, ↓reduceIte, Nat.reduceAdd, Nat.reduceSub, Nat.reduceMul, Nat.reduceLeDiff, Nat.reduceEqDiff, Int.reduceToNat, Int.reduceEq, Int.reduceLT, Int.reduceLE, Int.reduceNeg, Int.reduceAdd, Int.reduceSub, Int.reduceMul, Nat.reducePow, Int.reduceNegSucc, str_add _ _ z1]
    exact .of (k _ _ (by rw [List.length_append]; have := ld (i + 1).toNat; omega))
  refine ite_pos (fun c3 => ?_) fun c3 => ?_
  · refine vc_draw h (Sub.cons hj (Sub.refl _)) ?_
    have sr : ∀ q, Tk.Sub h ((jr, blk (rdr bv q) 88) :: h) := fun q => Sub.cons hj (Sub.refl _)
    simp only [walk, lists, acts, mem, plain, seqs, maps, cells, resL, resV, intBin, ↓reduceIte, Nat.reduceAdd, Nat.reduceSub, Nat.reduceMul, Nat.reduceLeDiff, Nat.reduceEqDiff, Int.reduceToNat, Int.reduceEq, Int.reduceLT, Int.reduceLE, Int.reduceNeg, Int.reduceAdd, Int.reduceSub, Int.reduceMul, Nat.reducePow, Int.reduceNegSucc]
    refine ⟨⟨by omega, by omega⟩, ⟨by omega, by omega⟩, ?_⟩
    refine newB_intro (o := blk (fl eT [[32], [59], [48], [45], [49], [103]]) 9) fun j6 hj6 => ?_
    have n6 := hj6
    simp only [subs] at n6
    have n6' : jr ≠ j6 := Ne.symm n6.1
    have sr6 := eq_true (Sub.cons (o := blk (fl eT [[32], [59], [48], [45], [49], [103]]) 9) hj6 (sr (p + 1 + 1 + 1)))
    simp only [walk, lists, acts, mem, plain, seqs, maps, cells, resL, resV, intBin, ↓reduceIte, Nat.reduceAdd, Nat.reduceSub, Nat.reduceMul, Nat.reduceLeDiff, Nat.reduceEqDiff, Int.reduceToNat, Int.reduceEq, Int.reduceLT, Int.reduceLE, Int.reduceNeg, Int.reduceAdd, Int.reduceSub, Int.reduceMul, Nat.reducePow, Int.reduceNegSucc, sr6]
    refine (of_c (p := p + 1 + 1 + 1) (h := (j6, blk (fl eT [[32], [59], [48], [45], [49], [103]]) 9) :: h) (by simp only [subs, hj, n6']) (rb.sub (by (repeat' first | exact Sub.refl _ | exact Sub.nil _ | assumption | refine Sub.both ?_ ?_ | refine Sub.cons_of (by simp only [subs, hj, n6, n6']) ?_ | exact Sub.left _ _ | refine Sub.app (by simp only [subs, hj, n6, n6']) ?_ | refine Sub.cons (by simp only [subs, hj, n6, n6']) ?_))) hl (by omega) (rL_lit eT_len [[32], [59], [48], [45], [49], [103]]) (by decide) (by decide) fun t ht => ?_).weaken (by (repeat' first | exact Sub.refl _ | exact Sub.nil _ | assumption | refine Sub.both ?_ ?_ | refine Sub.cons_of (by simp only [subs, hj, n6, n6']) ?_ | exact Sub.left _ _ | refine Sub.app (by simp only [subs, hj, n6, n6']) ?_ | refine Sub.cons (by simp only [subs, hj, n6, n6']) ?_))
    have htl : t.length ≤ 1 := by
      simp only [List.mem_cons, List.not_mem_nil, or_false] at ht
      rcases ht with rfl | rfl | rfl | rfl | rfl | rfl <;> decide
    have sr8 := eq_true (show Tk.Sub h ((jr, blk (rdr bv (p + 1 + 1 + 1 + 1)) 88) :: (j6, blk (fl eT [[32], [59], [48], [45], [49], [103]]) 9) :: h) by (repeat' first | exact Sub.refl _ | exact Sub.nil _ | assumption | refine Sub.both ?_ ?_ | refine Sub.cons_of (by simp only [subs, hj, n6, n6']) ?_ | exact Sub.left _ _ | refine Sub.app (by simp only [subs, hj, n6, n6']) ?_ | refine Sub.cons (by simp only [subs, hj, n6, n6']) ?_))
    have z1 : (s.take i.toNat).length + t.length ≤ 9223372036854775807 := by omega
    have l1 : (s.take i.toNat ++ t).length ≤ s.length + 1 := by rw [List.length_append]; omega
    have z2 : (s.take i.toNat ++ t).length + (s.drop i.toNat).length ≤ 9223372036854775807 := by have := ld (i.toNat); omega
    simp only [walk, lists, acts, mem, plain, seqs, maps, cells, resL, resV, intBin, ↓reduceIte, Nat.reduceAdd, Nat.reduceSub, Nat.reduceMul, Nat.reduceLeDiff, Nat.reduceEqDiff, Int.reduceToNat, Int.reduceEq, Int.reduceLT, Int.reduceLE, Int.reduceNeg, Int.reduceAdd, Int.reduceSub, Int.reduceMul, Nat.reducePow, Int.reduceNegSucc, sr8, str_add _ _ z1, str_add _ _ z2]
    exact ⟨(jr, blk (rdr bv (p + 1 + 1 + 1 + 1)) 88) :: h, by (repeat' first | exact Sub.refl _ | exact Sub.nil _ | assumption | refine Sub.both ?_ ?_ | refine Sub.cons_of (by simp only [subs, hj, n6, n6']) ?_ | exact Sub.left _ _ | refine Sub.app (by simp only [subs, hj, n6, n6']) ?_ | refine Sub.cons (by simp only [subs, hj, n6, n6']) ?_), k (s.take i.toNat ++ t ++ s.drop i.toNat) _ (by rw [List.length_append]; have := ld (i.toNat); omega)⟩
  refine ite_pos (fun c4 => ?_) fun c4 => ?_
  · refine vc_draw h (Sub.cons hj (Sub.refl _)) ?_
    have sr : ∀ q, Tk.Sub h ((jr, blk (rdr bv q) 88) :: h) := fun q => Sub.cons hj (Sub.refl _)
    simp (disch := omega) only [walk, lists, acts, mem, plain, seqs, maps, cells, resL, resV, intBin, ↓reduceIte, Nat.reduceAdd, Nat.reduceSub, Nat.reduceMul, Nat.reduceLeDiff, Nat.reduceEqDiff, Int.reduceToNat, Int.reduceEq, Int.reduceLT, Int.reduceLE, Int.reduceNeg, Int.reduceAdd, Int.reduceSub, Int.reduceMul, Nat.reducePow, Int.reduceNegSucc, wrapI]
    refine ⟨⟨by omega, by omega⟩, ⟨by omega, by omega⟩, ?_⟩
    refine newB_intro (o := blk (fl eT [[57], [45], [59], [32]]) 9) fun j6 hj6 => ?_
    have n6 := hj6
    simp only [subs] at n6
    have n6' : jr ≠ j6 := Ne.symm n6.1
    have sr6 := eq_true (Sub.cons (o := blk (fl eT [[57], [45], [59], [32]]) 9) hj6 (sr (p + 1 + 1 + 1)))
    simp only [walk, lists, acts, mem, plain, seqs, maps, cells, resL, resV, intBin, ↓reduceIte, Nat.reduceAdd, Nat.reduceSub, Nat.reduceMul, Nat.reduceLeDiff, Nat.reduceEqDiff, Int.reduceToNat, Int.reduceEq, Int.reduceLT, Int.reduceLE, Int.reduceNeg, Int.reduceAdd, Int.reduceSub, Int.reduceMul, Nat.reducePow, Int.reduceNegSucc, sr6]
    refine (of_c (p := p + 1 + 1 + 1) (h := (j6, blk (fl eT [[57], [45], [59], [32]]) 9) :: h) (by simp only [subs, hj, n6']) (rb.sub (by (repeat' first | exact Sub.refl _ | exact Sub.nil _ | assumption | refine Sub.both ?_ ?_ | refine Sub.cons_of (by simp only [subs, hj, n6, n6']) ?_ | exact Sub.left _ _ | refine Sub.app (by simp only [subs, hj, n6, n6']) ?_ | refine Sub.cons (by simp only [subs, hj, n6, n6']) ?_))) hl (by omega) (rL_lit eT_len [[57], [45], [59], [32]]) (by decide) (by decide) fun t ht => ?_).weaken (by (repeat' first | exact Sub.refl _ | exact Sub.nil _ | assumption | refine Sub.both ?_ ?_ | refine Sub.cons_of (by simp only [subs, hj, n6, n6']) ?_ | exact Sub.left _ _ | refine Sub.app (by simp only [subs, hj, n6, n6']) ?_ | refine Sub.cons (by simp only [subs, hj, n6, n6']) ?_))
    have htl : t.length ≤ 1 := by
      simp only [List.mem_cons, List.not_mem_nil, or_false] at ht
      rcases ht with rfl | rfl | rfl | rfl <;> decide
    have sr8 := eq_true (show Tk.Sub h ((jr, blk (rdr bv (p + 1 + 1 + 1 + 1)) 88) :: (j6, blk (fl eT [[57], [45], [59], [32]]) 9) :: h) by (repeat' first | exact Sub.refl _ | exact Sub.nil _ | assumption | refine Sub.both ?_ ?_ | refine Sub.cons_of (by simp only [subs, hj, n6, n6']) ?_ | exact Sub.left _ _ | refine Sub.app (by simp only [subs, hj, n6, n6']) ?_ | refine Sub.cons (by simp only [subs, hj, n6, n6']) ?_))
    have z1 : (s.take i.toNat).length + t.length ≤ 9223372036854775807 := by omega
    have l1 : (s.take i.toNat ++ t).length ≤ s.length + 1 := by rw [List.length_append]; omega
    have z2 : (s.take i.toNat ++ t).length + (s.drop (i + 1).toNat).length ≤ 9223372036854775807 := by have := ld ((i + 1).toNat); omega
    simp only [walk, lists, acts, mem, plain, seqs, maps, cells, resL, resV, intBin, ↓reduceIte, Nat.reduceAdd, Nat.reduceSub, Nat.reduceMul, Nat.reduceLeDiff, Nat.reduceEqDiff, Int.reduceToNat, Int.reduceEq, Int.reduceLT, Int.reduceLE, Int.reduceNeg, Int.reduceAdd, Int.reduceSub, Int.reduceMul, Nat.reducePow, Int.reduceNegSucc, sr8, str_add _ _ z1, str_add _ _ z2]
    exact ⟨(jr, blk (rdr bv (p + 1 + 1 + 1 + 1)) 88) :: h, by (repeat' first | exact Sub.refl _ | exact Sub.nil _ | assumption | refine Sub.both ?_ ?_ | refine Sub.cons_of (by simp only [subs, hj, n6, n6']) ?_ | exact Sub.left _ _ | refine Sub.app (by simp only [subs, hj, n6, n6']) ?_ | refine Sub.cons (by simp only [subs, hj, n6, n6']) ?_), k (s.take i.toNat ++ t ++ s.drop (i + 1).toNat) _ (by rw [List.length_append]; have := ld ((i + 1).toNat); omega)⟩
  refine ite_pos (fun c5 => ?_) fun c5 => ?_
  · simp only [walk, lists, acts, mem, plain, seqs, maps, cells, resL, resV, intBin, ↓reduceIte, Nat.reduceAdd, Nat.reduceSub, Nat.reduceMul, Nat.reduceLeDiff, Nat.reduceEqDiff, Int.reduceToNat, Int.reduceEq, Int.reduceLT, Int.reduceLE, Int.reduceNeg, Int.reduceAdd, Int.reduceSub, Int.reduceMul, Nat.reducePow, Int.reduceNegSucc, str_add s s (by omega)]
    exact .of (k _ _ (by rw [List.length_append]; omega))
  · exact ⟨⟨by omega, by omega⟩, .of (k _ _ (by omega))⟩
end Go.Proofs.YtfkkjjballajaaaDoor
end

/- What is drawn for the laws of deals, whole. -/
section
set_option linter.unusedVariables false
set_option linter.unusedSimpArgs false
set_option maxRecDepth 20000
attribute [local irreducible] Go.Tk.vc Go.Tk.vops Go.Tk.vdr Go.Tk.vop Go.Tk.vfl Go.Tk.HCalls
namespace Go.Proofs.YtfkkjjballajaaaDoor
open Go Go.Tk

theorem drawDealWrite_c {h : H} {b : Value} {l : List UInt8} (r : rIn h eB 1 b l) (hl : l.length ≤ 1048576) {R : Ending → H → Prop}
    (k : ∀ v g ds, oLs 52 cStatement 3 v ds g → Dj g h → ds.length ≤ 8 → R (.returned v) (g ++ h)) : HCalls Tryd.prog 8 #[b] h R := by
  refine HCalls_ir (args := [b]) Tryd.func8 ir8 ?_
  simp only [walk, lists, acts, mem, plain, seqs, maps, cells, resL, resV, intBin, ↓reduceIte, Nat.reduceAdd, Nat.reduceSub, Nat.reduceMul, Nat.reduceLeDiff, Nat.reduceEqDiff, Int.reduceToNat, Int.reduceEq, Int.reduceLT, Int.reduceLE, Int.reduceNeg, Int.reduceAdd, Int.reduceSub, Int.reduceMul, Nat.reducePow, Int.reduceNegSucc]
  refine open_c r hl fun j bv m hj rm hm => ?_
  simp only [walk, lists, acts, mem, plain, seqs, maps, cells, resL, resV, intBin, ↓reduceIte, Nat.reduceAdd, Nat.reduceSub, Nat.reduceMul, Nat.reduceLeDiff, Nat.reduceEqDiff, Int.reduceToNat, Int.reduceEq, Int.reduceLT, Int.reduceLE, Int.reduceNeg, Int.reduceAdd, Int.reduceSub, Int.reduceMul, Nat.reducePow, Int.reduceNegSucc]
  refine l72Deal_c hj rm hm (by omega) fun v g ds p' o d hlen _ => ?_
  have dg := d
  simp only [subs] at dg
  simp only [walk, lists, acts, mem, plain, seqs, maps, cells, resL, resV, intBin, ↓reduceIte, Nat.reduceAdd, Nat.reduceSub, Nat.reduceMul, Nat.reduceLeDiff, Nat.reduceEqDiff, Int.reduceToNat, Int.reduceEq, Int.reduceLT, Int.reduceLE, Int.reduceNeg, Int.reduceAdd, Int.reduceSub, Int.reduceMul, Nat.reducePow, Int.reduceNegSucc]
  exact ⟨g ++ h, by (repeat' first | exact Sub.refl _ | exact Sub.nil _ | assumption | refine Sub.both ?_ ?_ | refine Sub.cons_of (by simp only [subs, dg, hj]) ?_ | exact Sub.left _ _ | refine Sub.app (by simp only [subs, dg, hj]) ?_ | refine Sub.cons (by simp only [subs, dg, hj]) ?_), k v g ds o dg.2 hlen⟩

def tsR : List (List UInt8) := [[103, 101, 116, 32, 49, 59], [103, 101, 116, 32, 48, 49, 59], [103, 101, 116, 32, 49], [112, 117, 116, 32, 49, 32, 45, 48, 59], [112, 117, 116, 32, 49, 32, 45, 49, 59], [97, 100, 100, 32, 49, 59], [110, 101, 101, 100, 32, 49, 32, 50, 32, 51, 59], [103, 101, 116, 32, 51, 50, 59], [112, 117, 116, 32, 51, 49, 32, 57, 57, 57, 57, 59], [112, 117, 116, 32, 49, 32, 49, 48, 48, 48, 48, 59], [103, 101, 116, 32, 49, 59, 59], [59], [], [119, 104, 97, 116, 32, 49, 59]]
theorem tsR_len : ∀ t ∈ tsR, t.length ≤ 20 := by decide

theorem drawDealRead_c {h : H} {b : Value} {l : List UInt8} (r : rIn h eB 1 b l) (hl : l.length ≤ 1048576) {R : Ending → H → Prop}
    (k : ∀ t : List UInt8, t.length ≤ 4000 → R (.returned (.string ⟨t.toArray⟩)) h) : HCalls Tryd.prog 23 #[b] h R := by
  refine HCalls_ir (args := [b]) Tryd.func23 ir23 ?_
  simp only [walk, lists, acts, mem, plain, seqs, maps, cells, resL, resV, intBin, ↓reduceIte, Nat.reduceAdd, Nat.reduceSub, Nat.reduceMul, Nat.reduceLeDiff, Nat.reduceEqDiff, Int.reduceToNat, Int.reduceEq, Int.reduceLT, Int.reduceLE, Int.reduceNeg, Int.reduceAdd, Int.reduceSub, Int.reduceMul, Nat.reducePow, Int.reduceNegSucc, str]
  refine open_c r hl fun j bv m hj rm hm => ?_
  simp only [walk, lists, acts, mem, plain, seqs, maps, cells, resL, resV, intBin, ↓reduceIte, Nat.reduceAdd, Nat.reduceSub, Nat.reduceMul, Nat.reduceLeDiff, Nat.reduceEqDiff, Int.reduceToNat, Int.reduceEq, Int.reduceLT, Int.reduceLE, Int.reduceNeg, Int.reduceAdd, Int.reduceSub, Int.reduceMul, Nat.reducePow, Int.reduceNegSucc]
  refine pick_c (p := 0) hj rm hm (by omega) (by omega) fun x hx0 hx1 _ => ?_
  simp only [walk, lists, acts, mem, plain, seqs, maps, cells, resL, resV, intBin, ↓reduceIte, Nat.reduceAdd, Nat.reduceSub, Nat.reduceMul, Nat.reduceLeDiff, Nat.reduceEqDiff, Int.reduceToNat, Int.reduceEq, Int.reduceLT, Int.reduceLE, Int.reduceNeg, Int.reduceAdd, Int.reduceSub, Int.reduceMul, Nat.reducePow, Int.reduceNegSucc, str]
  refine ite_pos (fun c => ?_) fun c => ?_
  · refine newB_intro (o := blk (fl eT tsR) 9) fun j6 hj6 => ?_
    have n6 := hj6
    simp only [subs] at n6
    have n6' : j ≠ j6 := Ne.symm n6.1
    simp only [walk, lists, acts, mem, plain, seqs, maps, cells, resL, resV, intBin, ↓reduceIte, Nat.reduceAdd, Nat.reduceSub, Nat.reduceMul, Nat.reduceLeDiff, Nat.reduceEqDiff, Int.reduceToNat, Int.reduceEq, Int.reduceLT, Int.reduceLE, Int.reduceNeg, Int.reduceAdd, Int.reduceSub, Int.reduceMul, Nat.reducePow, Int.reduceNegSucc]
    refine (of_c (p := 0 + 1) (h := (j6, blk (fl eT tsR) 9) :: h) (by simp only [subs, hj, n6']) (rm.sub (by (repeat' first | exact Sub.refl _ | exact Sub.nil _ | assumption | refine Sub.both ?_ ?_ | refine Sub.cons_of (by simp only [subs, hj, n6, n6']) ?_ | exact Sub.left _ _ | refine Sub.app (by simp only [subs, hj, n6, n6']) ?_ | refine Sub.cons (by simp only [subs, hj, n6, n6']) ?_))) hm (by omega) (rL_lit eT_len tsR) (by decide) (by decide) fun t ht => ?_).weaken (by (repeat' first | exact Sub.refl _ | exact Sub.nil _ | assumption | refine Sub.both ?_ ?_ | refine Sub.cons_of (by simp only [subs, hj, n6, n6']) ?_ | exact Sub.left _ _ | refine Sub.app (by simp only [subs, hj, n6, n6']) ?_ | refine Sub.cons (by simp only [subs, hj, n6, n6']) ?_))
    have htl := tsR_len t ht
    simp only [walk, lists, acts, mem, plain, seqs, maps, cells, resL, resV, intBin, ↓reduceIte, Nat.reduceAdd, Nat.reduceSub, Nat.reduceMul, Nat.reduceLeDiff, Nat.reduceEqDiff, Int.reduceToNat, Int.reduceEq, Int.reduceLT, Int.reduceLE, Int.reduceNeg, Int.reduceAdd, Int.reduceSub, Int.reduceMul, Nat.reducePow, Int.reduceNegSucc]
    exact ⟨h, by (repeat' first | exact Sub.refl _ | exact Sub.nil _ | assumption | refine Sub.both ?_ ?_ | refine Sub.cons_of (by simp only [subs, hj, n6, n6']) ?_ | exact Sub.left _ _ | refine Sub.app (by simp only [subs, hj, n6, n6']) ?_ | refine Sub.cons (by simp only [subs, hj, n6, n6']) ?_), k t (by omega)⟩
  · refine l72Deal_c hj rm hm (by omega) fun v g ds p' o d hlen hp' => ?_
    have dg := d
    simp only [subs] at dg
    simp only [walk, lists, acts, mem, plain, seqs, maps, cells, resL, resV, intBin, ↓reduceIte, Nat.reduceAdd, Nat.reduceSub, Nat.reduceMul, Nat.reduceLeDiff, Nat.reduceEqDiff, Int.reduceToNat, Int.reduceEq, Int.reduceLT, Int.reduceLE, Int.reduceNeg, Int.reduceAdd, Int.reduceSub, Int.reduceMul, Nat.reducePow, Int.reduceNegSucc]
    have rg : rIn (g ++ h) eB 1 bv m := rm.sub (Sub.right dg.2)
    refine dealWrite_c (o.rd.sub (Sub.left _ _)) (by omega) fun t ht => ?_
    have htl := dealT_len ht
    simp only [walk, lists, acts, mem, plain, seqs, maps, cells, resL, resV, intBin, ↓reduceIte, Nat.reduceAdd, Nat.reduceSub, Nat.reduceMul, Nat.reduceLeDiff, Nat.reduceEqDiff, Int.reduceToNat, Int.reduceEq, Int.reduceLT, Int.reduceLE, Int.reduceNeg, Int.reduceAdd, Int.reduceSub, Int.reduceMul, Nat.reducePow, Int.reduceNegSucc]
    refine (bend_c (p := p') (h := g ++ h) (by simp only [subs, dg, hj]) rg hm (by omega) (by omega) fun t2 q h2 => ?_).weaken (by (repeat' first | exact Sub.refl _ | exact Sub.nil _ | assumption | refine Sub.both ?_ ?_ | refine Sub.cons_of (by simp only [subs, dg, hj]) ?_ | exact Sub.left _ _ | refine Sub.app (by simp only [subs, dg, hj]) ?_ | refine Sub.cons (by simp only [subs, dg, hj]) ?_))
    simp only [walk, lists, acts, mem, plain, seqs, maps, cells, resL, resV, intBin, ↓reduceIte, Nat.reduceAdd, Nat.reduceSub, Nat.reduceMul, Nat.reduceLeDiff, Nat.reduceEqDiff, Int.reduceToNat, Int.reduceEq, Int.reduceLT, Int.reduceLE, Int.reduceNeg, Int.reduceAdd, Int.reduceSub, Int.reduceMul, Nat.reducePow, Int.reduceNegSucc]
    exact ⟨h, by (repeat' first | exact Sub.refl _ | exact Sub.nil _ | assumption | refine Sub.both ?_ ?_ | refine Sub.cons_of (by simp only [subs, dg, hj]) ?_ | exact Sub.left _ _ | refine Sub.app (by simp only [subs, dg, hj]) ?_ | refine Sub.cons (by simp only [subs, dg, hj]) ?_), k t2 (by omega)⟩

theorem dealText_c {h : H} {b : Value} {l : List UInt8} (gl : Gl h) (gm : MxL h) (r : rIn h eB 1 b l) {R : Ending → H → Prop} (k : R (.returned (.bool true)) h) : HCalls Tryd.prog 3 #[b] h R := by
  refine HCalls_ir (args := [b]) Tryd.func3 ir3 ?_
  simp only [walk, lists, acts, mem, plain, seqs, maps, cells, resL, resV, intBin, ↓reduceIte, Nat.reduceAdd, Nat.reduceSub, Nat.reduceMul, Nat.reduceLeDiff, Nat.reduceEqDiff, Int.reduceToNat, Int.reduceEq, Int.reduceLT, Int.reduceLE, Int.reduceNeg, Int.reduceAdd, Int.reduceSub, Int.reduceMul, Nat.reducePow, Int.reduceNegSucc, str, r.len]
  refine ite_lt (fun c => .of k) fun c => ?_
  refine drawDealWrite_c r (by omega) fun v g ds o d hlen => ?_
  have sg := Sub.right d
  have rd : rLs (g ++ h) cStatement 3 v ds := o.rd.sub (Sub.left _ _)
  simp only [walk, lists, acts, mem, plain, seqs, maps, cells, resL, resV, intBin, ↓reduceIte, Nat.reduceAdd, Nat.reduceSub, Nat.reduceMul, Nat.reduceLeDiff, Nat.reduceEqDiff, Int.reduceToNat, Int.reduceEq, Int.reduceLT, Int.reduceLE, Int.reduceNeg, Int.reduceAdd, Int.reduceSub, Int.reduceMul, Nat.reducePow, Int.reduceNegSucc]
  refine dealWrite_c rd (by omega) fun t1 ht1 => ?_
  simp only [walk, lists, acts, mem, plain, seqs, maps, cells, resL, resV, intBin, ↓reduceIte, Nat.reduceAdd, Nat.reduceSub, Nat.reduceMul, Nat.reduceLeDiff, Nat.reduceEqDiff, Int.reduceToNat, Int.reduceEq, Int.reduceLT, Int.reduceLE, Int.reduceNeg, Int.reduceAdd, Int.reduceSub, Int.reduceMul, Nat.reducePow, Int.reduceNegSucc]
  refine dealOk_c rd (by omega) fun b1 hb1 => ?_
  simp only [walk, lists, acts, mem, plain, seqs, maps, cells, resL, resV, intBin, ↓reduceIte, Nat.reduceAdd, Nat.reduceSub, Nat.reduceMul, Nat.reduceLeDiff, Nat.reduceEqDiff, Int.reduceToNat, Int.reduceEq, Int.reduceLT, Int.reduceLE, Int.reduceNeg, Int.reduceAdd, Int.reduceSub, Int.reduceMul, Nat.reducePow, Int.reduceNegSucc]
  refine implDealWrite_c (gl.sub sg) rd (by omega) fun t2 ht2 => ?_
  have e21 : t2 = t1 := by
    rcases ht1 with ⟨p, rfl⟩ | ⟨p, rfl⟩ <;> rcases ht2 with ⟨p2, rfl⟩ | ⟨p2, rfl⟩ <;> first | rfl | exact absurd p p2 | exact absurd p2 p
  subst e21
  simp only [walk, lists, acts, mem, plain, seqs, maps, cells, resL, resV, intBin, ↓reduceIte, Nat.reduceAdd, Nat.reduceSub, Nat.reduceMul, Nat.reduceLeDiff, Nat.reduceEqDiff, Int.reduceToNat, Int.reduceEq, Int.reduceLT, Int.reduceLE, Int.reduceNeg, Int.reduceAdd, Int.reduceSub, Int.reduceMul, Nat.reducePow, Int.reduceNegSucc, strBin, str_inj, decide_true, Bool.not_true]
  refine implOk_c rd (by omega) fun b2 hb2 => ?_
  have e12 : b2 = b1 := by
    rw [Bool.eq_iff_iff, hb1, hb2]
  subst e12
  simp only [walk, lists, acts, mem, plain, seqs, maps, cells, resL, resV, intBin, ↓reduceIte, Nat.reduceAdd, Nat.reduceSub, Nat.reduceMul, Nat.reduceLeDiff, Nat.reduceEqDiff, Int.reduceToNat, Int.reduceEq, Int.reduceLT, Int.reduceLE, Int.reduceNeg, Int.reduceAdd, Int.reduceSub, Int.reduceMul, Nat.reducePow, Int.reduceNegSucc]
  cases b2 with
  | false =>
    have hn : ¬ dealP ds := fun p => by cases hb1.2 p
    have t0 : t2 = [] := by
      rcases ht1 with ⟨p, _⟩ | ⟨_, e⟩
      · exact absurd p hn
      · exact e
    subst t0
    simp only [walk, lists, acts, mem, plain, seqs, maps, cells, resL, resV, intBin, ↓reduceIte, Nat.reduceAdd, Nat.reduceSub, Nat.reduceMul, Nat.reduceLeDiff, Nat.reduceEqDiff, Int.reduceToNat, Int.reduceEq, Int.reduceLT, Int.reduceLE, Int.reduceNeg, Int.reduceAdd, Int.reduceSub, Int.reduceMul, Nat.reducePow, Int.reduceNegSucc, strBin, beq_self_eq_true, Bool.true_eq_false, if_false, if_true]
    exact ⟨h, sg, k⟩
  | true =>
    have hp : dealP ds := hb1.1 rfl
    have t0 : t2 = dealText ds := by
      rcases ht1 with ⟨_, e⟩ | ⟨p, _⟩
      · exact e
      · exact absurd hp p
    have htl := dealT_len ht1
    simp only [walk, lists, acts, mem, plain, seqs, maps, cells, resL, resV, intBin, ↓reduceIte, Nat.reduceAdd, Nat.reduceSub, Nat.reduceMul, Nat.reduceLeDiff, Nat.reduceEqDiff, Int.reduceToNat, Int.reduceEq, Int.reduceLT, Int.reduceLE, Int.reduceNeg, Int.reduceAdd, Int.reduceSub, Int.reduceMul, Nat.reducePow, Int.reduceNegSucc, beq_self_eq_true, Bool.true_eq_false, if_false, if_true]
    refine implRead_c (gl.sub sg) (gm.sub sg) (by omega) fun v5 g5 l5 b5 O5 o5 d5 => ?_
    have s5 := Sub.right d5
    have r5 : rLs (g5 ++ (g ++ h)) cStatement 3 v5 l5 := o5.rd.sub (Sub.left _ _)
    simp only [walk, lists, acts, mem, plain, seqs, maps, cells, resL, resV, intBin, ↓reduceIte, Nat.reduceAdd, Nat.reduceSub, Nat.reduceMul, Nat.reduceLeDiff, Nat.reduceEqDiff, Int.reduceToNat, Int.reduceEq, Int.reduceLT, Int.reduceLE, Int.reduceNeg, Int.reduceAdd, Int.reduceSub, Int.reduceMul, Nat.reducePow, Int.reduceNegSucc]
    rcases O5 with ⟨rfl, p5, e5, z5⟩ | ⟨rfl, rfl, n5⟩
    · have el : l5 = ds := dealText_inj p5.2.2 hp.2.2 (e5.symm.trans t0)
      subst el
      have hz : ¬ (t2.length : Int) > 80 := by omega
      simp only [walk, lists, acts, mem, plain, seqs, maps, cells, resL, resV, intBin, ↓reduceIte, Nat.reduceAdd, Nat.reduceSub, Nat.reduceMul, Nat.reduceLeDiff, Nat.reduceEqDiff, Int.reduceToNat, Int.reduceEq, Int.reduceLT, Int.reduceLE, Int.reduceNeg, Int.reduceAdd, Int.reduceSub, Int.reduceMul, Nat.reducePow, Int.reduceNegSucc, hz, decide_false]
      refine loDeal_c r5 (rd.sub s5) (by omega) ?_
      simp only [walk, lists, acts, mem, plain, seqs, maps, cells, resL, resV, intBin, ↓reduceIte, Nat.reduceAdd, Nat.reduceSub, Nat.reduceMul, Nat.reduceLeDiff, Nat.reduceEqDiff, Int.reduceToNat, Int.reduceEq, Int.reduceLT, Int.reduceLE, Int.reduceNeg, Int.reduceAdd, Int.reduceSub, Int.reduceMul, Nat.reducePow, Int.reduceNegSucc, decide_true]
      exact ⟨h, sg.trans s5, k⟩
    · have hz : (t2.length : Int) > 80 := by
        by_cases z : t2.length ≤ 80
        · exact (n5 ds hp t0 z).elim
        · omega
      simp only [walk, lists, acts, mem, plain, seqs, maps, cells, resL, resV, intBin, ↓reduceIte, Nat.reduceAdd, Nat.reduceSub, Nat.reduceMul, Nat.reduceLeDiff, Nat.reduceEqDiff, Int.reduceToNat, Int.reduceEq, Int.reduceLT, Int.reduceLE, Int.reduceNeg, Int.reduceAdd, Int.reduceSub, Int.reduceMul, Nat.reducePow, Int.reduceNegSucc, hz, decide_true]
      exact ⟨h, sg.trans s5, k⟩

theorem dealStrict_c {h : H} {b : Value} {l : List UInt8} (gl : Gl h) (gm : MxL h) (r : rIn h eB 1 b l) {R : Ending → H → Prop} (k : R (.returned (.bool true)) h) : HCalls Tryd.prog 6 #[b] h R := by
  refine HCalls_ir (args := [b]) Tryd.func6 ir6 ?_
  simp only [walk, lists, acts, mem, plain, seqs, maps, cells, resL, resV, intBin, ↓reduceIte, Nat.reduceAdd, Nat.reduceSub, Nat.reduceMul, Nat.reduceLeDiff, Nat.reduceEqDiff, Int.reduceToNat, Int.reduceEq, Int.reduceLT, Int.reduceLE, Int.reduceNeg, Int.reduceAdd, Int.reduceSub, Int.reduceMul, Nat.reducePow, Int.reduceNegSucc, str, r.len]
  refine ite_lt (fun c => .of k) fun c => ?_
  refine drawDealRead_c r (by omega) fun t ht => ?_
  simp only [walk, lists, acts, mem, plain, seqs, maps, cells, resL, resV, intBin, ↓reduceIte, Nat.reduceAdd, Nat.reduceSub, Nat.reduceMul, Nat.reduceLeDiff, Nat.reduceEqDiff, Int.reduceToNat, Int.reduceEq, Int.reduceLT, Int.reduceLE, Int.reduceNeg, Int.reduceAdd, Int.reduceSub, Int.reduceMul, Nat.reducePow, Int.reduceNegSucc]
  refine specRead_c (by omega) fun v3 g3 l3 b3 O3 o3 d3 => ?_
  have s3 := Sub.right d3
  simp only [walk, lists, acts, mem, plain, seqs, maps, cells, resL, resV, intBin, ↓reduceIte, Nat.reduceAdd, Nat.reduceSub, Nat.reduceMul, Nat.reduceLeDiff, Nat.reduceEqDiff, Int.reduceToNat, Int.reduceEq, Int.reduceLT, Int.reduceLE, Int.reduceNeg, Int.reduceAdd, Int.reduceSub, Int.reduceMul, Nat.reducePow, Int.reduceNegSucc]
  refine implRead_c (gl.sub s3) (gm.sub s3) (by omega) fun v5 g5 l5 b5 O5 o5 d5 => ?_
  obtain ⟨rfl, rfl⟩ := O5.same O3
  have hlen := O5.len
  have s5 := Sub.right d5
  have r5 : rLs (g5 ++ (g3 ++ h)) cStatement 3 v5 l5 := o5.rd.sub (Sub.left _ _)
  have r3 : rLs (g5 ++ (g3 ++ h)) cStatement 3 v3 l5 := (o3.rd.sub (Sub.left _ _)).sub s5
  simp only [walk, lists, acts, mem, plain, seqs, maps, cells, resL, resV, intBin, ↓reduceIte, Nat.reduceAdd, Nat.reduceSub, Nat.reduceMul, Nat.reduceLeDiff, Nat.reduceEqDiff, Int.reduceToNat, Int.reduceEq, Int.reduceLT, Int.reduceLE, Int.reduceNeg, Int.reduceAdd, Int.reduceSub, Int.reduceMul, Nat.reducePow, Int.reduceNegSucc]
  refine ite_eqb (fun c => absurd rfl c) fun _ => ?_
  refine loDeal_c r5 r3 (by omega) ?_
  simp only [walk, lists, acts, mem, plain, seqs, maps, cells, resL, resV, intBin, ↓reduceIte, Nat.reduceAdd, Nat.reduceSub, Nat.reduceMul, Nat.reduceLeDiff, Nat.reduceEqDiff, Int.reduceToNat, Int.reduceEq, Int.reduceLT, Int.reduceLE, Int.reduceNeg, Int.reduceAdd, Int.reduceSub, Int.reduceMul, Nat.reducePow, Int.reduceNegSucc, decide_true]
  cases b5 with
  | false =>
    rcases O5 with ⟨e, _⟩ | ⟨_, rfl, _⟩
    · cases e
    simp only [walk, lists, acts, mem, plain, seqs, maps, cells, resL, resV, intBin, ↓reduceIte, Nat.reduceAdd, Nat.reduceSub, Nat.reduceMul, Nat.reduceLeDiff, Nat.reduceEqDiff, Int.reduceToNat, Int.reduceEq, Int.reduceLT, Int.reduceLE, Int.reduceNeg, Int.reduceAdd, Int.reduceSub, Int.reduceMul, Nat.reducePow, Int.reduceNegSucc, r5.len]
    refine ite_pos (fun _ => ⟨h, s3.trans s5, k⟩) fun c => absurd rfl c
  | true =>
    rcases O5 with ⟨_, p5, e5, _⟩ | ⟨e, _⟩
    · have s35 := s3.trans s5
      simp only [walk, lists, acts, mem, plain, seqs, maps, cells, resL, resV, intBin, ↓reduceIte, Nat.reduceAdd, Nat.reduceSub, Nat.reduceMul, Nat.reduceLeDiff, Nat.reduceEqDiff, Int.reduceToNat, Int.reduceEq, Int.reduceLT, Int.reduceLE, Int.reduceNeg, Int.reduceAdd, Int.reduceSub, Int.reduceMul, Nat.reducePow, Int.reduceNegSucc, Bool.true_eq_false, if_false]
      refine implOk_c r5 (by omega) fun b6 hb6 => ?_
      have : b6 = true := hb6.2 p5
      subst this
      simp only [walk, lists, acts, mem, plain, seqs, maps, cells, resL, resV, intBin, ↓reduceIte, Nat.reduceAdd, Nat.reduceSub, Nat.reduceMul, Nat.reduceLeDiff, Nat.reduceEqDiff, Int.reduceToNat, Int.reduceEq, Int.reduceLT, Int.reduceLE, Int.reduceNeg, Int.reduceAdd, Int.reduceSub, Int.reduceMul, Nat.reducePow, Int.reduceNegSucc]
      refine implDealWrite_c (gl.sub s35) r5 (by omega) fun t2 ht2 => ?_
      have e2 : t2 = t := by
        rcases ht2 with ⟨_, e⟩ | ⟨n, _⟩
        · rw [e, e5]
        · exact absurd p5 n
      subst e2
      simp only [walk, lists, acts, mem, plain, seqs, maps, cells, resL, resV, intBin, ↓reduceIte, Nat.reduceAdd, Nat.reduceSub, Nat.reduceMul, Nat.reduceLeDiff, Nat.reduceEqDiff, Int.reduceToNat, Int.reduceEq, Int.reduceLT, Int.reduceLE, Int.reduceNeg, Int.reduceAdd, Int.reduceSub, Int.reduceMul, Nat.reducePow, Int.reduceNegSucc, strBin, beq_self_eq_true]
      exact ⟨h, s35, k⟩
    · cases e
end Go.Proofs.YtfkkjjballajaaaDoor
end
