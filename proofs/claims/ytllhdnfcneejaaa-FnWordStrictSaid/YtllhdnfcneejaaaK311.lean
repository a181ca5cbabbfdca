/- Parts of the proof, put together: T34, T35, T36, T37, T38. -/
import Derived.Test.YtllhdnfcneejaaaK310
/- What is drawn of deals and calls. -/
section
set_option linter.unusedVariables false
set_option linter.unusedSimpArgs false
set_option maxRecDepth 20000
attribute [local irreducible] Go.Tk.vc Go.Tk.vops Go.Tk.vdr Go.Tk.vop Go.Tk.vfl Go.Tk.HCalls
namespace Go.Proofs.Ytllhdnfcneejaaa
open Go Go.Tk

theorem sim_c {h : H} {r : Value} (hr : vone r = true) {R : Ending → H → Prop} (k : ∀ (j : Nat) (S : List Value), hget h j = none → R (.returned (.pointer (some ⟨j, 0, none⟩))) ((j, blk (r :: S) 167) :: h)) : HCalls Try.prog 95 #[r] h R := by
  refine HCalls_ir (args := [r]) Try.func95 ir95 ?_
  have vc := vcells_one hr
  simp only [walk, lists, acts, mem, plain, seqs, maps, cells, resL, resV, intBin, ↓reduceIte, Nat.reduceAdd, Nat.reduceSub, Nat.reduceMul, Nat.reduceLeDiff, Nat.reduceEqDiff, Int.reduceToNat, Int.reduceEq, Int.reduceLT, Int.reduceLE, Int.reduceNeg, Int.reduceAdd, Int.reduceSub, Int.reduceMul, Nat.reducePow, Int.reduceNegSucc]
  refine tollStart_c fun cs h1 h2 => ?_
  simp only [walk, lists, acts, mem, plain, seqs, maps, cells, resL, resV, intBin, ↓reduceIte, Nat.reduceAdd, Nat.reduceSub, Nat.reduceMul, Nat.reduceLeDiff, Nat.reduceEqDiff, Int.reduceToNat, Int.reduceEq, Int.reduceLT, Int.reduceLE, Int.reduceNeg, Int.reduceAdd, Int.reduceSub, Int.reduceMul, Nat.reducePow, Int.reduceNegSucc, vc, h1]
  refine newB_intro fun j hj => ?_
  simp only [walk, lists, acts, mem, plain, seqs, maps, cells, resL, resV, intBin, ↓reduceIte, Nat.reduceAdd, Nat.reduceSub, Nat.reduceMul, Nat.reduceLeDiff, Nat.reduceEqDiff, Int.reduceToNat, Int.reduceEq, Int.reduceLT, Int.reduceLE, Int.reduceNeg, Int.reduceAdd, Int.reduceSub, Int.reduceMul, Nat.reducePow, Int.reduceNegSucc]
  exact .of (k j _ hj)

theorem cStatement_one (l : List DStatement) : (fl cStatement l).all vone = true := by induction l <;> simp_all [fl, cStatement, vone]
theorem deal_c {h : H} {js jr p : Nat} {bv : Value} {l : List UInt8} (hs : hcel h js 0 = some (.pointer (some ⟨jr, 0, none⟩))) (hne : js ≠ jr) (hj : hget h jr = none) (rb : rIn h eB 1 bv l) (hl : l.length ≤ 1048576) (hp : p ≤ 549755813888) {R : Ending → H → Prop}
    (k : ∀ v g ds (p' : Nat), oLs 85 cStatement 3 v ds g → Dj g ((jr, blk (rdr bv p') 120) :: h) → ds.length ≤ 4 → p ≤ p' → p' ≤ p + 200 → R (.returned v) (g ++ ((jr, blk (rdr bv p') 120) :: h))) :
    HCalls Try.prog 100 #[.pointer (some ⟨js, 0, none⟩)] ((jr, blk (rdr bv p) 120) :: h) R := by
  refine HCalls_ir (args := [.pointer (some ⟨js, 0, none⟩)]) Try.func100 ir100 ?_
  have zs := zStatement_eq
  have hsj := fun o => hcel_sub (Sub.cons (o := o) hj (Sub.refl h)) hs
  simp only [walk, lists, acts, mem, plain, seqs, maps, cells, resL, resV, intBin, ↓reduceIte, Nat.reduceAdd, Nat.reduceSub, Nat.reduceMul, Nat.reduceLeDiff, Nat.reduceEqDiff, Int.reduceToNat, Int.reduceEq, Int.reduceLT, Int.reduceLE, Int.reduceNeg, Int.reduceAdd, Int.reduceSub, Int.reduceMul, Nat.reducePow, Int.reduceNegSucc, zs]
  refine newB_intro (o := blk (fl cStatement []) 85) fun j1 hj1 => ?_
  have n1 := fresh hj1
  have hs1 : ∀ o o2, hcel ((j1, o) :: (jr, o2) :: h) js 0 = some (.pointer (some ⟨jr, 0, none⟩)) := fun o o2 => by
    refine hcel_sub (Sub.cons (o := o) ?_ (Sub.refl ((jr, o2) :: h))) (hsj _)
    simp only [subs, n1]
  simp only [walk, lists, acts, mem, plain, seqs, maps, cells, resL, resV, intBin, ↓reduceIte, Nat.reduceAdd, Nat.reduceSub, Nat.reduceMul, Nat.reduceLeDiff, Nat.reduceEqDiff, Int.reduceToNat, Int.reduceEq, Int.reduceLT, Int.reduceLE, Int.reduceNeg, Int.reduceAdd, Int.reduceSub, Int.reduceMul, Nat.reducePow, Int.reduceNegSucc, zs, hs1]
  refine (pick_c (p := p) (h := (j1, blk (fl cStatement []) 85) :: h) (by simp only [subs, n1, hj]) (rb.sub (Sub.cons n1.2.2 (Sub.refl _))) hl (by omega) (by omega) fun x hx0 hx1 _ => ?_).weaken (by (repeat' first | exact Sub.refl _ | exact Sub.nil _ | assumption | refine Sub.both ?_ ?_ | refine Sub.cons_of (by simp only [subs, n1, hj]) ?_ | exact Sub.left _ _ | refine Sub.app (by simp only [subs, n1, hj]) ?_ | refine Sub.cons (by simp only [subs, n1, hj]) ?_))
  have hx := hx1 (by omega)
  simp (disch := omega) only [walk, lists, acts, mem, plain, seqs, maps, cells, resL, resV, intBin, ↓reduceIte, Nat.reduceAdd, Nat.reduceSub, Nat.reduceMul, Nat.reduceLeDiff, Nat.reduceEqDiff, Int.reduceToNat, Int.reduceEq, Int.reduceLT, Int.reduceLE, Int.reduceNeg, Int.reduceAdd, Int.reduceSub, Int.reduceMul, Nat.reducePow, Int.reduceNegSucc, wrapI]
  have o1 : oLs 85 cStatement 3 (.slice (some ⟨j1, 0, none⟩) 0 0) [] [(j1, blk (fl cStatement []) 85)] := oLs_new cStatement_len
  have hm : (1 : Int) + x = (((1 + x).toNat : Nat) : Int) := by omega
  refine vc_loopS (g0 := (j1, blk (fl cStatement []) 85) :: (jr, blk (rdr bv (p + 1)) 120) :: h) [3, 4] (fun n vs h' => ∃ (m : Nat) (v' : Value) (ds : List DStatement) (g : H) (p' : Nat), vs = [v', .int .i64 m] ∧ h' = g ++ ((jr, blk (rdr bv p') 120) :: h) ∧ Dj g ((jr, blk (rdr bv p') 120) :: h) ∧ oLs 85 cStatement 3 v' ds g ∧ ds.length + m ≤ 4 ∧ p' + 40 * m ≤ p + 161 ∧ p ≤ p' ∧ n = m) (1 + x).toNat rfl (by (repeat' first | exact Sub.refl _ | exact Sub.nil _ | assumption | refine Sub.both ?_ ?_ | refine Sub.cons_of (by simp only [subs, n1, hj]) ?_ | exact Sub.left _ _ | refine Sub.app (by simp only [subs, n1, hj]) ?_ | refine Sub.cons (by simp only [subs, n1, hj]) ?_))
    ⟨(1 + x).toNat, .slice (some ⟨j1, 0, none⟩) 0 0, [], [(j1, blk (fl cStatement []) 85)], p + 1, by show [Value.slice (some ⟨j1, 0, none⟩) 0 0, Value.int IntKind.i64 (1 + x)] = _; rw [← hm], rfl, Dj.one (by simp only [subs, n1]), o1, by simp only [List.length_nil]; omega, by omega, by omega, rfl⟩ ?_
  rintro n f h' ⟨m, v', ds, g, p', hv, rfl, dj, o, hlen, hpp, hpp2, rfl⟩
  simp only [List.map_cons, List.map_nil, List.cons.injEq, and_true] at hv
  have d1 := dj
  have d2 := dj.symm
  simp only [subs] at d1 d2
  simp only [walk, lists, acts, mem, plain, seqs, maps, cells, resL, resV, intBin, ↓reduceIte, Nat.reduceAdd, Nat.reduceSub, Nat.reduceMul, Nat.reduceLeDiff, Nat.reduceEqDiff, Int.reduceToNat, Int.reduceEq, Int.reduceLT, Int.reduceLE, Int.reduceNeg, Int.reduceAdd, Int.reduceSub, Int.reduceMul, Nat.reducePow, Int.reduceNegSucc, wr, hv.1, hv.2, zs]
  refine ite_lt (fun c => ?_) fun c => ?_
  · have HS : ∀ x, Tk.Sub (g ++ h) x → hcel x js 0 = some (.pointer (some ⟨jr, 0, none⟩)) := fun x hx => hcel_sub ((Sub.right d1.2).trans hx) hs
    have rbR : rIn (g ++ h) eB 1 bv l := rb.sub (Sub.right d1.2)
    have pj : ∀ x, Tk.Sub (g ++ h) x → ∀ v, v = Value.pointer (some ⟨js, 0, none⟩) → ∃ b o w, v = Value.pointer (some ⟨b, o, none⟩) ∧ hcel x b o = some w ∧ qV (.pointer (some ⟨jr, 0, none⟩)) x w := fun x hx v e => ⟨js, 0, _, e, HS x hx, rfl⟩
    refine vc_anyR (memR jr bv p (p' + 22)) [qV (.pointer (some ⟨js, 0, none⟩)), qV (.pointer (some ⟨js, 0, none⟩)), qV (.pointer (some ⟨js, 0, none⟩)), qV (.pointer (some ⟨jr, 0, none⟩)), qI 0 3, qI 1 4,
      qV (.pointer (some ⟨js, 0, none⟩)), qV (.pointer (some ⟨js, 0, none⟩)), qV (.pointer (some ⟨js, 0, none⟩)), qV (.pointer (some ⟨jr, 0, none⟩)), qI 0 31, qS 3 7,
      qV (.pointer (some ⟨js, 0, none⟩)), qV (.pointer (some ⟨js, 0, none⟩)), qV (.pointer (some ⟨js, 0, none⟩)), qV (.pointer (some ⟨jr, 0, none⟩)), qI 0 6, qP, qZ, qSt, qN (g ++ h) jr 85 (cStatement zStatement)] (g ++ h) ?_ ⟨p', by (repeat' first | exact Sub.refl _ | exact Sub.nil _ | assumption | refine Sub.both ?_ ?_ | refine Sub.cons_of (by simp only [subs, d1, d2, hj]) ?_ | exact Sub.left _ _ | refine Sub.app (by simp only [subs, d1, d2, hj]) ?_ | refine Sub.cons (by simp only [subs, d1, d2, hj]) ?_), by simp only [subs, d1, hj], by simp, hpp2⟩ rfl fun ρ hi ho hc => ?_
    · repeat' first | exact fun _ h => absurd h List.not_mem_nil | refine List.forall_mem_cons.2 ⟨?_, ?_⟩ | exact mono_qV _ | exact mono_qI _ _ | exact mono_qS _ _ | exact mono_qP | exact mono_qZ | exact mono_qSt | exact mono_qN _ _ _ _
    simp only [anysR, ndr, maps, lists, plain, Nat.reduceAdd]
    have hP : p' + 22 ≤ 1099511627776 := by omega
    refine ⟨sA_mov fun f g _ _ => ho f 0 rfl, sA_nilc fun f g _ hd => ⟨_, (hi f 17 rfl).trans hd, rfl⟩, sA_fld fun f g _ hd => ⟨_, _, (hi f 18 rfl).trans hd, rfl⟩, sA_load fun f g hs hd => pj _ hs _ ((hi f 19 rfl).trans hd), sA_pick rbR hl hP (n := 4) ⟨by decide, by decide⟩ (fun f g _ hd => ⟨(hi f 20 rfl).trans hd, hc f _⟩) fun g m h0 h1 => ⟨m, rfl, h0, by omega⟩,
      sA_bin fun f g _ hd => ?_,
      sA_mov fun f g _ _ => ho f 0 rfl, sA_nilc fun f g _ hd => ⟨_, (hi f 23 rfl).trans hd, rfl⟩, sA_fld fun f g _ hd => ⟨_, _, (hi f 24 rfl).trans hd, rfl⟩, sA_load fun f g hs hd => pj _ hs _ ((hi f 25 rfl).trans hd), sA_pick rbR hl hP (n := 32) ⟨by decide, by decide⟩ (fun f g _ hd => ⟨(hi f 26 rfl).trans hd.1, hc f _⟩) fun g m h0 h1 => ⟨m, rfl, h0, by omega⟩,
      sA_ints fun f g _ hd => ?_,
      sA_mov fun f g _ _ => ho f 0 rfl, sA_nilc fun f g _ hd => ⟨_, (hi f 29 rfl).trans hd, rfl⟩, sA_fld fun f g _ hd => ⟨_, _, (hi f 30 rfl).trans hd, rfl⟩, sA_load fun f g hs hd => pj _ hs _ ((hi f 31 rfl).trans hd), sA_pick rbR hl hP (n := 7) ⟨by decide, by decide⟩ (fun f g _ hd => ⟨(hi f 32 rfl).trans hd.1, hc f _⟩) fun g m h0 h1 => ⟨m, rfl, h0, by omega⟩,
      sA_idx fun f g _ hd => ?_, sA_load fun f g _ hd => ?_, sA_build fun f g _ hd => ?_, sA_alloc, ?_⟩
    · obtain ⟨n, e, h0, h1⟩ := hd
      exact ⟨1, n, .int .i64 (IntKind.i64.wrap (1 + n)), hc f _, (hi f 21 rfl).trans e, rfl, 1 + n, by rw [wrapI _ (by omega)], by omega, by omega⟩
    · obtain ⟨n, e, _⟩ := hd
      refine ⟨[0, 1, 4, 5, 8, 9, n], rfl, ?_⟩
      simp only [maps, hc, (hi f 27 rfl).trans e]
      rfl
    · obtain ⟨⟨j, l, e, hl, hg⟩, n, e2, h0, h1⟩ := hd
      exact ⟨_, 7, j, l, n, (hi f 28 rfl).trans e, hl, hg, (hi f 33 rfl).trans e2, h0, by omega⟩
    · obtain ⟨b, o, n, e, hr⟩ := hd
      exact ⟨b, o, _, (hi f 34 rfl).trans e, hread_1 hr, n, rfl⟩
    · obtain ⟨⟨a, ea, _⟩, b, eb⟩ := hd
      refine ⟨cStatement ⟨a, b, 0⟩, ?_, _, rfl⟩
      simp only [maps, (hi f 22 rfl).trans ea, (hi f 35 rfl).trans eb]
      rfl
    · intro m2 f2 h2 g2 hm hs2 hd
      obtain ⟨-, -, -, -, -, -, -, -, -, -, -, -, -, -, -, -, -, -, -, ⟨st, est⟩, j5, e5, hg5, hn5, hne5⟩ := hd
      obtain ⟨q, hsub, hq0, hq1, hq2⟩ := hm
      simp only [subs] at hn5
      have m5 : j5 ≠ jr ∧ jr ≠ j5 := ⟨hne5, Ne.symm hne5⟩
      have hlt : q ≤ p' + 21 := by omega
      refine ⟨(j5, blk (cStatement zStatement) 85) :: (g ++ ((jr, blk (rdr bv q) 120) :: h)), ?_, ?_⟩
      · have A : Tk.Sub ((jr, blk (rdr bv q) 120) :: (j5, blk (cStatement zStatement) 85) :: (g ++ h)) h2 := (Sub.cons2 (Sub.cons_of hg5 hs2)).trans hsub
        exact Tk.Sub.trans (by (repeat' first | exact Sub.refl _ | exact Sub.nil _ | assumption | refine Sub.both ?_ ?_ | refine Sub.cons_of (by simp only [subs, d1, d2, hj, m5, hn5]) ?_ | exact Sub.left _ _ | refine Sub.app (by simp only [subs, d1, d2, hj, m5, hn5]) ?_ | refine Sub.cons (by simp only [subs, d1, d2, hj, m5, hn5]) ?_)) A
      have H5 : hcel ((j5, blk (cStatement st) 85) :: (g ++ ((jr, blk (rdr bv q) 120) :: h))) js 0 = some (.pointer (some ⟨jr, 0, none⟩)) := hcel_sub (by (repeat' first | exact Sub.refl _ | exact Sub.nil _ | assumption | refine Sub.both ?_ ?_ | refine Sub.cons_of (by simp only [subs, d1, d2, hj, m5, hn5]) ?_ | exact Sub.left _ _ | refine Sub.app (by simp only [subs, d1, d2, hj, m5, hn5]) ?_ | refine Sub.cons (by simp only [subs, d1, d2, hj, m5, hn5]) ?_)) hs
      simp only [walk, lists, acts, mem, plain, seqs, maps, cells, resL, resV, intBin, ↓reduceIte, Nat.reduceAdd, Nat.reduceSub, Nat.reduceMul, Nat.reduceLeDiff, Nat.reduceEqDiff, Int.reduceToNat, Int.reduceEq, Int.reduceLT, Int.reduceLE, Int.reduceNeg, Int.reduceAdd, Int.reduceSub, Int.reduceMul, Nat.reducePow, Int.reduceNegSucc, wr, hi f2 5 rfl, hi f2 36 rfl, est, e5, wStatement]
      refine ite_pos (fun c2 => ?_) fun c2 => ?_
      · simp only [walk, lists, acts, mem, plain, seqs, maps, cells, resL, resV, intBin, ↓reduceIte, Nat.reduceAdd, Nat.reduceSub, Nat.reduceMul, Nat.reduceLeDiff, Nat.reduceEqDiff, Int.reduceToNat, Int.reduceEq, Int.reduceLT, Int.reduceLE, Int.reduceNeg, Int.reduceAdd, Int.reduceSub, Int.reduceMul, Nat.reducePow, Int.reduceNegSucc, H5]
        refine (pick_c (p := q) (h := (j5, blk (cStatement st) 85) :: (g ++ h)) (by simp only [subs, d1, hj, m5]) ((rbR).sub (Sub.cons (by simp only [subs, hn5]) (Sub.refl _))) hl (by omega) (by omega) fun y hy0 hy1 _ => ?_).weaken (by (repeat' first | exact Sub.refl _ | exact Sub.nil _ | assumption | refine Sub.both ?_ ?_ | refine Sub.cons_of (by simp only [subs, d1, d2, hj, m5, hn5]) ?_ | exact Sub.left _ _ | refine Sub.app (by simp only [subs, d1, d2, hj, m5, hn5]) ?_ | refine Sub.cons (by simp only [subs, d1, d2, hj, m5, hn5]) ?_))
        have hy := hy1 (by omega)
        simp (disch := omega) only [walk, lists, acts, mem, plain, seqs, maps, cells, resL, resV, intBin, ↓reduceIte, Nat.reduceAdd, Nat.reduceSub, Nat.reduceMul, Nat.reduceLeDiff, Nat.reduceEqDiff, Int.reduceToNat, Int.reduceEq, Int.reduceLT, Int.reduceLE, Int.reduceNeg, Int.reduceAdd, Int.reduceSub, Int.reduceMul, Nat.reducePow, Int.reduceNegSucc, wrapI, m5, wStatement]
        refine newB_intro (o := blk (fl cStatement [{ st with num := y }]) 85) fun j9 hj9 => ?_
        simp only [subs] at hj9
        simp only [walk, lists, acts, mem, plain, seqs, maps, cells, resL, resV, intBin, ↓reduceIte, Nat.reduceAdd, Nat.reduceSub, Nat.reduceMul, Nat.reduceLeDiff, Nat.reduceEqDiff, Int.reduceToNat, Int.reduceEq, Int.reduceLT, Int.reduceLE, Int.reduceNeg, Int.reduceAdd, Int.reduceSub, Int.reduceMul, Nat.reducePow, Int.reduceNegSucc]
        refine app_leaf (g := g) (h := (jr, blk (rdr bv (q + 1)) 120) :: h) (M := (j9, blk (fl cStatement [{ st with num := y }]) 85) :: (jr, blk (rdr bv (q + 1)) 120) :: (j5, blk (cStatement { st with num := y }) 85) :: (g ++ h)) cStatement_len cStatement_one tStatements iStatement (by (repeat' first | exact Sub.refl _ | exact Sub.nil _ | assumption | refine Sub.both ?_ ?_ | refine Sub.cons_of (by simp only [subs, d1, d2, hj, hj9, m5, hn5]) ?_ | exact Sub.left _ _ | refine Sub.app (by simp only [subs, d1, d2, hj, hj9, m5, hn5]) ?_ | refine Sub.cons (by simp only [subs, d1, d2, hj, hj9, m5, hn5]) ?_)) (by simp only [subs, d1]) o (rL_lit cStatement_len [{ st with num := y }]) (by simp; omega) (by simp; omega) fun v2 g9 o9 d9 => ?_
        simp (disch := omega) only [walk, lists, acts, mem, plain, seqs, maps, cells, resL, resV, intBin, ↓reduceIte, Nat.reduceAdd, Nat.reduceSub, Nat.reduceMul, Nat.reduceLeDiff, Nat.reduceEqDiff, Int.reduceToNat, Int.reduceEq, Int.reduceLT, Int.reduceLE, Int.reduceNeg, Int.reduceAdd, Int.reduceSub, Int.reduceMul, Nat.reducePow, Int.reduceNegSucc, wrapI]
        exact ⟨n - 1, by omega, _, .refl _, n - 1, v2, _, g9, (q + 1), by simp; omega, rfl, d9, o9, by simp; omega, by omega, by omega, rfl⟩
      · refine ite_pos (fun c3 => ?_) fun c3 => ?_
        · simp only [walk, lists, acts, mem, plain, seqs, maps, cells, resL, resV, intBin, ↓reduceIte, Nat.reduceAdd, Nat.reduceSub, Nat.reduceMul, Nat.reduceLeDiff, Nat.reduceEqDiff, Int.reduceToNat, Int.reduceEq, Int.reduceLT, Int.reduceLE, Int.reduceNeg, Int.reduceAdd, Int.reduceSub, Int.reduceMul, Nat.reducePow, Int.reduceNegSucc, H5]
          refine (pick_c (p := q) (h := (j5, blk (cStatement st) 85) :: (g ++ h)) (by simp only [subs, d1, hj, m5]) ((rbR).sub (Sub.cons (by simp only [subs, hn5]) (Sub.refl _))) hl (by omega) (by omega) fun y hy0 hy1 _ => ?_).weaken (by (repeat' first | exact Sub.refl _ | exact Sub.nil _ | assumption | refine Sub.both ?_ ?_ | refine Sub.cons_of (by simp only [subs, d1, d2, hj, m5, hn5]) ?_ | exact Sub.left _ _ | refine Sub.app (by simp only [subs, d1, d2, hj, m5, hn5]) ?_ | refine Sub.cons (by simp only [subs, d1, d2, hj, m5, hn5]) ?_))
          have hy := hy1 (by omega)
          simp (disch := omega) only [walk, lists, acts, mem, plain, seqs, maps, cells, resL, resV, intBin, ↓reduceIte, Nat.reduceAdd, Nat.reduceSub, Nat.reduceMul, Nat.reduceLeDiff, Nat.reduceEqDiff, Int.reduceToNat, Int.reduceEq, Int.reduceLT, Int.reduceLE, Int.reduceNeg, Int.reduceAdd, Int.reduceSub, Int.reduceMul, Nat.reducePow, Int.reduceNegSucc, wrapI, m5, wStatement]
          refine newB_intro (o := blk (fl cStatement [{ st with num := y - 10 }]) 85) fun j9 hj9 => ?_
          simp only [subs] at hj9
          simp only [walk, lists, acts, mem, plain, seqs, maps, cells, resL, resV, intBin, ↓reduceIte, Nat.reduceAdd, Nat.reduceSub, Nat.reduceMul, Nat.reduceLeDiff, Nat.reduceEqDiff, Int.reduceToNat, Int.reduceEq, Int.reduceLT, Int.reduceLE, Int.reduceNeg, Int.reduceAdd, Int.reduceSub, Int.reduceMul, Nat.reducePow, Int.reduceNegSucc]
          refine app_leaf (g := g) (h := (jr, blk (rdr bv (q + 1)) 120) :: h) (M := (j9, blk (fl cStatement [{ st with num := y - 10 }]) 85) :: (jr, blk (rdr bv (q + 1)) 120) :: (j5, blk (cStatement { st with num := y - 10 }) 85) :: (g ++ h)) cStatement_len cStatement_one tStatements iStatement (by (repeat' first | exact Sub.refl _ | exact Sub.nil _ | assumption | refine Sub.both ?_ ?_ | refine Sub.cons_of (by simp only [subs, d1, d2, hj, hj9, m5, hn5]) ?_ | exact Sub.left _ _ | refine Sub.app (by simp only [subs, d1, d2, hj, hj9, m5, hn5]) ?_ | refine Sub.cons (by simp only [subs, d1, d2, hj, hj9, m5, hn5]) ?_)) (by simp only [subs, d1]) o (rL_lit cStatement_len [{ st with num := y - 10 }]) (by simp; omega) (by simp; omega) fun v2 g9 o9 d9 => ?_
          simp (disch := omega) only [walk, lists, acts, mem, plain, seqs, maps, cells, resL, resV, intBin, ↓reduceIte, Nat.reduceAdd, Nat.reduceSub, Nat.reduceMul, Nat.reduceLeDiff, Nat.reduceEqDiff, Int.reduceToNat, Int.reduceEq, Int.reduceLT, Int.reduceLE, Int.reduceNeg, Int.reduceAdd, Int.reduceSub, Int.reduceMul, Nat.reducePow, Int.reduceNegSucc, wrapI]
          exact ⟨n - 1, by omega, _, .refl _, n - 1, v2, _, g9, (q + 1), by simp; omega, rfl, d9, o9, by simp; omega, by omega, by omega, rfl⟩
        · refine ite_pos (fun c4 => ?_) fun c4 => ?_
          · simp only [walk, lists, acts, mem, plain, seqs, maps, cells, resL, resV, intBin, ↓reduceIte, Nat.reduceAdd, Nat.reduceSub, Nat.reduceMul, Nat.reduceLeDiff, Nat.reduceEqDiff, Int.reduceToNat, Int.reduceEq, Int.reduceLT, Int.reduceLE, Int.reduceNeg, Int.reduceAdd, Int.reduceSub, Int.reduceMul, Nat.reducePow, Int.reduceNegSucc, H5]
            refine (pick_c (p := q) (h := (j5, blk (cStatement st) 85) :: (g ++ h)) (by simp only [subs, d1, hj, m5]) ((rbR).sub (Sub.cons (by simp only [subs, hn5]) (Sub.refl _))) hl (by omega) (by omega) fun y hy0 hy1 _ => ?_).weaken (by (repeat' first | exact Sub.refl _ | exact Sub.nil _ | assumption | refine Sub.both ?_ ?_ | refine Sub.cons_of (by simp only [subs, d1, d2, hj, m5, hn5]) ?_ | exact Sub.left _ _ | refine Sub.app (by simp only [subs, d1, d2, hj, m5, hn5]) ?_ | refine Sub.cons (by simp only [subs, d1, d2, hj, m5, hn5]) ?_))
            have hy := hy1 (by omega)
            simp (disch := omega) only [walk, lists, acts, mem, plain, seqs, maps, cells, resL, resV, intBin, ↓reduceIte, Nat.reduceAdd, Nat.reduceSub, Nat.reduceMul, Nat.reduceLeDiff, Nat.reduceEqDiff, Int.reduceToNat, Int.reduceEq, Int.reduceLT, Int.reduceLE, Int.reduceNeg, Int.reduceAdd, Int.reduceSub, Int.reduceMul, Nat.reducePow, Int.reduceNegSucc, wrapI, m5, wStatement]
            refine newB_intro (o := blk (fl cStatement [{ st with num := y - 20 }]) 85) fun j9 hj9 => ?_
            simp only [subs] at hj9
            simp only [walk, lists, acts, mem, plain, seqs, maps, cells, resL, resV, intBin, ↓reduceIte, Nat.reduceAdd, Nat.reduceSub, Nat.reduceMul, Nat.reduceLeDiff, Nat.reduceEqDiff, Int.reduceToNat, Int.reduceEq, Int.reduceLT, Int.reduceLE, Int.reduceNeg, Int.reduceAdd, Int.reduceSub, Int.reduceMul, Nat.reducePow, Int.reduceNegSucc]
            refine app_leaf (g := g) (h := (jr, blk (rdr bv (q + 1)) 120) :: h) (M := (j9, blk (fl cStatement [{ st with num := y - 20 }]) 85) :: (jr, blk (rdr bv (q + 1)) 120) :: (j5, blk (cStatement { st with num := y - 20 }) 85) :: (g ++ h)) cStatement_len cStatement_one tStatements iStatement (by (repeat' first | exact Sub.refl _ | exact Sub.nil _ | assumption | refine Sub.both ?_ ?_ | refine Sub.cons_of (by simp only [subs, d1, d2, hj, hj9, m5, hn5]) ?_ | exact Sub.left _ _ | refine Sub.app (by simp only [subs, d1, d2, hj, hj9, m5, hn5]) ?_ | refine Sub.cons (by simp only [subs, d1, d2, hj, hj9, m5, hn5]) ?_)) (by simp only [subs, d1]) o (rL_lit cStatement_len [{ st with num := y - 20 }]) (by simp; omega) (by simp; omega) fun v2 g9 o9 d9 => ?_
            simp (disch := omega) only [walk, lists, acts, mem, plain, seqs, maps, cells, resL, resV, intBin, ↓reduceIte, Nat.reduceAdd, Nat.reduceSub, Nat.reduceMul, Nat.reduceLeDiff, Nat.reduceEqDiff, Int.reduceToNat, Int.reduceEq, Int.reduceLT, Int.reduceLE, Int.reduceNeg, Int.reduceAdd, Int.reduceSub, Int.reduceMul, Nat.reducePow, Int.reduceNegSucc, wrapI]
            exact ⟨n - 1, by omega, _, .refl _, n - 1, v2, _, g9, (q + 1), by simp; omega, rfl, d9, o9, by simp; omega, by omega, by omega, rfl⟩
          · refine newB_intro (o := blk (fl cStatement [st]) 85) fun j9 hj9 => ?_
            simp only [subs] at hj9
            simp only [walk, lists, acts, mem, plain, seqs, maps, cells, resL, resV, intBin, ↓reduceIte, Nat.reduceAdd, Nat.reduceSub, Nat.reduceMul, Nat.reduceLeDiff, Nat.reduceEqDiff, Int.reduceToNat, Int.reduceEq, Int.reduceLT, Int.reduceLE, Int.reduceNeg, Int.reduceAdd, Int.reduceSub, Int.reduceMul, Nat.reducePow, Int.reduceNegSucc]
            refine app_leaf (g := g) (h := (jr, blk (rdr bv q) 120) :: h) (M := (j9, blk (fl cStatement [st]) 85) :: (j5, blk (cStatement st) 85) :: (g ++ ((jr, blk (rdr bv q) 120) :: h))) cStatement_len cStatement_one tStatements iStatement (by (repeat' first | exact Sub.refl _ | exact Sub.nil _ | assumption | refine Sub.both ?_ ?_ | refine Sub.cons_of (by simp only [subs, d1, d2, hj, hj9, m5, hn5]) ?_ | exact Sub.left _ _ | refine Sub.app (by simp only [subs, d1, d2, hj, hj9, m5, hn5]) ?_ | refine Sub.cons (by simp only [subs, d1, d2, hj, hj9, m5, hn5]) ?_)) (by simp only [subs, d1]) o (rL_lit cStatement_len [st]) (by simp; omega) (by simp; omega) fun v2 g9 o9 d9 => ?_
            simp (disch := omega) only [walk, lists, acts, mem, plain, seqs, maps, cells, resL, resV, intBin, ↓reduceIte, Nat.reduceAdd, Nat.reduceSub, Nat.reduceMul, Nat.reduceLeDiff, Nat.reduceEqDiff, Int.reduceToNat, Int.reduceEq, Int.reduceLT, Int.reduceLE, Int.reduceNeg, Int.reduceAdd, Int.reduceSub, Int.reduceMul, Nat.reducePow, Int.reduceNegSucc, wrapI]
            exact ⟨n - 1, by omega, _, .refl _, n - 1, v2, _, g9, q, by simp; omega, rfl, d9, o9, by simp; omega, by omega, by omega, rfl⟩
  · exact .of (k v' g ds p' o dj (by omega) hpp2 (by omega))
end Go.Proofs.Ytllhdnfcneejaaa
end

/- What is drawn of calls. -/
section
set_option linter.unusedVariables false
set_option linter.unusedSimpArgs false
set_option maxRecDepth 20000
attribute [local irreducible] Go.Tk.vc Go.Tk.vops Go.Tk.vdr Go.Tk.vop Go.Tk.vfl Go.Tk.HCalls
namespace Go.Proofs.Ytllhdnfcneejaaa
open Go Go.Tk

theorem ask_c {h : H} {js jr p : Nat} {bv : Value} {l : List UInt8} (hs : hcel h js 0 = some (.pointer (some ⟨jr, 0, none⟩))) (hne : js ≠ jr) (hj : hget h jr = none) (rb : rIn h eB 1 bv l) (hl : l.length ≤ 1048576) (hp : p ≤ 274877906944) {R : Ending → H → Prop}
    (k : ∀ (c : DCall) (p' : Nat), c.text.length ≤ 400 → p ≤ p' → p' ≤ p + 300 → R (.returned (.agg (cCall c).toArray)) ((jr, blk (rdr bv p') 120) :: h)) :
    HCalls Try.prog 96 #[.pointer (some ⟨js, 0, none⟩)] ((jr, blk (rdr bv p) 120) :: h) R := by
  refine HCalls_ir (args := [.pointer (some ⟨js, 0, none⟩)]) Try.func96 ir96 ?_
  have zc := zCall_eq
  simp only [str] at zc
  simp only [walk, lists, acts, mem, plain, seqs, maps, cells, resL, resV, intBin, ↓reduceIte, Nat.reduceAdd, Nat.reduceSub, Nat.reduceMul, Nat.reduceLeDiff, Nat.reduceEqDiff, Int.reduceToNat, Int.reduceEq, Int.reduceLT, Int.reduceLE, Int.reduceNeg, Int.reduceAdd, Int.reduceSub, Int.reduceMul, Nat.reducePow, Int.reduceNegSucc, str, zc]
  refine newB_intro fun j2 hj2 => ?_
  have n2 := fresh hj2
  have hsM : ∀ o q, hcel ((jr, blk (rdr bv q) 120) :: (j2, o) :: h) js 0 = some (.pointer (some ⟨jr, 0, none⟩)) := fun o q => hcel_sub (by (repeat' first | exact Sub.refl _ | exact Sub.nil _ | assumption | refine Sub.both ?_ ?_ | refine Sub.cons_of (by simp only [subs, n2, hj]) ?_ | exact Sub.left _ _ | refine Sub.app (by simp only [subs, n2, hj]) ?_ | refine Sub.cons (by simp only [subs, n2, hj]) ?_)) hs
  have hsN : ∀ o, hcel ((j2, o) :: h) js 0 = some (.pointer (some ⟨jr, 0, none⟩)) := fun o => hcel_sub (by (repeat' first | exact Sub.refl _ | exact Sub.nil _ | assumption | refine Sub.both ?_ ?_ | refine Sub.cons_of (by simp only [subs, n2, hj]) ?_ | exact Sub.left _ _ | refine Sub.app (by simp only [subs, n2, hj]) ?_ | refine Sub.cons (by simp only [subs, n2, hj]) ?_)) hs
  have hs0 : ∀ o q, hcel ((j2, o) :: (jr, blk (rdr bv q) 120) :: h) js 0 = some (.pointer (some ⟨jr, 0, none⟩)) := fun o q => hcel_sub (by (repeat' first | exact Sub.refl _ | exact Sub.nil _ | assumption | refine Sub.both ?_ ?_ | refine Sub.cons_of (by simp only [subs, n2, hj]) ?_ | exact Sub.left _ _ | refine Sub.app (by simp only [subs, n2, hj]) ?_ | refine Sub.cons (by simp only [subs, n2, hj]) ?_)) hs
  have hj2' : ∀ o, hget ((j2, o) :: h) jr = none := fun o => by simp only [subs, n2, hj]
  have rb2 : ∀ o, rIn ((j2, o) :: h) eB 1 bv l := fun o => rb.sub (Sub.cons n2.2.2 (Sub.refl _))
  simp only [walk, lists, acts, mem, plain, seqs, maps, cells, resL, resV, intBin, ↓reduceIte, Nat.reduceAdd, Nat.reduceSub, Nat.reduceMul, Nat.reduceLeDiff, Nat.reduceEqDiff, Int.reduceToNat, Int.reduceEq, Int.reduceLT, Int.reduceLE, Int.reduceNeg, Int.reduceAdd, Int.reduceSub, Int.reduceMul, Nat.reducePow, Int.reduceNegSucc, zc, hs0]
  refine (pick_c (p := p) (hj2' _) (rb2 (blk (cCall zCall) 26)) hl (by omega) (by omega) fun x hx0 hx1 _ => ?_).weaken (by (repeat' first | exact Sub.refl _ | exact Sub.nil _ | assumption | refine Sub.both ?_ ?_ | refine Sub.cons_of (by simp only [subs, n2, hj]) ?_ | exact Sub.left _ _ | refine Sub.app (by simp only [subs, n2, hj]) ?_ | refine Sub.cons (by simp only [subs, n2, hj]) ?_))
  have hx := hx1 (by omega)
  simp only [walk, lists, acts, mem, plain, seqs, maps, cells, resL, resV, intBin, ↓reduceIte, Nat.reduceAdd, Nat.reduceSub, Nat.reduceMul, Nat.reduceLeDiff, Nat.reduceEqDiff, Int.reduceToNat, Int.reduceEq, Int.reduceLT, Int.reduceLE, Int.reduceNeg, Int.reduceAdd, Int.reduceSub, Int.reduceMul, Nat.reducePow, Int.reduceNegSucc, zc, hsM]
  have deal : ∀ {K : Ending → H → Prop} (p2 : Nat), p ≤ p2 → p2 ≤ p + 2 → (∀ v g ds (p' : Nat), oLs 85 cStatement 3 v ds g → Dj g ((jr, blk (rdr bv p') 120) :: (j2, blk (cCall zCall) 26) :: h) → ds.length ≤ 4 → p2 ≤ p' → p' ≤ p2 + 200 → K (.returned v) (g ++ ((jr, blk (rdr bv p') 120) :: (j2, blk (cCall zCall) 26) :: h))) →
      HCalls Try.prog 100 #[.pointer (some ⟨js, 0, none⟩)] ((jr, blk (rdr bv p2) 120) :: (j2, blk (cCall zCall) 26) :: h) K := fun p2 h1 h2 hk =>
    deal_c (hsN _) hne (hj2' _) (rb2 _) hl (by omega) hk
  refine ite_pos (fun c0 => ?_) fun c0 => ?_
  · refine vc_draw ((j2, blk (cCall zCall) 26) :: h) (by (repeat' first | exact Sub.refl _ | exact Sub.nil _ | assumption | refine Sub.both ?_ ?_ | refine Sub.cons_of (by simp only [subs, n2, hj]) ?_ | exact Sub.left _ _ | refine Sub.app (by simp only [subs, n2, hj]) ?_ | refine Sub.cons (by simp only [subs, n2, hj]) ?_)) ?_
    have sr : ∀ q, Tk.Sub ((j2, blk (cCall zCall) 26) :: h) ((jr, blk (rdr bv q) 120) :: (j2, blk (cCall zCall) 26) :: h) := fun q => by (repeat' first | exact Sub.refl _ | exact Sub.nil _ | assumption | refine Sub.both ?_ ?_ | refine Sub.cons_of (by simp only [subs, n2, hj]) ?_ | exact Sub.left _ _ | refine Sub.app (by simp only [subs, n2, hj]) ?_ | refine Sub.cons (by simp only [subs, n2, hj]) ?_)
    simp only [walk, lists, acts, mem, plain, seqs, maps, cells, resL, resV, intBin, ↓reduceIte, Nat.reduceAdd, Nat.reduceSub, Nat.reduceMul, Nat.reduceLeDiff, Nat.reduceEqDiff, Int.reduceToNat, Int.reduceEq, Int.reduceLT, Int.reduceLE, Int.reduceNeg, Int.reduceAdd, Int.reduceSub, Int.reduceMul, Nat.reducePow, Int.reduceNegSucc, zc, hsN]
    refine pick_c (p := p + 1) (hj2' _) (rb2 (blk (cCall zCall) 26)) hl (by omega) (by omega) fun y _ _ _ => ?_
    simp only [walk, lists, acts, mem, plain, seqs, maps, cells, resL, resV, intBin, ↓reduceIte, Nat.reduceAdd, Nat.reduceSub, Nat.reduceMul, Nat.reduceLeDiff, Nat.reduceEqDiff, Int.reduceToNat, Int.reduceEq, Int.reduceLT, Int.reduceLE, Int.reduceNeg, Int.reduceAdd, Int.reduceSub, Int.reduceMul, Nat.reducePow, Int.reduceNegSucc]
    refine ⟨sr _, pick_c (p := p + 2) (hj2' _) (rb2 (blk (cCall zCall) 26)) hl (by omega) (by omega) fun z _ _ _ => ?_⟩
    simp only [walk, lists, acts, mem, plain, seqs, maps, cells, resL, resV, intBin, ↓reduceIte, Nat.reduceAdd, Nat.reduceSub, Nat.reduceMul, Nat.reduceLeDiff, Nat.reduceEqDiff, Int.reduceToNat, Int.reduceEq, Int.reduceLT, Int.reduceLE, Int.reduceNeg, Int.reduceAdd, Int.reduceSub, Int.reduceMul, Nat.reducePow, Int.reduceNegSucc, wCall, zc]
    refine ⟨sr _, sr _, ?_⟩
    simp only [walk, lists, acts, mem, plain, seqs, maps, cells, resL, resV, intBin, ↓reduceIte, Nat.reduceAdd, Nat.reduceSub, Nat.reduceMul, Nat.reduceLeDiff, Nat.reduceEqDiff, Int.reduceToNat, Int.reduceEq, Int.reduceLT, Int.reduceLE, Int.reduceNeg, Int.reduceAdd, Int.reduceSub, Int.reduceMul, Nat.reducePow, Int.reduceNegSucc, wCall, zc, n2.1, n2.2.1]
    exact ⟨(jr, blk (rdr bv (p + 3)) 120) :: h, by (repeat' first | exact Sub.refl _ | exact Sub.nil _ | assumption | refine Sub.both ?_ ?_ | refine Sub.cons_of (by simp only [subs, n2, hj]) ?_ | exact Sub.left _ _ | refine Sub.app (by simp only [subs, n2, hj]) ?_ | refine Sub.cons (by simp only [subs, n2, hj]) ?_), k { zCall with kind := 2, slot := y, to := z } (p + 3) (by show 0 ≤ _; omega) (by omega) (by omega)⟩
  · refine ite_pos (fun c1 => ?_) fun c1 => ?_
    · refine vc_draw ((j2, blk (cCall zCall) 26) :: h) (by (repeat' first | exact Sub.refl _ | exact Sub.nil _ | assumption | refine Sub.both ?_ ?_ | refine Sub.cons_of (by simp only [subs, n2, hj]) ?_ | exact Sub.left _ _ | refine Sub.app (by simp only [subs, n2, hj]) ?_ | refine Sub.cons (by simp only [subs, n2, hj]) ?_)) ?_
      have sr : ∀ q, Tk.Sub ((j2, blk (cCall zCall) 26) :: h) ((jr, blk (rdr bv q) 120) :: (j2, blk (cCall zCall) 26) :: h) := fun q => by (repeat' first | exact Sub.refl _ | exact Sub.nil _ | assumption | refine Sub.both ?_ ?_ | refine Sub.cons_of (by simp only [subs, n2, hj]) ?_ | exact Sub.left _ _ | refine Sub.app (by simp only [subs, n2, hj]) ?_ | refine Sub.cons (by simp only [subs, n2, hj]) ?_)
      simp only [walk, lists, acts, mem, plain, seqs, maps, cells, resL, resV, intBin, ↓reduceIte, Nat.reduceAdd, Nat.reduceSub, Nat.reduceMul, Nat.reduceLeDiff, Nat.reduceEqDiff, Int.reduceToNat, Int.reduceEq, Int.reduceLT, Int.reduceLE, Int.reduceNeg, Int.reduceAdd, Int.reduceSub, Int.reduceMul, Nat.reducePow, Int.reduceNegSucc, zc, hsN]
      refine pick_c (p := p + 1) (hj2' _) (rb2 (blk (cCall zCall) 26)) hl (by omega) (by omega) fun y _ _ _ => ?_
      simp only [walk, lists, acts, mem, plain, seqs, maps, cells, resL, resV, intBin, ↓reduceIte, Nat.reduceAdd, Nat.reduceSub, Nat.reduceMul, Nat.reduceLeDiff, Nat.reduceEqDiff, Int.reduceToNat, Int.reduceEq, Int.reduceLT, Int.reduceLE, Int.reduceNeg, Int.reduceAdd, Int.reduceSub, Int.reduceMul, Nat.reducePow, Int.reduceNegSucc]
      refine ⟨sr _, pick_c (p := p + 2) (hj2' _) (rb2 (blk (cCall zCall) 26)) hl (by omega) (by omega) fun z _ _ _ => ?_⟩
      simp only [walk, lists, acts, mem, plain, seqs, maps, cells, resL, resV, intBin, ↓reduceIte, Nat.reduceAdd, Nat.reduceSub, Nat.reduceMul, Nat.reduceLeDiff, Nat.reduceEqDiff, Int.reduceToNat, Int.reduceEq, Int.reduceLT, Int.reduceLE, Int.reduceNeg, Int.reduceAdd, Int.reduceSub, Int.reduceMul, Nat.reducePow, Int.reduceNegSucc, wCall, zc]
      refine ⟨sr _, sr _, ?_⟩
      simp only [walk, lists, acts, mem, plain, seqs, maps, cells, resL, resV, intBin, ↓reduceIte, Nat.reduceAdd, Nat.reduceSub, Nat.reduceMul, Nat.reduceLeDiff, Nat.reduceEqDiff, Int.reduceToNat, Int.reduceEq, Int.reduceLT, Int.reduceLE, Int.reduceNeg, Int.reduceAdd, Int.reduceSub, Int.reduceMul, Nat.reducePow, Int.reduceNegSucc, wCall, zc, n2.1, n2.2.1]
      exact ⟨(jr, blk (rdr bv (p + 3)) 120) :: h, by (repeat' first | exact Sub.refl _ | exact Sub.nil _ | assumption | refine Sub.both ?_ ?_ | refine Sub.cons_of (by simp only [subs, n2, hj]) ?_ | exact Sub.left _ _ | refine Sub.app (by simp only [subs, n2, hj]) ?_ | refine Sub.cons (by simp only [subs, n2, hj]) ?_), k { zCall with kind := 2, slot := y, to := z } (p + 3) (by show 0 ≤ _; omega) (by omega) (by omega)⟩
    · refine ite_pos (fun c2 => ?_) fun c2 => ?_
      · refine pick_c (p := p + 1) (hj2' _) (rb2 (blk (cCall zCall) 26)) hl (by omega) (by omega) fun y _ _ _ => ?_
        simp only [walk, lists, acts, mem, plain, seqs, maps, cells, resL, resV, intBin, ↓reduceIte, Nat.reduceAdd, Nat.reduceSub, Nat.reduceMul, Nat.reduceLeDiff, Nat.reduceEqDiff, Int.reduceToNat, Int.reduceEq, Int.reduceLT, Int.reduceLE, Int.reduceNeg, Int.reduceAdd, Int.reduceSub, Int.reduceMul, Nat.reducePow, Int.reduceNegSucc, str]
        refine ite_pos (fun c3 => ?_) fun c3 => ?_
        · simp only [walk, lists, acts, mem, plain, seqs, maps, cells, resL, resV, intBin, ↓reduceIte, Nat.reduceAdd, Nat.reduceSub, Nat.reduceMul, Nat.reduceLeDiff, Nat.reduceEqDiff, Int.reduceToNat, Int.reduceEq, Int.reduceLT, Int.reduceLE, Int.reduceNeg, Int.reduceAdd, Int.reduceSub, Int.reduceMul, Nat.reducePow, Int.reduceNegSucc, wCall, n2.1, n2.2.1]
          exact ⟨(jr, blk (rdr bv (p + 2)) 120) :: h, by (repeat' first | exact Sub.refl _ | exact Sub.nil _ | assumption | refine Sub.both ?_ ?_ | refine Sub.cons_of (by simp only [subs, n2, hj]) ?_ | exact Sub.left _ _ | refine Sub.app (by simp only [subs, n2, hj]) ?_ | refine Sub.cons (by simp only [subs, n2, hj]) ?_), k { zCall with kind := 1, text := [119, 104, 97, 116] } (p + 2) (by show 4 ≤ _; omega) (by omega) (by omega)⟩
        · refine deal (p + 2) (by omega) (by omega) fun v g ds p' o dj hds h1 h2 => ?_
          have d1 := dj
          have d2 := dj.symm
          simp only [subs] at d1 d2
          simp only [walk, lists, acts, mem, plain, seqs, maps, cells, resL, resV, intBin, ↓reduceIte, Nat.reduceAdd, Nat.reduceSub, Nat.reduceMul, Nat.reduceLeDiff, Nat.reduceEqDiff, Int.reduceToNat, Int.reduceEq, Int.reduceLT, Int.reduceLE, Int.reduceNeg, Int.reduceAdd, Int.reduceSub, Int.reduceMul, Nat.reducePow, Int.reduceNegSucc]
          refine dealWrite_c (o.rd.sub (Sub.left _ _)) (by omega) fun t ht => ?_
          have htl := dealT_len ht
          simp only [walk, lists, acts, mem, plain, seqs, maps, cells, resL, resV, intBin, ↓reduceIte, Nat.reduceAdd, Nat.reduceSub, Nat.reduceMul, Nat.reduceLeDiff, Nat.reduceEqDiff, Int.reduceToNat, Int.reduceEq, Int.reduceLT, Int.reduceLE, Int.reduceNeg, Int.reduceAdd, Int.reduceSub, Int.reduceMul, Nat.reducePow, Int.reduceNegSucc, wCall, apps, d1, n2.1, n2.2.1]
          exact ⟨(jr, blk (rdr bv p') 120) :: h, by (repeat' first | exact Sub.refl _ | exact Sub.nil _ | assumption | refine Sub.both ?_ ?_ | refine Sub.cons_of (by simp only [subs, n2, hj, d1, d2]) ?_ | exact Sub.left _ _ | refine Sub.app (by simp only [subs, n2, hj, d1, d2]) ?_ | refine Sub.cons (by simp only [subs, n2, hj, d1, d2]) ?_), k { zCall with kind := 1, text := t } p' (by show t.length ≤ _; omega) (by omega) (by omega)⟩
      · refine deal (p + 1) (by omega) (by omega) fun v g ds p' o dj hds h1 h2 => ?_
        have d1 := dj
        have d2 := dj.symm
        simp only [subs] at d1 d2
        simp only [walk, lists, acts, mem, plain, seqs, maps, cells, resL, resV, intBin, ↓reduceIte, Nat.reduceAdd, Nat.reduceSub, Nat.reduceMul, Nat.reduceLeDiff, Nat.reduceEqDiff, Int.reduceToNat, Int.reduceEq, Int.reduceLT, Int.reduceLE, Int.reduceNeg, Int.reduceAdd, Int.reduceSub, Int.reduceMul, Nat.reducePow, Int.reduceNegSucc]
        refine dealWrite_c (o.rd.sub (Sub.left _ _)) (by omega) fun t ht => ?_
        have htl := dealT_len ht
        simp only [walk, lists, acts, mem, plain, seqs, maps, cells, resL, resV, intBin, ↓reduceIte, Nat.reduceAdd, Nat.reduceSub, Nat.reduceMul, Nat.reduceLeDiff, Nat.reduceEqDiff, Int.reduceToNat, Int.reduceEq, Int.reduceLT, Int.reduceLE, Int.reduceNeg, Int.reduceAdd, Int.reduceSub, Int.reduceMul, Nat.reducePow, Int.reduceNegSucc, wCall, apps, d1, n2.1, n2.2.1]
        exact ⟨(jr, blk (rdr bv p') 120) :: h, by (repeat' first | exact Sub.refl _ | exact Sub.nil _ | assumption | refine Sub.both ?_ ?_ | refine Sub.cons_of (by simp only [subs, n2, hj, d1, d2]) ?_ | exact Sub.left _ _ | refine Sub.app (by simp only [subs, n2, hj, d1, d2]) ?_ | refine Sub.cons (by simp only [subs, n2, hj, d1, d2]) ?_), k { zCall with kind := 1, text := t } p' (by show t.length ≤ _; omega) (by omega) (by omega)⟩
end Go.Proofs.Ytllhdnfcneejaaa
end

/- What is drawn of slots, pairs, calls. -/
section
set_option linter.unusedVariables false
set_option linter.unusedSimpArgs false
set_option maxRecDepth 20000
attribute [local irreducible] Go.Tk.vc Go.Tk.vops Go.Tk.vdr Go.Tk.vop Go.Tk.vfl Go.Tk.HCalls
namespace Go.Proofs.Ytllhdnfcneejaaa
open Go Go.Tk

theorem slots_c {h : H} {jr p : Nat} {bv : Value} {l : List UInt8} (hj : hget h jr = none) (rb : rIn h eB 1 bv l) (hl : l.length ≤ 1048576) (hp : p ≤ 274877906944) {R : Ending → H → Prop}
    (k : ∀ v g xs (p' : Nat), oLs 3 eI 1 v xs g → Dj g ((jr, blk (rdr bv p') 120) :: h) → xs.length ≤ 9 → p ≤ p' → p' ≤ p + 20 → R (.returned v) (g ++ ((jr, blk (rdr bv p') 120) :: h))) :
    HCalls Try.prog 81 #[.pointer (some ⟨jr, 0, none⟩)] ((jr, blk (rdr bv p) 120) :: h) R := by
  refine HCalls_ir (args := [.pointer (some ⟨jr, 0, none⟩)]) Try.func81 ir81 ?_
  simp only [walk, lists, acts, mem, plain, seqs, maps, cells, resL, resV, intBin, ↓reduceIte, Nat.reduceAdd, Nat.reduceSub, Nat.reduceMul, Nat.reduceLeDiff, Nat.reduceEqDiff, Int.reduceToNat, Int.reduceEq, Int.reduceLT, Int.reduceLE, Int.reduceNeg, Int.reduceAdd, Int.reduceSub, Int.reduceMul, Nat.reducePow, Int.reduceNegSucc]
  refine newB_intro (o := blk (fl eI []) 3) fun j1 hj1 => ?_
  have o1 : oLs 3 eI 1 (.slice (some ⟨j1, 0, none⟩) 0 0) [] [(j1, blk (fl eI []) 3)] := oLs_new eI_len
  simp only [walk, lists, acts, mem, plain, seqs, maps, cells, resL, resV, intBin, ↓reduceIte, Nat.reduceAdd, Nat.reduceSub, Nat.reduceMul, Nat.reduceLeDiff, Nat.reduceEqDiff, Int.reduceToNat, Int.reduceEq, Int.reduceLT, Int.reduceLE, Int.reduceNeg, Int.reduceAdd, Int.reduceSub, Int.reduceMul, Nat.reducePow, Int.reduceNegSucc]
  refine vc_loop [3, 4] (fun n vs h' => ∃ (i : Nat) (v' : Value) (xs : List Int) (g : H), vs = [v', .int .i64 i] ∧ h' = g ++ ((jr, blk (rdr bv (p + i)) 120) :: h) ∧ (∀ q, Dj g ((jr, blk (rdr bv q) 120) :: h)) ∧ oLs 3 eI 1 v' xs g ∧ xs.length ≤ i ∧ i ≤ 8 ∧ n = 8 - i) 8 rfl
    ⟨0, _, [], _, rfl, rfl, fun q => Dj.one (by have := fresh hj1; simp only [subs, this]), o1, by simp, by omega, rfl⟩ ?_
  rintro n f h' ⟨i, v', xs, g, hv, rfl, dj, o, hlen, hi, rfl⟩
  simp only [List.map_cons, List.map_nil, List.cons.injEq, and_true] at hv
  have d1 := dj 0
  have d2 := d1.symm
  simp only [subs] at d1 d2
  have rg : rIn (g ++ h) eB 1 bv l := rb.sub (Sub.right d1.2)
  have hg : hget (g ++ h) jr = none := by simp only [subs, d1, hj]
  simp only [walk, lists, acts, mem, plain, seqs, maps, cells, resL, resV, intBin, ↓reduceIte, Nat.reduceAdd, Nat.reduceSub, Nat.reduceMul, Nat.reduceLeDiff, Nat.reduceEqDiff, Int.reduceToNat, Int.reduceEq, Int.reduceLT, Int.reduceLE, Int.reduceNeg, Int.reduceAdd, Int.reduceSub, Int.reduceMul, Nat.reducePow, Int.reduceNegSucc, wr, hv.1, hv.2]
  refine ite_lt (fun c => ?_) fun c => ?_
  · refine (pick_c (p := p + i) hg rg hl (by omega) (by omega) fun x _ _ _ => ?_).weaken (by (repeat' first | exact Sub.refl _ | exact Sub.nil _ | assumption | refine Sub.both ?_ ?_ | refine Sub.cons_of (by simp only [subs, d1, d2, hj]) ?_ | exact Sub.left _ _ | refine Sub.app (by simp only [subs, d1, d2, hj]) ?_ | refine Sub.cons (by simp only [subs, d1, d2, hj]) ?_))
    simp only [walk, lists, acts, mem, plain, seqs, maps, cells, resL, resV, intBin, ↓reduceIte, Nat.reduceAdd, Nat.reduceSub, Nat.reduceMul, Nat.reduceLeDiff, Nat.reduceEqDiff, Int.reduceToNat, Int.reduceEq, Int.reduceLT, Int.reduceLE, Int.reduceNeg, Int.reduceAdd, Int.reduceSub, Int.reduceMul, Nat.reducePow, Int.reduceNegSucc]
    refine ite_pos (fun c2 => ?_) fun c2 => ?_
    · refine newB_intro (o := blk (fl eI [(i : Int)]) 3) fun j5 hj5 => ?_
      simp only [subs] at hj5
      simp only [walk, lists, acts, mem, plain, seqs, maps, cells, resL, resV, intBin, ↓reduceIte, Nat.reduceAdd, Nat.reduceSub, Nat.reduceMul, Nat.reduceLeDiff, Nat.reduceEqDiff, Int.reduceToNat, Int.reduceEq, Int.reduceLT, Int.reduceLE, Int.reduceNeg, Int.reduceAdd, Int.reduceSub, Int.reduceMul, Nat.reducePow, Int.reduceNegSucc]
      refine app_leaf (g := g) (h := (jr, blk (rdr bv (p + i + 1)) 120) :: h) (M := (j5, blk (fl eI [(i : Int)]) 3) :: (jr, blk (rdr bv (p + i + 1)) 120) :: (g ++ h)) eI_len eI_one tInts iInt (by (repeat' first | exact Sub.refl _ | exact Sub.nil _ | assumption | refine Sub.both ?_ ?_ | refine Sub.cons_of (by simp only [subs, d1, d2, hj, hj5]) ?_ | exact Sub.left _ _ | refine Sub.app (by simp only [subs, d1, d2, hj, hj5]) ?_ | refine Sub.cons (by simp only [subs, d1, d2, hj, hj5]) ?_)) (dj _) o (rI_lit [(i : Int)]) (by simp; omega) (by simp; omega) fun v2 g2 o2 d3 => ?_
      simp (disch := omega) only [walk, lists, acts, mem, plain, seqs, maps, cells, resL, resV, intBin, ↓reduceIte, Nat.reduceAdd, Nat.reduceSub, Nat.reduceMul, Nat.reduceLeDiff, Nat.reduceEqDiff, Int.reduceToNat, Int.reduceEq, Int.reduceLT, Int.reduceLE, Int.reduceNeg, Int.reduceAdd, Int.reduceSub, Int.reduceMul, Nat.reducePow, Int.reduceNegSucc, wrapI]
      have d3x := d3
      simp only [subs] at d3x
      exact ⟨8 - (i + 1), by omega, _, .refl _, i + 1, v2, _, g2, by simp, rfl, fun q => by simp only [subs, d3x], o2, by simp; omega, by omega, rfl⟩
    · simp (disch := omega) only [walk, lists, acts, mem, plain, seqs, maps, cells, resL, resV, intBin, ↓reduceIte, Nat.reduceAdd, Nat.reduceSub, Nat.reduceMul, Nat.reduceLeDiff, Nat.reduceEqDiff, Int.reduceToNat, Int.reduceEq, Int.reduceLT, Int.reduceLE, Int.reduceNeg, Int.reduceAdd, Int.reduceSub, Int.reduceMul, Nat.reducePow, Int.reduceNegSucc, wrapI]
      exact ⟨8 - (i + 1), by omega, g ++ ((jr, blk (rdr bv (p + i + 1)) 120) :: h), by (repeat' first | exact Sub.refl _ | exact Sub.nil _ | assumption | refine Sub.both ?_ ?_ | refine Sub.cons_of (by simp only [subs, d1, d2, hj]) ?_ | exact Sub.left _ _ | refine Sub.app (by simp only [subs, d1, d2, hj]) ?_ | refine Sub.cons (by simp only [subs, d1, d2, hj]) ?_), i + 1, v', xs, g, by simp, rfl, dj, o, by omega, by omega, rfl⟩
  · refine (pick_c (p := p + i) hg rg hl (by omega) (by omega) fun x _ _ _ => ?_).weaken (by (repeat' first | exact Sub.refl _ | exact Sub.nil _ | assumption | refine Sub.both ?_ ?_ | refine Sub.cons_of (by simp only [subs, d1, d2, hj]) ?_ | exact Sub.left _ _ | refine Sub.app (by simp only [subs, d1, d2, hj]) ?_ | refine Sub.cons (by simp only [subs, d1, d2, hj]) ?_))
    simp only [walk, lists, acts, mem, plain, seqs, maps, cells, resL, resV, intBin, ↓reduceIte, Nat.reduceAdd, Nat.reduceSub, Nat.reduceMul, Nat.reduceLeDiff, Nat.reduceEqDiff, Int.reduceToNat, Int.reduceEq, Int.reduceLT, Int.reduceLE, Int.reduceNeg, Int.reduceAdd, Int.reduceSub, Int.reduceMul, Nat.reducePow, Int.reduceNegSucc]
    refine ite_pos (fun c2 => ?_) fun c2 => ?_
    · refine pick_c (p := p + i + 1) hg rg hl (by omega) (by omega) fun y hy0 hy1 _ => ?_
      have hy := hy1 (by omega)
      simp (disch := omega) only [walk, lists, acts, mem, plain, seqs, maps, cells, resL, resV, intBin, ↓reduceIte, Nat.reduceAdd, Nat.reduceSub, Nat.reduceMul, Nat.reduceLeDiff, Nat.reduceEqDiff, Int.reduceToNat, Int.reduceEq, Int.reduceLT, Int.reduceLE, Int.reduceNeg, Int.reduceAdd, Int.reduceSub, Int.reduceMul, Nat.reducePow, Int.reduceNegSucc, wrapI]
      refine newB_intro (o := blk (fl eI [y - 1]) 3) fun j5 hj5 => ?_
      simp only [subs] at hj5
      simp only [walk, lists, acts, mem, plain, seqs, maps, cells, resL, resV, intBin, ↓reduceIte, Nat.reduceAdd, Nat.reduceSub, Nat.reduceMul, Nat.reduceLeDiff, Nat.reduceEqDiff, Int.reduceToNat, Int.reduceEq, Int.reduceLT, Int.reduceLE, Int.reduceNeg, Int.reduceAdd, Int.reduceSub, Int.reduceMul, Nat.reducePow, Int.reduceNegSucc]
      refine app_leaf (g := g) (h := (jr, blk (rdr bv (p + i + 2)) 120) :: h) (M := (j5, blk (fl eI [y - 1]) 3) :: (jr, blk (rdr bv (p + i + 2)) 120) :: (g ++ h)) eI_len eI_one tInts iInt (by (repeat' first | exact Sub.refl _ | exact Sub.nil _ | assumption | refine Sub.both ?_ ?_ | refine Sub.cons_of (by simp only [subs, d1, d2, hj, hj5]) ?_ | exact Sub.left _ _ | refine Sub.app (by simp only [subs, d1, d2, hj, hj5]) ?_ | refine Sub.cons (by simp only [subs, d1, d2, hj, hj5]) ?_)) (dj _) o (rI_lit [y - 1]) (by simp; omega) (by simp; omega) fun v2 g2 o2 d3 => ?_
      simp only [walk, lists, acts, mem, plain, seqs, maps, cells, resL, resV, intBin, ↓reduceIte, Nat.reduceAdd, Nat.reduceSub, Nat.reduceMul, Nat.reduceLeDiff, Nat.reduceEqDiff, Int.reduceToNat, Int.reduceEq, Int.reduceLT, Int.reduceLE, Int.reduceNeg, Int.reduceAdd, Int.reduceSub, Int.reduceMul, Nat.reducePow, Int.reduceNegSucc]
      exact .of (k v2 g2 _ (p + i + 2) o2 d3 (by simp; omega) (by omega) (by omega))
    · exact ⟨g ++ ((jr, blk (rdr bv (p + i + 1)) 120) :: h), by (repeat' first | exact Sub.refl _ | exact Sub.nil _ | assumption | refine Sub.both ?_ ?_ | refine Sub.cons_of (by simp only [subs, d1, d2, hj]) ?_ | exact Sub.left _ _ | refine Sub.app (by simp only [subs, d1, d2, hj]) ?_ | refine Sub.cons (by simp only [subs, d1, d2, hj]) ?_), k v' g xs (p + i + 1) o (dj _) (by omega) (by omega) (by omega)⟩
end Go.Proofs.Ytllhdnfcneejaaa
end

/- What is drawn of pairs. -/
section
set_option linter.unusedVariables false
set_option linter.unusedSimpArgs false
set_option maxRecDepth 20000
attribute [local irreducible] Go.Tk.vc Go.Tk.vops Go.Tk.vdr Go.Tk.vop Go.Tk.vfl Go.Tk.HCalls
namespace Go.Proofs.Ytllhdnfcneejaaa
open Go Go.Tk

theorem l1Set_c {h : H} {v : Value} {l : List (Int × Int)} {key val : Int} (r : rPairs h v l) (hl : l.length ≤ 1000000) {R : Ending → H → Prop}
    (k : ∀ v' g' m, oLs 69 eP 2 v' m g' → Dj g' h → m.length ≤ l.length + 1 → R (.returned v') (g' ++ h)) : HCalls Try.prog 94 #[v, .int .i64 key, .int .i64 val] h R := by
  refine HCalls_ir (args := [v, .int .i64 key, .int .i64 val]) Try.func94 ir94 ?_
  have zp := zPair_eq
  simp only [walk, lists, acts, mem, plain, seqs, maps, cells, resL, resV, intBin, ↓reduceIte, Nat.reduceAdd, Nat.reduceSub, Nat.reduceMul, Nat.reduceLeDiff, Nat.reduceEqDiff, Int.reduceToNat, Int.reduceEq, Int.reduceLT, Int.reduceLE, Int.reduceNeg, Int.reduceAdd, Int.reduceSub, Int.reduceMul, Nat.reducePow, Int.reduceNegSucc, r.len, zp]
  refine newB_intro (o := blk (fl eP []) 69) fun j1 hj1 => ?_
  have o1 : oLs 69 eP 2 (.slice (some ⟨j1, 0, none⟩) 0 0) [] [(j1, blk (fl eP []) 69)] := oLs_new eP_len
  simp only [walk, lists, acts, mem, plain, seqs, maps, cells, resL, resV, intBin, ↓reduceIte, Nat.reduceAdd, Nat.reduceSub, Nat.reduceMul, Nat.reduceLeDiff, Nat.reduceEqDiff, Int.reduceToNat, Int.reduceEq, Int.reduceLT, Int.reduceLE, Int.reduceNeg, Int.reduceAdd, Int.reduceSub, Int.reduceMul, Nat.reducePow, Int.reduceNegSucc, zp]
  refine vc_loop [7, 8, 9] (fun n vs h' => ∃ (i : Nat) (v' : Value) (m : List (Int × Int)) (g : H) (d : Bool), vs = [v', .bool d, .int .i64 i] ∧ h' = g ++ h ∧ Dj g h ∧ oLs 69 eP 2 v' m g ∧ m.length ≤ i + (if d then 1 else 0) ∧ i ≤ l.length ∧ n = l.length - i) l.length rfl
    ⟨0, _, [], _, false, rfl, rfl, Dj.one hj1, o1, by simp, by omega, rfl⟩ ?_
  rintro n f h' ⟨i, v', m, g, d, hv, rfl, dj, o, hlen, hi, rfl⟩
  simp only [List.map_cons, List.map_nil, List.cons.injEq, and_true] at hv
  have dm : m.length ≤ i + 1 := by cases d <;> simp at hlen <;> omega
  -- one more pair
  have more : ∀ {K : Value → H → Prop} {X : List PanicEntry → H → Prop} (a : Int × Int) (v1 : Value) (m1 : List (Int × Int)) (g1 : H) (j : Nat), Dj g1 h → oLs 69 eP 2 v1 m1 g1 → m1.length ≤ 2000000 → hget (g1 ++ h) j = none → (∀ v2 g2, oLs 69 eP 2 v2 (m1 ++ [a]) g2 → Dj g2 h → K v2 (g2 ++ h)) →
      appK Try.prog 24 24 0 v1 (.slice (some ⟨j, 0, none⟩) 1 1) ((j, blk (eP a) 69) :: (g1 ++ h)) K X := fun a v1 m1 g1 j dj1 o1 hm hj hk =>
    app_leaf (g := g1) (h := h) eP_len eP_one tPairs iPair (Sub.cons hj (Sub.refl _)) dj1 o1 (rL_lit (e := 69) eP_len [a]) (by simp; omega) (by simp; omega) hk
  simp only [walk, lists, acts, mem, plain, seqs, maps, cells, resL, resV, intBin, ↓reduceIte, Nat.reduceAdd, Nat.reduceSub, Nat.reduceMul, Nat.reduceLeDiff, Nat.reduceEqDiff, Int.reduceToNat, Int.reduceEq, Int.reduceLT, Int.reduceLE, Int.reduceNeg, Int.reduceAdd, Int.reduceSub, Int.reduceMul, Nat.reducePow, Int.reduceNegSucc, wr, hv.1, hv.2.1, hv.2.2, r.len, zp]
  refine ite_lt (fun c => ?_) fun c => ?_
  · have hi2 : i < l.length := by omega
    cases d
    · simp only [walk, lists, acts, mem, plain, seqs, maps, cells, resL, resV, intBin, ↓reduceIte, Nat.reduceAdd, Nat.reduceSub, Nat.reduceMul, Nat.reduceLeDiff, Nat.reduceEqDiff, Int.reduceToNat, Int.reduceEq, Int.reduceLT, Int.reduceLE, Int.reduceNeg, Int.reduceAdd, Int.reduceSub, Int.reduceMul, Nat.reducePow, Int.reduceNegSucc, wr, hv.1, hv.2.1, hv.2.2, r.len, zp]
      refine idx_leaf (i := i) eP_len (r.sub (Sub.right dj)) rfl hi2 fun b1 o1' e1 => ?_
      have c1 : hcel (g ++ h) b1 o1' = some (.int .i64 l[i].1) := hread_c e1 0 rfl
      simp only [walk, lists, acts, mem, plain, seqs, maps, cells, resL, resV, intBin, ↓reduceIte, Nat.reduceAdd, Nat.reduceSub, Nat.reduceMul, Nat.reduceLeDiff, Nat.reduceEqDiff, Int.reduceToNat, Int.reduceEq, Int.reduceLT, Int.reduceLE, Int.reduceNeg, Int.reduceAdd, Int.reduceSub, Int.reduceMul, Nat.reducePow, Int.reduceNegSucc, c1, wPair, zp]
      refine ite_ge (fun c3 => ?_) fun c3 => ?_
      · refine newB_intro (o := blk (eP (key, val)) 69) fun j6 hj6 => ?_
        simp only [walk, lists, acts, mem, plain, seqs, maps, cells, resL, resV, intBin, ↓reduceIte, Nat.reduceAdd, Nat.reduceSub, Nat.reduceMul, Nat.reduceLeDiff, Nat.reduceEqDiff, Int.reduceToNat, Int.reduceEq, Int.reduceLT, Int.reduceLE, Int.reduceNeg, Int.reduceAdd, Int.reduceSub, Int.reduceMul, Nat.reducePow, Int.reduceNegSucc, wPair, zp]
        refine more (key, val) v' m g j6 dj o (by omega) hj6 fun v4 g4 o4 d4 => ?_
        simp only [walk, lists, acts, mem, plain, seqs, maps, cells, resL, resV, intBin, ↓reduceIte, Nat.reduceAdd, Nat.reduceSub, Nat.reduceMul, Nat.reduceLeDiff, Nat.reduceEqDiff, Int.reduceToNat, Int.reduceEq, Int.reduceLT, Int.reduceLE, Int.reduceNeg, Int.reduceAdd, Int.reduceSub, Int.reduceMul, Nat.reducePow, Int.reduceNegSucc, zp]
        refine idx_leaf (i := i) eP_len (r.sub (Sub.right d4)) rfl hi2 fun b2 o2 e2 => ?_
        have c2 : hcel (g4 ++ h) b2 o2 = some (.int .i64 l[i].1) := hread_c e2 0 rfl
        simp only [walk, lists, acts, mem, plain, seqs, maps, cells, resL, resV, intBin, ↓reduceIte, Nat.reduceAdd, Nat.reduceSub, Nat.reduceMul, Nat.reduceLeDiff, Nat.reduceEqDiff, Int.reduceToNat, Int.reduceEq, Int.reduceLT, Int.reduceLE, Int.reduceNeg, Int.reduceAdd, Int.reduceSub, Int.reduceMul, Nat.reducePow, Int.reduceNegSucc, c2, wPair, zp]
        refine ite_pos (fun c5 => ?_) fun c5 => ?_
        · refine idx_leaf (i := i) eP_len (r.sub (Sub.right d4)) rfl hi2 fun b3 o3 e3 => ?_
          simp only [walk, lists, acts, mem, plain, seqs, maps, cells, resL, resV, intBin, ↓reduceIte, Nat.reduceAdd, Nat.reduceSub, Nat.reduceMul, Nat.reduceLeDiff, Nat.reduceEqDiff, Int.reduceToNat, Int.reduceEq, Int.reduceLT, Int.reduceLE, Int.reduceNeg, Int.reduceAdd, Int.reduceSub, Int.reduceMul, Nat.reducePow, Int.reduceNegSucc, e3, wPair, zp]
          refine newB_intro (o := blk (eP l[i]) 69) fun j7 hj7 => ?_
          simp only [walk, lists, acts, mem, plain, seqs, maps, cells, resL, resV, intBin, ↓reduceIte, Nat.reduceAdd, Nat.reduceSub, Nat.reduceMul, Nat.reduceLeDiff, Nat.reduceEqDiff, Int.reduceToNat, Int.reduceEq, Int.reduceLT, Int.reduceLE, Int.reduceNeg, Int.reduceAdd, Int.reduceSub, Int.reduceMul, Nat.reducePow, Int.reduceNegSucc, wPair, zp]
          refine more l[i] v4 (m ++ [(key, val)]) g4 j7 d4 o4 (by simp only [List.length_append, List.length_cons, List.length_nil]; omega) hj7 fun v8 g8 o8 d8 => ?_
          simp (disch := omega) only [walk, lists, acts, mem, plain, seqs, maps, cells, resL, resV, intBin, ↓reduceIte, Nat.reduceAdd, Nat.reduceSub, Nat.reduceMul, Nat.reduceLeDiff, Nat.reduceEqDiff, Int.reduceToNat, Int.reduceEq, Int.reduceLT, Int.reduceLE, Int.reduceNeg, Int.reduceAdd, Int.reduceSub, Int.reduceMul, Nat.reducePow, Int.reduceNegSucc, wrapI]
          exact ⟨l.length - (i + 1), by omega, _, .refl _, i + 1, v8, _, g8, true, by simp, rfl, d8, o8, by skip; simp at hlen ⊢; omega, by omega, rfl⟩
        · simp (disch := omega) only [walk, lists, acts, mem, plain, seqs, maps, cells, resL, resV, intBin, ↓reduceIte, Nat.reduceAdd, Nat.reduceSub, Nat.reduceMul, Nat.reduceLeDiff, Nat.reduceEqDiff, Int.reduceToNat, Int.reduceEq, Int.reduceLT, Int.reduceLE, Int.reduceNeg, Int.reduceAdd, Int.reduceSub, Int.reduceMul, Nat.reducePow, Int.reduceNegSucc, wrapI]
          exact ⟨l.length - (i + 1), by omega, _, .refl _, i + 1, v4, _, g4, true, by simp, rfl, d4, o4, by skip; simp at hlen ⊢; omega, by omega, rfl⟩
      · refine idx_leaf (i := i) eP_len (r.sub (Sub.right dj)) rfl hi2 fun b2 o2 e2 => ?_
        have c2 : hcel (g ++ h) b2 o2 = some (.int .i64 l[i].1) := hread_c e2 0 rfl
        simp only [walk, lists, acts, mem, plain, seqs, maps, cells, resL, resV, intBin, ↓reduceIte, Nat.reduceAdd, Nat.reduceSub, Nat.reduceMul, Nat.reduceLeDiff, Nat.reduceEqDiff, Int.reduceToNat, Int.reduceEq, Int.reduceLT, Int.reduceLE, Int.reduceNeg, Int.reduceAdd, Int.reduceSub, Int.reduceMul, Nat.reducePow, Int.reduceNegSucc, c2, wPair, zp]
        refine ite_pos (fun c5 => ?_) fun c5 => ?_
        · refine idx_leaf (i := i) eP_len (r.sub (Sub.right dj)) rfl hi2 fun b3 o3 e3 => ?_
          simp only [walk, lists, acts, mem, plain, seqs, maps, cells, resL, resV, intBin, ↓reduceIte, Nat.reduceAdd, Nat.reduceSub, Nat.reduceMul, Nat.reduceLeDiff, Nat.reduceEqDiff, Int.reduceToNat, Int.reduceEq, Int.reduceLT, Int.reduceLE, Int.reduceNeg, Int.reduceAdd, Int.reduceSub, Int.reduceMul, Nat.reducePow, Int.reduceNegSucc, e3, wPair, zp]
          refine newB_intro (o := blk (eP l[i]) 69) fun j7 hj7 => ?_
          simp only [walk, lists, acts, mem, plain, seqs, maps, cells, resL, resV, intBin, ↓reduceIte, Nat.reduceAdd, Nat.reduceSub, Nat.reduceMul, Nat.reduceLeDiff, Nat.reduceEqDiff, Int.reduceToNat, Int.reduceEq, Int.reduceLT, Int.reduceLE, Int.reduceNeg, Int.reduceAdd, Int.reduceSub, Int.reduceMul, Nat.reducePow, Int.reduceNegSucc, wPair, zp]
          refine more l[i] v' m g j7 dj o (by skip; omega) hj7 fun v8 g8 o8 d8 => ?_
          simp (disch := omega) only [walk, lists, acts, mem, plain, seqs, maps, cells, resL, resV, intBin, ↓reduceIte, Nat.reduceAdd, Nat.reduceSub, Nat.reduceMul, Nat.reduceLeDiff, Nat.reduceEqDiff, Int.reduceToNat, Int.reduceEq, Int.reduceLT, Int.reduceLE, Int.reduceNeg, Int.reduceAdd, Int.reduceSub, Int.reduceMul, Nat.reducePow, Int.reduceNegSucc, wrapI]
          exact ⟨l.length - (i + 1), by omega, _, .refl _, i + 1, v8, _, g8, false, by simp, rfl, d8, o8, by skip; simp at hlen ⊢; omega, by omega, rfl⟩
        · simp (disch := omega) only [walk, lists, acts, mem, plain, seqs, maps, cells, resL, resV, intBin, ↓reduceIte, Nat.reduceAdd, Nat.reduceSub, Nat.reduceMul, Nat.reduceLeDiff, Nat.reduceEqDiff, Int.reduceToNat, Int.reduceEq, Int.reduceLT, Int.reduceLE, Int.reduceNeg, Int.reduceAdd, Int.reduceSub, Int.reduceMul, Nat.reducePow, Int.reduceNegSucc, wrapI]
          exact ⟨l.length - (i + 1), by omega, _, .refl _, i + 1, v', _, g, false, by simp, rfl, dj, o, by skip; simp at hlen ⊢; omega, by omega, rfl⟩
    · simp only [walk, lists, acts, mem, plain, seqs, maps, cells, resL, resV, intBin, ↓reduceIte, Nat.reduceAdd, Nat.reduceSub, Nat.reduceMul, Nat.reduceLeDiff, Nat.reduceEqDiff, Int.reduceToNat, Int.reduceEq, Int.reduceLT, Int.reduceLE, Int.reduceNeg, Int.reduceAdd, Int.reduceSub, Int.reduceMul, Nat.reducePow, Int.reduceNegSucc, wr, hv.1, hv.2.1, hv.2.2, r.len, zp]
      refine idx_leaf (i := i) eP_len (r.sub (Sub.right dj)) rfl hi2 fun b2 o2 e2 => ?_
      have c2 : hcel (g ++ h) b2 o2 = some (.int .i64 l[i].1) := hread_c e2 0 rfl
      simp only [walk, lists, acts, mem, plain, seqs, maps, cells, resL, resV, intBin, ↓reduceIte, Nat.reduceAdd, Nat.reduceSub, Nat.reduceMul, Nat.reduceLeDiff, Nat.reduceEqDiff, Int.reduceToNat, Int.reduceEq, Int.reduceLT, Int.reduceLE, Int.reduceNeg, Int.reduceAdd, Int.reduceSub, Int.reduceMul, Nat.reducePow, Int.reduceNegSucc, c2, wPair, zp]
      refine ite_pos (fun c5 => ?_) fun c5 => ?_
      · refine idx_leaf (i := i) eP_len (r.sub (Sub.right dj)) rfl hi2 fun b3 o3 e3 => ?_
        simp only [walk, lists, acts, mem, plain, seqs, maps, cells, resL, resV, intBin, ↓reduceIte, Nat.reduceAdd, Nat.reduceSub, Nat.reduceMul, Nat.reduceLeDiff, Nat.reduceEqDiff, Int.reduceToNat, Int.reduceEq, Int.reduceLT, Int.reduceLE, Int.reduceNeg, Int.reduceAdd, Int.reduceSub, Int.reduceMul, Nat.reducePow, Int.reduceNegSucc, e3, wPair, zp]
        refine newB_intro (o := blk (eP l[i]) 69) fun j7 hj7 => ?_
        simp only [walk, lists, acts, mem, plain, seqs, maps, cells, resL, resV, intBin, ↓reduceIte, Nat.reduceAdd, Nat.reduceSub, Nat.reduceMul, Nat.reduceLeDiff, Nat.reduceEqDiff, Int.reduceToNat, Int.reduceEq, Int.reduceLT, Int.reduceLE, Int.reduceNeg, Int.reduceAdd, Int.reduceSub, Int.reduceMul, Nat.reducePow, Int.reduceNegSucc, wPair, zp]
        refine more l[i] v' m g j7 dj o (by skip; omega) hj7 fun v8 g8 o8 d8 => ?_
        simp (disch := omega) only [walk, lists, acts, mem, plain, seqs, maps, cells, resL, resV, intBin, ↓reduceIte, Nat.reduceAdd, Nat.reduceSub, Nat.reduceMul, Nat.reduceLeDiff, Nat.reduceEqDiff, Int.reduceToNat, Int.reduceEq, Int.reduceLT, Int.reduceLE, Int.reduceNeg, Int.reduceAdd, Int.reduceSub, Int.reduceMul, Nat.reducePow, Int.reduceNegSucc, wrapI]
        exact ⟨l.length - (i + 1), by omega, _, .refl _, i + 1, v8, _, g8, true, by simp, rfl, d8, o8, by skip; simp at hlen ⊢; omega, by omega, rfl⟩
      · simp (disch := omega) only [walk, lists, acts, mem, plain, seqs, maps, cells, resL, resV, intBin, ↓reduceIte, Nat.reduceAdd, Nat.reduceSub, Nat.reduceMul, Nat.reduceLeDiff, Nat.reduceEqDiff, Int.reduceToNat, Int.reduceEq, Int.reduceLT, Int.reduceLE, Int.reduceNeg, Int.reduceAdd, Int.reduceSub, Int.reduceMul, Nat.reducePow, Int.reduceNegSucc, wrapI]
        exact ⟨l.length - (i + 1), by omega, _, .refl _, i + 1, v', _, g, true, by simp, rfl, dj, o, by skip; simp at hlen ⊢; omega, by omega, rfl⟩
  · have hil : i = l.length := by omega
    cases d
    · simp only [walk, lists, acts, mem, plain, seqs, maps, cells, resL, resV, intBin, ↓reduceIte, Nat.reduceAdd, Nat.reduceSub, Nat.reduceMul, Nat.reduceLeDiff, Nat.reduceEqDiff, Int.reduceToNat, Int.reduceEq, Int.reduceLT, Int.reduceLE, Int.reduceNeg, Int.reduceAdd, Int.reduceSub, Int.reduceMul, Nat.reducePow, Int.reduceNegSucc, wPair, zp]
      refine newB_intro (o := blk (eP (key, val)) 69) fun j6 hj6 => ?_
      simp only [walk, lists, acts, mem, plain, seqs, maps, cells, resL, resV, intBin, ↓reduceIte, Nat.reduceAdd, Nat.reduceSub, Nat.reduceMul, Nat.reduceLeDiff, Nat.reduceEqDiff, Int.reduceToNat, Int.reduceEq, Int.reduceLT, Int.reduceLE, Int.reduceNeg, Int.reduceAdd, Int.reduceSub, Int.reduceMul, Nat.reducePow, Int.reduceNegSucc, wPair, zp]
      refine more (key, val) v' m g j6 dj o (by omega) hj6 fun v4 g4 o4 d4 => ?_
      simp only [walk, lists, acts, mem, plain, seqs, maps, cells, resL, resV, intBin, ↓reduceIte, Nat.reduceAdd, Nat.reduceSub, Nat.reduceMul, Nat.reduceLeDiff, Nat.reduceEqDiff, Int.reduceToNat, Int.reduceEq, Int.reduceLT, Int.reduceLE, Int.reduceNeg, Int.reduceAdd, Int.reduceSub, Int.reduceMul, Nat.reducePow, Int.reduceNegSucc, zp]
      exact .of (k v4 g4 _ o4 d4 (by simp at hlen ⊢; omega))
    · exact .of (k v' g m o dj (by simp at hlen; omega))
end Go.Proofs.Ytllhdnfcneejaaa
end

/- What is drawn of lists of pairs. -/
section
set_option linter.unusedVariables false
set_option linter.unusedSimpArgs false
set_option maxRecDepth 20000
attribute [local irreducible] Go.Tk.vc Go.Tk.vops Go.Tk.vdr Go.Tk.vop Go.Tk.vfl Go.Tk.HCalls
namespace Go.Proofs.Ytllhdnfcneejaaa
open Go Go.Tk

theorem eI_at {l : List Int} {i : Nat} (h : i < l.length) : (fl eI l)[i]? = some (.int .i64 l[i]) := by
  have := fl_at (enc := eI) (sz := 1) eI_len (l := l) h
  have h2 : ((fl eI l).drop (i * 1))[0]? = some (.int .i64 l[i]) := by
    have : (((fl eI l).drop (i * 1)).take 1)[0]? = some (.int .i64 l[i]) := by rw [this]; rfl
    rw [List.getElem?_take] at this; simpa using this
  rw [List.getElem?_drop] at h2; simpa using h2

theorem pairs_c {h : H} {jr p : Nat} {bv : Value} {l : List UInt8} (hj : hget h jr = none) (rb : rIn h eB 1 bv l) (hl : l.length ≤ 1048576) (hp : p ≤ 274877906944) {R : Ending → H → Prop}
    (k : ∀ v g ps (p' : Nat), oLs 69 eP 2 v ps g → Dj g ((jr, blk (rdr bv p') 120) :: h) → ps.length ≤ 14 → p ≤ p' → p' ≤ p + 80 → R (.returned v) (g ++ ((jr, blk (rdr bv p') 120) :: h))) :
    HCalls Try.prog 82 #[.pointer (some ⟨jr, 0, none⟩)] ((jr, blk (rdr bv p) 120) :: h) R := by
  refine HCalls_ir (args := [.pointer (some ⟨jr, 0, none⟩)]) Try.func82 ir82 ?_
  have zp := zPair_eq
  simp only [walk, lists, acts, mem, plain, seqs, maps, cells, resL, resV, intBin, ↓reduceIte, Nat.reduceAdd, Nat.reduceSub, Nat.reduceMul, Nat.reduceLeDiff, Nat.reduceEqDiff, Int.reduceToNat, Int.reduceEq, Int.reduceLT, Int.reduceLE, Int.reduceNeg, Int.reduceAdd, Int.reduceSub, Int.reduceMul, Nat.reducePow, Int.reduceNegSucc, zp]
  refine newB_intro (o := blk (fl eP []) 69) fun j1 hj1 => ?_
  have n1 := fresh hj1
  have o1 : oLs 69 eP 2 (.slice (some ⟨j1, 0, none⟩) 0 0) [] [(j1, blk (fl eP []) 69)] := oLs_new eP_len
  simp only [walk, lists, acts, mem, plain, seqs, maps, cells, resL, resV, intBin, ↓reduceIte, Nat.reduceAdd, Nat.reduceSub, Nat.reduceMul, Nat.reduceLeDiff, Nat.reduceEqDiff, Int.reduceToNat, Int.reduceEq, Int.reduceLT, Int.reduceLE, Int.reduceNeg, Int.reduceAdd, Int.reduceSub, Int.reduceMul, Nat.reducePow, Int.reduceNegSucc, zp]
  refine (pick_c (p := p) (h := (j1, blk (fl eP []) 69) :: h) (by simp only [subs, n1, hj]) (rb.sub (Sub.cons n1.2.2 (Sub.refl _))) hl (by omega) (by omega) fun x hx0 hx1 _ => ?_).weaken (by (repeat' first | exact Sub.refl _ | exact Sub.nil _ | assumption | refine Sub.both ?_ ?_ | refine Sub.cons_of (by simp only [subs, n1, hj]) ?_ | exact Sub.left _ _ | refine Sub.app (by simp only [subs, n1, hj]) ?_ | refine Sub.cons (by simp only [subs, n1, hj]) ?_))
  have hx := hx1 (by omega)
  simp only [walk, lists, acts, mem, plain, seqs, maps, cells, resL, resV, intBin, ↓reduceIte, Nat.reduceAdd, Nat.reduceSub, Nat.reduceMul, Nat.reduceLeDiff, Nat.reduceEqDiff, Int.reduceToNat, Int.reduceEq, Int.reduceLT, Int.reduceLE, Int.reduceNeg, Int.reduceAdd, Int.reduceSub, Int.reduceMul, Nat.reducePow, Int.reduceNegSucc, zp]
  have hm : x = ((x.toNat : Nat) : Int) := by omega
  refine vc_loopS (g0 := (j1, blk (fl eP []) 69) :: (jr, blk (rdr bv (p + 1)) 120) :: h) [3, 4] (fun n vs h' => ∃ (m : Nat) (v' : Value) (ps : List (Int × Int)) (g : H) (p' : Nat), vs = [v', .int .i64 m] ∧ h' = g ++ ((jr, blk (rdr bv p') 120) :: h) ∧ (∀ q, Dj g ((jr, blk (rdr bv q) 120) :: h)) ∧ oLs 69 eP 2 v' ps g ∧ ps.length + m ≤ 11 ∧ p' + 5 * m ≤ p + 60 ∧ p ≤ p' ∧ n = m) x.toNat rfl (by (repeat' first | exact Sub.refl _ | exact Sub.nil _ | assumption | refine Sub.both ?_ ?_ | refine Sub.cons_of (by simp only [subs, n1, hj]) ?_ | exact Sub.left _ _ | refine Sub.app (by simp only [subs, n1, hj]) ?_ | refine Sub.cons (by simp only [subs, n1, hj]) ?_))
    ⟨x.toNat, .slice (some ⟨j1, 0, none⟩) 0 0, [], [(j1, blk (fl eP []) 69)], p + 1, by show [Value.slice (some ⟨j1, 0, none⟩) 0 0, Value.int IntKind.i64 x] = _; rw [← hm], rfl, fun q => Dj.one (by simp only [subs, n1]), o1, by simp only [List.length_nil]; omega, by omega, by omega, rfl⟩ ?_
  rintro n f h' ⟨m, v', ps, g, p', hv, rfl, dj, o, hlen, hpp, hpp2, rfl⟩
  simp only [List.map_cons, List.map_nil, List.cons.injEq, and_true] at hv
  have d1 := dj 0
  have d2 := d1.symm
  simp only [subs] at d1 d2
  have rg : rIn (g ++ h) eB 1 bv l := rb.sub (Sub.right d1.2)
  have hg : hget (g ++ h) jr = none := by simp only [subs, d1, hj]
  simp only [walk, lists, acts, mem, plain, seqs, maps, cells, resL, resV, intBin, ↓reduceIte, Nat.reduceAdd, Nat.reduceSub, Nat.reduceMul, Nat.reduceLeDiff, Nat.reduceEqDiff, Int.reduceToNat, Int.reduceEq, Int.reduceLT, Int.reduceLE, Int.reduceNeg, Int.reduceAdd, Int.reduceSub, Int.reduceMul, Nat.reducePow, Int.reduceNegSucc, wr, hv.1, hv.2, zp]
  refine ite_lt (fun c => ?_) fun c => ?_
  · refine (pick_c (p := p') hg rg hl (by omega) (by omega) fun a _ _ _ => ?_).weaken (by (repeat' first | exact Sub.refl _ | exact Sub.nil _ | assumption | refine Sub.both ?_ ?_ | refine Sub.cons_of (by simp only [subs, d1, d2, hj]) ?_ | exact Sub.left _ _ | refine Sub.app (by simp only [subs, d1, d2, hj]) ?_ | refine Sub.cons (by simp only [subs, d1, d2, hj]) ?_))
    simp only [walk, lists, acts, mem, plain, seqs, maps, cells, resL, resV, intBin, ↓reduceIte, Nat.reduceAdd, Nat.reduceSub, Nat.reduceMul, Nat.reduceLeDiff, Nat.reduceEqDiff, Int.reduceToNat, Int.reduceEq, Int.reduceLT, Int.reduceLE, Int.reduceNeg, Int.reduceAdd, Int.reduceSub, Int.reduceMul, Nat.reducePow, Int.reduceNegSucc]
    refine newB_intro (o := blk (fl eI [0, 1, 4, 5, 8, 9, a]) 3) fun j6 hj6 => ?_
    have n6 := hj6
    simp only [subs] at n6
    have n6' : jr ≠ j6 := Ne.symm n6.1
    simp only [walk, lists, acts, mem, plain, seqs, maps, cells, resL, resV, intBin, ↓reduceIte, Nat.reduceAdd, Nat.reduceSub, Nat.reduceMul, Nat.reduceLeDiff, Nat.reduceEqDiff, Int.reduceToNat, Int.reduceEq, Int.reduceLT, Int.reduceLE, Int.reduceNeg, Int.reduceAdd, Int.reduceSub, Int.reduceMul, Nat.reducePow, Int.reduceNegSucc]
    refine (pick_c (p := p' + 1) (h := (j6, blk (fl eI [0, 1, 4, 5, 8, 9, a]) 3) :: (g ++ h)) (by simp only [subs, d1, hj, n6']) (rg.sub (Sub.cons (by simp only [subs, n6]) (Sub.refl _))) hl (by omega) (by omega) fun b hb0 hb1 _ => ?_).weaken (by (repeat' first | exact Sub.refl _ | exact Sub.nil _ | assumption | refine Sub.both ?_ ?_ | refine Sub.cons_of (by simp only [subs, d1, d2, hj, n6, n6']) ?_ | exact Sub.left _ _ | refine Sub.app (by simp only [subs, d1, d2, hj, n6, n6']) ?_ | refine Sub.cons (by simp only [subs, d1, d2, hj, n6, n6']) ?_))
    have hb := hb1 (by omega)
    have hb7 : b.toNat < [0, 1, 4, 5, 8, 9, a].length := by simp only [List.length_cons, List.length_nil]; omega
    simp only [walk, lists, acts, mem, plain, seqs, maps, cells, resL, resV, intBin, ↓reduceIte, Nat.reduceAdd, Nat.reduceSub, Nat.reduceMul, Nat.reduceLeDiff, Nat.reduceEqDiff, Int.reduceToNat, Int.reduceEq, Int.reduceLT, Int.reduceLE, Int.reduceNeg, Int.reduceAdd, Int.reduceSub, Int.reduceMul, Nat.reducePow, Int.reduceNegSucc, n6.1, n6']
    refine ⟨⟨hb0, by omega⟩, ?_⟩
    rw [eI_at hb7]
    generalize [0, 1, 4, 5, 8, 9, a][b.toNat] = key
    simp only [walk, lists, acts, mem, plain, seqs, maps, cells, resL, resV, intBin, ↓reduceIte, Nat.reduceAdd, Nat.reduceSub, Nat.reduceMul, Nat.reduceLeDiff, Nat.reduceEqDiff, Int.reduceToNat, Int.reduceEq, Int.reduceLT, Int.reduceLE, Int.reduceNeg, Int.reduceAdd, Int.reduceSub, Int.reduceMul, Nat.reducePow, Int.reduceNegSucc]
    refine (pick_c (p := p' + 2) hg rg hl (by omega) (by omega) fun a1 ha0 ha1 _ => ?_).weaken (by (repeat' first | exact Sub.refl _ | exact Sub.nil _ | assumption | refine Sub.both ?_ ?_ | refine Sub.cons_of (by simp only [subs, d1, d2, hj, n6, n6']) ?_ | exact Sub.left _ _ | refine Sub.app (by simp only [subs, d1, d2, hj, n6, n6']) ?_ | refine Sub.cons (by simp only [subs, d1, d2, hj, n6, n6']) ?_))
    have ha := ha1 (by omega)
    simp only [walk, lists, acts, mem, plain, seqs, maps, cells, resL, resV, intBin, ↓reduceIte, Nat.reduceAdd, Nat.reduceSub, Nat.reduceMul, Nat.reduceLeDiff, Nat.reduceEqDiff, Int.reduceToNat, Int.reduceEq, Int.reduceLT, Int.reduceLE, Int.reduceNeg, Int.reduceAdd, Int.reduceSub, Int.reduceMul, Nat.reducePow, Int.reduceNegSucc]
    refine pick_c (p := p' + 3) hg rg hl (by omega) (by omega) fun a2 hb0 hb1 _ => ?_
    have hb := hb1 (by omega)
    simp only [walk, lists, acts, mem, plain, seqs, maps, cells, resL, resV, intBin, ↓reduceIte, Nat.reduceAdd, Nat.reduceSub, Nat.reduceMul, Nat.reduceLeDiff, Nat.reduceEqDiff, Int.reduceToNat, Int.reduceEq, Int.reduceLT, Int.reduceLE, Int.reduceNeg, Int.reduceAdd, Int.reduceSub, Int.reduceMul, Nat.reducePow, Int.reduceNegSucc]
    refine raw_neg (n := a2) (by simp only [walk, lists, acts, mem, plain, seqs, maps, cells, resL, resV, intBin, ↓reduceIte, Nat.reduceAdd, Nat.reduceSub, Nat.reduceMul, Nat.reduceLeDiff, Nat.reduceEqDiff, Int.reduceToNat, Int.reduceEq, Int.reduceLT, Int.reduceLE, Int.reduceNeg, Int.reduceAdd, Int.reduceSub, Int.reduceMul, Nat.reducePow, Int.reduceNegSucc]) ?_
    have e : IntKind.i64.wrap (0 - a2) = -a2 := by rw [wrapI _ (by omega)]; omega
    simp only [walk, lists, acts, mem, plain, seqs, maps, cells, resL, resV, intBin, ↓reduceIte, Nat.reduceAdd, Nat.reduceSub, Nat.reduceMul, Nat.reduceLeDiff, Nat.reduceEqDiff, Int.reduceToNat, Int.reduceEq, Int.reduceLT, Int.reduceLE, Int.reduceNeg, Int.reduceAdd, Int.reduceSub, Int.reduceMul, Nat.reducePow, Int.reduceNegSucc, e]
    refine newB_intro (o := blk (fl eI [a1, -a2, 9999]) 3) fun j7 hj7 => ?_
    have n7 := hj7
    simp only [subs] at n7
    have n7' : jr ≠ j7 := Ne.symm n7.1
    simp only [walk, lists, acts, mem, plain, seqs, maps, cells, resL, resV, intBin, ↓reduceIte, Nat.reduceAdd, Nat.reduceSub, Nat.reduceMul, Nat.reduceLeDiff, Nat.reduceEqDiff, Int.reduceToNat, Int.reduceEq, Int.reduceLT, Int.reduceLE, Int.reduceNeg, Int.reduceAdd, Int.reduceSub, Int.reduceMul, Nat.reducePow, Int.reduceNegSucc]
    refine (pick_c (p := p' + 4) (h := (j7, blk (fl eI [a1, -a2, 9999]) 3) :: (g ++ h)) (by simp only [subs, d1, hj, n7']) (rg.sub (Sub.cons (by simp only [subs, n7]) (Sub.refl _))) hl (by omega) (by omega) fun a3 hc0 hc1 _ => ?_).weaken (by (repeat' first | exact Sub.refl _ | exact Sub.nil _ | assumption | refine Sub.both ?_ ?_ | refine Sub.cons_of (by simp only [subs, d1, d2, hj, n7, n7']) ?_ | exact Sub.left _ _ | refine Sub.app (by simp only [subs, d1, d2, hj, n7, n7']) ?_ | refine Sub.cons (by simp only [subs, d1, d2, hj, n7, n7']) ?_))
    have hc := hc1 (by omega)
    obtain ⟨u, hu⟩ : ∃ u : Nat, a3 = (u : Int) := ⟨a3.toNat, by omega⟩
    subst hu
    have hd : ((u : Nat) : Int).tdiv 2 = ((u / 2 : Nat) : Int) := rfl
    have hu3 : u / 2 < [a1, -a2, 9999].length := by simp only [List.length_cons, List.length_nil]; omega
    simp (disch := omega) only [walk, lists, acts, mem, plain, seqs, maps, cells, resL, resV, intBin, ↓reduceIte, Nat.reduceAdd, Nat.reduceSub, Nat.reduceMul, Nat.reduceLeDiff, Nat.reduceEqDiff, Int.reduceToNat, Int.reduceEq, Int.reduceLT, Int.reduceLE, Int.reduceNeg, Int.reduceAdd, Int.reduceSub, Int.reduceMul, Nat.reducePow, Int.reduceNegSucc, n7.1, n7', hd, wrapI]
    refine ⟨⟨by omega, by omega⟩, ?_⟩
    rw [eI_at hu3]
    generalize [a1, -a2, 9999][u / 2] = val
    simp only [walk, lists, acts, mem, plain, seqs, maps, cells, resL, resV, intBin, ↓reduceIte, Nat.reduceAdd, Nat.reduceSub, Nat.reduceMul, Nat.reduceLeDiff, Nat.reduceEqDiff, Int.reduceToNat, Int.reduceEq, Int.reduceLT, Int.reduceLE, Int.reduceNeg, Int.reduceAdd, Int.reduceSub, Int.reduceMul, Nat.reducePow, Int.reduceNegSucc]
    refine l1Set_c (h := (jr, blk (rdr bv (p' + 5)) 120) :: (j7, blk (fl eI [a1, -a2, 9999]) 3) :: (g ++ h)) (v := v') (l := ps) (o.rd.sub (by (repeat' first | exact Sub.refl _ | exact Sub.nil _ | assumption | refine Sub.both ?_ ?_ | refine Sub.cons_of (by simp only [subs, d1, d2, hj, n7, n7']) ?_ | exact Sub.left _ _ | refine Sub.app (by simp only [subs, d1, d2, hj, n7, n7']) ?_ | refine Sub.cons (by simp only [subs, d1, d2, hj, n7, n7']) ?_))) (by omega) fun v2 g2 ps2 o2 dj2 hl2 => ?_
    have e1 := dj2
    have e2 := dj2.symm
    simp only [subs] at e1 e2
    simp (disch := omega) only [walk, lists, acts, mem, plain, seqs, maps, cells, resL, resV, intBin, ↓reduceIte, Nat.reduceAdd, Nat.reduceSub, Nat.reduceMul, Nat.reduceLeDiff, Nat.reduceEqDiff, Int.reduceToNat, Int.reduceEq, Int.reduceLT, Int.reduceLE, Int.reduceNeg, Int.reduceAdd, Int.reduceSub, Int.reduceMul, Nat.reducePow, Int.reduceNegSucc, wrapI]
    refine ⟨n - 1, by omega, g2 ++ ((jr, blk (rdr bv (p' + 5)) 120) :: h), by (repeat' first | exact Sub.refl _ | exact Sub.nil _ | assumption | refine Sub.both ?_ ?_ | refine Sub.cons_of (by simp only [subs, d1, d2, hj, n7, n7', e1, e2]) ?_ | exact Sub.left _ _ | refine Sub.app (by simp only [subs, d1, d2, hj, n7, n7', e1, e2]) ?_ | refine Sub.cons (by simp only [subs, d1, d2, hj, n7, n7', e1, e2]) ?_), n - 1, v2, ps2, g2, p' + 5, by simp; omega, rfl, fun q => by simp only [subs, e1], o2, by omega, by omega, by omega, rfl⟩
  · refine (pick_c (p := p') hg rg hl (by omega) (by omega) fun a _ _ _ => ?_).weaken (by (repeat' first | exact Sub.refl _ | exact Sub.nil _ | assumption | refine Sub.both ?_ ?_ | refine Sub.cons_of (by simp only [subs, d1, d2, hj]) ?_ | exact Sub.left _ _ | refine Sub.app (by simp only [subs, d1, d2, hj]) ?_ | refine Sub.cons (by simp only [subs, d1, d2, hj]) ?_))
    simp only [walk, lists, acts, mem, plain, seqs, maps, cells, resL, resV, intBin, ↓reduceIte, Nat.reduceAdd, Nat.reduceSub, Nat.reduceMul, Nat.reduceLeDiff, Nat.reduceEqDiff, Int.reduceToNat, Int.reduceEq, Int.reduceLT, Int.reduceLE, Int.reduceNeg, Int.reduceAdd, Int.reduceSub, Int.reduceMul, Nat.reducePow, Int.reduceNegSucc]
    refine ite_pos (fun c2 => ?_) fun c2 => ?_
    · simp only [walk, lists, acts, mem, plain, seqs, maps, cells, resL, resV, intBin, ↓reduceIte, Nat.reduceAdd, Nat.reduceSub, Nat.reduceMul, Nat.reduceLeDiff, Nat.reduceEqDiff, Int.reduceToNat, Int.reduceEq, Int.reduceLT, Int.reduceLE, Int.reduceNeg, Int.reduceAdd, Int.reduceSub, Int.reduceMul, Nat.reducePow, Int.reduceNegSucc, wPair, zp]
      refine newB_intro (o := blk (fl eP [(3, 1)]) 69) fun j6 hj6 => ?_
      have n6 := hj6
      simp only [subs] at n6
      simp only [walk, lists, acts, mem, plain, seqs, maps, cells, resL, resV, intBin, ↓reduceIte, Nat.reduceAdd, Nat.reduceSub, Nat.reduceMul, Nat.reduceLeDiff, Nat.reduceEqDiff, Int.reduceToNat, Int.reduceEq, Int.reduceLT, Int.reduceLE, Int.reduceNeg, Int.reduceAdd, Int.reduceSub, Int.reduceMul, Nat.reducePow, Int.reduceNegSucc, wPair, zp]
      refine app_leaf (g := g) (h := (jr, blk (rdr bv (p' + 1)) 120) :: h) (M := (j6, blk (fl eP [(3, 1)]) 69) :: (jr, blk (rdr bv (p' + 1)) 120) :: (g ++ h)) eP_len eP_one tPairs iPair (by (repeat' first | exact Sub.refl _ | exact Sub.nil _ | assumption | refine Sub.both ?_ ?_ | refine Sub.cons_of (by simp only [subs, d1, d2, hj, n6]) ?_ | exact Sub.left _ _ | refine Sub.app (by simp only [subs, d1, d2, hj, n6]) ?_ | refine Sub.cons (by simp only [subs, d1, d2, hj, n6]) ?_)) (dj _) o (rL_lit eP_len [(3, 1)]) (by simp; omega) (by simp; omega) fun v2 g2 o2 d3 => ?_
      simp only [walk, lists, acts, mem, plain, seqs, maps, cells, resL, resV, intBin, ↓reduceIte, Nat.reduceAdd, Nat.reduceSub, Nat.reduceMul, Nat.reduceLeDiff, Nat.reduceEqDiff, Int.reduceToNat, Int.reduceEq, Int.reduceLT, Int.reduceLE, Int.reduceNeg, Int.reduceAdd, Int.reduceSub, Int.reduceMul, Nat.reducePow, Int.reduceNegSucc]
      exact .of (k v2 g2 _ (p' + 1) o2 d3 (by simp; omega) (by omega) (by omega))
    · refine ite_pos (fun c3 => ?_) fun c3 => ?_
      · refine pick_c (p := p' + 1) hg rg hl (by omega) (by omega) fun b hb0 hb1 _ => ?_
        have hb := hb1 (by omega)
        simp (disch := omega) only [walk, lists, acts, mem, plain, seqs, maps, cells, resL, resV, intBin, ↓reduceIte, Nat.reduceAdd, Nat.reduceSub, Nat.reduceMul, Nat.reduceLeDiff, Nat.reduceEqDiff, Int.reduceToNat, Int.reduceEq, Int.reduceLT, Int.reduceLE, Int.reduceNeg, Int.reduceAdd, Int.reduceSub, Int.reduceMul, Nat.reducePow, Int.reduceNegSucc, wrapI, wPair, zp]
        refine newB_intro (o := blk (fl eP [(31, 9999 + b)]) 69) fun j6 hj6 => ?_
        have n6 := hj6
        simp only [subs] at n6
        simp only [walk, lists, acts, mem, plain, seqs, maps, cells, resL, resV, intBin, ↓reduceIte, Nat.reduceAdd, Nat.reduceSub, Nat.reduceMul, Nat.reduceLeDiff, Nat.reduceEqDiff, Int.reduceToNat, Int.reduceEq, Int.reduceLT, Int.reduceLE, Int.reduceNeg, Int.reduceAdd, Int.reduceSub, Int.reduceMul, Nat.reducePow, Int.reduceNegSucc, wPair, zp]
        refine app_leaf (g := g) (h := (jr, blk (rdr bv (p' + 2)) 120) :: h) (M := (j6, blk (fl eP [(31, 9999 + b)]) 69) :: (jr, blk (rdr bv (p' + 2)) 120) :: (g ++ h)) eP_len eP_one tPairs iPair (by (repeat' first | exact Sub.refl _ | exact Sub.nil _ | assumption | refine Sub.both ?_ ?_ | refine Sub.cons_of (by simp only [subs, d1, d2, hj, n6]) ?_ | exact Sub.left _ _ | refine Sub.app (by simp only [subs, d1, d2, hj, n6]) ?_ | refine Sub.cons (by simp only [subs, d1, d2, hj, n6]) ?_)) (dj _) o (rL_lit eP_len [(31, 9999 + b)]) (by simp; omega) (by simp; omega) fun v2 g2 o2 d3 => ?_
        simp only [walk, lists, acts, mem, plain, seqs, maps, cells, resL, resV, intBin, ↓reduceIte, Nat.reduceAdd, Nat.reduceSub, Nat.reduceMul, Nat.reduceLeDiff, Nat.reduceEqDiff, Int.reduceToNat, Int.reduceEq, Int.reduceLT, Int.reduceLE, Int.reduceNeg, Int.reduceAdd, Int.reduceSub, Int.reduceMul, Nat.reducePow, Int.reduceNegSucc]
        exact .of (k v2 g2 _ (p' + 2) o2 d3 (by simp; omega) (by omega) (by omega))
      · exact ⟨g ++ ((jr, blk (rdr bv (p' + 1)) 120) :: h), by (repeat' first | exact Sub.refl _ | exact Sub.nil _ | assumption | refine Sub.both ?_ ?_ | refine Sub.cons_of (by simp only [subs, d1, d2, hj]) ?_ | exact Sub.left _ _ | refine Sub.app (by simp only [subs, d1, d2, hj]) ?_ | refine Sub.cons (by simp only [subs, d1, d2, hj]) ?_), k v' g ps (p' + 1) o (dj _) (by omega) (by omega) (by omega)⟩
end Go.Proofs.Ytllhdnfcneejaaa
end
