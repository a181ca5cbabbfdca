/- Scripts that are read: the program's; the law ExactTollRead. -/
import Derived.Test.YtdlgaidjlepepaaDoorK813
set_option linter.unusedVariables false
set_option linter.unusedSimpArgs false
set_option maxRecDepth 20000
attribute [local irreducible] Go.Tk.vc Go.Tk.vops Go.Tk.vdr Go.Tk.vop Go.Tk.vfl Go.Tk.HCalls
namespace Go.Proofs.YtdlgaidjlepepaaDoor
open Go Go.Tk

theorem implTollRead_c {h : H} {t : List UInt8} (gl : Gl h) (gm : MxL h) (ht : t.length ≤ 4194304) {R : Ending → H → Prop} (k : ∀ v g l n, TollO t l n → oLs 41 cTollEvent 11 v l g → Dj g h → R (.returned (.tuple #[v, .int .i64 n])) (g ++ h)) :
    HCalls Tryd.prog 11 #[.string ⟨t.toArray⟩] h R := by
  obtain ⟨c, hb, hc, hr, hn⟩ := irOf_inv ir11
  have ok : (Tryd.f11.body.map (rngOk Tryd.prog)) = some true := by kernel_rfl
  rw [hb] at ok
  simp only [Option.map_some, Option.some.injEq] at ok
  obtain ⟨c1, c2, rfl, q1, k2⟩ := cc_seq_inv hc
  obtain ⟨c2, c3, rfl, q2, k3⟩ := cc_seq_inv k2
  obtain ⟨c3, c4, rfl, q3, k4⟩ := cc_seq_inv k3
  obtain ⟨c4, c5, rfl, k5, q5⟩ := cc_seq_inv k4
  obtain ⟨c6, c7, rfl, q6, k6⟩ := cc_seq_inv k5
  obtain ⟨c8, rfl, k7⟩ := cc_block_inv k6
  obtain ⟨qs, ca, cb, rfl, hqs, qa, qb⟩ := cc_rng_inv k7
  obtain ⟨oa, ob⟩ : plainR Tryd.prog ca = true ∧ plainR Tryd.prog cb = true := by
    simp only [rngOk, Bool.and_eq_true] at ok
    exact ok.2.2.2.1.2
  have hqs : qs = #[14, 15] := by rw [← Array.toList_inj, hqs]
  subst hqs
  apply HCalls.drop
  refine HCalls_bodyL (args := [.string ⟨t.toArray⟩]) Tryd.func11 hb hn ?_
  refine HC_vseq q1 ?_
  simp only [walk, lists, acts, mem, plain, seqs, maps, cells, resL, resV, intBin, ↓reduceIte, Nat.reduceAdd, Nat.reduceSub, Nat.reduceMul, Nat.reduceLeDiff, Nat.reduceEqDiff, Int.reduceToNat, Int.reduceEq, Int.reduceLT, Int.reduceLE, Int.reduceNeg, Int.reduceAdd, Int.reduceSub, Int.reduceMul, Nat.reducePow, Int.reduceNegSucc, toks]
  refine newB_intro (o := blk [.slice none 0 0] 25) fun j2 h2 => ?_
  simp only [walk, lists, acts, mem, plain, seqs, maps, cells, resL, resV, intBin, ↓reduceIte, Nat.reduceAdd, Nat.reduceSub, Nat.reduceMul, Nat.reduceLeDiff, Nat.reduceEqDiff, Int.reduceToNat, Int.reduceEq, Int.reduceLT, Int.reduceLE, Int.reduceNeg, Int.reduceAdd, Int.reduceSub, Int.reduceMul, Nat.reducePow, Int.reduceNegSucc, toks]
  refine newB_intro (o := blk [.int .i64 0] 3) fun j3 h3 => ?_
  simp only [walk, lists, acts, mem, plain, seqs, maps, cells, resL, resV, intBin, ↓reduceIte, Nat.reduceAdd, Nat.reduceSub, Nat.reduceMul, Nat.reduceLeDiff, Nat.reduceEqDiff, Int.reduceToNat, Int.reduceEq, Int.reduceLT, Int.reduceLE, Int.reduceNeg, Int.reduceAdd, Int.reduceSub, Int.reduceMul, Nat.reducePow, Int.reduceNegSucc, toks]
  have n3 := h3
  simp only [subs] at n3
  have e23 : ¬ j2 = j3 := fun e => n3.1 e.symm
  refine HC_vseq q2 ?_
  simp only [walk, lists, acts, mem, plain, seqs, maps, cells, resL, resV, intBin, ↓reduceIte, Nat.reduceAdd, Nat.reduceSub, Nat.reduceMul, Nat.reduceLeDiff, Nat.reduceEqDiff, Int.reduceToNat, Int.reduceEq, Int.reduceLT, Int.reduceLE, Int.reduceNeg, Int.reduceAdd, Int.reduceSub, Int.reduceMul, Nat.reducePow, Int.reduceNegSucc, toks]
  refine ite_lt (fun c => ?_) fun c => ?_
  · simp only [walk, lists, acts, mem, plain, seqs, maps, cells, resL, resV, intBin, ↓reduceIte, Nat.reduceAdd, Nat.reduceSub, Nat.reduceMul, Nat.reduceLeDiff, Nat.reduceEqDiff, Int.reduceToNat, Int.reduceEq, Int.reduceLT, Int.reduceLE, Int.reduceNeg, Int.reduceAdd, Int.reduceSub, Int.reduceMul, Nat.reducePow, Int.reduceNegSucc, e23]
    refine bodyM_nil hr ?_
    simp only [walk, lists, acts, mem, plain, seqs, maps, cells, resL, resV, intBin, ↓reduceIte, Nat.reduceAdd, Nat.reduceSub, Nat.reduceMul, Nat.reduceLeDiff, Nat.reduceEqDiff, Int.reduceToNat, Int.reduceEq, Int.reduceLT, Int.reduceLE, Int.reduceNeg, Int.reduceAdd, Int.reduceSub, Int.reduceMul, Nat.reducePow, Int.reduceNegSucc, e23]
    exact ⟨h, by (repeat' first | exact Sub.refl _ | exact Sub.nil _ | assumption | refine Sub.both ?_ ?_ | refine Sub.cons_of (by simp only [subs, n3, h2]) ?_ | exact Sub.left _ _ | refine Sub.app (by simp only [subs, n3, h2]) ?_ | refine Sub.cons (by simp only [subs, n3, h2]) ?_), k _ [] [] _ (.inl ⟨by omega, rfl, rfl⟩) (ows.nil _ _) (Dj.nil _)⟩
  have ht6 : t.length ≤ 60000 := by omega
  refine HC_vseq q3 ?_
  simp only [walk, lists, acts, mem, plain, seqs, maps, cells, resL, resV, intBin, ↓reduceIte, Nat.reduceAdd, Nat.reduceSub, Nat.reduceMul, Nat.reduceLeDiff, Nat.reduceEqDiff, Int.reduceToNat, Int.reduceEq, Int.reduceLT, Int.reduceLE, Int.reduceNeg, Int.reduceAdd, Int.reduceSub, Int.reduceMul, Nat.reducePow, Int.reduceNegSucc, toks]
  refine newB_intro (o := blk [.slice none 0 0] 25) fun j4 h4 => ?_
  have n4 := h4
  simp only [subs] at n4
  simp only [walk, lists, acts, mem, plain, seqs, maps, cells, resL, resV, intBin, ↓reduceIte, Nat.reduceAdd, Nat.reduceSub, Nat.reduceMul, Nat.reduceLeDiff, Nat.reduceEqDiff, Int.reduceToNat, Int.reduceEq, Int.reduceLT, Int.reduceLE, Int.reduceNeg, Int.reduceAdd, Int.reduceSub, Int.reduceMul, Nat.reducePow, Int.reduceNegSucc, toks]
  refine HC_seq (HC_vseq q6 ?_)
  simp only [walk, lists, acts, mem, plain, seqs, maps, cells, resL, resV, intBin, ↓reduceIte, Nat.reduceAdd, Nat.reduceSub, Nat.reduceMul, Nat.reduceLeDiff, Nat.reduceEqDiff, Int.reduceToNat, Int.reduceEq, Int.reduceLT, Int.reduceLE, Int.reduceNeg, Int.reduceAdd, Int.reduceSub, Int.reduceMul, Nat.reducePow, Int.reduceNegSucc, toks]
  refine HCalls_ir (args := [.string ⟨t.toArray⟩]) Tryd.func25 ir25 ?_
  simp only [walk, lists, acts, mem, plain, seqs, maps, cells, resL, resV, intBin, ↓reduceIte, Nat.reduceAdd, Nat.reduceSub, Nat.reduceMul, Nat.reduceLeDiff, Nat.reduceEqDiff, Int.reduceToNat, Int.reduceEq, Int.reduceLT, Int.reduceLE, Int.reduceNeg, Int.reduceAdd, Int.reduceSub, Int.reduceMul, Nat.reducePow, Int.reduceNegSucc]
  refine newB_intro (o := blk [.string ⟨t.toArray⟩] 9) fun j5 h5 => ?_
  have n5 := h5
  simp only [subs] at n5
  simp only [walk, lists, acts, mem, plain, seqs, maps, cells, resL, resV, intBin, ↓reduceIte, Nat.reduceAdd, Nat.reduceSub, Nat.reduceMul, Nat.reduceLeDiff, Nat.reduceEqDiff, Int.reduceToNat, Int.reduceEq, Int.reduceLT, Int.reduceLE, Int.reduceNeg, Int.reduceAdd, Int.reduceSub, Int.reduceMul, Nat.reducePow, Int.reduceNegSucc, toks]
  refine dP.of ?_
  simp only [walk, lists, acts, mem, plain, seqs, maps, cells, resL, resV, intBin, ↓reduceIte, Nat.reduceAdd, Nat.reduceSub, Nat.reduceMul, Nat.reduceLeDiff, Nat.reduceEqDiff, Int.reduceToNat, Int.reduceEq, Int.reduceLT, Int.reduceLE, Int.reduceNeg, Int.reduceAdd, Int.reduceSub, Int.reduceMul, Nat.reducePow, Int.reduceNegSucc, toks]
  obtain ⟨M, hM⟩ : ∃ M, M = (j5, blk [.string ⟨t.toArray⟩] 9) :: (j4, blk [.slice none 0 0] 25) :: (j3, blk [.int .i64 0] 3) :: (j2, blk [.slice none 0 0] 25) :: h := ⟨_, rfl⟩
  rw [← hM]
  have sM : Tk.Sub h M := by rw [hM]; (repeat' first | exact Sub.refl _ | exact Sub.nil _ | assumption | refine Sub.both ?_ ?_ | refine Sub.cons_of (by simp only [subs, n5, n4, n3, h2]) ?_ | exact Sub.left _ _ | refine Sub.app (by simp only [subs, n5, n4, n3, h2]) ?_ | refine Sub.cons (by simp only [subs, n5, n4, n3, h2]) ?_)
  obtain ⟨E, hE⟩ : ∃ E : List Value, E = [.string ⟨t.toArray⟩, undef, .pointer (some ⟨j2, 0, none⟩), .pointer (some ⟨j3, 0, none⟩), .pointer (some ⟨j4, 0, none⟩), undef, undef, undef, undef, .string ⟨t.toArray⟩, .int .i64 t.length, .bool false, .string ⟨t.toArray⟩, .func (.func 39) #[] #[.pointer (some ⟨j5, 0, none⟩)], undef, undef, undef, undef, undef, undef, undef, undef, undef, undef, undef, undef, undef, undef, undef] := ⟨_, rfl⟩
  rw [← hE]
  refine HC_block (HC_range (f := 39) (fi := #[]) (ca := #[.pointer (some ⟨j5, 0, none⟩)]) (by rw [eval_evl, hE]; rfl) (by kernel_rfl) fun fn D l hD hl hne => ?_)
  show HCalls _ _ #[.func (.yield l) #[] #[], .pointer (some ⟨j5, 0, none⟩)] _ _
  obtain ⟨rec, hrec⟩ : ∃ rec : Loop, rec = { state := .ready, pending := none, fn := fn, tmps := E.toArray, params := #[14, 15], assign := ca, body := cb, defers := D } := ⟨_, rfl⟩
  dsimp only
  rw [← hrec]
  have hD2 := hD
  have hl2 := hl
  rw [hM] at hD2 hl2
  simp only [subs] at hD2 hl2
  have sLM : Tk.Sub M ((l, .loop rec) :: (D, .deferred (some [])) :: M) := (Sub.cons hD (Sub.refl _)).trans (Sub.cons (by rw [hget_cons, if_neg hne]; exact hl) (Sub.refl _))
  have L0 : LpB rec l D j4 j2 j3 25 3 (.slice none 0 0) 0 h ((l, .loop rec) :: (D, .deferred (some [])) :: M) := by
    have e1 : ∀ {a b : Nat}, ¬ a = b → ¬ b = a := fun h e => h e.symm
    refine ⟨hget_same _ _ _, (hget_next _ _ _ (e1 hne)).trans (hget_same _ _ _), ?_, ?_, ?_, sM.trans sLM, hl2.2.2.2.2, hD2.2.2.2.2, n4.2.2, h2, n3.2, hne, hl2.2.1, hl2.2.2.2.1, hl2.2.2.1, hD2.2.1, hD2.2.2.2.1, hD2.2.2.1, n4.2.1, n4.1, e23⟩
    · refine (hget_next _ _ _ (e1 hl2.2.1)).trans ((hget_next _ _ _ (e1 hD2.2.1)).trans ?_)
      rw [hM]
      exact (hget_next _ _ _ (e1 n5.1)).trans (hget_same _ _ _)
    · refine (hget_next _ _ _ (e1 hl2.2.2.2.1)).trans ((hget_next _ _ _ (e1 hD2.2.2.2.1)).trans ?_)
      rw [hM]
      exact (hget_next _ _ _ (e1 n5.2.2.1)).trans ((hget_next _ _ _ (e1 n4.2.1)).trans ((hget_next _ _ _ e23).trans (hget_same _ _ _)))
    · refine (hget_next _ _ _ (e1 hl2.2.2.1)).trans ((hget_next _ _ _ (e1 hD2.2.2.1)).trans ?_)
      rw [hM]
      exact (hget_next _ _ _ (e1 n5.2.1)).trans ((hget_next _ _ _ (e1 n4.1)).trans (hget_same _ _ _))
  have gmM := gm.sub sM
  refine (lines_c (t := t) (gmM.sub sLM) (hcel_sub sLM (by rw [hM]; exact hcel_one (hget_same _ _ _))) ht
    (fun i X => ∃ (v : Value) (G B : H), X = G ++ B ∧ Dj G B ∧ LpB rec l D j4 j2 j3 25 3 v 0 h B ∧ oLs 41 cTollEvent 11 v (((splitB 10 t).take i).filterMap evO) G ∧ ∀ j (hj : j < i) (hj2 : j < (splitB 10 t).length), goodL (splitB 10 t)[j])
    (fun X => ∃ (rc : Loop) (n : Int) (v : Value) (B : H), Tk.Sub B X ∧ rc.state = .done ∧ rc.pending = some .ret ∧ LpB rc l D j4 j2 j3 25 3 v n h B ∧ TollO t [] n)
    ⟨_, [], _, rfl, Dj.nil _, L0, ows.nil _ _, fun j hj => by omega⟩ ?_ ?_ ?_ ?_)
  · rintro i hi X ⟨v, G, B, rfl, dG, L, oG, hg⟩ hne0
    have nG : ∀ {i : Nat} {o : Obj}, hget B i = some o → hget G i = none := fun {i o} e => dG.of (by rw [e]; simp)
    refine ⟨rec, Sub.right dG _ _ L.r, by rw [hrec]; rfl, HRound_of ?_⟩
    obtain ⟨s, hs⟩ : ∃ s, s = (splitB 10 t)[i] := ⟨_, rfl⟩
    rw [← hs]
    rw [show ((rec.params.zip [Value.int .i64 ((i : Int) + 1), Value.string ⟨s.toArray⟩].toArray).foldl (fun tmps (t, a) => tmps.setIfInBounds t a) rec.tmps) = ((E.set 14 (.int .i64 ((i : Int) + 1))).set 15 (.string ⟨s.toArray⟩)).toArray from by rw [hrec]; simp]
    rw [show rec.assign = ca from by rw [hrec], show rec.body = cb from by rw [hrec]]
    have hsl : s.length ≤ t.length := (splitB_len 10 t).2 s (by rw [hs]; exact List.getElem_mem hi)
    refine HC_vr oa qa ?_
    rw [hE]
    simp only [walk, lists, acts, mem, plain, seqs, maps, cells, resL, resV, intBin, ↓reduceIte, Nat.reduceAdd, Nat.reduceSub, Nat.reduceMul, Nat.reduceLeDiff, Nat.reduceEqDiff, Int.reduceToNat, Int.reduceEq, Int.reduceLT, Int.reduceLE, Int.reduceNeg, Int.reduceAdd, Int.reduceSub, Int.reduceMul, Nat.reducePow, Int.reduceNegSucc, toks, beginQ]
    refine ⟨rec, Sub.right dG _ _ L.r, by rw [hrec], ?_⟩
    rw [hupd_app (nG L.r)]
    have L2 := L.setL (rec' := { rec with state := .busy })
    obtain ⟨B2, hB2⟩ : ∃ B2, B2 = hupd B l (.loop { rec with state := .busy }) := ⟨_, rfl⟩
    rw [← hB2] at L2 ⊢
    have dG2 : Dj G B2 := by rw [hB2]; exact dG.upd
    have sB2 := L2.s.trans (Sub.right dG2)
    refine HC.drop (HC_vr ob qb ?_)
    have zs := zTollEvent_eq
    simp only [str] at zs
    simp only [walk, lists, acts, mem, plain, seqs, maps, cells, resL, resV, intBin, ↓reduceIte, Nat.reduceAdd, Nat.reduceSub, Nat.reduceMul, Nat.reduceLeDiff, Nat.reduceEqDiff, Int.reduceToNat, Int.reduceEq, Int.reduceLT, Int.reduceLE, Int.reduceNeg, Int.reduceAdd, Int.reduceSub, Int.reduceMul, Nat.reducePow, Int.reduceNegSucc, str, zs]
    refine readLine_c (gl.sub sB2) (by omega) fun e ok he => ?_
    simp only [walk, lists, acts, mem, plain, seqs, maps, cells, resL, resV, intBin, ↓reduceIte, Nat.reduceAdd, Nat.reduceSub, Nat.reduceMul, Nat.reduceLeDiff, Nat.reduceEqDiff, Int.reduceToNat, Int.reduceEq, Int.reduceLT, Int.reduceLE, Int.reduceNeg, Int.reduceAdd, Int.reduceSub, Int.reduceMul, Nat.reducePow, Int.reduceNegSucc, str, zs]
    refine newB_intro fun j7 h7 => ?_
    have n7 := h7
    simp only [subs] at n7
    have s7 := fun o => Sub.cons (o := o) h7 (Sub.refl (G ++ B2))
    have nj : ¬ j4 = j7 ∧ ¬ j2 = j7 ∧ ¬ j3 = j7 ∧ ¬ l = j7 := by
      refine ⟨?_, ?_, ?_, ?_⟩ <;> rintro rfl
      · rw [L2.a] at n7; exact absurd n7.2 (by simp)
      · rw [L2.b] at n7; exact absurd n7.2 (by simp)
      · rw [L2.c] at n7; exact absurd n7.2 (by simp)
      · rw [L2.r] at n7; exact absurd n7.2 (by simp)
    simp only [walk, lists, acts, mem, plain, seqs, maps, cells, resL, resV, intBin, ↓reduceIte, Nat.reduceAdd, Nat.reduceSub, Nat.reduceMul, Nat.reduceLeDiff, Nat.reduceEqDiff, Int.reduceToNat, Int.reduceEq, Int.reduceLT, Int.reduceLE, Int.reduceNeg, Int.reduceAdd, Int.reduceSub, Int.reduceMul, Nat.reducePow, Int.reduceNegSucc, wTollEvent, str, zs]
    have w2 : hwrite B2 j2 0 [.slice none 0 0] = some B2 := by rw [hwrite_one (b := .slice none 0 0) L2.b, hupd_self _ _ _ L2.b]
    have w3 := hwrite_one (b := .int .i64 ((i : Int) + 1)) L2.c
    have m2 := dG2.of (i := j2) (by rw [L2.b]; simp)
    have m3 := dG2.of (i := j3) (by rw [L2.c]; simp)
    have m4 := dG2.of (i := j4) (by rw [L2.a]; simp)
    have ml := dG2.of (i := l) (by rw [L2.r]; simp)
    refine ite_f (fun e0 => ?_) fun e1 => ?_
    · subst e0
      rcases he with ⟨x, _⟩ | ⟨_, he⟩
      · cases x
      simp only [walk, lists, acts, mem, plain, seqs, maps, cells, resL, resV, intBin, ↓reduceIte, Nat.reduceAdd, Nat.reduceSub, Nat.reduceMul, Nat.reduceLeDiff, Nat.reduceEqDiff, Int.reduceToNat, Int.reduceEq, Int.reduceLT, Int.reduceLE, Int.reduceNeg, Int.reduceAdd, Int.reduceSub, Int.reduceMul, Nat.reducePow, Int.reduceNegSucc, nj, apps.2.2, m2, m3, w2, w3, Option.map_some, toks]
      have L3 := L2.setN (n' := (i : Int) + 1)
      have L4 := L3.setL (rec' := { rec with state := .done, pending := some .ret })
      refine dP.of ⟨{ rec with state := .busy }, ?_, .inr ⟨rfl, _, (i : Int) + 1, v, _, ?_, rfl, rfl, L4, .inr (.inr ⟨ht6, rfl, i, hi, ?_, fun j hj => hg j hj (by omega), rfl⟩)⟩⟩
      · rw [hget_cons, if_neg nj.2.2.2, hget_app, ml]
        exact L3.r
      · rw [hupd_cons, if_neg nj.2.2.2, hupd_app ml]
        refine Sub.cons ?_ (Sub.right dG2.upd.upd)
        simp only [subs]
        exact ⟨n7.1, hget_hupd_none.2 (hget_hupd_none.2 n7.2)⟩
      · rintro (x | ⟨e', x⟩)
        · exact hne0 x
        · exact he e' (hs ▸ x)
    · subst e1
      rcases he with ⟨_, he⟩ | ⟨x, _⟩
      rotate_left
      · cases x
      have c4 := hcel_one L2.a
      simp only [walk, lists, acts, mem, plain, seqs, maps, cells, resL, resV, intBin, ↓reduceIte, Nat.reduceAdd, Nat.reduceSub, Nat.reduceMul, Nat.reduceLeDiff, Nat.reduceEqDiff, Int.reduceToNat, Int.reduceEq, Int.reduceLT, Int.reduceLE, Int.reduceNeg, Int.reduceAdd, Int.reduceSub, Int.reduceMul, Nat.reducePow, Int.reduceNegSucc, nj, apps, m4, c4, toks, wTollEvent, str, zs]
      refine newB_intro (o := blk (fl cTollEvent [e]) 41) fun j8 h8 => ?_
      simp only [walk, lists, acts, mem, plain, seqs, maps, cells, resL, resV, intBin, ↓reduceIte, Nat.reduceAdd, Nat.reduceSub, Nat.reduceMul, Nat.reduceLeDiff, Nat.reduceEqDiff, Int.reduceToNat, Int.reduceEq, Int.reduceLT, Int.reduceLE, Int.reduceNeg, Int.reduceAdd, Int.reduceSub, Int.reduceMul, Nat.reducePow, Int.reduceNegSucc, nj, apps, m4, c4, toks, wTollEvent, str, zs]
      refine app_leaf (g := G) (h := B2) eE_len eE_one tEvents iEvent ((s7 _).trans (Sub.cons h8 (Sub.refl _))) dG2 oG (rL_lit (e := 41) eE_len [e]) (by have := List.length_filterMap_le evO ((splitB 10 t).take i); rw [List.length_take] at this; have := lines_n t; simp; omega) (by have := List.length_filterMap_le evO ((splitB 10 t).take i); rw [List.length_take] at this; have := lines_n t; simp; omega) fun v3 g3 o3 d3 => ?_
      have m43 := d3.of (i := j4) (by rw [L2.a]; simp)
      have ml3 := d3.of (i := l) (by rw [L2.r]; simp)
      have w4 := hwrite_one (b := v3) L2.a
      have on3 : vone v3 = true := rdS.one o3.rd
      have vc3 := vcells_one on3
      simp only [walk, lists, acts, mem, plain, seqs, maps, cells, resL, resV, intBin, ↓reduceIte, Nat.reduceAdd, Nat.reduceSub, Nat.reduceMul, Nat.reduceLeDiff, Nat.reduceEqDiff, Int.reduceToNat, Int.reduceEq, Int.reduceLT, Int.reduceLE, Int.reduceNeg, Int.reduceAdd, Int.reduceSub, Int.reduceMul, Nat.reducePow, Int.reduceNegSucc, apps.2.2, m43, w4, Option.map_some, toks, vc3, on3]
      have L3 := L2.setV (v' := v3)
      have L4 := L3.setL (rec' := { rec with state := .ready, pending := none })
      refine dP.of ⟨{ rec with state := .busy }, ?_, .inl ⟨rfl, v3, g3, _, hupd_app ml3, d3.upd.upd, ?_, ?_, fun j hj hj2 => ?_⟩⟩
      · rw [hget_app, ml3]
        exact L3.r
      · have er : ({ rec with state := .ready, pending := none } : Loop) = rec := by rw [hrec]
        rw [er] at L4
        show LpB rec l D j4 j2 j3 25 3 v3 0 h (hupd (hupd B2 j4 (blk [v3] 25)) l (.loop { state := .ready, pending := none, fn := rec.fn, tmps := rec.tmps, params := rec.params, assign := rec.assign, body := rec.body, defers := rec.defers }))
        have er2 : ({ state := .ready, pending := none, fn := rec.fn, tmps := rec.tmps, params := rec.params, assign := rec.assign, body := rec.body, defers := rec.defers } : Loop) = rec := by rw [hrec]
        rw [er2]; exact L4
      · rw [List.take_succ_eq_append_getElem hi, List.filterMap_append, ← hs]
        simp only [List.filterMap_cons, List.filterMap_nil, evO_fit he]
        exact o3
      · by_cases e2 : j = i
        · subst e2; exact .inr ⟨e, hs ▸ he⟩
        · exact hg j (by omega) hj2
  · rintro i hi X ⟨v, G, B, rfl, dG, L, oG, hg⟩ he
    refine ⟨v, G, B, rfl, dG, L, ?_, fun j hj hj2 => ?_⟩
    · rw [List.take_succ_eq_append_getElem hi, List.filterMap_append, he]
      simp only [List.filterMap_cons, List.filterMap_nil, evO_nil, List.append_nil]
      exact oG
    · by_cases e : j = i
      · subst e; exact .inl he
      · exact hg j (by omega) hj2
  · rintro X ⟨v, G, B, rfl, dG, L, oG, hg⟩
    rw [List.take_length] at oG
    have nG : ∀ {i : Nat} {o : Obj}, hget B i = some o → hget G i = none := fun {i o} e => dG.of (by rw [e]; simp)
    refine ⟨rec, Sub.right dG _ _ L.r, by rw [hrec]; simp, ?_⟩
    rw [show rec.pending = none from by rw [hrec]]
    show HC none Tryd.prog c5 (bodyM Tryd.prog Tryd.f11 (dP R)) _ _
    rw [hupd_app (nG L.r)]
    have L2 := L.setL (rec' := { rec with state := .exhausted, pending := none })
    obtain ⟨B2, hB2⟩ : ∃ B2, B2 = hupd B l (.loop { rec with state := .exhausted, pending := none }) := ⟨_, rfl⟩
    rw [← hB2] at L2 ⊢
    have dG2 : Dj G B2 := by rw [hB2]; exact dG.upd
    have m2 := dG2.of (i := j2) (by rw [L2.b]; simp)
    have m3 := dG2.of (i := j3) (by rw [L2.c]; simp)
    have m4 := dG2.of (i := j4) (by rw [L2.a]; simp)
    have mD := dG2.of (i := D) (by rw [L2.d]; simp)
    refine HC_vc q5 ?_
    have c4 := hcel_one L2.a
    rw [hE]
    have on4 : vone v = true := rdS.one oG.rd
    have vc4 := vcells_one on4
    obtain ⟨B3, hB3⟩ : ∃ B3, B3 = hupd B2 j2 (blk [v] 25) := ⟨_, rfl⟩
    have b2 : hget B3 j2 = some (blk [v] 25) := by rw [hB3]; exact hget_hupd_same L2.b
    have b3 : hget B3 j3 = some (blk [.int .i64 0] 3) := by rw [hB3]; exact (hget_hupd_ne L2.b3.symm).trans L2.c
    have bD : hget B3 D = some (.deferred (some [])) := by rw [hB3]; exact (hget_hupd_ne L2.d2).trans L2.d
    have dG3 : Dj G B3 := by rw [hB3]; exact dG2.upd
    have w2 := hwrite_one (b := v) L2.b
    rw [← hB3] at w2
    have w3 : hwrite B3 j3 0 [.int .i64 0] = some B3 := by rw [hwrite_one (b := .int .i64 0) b3, hupd_self _ _ _ b3]
    simp only [walk, lists, acts, mem, plain, seqs, maps, cells, resL, resV, intBin, ↓reduceIte, Nat.reduceAdd, Nat.reduceSub, Nat.reduceMul, Nat.reduceLeDiff, Nat.reduceEqDiff, Int.reduceToNat, Int.reduceEq, Int.reduceLT, Int.reduceLE, Int.reduceNeg, Int.reduceAdd, Int.reduceSub, Int.reduceMul, Nat.reducePow, Int.reduceNegSucc, apps, m2, m3, m4, c4, toks, vc4, on4, w2, w3, Option.map_some]
    refine bodyM_mark (D := D) ?_ hr ?_
    · rw [hget_app, mD]; exact bD
    · rw [hupd_app mD]
      have u2 := hcel_one ((hget_hupd_ne (o := .deferred none) L2.d2.symm).trans b2)
      have u3 := hcel_one ((hget_hupd_ne (o := .deferred none) L2.d3.symm).trans b3)
      simp only [walk, lists, acts, mem, plain, seqs, maps, cells, resL, resV, intBin, ↓reduceIte, Nat.reduceAdd, Nat.reduceSub, Nat.reduceMul, Nat.reduceLeDiff, Nat.reduceEqDiff, Int.reduceToNat, Int.reduceEq, Int.reduceLT, Int.reduceLE, Int.reduceNeg, Int.reduceAdd, Int.reduceSub, Int.reduceMul, Nat.reducePow, Int.reduceNegSucc, apps, m2, m3, u2, u3]
      refine ⟨G ++ h, ?_, k v G _ 0 (.inr (.inl ⟨ht6, fun s hs => ?_, rfl, rfl⟩)) oG (dG2.sub (Sub.refl _) L2.s)⟩
      · refine Sub.both (Sub.left _ _) (Sub.app dG3.upd ?_)
        rw [hB3]
        exact (L2.s.wr L2.h2).wr L2.hD
      · obtain ⟨j, hj, rfl⟩ := List.getElem_of_mem hs
        exact hg j hj hj
  · rintro X ⟨rc, n, v, B, sB, hs1, hs2, L, O⟩
    obtain ⟨st, pd, f0, tm, pr, as_, bd, df⟩ := rc
    dsimp only at hs1 hs2
    subst hs1
    subst hs2
    refine ⟨_, sB _ _ L.r, by simp, ?_⟩
    show bodyM Tryd.prog Tryd.f11 (dP R) .ret _ _
    have L2 := L.setL (rec' := ⟨.exhausted, some .ret, f0, tm, pr, as_, bd, df⟩)
    rw [hE]
    have s2 : Tk.Sub (hupd B l (.loop ⟨.exhausted, some .ret, f0, tm, pr, as_, bd, df⟩)) (hupd X l (.loop ⟨.exhausted, some .ret, f0, tm, pr, as_, bd, df⟩)) := fun i o e => by
      by_cases c : i = l
      · subst c
        rw [hget_hupd_same L.r] at e
        rw [hget_hupd_same (sB _ _ L.r)]; exact e
      · rw [hget_hupd_ne c] at e ⊢
        exact sB _ _ e
    have s3 : Tk.Sub (hupd (hupd B l (.loop ⟨.exhausted, some .ret, f0, tm, pr, as_, bd, df⟩)) D (.deferred none)) (hupd (hupd X l (.loop ⟨.exhausted, some .ret, f0, tm, pr, as_, bd, df⟩)) D (.deferred none)) := fun i o e => by
      by_cases c : i = D
      · subst c
        rw [hget_hupd_same L2.d] at e
        rw [hget_hupd_same (s2 _ _ L2.d)]; exact e
      · rw [hget_hupd_ne c] at e ⊢
        exact s2 _ _ e
    refine bodyM_mark (D := D) (s2 _ _ L2.d) hr ?_
    have u := L2.setD
    have u2 := hcel_one (s3 _ _ u.2.1)
    have u3 := hcel_one (s3 _ _ u.2.2.1)
    simp only [walk, lists, acts, mem, plain, seqs, maps, cells, resL, resV, intBin, ↓reduceIte, Nat.reduceAdd, Nat.reduceSub, Nat.reduceMul, Nat.reduceLeDiff, Nat.reduceEqDiff, Int.reduceToNat, Int.reduceEq, Int.reduceLT, Int.reduceLE, Int.reduceNeg, Int.reduceAdd, Int.reduceSub, Int.reduceMul, Nat.reducePow, Int.reduceNegSucc, u2, u3]
    exact ⟨h, u.1.trans s3, k _ [] [] _ O (ows.nil _ _) (Dj.nil _)⟩

theorem exactTollRead_c {h : H} {t : List UInt8} (gl : Gl h) (gm : MxL h) {R : Ending → H → Prop} (k : R (.returned (.bool true)) h) : HCalls Tryd.prog 4 #[.string ⟨t.toArray⟩] h R :=
  exactTollRead_of (G := fun h => Gl h ∧ MxL h) (fun g ht _ k => implTollRead_c g.1 g.2 ht k) (fun g s => ⟨g.1.sub s, g.2.sub s⟩) ⟨gl, gm⟩ k
end Go.Proofs.YtdlgaidjlepepaaDoor
