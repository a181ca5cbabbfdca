/- Parts of the proof, put together: V6, V7, V8, V9, V12, V13. -/
import Derived.Test.YtfkkjjballajaaaDoorK510
import Derived.Test.YtfkkjjballajaaaDoorK56
/- How the program writes a deal. -/
section
set_option linter.unusedVariables false
set_option linter.unusedSimpArgs false
set_option maxRecDepth 20000
attribute [local irreducible] Go.Tk.vc Go.Tk.vops Go.Tk.vdr Go.Tk.vop Go.Tk.vfl Go.Tk.HCalls
namespace Go.Proofs.YtfkkjjballajaaaDoor
open Go Go.Tk

theorem get_text_c {h : H} {a : Int} (gl : Gl h) (ha : i64P a) {R : Ending → H → Prop} (k : R (.returned (.string ⟨([103, 101, 116, 32] ++ decI a ++ [59]).toArray⟩)) h) :
    HCalls Tryd.prog 128 #[.agg #[.int .i64 a]] h R := by
  refine HCalls_ir (args := [.agg [.int .i64 a].toArray]) Tryd.func128 ir128 ?_
  have la := decI_len' ha
  simp only [walk, lists, acts, mem, plain, seqs, maps, cells, resL, resV, intBin, ↓reduceIte, Nat.reduceAdd, Nat.reduceSub, Nat.reduceMul, Nat.reduceLeDiff, Nat.reduceEqDiff, Int.reduceToNat, Int.reduceEq, Int.reduceLT, Int.reduceLE, Int.reduceNeg, Int.reduceAdd, Int.reduceSub, Int.reduceMul, Nat.reducePow, Int.reduceNegSucc, str]
  refine newB_intro fun j hj => ?_
  have sj := fun o => Sub.cons (o := o) hj (Sub.refl h)
  simp only [walk, lists, acts, mem, plain, seqs, maps, cells, resL, resV, intBin, ↓reduceIte, Nat.reduceAdd, Nat.reduceSub, Nat.reduceMul, Nat.reduceLeDiff, Nat.reduceEqDiff, Int.reduceToNat, Int.reduceEq, Int.reduceLT, Int.reduceLE, Int.reduceNeg, Int.reduceAdd, Int.reduceSub, Int.reduceMul, Nat.reducePow, Int.reduceNegSucc, str]
  refine itoa_c (gl.sub (sj _)) ha ?_
  simp (disch := (first | assumption | (simp only [List.length_append, List.length_cons, List.length_nil]; omega) | omega)) only [walk, lists, acts, mem, plain, seqs, maps, cells, resL, resV, intBin, ↓reduceIte, Nat.reduceAdd, Nat.reduceSub, Nat.reduceMul, Nat.reduceLeDiff, Nat.reduceEqDiff, Int.reduceToNat, Int.reduceEq, Int.reduceLT, Int.reduceLE, Int.reduceNeg, Int.reduceAdd, Int.reduceSub, Int.reduceMul, Nat.reducePow, Int.reduceNegSucc, str, str_add]
  exact ⟨h, sj _, k⟩
theorem putStep_text_c {h : H} {a b : Int} (gl : Gl h) (ha : i64P a) (hb : i64P b) {R : Ending → H → Prop} (k : R (.returned (.string ⟨([112, 117, 116] ++ 32 :: (decI a ++ 32 :: (decI b ++ [59]))).toArray⟩)) h) :
    HCalls Tryd.prog 129 #[.agg #[.int .i64 a, .int .i64 b]] h R := by
  refine HCalls_ir (args := [.agg [.int .i64 a, .int .i64 b].toArray]) Tryd.func129 ir129 ?_
  simp only [walk, lists, acts, mem, plain, seqs, maps, cells, resL, resV, intBin, ↓reduceIte, Nat.reduceAdd, Nat.reduceSub, Nat.reduceMul, Nat.reduceLeDiff, Nat.reduceEqDiff, Int.reduceToNat, Int.reduceEq, Int.reduceLT, Int.reduceLE, Int.reduceNeg, Int.reduceAdd, Int.reduceSub, Int.reduceMul, Nat.reducePow, Int.reduceNegSucc, str]
  refine newB_intro fun j hj => ?_
  have sj := fun o => Sub.cons (o := o) hj (Sub.refl h)
  simp only [walk, lists, acts, mem, plain, seqs, maps, cells, resL, resV, intBin, ↓reduceIte, Nat.reduceAdd, Nat.reduceSub, Nat.reduceMul, Nat.reduceLeDiff, Nat.reduceEqDiff, Int.reduceToNat, Int.reduceEq, Int.reduceLT, Int.reduceLE, Int.reduceNeg, Int.reduceAdd, Int.reduceSub, Int.reduceMul, Nat.reducePow, Int.reduceNegSucc, str]
  refine numText_c (gl.sub (sj _)) (by decide) ha hb ?_
  simp only [walk, lists, acts, mem, plain, seqs, maps, cells, resL, resV, intBin, ↓reduceIte, Nat.reduceAdd, Nat.reduceSub, Nat.reduceMul, Nat.reduceLeDiff, Nat.reduceEqDiff, Int.reduceToNat, Int.reduceEq, Int.reduceLT, Int.reduceLE, Int.reduceNeg, Int.reduceAdd, Int.reduceSub, Int.reduceMul, Nat.reducePow, Int.reduceNegSucc, str]
  exact ⟨h, sj _, k⟩
theorem addStep_text_c {h : H} {a b : Int} (gl : Gl h) (ha : i64P a) (hb : i64P b) {R : Ending → H → Prop} (k : R (.returned (.string ⟨([97, 100, 100] ++ 32 :: (decI a ++ 32 :: (decI b ++ [59]))).toArray⟩)) h) :
    HCalls Tryd.prog 131 #[.agg #[.int .i64 a, .int .i64 b]] h R := by
  refine HCalls_ir (args := [.agg [.int .i64 a, .int .i64 b].toArray]) Tryd.func131 ir131 ?_
  simp only [walk, lists, acts, mem, plain, seqs, maps, cells, resL, resV, intBin, ↓reduceIte, Nat.reduceAdd, Nat.reduceSub, Nat.reduceMul, Nat.reduceLeDiff, Nat.reduceEqDiff, Int.reduceToNat, Int.reduceEq, Int.reduceLT, Int.reduceLE, Int.reduceNeg, Int.reduceAdd, Int.reduceSub, Int.reduceMul, Nat.reducePow, Int.reduceNegSucc, str]
  refine newB_intro fun j hj => ?_
  have sj := fun o => Sub.cons (o := o) hj (Sub.refl h)
  simp only [walk, lists, acts, mem, plain, seqs, maps, cells, resL, resV, intBin, ↓reduceIte, Nat.reduceAdd, Nat.reduceSub, Nat.reduceMul, Nat.reduceLeDiff, Nat.reduceEqDiff, Int.reduceToNat, Int.reduceEq, Int.reduceLT, Int.reduceLE, Int.reduceNeg, Int.reduceAdd, Int.reduceSub, Int.reduceMul, Nat.reducePow, Int.reduceNegSucc, str]
  refine numText_c (gl.sub (sj _)) (by decide) ha hb ?_
  simp only [walk, lists, acts, mem, plain, seqs, maps, cells, resL, resV, intBin, ↓reduceIte, Nat.reduceAdd, Nat.reduceSub, Nat.reduceMul, Nat.reduceLeDiff, Nat.reduceEqDiff, Int.reduceToNat, Int.reduceEq, Int.reduceLT, Int.reduceLE, Int.reduceNeg, Int.reduceAdd, Int.reduceSub, Int.reduceMul, Nat.reducePow, Int.reduceNegSucc, str]
  exact ⟨h, sj _, k⟩
theorem needStep_text_c {h : H} {a b : Int} (gl : Gl h) (ha : i64P a) (hb : i64P b) {R : Ending → H → Prop} (k : R (.returned (.string ⟨([110, 101, 101, 100] ++ 32 :: (decI a ++ 32 :: (decI b ++ [59]))).toArray⟩)) h) :
    HCalls Tryd.prog 132 #[.agg #[.int .i64 a, .int .i64 b]] h R := by
  refine HCalls_ir (args := [.agg [.int .i64 a, .int .i64 b].toArray]) Tryd.func132 ir132 ?_
  simp only [walk, lists, acts, mem, plain, seqs, maps, cells, resL, resV, intBin, ↓reduceIte, Nat.reduceAdd, Nat.reduceSub, Nat.reduceMul, Nat.reduceLeDiff, Nat.reduceEqDiff, Int.reduceToNat, Int.reduceEq, Int.reduceLT, Int.reduceLE, Int.reduceNeg, Int.reduceAdd, Int.reduceSub, Int.reduceMul, Nat.reducePow, Int.reduceNegSucc, str]
  refine newB_intro fun j hj => ?_
  have sj := fun o => Sub.cons (o := o) hj (Sub.refl h)
  simp only [walk, lists, acts, mem, plain, seqs, maps, cells, resL, resV, intBin, ↓reduceIte, Nat.reduceAdd, Nat.reduceSub, Nat.reduceMul, Nat.reduceLeDiff, Nat.reduceEqDiff, Int.reduceToNat, Int.reduceEq, Int.reduceLT, Int.reduceLE, Int.reduceNeg, Int.reduceAdd, Int.reduceSub, Int.reduceMul, Nat.reducePow, Int.reduceNegSucc, str]
  refine numText_c (gl.sub (sj _)) (by decide) ha hb ?_
  simp only [walk, lists, acts, mem, plain, seqs, maps, cells, resL, resV, intBin, ↓reduceIte, Nat.reduceAdd, Nat.reduceSub, Nat.reduceMul, Nat.reduceLeDiff, Nat.reduceEqDiff, Int.reduceToNat, Int.reduceEq, Int.reduceLT, Int.reduceLE, Int.reduceNeg, Int.reduceAdd, Int.reduceSub, Int.reduceMul, Nat.reducePow, Int.reduceNegSucc, str]
  exact ⟨h, sj _, k⟩
theorem step_text_c {h : H} {s : DStatement} (gl : Gl h) (hp : stP s) {R : Ending → H → Prop} (k : R (.returned (.string ⟨(stText s).toArray⟩)) h) : invK Tryd.prog (stepV s) "loop.example/turnpike/impl.text" [] h R := by
  obtain ⟨hd, hk, hv, _⟩ := hp
  unfold inP at hd
  have ik : i64P s.key := by unfold inP at hk; unfold i64P; omega
  have iv : i64P s.num := by unfold valP inP at hv; unfold i64P; omega
  rw [stText_W] at k
  unfold stW nmD at k
  unfold stepV
  split
  · rename_i c
    rw [if_pos c, if_pos c] at k
    refine ⟨128, .agg #[.int .i64 s.key], by kernel_rfl, by kernel_rfl, get_text_c gl ik ?_⟩
    simpa using k
  · rename_i c
    rw [if_neg c, if_neg c] at k
    split
    · rename_i c2
      rw [if_pos c2] at k
      refine ⟨129, .agg #[.int .i64 s.key, .int .i64 s.num], by kernel_rfl, by kernel_rfl, putStep_text_c gl ik iv ?_⟩
      simpa using k
    · rename_i c2
      rw [if_neg c2] at k
      split
      · rename_i c3
        rw [if_pos c3] at k
        refine ⟨131, .agg #[.int .i64 s.key, .int .i64 s.num], by kernel_rfl, by kernel_rfl, addStep_text_c gl ik iv ?_⟩
        simpa using k
      · rename_i c3
        rw [if_neg c3] at k
        refine ⟨132, .agg #[.int .i64 s.key, .int .i64 s.num], by kernel_rfl, by kernel_rfl, needStep_text_c gl ik iv ?_⟩
        simpa using k

theorem implDealWrite_c {h : H} {v : Value} {l : List DStatement} (gl : Gl h) (r : rLs h cStatement 3 v l) (hl : l.length ≤ 1099511627776) {R : Ending → H → Prop} (k : ∀ t, dealT l t → R (.returned (.string ⟨t.toArray⟩)) h) :
    HCalls Tryd.prog 11 #[v] h R := by
  refine HCalls_ir (args := [v]) Tryd.func11 ir11 ?_
  simp only [walk, lists, acts, mem, plain, seqs, maps, cells, resL, resV, intBin, ↓reduceIte, Nat.reduceAdd, Nat.reduceSub, Nat.reduceMul, Nat.reduceLeDiff, Nat.reduceEqDiff, Int.reduceToNat, Int.reduceEq, Int.reduceLT, Int.reduceLE, Int.reduceNeg, Int.reduceAdd, Int.reduceSub, Int.reduceMul, Nat.reducePow, Int.reduceNegSucc, str]
  refine stepsOf_c r hl (fun p v' g o d => ?_) fun p => ?_
  · have sg := Sub.right d
    simp only [walk, lists, acts, mem, plain, seqs, maps, cells, resL, resV, intBin, ↓reduceIte, Nat.reduceAdd, Nat.reduceSub, Nat.reduceMul, Nat.reduceLeDiff, Nat.reduceEqDiff, Int.reduceToNat, Int.reduceEq, Int.reduceLT, Int.reduceLE, Int.reduceNeg, Int.reduceAdd, Int.reduceSub, Int.reduceMul, Nat.reducePow, Int.reduceNegSucc, str]
    refine newB_intro fun jb hjb => ?_
    have nb := hjb
    simp only [subs] at nb
    simp only [walk, lists, acts, mem, plain, seqs, maps, cells, resL, resV, intBin, ↓reduceIte, Nat.reduceAdd, Nat.reduceSub, Nat.reduceMul, Nat.reduceLeDiff, Nat.reduceEqDiff, Int.reduceToNat, Int.reduceEq, Int.reduceLT, Int.reduceLE, Int.reduceNeg, Int.reduceAdd, Int.reduceSub, Int.reduceMul, Nat.reducePow, Int.reduceNegSucc, str, o.rd.len]
    obtain ⟨B, hB⟩ : ∃ B, B = g ++ h := ⟨_, rfl⟩
    rw [← hB] at sg
    have rB : rLs B eStep 1 v' l := o.rd.sub (by rw [hB]; exact Sub.left _ _)
    rw [← hB] at hjb ⊢
    have hlt := fun i => dealText_len (l := l.take i) fun x hx => p.2.2 x (List.mem_of_mem_take hx)
    refine vc_loop [17] (fun n vs h' => ∃ (i : Nat) (G : H), vs = [.int .i64 i] ∧ h' = G ++ B ∧ oB jb (dealText (l.take i)) G ∧ Dj G B ∧ i ≤ l.length ∧ n = l.length - i) l.length rfl
      ⟨0, _, rfl, rfl, oB_new, by simp only [subs, hjb], by omega, rfl⟩ ?_
    rintro n f h' ⟨i, G, hv, rfl, oG, dG, hi, rfl⟩
    simp only [List.map_cons, List.map_nil, List.cons.injEq, and_true] at hv
    have sG := Sub.right dG
    simp only [walk, lists, acts, mem, plain, seqs, maps, cells, resL, resV, intBin, ↓reduceIte, Nat.reduceAdd, Nat.reduceSub, Nat.reduceMul, Nat.reduceLeDiff, Nat.reduceEqDiff, Int.reduceToNat, Int.reduceEq, Int.reduceLT, Int.reduceLE, Int.reduceNeg, Int.reduceAdd, Int.reduceSub, Int.reduceMul, Nat.reducePow, Int.reduceNegSucc, wr, hv, str]
    refine ite_lt (fun c2 => ?_) fun c2 => ?_
    · have hi2 : i < l.length := by omega
      refine idx_leaf (i := i) eStep_len (rB.sub sG) rfl hi2 fun b1 o1 e1 => ?_
      have e1' : hread (G ++ B) b1 o1 1 = some [stepV l[i]] := e1
      have st := p.2.2 _ (List.getElem_mem hi2)
      have h60 := stText_len st
      have hli := hlt i
      rw [List.length_take] at hli
      have h6 := p.2.1
      simp only [walk, lists, acts, mem, plain, seqs, maps, cells, resL, resV, intBin, ↓reduceIte, Nat.reduceAdd, Nat.reduceSub, Nat.reduceMul, Nat.reduceLeDiff, Nat.reduceEqDiff, Int.reduceToNat, Int.reduceEq, Int.reduceLT, Int.reduceLE, Int.reduceNeg, Int.reduceAdd, Int.reduceSub, Int.reduceMul, Nat.reducePow, Int.reduceNegSucc, hread_1 e1', str]
      refine step_text_c (gl.sub (sg.trans sG)) st ?_
      simp only [walk, lists, acts, mem, plain, seqs, maps, cells, resL, resV, intBin, ↓reduceIte, Nat.reduceAdd, Nat.reduceSub, Nat.reduceMul, Nat.reduceLeDiff, Nat.reduceEqDiff, Int.reduceToNat, Int.reduceEq, Int.reduceLT, Int.reduceLE, Int.reduceNeg, Int.reduceAdd, Int.reduceSub, Int.reduceMul, Nat.reducePow, Int.reduceNegSucc, str]
      refine bws_c oG dG (by omega) fun G2 o2 d2 => ?_
      simp (disch := omega) only [walk, lists, acts, mem, plain, seqs, maps, cells, resL, resV, intBin, ↓reduceIte, Nat.reduceAdd, Nat.reduceSub, Nat.reduceMul, Nat.reduceLeDiff, Nat.reduceEqDiff, Int.reduceToNat, Int.reduceEq, Int.reduceLT, Int.reduceLE, Int.reduceNeg, Int.reduceAdd, Int.reduceSub, Int.reduceMul, Nat.reducePow, Int.reduceNegSucc, wrapI]
      refine ⟨l.length - (i + 1), by omega, _, .refl _, i + 1, G2, by simp, rfl, ?_, d2, by omega, rfl⟩
      rw [List.take_succ_eq_append_getElem hi2, dealText_app, dealText_one]; exact o2
    · have hi2 : i = l.length := by omega
      subst hi2
      have hli := hlt l.length
      rw [List.take_length] at oG hli
      have h6 := p.2.1
      refine bstr_c oG dG (by omega) ?_
      simp only [walk, lists, acts, mem, plain, seqs, maps, cells, resL, resV, intBin, ↓reduceIte, Nat.reduceAdd, Nat.reduceSub, Nat.reduceMul, Nat.reduceLeDiff, Nat.reduceEqDiff, Int.reduceToNat, Int.reduceEq, Int.reduceLT, Int.reduceLE, Int.reduceNeg, Int.reduceAdd, Int.reduceSub, Int.reduceMul, Nat.reducePow, Int.reduceNegSucc]
      exact ⟨h, sg, k _ (.inl ⟨p, rfl⟩)⟩
  · simp only [walk, lists, acts, mem, plain, seqs, maps, cells, resL, resV, intBin, ↓reduceIte, Nat.reduceAdd, Nat.reduceSub, Nat.reduceMul, Nat.reduceLeDiff, Nat.reduceEqDiff, Int.reduceToNat, Int.reduceEq, Int.reduceLT, Int.reduceLE, Int.reduceNeg, Int.reduceAdd, Int.reduceSub, Int.reduceMul, Nat.reducePow, Int.reduceNegSucc, str]
    exact .of (k _ (.inr ⟨p, rfl⟩))
end Go.Proofs.YtfkkjjballajaaaDoor
end

/- How the program reads a deal. -/
section
set_option linter.unusedVariables false
set_option linter.unusedSimpArgs false
set_option maxRecDepth 20000
attribute [local irreducible] Go.Tk.vc Go.Tk.vops Go.Tk.vdr Go.Tk.vop Go.Tk.vfl Go.Tk.HCalls
namespace Go.Proofs.YtfkkjjballajaaaDoor
open Go Go.Tk

theorem implRead_c {h : H} {s : List UInt8} (gl : Gl h) (gm : MxL h) (hs : s.length ≤ 4194304) {R : Ending → H → Prop} (k : ∀ v g l ok, OutD s l ok → oLs 52 cStatement 3 v l g → Dj g h → R (.returned (.tuple #[v, .bool ok])) (g ++ h)) :
    HCalls Tryd.prog 13 #[.string ⟨s.toArray⟩] h R := by
  refine HCalls_ir (args := [.string ⟨s.toArray⟩]) Tryd.func13 ir13 ?_
  have zs := zStatement_eq
  have bad : ∀ {M : H}, Tk.Sub h M → (∀ d, dealP d → s = dealText d → s.length ≤ 80 → False) → dP R (.returned (.tuple #[.slice none 0 0, .bool false])) M := fun {M} sM e => ⟨h, sM, k _ [] [] false (.inr ⟨rfl, rfl, e⟩) (ows.nil _ _) (Dj.nil _)⟩
  simp only [walk, lists, acts, mem, plain, seqs, maps, cells, resL, resV, intBin, ↓reduceIte, Nat.reduceAdd, Nat.reduceSub, Nat.reduceMul, Nat.reduceLeDiff, Nat.reduceEqDiff, Int.reduceToNat, Int.reduceEq, Int.reduceLT, Int.reduceLE, Int.reduceNeg, Int.reduceAdd, Int.reduceSub, Int.reduceMul, Nat.reducePow, Int.reduceNegSucc, str, zs]
  refine ite_lt (fun c => bad (.refl _) fun d _ _ h => by omega) fun c => ?_
  refine vc_loop [5, 4] (fun n vs h' => ∃ (v : Value) (xs : List DStatement) (r : List UInt8) (G : H), vs = [.string ⟨r.toArray⟩, v] ∧ h' = G ++ h ∧ Dj G h ∧ oLs 52 cStatement 3 v xs G ∧ xs.length + r.length ≤ 80 ∧ (∀ d, dealP d → s = dealText d → ∃ i, i ≤ d.length ∧ xs = d.take i ∧ r = dealText (d.drop i)) ∧ n = r.length) s.length rfl
    ⟨_, [], s, [], rfl, rfl, Dj.nil _, ows.nil _ _, by simp; omega, fun d hd e => ⟨0, by omega, rfl, e⟩, rfl⟩ ?_
  rintro n f h' ⟨v, xs, r, G, hv, rfl, dG, oG, hlen, hin, rfl⟩
  simp only [List.map_cons, List.map_nil, List.cons.injEq, and_true] at hv
  have sG := Sub.right dG
  simp only [walk, lists, acts, mem, plain, seqs, maps, cells, resL, resV, intBin, ↓reduceIte, Nat.reduceAdd, Nat.reduceSub, Nat.reduceMul, Nat.reduceLeDiff, Nat.reduceEqDiff, Int.reduceToNat, Int.reduceEq, Int.reduceLT, Int.reduceLE, Int.reduceNeg, Int.reduceAdd, Int.reduceSub, Int.reduceMul, Nat.reducePow, Int.reduceNegSucc, wr, hv.1, hv.2, str, zs, strBin, str_inj]
  refine ite_ne (fun c2 => ?_) fun c2 => ?_
  · refine cut_c (c := 59) (by omega) fun a b fd hc => ?_
    have hab : a.length ≤ r.length ∧ b.length ≤ r.length ∧ (fd = true → b.length < r.length) := by
      obtain ⟨_, ⟨_, h2⟩ | ⟨h1, h2, h3⟩⟩ := hc
      · rw [h2]; simp; omega
      · rw [h2, h3, h1]; simp
    simp only [walk, lists, acts, mem, plain, seqs, maps, cells, resL, resV, intBin, ↓reduceIte, Nat.reduceAdd, Nat.reduceSub, Nat.reduceMul, Nat.reduceLeDiff, Nat.reduceEqDiff, Int.reduceToNat, Int.reduceEq, Int.reduceLT, Int.reduceLE, Int.reduceNeg, Int.reduceAdd, Int.reduceSub, Int.reduceMul, Nat.reducePow, Int.reduceNegSucc, str, zs]
    refine readStatement_c (gl.sub sG) (gm.sub sG) (by omega) fun x ok hx => ?_
    simp only [walk, lists, acts, mem, plain, seqs, maps, cells, resL, resV, intBin, ↓reduceIte, Nat.reduceAdd, Nat.reduceSub, Nat.reduceMul, Nat.reduceLeDiff, Nat.reduceEqDiff, Int.reduceToNat, Int.reduceEq, Int.reduceLT, Int.reduceLE, Int.reduceNeg, Int.reduceAdd, Int.reduceSub, Int.reduceMul, Nat.reducePow, Int.reduceNegSucc, str, zs, wStatement]
    refine newB_intro fun j9 hj9 => ?_
    have s9 := Sub.cons (o := blk (cStatement x) 52) hj9 (Sub.refl (G ++ h))
    have step : ∀ d, dealP d → s = dealText d → ∃ i, ∃ hi : i < d.length, xs = d.take i ∧ a = stW d[i] ∧ b = dealText (d.drop (i + 1)) ∧ fd = true := fun d hd e => by
      obtain ⟨i, hi, h1, h2⟩ := hin d hd e
      have hi2 : i < d.length := by
        rcases Nat.lt_or_ge i d.length with q | q
        · exact q
        · rw [List.drop_eq_nil_of_le q] at h2
          exact absurd h2 c2
      rw [List.drop_eq_getElem_cons hi2, dealText_cons] at h2
      obtain ⟨e1, e2, e3⟩ := hc.at h2 (stW_no59 _)
      exact ⟨i, hi2, h1, e1, e2, e3⟩
    simp only [walk, lists, acts, mem, plain, seqs, maps, cells, resL, resV, intBin, ↓reduceIte, Nat.reduceAdd, Nat.reduceSub, Nat.reduceMul, Nat.reduceLeDiff, Nat.reduceEqDiff, Int.reduceToNat, Int.reduceEq, Int.reduceLT, Int.reduceLE, Int.reduceNeg, Int.reduceAdd, Int.reduceSub, Int.reduceMul, Nat.reducePow, Int.reduceNegSucc, str, zs, wStatement]
    cases fd with
    | false =>
      simp only [walk, lists, acts, mem, plain, seqs, maps, cells, resL, resV, intBin, ↓reduceIte, Nat.reduceAdd, Nat.reduceSub, Nat.reduceMul, Nat.reduceLeDiff, Nat.reduceEqDiff, Int.reduceToNat, Int.reduceEq, Int.reduceLT, Int.reduceLE, Int.reduceNeg, Int.reduceAdd, Int.reduceSub, Int.reduceMul, Nat.reducePow, Int.reduceNegSucc, str, zs, wStatement]
      exact bad (sG.trans s9) fun d hd e _ => by
        obtain ⟨i, hi, _, _, _, q⟩ := step d hd e
        cases q
    | true =>
      cases ok with
      | false =>
        simp only [walk, lists, acts, mem, plain, seqs, maps, cells, resL, resV, intBin, ↓reduceIte, Nat.reduceAdd, Nat.reduceSub, Nat.reduceMul, Nat.reduceLeDiff, Nat.reduceEqDiff, Int.reduceToNat, Int.reduceEq, Int.reduceLT, Int.reduceLE, Int.reduceNeg, Int.reduceAdd, Int.reduceSub, Int.reduceMul, Nat.reducePow, Int.reduceNegSucc, str, zs, wStatement]
        exact bad (sG.trans s9) fun d hd e _ => by
          obtain ⟨i, hi, _, q, _, _⟩ := step d hd e
          have := (hx _ (hd.2.2 _ (List.getElem_mem hi)) q).1
          cases this
      | true =>
        simp only [walk, lists, acts, mem, plain, seqs, maps, cells, resL, resV, intBin, ↓reduceIte, Nat.reduceAdd, Nat.reduceSub, Nat.reduceMul, Nat.reduceLeDiff, Nat.reduceEqDiff, Int.reduceToNat, Int.reduceEq, Int.reduceLT, Int.reduceLE, Int.reduceNeg, Int.reduceAdd, Int.reduceSub, Int.reduceMul, Nat.reducePow, Int.reduceNegSucc, str, zs, wStatement]
        refine newB_intro (o := blk (fl cStatement [x]) 52) fun j7 hj7 => ?_
        simp only [walk, lists, acts, mem, plain, seqs, maps, cells, resL, resV, intBin, ↓reduceIte, Nat.reduceAdd, Nat.reduceSub, Nat.reduceMul, Nat.reduceLeDiff, Nat.reduceEqDiff, Int.reduceToNat, Int.reduceEq, Int.reduceLT, Int.reduceLE, Int.reduceNeg, Int.reduceAdd, Int.reduceSub, Int.reduceMul, Nat.reducePow, Int.reduceNegSucc, wStatement, str, zs]
        refine app_leaf (g := G) (h := h) cStatement_len cStatement_one tStatements iStatement (s9.trans (Sub.cons hj7 (Sub.refl _))) dG oG (rL_lit (e := 52) cStatement_len [x]) (by simp; omega) (by simp; omega) fun v2 g2 o2 d2 => ?_
        simp only [walk, lists, acts, mem, plain, seqs, maps, cells, resL, resV, intBin, ↓reduceIte, Nat.reduceAdd, Nat.reduceSub, Nat.reduceMul, Nat.reduceLeDiff, Nat.reduceEqDiff, Int.reduceToNat, Int.reduceEq, Int.reduceLT, Int.reduceLE, Int.reduceNeg, Int.reduceAdd, Int.reduceSub, Int.reduceMul, Nat.reducePow, Int.reduceNegSucc]
        refine ⟨b.length, hab.2.2 rfl, _, .refl _, v2, _, b, g2, rfl, rfl, d2, o2, by rw [List.length_append]; have := hab.2.2 rfl; simp; omega, fun d hd e => ?_, rfl⟩
        obtain ⟨i, hi, h1, h2, h3, _⟩ := step d hd e
        refine ⟨i + 1, by omega, ?_, h3⟩
        rw [List.take_succ_eq_append_getElem hi, h1, (hx _ (hd.2.2 _ (List.getElem_mem hi)) h2).2]
  · subst c2
    have fin : ∀ d, dealP d → s = dealText d → xs = d := fun d hd e => by
      obtain ⟨i, hi, h1, h2⟩ := hin d hd e
      rcases Nat.lt_or_ge i d.length with q | q
      · rw [List.drop_eq_getElem_cons q, dealText_cons] at h2
        have := congrArg List.length h2
        simp at this
      · rw [h1, List.take_of_length_le q]
    have hx80 : xs.length ≤ 80 := by omega
    refine implOk_c (oG.rd.sub (Sub.left _ _)) (by omega) fun b1 hb1 => ?_
    simp only [walk, lists, acts, mem, plain, seqs, maps, cells, resL, resV, intBin, ↓reduceIte, Nat.reduceAdd, Nat.reduceSub, Nat.reduceMul, Nat.reduceLeDiff, Nat.reduceEqDiff, Int.reduceToNat, Int.reduceEq, Int.reduceLT, Int.reduceLE, Int.reduceNeg, Int.reduceAdd, Int.reduceSub, Int.reduceMul, Nat.reducePow, Int.reduceNegSucc]
    refine ite_f (fun e => bad sG fun d hd e2 _ => not_b hb1 e (by rw [fin d hd e2]; exact hd)) fun e1 => ?_
    have hp := hb1.1 e1
    refine implDealWrite_c (gl.sub sG) (oG.rd.sub (Sub.left _ _)) (by omega) fun t ht => ?_
    simp only [walk, lists, acts, mem, plain, seqs, maps, cells, resL, resV, intBin, ↓reduceIte, Nat.reduceAdd, Nat.reduceSub, Nat.reduceMul, Nat.reduceLeDiff, Nat.reduceEqDiff, Int.reduceToNat, Int.reduceEq, Int.reduceLT, Int.reduceLE, Int.reduceNeg, Int.reduceAdd, Int.reduceSub, Int.reduceMul, Nat.reducePow, Int.reduceNegSucc, str, strBin, str_inj]
    have ht2 : t = dealText xs := by
      rcases ht with ⟨_, ht⟩ | ⟨hn, _⟩
      · exact ht
      · exact absurd hp hn
    refine ite_ne (fun c3 => bad sG fun d hd e _ => c3 (by rw [ht2, fin d hd e, e])) fun c3 => ?_
    exact .of (k v G xs true (.inl ⟨rfl, hp, by rw [← c3, ht2], by omega⟩) oG dG)
end Go.Proofs.YtfkkjjballajaaaDoor
end

/- What the laws compare and mark: rows of statements. -/
section
set_option linter.unusedVariables false
set_option linter.unusedSimpArgs false
set_option maxRecDepth 20000
attribute [local irreducible] Go.Tk.vc Go.Tk.vops Go.Tk.vdr Go.Tk.vop Go.Tk.vfl Go.Tk.HCalls
namespace Go.Tk
open Go
/-- What is marked from k on. -/
def mkStatement (k : Int) (n : Nat) : List DStatement := (List.range n).map fun (i : Nat) => ⟨(k + 3 * (i : Int)), (k + 3 * (i : Int)) + 1, (k + 3 * (i : Int)) + 2⟩
theorem mkStatement_len (k : Int) (n : Nat) : (mkStatement k n).length = n := by simp [mkStatement]
theorem mkStatement_at (k : Int) (n i : Nat) (h : i < (mkStatement k n).length) : (mkStatement k n)[i] = ⟨(k + 3 * (i : Int)), (k + 3 * (i : Int)) + 1, (k + 3 * (i : Int)) + 2⟩ := by simp [mkStatement]
theorem mkStatement_set (k : Int) (l : List DStatement) (i : Nat) (h : i < l.length) : (mkStatement k i ++ l.drop i).set i ⟨(k + 3 * (i : Int)), (k + 3 * (i : Int)) + 1, (k + 3 * (i : Int)) + 2⟩ = mkStatement k (i + 1) ++ l.drop (i + 1) := by
  rw [List.set_append_right _ _ (by rw [mkStatement_len]; omega), mkStatement_len, Nat.sub_self, List.drop_eq_getElem_cons h, List.set_cons_zero]
  simp [mkStatement, List.range_succ]
end Go.Tk
namespace Go.Proofs.YtfkkjjballajaaaDoor
open Go Go.Tk

theorem eqStatement_c {h : H} {x y : DStatement} {R : Ending → H → Prop} (k : R (.returned (.bool (decide (x = y)))) h) : HCalls Tryd.prog 42 #[.agg (cStatement x).toArray, .agg (cStatement y).toArray] h R := by
  refine HCalls_ir (args := [.agg (cStatement x).toArray, .agg (cStatement y).toArray]) Tryd.func42 ir42 ?_
  simp only [walk, lists, acts, mem, plain, seqs, maps, cells, resL, resV, intBin, ↓reduceIte, Nat.reduceAdd, Nat.reduceSub, Nat.reduceMul, Nat.reduceLeDiff, Nat.reduceEqDiff, Int.reduceToNat, Int.reduceEq, Int.reduceLT, Int.reduceLE, Int.reduceNeg, Int.reduceAdd, Int.reduceSub, Int.reduceMul, Nat.reducePow, Int.reduceNegSucc, wStatement]
  refine newB_intro fun j1 h1 => ?_
  simp only [walk, lists, acts, mem, plain, seqs, maps, cells, resL, resV, intBin, ↓reduceIte, Nat.reduceAdd, Nat.reduceSub, Nat.reduceMul, Nat.reduceLeDiff, Nat.reduceEqDiff, Int.reduceToNat, Int.reduceEq, Int.reduceLT, Int.reduceLE, Int.reduceNeg, Int.reduceAdd, Int.reduceSub, Int.reduceMul, Nat.reducePow, Int.reduceNegSucc, wStatement]
  refine newB_intro fun j2 h2 => ?_
  have n := fresh h2
  simp only [walk, lists, acts, mem, plain, seqs, maps, cells, resL, resV, intBin, ↓reduceIte, Nat.reduceAdd, Nat.reduceSub, Nat.reduceMul, Nat.reduceLeDiff, Nat.reduceEqDiff, Int.reduceToNat, Int.reduceEq, Int.reduceLT, Int.reduceLE, Int.reduceNeg, Int.reduceAdd, Int.reduceSub, Int.reduceMul, Nat.reducePow, Int.reduceNegSucc, wStatement, n.1, n.2.1, strBin, str_inj]
  refine ite_ne (fun d => ⟨h, Sub.cons h2 (Sub.cons h1 (Sub.refl h)), kF k (fun e => d (by rw [e]))⟩) fun d0 => ?_
  refine ite_ne (fun d => ⟨h, Sub.cons h2 (Sub.cons h1 (Sub.refl h)), kF k (fun e => d (by rw [e]))⟩) fun d1 => ?_
  refine ite_ne (fun d => ⟨h, Sub.cons h2 (Sub.cons h1 (Sub.refl h)), kF k (fun e => d (by rw [e]))⟩) fun d2 => ?_
  refine ⟨h, Sub.cons h2 (Sub.cons h1 (Sub.refl h)), kT k ?_⟩
  cases x; cases y; simp_all

theorem eqStatementS_c {h : H} {a b : Value} {la lb : List DStatement} (ra : rLs h cStatement 3 a la) (rb : rLs h cStatement 3 b lb) (ha : la.length ≤ 1099511627776) {R : Ending → H → Prop} (k : R (.returned (.bool (decide (la = lb)))) h) :
    HCalls Tryd.prog 16 #[a, b] h R := by
  refine HCalls_ir (args := [a, b]) Tryd.func16 ir16 ?_
  simp only [walk, lists, acts, mem, plain, seqs, maps, cells, resL, resV, intBin, ↓reduceIte, Nat.reduceAdd, Nat.reduceSub, Nat.reduceMul, Nat.reduceLeDiff, Nat.reduceEqDiff, Int.reduceToNat, Int.reduceEq, Int.reduceLT, Int.reduceLE, Int.reduceNeg, Int.reduceAdd, Int.reduceSub, Int.reduceMul, Nat.reducePow, Int.reduceNegSucc, ra.len, rb.len]
  split
  · rename_i c
    exact .of (kF k fun e => c (by rw [e]))
  · rename_i c
    have hl : la.length = lb.length := by omega
    refine vc_loop [5] (fun n vs h' => ∃ i : Nat, vs = [.int .i64 i] ∧ h' = h ∧ i ≤ la.length ∧ n = la.length - i ∧ la.take i = lb.take i) la.length rfl ⟨0, rfl, rfl, by omega, by omega, by simp⟩ ?_
    rintro n f h' ⟨i, hv, rfl, hi, rfl, ht⟩
    simp only [List.map_cons, List.map_nil, List.cons.injEq, and_true] at hv
    simp only [walk, lists, acts, mem, plain, seqs, maps, cells, resL, resV, intBin, ↓reduceIte, Nat.reduceAdd, Nat.reduceSub, Nat.reduceMul, Nat.reduceLeDiff, Nat.reduceEqDiff, Int.reduceToNat, Int.reduceEq, Int.reduceLT, Int.reduceLE, Int.reduceNeg, Int.reduceAdd, Int.reduceSub, Int.reduceMul, Nat.reducePow, Int.reduceNegSucc, wr, hv, ra.len, rb.len]
    split
    · rename_i c1
      refine vc_draw h' (Sub.refl _) ?_
      simp only [walk, lists, acts, mem, plain, seqs, maps, cells, resL, resV, intBin, ↓reduceIte, Nat.reduceAdd, Nat.reduceSub, Nat.reduceMul, Nat.reduceLeDiff, Nat.reduceEqDiff, Int.reduceToNat, Int.reduceEq, Int.reduceLT, Int.reduceLE, Int.reduceNeg, Int.reduceAdd, Int.reduceSub, Int.reduceMul, Nat.reducePow, Int.reduceNegSucc]
      refine idx_leaf (i := i) cStatement_len ra rfl (by omega) fun b1 o1 e1 => ?_
      simp only [walk, lists, acts, mem, plain, seqs, maps, cells, resL, resV, intBin, ↓reduceIte, Nat.reduceAdd, Nat.reduceSub, Nat.reduceMul, Nat.reduceLeDiff, Nat.reduceEqDiff, Int.reduceToNat, Int.reduceEq, Int.reduceLT, Int.reduceLE, Int.reduceNeg, Int.reduceAdd, Int.reduceSub, Int.reduceMul, Nat.reducePow, Int.reduceNegSucc, e1]
      refine idx_leaf (i := i) cStatement_len rb rfl (by omega) fun b2 o2 e2 => ?_
      simp only [walk, lists, acts, mem, plain, seqs, maps, cells, resL, resV, intBin, ↓reduceIte, Nat.reduceAdd, Nat.reduceSub, Nat.reduceMul, Nat.reduceLeDiff, Nat.reduceEqDiff, Int.reduceToNat, Int.reduceEq, Int.reduceLT, Int.reduceLE, Int.reduceNeg, Int.reduceAdd, Int.reduceSub, Int.reduceMul, Nat.reducePow, Int.reduceNegSucc, e2]
      refine eqStatement_c ?_
      simp only [walk, lists, acts, mem, plain, seqs, maps, cells, resL, resV, intBin, ↓reduceIte, Nat.reduceAdd, Nat.reduceSub, Nat.reduceMul, Nat.reduceLeDiff, Nat.reduceEqDiff, Int.reduceToNat, Int.reduceEq, Int.reduceLT, Int.reduceLE, Int.reduceNeg, Int.reduceAdd, Int.reduceSub, Int.reduceMul, Nat.reducePow, Int.reduceNegSucc]
      refine ite_ne (fun d => .of (kF k (ne_at _ _ d))) fun d => ?_
      simp (disch := omega) only [wrapI]
      exact ⟨la.length - (i + 1), by omega, h', .refl _, i + 1, by simp, rfl, by omega, rfl, take_more _ _ ht d⟩
    · rename_i c1
      exact .of (kT k (take_all (by omega) hl ht))

theorem markStatementS_c {e : TypeId} {g h0 : H} {v : Value} {l : List DStatement} {k : Int} (o : oLs e cStatement 3 v l g) (dj : Dj g h0) (hl : l.length ≤ 1048576) (hk : 1 ≤ k ∧ k ≤ 1048576) {R : Ending → H → Prop}
    (kr : ∀ g', oLs e cStatement 3 v (mkStatement k l.length) g' → Dj g' h0 → R (.returned (.int .i64 (k + 3 * l.length))) (g' ++ h0)) :
    HCalls Tryd.prog 17 #[v, .int .i64 k] (g ++ h0) R := by
  refine HCalls_ir (args := [v, .int .i64 k]) Tryd.func17 ir17 ?_
  simp only [walk, lists, acts, mem, plain, seqs, maps, cells, resL, resV, intBin, ↓reduceIte, Nat.reduceAdd, Nat.reduceSub, Nat.reduceMul, Nat.reduceLeDiff, Nat.reduceEqDiff, Int.reduceToNat, Int.reduceEq, Int.reduceLT, Int.reduceLE, Int.reduceNeg, Int.reduceAdd, Int.reduceSub, Int.reduceMul, Nat.reducePow, Int.reduceNegSucc]
  refine vc_loop [5, 1] (fun n vs h' => ∃ (i : Nat) (g' : H), vs = [.int .i64 i, .int .i64 (k + 3 * (i : Int))] ∧ h' = g' ++ h0 ∧ Dj g' h0 ∧ oLs e cStatement 3 v (mkStatement k i ++ l.drop i) g' ∧ i ≤ l.length ∧ n = l.length - i) l.length rfl ⟨0, g, by simp, rfl, dj, by simpa [mkStatement] using o, by omega, rfl⟩ ?_
  rintro n f h' ⟨i, g', hv, rfl, dj', o', hi, rfl⟩
  simp only [List.map_cons, List.map_nil, List.cons.injEq, and_true] at hv
  have hll : (mkStatement k i ++ l.drop i).length = l.length := by simp [mkStatement_len]; omega
  have hlen : ∀ {f : Value → Prop}, lenSK v f = f (.int .i64 l.length) := fun {f} => by rw [← hll]; exact o'.rd.len
  simp only [walk, lists, acts, mem, plain, seqs, maps, cells, resL, resV, intBin, ↓reduceIte, Nat.reduceAdd, Nat.reduceSub, Nat.reduceMul, Nat.reduceLeDiff, Nat.reduceEqDiff, Int.reduceToNat, Int.reduceEq, Int.reduceLT, Int.reduceLE, Int.reduceNeg, Int.reduceAdd, Int.reduceSub, Int.reduceMul, Nat.reducePow, Int.reduceNegSucc, wr, hv.1, hv.2, hlen]
  split
  · rename_i c1
    obtain ⟨L, hL⟩ : ∃ L, L = mkStatement k i ++ l.drop i := ⟨_, rfl⟩
    rw [← hL] at o' hll
    have hb : i < L.length := by omega
    obtain ⟨E, hE⟩ : ∃ E, E = L[i] := ⟨_, rfl⟩
    obtain ⟨q, hq⟩ : ∃ q : Int, q = k + 3 * (i : Int) := ⟨_, rfl⟩
    have hqb : 1 ≤ q ∧ q ≤ 20000000 := by omega
    rw [← hq]
    refine own_idx (i := i) cStatement_len o' rfl (by omega) fun b0 cap0 sp0 hv0 hc0 hs0 hg0 => ?_
    subst hg0
    simp only [walk, lists, acts, mem, plain, seqs, maps, cells, resL, resV, intBin, ↓reduceIte, Nat.reduceAdd, Nat.reduceSub, Nat.reduceMul, Nat.reduceLeDiff, Nat.reduceEqDiff, Int.reduceToNat, Int.reduceEq, Int.reduceLT, Int.reduceLE, Int.reduceNeg, Int.reduceAdd, Int.reduceSub, Int.reduceMul, Nat.reducePow, Int.reduceNegSucc]
    refine st_own (i := i) (a' := { E with do_ := q }) (off := 0) cStatement_len (by omega) hb rfl (by omega) (by rw [← hE]; rfl) ?_
    simp only [walk, lists, acts, mem, plain, seqs, maps, cells, resL, resV, intBin, ↓reduceIte, Nat.reduceAdd, Nat.reduceSub, Nat.reduceMul, Nat.reduceLeDiff, Nat.reduceEqDiff, Int.reduceToNat, Int.reduceEq, Int.reduceLT, Int.reduceLE, Int.reduceNeg, Int.reduceAdd, Int.reduceSub, Int.reduceMul, Nat.reducePow, Int.reduceNegSucc]
    have o0 := own_set (e := e) (i := i) (a' := { E with do_ := q }) cStatement_len hv0 hc0 hs0
    simp (disch := omega) only [wrapI, Int.add_assoc, Int.reduceAdd]
    refine own_idx (i := i) cStatement_len o0 rfl (by simp only [List.length_set]; omega) fun b1 cap1 sp1 hv1 hc1 hs1 hg1 => ?_
    simp only [List.singleton_append, List.cons.injEq, Prod.mk.injEq, and_true] at hg1
    obtain ⟨rfl, hg1⟩ := hg1
    rw [hg1]
    simp only [walk, lists, acts, mem, plain, seqs, maps, cells, resL, resV, intBin, ↓reduceIte, Nat.reduceAdd, Nat.reduceSub, Nat.reduceMul, Nat.reduceLeDiff, Nat.reduceEqDiff, Int.reduceToNat, Int.reduceEq, Int.reduceLT, Int.reduceLE, Int.reduceNeg, Int.reduceAdd, Int.reduceSub, Int.reduceMul, Nat.reducePow, Int.reduceNegSucc]
    refine st_own (i := i) (a' := { E with do_ := q, key := q + 1 }) (off := 1) cStatement_len (by omega) (by simp only [List.length_set]; omega) rfl (by omega) (by rw [List.getElem_set_self]; rfl) ?_
    simp only [walk, lists, acts, mem, plain, seqs, maps, cells, resL, resV, intBin, ↓reduceIte, Nat.reduceAdd, Nat.reduceSub, Nat.reduceMul, Nat.reduceLeDiff, Nat.reduceEqDiff, Int.reduceToNat, Int.reduceEq, Int.reduceLT, Int.reduceLE, Int.reduceNeg, Int.reduceAdd, Int.reduceSub, Int.reduceMul, Nat.reducePow, Int.reduceNegSucc]
    have o1 := own_set (e := e) (i := i) (a' := { E with do_ := q, key := q + 1 }) cStatement_len hv1 hc1 hs1
    rw [List.set_set] at o1
    try rw [List.set_set]
    simp (disch := omega) only [wrapI, Int.add_assoc, Int.reduceAdd]
    refine own_idx (i := i) cStatement_len o1 rfl (by simp only [List.length_set]; omega) fun b2 cap2 sp2 hv2 hc2 hs2 hg2 => ?_
    simp only [List.singleton_append, List.cons.injEq, Prod.mk.injEq, and_true] at hg2
    obtain ⟨rfl, hg2⟩ := hg2
    rw [hg2]
    simp only [walk, lists, acts, mem, plain, seqs, maps, cells, resL, resV, intBin, ↓reduceIte, Nat.reduceAdd, Nat.reduceSub, Nat.reduceMul, Nat.reduceLeDiff, Nat.reduceEqDiff, Int.reduceToNat, Int.reduceEq, Int.reduceLT, Int.reduceLE, Int.reduceNeg, Int.reduceAdd, Int.reduceSub, Int.reduceMul, Nat.reducePow, Int.reduceNegSucc]
    refine st_own (i := i) (a' := { E with do_ := q, key := q + 1, num := q + 2 }) (off := 2) cStatement_len (by omega) (by simp only [List.length_set]; omega) rfl (by omega) (by rw [List.getElem_set_self]; rfl) ?_
    simp only [walk, lists, acts, mem, plain, seqs, maps, cells, resL, resV, intBin, ↓reduceIte, Nat.reduceAdd, Nat.reduceSub, Nat.reduceMul, Nat.reduceLeDiff, Nat.reduceEqDiff, Int.reduceToNat, Int.reduceEq, Int.reduceLT, Int.reduceLE, Int.reduceNeg, Int.reduceAdd, Int.reduceSub, Int.reduceMul, Nat.reducePow, Int.reduceNegSucc]
    have o2 := own_set (e := e) (i := i) (a' := { E with do_ := q, key := q + 1, num := q + 2 }) cStatement_len hv2 hc2 hs2
    rw [List.set_set] at o2
    try rw [List.set_set]
    simp (disch := omega) only [wrapI, Int.add_assoc, Int.reduceAdd]
    refine ⟨l.length - (i + 1), by omega, _, .refl _, i + 1, _, ?_, rfl, Dj.one dj'.one', ?_, by omega, rfl⟩
    · simp; omega
    · have e1 := mkStatement_set k l i (by omega)
      rw [← hL, ← hq] at e1
      rw [← e1]
      exact o2
  · rename_i c1
    have hi' : i = l.length := by omega
    subst hi'
    simp only [List.drop_length, List.append_nil] at o'
    exact .of (kr g' o' dj')

theorem heldStatementS_c {h : H} {v : Value} {l : List DStatement} {k : Int} (r : rLs h cStatement 3 v l) (hm : l = mkStatement k l.length) (hl : l.length ≤ 1048576) (hk : 1 ≤ k ∧ k ≤ 1048576) {R : Ending → H → Prop}
    (kr : R (.returned (.int .i64 (k + 3 * l.length))) h) : HCalls Tryd.prog 18 #[v, .int .i64 k] h R := by
  refine HCalls_ir (args := [v, .int .i64 k]) Tryd.func18 ir18 ?_
  simp only [walk, lists, acts, mem, plain, seqs, maps, cells, resL, resV, intBin, ↓reduceIte, Nat.reduceAdd, Nat.reduceSub, Nat.reduceMul, Nat.reduceLeDiff, Nat.reduceEqDiff, Int.reduceToNat, Int.reduceEq, Int.reduceLT, Int.reduceLE, Int.reduceNeg, Int.reduceAdd, Int.reduceSub, Int.reduceMul, Nat.reducePow, Int.reduceNegSucc]
  refine vc_loop [5, 1] (fun n vs h' => ∃ (i : Nat), vs = [.int .i64 i, .int .i64 (k + 3 * (i : Int))] ∧ h' = h ∧ i ≤ l.length ∧ n = l.length - i) l.length rfl ⟨0, by simp, rfl, by omega, rfl⟩ ?_
  rintro n f h' ⟨i, hv, rfl, hi, rfl⟩
  simp only [List.map_cons, List.map_nil, List.cons.injEq, and_true] at hv
  simp only [walk, lists, acts, mem, plain, seqs, maps, cells, resL, resV, intBin, ↓reduceIte, Nat.reduceAdd, Nat.reduceSub, Nat.reduceMul, Nat.reduceLeDiff, Nat.reduceEqDiff, Int.reduceToNat, Int.reduceEq, Int.reduceLT, Int.reduceLE, Int.reduceNeg, Int.reduceAdd, Int.reduceSub, Int.reduceMul, Nat.reducePow, Int.reduceNegSucc, wr, hv.1, hv.2, r.len]
  split
  · rename_i c1
    have hx : l[i]'(by omega) = ⟨(k + 3 * (i : Int)), (k + 3 * (i : Int)) + 1, (k + 3 * (i : Int)) + 2⟩ := by
      have : ∀ (m : List DStatement) (hi : i < m.length), m = mkStatement k l.length → m[i] = ⟨(k + 3 * (i : Int)), (k + 3 * (i : Int)) + 1, (k + 3 * (i : Int)) + 2⟩ := by rintro m hi rfl; exact mkStatement_at _ _ _ _
      exact this l _ hm
    obtain ⟨q, hq⟩ : ∃ q : Int, q = k + 3 * (i : Int) := ⟨_, rfl⟩
    have hqb : 1 ≤ q ∧ q ≤ 20000000 := by omega
    rw [← hq] at hx ⊢
    refine idx_leaf (i := i) cStatement_len r rfl (by omega) fun b0 p0 e0 => ?_
    rw [hx] at e0
    have f0 := hread_c e0 0 rfl
    rw [Nat.add_zero] at f0
    simp (disch := omega) only [walk, lists, acts, mem, plain, seqs, maps, cells, resL, resV, intBin, ↓reduceIte, Nat.reduceAdd, Nat.reduceSub, Nat.reduceMul, Nat.reduceLeDiff, Nat.reduceEqDiff, Int.reduceToNat, Int.reduceEq, Int.reduceLT, Int.reduceLE, Int.reduceNeg, Int.reduceAdd, Int.reduceSub, Int.reduceMul, Nat.reducePow, Int.reduceNegSucc, f0, wrapI, Int.add_assoc, Int.reduceAdd]
    refine idx_leaf (i := i) cStatement_len r rfl (by omega) fun b1 p1 e1 => ?_
    rw [hx] at e1
    have f1 := hread_c e1 1 rfl
    simp (disch := omega) only [walk, lists, acts, mem, plain, seqs, maps, cells, resL, resV, intBin, ↓reduceIte, Nat.reduceAdd, Nat.reduceSub, Nat.reduceMul, Nat.reduceLeDiff, Nat.reduceEqDiff, Int.reduceToNat, Int.reduceEq, Int.reduceLT, Int.reduceLE, Int.reduceNeg, Int.reduceAdd, Int.reduceSub, Int.reduceMul, Nat.reducePow, Int.reduceNegSucc, f1, wrapI, Int.add_assoc, Int.reduceAdd]
    refine idx_leaf (i := i) cStatement_len r rfl (by omega) fun b2 p2 e2 => ?_
    rw [hx] at e2
    have f2 := hread_c e2 2 rfl
    simp (disch := omega) only [walk, lists, acts, mem, plain, seqs, maps, cells, resL, resV, intBin, ↓reduceIte, Nat.reduceAdd, Nat.reduceSub, Nat.reduceMul, Nat.reduceLeDiff, Nat.reduceEqDiff, Int.reduceToNat, Int.reduceEq, Int.reduceLT, Int.reduceLE, Int.reduceNeg, Int.reduceAdd, Int.reduceSub, Int.reduceMul, Nat.reducePow, Int.reduceNegSucc, f2, wrapI, Int.add_assoc, Int.reduceAdd]
    exact ⟨l.length - (i + 1), by omega, h', .refl _, i + 1, by simp; omega, rfl, by omega, rfl⟩
  · rename_i c1
    have hi' : i = l.length := by omega
    subst hi'
    exact .of kr
end Go.Proofs.YtfkkjjballajaaaDoor
end

/- FnExactDealRead, walked whole. -/
section
set_option linter.unusedVariables false
set_option linter.unusedSimpArgs false
set_option maxRecDepth 20000
attribute [local irreducible] Go.Tk.vc Go.Tk.vops Go.Tk.vdr Go.Tk.vop Go.Tk.vfl Go.Tk.HCalls
namespace Go.Tk
open Go
theorem OutD.len {t : List UInt8} {l : List DStatement} {ok : Bool} (h : OutD t l ok) : l.length ≤ 6 := by
  rcases h with ⟨_, p, _⟩ | ⟨_, rfl, _⟩
  · exact p.2.1
  · simp
end Go.Tk
namespace Go.Proofs.YtfkkjjballajaaaDoor
open Go Go.Tk

theorem exactDealRead_c {h : H} {t : List UInt8} (gl : Gl h) (gm : MxL h) {R : Ending → H → Prop} (k : R (.returned (.bool true)) h) : HCalls Tryd.prog 4 #[.string ⟨t.toArray⟩] h R := by
  refine HCalls_ir (args := [.string ⟨t.toArray⟩]) Tryd.func4 ir4 ?_
  simp only [walk, lists, acts, mem, plain, seqs, maps, cells, resL, resV, intBin, ↓reduceIte, Nat.reduceAdd, Nat.reduceSub, Nat.reduceMul, Nat.reduceLeDiff, Nat.reduceEqDiff, Int.reduceToNat, Int.reduceEq, Int.reduceLT, Int.reduceLE, Int.reduceNeg, Int.reduceAdd, Int.reduceSub, Int.reduceMul, Nat.reducePow, Int.reduceNegSucc]
  refine ite_lt (fun c => .of k) fun c => ?_
  have ht : t.length ≤ 4194304 := by omega
  refine specRead_c ht fun v3 g3 l3 b3 O3 o3 d3 => ?_
  have s3 := Sub.right d3
  simp only [walk, lists, acts, mem, plain, seqs, maps, cells, resL, resV, intBin, ↓reduceIte, Nat.reduceAdd, Nat.reduceSub, Nat.reduceMul, Nat.reduceLeDiff, Nat.reduceEqDiff, Int.reduceToNat, Int.reduceEq, Int.reduceLT, Int.reduceLE, Int.reduceNeg, Int.reduceAdd, Int.reduceSub, Int.reduceMul, Nat.reducePow, Int.reduceNegSucc]
  refine implRead_c (gl.sub s3) (gm.sub s3) ht fun v5 g5 l5 b5 O5 o5 d5 => ?_
  obtain ⟨rfl, rfl⟩ := O5.same O3
  have hlen := O5.len
  have s5 := Sub.right d5
  simp only [walk, lists, acts, mem, plain, seqs, maps, cells, resL, resV, intBin, ↓reduceIte, Nat.reduceAdd, Nat.reduceSub, Nat.reduceMul, Nat.reduceLeDiff, Nat.reduceEqDiff, Int.reduceToNat, Int.reduceEq, Int.reduceLT, Int.reduceLE, Int.reduceNeg, Int.reduceAdd, Int.reduceSub, Int.reduceMul, Nat.reducePow, Int.reduceNegSucc]
  refine eqStatementS_c (o5.rd.sub (Sub.left _ _)) ((o3.rd.sub (Sub.left _ _)).sub s5) (by omega) ?_
  simp only [walk, lists, acts, mem, plain, seqs, maps, cells, resL, resV, intBin, ↓reduceIte, Nat.reduceAdd, Nat.reduceSub, Nat.reduceMul, Nat.reduceLeDiff, Nat.reduceEqDiff, Int.reduceToNat, Int.reduceEq, Int.reduceLT, Int.reduceLE, Int.reduceNeg, Int.reduceAdd, Int.reduceSub, Int.reduceMul, Nat.reducePow, Int.reduceNegSucc, decide_true]
  refine ite_eqb (fun c => absurd rfl c) fun _ => ?_
  refine markStatementS_c (k := 1) o5 d5 (by omega) (by omega) fun g6 o6 d6 => ?_
  have s6 := Sub.right d6
  simp only [walk, lists, acts, mem, plain, seqs, maps, cells, resL, resV, intBin, ↓reduceIte, Nat.reduceAdd, Nat.reduceSub, Nat.reduceMul, Nat.reduceLeDiff, Nat.reduceEqDiff, Int.reduceToNat, Int.reduceEq, Int.reduceLT, Int.reduceLE, Int.reduceNeg, Int.reduceAdd, Int.reduceSub, Int.reduceMul, Nat.reducePow, Int.reduceNegSucc]
  have ml := mkStatement_len 1 l5.length
  have hm : mkStatement 1 l5.length = mkStatement 1 (mkStatement 1 l5.length).length := by rw [ml]
  refine heldStatementS_c (k := 1) (l := mkStatement 1 l5.length) (o6.rd.sub (Sub.left _ _)) hm (by rw [ml]; omega) (by omega) ?_
  simp only [walk, lists, acts, mem, plain, seqs, maps, cells, resL, resV, intBin, ↓reduceIte, Nat.reduceAdd, Nat.reduceSub, Nat.reduceMul, Nat.reduceLeDiff, Nat.reduceEqDiff, Int.reduceToNat, Int.reduceEq, Int.reduceLT, Int.reduceLE, Int.reduceNeg, Int.reduceAdd, Int.reduceSub, Int.reduceMul, Nat.reducePow, Int.reduceNegSucc, ml]
  refine ite_lt (fun c => by omega) fun c1 => ?_
  refine implRead_c (gl.sub (s3.trans s6)) (gm.sub (s3.trans s6)) ht fun v9 g9 l9 b9 O9 o9 d9 => ?_
  obtain ⟨rfl, rfl⟩ := O3.same O9
  have s9 := Sub.right d9
  simp only [walk, lists, acts, mem, plain, seqs, maps, cells, resL, resV, intBin, ↓reduceIte, Nat.reduceAdd, Nat.reduceSub, Nat.reduceMul, Nat.reduceLeDiff, Nat.reduceEqDiff, Int.reduceToNat, Int.reduceEq, Int.reduceLT, Int.reduceLE, Int.reduceNeg, Int.reduceAdd, Int.reduceSub, Int.reduceMul, Nat.reducePow, Int.reduceNegSucc]
  refine eqStatementS_c (o9.rd.sub (Sub.left _ _)) (((o3.rd.sub (Sub.left _ _)).sub s6).sub s9) (by omega) ?_
  simp only [walk, lists, acts, mem, plain, seqs, maps, cells, resL, resV, intBin, ↓reduceIte, Nat.reduceAdd, Nat.reduceSub, Nat.reduceMul, Nat.reduceLeDiff, Nat.reduceEqDiff, Int.reduceToNat, Int.reduceEq, Int.reduceLT, Int.reduceLE, Int.reduceNeg, Int.reduceAdd, Int.reduceSub, Int.reduceMul, Nat.reducePow, Int.reduceNegSucc, decide_true]
  refine ite_eqb (fun c => absurd rfl c) fun _ => ?_
  refine heldStatementS_c (k := 1) (l := mkStatement 1 l5.length) ((o6.rd.sub (Sub.left _ _)).sub s9) hm (by rw [ml]; omega) (by omega) ?_
  simp only [walk, lists, acts, mem, plain, seqs, maps, cells, resL, resV, intBin, ↓reduceIte, Nat.reduceAdd, Nat.reduceSub, Nat.reduceMul, Nat.reduceLeDiff, Nat.reduceEqDiff, Int.reduceToNat, Int.reduceEq, Int.reduceLT, Int.reduceLE, Int.reduceNeg, Int.reduceAdd, Int.reduceSub, Int.reduceMul, Nat.reducePow, Int.reduceNegSucc, ml]
  refine ite_lt (fun c => by omega) fun c1 => ?_
  exact ⟨h, s3.trans (s6.trans s9), k⟩
end Go.Proofs.YtfkkjjballajaaaDoor
end

/- How drawn bytes are read; the worlds at first. -/
section
set_option linter.unusedVariables false
set_option linter.unusedSimpArgs false
set_option maxRecDepth 20000
attribute [local irreducible] Go.Tk.vc Go.Tk.vops Go.Tk.vdr Go.Tk.vop Go.Tk.vfl Go.Tk.HCalls
namespace Go.Proofs.YtfkkjjballajaaaDoor
open Go Go.Tk
theorem vcells_one {v : Value} (h : vone v = true) : vcells v = [v] := by cases v <;> first | rfl | cases h
theorem l12House_c {a : Int} {h : H} {R : Ending → H → Prop} (k : Asks R (houseP a) h) : HCalls Tryd.prog 84 #[.int .i64 a] h R := by
  refine HCalls_ir (args := [.int .i64 a]) Tryd.func84 ir84 ?_
  simp only [walk, lists, acts, mem, plain, seqs, maps, cells, resL, resV, intBin, ↓reduceIte, Nat.reduceAdd, Nat.reduceSub, Nat.reduceMul, Nat.reduceLeDiff, Nat.reduceEqDiff, Int.reduceToNat, Int.reduceEq, Int.reduceLT, Int.reduceLE, Int.reduceNeg, Int.reduceAdd, Int.reduceSub, Int.reduceMul, Nat.reducePow, Int.reduceNegSucc]
  refine l6In_c fun b hb => ?_
  simp only [walk, lists, acts, mem, plain, seqs, maps, cells, resL, resV, intBin, ↓reduceIte, Nat.reduceAdd, Nat.reduceSub, Nat.reduceMul, Nat.reduceLeDiff, Nat.reduceEqDiff, Int.reduceToNat, Int.reduceEq, Int.reduceLT, Int.reduceLE, Int.reduceNeg, Int.reduceAdd, Int.reduceSub, Int.reduceMul, Nat.reducePow, Int.reduceNegSucc]
  exact .of (k b hb)

/-- The cells of what reads drawn bytes. -/
def rdr (b : Value) (p : Nat) : List Value := [b, .int .i64 p]
theorem w_rdr : (∀ b p, (rdr b p).length = 2) ∧ (∀ b p, (rdr b p)[0]? = some b) ∧ (∀ b p, (rdr b p)[1]? = some (.int .i64 p)) ∧ (∀ b p (q : Nat), splice (rdr b p) 1 [.int .i64 q] = rdr b q) :=
  ⟨fun _ _ => rfl, fun _ _ => rfl, fun _ _ => rfl, fun _ _ _ => rfl⟩

theorem pick_c {h : H} {j p : Nat} {bv : Value} {l : List UInt8} {n : Int} (hj : hget h j = none) (rb : rIn h eB 1 bv l) (hl : l.length ≤ 1048576) (hp : p ≤ 1099511627776) (hn : n ≤ 1099511627776) {R : Ending → H → Prop}
    (k : ∀ x : Int, 0 ≤ x → (1 ≤ n → x < n) → (n < 1 → x = 0) → R (.returned (.int .i64 x)) ((j, blk (rdr bv (p + 1)) 88) :: h)) :
    HCalls Tryd.prog 48 #[.pointer (some ⟨j, 0, none⟩), .int .i64 n] ((j, blk (rdr bv p) 88) :: h) R := by
  refine HCalls_ir (args := [.pointer (some ⟨j, 0, none⟩), .int .i64 n]) Tryd.func48 ir48 ?_
  have sj := fun o => Sub.cons (o := o) hj (Sub.refl h)
  have hc : (p : Int) + 1 = ((p + 1 : Nat) : Int) := by omega
  have hc2 : ((p + 1 : Nat) : Int) - 1 = (p : Int) := by omega
  simp (disch := omega) only [walk, lists, acts, mem, plain, seqs, maps, cells, resL, resV, intBin, ↓reduceIte, Nat.reduceAdd, Nat.reduceSub, Nat.reduceMul, Nat.reduceLeDiff, Nat.reduceEqDiff, Int.reduceToNat, Int.reduceEq, Int.reduceLT, Int.reduceLE, Int.reduceNeg, Int.reduceAdd, Int.reduceSub, Int.reduceMul, Nat.reducePow, Int.reduceNegSucc, w_rdr, wrapI, hc, rb.len]
  refine ite_lt (fun c1 => .of (k 0 (by omega) (fun x => by omega) fun _ => rfl)) fun c1 => ?_
  refine ite_pos (fun c2 => .of (k 0 (by omega) (fun x => by omega) fun _ => rfl)) fun c2 => ?_
  have hpos : 0 < l.length := by omega
  simp (disch := omega) only [walk, lists, acts, mem, plain, seqs, maps, cells, resL, resV, intBin, ↓reduceIte, Nat.reduceAdd, Nat.reduceSub, Nat.reduceMul, Nat.reduceLeDiff, Nat.reduceEqDiff, Int.reduceToNat, Int.reduceEq, Int.reduceLT, Int.reduceLE, Int.reduceNeg, Int.reduceAdd, Int.reduceSub, Int.reduceMul, Nat.reducePow, Int.reduceNegSucc, w_rdr, wrapI, hc2, rb.len]
  refine ite_lt (fun c3 => ?_) fun c3 => ?_
  · refine idx_in (i := p) eB_len (rb.sub (sj (blk (rdr bv (p + 1)) 88))) rfl (by omega) fun b1 o1 e1 => ?_
    have he1 : eB l[p] = [.int .u8 l[p].toNat] := rfl
    rw [he1] at e1
    have hx : l[p].toNat < 256 := UInt8.toNat_lt _
    simp (disch := omega) only [walk, lists, acts, mem, plain, seqs, maps, cells, resL, resV, intBin, ↓reduceIte, Nat.reduceAdd, Nat.reduceSub, Nat.reduceMul, Nat.reduceLeDiff, Nat.reduceEqDiff, Int.reduceToNat, Int.reduceEq, Int.reduceLT, Int.reduceLE, Int.reduceNeg, Int.reduceAdd, Int.reduceSub, Int.reduceMul, Nat.reducePow, Int.reduceNegSucc, hread_1 e1, wrapI]
    have hn0 : ¬ n = 0 := by omega
    simp (disch := omega) only [walk, lists, acts, mem, plain, seqs, maps, cells, resL, resV, intBin, ↓reduceIte, Nat.reduceAdd, Nat.reduceSub, Nat.reduceMul, Nat.reduceLeDiff, Nat.reduceEqDiff, Int.reduceToNat, Int.reduceEq, Int.reduceLT, Int.reduceLE, Int.reduceNeg, Int.reduceAdd, Int.reduceSub, Int.reduceMul, Nat.reducePow, Int.reduceNegSucc, hn0]
    have tm := tmodN l[p].toNat n (by omega)
    exact .of (k _ tm.1 (fun _ => tm.2) fun x => by omega)
  · have hl0 : ¬ (l.length : Int) = 0 := by omega
    have rM := rb.sub (sj (blk (rdr bv (p + 1)) 88))
    refine vc_draw _ (Sub.refl _) ?_
    simp only [walk, lists, acts, mem, plain, seqs, maps, cells, resL, resV, intBin, ↓reduceIte, Nat.reduceAdd, Nat.reduceSub, Nat.reduceMul, Nat.reduceLeDiff, Nat.reduceEqDiff, Int.reduceToNat, Int.reduceEq, Int.reduceLT, Int.reduceLE, Int.reduceNeg, Int.reduceAdd, Int.reduceSub, Int.reduceMul, Nat.reducePow, Int.reduceNegSucc, w_rdr, rb.len, hl0, tmodN']
    refine idx_in (i := p % l.length) eB_len rM rfl (Nat.mod_lt _ hpos) fun b1 o1 e1 => ?_
    have he1 : eB (l[p % l.length]'(Nat.mod_lt _ hpos)) = [.int .u8 (l[p % l.length]'(Nat.mod_lt _ hpos)).toNat] := rfl
    rw [he1] at e1
    have hx : (l[p % l.length]'(Nat.mod_lt _ hpos)).toNat < 256 := UInt8.toNat_lt _
    generalize (l[p % l.length]'(Nat.mod_lt _ hpos)).toNat = x at *
    have hk : (p : Int) * 7 + 3 = ((p * 7 + 3 : Nat) : Int) := by omega
    simp (disch := omega) only [walk, lists, acts, mem, plain, seqs, maps, cells, resL, resV, intBin, ↓reduceIte, Nat.reduceAdd, Nat.reduceSub, Nat.reduceMul, Nat.reduceLeDiff, Nat.reduceEqDiff, Int.reduceToNat, Int.reduceEq, Int.reduceLT, Int.reduceLE, Int.reduceNeg, Int.reduceAdd, Int.reduceSub, Int.reduceMul, Nat.reducePow, Int.reduceNegSucc, w_rdr, rb.len, hl0, tmodN', hread_1 e1, wrapI, hk]
    refine idx_in (i := (p * 7 + 3) % l.length) eB_len rM rfl (Nat.mod_lt _ hpos) fun b2 o2 e2 => ?_
    have he2 : eB (l[(p * 7 + 3) % l.length]'(Nat.mod_lt _ hpos)) = [.int .u8 (l[(p * 7 + 3) % l.length]'(Nat.mod_lt _ hpos)).toNat] := rfl
    rw [he2] at e2
    have hy : (l[(p * 7 + 3) % l.length]'(Nat.mod_lt _ hpos)).toNat < 256 := UInt8.toNat_lt _
    generalize (l[(p * 7 + 3) % l.length]'(Nat.mod_lt _ hpos)).toNat = y at *
    have hd : p / l.length ≤ p := Nat.div_le_self _ _
    simp only [walk, lists, acts, mem, plain, seqs, maps, cells, resL, resV, intBin, ↓reduceIte, Nat.reduceAdd, Nat.reduceSub, Nat.reduceMul, Nat.reduceLeDiff, Nat.reduceEqDiff, Int.reduceToNat, Int.reduceEq, Int.reduceLT, Int.reduceLE, Int.reduceNeg, Int.reduceAdd, Int.reduceSub, Int.reduceMul, Nat.reducePow, Int.reduceNegSucc, w_rdr, rb.len, hl0, tdivN', hread_1 e2]
    generalize p / l.length = z at *
    have hX : (x : Int) * 131 + (y : Int) * 1117 + (p : Int) * 29 + (z : Int) * 53 = ((x * 131 + y * 1117 + p * 29 + z * 53 : Nat) : Int) := by omega
    have hXb : x * 131 + y * 1117 + p * 29 + z * 53 < 1125899906842624 := by omega
    simp (disch := omega) only [wrapI]
    rw [hX]
    generalize x * 131 + y * 1117 + p * 29 + z * 53 = X at *
    obtain ⟨c, hc, hcx⟩ := xor64 X (X / 64) hXb (by omega)
    have hn0 : ¬ n = 0 := by omega
    have h64 : ((X : Nat) : Int).tdiv 64 = ((X / 64 : Nat) : Int) := rfl
    simp (disch := omega) only [h64, wrapI, hcx, hn0, walk, lists, acts, mem, plain, seqs, maps, cells, resL, resV, intBin, ↓reduceIte, Nat.reduceAdd, Nat.reduceSub, Nat.reduceMul, Nat.reduceLeDiff, Nat.reduceEqDiff, Int.reduceToNat, Int.reduceEq, Int.reduceLT, Int.reduceLE, Int.reduceNeg, Int.reduceAdd, Int.reduceSub, Int.reduceMul, Nat.reducePow, Int.reduceNegSucc]
    have tm := tmodN c n (by omega)
    exact .of (k _ tm.1 (fun _ => tm.2) fun x => by omega)

/-- What is open for drawing: a reader in a block of its own. -/
theorem open_c {h : H} {b : Value} {l : List UInt8} (r : rIn h eB 1 b l) (hl : l.length ≤ 1048576) {R : Ending → H → Prop}
    (k : ∀ j bv (m : List UInt8), hget h j = none → rIn h eB 1 bv m → m.length ≤ 1048576 → R (.returned (.pointer (some ⟨j, 0, none⟩))) ((j, blk (rdr bv 0) 88) :: h)) :
    HCalls Tryd.prog 30 #[b] h R := by
  refine HCalls_ir (args := [b]) Tryd.func30 ir30 ?_
  simp only [walk, lists, acts, mem, plain, seqs, maps, cells, resL, resV, intBin, ↓reduceIte, Nat.reduceAdd, Nat.reduceSub, Nat.reduceMul, Nat.reduceLeDiff, Nat.reduceEqDiff, Int.reduceToNat, Int.reduceEq, Int.reduceLT, Int.reduceLE, Int.reduceNeg, Int.reduceAdd, Int.reduceSub, Int.reduceMul, Nat.reducePow, Int.reduceNegSucc, r.len]
  have one := r.one
  refine ite_lt (fun c => ?_) fun c => ?_
  · rcases r with r | ⟨rfl, _⟩
    · refine slc_pre eB_len r (by omega) (by omega) fun v' r' => ?_
      have one := rLs.one r'
      have vc := vcells_one one
      simp only [walk, lists, acts, mem, plain, seqs, maps, cells, resL, resV, intBin, ↓reduceIte, Nat.reduceAdd, Nat.reduceSub, Nat.reduceMul, Nat.reduceLeDiff, Nat.reduceEqDiff, Int.reduceToNat, Int.reduceEq, Int.reduceLT, Int.reduceLE, Int.reduceNeg, Int.reduceAdd, Int.reduceSub, Int.reduceMul, Nat.reducePow, Int.reduceNegSucc, vc]
      refine newB_intro (o := blk (rdr v' 0) 88) fun j hj => ?_
      simp only [walk, lists, acts, mem, plain, seqs, maps, cells, resL, resV, intBin, ↓reduceIte, Nat.reduceAdd, Nat.reduceSub, Nat.reduceMul, Nat.reduceLeDiff, Nat.reduceEqDiff, Int.reduceToNat, Int.reduceEq, Int.reduceLT, Int.reduceLE, Int.reduceNeg, Int.reduceAdd, Int.reduceSub, Int.reduceMul, Nat.reducePow, Int.reduceNegSucc]
      exact .of (k j v' _ hj (.inl r') (by rw [List.length_take]; omega))
    · simp at c
  · have vc := vcells_one one
    simp only [walk, lists, acts, mem, plain, seqs, maps, cells, resL, resV, intBin, ↓reduceIte, Nat.reduceAdd, Nat.reduceSub, Nat.reduceMul, Nat.reduceLeDiff, Nat.reduceEqDiff, Int.reduceToNat, Int.reduceEq, Int.reduceLT, Int.reduceLE, Int.reduceNeg, Int.reduceAdd, Int.reduceSub, Int.reduceMul, Nat.reducePow, Int.reduceNegSucc, vc]
    refine newB_intro (o := blk (rdr b 0) 88) fun j hj => ?_
    simp only [walk, lists, acts, mem, plain, seqs, maps, cells, resL, resV, intBin, ↓reduceIte, Nat.reduceAdd, Nat.reduceSub, Nat.reduceMul, Nat.reduceLeDiff, Nat.reduceEqDiff, Int.reduceToNat, Int.reduceEq, Int.reduceLT, Int.reduceLE, Int.reduceNeg, Int.reduceAdd, Int.reduceSub, Int.reduceMul, Nat.reducePow, Int.reduceNegSucc]
    exact .of (k j b l hj r hl)

theorem of_c {h : H} {j p : Nat} {bv : Value} {l : List UInt8} {lv : Value} {ts : List (List UInt8)} (hj : hget h j = none) (rb : rIn h eB 1 bv l) (hl : l.length ≤ 1048576) (hp : p ≤ 1099511627776) (rt : rLs h eT 1 lv ts) (h1 : 0 < ts.length) (h2 : ts.length ≤ 1000000) {R : Ending → H → Prop}
    (k : ∀ t ∈ ts, R (.returned (.string ⟨t.toArray⟩)) ((j, blk (rdr bv (p + 1)) 88) :: h)) :
    HCalls Tryd.prog 49 #[.pointer (some ⟨j, 0, none⟩), lv] ((j, blk (rdr bv p) 88) :: h) R := by
  refine HCalls_ir (args := [.pointer (some ⟨j, 0, none⟩), lv]) Tryd.func49 ir49 ?_
  have sj := fun o => Sub.cons (o := o) hj (Sub.refl h)
  simp only [walk, lists, acts, mem, plain, seqs, maps, cells, resL, resV, intBin, ↓reduceIte, Nat.reduceAdd, Nat.reduceSub, Nat.reduceMul, Nat.reduceLeDiff, Nat.reduceEqDiff, Int.reduceToNat, Int.reduceEq, Int.reduceLT, Int.reduceLE, Int.reduceNeg, Int.reduceAdd, Int.reduceSub, Int.reduceMul, Nat.reducePow, Int.reduceNegSucc, rt.len]
  refine pick_c hj rb hl hp (by omega) fun x hx0 hx1 _ => ?_
  simp only [walk, lists, acts, mem, plain, seqs, maps, cells, resL, resV, intBin, ↓reduceIte, Nat.reduceAdd, Nat.reduceSub, Nat.reduceMul, Nat.reduceLeDiff, Nat.reduceEqDiff, Int.reduceToNat, Int.reduceEq, Int.reduceLT, Int.reduceLE, Int.reduceNeg, Int.reduceAdd, Int.reduceSub, Int.reduceMul, Nat.reducePow, Int.reduceNegSucc]
  have hxl := hx1 (by omega)
  refine idx_leaf (i := x.toNat) eT_len (rt.sub (sj (blk (rdr bv (p + 1)) 88))) (by omega) (by omega) fun b o e => ?_
  simp only [eT] at e
  simp only [walk, lists, acts, mem, plain, seqs, maps, cells, resL, resV, intBin, ↓reduceIte, Nat.reduceAdd, Nat.reduceSub, Nat.reduceMul, Nat.reduceLeDiff, Nat.reduceEqDiff, Int.reduceToNat, Int.reduceEq, Int.reduceLT, Int.reduceLE, Int.reduceNeg, Int.reduceAdd, Int.reduceSub, Int.reduceMul, Nat.reducePow, Int.reduceNegSucc, hread_1 e]
  exact .of (k _ (List.getElem_mem _))

def eLk (i : Int) : List Value := [.int .i64 i, .slice none 0 0, .slice none 0 0]
theorem eLk_len (i : Int) : (eLk i).length = 3 := rfl
theorem eLk_one (l : List Int) : (fl eLk l).all vone = true := by induction l <;> simp_all [fl, eLk, vone]
/-- Cells of which nothing is known. -/
def Raw (n : Nat) := {cs : List Value // cs.length = n ∧ cs.all vone = true}
def eR (n : Nat) (a : Raw n) : List Value := a.1
theorem eR_len (n : Nat) (a : Raw n) : (eR n a).length = n := a.2.1
theorem eR_one (n : Nat) (l : List (Raw n)) : (fl (eR n) l).all vone = true := by
  induction l with
  | nil => rfl
  | cons a l ih => rw [fl_cons, List.all_append, ih, show (eR n a).all vone = true from a.2.2]; rfl
theorem tLocks : Tryd.prog.underlying 121 = some (.slice 151) := by kernel_rfl
theorem iLock : InfoIs Tryd.prog 151 3 56 := infoB_is (by kernel_rfl)
theorem tHouses : Tryd.prog.underlying 99 = some (.slice 124) := by kernel_rfl
theorem iHouse : InfoIs Tryd.prog 124 6 96 := infoB_is (by kernel_rfl)

theorem locks_c {h : H} {R : Ending → H → Prop} (k : ∀ v, vone v = true → R (.returned v) h) : HCalls Tryd.prog 85 #[] h R := by
  refine HCalls_ir (args := []) Tryd.func85 ir85 ?_
  simp only [walk, lists, acts, mem, plain, seqs, maps, cells, resL, resV, intBin, ↓reduceIte, Nat.reduceAdd, Nat.reduceSub, Nat.reduceMul, Nat.reduceLeDiff, Nat.reduceEqDiff, Int.reduceToNat, Int.reduceEq, Int.reduceLT, Int.reduceLE, Int.reduceNeg, Int.reduceAdd, Int.reduceSub, Int.reduceMul, Nat.reducePow, Int.reduceNegSucc]
  refine newB_intro (o := blk (fl eLk []) 151) fun j hj => ?_
  simp only [walk, lists, acts, mem, plain, seqs, maps, cells, resL, resV, intBin, ↓reduceIte, Nat.reduceAdd, Nat.reduceSub, Nat.reduceMul, Nat.reduceLeDiff, Nat.reduceEqDiff, Int.reduceToNat, Int.reduceEq, Int.reduceLT, Int.reduceLE, Int.reduceNeg, Int.reduceAdd, Int.reduceSub, Int.reduceMul, Nat.reducePow, Int.reduceNegSucc]
  have o1 : oLs 151 eLk 3 (.slice (some ⟨j, 0, none⟩) 0 0) [] [(j, blk (fl eLk []) 151)] := oLs_new eLk_len
  refine vc_loop [1, 2] (fun n vs h' => ∃ (i : Nat) (v' : Value) (l : List Int) (g : H), vs = [v', .int .i64 i] ∧ h' = g ++ h ∧ Dj g h ∧ oLs 151 eLk 3 v' l g ∧ l.length = i ∧ i ≤ 8 ∧ n = 8 - i) 8 rfl ⟨0, _, [], _, rfl, rfl, Dj.one hj, o1, rfl, by omega, rfl⟩ ?_
  rintro n f h' ⟨i, v', l, g, hv, rfl, dj, o, hl, hi, rfl⟩
  simp only [List.map_cons, List.map_nil, List.cons.injEq, and_true] at hv
  simp only [walk, lists, acts, mem, plain, seqs, maps, cells, resL, resV, intBin, ↓reduceIte, Nat.reduceAdd, Nat.reduceSub, Nat.reduceMul, Nat.reduceLeDiff, Nat.reduceEqDiff, Int.reduceToNat, Int.reduceEq, Int.reduceLT, Int.reduceLE, Int.reduceNeg, Int.reduceAdd, Int.reduceSub, Int.reduceMul, Nat.reducePow, Int.reduceNegSucc, wr, hv.1, hv.2]
  refine ite_lt (fun c => ?_) fun c => ?_
  · refine newB_intro (o := blk (fl eLk [(i : Int)]) 151) fun j2 hj2 => ?_
    simp only [walk, lists, acts, mem, plain, seqs, maps, cells, resL, resV, intBin, ↓reduceIte, Nat.reduceAdd, Nat.reduceSub, Nat.reduceMul, Nat.reduceLeDiff, Nat.reduceEqDiff, Int.reduceToNat, Int.reduceEq, Int.reduceLT, Int.reduceLE, Int.reduceNeg, Int.reduceAdd, Int.reduceSub, Int.reduceMul, Nat.reducePow, Int.reduceNegSucc]
    refine app_leaf (g := g) (h := h) (M := (j2, blk (fl eLk [(i : Int)]) 151) :: (g ++ h)) eLk_len eLk_one tLocks iLock (Sub.cons hj2 (Sub.refl _)) dj o (rL_lit eLk_len [(i : Int)]) (by simp; omega) (by simp; omega) fun v2 g2 o2 d2 => ?_
    simp (disch := omega) only [walk, lists, acts, mem, plain, seqs, maps, cells, resL, resV, intBin, ↓reduceIte, Nat.reduceAdd, Nat.reduceSub, Nat.reduceMul, Nat.reduceLeDiff, Nat.reduceEqDiff, Int.reduceToNat, Int.reduceEq, Int.reduceLT, Int.reduceLE, Int.reduceNeg, Int.reduceAdd, Int.reduceSub, Int.reduceMul, Nat.reducePow, Int.reduceNegSucc, wrapI]
    exact ⟨8 - (i + 1), by omega, _, .refl _, i + 1, v2, _, g2, by simp, rfl, d2, o2, by simp [hl], by omega, rfl⟩
  · exact ⟨h, Sub.right dj, k v' o.rd.one⟩

theorem houseStart_c {h : H} {i : Int} {R : Ending → H → Prop} (k : ∀ cs : List Value, cs.length = 6 → cs.all vone = true → R (.returned (.agg cs.toArray)) h) : HCalls Tryd.prog 71 #[.int .i64 i] h R := by
  refine HCalls_ir (args := [.int .i64 i]) Tryd.func71 ir71 ?_
  simp only [walk, lists, acts, mem, plain, seqs, maps, cells, resL, resV, intBin, ↓reduceIte, Nat.reduceAdd, Nat.reduceSub, Nat.reduceMul, Nat.reduceLeDiff, Nat.reduceEqDiff, Int.reduceToNat, Int.reduceEq, Int.reduceLT, Int.reduceLE, Int.reduceNeg, Int.reduceAdd, Int.reduceSub, Int.reduceMul, Nat.reducePow, Int.reduceNegSucc]
  refine newB_intro fun j hj => ?_
  have sj := fun o => Sub.cons (o := o) hj (Sub.refl h)
  simp only [walk, lists, acts, mem, plain, seqs, maps, cells, resL, resV, intBin, ↓reduceIte, Nat.reduceAdd, Nat.reduceSub, Nat.reduceMul, Nat.reduceLeDiff, Nat.reduceEqDiff, Int.reduceToNat, Int.reduceEq, Int.reduceLT, Int.reduceLE, Int.reduceNeg, Int.reduceAdd, Int.reduceSub, Int.reduceMul, Nat.reducePow, Int.reduceNegSucc]
  refine l12House_c fun b hb => ?_
  simp only [walk, lists, acts, mem, plain, seqs, maps, cells, resL, resV, intBin, ↓reduceIte, Nat.reduceAdd, Nat.reduceSub, Nat.reduceMul, Nat.reduceLeDiff, Nat.reduceEqDiff, Int.reduceToNat, Int.reduceEq, Int.reduceLT, Int.reduceLE, Int.reduceNeg, Int.reduceAdd, Int.reduceSub, Int.reduceMul, Nat.reducePow, Int.reduceNegSucc]
  refine ite_f (fun e => ?_) fun e => ?_
  · exact ⟨h, sj _, k _ rfl rfl⟩
  · refine locks_c fun v ov => ?_
    have vc := vcells_one ov
    simp only [walk, lists, acts, mem, plain, seqs, maps, cells, resL, resV, intBin, ↓reduceIte, Nat.reduceAdd, Nat.reduceSub, Nat.reduceMul, Nat.reduceLeDiff, Nat.reduceEqDiff, Int.reduceToNat, Int.reduceEq, Int.reduceLT, Int.reduceLE, Int.reduceNeg, Int.reduceAdd, Int.reduceSub, Int.reduceMul, Nat.reducePow, Int.reduceNegSucc, vc, ov]
    exact ⟨h, sj _, k _ rfl (by simp only [cells, ov])⟩

theorem gateStart_c {h : H} {R : Ending → H → Prop} (k : R (.returned (.agg [.bool true, .int .i64 1, .int .i64 1, .slice none 0 0, .slice none 0 0, .slice none 0 0].toArray)) h) : HCalls Tryd.prog 70 #[] h R := by
  refine HCalls_ir (args := []) Tryd.func70 ir70 ?_
  simp only [walk, lists, acts, mem, plain, seqs, maps, cells, resL, resV, intBin, ↓reduceIte, Nat.reduceAdd, Nat.reduceSub, Nat.reduceMul, Nat.reduceLeDiff, Nat.reduceEqDiff, Int.reduceToNat, Int.reduceEq, Int.reduceLT, Int.reduceLE, Int.reduceNeg, Int.reduceAdd, Int.reduceSub, Int.reduceMul, Nat.reducePow, Int.reduceNegSucc]
  refine newB_intro fun j hj => ?_
  simp only [walk, lists, acts, mem, plain, seqs, maps, cells, resL, resV, intBin, ↓reduceIte, Nat.reduceAdd, Nat.reduceSub, Nat.reduceMul, Nat.reduceLeDiff, Nat.reduceEqDiff, Int.reduceToNat, Int.reduceEq, Int.reduceLT, Int.reduceLE, Int.reduceNeg, Int.reduceAdd, Int.reduceSub, Int.reduceMul, Nat.reducePow, Int.reduceNegSucc]
  exact ⟨h, Sub.cons hj (Sub.refl h), k⟩

theorem splice_all {z cs : List Value} (h : cs.length = z.length) : splice z 0 cs = cs := by
  rw [splice_eq _ _ _ (by omega), h]; simp
def wb (v : Value) : List Value := [.int .i64 0, .bool true, .int .i64 1, .int .i64 1, .slice none 0 0, .slice none 0 0, .slice none 0 0, v, .slice none 0 0, .slice none 0 0]
theorem w_wb : (∀ v, (wb v).length = 10) ∧ (∀ v, (wb v)[7]? = some v) ∧ (∀ v w, splice (wb v) 7 [w] = wb w) ∧ (∀ v, ((wb v).drop 0).take 10 = wb v) ∧ (∀ v, (wb v).take 10 = wb v) ∧ (∀ v, (wb v).all vone = vone v) :=
  ⟨fun _ => rfl, fun _ => rfl, fun _ _ => rfl, fun _ => rfl, fun _ => rfl, fun v => by simp only [wb, cells]; cases vone v <;> rfl⟩
theorem tollStart_c {h : H} {R : Ending → H → Prop} (k : ∀ cs : List Value, cs.length = 10 → cs.all vone = true → R (.returned (.agg cs.toArray)) h) : HCalls Tryd.prog 62 #[] h R := by
  refine HCalls_ir (args := []) Tryd.func62 ir62 ?_
  simp only [walk, lists, acts, mem, plain, seqs, maps, cells, resL, resV, intBin, ↓reduceIte, Nat.reduceAdd, Nat.reduceSub, Nat.reduceMul, Nat.reduceLeDiff, Nat.reduceEqDiff, Int.reduceToNat, Int.reduceEq, Int.reduceLT, Int.reduceLE, Int.reduceNeg, Int.reduceAdd, Int.reduceSub, Int.reduceMul, Nat.reducePow, Int.reduceNegSucc]
  refine newB_intro fun j hj => ?_
  simp only [walk, lists, acts, mem, plain, seqs, maps, cells, resL, resV, intBin, ↓reduceIte, Nat.reduceAdd, Nat.reduceSub, Nat.reduceMul, Nat.reduceLeDiff, Nat.reduceEqDiff, Int.reduceToNat, Int.reduceEq, Int.reduceLT, Int.reduceLE, Int.reduceNeg, Int.reduceAdd, Int.reduceSub, Int.reduceMul, Nat.reducePow, Int.reduceNegSucc]
  refine gateStart_c ?_
  simp only [walk, lists, acts, mem, plain, seqs, maps, cells, resL, resV, intBin, ↓reduceIte, Nat.reduceAdd, Nat.reduceSub, Nat.reduceMul, Nat.reduceLeDiff, Nat.reduceEqDiff, Int.reduceToNat, Int.reduceEq, Int.reduceLT, Int.reduceLE, Int.reduceNeg, Int.reduceAdd, Int.reduceSub, Int.reduceMul, Nat.reducePow, Int.reduceNegSucc]
  refine newB_intro fun j2 hj2 => ?_
  have n2 := fresh hj2
  simp only [walk, lists, acts, mem, plain, seqs, maps, cells, resL, resV, intBin, ↓reduceIte, Nat.reduceAdd, Nat.reduceSub, Nat.reduceMul, Nat.reduceLeDiff, Nat.reduceEqDiff, Int.reduceToNat, Int.reduceEq, Int.reduceLT, Int.reduceLE, Int.reduceNeg, Int.reduceAdd, Int.reduceSub, Int.reduceMul, Nat.reducePow, Int.reduceNegSucc]
  obtain ⟨Z, hZ⟩ : ∃ Z : List Value, Z = [.int .i64 0, .bool false, .int .i64 0, .int .i64 0, .slice none 0 0, .slice none 0 0, .slice none 0 0, .slice none 0 0, .slice none 0 0, .slice none 0 0] := ⟨_, rfl⟩
  have hZl : Z.length = 10 := by rw [hZ]; rfl
  obtain ⟨N, hN⟩ : ∃ N, N = Value.slice none 0 0 := ⟨_, rfl⟩
  refine vc_loop [2] (fun n vs h' => ∃ (i : Nat) (v' : Value) (l : List (Raw 6)) (g : H), vs = [.int .i64 i] ∧ h' = g ++ ((j2, blk (wb v') 103) :: (j, blk Z 103) :: h) ∧ (∀ q, Dj g ((j2, blk (wb q) 103) :: (j, blk Z 103) :: h)) ∧ oLs 124 (eR 6) 6 v' l g ∧ l.length = i ∧ i ≤ 3 ∧ n = 3 - i) 3 rfl ⟨0, .slice none 0 0, [], [], rfl, by rw [hZ]; rfl, fun q => Dj.nil _, ows.nil _ _, rfl, by omega, rfl⟩ ?_
  rintro n f h' ⟨i, v', l, g, hv, rfl, dj, o, hl, hi, rfl⟩
  simp only [List.map_cons, List.map_nil, List.cons.injEq, and_true] at hv
  have d1 := dj v'
  have d2 := d1.symm
  simp only [subs] at d1 d2
  have ov := o.rd.one
  simp only [walk, lists, acts, mem, plain, seqs, maps, cells, resL, resV, intBin, ↓reduceIte, Nat.reduceAdd, Nat.reduceSub, Nat.reduceMul, Nat.reduceLeDiff, Nat.reduceEqDiff, Int.reduceToNat, Int.reduceEq, Int.reduceLT, Int.reduceLE, Int.reduceNeg, Int.reduceAdd, Int.reduceSub, Int.reduceMul, Nat.reducePow, Int.reduceNegSucc, wr, hv]
  refine ite_lt (fun c => ?_) fun c => ?_
  · refine vc_draw ((j2, blk (wb v') 103) :: (j, blk Z 103) :: h) (Sub.right (dj _)) ?_
    simp only [walk, lists, acts, mem, plain, seqs, maps, cells, resL, resV, intBin, ↓reduceIte, Nat.reduceAdd, Nat.reduceSub, Nat.reduceMul, Nat.reduceLeDiff, Nat.reduceEqDiff, Int.reduceToNat, Int.reduceEq, Int.reduceLT, Int.reduceLE, Int.reduceNeg, Int.reduceAdd, Int.reduceSub, Int.reduceMul, Nat.reducePow, Int.reduceNegSucc, w_wb]
    have sR := Sub.right (dj v')
    refine ⟨sR, houseStart_c fun cs hc1 hc2 => ?_⟩
    simp only [walk, lists, acts, mem, plain, seqs, maps, cells, resL, resV, intBin, ↓reduceIte, Nat.reduceAdd, Nat.reduceSub, Nat.reduceMul, Nat.reduceLeDiff, Nat.reduceEqDiff, Int.reduceToNat, Int.reduceEq, Int.reduceLT, Int.reduceLE, Int.reduceNeg, Int.reduceAdd, Int.reduceSub, Int.reduceMul, Nat.reducePow, Int.reduceNegSucc, sR, hc1]
    rw [splice_all (by rw [hc1]; rfl)]
    refine newB_intro (o := blk cs 124) fun j3 hj3 => ?_
    have sR3 := eq_true (Sub.cons (o := blk cs 124) hj3 sR)
    simp only [walk, lists, acts, mem, plain, seqs, maps, cells, resL, resV, intBin, ↓reduceIte, Nat.reduceAdd, Nat.reduceSub, Nat.reduceMul, Nat.reduceLeDiff, Nat.reduceEqDiff, Int.reduceToNat, Int.reduceEq, Int.reduceLT, Int.reduceLE, Int.reduceNeg, Int.reduceAdd, Int.reduceSub, Int.reduceMul, Nat.reducePow, Int.reduceNegSucc, sR3]
    obtain ⟨rc, hrc⟩ : ∃ rc : Raw 6, eR 6 rc = cs := ⟨⟨cs, hc1, hc2⟩, rfl⟩
    have hone : fl (eR 6) [rc] = cs := (fl_one _ _).trans hrc
    have r3 : rLs ((j3, blk cs 124) :: (g ++ ((j2, blk (wb v') 103) :: (j, blk Z 103) :: h))) (eR 6) 6 (.slice (some ⟨j3, 0, none⟩) 1 1) [rc] := by
      have := rL_lit (j := j3) (e := 124) (h := g ++ ((j2, blk (wb v') 103) :: (j, blk Z 103) :: h)) (eR_len 6) [rc]
      rw [hone] at this; exact this
    refine app_leaf (g := g) (h := (j2, blk (wb v') 103) :: (j, blk Z 103) :: h) (eR_len 6) (eR_one 6) tHouses iHouse (Sub.cons hj3 (Sub.refl _)) (dj _) o r3 (by simp; omega) (by simp; omega) fun v2 g2 o2 d3 => ?_
    have d3x := d3
    simp only [subs] at d3x
    have o2v := o2.rd.one
    have vc2 := vcells_one o2v
    simp only [walk, lists, acts, mem, plain, seqs, maps, cells, resL, resV, intBin, ↓reduceIte, Nat.reduceAdd, Nat.reduceSub, Nat.reduceMul, Nat.reduceLeDiff, Nat.reduceEqDiff, Int.reduceToNat, Int.reduceEq, Int.reduceLT, Int.reduceLE, Int.reduceNeg, Int.reduceAdd, Int.reduceSub, Int.reduceMul, Nat.reducePow, Int.reduceNegSucc, Sub.right d3, apps, d3x, w_wb, o2v, vc2]
    simp (disch := omega) only [walk, lists, acts, mem, plain, seqs, maps, cells, resL, resV, intBin, ↓reduceIte, Nat.reduceAdd, Nat.reduceSub, Nat.reduceMul, Nat.reduceLeDiff, Nat.reduceEqDiff, Int.reduceToNat, Int.reduceEq, Int.reduceLT, Int.reduceLE, Int.reduceNeg, Int.reduceAdd, Int.reduceSub, Int.reduceMul, Nat.reducePow, Int.reduceNegSucc, wrapI]
    refine ⟨3 - (i + 1), by omega, _, .refl _, i + 1, v2, _, g2, by simp, rfl, fun q => by simp only [subs, d3x], o2, by simp [hl], by omega, rfl⟩
  · have z10 : splice Z 0 (wb v') = wb v' := splice_all (by rw [hZl]; rfl)
    simp only [walk, lists, acts, mem, plain, seqs, maps, cells, resL, resV, intBin, ↓reduceIte, Nat.reduceAdd, Nat.reduceSub, Nat.reduceMul, Nat.reduceLeDiff, Nat.reduceEqDiff, Int.reduceToNat, Int.reduceEq, Int.reduceLT, Int.reduceLE, Int.reduceNeg, Int.reduceAdd, Int.reduceSub, Int.reduceMul, Nat.reducePow, Int.reduceNegSucc, apps, d1, w_wb, hZl, n2.1, n2.2.1, z10, ov]
    exact ⟨h, by (repeat' first | exact Sub.refl _ | exact Sub.nil _ | assumption | refine Sub.both ?_ ?_ | refine Sub.cons_of (by simp only [subs, d1, d2, hj, n2]) ?_ | exact Sub.left _ _ | refine Sub.app (by simp only [subs, d1, d2, hj, n2]) ?_ | refine Sub.cons (by simp only [subs, d1, d2, hj, n2]) ?_), k _ rfl (by rw [w_wb.2.2.2.2.2]; exact ov)⟩
end Go.Proofs.YtfkkjjballajaaaDoor
end

/- Steps of drawing in any order. -/
section
set_option linter.unusedVariables false
set_option linter.unusedSimpArgs false
set_option maxRecDepth 20000
namespace Go.Proofs.YtfkkjjballajaaaDoor
open Go Go.Tk

def qI (a b : Int) : H → Value → Prop := fun _ v => ∃ n : Int, v = .int .i64 n ∧ a ≤ n ∧ n ≤ b
def qZ : H → Value → Prop := fun _ v => ∃ n : Int, v = .int .i64 n
def qV (w : Value) : H → Value → Prop := fun _ v => v = w
def qB : H → Value → Prop := fun _ v => ∃ b : Bool, v = .bool b
def qS (T len : Nat) : H → Value → Prop := fun x v => ∃ (j : Nat) (l : List Int), v = .slice (some ⟨j, 0, none⟩) len len ∧ l.length = len ∧ hget x j = some (blk (fl eI l) T)
def qP : H → Value → Prop := fun x v => ∃ (b o : Nat) (n : Int), v = .pointer (some ⟨b, o, none⟩) ∧ hread x b o 1 = some [.int .i64 n]
def qN (rest : H) (jr T : Nat) (l : List Value) : H → Value → Prop := fun x v => ∃ j : Nat, v = .pointer (some ⟨j, 0, none⟩) ∧ hget x j = some (blk l T) ∧ hget rest j = none ∧ j ≠ jr
def mono (q : H → Value → Prop) : Prop := ∀ g g' v, Tk.Sub g g' → q g v → q g' v
theorem mono_qI (a b : Int) : mono (qI a b) := fun _ _ _ _ h => h
theorem mono_qZ : mono qZ := fun _ _ _ _ h => h
theorem mono_qV (w : Value) : mono (qV w) := fun _ _ _ _ h => h
theorem mono_qB : mono qB := fun _ _ _ _ h => h
theorem mono_qS (T len : Nat) : mono (qS T len) := fun _ _ _ s ⟨j, l, a, b, c⟩ => ⟨j, l, a, b, s _ _ c⟩
theorem mono_qP : mono qP := fun _ _ _ s ⟨b, o, n, h1, h2⟩ => ⟨b, o, n, h1, hread_sub s h2⟩
theorem mono_qN (rest : H) (jr T : Nat) (l : List Value) : mono (qN rest jr T l) := fun _ _ _ s ⟨j, a, b, c⟩ => ⟨j, a, s _ _ b, c⟩

theorem ndr : (nds [] = []) ∧ (∀ d g i l, nds (⟨some d, g, i⟩ :: l) = d :: nds l) ∧ (∀ g i l, nds (⟨none, g, i⟩ :: l) = nds l) := ⟨rfl, fun _ _ _ _ => rfl, fun _ _ _ => rfl⟩
def qSt : H → Value → Prop := fun _ v => ∃ s : DStatement, v = .agg (cStatement s).toArray
theorem mono_qSt : mono qSt := fun _ _ _ _ h => h
/-- What is kept while drawing: the reader, and a part that grows. -/
def memR (jr : Nat) (bv : Value) (p P : Nat) : Nat → H → H → Prop := fun m h g => ∃ q, Tk.Sub ((jr, blk (rdr bv q) 88) :: g) h ∧ hget g jr = none ∧ q + m ≤ P ∧ p ≤ q
theorem memR.sub {jr : Nat} {bv : Value} {p P m : Nat} {h g : H} (x : memR jr bv p P m h g) : Tk.Sub g h := by
  obtain ⟨q, s, hn, _⟩ := x
  exact (Sub.cons hn (Sub.refl g)).trans s
theorem memR.next {jr : Nat} {bv : Value} {p P m : Nat} {h g : H} (x : memR jr bv p P (m + 1) h g) : memR jr bv p P m h g := by
  obtain ⟨q, s, hn, h1, h2⟩ := x
  exact ⟨q, s, hn, by omega, h2⟩

section
variable {jr p P : Nat} {bv : Value} {rest : H} {ρ : (Nat → Value) → Operand → Value} {D : H → (Nat → Value) → Prop} {q : H → Value → Prop}

theorem sA_mov {x : Operand} (k : ∀ f g, Tk.Sub rest g → D g f → q g (ρ f x)) : stA Tryd.prog (memR jr bv p P) q rest ρ D (.mov x) :=
  fun m f h g hm hs hd => ⟨g, hm.next, Sub.refl _, k f g hs hd⟩
theorem sA_nilc {x : Operand} (k : ∀ f g, Tk.Sub rest g → D g f → ∃ a, ρ f x = .pointer (some a) ∧ q g (.pointer (some a))) : stA Tryd.prog (memR jr bv p P) q rest ρ D (.nilc x) := fun m f h g hm hs hd => by
  obtain ⟨a, e, hq⟩ := k f g hs hd
  show (match ρ f x with | .pointer (some a) => _ | .func (.func f) fi ca => _ | _ => _)
  rw [e]
  exact ⟨g, hm.next, Sub.refl _, hq⟩
theorem sA_fld {x : Operand} {off : Nat} (k : ∀ f g, Tk.Sub rest g → D g f → ∃ b o, ρ f x = .pointer (some ⟨b, o, none⟩) ∧ q g (.pointer (some ⟨b, o + off, none⟩))) : stA Tryd.prog (memR jr bv p P) q rest ρ D (.fld x off) := fun m f h g hm hs hd => by
  obtain ⟨b, o, e, hq⟩ := k f g hs hd
  show (match ρ f x with | .pointer (some ⟨b, k, none⟩) => _ | _ => _)
  rw [e]
  exact ⟨g, hm.next, Sub.refl _, hq⟩
theorem sA_load {x : Operand} (k : ∀ f g, Tk.Sub rest g → D g f → ∃ b o v, ρ f x = .pointer (some ⟨b, o, none⟩) ∧ hcel g b o = some v ∧ q g v) : stA Tryd.prog (memR jr bv p P) q rest ρ D (.load x 1 false) := fun m f h g hm hs hd => by
  obtain ⟨b, o, v, e, hc, hq⟩ := k f g hs hd
  show (match ρ f x with | .pointer (some ⟨b, k, none⟩) => (match hval h b k 1 false with | some v => _ | none => False) | _ => False)
  rw [e]
  have : hval h b o 1 false = some v := hcel_sub hm.sub hc
  simp only [this]
  exact ⟨g, hm.next, Sub.refl _, hq⟩
theorem sA_bin {op : BinOp} {t : TypeId} {x y : Operand} (k : ∀ f g, Tk.Sub rest g → D g f → ∃ (a b : Int) (v : Value), ρ f x = .int .i64 a ∧ ρ f y = .int .i64 b ∧ intBin op .i64 a b = some v ∧ q g v) : stA Tryd.prog (memR jr bv p P) q rest ρ D (.bin op t x y) := fun m f h g hm hs hd => by
  obtain ⟨a, b, v, e1, e2, hv, hq⟩ := k f g hs hd
  show vop _ _ _ _ _ _
  unfold vop
  simp only [e1, e2, hv]
  exact ⟨.inl trivial, g, hm.next, Sub.refl _, hq⟩
theorem sA_pick {l : List UInt8} (rb : rIn rest eB 1 bv l) (hl : l.length ≤ 1048576) (hP : P ≤ 1099511627776) {x y : Operand} {n : Int} (hn : 1 ≤ n ∧ n ≤ 1000000) (k : ∀ f g, Tk.Sub rest g → D g f → ρ f x = .pointer (some ⟨jr, 0, none⟩) ∧ ρ f y = .int .i64 n) (hq : ∀ g m, 0 ≤ m → m < n → q g (.int .i64 m)) :
    stA Tryd.prog (memR jr bv p P) q rest ρ D (.call 48 [x, y]) := fun m f h g hm hs hd => by
  obtain ⟨e1, e2⟩ := k f g hs hd
  obtain ⟨r, s, hj, h1, h2⟩ := hm
  show HCalls _ _ _ _ _
  simp only [List.map_cons, List.map_nil, e1, e2]
  refine (pick_c hj (rb.sub hs) hl (by omega) (by omega) fun z hz0 hz1 _ => ?_).weaken s
  exact ⟨g, ⟨r + 1, Sub.refl _, hj, by omega, by omega⟩, Sub.refl _, hq g z hz0 (hz1 hn.1)⟩
theorem sA_ints {e len : Nat} {ps : List (Nat × Nat × Operand)} (k : ∀ f g, Tk.Sub rest g → D g f → ∃ l : List Int, l.length = len ∧ fillL (zrep [.int .i64 0] len) (ps.map fun p => (p.1, p.2.1, vcells (ρ f p.2.2))) = some (fl eI l)) :
    stA Tryd.prog (memR jr bv p P) (qS e len) rest ρ D (.bslice e [.int .i64 0] len ps) := fun m f h g hm hs hd => by
  obtain ⟨l, hl, hf⟩ := k f g hs hd
  show vop _ _ _ _ _ _
  unfold vop
  simp only [hf]
  intro j hj
  obtain ⟨r, s, hr, h1, h2⟩ := hm
  have hjg : hget ((jr, blk (rdr bv r) 88) :: g) j = none := s.none' hj
  have n := fresh hjg
  refine ⟨(j, blk (fl eI l) e) :: g, ⟨r, ?_, ?_, by omega, h2⟩, Sub.cons n.2.2 (Sub.refl _), j, l, rfl, hl, hget_same _ _ _⟩
  · have e1 : hget h jr = some (blk (rdr bv r) 88) := s _ _ (hget_same _ _ _)
    refine Sub.cons_of ?_ (Sub.cons2 ((Sub.cons hr (Sub.refl g)).trans s))
    rw [hget_next _ _ _ n.1]; exact e1
  · simp only [subs, n.1, hr]
theorem sA_idx {x i : Operand} (k : ∀ f g, Tk.Sub rest g → D g f → ∃ (T len j : Nat) (l : List Int) (n : Int), ρ f x = .slice (some ⟨j, 0, none⟩) len len ∧ l.length = len ∧ hget g j = some (blk (fl eI l) T) ∧ ρ f i = .int .i64 n ∧ 0 ≤ n ∧ n < len) :
    stA Tryd.prog (memR jr bv p P) qP rest ρ D (.idxS x i 1) := fun m f h g hm hs hd => by
  obtain ⟨T, len, j, l, n, e1, hl, hg, e2, h0, h1⟩ := k f g hs hd
  show vop _ _ _ _ _ _
  unfold vop
  simp only [e1, e2]
  refine ⟨⟨h0, h1⟩, g, hm.next, Sub.refl _, j, 0 + n.toNat * 1, l[n.toNat]'(by omega), rfl, ?_⟩
  unfold hread
  rw [hg]
  simp only [Option.bind_some, rdObj_blk]
  have hf := fl_len eI_len l
  rw [if_pos (by omega), Nat.zero_add]
  have := fl_at (enc := eI) (sz := 1) eI_len (l := l) (i := n.toNat) (by omega)
  rw [this]; rfl
theorem sA_build {z : List Value} {ps : List (Nat × Nat × Operand)} (k : ∀ f g, Tk.Sub rest g → D g f → ∃ l, fillL z (ps.map fun p => (p.1, p.2.1, vcells (ρ f p.2.2))) = some l ∧ q g (.agg l.toArray)) : stA Tryd.prog (memR jr bv p P) q rest ρ D (.build z ps) := fun m f h g hm hs hd => by
  obtain ⟨l, hf, hq⟩ := k f g hs hd
  show vop _ _ _ _ _ _
  unfold vop
  simp only [hf]
  exact ⟨g, hm.next, Sub.refl _, hq⟩
theorem sA_alloc {e : Nat} {z : List Value} : stA Tryd.prog (memR jr bv p P) (qN rest jr e z) rest ρ D (.alloc e z) := fun m f h g hm hs hd => by
  show ∀ j, hget h j = none → _
  intro j hj
  obtain ⟨r, s, hr, h1, h2⟩ := hm
  have hjg : hget ((jr, blk (rdr bv r) 88) :: g) j = none := s.none' hj
  have n := fresh hjg
  refine ⟨(j, blk z e) :: g, ⟨r, ?_, ?_, by omega, h2⟩, Sub.cons n.2.2 (Sub.refl _), j, rfl, hget_same _ _ _, hs.none' n.2.2, n.2.1⟩
  · have e1 : hget h jr = some (blk (rdr bv r) 88) := s _ _ (hget_same _ _ _)
    refine Sub.cons_of ?_ (Sub.cons2 ((Sub.cons hr (Sub.refl g)).trans s))
    rw [hget_next _ _ _ n.1]; exact e1
  · simp only [subs, n.1, hr]
end
end Go.Proofs.YtfkkjjballajaaaDoor
end
