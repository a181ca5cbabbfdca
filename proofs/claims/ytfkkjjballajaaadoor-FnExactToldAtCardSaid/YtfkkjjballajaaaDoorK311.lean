/- Parts of the proof, put together: V6, V7, C1, V10, C2, V11. -/
import Derived.Test.YtfkkjjballajaaaDoorK310
import Derived.Test.YtfkkjjballajaaaDoorK39
import Derived.Test.YtfkkjjballajaaaDoorK35
/- How the program writes a deal. -/
section
set_option linter.unusedVariables false
set_option linter.unusedSimpArgs false
set_option maxRecDepth 20000
attribute [local irreducible] Go.Tk.vc Go.Tk.vops Go.Tk.vdr Go.Tk.vop Go.Tk.vfl Go.Tk.HCalls
namespace Go.Proofs.YtfkkjjballajaaaDoor
open Go Go.Tk

theorem get_text_c {h : H} {a : Int} (gl : Gl h) (ha : i64P a) {R : Ending → H → Prop} (k : R (.returned (.string ⟨([103, 101, 116, 32] ++ decI a ++ [59]).toArray⟩)) h) :
    HCalls Tryd.prog 128 #[.agg #[.int .i64 a]] h R := by
  refine HCalls_ir (args := [.agg [.int .i64 a].toArray]) Tryd.func128 ir128 ?_
  have la := decI_len' ha
  simp only [walk, lists, acts, mem, plain, seqs, maps, cells, resL, resV, intBin, ↓reduceIte, Nat.reduceAdd, Nat.reduceSub, Nat.reduceMul, Nat.reduceLeDiff, Nat.reduceEqDiff, Int.reduceToNat, Int.reduceEq, Int.reduceLT, Int.reduceLE, Int.reduceNeg, Int.reduceAdd, Int.reduceSub, Int.reduceMul, Nat.reducePow, Int.reduceNegSucc, str]
  refine newB_intro fun j hj => ?_
  have sj := fun o => Sub.cons (o := o) hj (Sub.refl h)
  simp only [walk, lists, acts, mem, plain, seqs, maps, cells, resL, resV, intBin, ↓reduceIte, Nat.reduceAdd, Nat.reduceSub, Nat.reduceMul, Nat.reduceLeDiff, Nat.reduceEqDiff, Int.reduceToNat, Int.reduceEq, Int.reduceLT, Int.reduceLE, Int.reduceNeg, Int.reduceAdd, Int.reduceSub, Int.reduceMul, Nat.reducePow, Int.reduceNegSucc, str]
  refine itoa_c (gl.sub (sj _)) ha ?_
  simp (disch := (first | assumption | (simp only [List.length_append, List.length_cons, List.length_nil]; omega) | omega)) only [walk, lists, acts, mem, plain, seqs, maps, cells, resL, resV, intBin, ↓reduceIte, Nat.reduceAdd, Nat.reduceSub, Nat.reduceMul, Nat.reduceLeDiff, Nat.reduceEqDiff, Int.reduceToNat, Int.reduceEq, Int.reduceLT, Int.reduceLE, Int.reduceNeg, Int.reduceAdd, Int.reduceSub, Int.reduceMul, Nat.reducePow, Int.reduceNegSucc, str, str_add]
  exact ⟨h, sj _, k⟩
theorem putStep_text_c {h : H} {a b : Int} (gl : Gl h) (ha : i64P a) (hb : i64P b) {R : Ending → H → Prop} (k : R (.returned (.string ⟨([112, 117, 116] ++ 32 :: (decI a ++ 32 :: (decI b ++ [59]))).toArray⟩)) h) :
    HCalls Tryd.prog 129 #[.agg #[.int .i64 a, .int .i64 b]] h R := by
  refine HCalls_ir (args := [.agg [.int .i64 a, .int .i64 b].toArray]) Tryd.func129 ir129 ?_
  simp only [walk, lists, acts, mem, plain, seqs, maps, cells, resL, resV, intBin, ↓reduceIte, Nat.reduceAdd, Nat.reduceSub, Nat.reduceMul, Nat.reduceLeDiff, Nat.reduceEqDiff, Int.reduceToNat, Int.reduceEq, Int.reduceLT, Int.reduceLE, Int.reduceNeg, Int.reduceAdd, Int.reduceSub, Int.reduceMul, Nat.reducePow, Int.reduceNegSucc, str]
  refine newB_intro fun j hj => ?_
  have sj := fun o => Sub.cons (o := o) hj (Sub.refl h)
  simp only [walk, lists, acts, mem, plain, seqs, maps, cells, resL, resV, intBin, ↓reduceIte, Nat.reduceAdd, Nat.reduceSub, Nat.reduceMul, Nat.reduceLeDiff, Nat.reduceEqDiff, Int.reduceToNat, Int.reduceEq, Int.reduceLT, Int.reduceLE, Int.reduceNeg, Int.reduceAdd, Int.reduceSub, Int.reduceMul, Nat.reducePow, Int.reduceNegSucc, str]
  refine numText_c (gl.sub (sj _)) (by decide) ha hb ?_
  simp only [walk, lists, acts, mem, plain, seqs, maps, cells, resL, resV, intBin, ↓reduceIte, Nat.reduceAdd, Nat.reduceSub, Nat.reduceMul, Nat.reduceLeDiff, Nat.reduceEqDiff, Int.reduceToNat, Int.reduceEq, Int.reduceLT, Int.reduceLE, Int.reduceNeg, Int.reduceAdd, Int.reduceSub, Int.reduceMul, Nat.reducePow, Int.reduceNegSucc, str]
  exact ⟨h, sj _, k⟩
theorem addStep_text_c {h : H} {a b : Int} (gl : Gl h) (ha : i64P a) (hb : i64P b) {R : Ending → H → Prop} (k : R (.returned (.string ⟨([97, 100, 100] ++ 32 :: (decI a ++ 32 :: (decI b ++ [59]))).toArray⟩)) h) :
    HCalls Tryd.prog 131 #[.agg #[.int .i64 a, .int .i64 b]] h R := by
  refine HCalls_ir (args := [.agg [.int .i64 a, .int .i64 b].toArray]) Tryd.func131 ir131 ?_
  simp only [walk, lists, acts, mem, plain, seqs, maps, cells, resL, resV, intBin, ↓reduceIte, Nat.reduceAdd, Nat.reduceSub, Nat.reduceMul, Nat.reduceLeDiff, Nat.reduceEqDiff, Int.reduceToNat, Int.reduceEq, Int.reduceLT, Int.reduceLE, Int.reduceNeg, Int.reduceAdd, Int.reduceSub, Int.reduceMul, Nat.reducePow, Int.reduceNegSucc, str]
  refine newB_intro fun j hj => ?_
  have sj := fun o => Sub.cons (o := o) hj (Sub.refl h)
  simp only [walk, lists, acts, mem, plain, seqs, maps, cells, resL, resV, intBin, ↓reduceIte, Nat.reduceAdd, Nat.reduceSub, Nat.reduceMul, Nat.reduceLeDiff, Nat.reduceEqDiff, Int.reduceToNat, Int.reduceEq, Int.reduceLT, Int.reduceLE, Int.reduceNeg, Int.reduceAdd, Int.reduceSub, Int.reduceMul, Nat.reducePow, Int.reduceNegSucc, str]
  refine numText_c (gl.sub (sj _)) (by decide) ha hb ?_
  simp only [walk, lists, acts, mem, plain, seqs, maps, cells, resL, resV, intBin, ↓reduceIte, Nat.reduceAdd, Nat.reduceSub, Nat.reduceMul, Nat.reduceLeDiff, Nat.reduceEqDiff, Int.reduceToNat, Int.reduceEq, Int.reduceLT, Int.reduceLE, Int.reduceNeg, Int.reduceAdd, Int.reduceSub, Int.reduceMul, Nat.reducePow, Int.reduceNegSucc, str]
  exact ⟨h, sj _, k⟩
theorem needStep_text_c {h : H} {a b : Int} (gl : Gl h) (ha : i64P a) (hb : i64P b) {R : Ending → H → Prop} (k : R (.returned (.string ⟨([110, 101, 101, 100] ++ 32 :: (decI a ++ 32 :: (decI b ++ [59]))).toArray⟩)) h) :
    HCalls Tryd.prog 132 #[.agg #[.int .i64 a, .int .i64 b]] h R := by
  refine HCalls_ir (args := [.agg [.int .i64 a, .int .i64 b].toArray]) Tryd.func132 ir132 ?_
  simp only [walk, lists, acts, mem, plain, seqs, maps, cells, resL, resV, intBin, ↓reduceIte, Nat.reduceAdd, Nat.reduceSub, Nat.reduceMul, Nat.reduceLeDiff, Nat.reduceEqDiff, Int.reduceToNat, Int.reduceEq, Int.reduceLT, Int.reduceLE, Int.reduceNeg, Int.reduceAdd, Int.reduceSub, Int.reduceMul, Nat.reducePow, Int.reduceNegSucc, str]
  refine newB_intro fun j hj => ?_
  have sj := fun o => Sub.cons (o := o) hj (Sub.refl h)
  simp only [walk, lists, acts, mem, plain, seqs, maps, cells, resL, resV, intBin, ↓reduceIte, Nat.reduceAdd, Nat.reduceSub, Nat.reduceMul, Nat.reduceLeDiff, Nat.reduceEqDiff, Int.reduceToNat, Int.reduceEq, Int.reduceLT, Int.reduceLE, Int.reduceNeg, Int.reduceAdd, Int.reduceSub, Int.reduceMul, Nat.reducePow, Int.reduceNegSucc, str]
  refine numText_c (gl.sub (sj _)) (by decide) ha hb ?_
  simp only [walk, lists, acts, mem, plain, seqs, maps, cells, resL, resV, intBin, ↓reduceIte, Nat.reduceAdd, Nat.reduceSub, Nat.reduceMul, Nat.reduceLeDiff, Nat.reduceEqDiff, Int.reduceToNat, Int.reduceEq, Int.reduceLT, Int.reduceLE, Int.reduceNeg, Int.reduceAdd, Int.reduceSub, Int.reduceMul, Nat.reducePow, Int.reduceNegSucc, str]
  exact ⟨h, sj _, k⟩
theorem step_text_c {h : H} {s : DStatement} (gl : Gl h) (hp : stP s) {R : Ending → H → Prop} (k : R (.returned (.string ⟨(stText s).toArray⟩)) h) : invK Tryd.prog (stepV s) "loop.example/turnpike/impl.text" [] h R := by
  obtain ⟨hd, hk, hv, _⟩ := hp
  unfold inP at hd
  have ik : i64P s.key := by unfold inP at hk; unfold i64P; omega
  have iv : i64P s.num := by unfold valP inP at hv; unfold i64P; omega
  rw [stText_W] at k
  unfold stW nmD at k
  unfold stepV
  split
  · rename_i c
    rw [if_pos c, if_pos c] at k
    refine ⟨128, .agg #[.int .i64 s.key], by kernel_rfl, by kernel_rfl, get_text_c gl ik ?_⟩
    simpa using k
  · rename_i c
    rw [if_neg c, if_neg c] at k
    split
    · rename_i c2
      rw [if_pos c2] at k
      refine ⟨129, .agg #[.int .i64 s.key, .int .i64 s.num], by kernel_rfl, by kernel_rfl, putStep_text_c gl ik iv ?_⟩
      simpa using k
    · rename_i c2
      rw [if_neg c2] at k
      split
      · rename_i c3
        rw [if_pos c3] at k
        refine ⟨131, .agg #[.int .i64 s.key, .int .i64 s.num], by kernel_rfl, by kernel_rfl, addStep_text_c gl ik iv ?_⟩
        simpa using k
      · rename_i c3
        rw [if_neg c3] at k
        refine ⟨132, .agg #[.int .i64 s.key, .int .i64 s.num], by kernel_rfl, by kernel_rfl, needStep_text_c gl ik iv ?_⟩
        simpa using k

theorem implDealWrite_c {h : H} {v : Value} {l : List DStatement} (gl : Gl h) (r : rLs h cStatement 3 v l) (hl : l.length ≤ 1099511627776) {R : Ending → H → Prop} (k : ∀ t, dealT l t → R (.returned (.string ⟨t.toArray⟩)) h) :
    HCalls Tryd.prog 11 #[v] h R := by
  refine HCalls_ir (args := [v]) Tryd.func11 ir11 ?_
  simp only [walk, lists, acts, mem, plain, seqs, maps, cells, resL, resV, intBin, ↓reduceIte, Nat.reduceAdd, Nat.reduceSub, Nat.reduceMul, Nat.reduceLeDiff, Nat.reduceEqDiff, Int.reduceToNat, Int.reduceEq, Int.reduceLT, Int.reduceLE, Int.reduceNeg, Int.reduceAdd, Int.reduceSub, Int.reduceMul, Nat.reducePow, Int.reduceNegSucc, str]
  refine stepsOf_c r hl (fun p v' g o d => ?_) fun p => ?_
  · have sg := Sub.right d
    simp only [walk, lists, acts, mem, plain, seqs, maps, cells, resL, resV, intBin, ↓reduceIte, Nat.reduceAdd, Nat.reduceSub, Nat.reduceMul, Nat.reduceLeDiff, Nat.reduceEqDiff, Int.reduceToNat, Int.reduceEq, Int.reduceLT, Int.reduceLE, Int.reduceNeg, Int.reduceAdd, Int.reduceSub, Int.reduceMul, Nat.reducePow, Int.reduceNegSucc, str]
    refine newB_intro fun jb hjb => ?_
    have nb := hjb
    simp only [subs] at nb
    simp only [walk, lists, acts, mem, plain, seqs, maps, cells, resL, resV, intBin, ↓reduceIte, Nat.reduceAdd, Nat.reduceSub, Nat.reduceMul, Nat.reduceLeDiff, Nat.reduceEqDiff, Int.reduceToNat, Int.reduceEq, Int.reduceLT, Int.reduceLE, Int.reduceNeg, Int.reduceAdd, Int.reduceSub, Int.reduceMul, Nat.reducePow, Int.reduceNegSucc, str, o.rd.len]
    obtain ⟨B, hB⟩ : ∃ B, B = g ++ h := ⟨_, rfl⟩
    rw [← hB] at sg
    have rB : rLs B eStep 1 v' l := o.rd.sub (by rw [hB]; exact Sub.left _ _)
    rw [← hB] at hjb ⊢
    have hlt := fun i => dealText_len (l := l.take i) fun x hx => p.2.2 x (List.mem_of_mem_take hx)
    refine vc_loop [17] (fun n vs h' => ∃ (i : Nat) (G : H), vs = [.int .i64 i] ∧ h' = G ++ B ∧ oB jb (dealText (l.take i)) G ∧ Dj G B ∧ i ≤ l.length ∧ n = l.length - i) l.length rfl
      ⟨0, _, rfl, rfl, oB_new, by simp only [subs, hjb], by omega, rfl⟩ ?_
    rintro n f h' ⟨i, G, hv, rfl, oG, dG, hi, rfl⟩
    simp only [List.map_cons, List.map_nil, List.cons.injEq, and_true] at hv
    have sG := Sub.right dG
    simp only [walk, lists, acts, mem, plain, seqs, maps, cells, resL, resV, intBin, ↓reduceIte, Nat.reduceAdd, Nat.reduceSub, Nat.reduceMul, Nat.reduceLeDiff, Nat.reduceEqDiff, Int.reduceToNat, Int.reduceEq, Int.reduceLT, Int.reduceLE, Int.reduceNeg, Int.reduceAdd, Int.reduceSub, Int.reduceMul, Nat.reducePow, Int.reduceNegSucc, wr, hv, str]
    refine ite_lt (fun c2 => ?_) fun c2 => ?_
    · have hi2 : i < l.length := by omega
      refine idx_leaf (i := i) eStep_len (rB.sub sG) rfl hi2 fun b1 o1 e1 => ?_
      have e1' : hread (G ++ B) b1 o1 1 = some [stepV l[i]] := e1
      have st := p.2.2 _ (List.getElem_mem hi2)
      have h60 := stText_len st
      have hli := hlt i
      rw [List.length_take] at hli
      have h6 := p.2.1
      simp only [walk, lists, acts, mem, plain, seqs, maps, cells, resL, resV, intBin, ↓reduceIte, Nat.reduceAdd, Nat.reduceSub, Nat.reduceMul, Nat.reduceLeDiff, Nat.reduceEqDiff, Int.reduceToNat, Int.reduceEq, Int.reduceLT, Int.reduceLE, Int.reduceNeg, Int.reduceAdd, Int.reduceSub, Int.reduceMul, Nat.reducePow, Int.reduceNegSucc, hread_1 e1', str]
      refine step_text_c (gl.sub (sg.trans sG)) st ?_
      simp only [walk, lists, acts, mem, plain, seqs, maps, cells, resL, resV, intBin, ↓reduceIte, Nat.reduceAdd, Nat.reduceSub, Nat.reduceMul, Nat.reduceLeDiff, Nat.reduceEqDiff, Int.reduceToNat, Int.reduceEq, Int.reduceLT, Int.reduceLE, Int.reduceNeg, Int.reduceAdd, Int.reduceSub, Int.reduceMul, Nat.reducePow, Int.reduceNegSucc, str]
      refine bws_c oG dG (by omega) fun G2 o2 d2 => ?_
      simp (disch := omega) only [walk, lists, acts, mem, plain, seqs, maps, cells, resL, resV, intBin, ↓reduceIte, Nat.reduceAdd, Nat.reduceSub, Nat.reduceMul, Nat.reduceLeDiff, Nat.reduceEqDiff, Int.reduceToNat, Int.reduceEq, Int.reduceLT, Int.reduceLE, Int.reduceNeg, Int.reduceAdd, Int.reduceSub, Int.reduceMul, Nat.reducePow, Int.reduceNegSucc, wrapI]
      refine ⟨l.length - (i + 1), by omega, _, .refl _, i + 1, G2, by simp, rfl, ?_, d2, by omega, rfl⟩
      rw [List.take_succ_eq_append_getElem hi2, dealText_app, dealText_one]; exact o2
    · have hi2 : i = l.length := by omega
      subst hi2
      have hli := hlt l.length
      rw [List.take_length] at oG hli
      have h6 := p.2.1
      refine bstr_c oG dG (by omega) ?_
      simp only [walk, lists, acts, mem, plain, seqs, maps, cells, resL, resV, intBin, ↓reduceIte, Nat.reduceAdd, Nat.reduceSub, Nat.reduceMul, Nat.reduceLeDiff, Nat.reduceEqDiff, Int.reduceToNat, Int.reduceEq, Int.reduceLT, Int.reduceLE, Int.reduceNeg, Int.reduceAdd, Int.reduceSub, Int.reduceMul, Nat.reducePow, Int.reduceNegSucc]
      exact ⟨h, sg, k _ (.inl ⟨p, rfl⟩)⟩
  · simp only [walk, lists, acts, mem, plain, seqs, maps, cells, resL, resV, intBin, ↓reduceIte, Nat.reduceAdd, Nat.reduceSub, Nat.reduceMul, Nat.reduceLeDiff, Nat.reduceEqDiff, Int.reduceToNat, Int.reduceEq, Int.reduceLT, Int.reduceLE, Int.reduceNeg, Int.reduceAdd, Int.reduceSub, Int.reduceMul, Nat.reducePow, Int.reduceNegSucc, str]
    exact .of (k _ (.inr ⟨p, rfl⟩))
end Go.Proofs.YtfkkjjballajaaaDoor
end

/- How the program reads a deal. -/
section
set_option linter.unusedVariables false
set_option linter.unusedSimpArgs false
set_option maxRecDepth 20000
attribute [local irreducible] Go.Tk.vc Go.Tk.vops Go.Tk.vdr Go.Tk.vop Go.Tk.vfl Go.Tk.HCalls
namespace Go.Proofs.YtfkkjjballajaaaDoor
open Go Go.Tk

theorem implRead_c {h : H} {s : List UInt8} (gl : Gl h) (gm : MxL h) (hs : s.length ≤ 4194304) {R : Ending → H → Prop} (k : ∀ v g l ok, OutD s l ok → oLs 52 cStatement 3 v l g → Dj g h → R (.returned (.tuple #[v, .bool ok])) (g ++ h)) :
    HCalls Tryd.prog 13 #[.string ⟨s.toArray⟩] h R := by
  refine HCalls_ir (args := [.string ⟨s.toArray⟩]) Tryd.func13 ir13 ?_
  have zs := zStatement_eq
  have bad : ∀ {M : H}, Tk.Sub h M → (∀ d, dealP d → s = dealText d → s.length ≤ 80 → False) → dP R (.returned (.tuple #[.slice none 0 0, .bool false])) M := fun {M} sM e => ⟨h, sM, k _ [] [] false (.inr ⟨rfl, rfl, e⟩) (ows.nil _ _) (Dj.nil _)⟩
  simp only [walk, lists, acts, mem, plain, seqs, maps, cells, resL, resV, intBin, ↓reduceIte, Nat.reduceAdd, Nat.reduceSub, Nat.reduceMul, Nat.reduceLeDiff, Nat.reduceEqDiff, Int.reduceToNat, Int.reduceEq, Int.reduceLT, Int.reduceLE, Int.reduceNeg, Int.reduceAdd, Int.reduceSub, Int.reduceMul, Nat.reducePow, Int.reduceNegSucc, str, zs]
  refine ite_lt (fun c => bad (.refl _) fun d _ _ h => by omega) fun c => ?_
  refine vc_loop [5, 4] (fun n vs h' => ∃ (v : Value) (xs : List DStatement) (r : List UInt8) (G : H), vs = [.string ⟨r.toArray⟩, v] ∧ h' = G ++ h ∧ Dj G h ∧ oLs 52 cStatement 3 v xs G ∧ xs.length + r.length ≤ 80 ∧ (∀ d, dealP d → s = dealText d → ∃ i, i ≤ d.length ∧ xs = d.take i ∧ r = dealText (d.drop i)) ∧ n = r.length) s.length rfl
    ⟨_, [], s, [], rfl, rfl, Dj.nil _, ows.nil _ _, by simp; omega, fun d hd e => ⟨0, by omega, rfl, e⟩, rfl⟩ ?_
  rintro n f h' ⟨v, xs, r, G, hv, rfl, dG, oG, hlen, hin, rfl⟩
  simp only [List.map_cons, List.map_nil, List.cons.injEq, and_true] at hv
  have sG := Sub.right dG
  simp only [walk, lists, acts, mem, plain, seqs, maps, cells, resL, resV, intBin, ↓reduceIte, Nat.reduceAdd, Nat.reduceSub, Nat.reduceMul, Nat.reduceLeDiff, Nat.reduceEqDiff, Int.reduceToNat, Int.reduceEq, Int.reduceLT, Int.reduceLE, Int.reduceNeg, Int.reduceAdd, Int.reduceSub, Int.reduceMul, Nat.reducePow, Int.reduceNegSucc, wr, hv.1, hv.2, str, zs, strBin, str_inj]
  refine ite_ne (fun c2 => ?_) fun c2 => ?_
  · refine cut_c (c := 59) (by omega) fun a b fd hc => ?_
    have hab : a.length ≤ r.length ∧ b.length ≤ r.length ∧ (fd = true → b.length < r.length) := by
      obtain ⟨_, ⟨_, h2⟩ | ⟨h1, h2, h3⟩⟩ := hc
      · rw [h2]; simp; omega
      · rw [h2, h3, h1]; simp
    simp only [walk, lists, acts, mem, plain, seqs, maps, cells, resL, resV, intBin, ↓reduceIte, Nat.reduceAdd, Nat.reduceSub, Nat.reduceMul, Nat.reduceLeDiff, Nat.reduceEqDiff, Int.reduceToNat, Int.reduceEq, Int.reduceLT, Int.reduceLE, Int.reduceNeg, Int.reduceAdd, Int.reduceSub, Int.reduceMul, Nat.reducePow, Int.reduceNegSucc, str, zs]
    refine readStatement_c (gl.sub sG) (gm.sub sG) (by omega) fun x ok hx => ?_
    simp only [walk, lists, acts, mem, plain, seqs, maps, cells, resL, resV, intBin, ↓reduceIte, Nat.reduceAdd, Nat.reduceSub, Nat.reduceMul, Nat.reduceLeDiff, Nat.reduceEqDiff, Int.reduceToNat, Int.reduceEq, Int.reduceLT, Int.reduceLE, Int.reduceNeg, Int.reduceAdd, Int.reduceSub, Int.reduceMul, Nat.reducePow, Int.reduceNegSucc, str, zs, wStatement]
    refine newB_intro fun j9 hj9 => ?_
    have s9 := Sub.cons (o := blk (cStatement x) 52) hj9 (Sub.refl (G ++ h))
    have step : ∀ d, dealP d → s = dealText d → ∃ i, ∃ hi : i < d.length, xs = d.take i ∧ a = stW d[i] ∧ b = dealText (d.drop (i + 1)) ∧ fd = true := fun d hd e => by
      obtain ⟨i, hi, h1, h2⟩ := hin d hd e
      have hi2 : i < d.length := by
        rcases Nat.lt_or_ge i d.length with q | q
        · exact q
        · rw [List.drop_eq_nil_of_le q] at h2
          exact absurd h2 c2
      rw [List.drop_eq_getElem_cons hi2, dealText_cons] at h2
      obtain ⟨e1, e2, e3⟩ := hc.at h2 (stW_no59 _)
      exact ⟨i, hi2, h1, e1, e2, e3⟩
    simp only [walk, lists, acts, mem, plain, seqs, maps, cells, resL, resV, intBin, ↓reduceIte, Nat.reduceAdd, Nat.reduceSub, Nat.reduceMul, Nat.reduceLeDiff, Nat.reduceEqDiff, Int.reduceToNat, Int.reduceEq, Int.reduceLT, Int.reduceLE, Int.reduceNeg, Int.reduceAdd, Int.reduceSub, Int.reduceMul, Nat.reducePow, Int.reduceNegSucc, str, zs, wStatement]
    cases fd with
    | false =>
      simp only [walk, lists, acts, mem, plain, seqs, maps, cells, resL, resV, intBin, ↓reduceIte, Nat.reduceAdd, Nat.reduceSub, Nat.reduceMul, Nat.reduceLeDiff, Nat.reduceEqDiff, Int.reduceToNat, Int.reduceEq, Int.reduceLT, Int.reduceLE, Int.reduceNeg, Int.reduceAdd, Int.reduceSub, Int.reduceMul, Nat.reducePow, Int.reduceNegSucc, str, zs, wStatement]
      exact bad (sG.trans s9) fun d hd e _ => by
        obtain ⟨i, hi, _, _, _, q⟩ := step d hd e
        cases q
    | true =>
      cases ok with
      | false =>
        simp only [walk, lists, acts, mem, plain, seqs, maps, cells, resL, resV, intBin, ↓reduceIte, Nat.reduceAdd, Nat.reduceSub, Nat.reduceMul, Nat.reduceLeDiff, Nat.reduceEqDiff, Int.reduceToNat, Int.reduceEq, Int.reduceLT, Int.reduceLE, Int.reduceNeg, Int.reduceAdd, Int.reduceSub, Int.reduceMul, Nat.reducePow, Int.reduceNegSucc, str, zs, wStatement]
        exact bad (sG.trans s9) fun d hd e _ => by
          obtain ⟨i, hi, _, q, _, _⟩ := step d hd e
          have := (hx _ (hd.2.2 _ (List.getElem_mem hi)) q).1
          cases this
      | true =>
        simp only [walk, lists, acts, mem, plain, seqs, maps, cells, resL, resV, intBin, ↓reduceIte, Nat.reduceAdd, Nat.reduceSub, Nat.reduceMul, Nat.reduceLeDiff, Nat.reduceEqDiff, Int.reduceToNat, Int.reduceEq, Int.reduceLT, Int.reduceLE, Int.reduceNeg, Int.reduceAdd, Int.reduceSub, Int.reduceMul, Nat.reducePow, Int.reduceNegSucc, str, zs, wStatement]
        refine newB_intro (o := blk (fl cStatement [x]) 52) fun j7 hj7 => ?_
        simp only [walk, lists, acts, mem, plain, seqs, maps, cells, resL, resV, intBin, ↓reduceIte, Nat.reduceAdd, Nat.reduceSub, Nat.reduceMul, Nat.reduceLeDiff, Nat.reduceEqDiff, Int.reduceToNat, Int.reduceEq, Int.reduceLT, Int.reduceLE, Int.reduceNeg, Int.reduceAdd, Int.reduceSub, Int.reduceMul, Nat.reducePow, Int.reduceNegSucc, wStatement, str, zs]
        refine app_leaf (g := G) (h := h) cStatement_len cStatement_one tStatements iStatement (s9.trans (Sub.cons hj7 (Sub.refl _))) dG oG (rL_lit (e := 52) cStatement_len [x]) (by simp; omega) (by simp; omega) fun v2 g2 o2 d2 => ?_
        simp only [walk, lists, acts, mem, plain, seqs, maps, cells, resL, resV, intBin, ↓reduceIte, Nat.reduceAdd, Nat.reduceSub, Nat.reduceMul, Nat.reduceLeDiff, Nat.reduceEqDiff, Int.reduceToNat, Int.reduceEq, Int.reduceLT, Int.reduceLE, Int.reduceNeg, Int.reduceAdd, Int.reduceSub, Int.reduceMul, Nat.reducePow, Int.reduceNegSucc]
        refine ⟨b.length, hab.2.2 rfl, _, .refl _, v2, _, b, g2, rfl, rfl, d2, o2, by rw [List.length_append]; have := hab.2.2 rfl; simp; omega, fun d hd e => ?_, rfl⟩
        obtain ⟨i, hi, h1, h2, h3, _⟩ := step d hd e
        refine ⟨i + 1, by omega, ?_, h3⟩
        rw [List.take_succ_eq_append_getElem hi, h1, (hx _ (hd.2.2 _ (List.getElem_mem hi)) h2).2]
  · subst c2
    have fin : ∀ d, dealP d → s = dealText d → xs = d := fun d hd e => by
      obtain ⟨i, hi, h1, h2⟩ := hin d hd e
      rcases Nat.lt_or_ge i d.length with q | q
      · rw [List.drop_eq_getElem_cons q, dealText_cons] at h2
        have := congrArg List.length h2
        simp at this
      · rw [h1, List.take_of_length_le q]
    have hx80 : xs.length ≤ 80 := by omega
    refine implOk_c (oG.rd.sub (Sub.left _ _)) (by omega) fun b1 hb1 => ?_
    simp only [walk, lists, acts, mem, plain, seqs, maps, cells, resL, resV, intBin, ↓reduceIte, Nat.reduceAdd, Nat.reduceSub, Nat.reduceMul, Nat.reduceLeDiff, Nat.reduceEqDiff, Int.reduceToNat, Int.reduceEq, Int.reduceLT, Int.reduceLE, Int.reduceNeg, Int.reduceAdd, Int.reduceSub, Int.reduceMul, Nat.reducePow, Int.reduceNegSucc]
    refine ite_f (fun e => bad sG fun d hd e2 _ => not_b hb1 e (by rw [fin d hd e2]; exact hd)) fun e1 => ?_
    have hp := hb1.1 e1
    refine implDealWrite_c (gl.sub sG) (oG.rd.sub (Sub.left _ _)) (by omega) fun t ht => ?_
    simp only [walk, lists, acts, mem, plain, seqs, maps, cells, resL, resV, intBin, ↓reduceIte, Nat.reduceAdd, Nat.reduceSub, Nat.reduceMul, Nat.reduceLeDiff, Nat.reduceEqDiff, Int.reduceToNat, Int.reduceEq, Int.reduceLT, Int.reduceLE, Int.reduceNeg, Int.reduceAdd, Int.reduceSub, Int.reduceMul, Nat.reducePow, Int.reduceNegSucc, str, strBin, str_inj]
    have ht2 : t = dealText xs := by
      rcases ht with ⟨_, ht⟩ | ⟨hn, _⟩
      · exact ht
      · exact absurd hp hn
    refine ite_ne (fun c3 => bad sG fun d hd e _ => c3 (by rw [ht2, fin d hd e, e])) fun c3 => ?_
    exact .of (k v G xs true (.inl ⟨rfl, hp, by rw [← c3, ht2], by omega⟩) oG dG)
end Go.Proofs.YtfkkjjballajaaaDoor
end

/- What the laws measure, copy and compare: calls. -/
section
set_option linter.unusedVariables false
set_option linter.unusedSimpArgs false
set_option maxRecDepth 20000
attribute [local irreducible] Go.Tk.vc Go.Tk.vops Go.Tk.vdr Go.Tk.vop Go.Tk.vfl Go.Tk.HCalls
namespace Go.Proofs.YtfkkjjballajaaaDoor
open Go Go.Tk

theorem szCall_c {h : H} {c : DCall} {left : Int} (hl : 0 ≤ left ∧ left ≤ 1048576) (ht : c.text.length ≤ 9223372036854775807) {R : Ending → H → Prop}
    (k : ∀ n : Int, (0 ≤ n → n ≤ left ∧ (c.text.length : Int) ≤ left) → -1 ≤ n → R (.returned (.int .i64 n)) h) : HCalls Tryd.prog 19 #[.agg (cCall c).toArray, .int .i64 left] h R := by
  refine HCalls_ir (args := [.agg (cCall c).toArray, .int .i64 left]) Tryd.func19 ir19 ?_
  simp only [walk, lists, acts, mem, plain, seqs, maps, cells, resL, resV, intBin, ↓reduceIte, Nat.reduceAdd, Nat.reduceSub, Nat.reduceMul, Nat.reduceLeDiff, Nat.reduceEqDiff, Int.reduceToNat, Int.reduceEq, Int.reduceLT, Int.reduceLE, Int.reduceNeg, Int.reduceAdd, Int.reduceSub, Int.reduceMul, Nat.reducePow, Int.reduceNegSucc, wCall]
  refine newB_intro fun j hj => ?_
  simp (disch := omega) only [walk, lists, acts, mem, plain, seqs, maps, cells, resL, resV, intBin, ↓reduceIte, Nat.reduceAdd, Nat.reduceSub, Nat.reduceMul, Nat.reduceLeDiff, Nat.reduceEqDiff, Int.reduceToNat, Int.reduceEq, Int.reduceLT, Int.reduceLE, Int.reduceNeg, Int.reduceAdd, Int.reduceSub, Int.reduceMul, Nat.reducePow, Int.reduceNegSucc, wCall, wrapI]
  refine ite_lt (fun c => ⟨h, Sub.cons hj (Sub.refl h), k (-1) (by omega) (by omega)⟩) fun c => ?_
  exact ⟨h, Sub.cons hj (Sub.refl h), k _ (fun _ => by omega) (by omega)⟩

theorem toCall_c {h : H} {c : DCall} {R : Ending → H → Prop} (k : R (.returned (.agg (cCall c).toArray)) h) : HCalls Tryd.prog 21 #[.agg (cCall c).toArray] h R := by
  refine HCalls_ir (args := [.agg (cCall c).toArray]) Tryd.func21 ir21 ?_
  have zc := zCall_eq
  simp only [str] at zc
  simp only [walk, lists, acts, mem, plain, seqs, maps, cells, resL, resV, intBin, ↓reduceIte, Nat.reduceAdd, Nat.reduceSub, Nat.reduceMul, Nat.reduceLeDiff, Nat.reduceEqDiff, Int.reduceToNat, Int.reduceEq, Int.reduceLT, Int.reduceLE, Int.reduceNeg, Int.reduceAdd, Int.reduceSub, Int.reduceMul, Nat.reducePow, Int.reduceNegSucc, wCall, str, zc]
  refine newB_intro fun j1 h1 => ?_
  simp only [walk, lists, acts, mem, plain, seqs, maps, cells, resL, resV, intBin, ↓reduceIte, Nat.reduceAdd, Nat.reduceSub, Nat.reduceMul, Nat.reduceLeDiff, Nat.reduceEqDiff, Int.reduceToNat, Int.reduceEq, Int.reduceLT, Int.reduceLE, Int.reduceNeg, Int.reduceAdd, Int.reduceSub, Int.reduceMul, Nat.reducePow, Int.reduceNegSucc, wCall]
  refine newB_intro fun j2 h2 => ?_
  have n2 := h2
  simp only [subs] at n2
  simp only [walk, lists, acts, mem, plain, seqs, maps, cells, resL, resV, intBin, ↓reduceIte, Nat.reduceAdd, Nat.reduceSub, Nat.reduceMul, Nat.reduceLeDiff, Nat.reduceEqDiff, Int.reduceToNat, Int.reduceEq, Int.reduceLT, Int.reduceLE, Int.reduceNeg, Int.reduceAdd, Int.reduceSub, Int.reduceMul, Nat.reducePow, Int.reduceNegSucc, wCall, n2]
  refine newB_intro fun j3 h3 => ?_
  have n3 := h3
  simp only [subs] at n3
  have m : j1 ≠ j2 ∧ j1 ≠ j3 ∧ j2 ≠ j3 ∧ j2 ≠ j1 ∧ j3 ≠ j1 ∧ j3 ≠ j2 := by refine ⟨?_, ?_, ?_, ?_, ?_, ?_⟩ <;> simp_all [Ne, eq_comm]
  simp only [walk, lists, acts, mem, plain, seqs, maps, cells, resL, resV, intBin, ↓reduceIte, Nat.reduceAdd, Nat.reduceSub, Nat.reduceMul, Nat.reduceLeDiff, Nat.reduceEqDiff, Int.reduceToNat, Int.reduceEq, Int.reduceLT, Int.reduceLE, Int.reduceNeg, Int.reduceAdd, Int.reduceSub, Int.reduceMul, Nat.reducePow, Int.reduceNegSucc, wCall, m]
  exact ⟨h, by (repeat' first | exact Sub.refl _ | exact Sub.nil _ | assumption | refine Sub.both ?_ ?_ | refine Sub.cons_of (by simp only [subs, n2, n3, m, h1]) ?_ | exact Sub.left _ _ | refine Sub.app (by simp only [subs, n2, n3, m, h1]) ?_ | refine Sub.cons (by simp only [subs, n2, n3, m, h1]) ?_), k⟩

theorem eqCall_c {h : H} {x y : DCall} {R : Ending → H → Prop} (k : R (.returned (.bool (decide (x = y)))) h) : HCalls Tryd.prog 53 #[.agg (cCall x).toArray, .agg (cCall y).toArray] h R := by
  refine HCalls_ir (args := [.agg (cCall x).toArray, .agg (cCall y).toArray]) Tryd.func53 ir53 ?_
  simp only [walk, lists, acts, mem, plain, seqs, maps, cells, resL, resV, intBin, ↓reduceIte, Nat.reduceAdd, Nat.reduceSub, Nat.reduceMul, Nat.reduceLeDiff, Nat.reduceEqDiff, Int.reduceToNat, Int.reduceEq, Int.reduceLT, Int.reduceLE, Int.reduceNeg, Int.reduceAdd, Int.reduceSub, Int.reduceMul, Nat.reducePow, Int.reduceNegSucc, wCall]
  refine newB_intro fun j1 h1 => ?_
  simp only [walk, lists, acts, mem, plain, seqs, maps, cells, resL, resV, intBin, ↓reduceIte, Nat.reduceAdd, Nat.reduceSub, Nat.reduceMul, Nat.reduceLeDiff, Nat.reduceEqDiff, Int.reduceToNat, Int.reduceEq, Int.reduceLT, Int.reduceLE, Int.reduceNeg, Int.reduceAdd, Int.reduceSub, Int.reduceMul, Nat.reducePow, Int.reduceNegSucc, wCall]
  refine newB_intro fun j2 h2 => ?_
  have n := fresh h2
  simp only [walk, lists, acts, mem, plain, seqs, maps, cells, resL, resV, intBin, ↓reduceIte, Nat.reduceAdd, Nat.reduceSub, Nat.reduceMul, Nat.reduceLeDiff, Nat.reduceEqDiff, Int.reduceToNat, Int.reduceEq, Int.reduceLT, Int.reduceLE, Int.reduceNeg, Int.reduceAdd, Int.reduceSub, Int.reduceMul, Nat.reducePow, Int.reduceNegSucc, wCall, n.1, n.2.1, strBin, str_inj]
  refine ite_ne (fun d => ⟨h, Sub.cons h2 (Sub.cons h1 (Sub.refl h)), kF k (fun e => d (by rw [e]))⟩) fun d0 => ?_
  refine ite_ne (fun d => ⟨h, Sub.cons h2 (Sub.cons h1 (Sub.refl h)), kF k (fun e => d (by rw [e]))⟩) fun d1 => ?_
  refine ite_ne (fun d => ⟨h, Sub.cons h2 (Sub.cons h1 (Sub.refl h)), kF k (fun e => d (by rw [e]))⟩) fun d2 => ?_
  refine ite_ne (fun d => ⟨h, Sub.cons h2 (Sub.cons h1 (Sub.refl h)), kF k (fun e => d (by rw [e]))⟩) fun d3 => ?_
  refine ite_ne (fun d => ⟨h, Sub.cons h2 (Sub.cons h1 (Sub.refl h)), kF k (fun e => d (by rw [e]))⟩) fun d4 => ?_
  refine ite_ne (fun d => ⟨h, Sub.cons h2 (Sub.cons h1 (Sub.refl h)), kF k (fun e => d (by rw [e]))⟩) fun d5 => ?_
  refine ⟨h, Sub.cons h2 (Sub.cons h1 (Sub.refl h)), kT k ?_⟩
  cases x; cases y; simp_all
end Go.Proofs.YtfkkjjballajaaaDoor
end

/- Which calls are ok. -/
section
set_option linter.unusedVariables false
set_option linter.unusedSimpArgs false
set_option maxRecDepth 20000
attribute [local irreducible] Go.Tk.vc Go.Tk.vops Go.Tk.vdr Go.Tk.vop Go.Tk.vfl Go.Tk.HCalls
namespace Go.Tk
open Go
def sessP (n : Int) : Prop := inP 0 2 n
def dealTP (t : List UInt8) : Prop := ∃ d, dealP d ∧ t = dealText d ∧ t.length ≤ 80
theorem OutD.iff {t : List UInt8} {l : List DStatement} {ok : Bool} (h : OutD t l ok) : ok = true ↔ dealTP t := by
  rcases h with ⟨h1, p, e, z⟩ | ⟨h1, _, n⟩
  · exact ⟨fun _ => ⟨l, p, e, z⟩, fun _ => h1⟩
  · exact ⟨fun x => (by rw [h1] at x; cases x), fun ⟨d, a, b, c⟩ => (n d a b c).elim⟩
def formP (c : DCall) : Prop := sessP c.session ∧ inP 1 99 c.number ∧ ((c.kind = 1 ∧ c.slot = 0 ∧ c.to = 0 ∧ c.text.length ≤ 80) ∨ (c.kind = 2 ∧ c.text = [] ∧ slotP c.slot ∧ houseP c.to))
/-- A call that is ok. -/
def callOkP (c : DCall) : Prop := formP c ∧ (c.kind = 1 → dealTP c.text)
end Go.Tk
namespace Go.Proofs.YtfkkjjballajaaaDoor
open Go Go.Tk

theorem isSession_c {a : Int} {h : H} {R : Ending → H → Prop} (k : Asks R (sessP a) h) : HCalls Tryd.prog 44 #[.int .i64 a] h R := by
  refine HCalls_ir (args := [.int .i64 a]) Tryd.func44 ir44 ?_
  simp only [walk, lists, acts, mem, plain, seqs, maps, cells, resL, resV, intBin, ↓reduceIte, Nat.reduceAdd, Nat.reduceSub, Nat.reduceMul, Nat.reduceLeDiff, Nat.reduceEqDiff, Int.reduceToNat, Int.reduceEq, Int.reduceLT, Int.reduceLE, Int.reduceNeg, Int.reduceAdd, Int.reduceSub, Int.reduceMul, Nat.reducePow, Int.reduceNegSucc]
  refine within_c fun b hb => ?_
  simp only [walk, lists, acts, mem, plain, seqs, maps, cells, resL, resV, intBin, ↓reduceIte, Nat.reduceAdd, Nat.reduceSub, Nat.reduceMul, Nat.reduceLeDiff, Nat.reduceEqDiff, Int.reduceToNat, Int.reduceEq, Int.reduceLT, Int.reduceLE, Int.reduceNeg, Int.reduceAdd, Int.reduceSub, Int.reduceMul, Nat.reducePow, Int.reduceNegSucc]
  exact .of (k b hb)

theorem l3Form_c {h : H} {c : DCall} {R : Ending → H → Prop} (k : Asks R (formP c) h) : HCalls Tryd.prog 43 #[.agg (cCall c).toArray] h R := by
  refine HCalls_ir (args := [.agg (cCall c).toArray]) Tryd.func43 ir43 ?_
  simp only [walk, lists, acts, mem, plain, seqs, maps, cells, resL, resV, intBin, ↓reduceIte, Nat.reduceAdd, Nat.reduceSub, Nat.reduceMul, Nat.reduceLeDiff, Nat.reduceEqDiff, Int.reduceToNat, Int.reduceEq, Int.reduceLT, Int.reduceLE, Int.reduceNeg, Int.reduceAdd, Int.reduceSub, Int.reduceMul, Nat.reducePow, Int.reduceNegSucc, wCall]
  refine newB_intro fun j hj => ?_
  have s1 := Sub.cons (o := blk (cCall c) 37) hj (Sub.refl h)
  simp only [walk, lists, acts, mem, plain, seqs, maps, cells, resL, resV, intBin, ↓reduceIte, Nat.reduceAdd, Nat.reduceSub, Nat.reduceMul, Nat.reduceLeDiff, Nat.reduceEqDiff, Int.reduceToNat, Int.reduceEq, Int.reduceLT, Int.reduceLE, Int.reduceNeg, Int.reduceAdd, Int.reduceSub, Int.reduceMul, Nat.reducePow, Int.reduceNegSucc, wCall]
  refine l6In_c fun b1 hb1 => ?_
  simp only [walk, lists, acts, mem, plain, seqs, maps, cells, resL, resV, intBin, ↓reduceIte, Nat.reduceAdd, Nat.reduceSub, Nat.reduceMul, Nat.reduceLeDiff, Nat.reduceEqDiff, Int.reduceToNat, Int.reduceEq, Int.reduceLT, Int.reduceLE, Int.reduceNeg, Int.reduceAdd, Int.reduceSub, Int.reduceMul, Nat.reducePow, Int.reduceNegSucc, wCall]
  refine ite_f (fun e => k.dno s1 fun p => not_b hb1 e p.1) fun e1 => ?_
  refine l6In_c fun b2 hb2 => ?_
  simp only [walk, lists, acts, mem, plain, seqs, maps, cells, resL, resV, intBin, ↓reduceIte, Nat.reduceAdd, Nat.reduceSub, Nat.reduceMul, Nat.reduceLeDiff, Nat.reduceEqDiff, Int.reduceToNat, Int.reduceEq, Int.reduceLT, Int.reduceLE, Int.reduceNeg, Int.reduceAdd, Int.reduceSub, Int.reduceMul, Nat.reducePow, Int.reduceNegSucc, wCall]
  refine ite_f (fun e => k.dno s1 fun p => not_b hb2 e p.2.1) fun e2 => ?_
  have p1 := hb1.1 e1
  have p2 := hb2.1 e2
  refine ite_pos (fun c1 => ?_) fun c1 => ?_
  · refine ite_pos (fun c2 => ?_) fun c2 => ?_
    · refine ite_pos (fun c3 => ?_) fun c3 => ?_
      · refine ⟨h, s1, k _ ?_⟩
        rw [decide_eq_true_eq]
        exact ⟨fun x => ⟨p1, p2, .inl ⟨c1, c2, c3, by omega⟩⟩, fun p => by
          rcases p.2.2 with q | q
          · have := q.2.2.2; omega
          · have := q.1; omega⟩
      · exact k.dno s1 fun p => by
          rcases p.2.2 with q | q
          · exact c3 q.2.2.1
          · have := q.1; omega
    · exact k.dno s1 fun p => by
        rcases p.2.2 with q | q
        · exact c2 q.2.1
        · have := q.1; omega
  · have el : ((⟨c.text.toArray⟩ : ByteArray) = ⟨#[]⟩) = (c.text = []) := propext ⟨fun e => by simpa using congrArg (fun a : ByteArray => a.data.toList) e, fun e => by rw [e]⟩
    refine ite_pos (fun c2 => ?_) fun c2 => ?_
    · simp only [walk, lists, acts, mem, plain, seqs, maps, cells, resL, resV, intBin, ↓reduceIte, Nat.reduceAdd, Nat.reduceSub, Nat.reduceMul, Nat.reduceLeDiff, Nat.reduceEqDiff, Int.reduceToNat, Int.reduceEq, Int.reduceLT, Int.reduceLE, Int.reduceNeg, Int.reduceAdd, Int.reduceSub, Int.reduceMul, Nat.reducePow, Int.reduceNegSucc, wCall, str, strBin, el]
      refine ite_pos (fun c3 => ?_) fun c3 => ?_
      · refine l6In_c fun b3 hb3 => ?_
        simp only [walk, lists, acts, mem, plain, seqs, maps, cells, resL, resV, intBin, ↓reduceIte, Nat.reduceAdd, Nat.reduceSub, Nat.reduceMul, Nat.reduceLeDiff, Nat.reduceEqDiff, Int.reduceToNat, Int.reduceEq, Int.reduceLT, Int.reduceLE, Int.reduceNeg, Int.reduceAdd, Int.reduceSub, Int.reduceMul, Nat.reducePow, Int.reduceNegSucc, wCall]
        cases b3 with
        | false =>
          simp only [walk, lists, acts, mem, plain, seqs, maps, cells, resL, resV, intBin, ↓reduceIte, Nat.reduceAdd, Nat.reduceSub, Nat.reduceMul, Nat.reduceLeDiff, Nat.reduceEqDiff, Int.reduceToNat, Int.reduceEq, Int.reduceLT, Int.reduceLE, Int.reduceNeg, Int.reduceAdd, Int.reduceSub, Int.reduceMul, Nat.reducePow, Int.reduceNegSucc]
          exact k.dno s1 fun p => by
            rcases p.2.2 with q | q
            · exact c1 q.1
            · exact not_b hb3 rfl q.2.2.1
        | true =>
          simp only [walk, lists, acts, mem, plain, seqs, maps, cells, resL, resV, intBin, ↓reduceIte, Nat.reduceAdd, Nat.reduceSub, Nat.reduceMul, Nat.reduceLeDiff, Nat.reduceEqDiff, Int.reduceToNat, Int.reduceEq, Int.reduceLT, Int.reduceLE, Int.reduceNeg, Int.reduceAdd, Int.reduceSub, Int.reduceMul, Nat.reducePow, Int.reduceNegSucc, wCall]
          refine l6In_c fun b4 hb4 => ?_
          simp only [walk, lists, acts, mem, plain, seqs, maps, cells, resL, resV, intBin, ↓reduceIte, Nat.reduceAdd, Nat.reduceSub, Nat.reduceMul, Nat.reduceLeDiff, Nat.reduceEqDiff, Int.reduceToNat, Int.reduceEq, Int.reduceLT, Int.reduceLE, Int.reduceNeg, Int.reduceAdd, Int.reduceSub, Int.reduceMul, Nat.reducePow, Int.reduceNegSucc, wCall]
          refine ⟨h, s1, k _ ?_⟩
          rw [hb4]
          exact ⟨fun x => ⟨p1, p2, .inr ⟨c2, c3, hb3.1 rfl, x⟩⟩, fun p => by
            rcases p.2.2 with q | q
            · exact absurd q.1 c1
            · exact q.2.2.2⟩
      · exact k.dno s1 fun p => by
          rcases p.2.2 with q | q
          · exact c1 q.1
          · exact c3 q.2.1
    · exact k.dno s1 fun p => by
        rcases p.2.2 with q | q
        · exact c1 q.1
        · exact c2 q.1

theorem specCallOk_c {h : H} {c : DCall} (ht : c.text.length ≤ 4194304) {R : Ending → H → Prop} (k : Asks R (callOkP c) h) : HCalls Tryd.prog 20 #[.agg (cCall c).toArray] h R := by
  refine HCalls_ir (args := [.agg (cCall c).toArray]) Tryd.func20 ir20 ?_
  simp only [walk, lists, acts, mem, plain, seqs, maps, cells, resL, resV, intBin, ↓reduceIte, Nat.reduceAdd, Nat.reduceSub, Nat.reduceMul, Nat.reduceLeDiff, Nat.reduceEqDiff, Int.reduceToNat, Int.reduceEq, Int.reduceLT, Int.reduceLE, Int.reduceNeg, Int.reduceAdd, Int.reduceSub, Int.reduceMul, Nat.reducePow, Int.reduceNegSucc, wCall]
  refine newB_intro fun j hj => ?_
  have s1 := Sub.cons (o := blk (cCall c) 37) hj (Sub.refl h)
  simp only [walk, lists, acts, mem, plain, seqs, maps, cells, resL, resV, intBin, ↓reduceIte, Nat.reduceAdd, Nat.reduceSub, Nat.reduceMul, Nat.reduceLeDiff, Nat.reduceEqDiff, Int.reduceToNat, Int.reduceEq, Int.reduceLT, Int.reduceLE, Int.reduceNeg, Int.reduceAdd, Int.reduceSub, Int.reduceMul, Nat.reducePow, Int.reduceNegSucc, wCall]
  refine ite_pos (fun c1 => ?_) fun c1 => ?_
  · refine specRead_c ht fun v g l ok O o d => ?_
    have n := d
    simp only [subs] at n
    have s2 := s1.trans (Sub.right d)
    simp only [walk, lists, acts, mem, plain, seqs, maps, cells, resL, resV, intBin, ↓reduceIte, Nat.reduceAdd, Nat.reduceSub, Nat.reduceMul, Nat.reduceLeDiff, Nat.reduceEqDiff, Int.reduceToNat, Int.reduceEq, Int.reduceLT, Int.reduceLE, Int.reduceNeg, Int.reduceAdd, Int.reduceSub, Int.reduceMul, Nat.reducePow, Int.reduceNegSucc, wCall]
    cases ok with
    | false =>
      simp only [walk, lists, acts, mem, plain, seqs, maps, cells, resL, resV, intBin, ↓reduceIte, Nat.reduceAdd, Nat.reduceSub, Nat.reduceMul, Nat.reduceLeDiff, Nat.reduceEqDiff, Int.reduceToNat, Int.reduceEq, Int.reduceLT, Int.reduceLE, Int.reduceNeg, Int.reduceAdd, Int.reduceSub, Int.reduceMul, Nat.reducePow, Int.reduceNegSucc]
      refine ⟨h, s2, k.no fun p => ?_⟩
      have := O.iff.2 (p.2 c1)
      cases this
    | true =>
      simp only [walk, lists, acts, mem, plain, seqs, maps, cells, resL, resV, intBin, ↓reduceIte, Nat.reduceAdd, Nat.reduceSub, Nat.reduceMul, Nat.reduceLeDiff, Nat.reduceEqDiff, Int.reduceToNat, Int.reduceEq, Int.reduceLT, Int.reduceLE, Int.reduceNeg, Int.reduceAdd, Int.reduceSub, Int.reduceMul, Nat.reducePow, Int.reduceNegSucc, wCall, apps, n]
      refine l3Form_c fun b hb => ?_
      simp only [walk, lists, acts, mem, plain, seqs, maps, cells, resL, resV, intBin, ↓reduceIte, Nat.reduceAdd, Nat.reduceSub, Nat.reduceMul, Nat.reduceLeDiff, Nat.reduceEqDiff, Int.reduceToNat, Int.reduceEq, Int.reduceLT, Int.reduceLE, Int.reduceNeg, Int.reduceAdd, Int.reduceSub, Int.reduceMul, Nat.reducePow, Int.reduceNegSucc, wCall]
      refine ⟨h, s2, k _ ?_⟩
      rw [hb]
      exact ⟨fun x => ⟨x, fun _ => O.iff.1 rfl⟩, fun p => p.1⟩
  · refine l3Form_c fun b hb => ?_
    simp only [walk, lists, acts, mem, plain, seqs, maps, cells, resL, resV, intBin, ↓reduceIte, Nat.reduceAdd, Nat.reduceSub, Nat.reduceMul, Nat.reduceLeDiff, Nat.reduceEqDiff, Int.reduceToNat, Int.reduceEq, Int.reduceLT, Int.reduceLE, Int.reduceNeg, Int.reduceAdd, Int.reduceSub, Int.reduceMul, Nat.reducePow, Int.reduceNegSucc, wCall]
    refine ⟨h, s1, k _ ?_⟩
    rw [hb]
    exact ⟨fun x => ⟨x, fun y => absurd y c1⟩, fun p => p.1⟩

theorem implCallOk_c {h : H} {c : DCall} (gl : Gl h) (gm : MxL h) (ht : c.text.length ≤ 4194304) {R : Ending → H → Prop} (k : Asks R (callOkP c) h) : HCalls Tryd.prog 22 #[.agg (cCall c).toArray] h R := by
  refine HCalls_ir (args := [.agg (cCall c).toArray]) Tryd.func22 ir22 ?_
  have el : ((⟨c.text.toArray⟩ : ByteArray) = ⟨#[]⟩) = (c.text = []) := propext ⟨fun e => by simpa using congrArg (fun a : ByteArray => a.data.toList) e, fun e => by rw [e]⟩
  simp only [walk, lists, acts, mem, plain, seqs, maps, cells, resL, resV, intBin, ↓reduceIte, Nat.reduceAdd, Nat.reduceSub, Nat.reduceMul, Nat.reduceLeDiff, Nat.reduceEqDiff, Int.reduceToNat, Int.reduceEq, Int.reduceLT, Int.reduceLE, Int.reduceNeg, Int.reduceAdd, Int.reduceSub, Int.reduceMul, Nat.reducePow, Int.reduceNegSucc, wCall]
  refine newB_intro fun j hj => ?_
  have s1 := Sub.cons (o := blk (cCall c) 37) hj (Sub.refl h)
  simp only [walk, lists, acts, mem, plain, seqs, maps, cells, resL, resV, intBin, ↓reduceIte, Nat.reduceAdd, Nat.reduceSub, Nat.reduceMul, Nat.reduceLeDiff, Nat.reduceEqDiff, Int.reduceToNat, Int.reduceEq, Int.reduceLT, Int.reduceLE, Int.reduceNeg, Int.reduceAdd, Int.reduceSub, Int.reduceMul, Nat.reducePow, Int.reduceNegSucc, wCall]
  refine isSession_c fun b1 hb1 => ?_
  simp only [walk, lists, acts, mem, plain, seqs, maps, cells, resL, resV, intBin, ↓reduceIte, Nat.reduceAdd, Nat.reduceSub, Nat.reduceMul, Nat.reduceLeDiff, Nat.reduceEqDiff, Int.reduceToNat, Int.reduceEq, Int.reduceLT, Int.reduceLE, Int.reduceNeg, Int.reduceAdd, Int.reduceSub, Int.reduceMul, Nat.reducePow, Int.reduceNegSucc, wCall]
  refine ite_f (fun e => k.dno s1 fun p => not_b hb1 e p.1.1) fun e1 => ?_
  refine within_c fun b2 hb2 => ?_
  simp only [walk, lists, acts, mem, plain, seqs, maps, cells, resL, resV, intBin, ↓reduceIte, Nat.reduceAdd, Nat.reduceSub, Nat.reduceMul, Nat.reduceLeDiff, Nat.reduceEqDiff, Int.reduceToNat, Int.reduceEq, Int.reduceLT, Int.reduceLE, Int.reduceNeg, Int.reduceAdd, Int.reduceSub, Int.reduceMul, Nat.reducePow, Int.reduceNegSucc, wCall]
  refine ite_f (fun e => k.dno s1 fun p => not_b hb2 e p.1.2.1) fun e2 => ?_
  have p1 := hb1.1 e1
  have p2 := hb2.1 e2
  refine ite_pos (fun c1 => ?_) fun c1 => ?_
  · refine implRead_c (gl.sub s1) (gm.sub s1) ht fun v g l ok O o d => ?_
    have n := d
    simp only [subs] at n
    have s2 := s1.trans (Sub.right d)
    simp only [walk, lists, acts, mem, plain, seqs, maps, cells, resL, resV, intBin, ↓reduceIte, Nat.reduceAdd, Nat.reduceSub, Nat.reduceMul, Nat.reduceLeDiff, Nat.reduceEqDiff, Int.reduceToNat, Int.reduceEq, Int.reduceLT, Int.reduceLE, Int.reduceNeg, Int.reduceAdd, Int.reduceSub, Int.reduceMul, Nat.reducePow, Int.reduceNegSucc, wCall]
    cases ok with
    | false =>
      simp only [walk, lists, acts, mem, plain, seqs, maps, cells, resL, resV, intBin, ↓reduceIte, Nat.reduceAdd, Nat.reduceSub, Nat.reduceMul, Nat.reduceLeDiff, Nat.reduceEqDiff, Int.reduceToNat, Int.reduceEq, Int.reduceLT, Int.reduceLE, Int.reduceNeg, Int.reduceAdd, Int.reduceSub, Int.reduceMul, Nat.reducePow, Int.reduceNegSucc]
      refine ⟨h, s2, k.no fun p => ?_⟩
      have := O.iff.2 (p.2 c1)
      cases this
    | true =>
      have hd := O.iff.1 rfl
      have h80 : c.text.length ≤ 80 := by obtain ⟨_, _, _, z⟩ := hd; exact z
      simp only [walk, lists, acts, mem, plain, seqs, maps, cells, resL, resV, intBin, ↓reduceIte, Nat.reduceAdd, Nat.reduceSub, Nat.reduceMul, Nat.reduceLeDiff, Nat.reduceEqDiff, Int.reduceToNat, Int.reduceEq, Int.reduceLT, Int.reduceLE, Int.reduceNeg, Int.reduceAdd, Int.reduceSub, Int.reduceMul, Nat.reducePow, Int.reduceNegSucc, wCall, apps, n]
      refine ite_pos (fun c2 => ?_) fun c2 => ?_
      · refine ⟨h, s2, k _ ?_⟩
        rw [decide_eq_true_eq]
        exact ⟨fun x => ⟨⟨p1, p2, .inl ⟨c1, c2, x, h80⟩⟩, fun _ => hd⟩, fun p => by
          rcases p.1.2.2 with q | q
          · exact q.2.2.1
          · have := q.1; omega⟩
      · refine ⟨h, s2, k.no fun p => ?_⟩
        rcases p.1.2.2 with q | q
        · exact c2 q.2.1
        · have := q.1; omega
  · refine ite_pos (fun c2 => ?_) fun c2 => ?_
    · simp only [walk, lists, acts, mem, plain, seqs, maps, cells, resL, resV, intBin, ↓reduceIte, Nat.reduceAdd, Nat.reduceSub, Nat.reduceMul, Nat.reduceLeDiff, Nat.reduceEqDiff, Int.reduceToNat, Int.reduceEq, Int.reduceLT, Int.reduceLE, Int.reduceNeg, Int.reduceAdd, Int.reduceSub, Int.reduceMul, Nat.reducePow, Int.reduceNegSucc, wCall, str, strBin, el]
      refine ite_pos (fun c3 => ?_) fun c3 => ?_
      · refine isSlot_c fun b3 hb3 => ?_
        simp only [walk, lists, acts, mem, plain, seqs, maps, cells, resL, resV, intBin, ↓reduceIte, Nat.reduceAdd, Nat.reduceSub, Nat.reduceMul, Nat.reduceLeDiff, Nat.reduceEqDiff, Int.reduceToNat, Int.reduceEq, Int.reduceLT, Int.reduceLE, Int.reduceNeg, Int.reduceAdd, Int.reduceSub, Int.reduceMul, Nat.reducePow, Int.reduceNegSucc, wCall]
        cases b3 with
        | false =>
          simp only [walk, lists, acts, mem, plain, seqs, maps, cells, resL, resV, intBin, ↓reduceIte, Nat.reduceAdd, Nat.reduceSub, Nat.reduceMul, Nat.reduceLeDiff, Nat.reduceEqDiff, Int.reduceToNat, Int.reduceEq, Int.reduceLT, Int.reduceLE, Int.reduceNeg, Int.reduceAdd, Int.reduceSub, Int.reduceMul, Nat.reducePow, Int.reduceNegSucc]
          exact k.dno s1 fun p => by
            rcases p.1.2.2 with q | q
            · exact c1 q.1
            · exact not_b hb3 rfl q.2.2.1
        | true =>
          simp only [walk, lists, acts, mem, plain, seqs, maps, cells, resL, resV, intBin, ↓reduceIte, Nat.reduceAdd, Nat.reduceSub, Nat.reduceMul, Nat.reduceLeDiff, Nat.reduceEqDiff, Int.reduceToNat, Int.reduceEq, Int.reduceLT, Int.reduceLE, Int.reduceNeg, Int.reduceAdd, Int.reduceSub, Int.reduceMul, Nat.reducePow, Int.reduceNegSucc, wCall]
          refine isHouse_c fun b4 hb4 => ?_
          simp only [walk, lists, acts, mem, plain, seqs, maps, cells, resL, resV, intBin, ↓reduceIte, Nat.reduceAdd, Nat.reduceSub, Nat.reduceMul, Nat.reduceLeDiff, Nat.reduceEqDiff, Int.reduceToNat, Int.reduceEq, Int.reduceLT, Int.reduceLE, Int.reduceNeg, Int.reduceAdd, Int.reduceSub, Int.reduceMul, Nat.reducePow, Int.reduceNegSucc, wCall]
          refine ⟨h, s1, k _ ?_⟩
          rw [hb4]
          exact ⟨fun x => ⟨⟨p1, p2, .inr ⟨c2, c3, hb3.1 rfl, x⟩⟩, fun y => absurd y c1⟩, fun p => by
            rcases p.1.2.2 with q | q
            · exact absurd q.1 c1
            · exact q.2.2.2⟩
      · exact k.dno s1 fun p => by
          rcases p.1.2.2 with q | q
          · exact c1 q.1
          · exact c3 q.2.1
    · exact k.dno s1 fun p => by
        rcases p.1.2.2 with q | q
        · exact c1 q.1
        · exact c2 q.1

theorem exactCallOk_c {h : H} {c : DCall} (gl : Gl h) (gm : MxL h) (ht : c.text.length ≤ maxLen) {R : Ending → H → Prop} (k : R (.returned (.bool true)) h) : HCalls Tryd.prog 5 #[.agg (cCall c).toArray] h R := by
  refine HCalls_ir (args := [.agg (cCall c).toArray]) Tryd.func5 ir5 ?_
  have hm : maxLen = 9223372036854775807 := by decide
  simp only [walk, lists, acts, mem, plain, seqs, maps, cells, resL, resV, intBin, ↓reduceIte, Nat.reduceAdd, Nat.reduceSub, Nat.reduceMul, Nat.reduceLeDiff, Nat.reduceEqDiff, Int.reduceToNat, Int.reduceEq, Int.reduceLT, Int.reduceLE, Int.reduceNeg, Int.reduceAdd, Int.reduceSub, Int.reduceMul, Nat.reducePow, Int.reduceNegSucc, wCall]
  refine newB_intro fun j hj => ?_
  have s1 := fun o => Sub.cons (o := o) hj (Sub.refl h)
  simp only [walk, lists, acts, mem, plain, seqs, maps, cells, resL, resV, intBin, ↓reduceIte, Nat.reduceAdd, Nat.reduceSub, Nat.reduceMul, Nat.reduceLeDiff, Nat.reduceEqDiff, Int.reduceToNat, Int.reduceEq, Int.reduceLT, Int.reduceLE, Int.reduceNeg, Int.reduceAdd, Int.reduceSub, Int.reduceMul, Nat.reducePow, Int.reduceNegSucc, wCall]
  refine szCall_c (by omega) (by omega) fun n hn _ => ?_
  simp only [walk, lists, acts, mem, plain, seqs, maps, cells, resL, resV, intBin, ↓reduceIte, Nat.reduceAdd, Nat.reduceSub, Nat.reduceMul, Nat.reduceLeDiff, Nat.reduceEqDiff, Int.reduceToNat, Int.reduceEq, Int.reduceLT, Int.reduceLE, Int.reduceNeg, Int.reduceAdd, Int.reduceSub, Int.reduceMul, Nat.reducePow, Int.reduceNegSucc, wCall]
  refine ite_lt (fun c => ⟨h, s1 _, k⟩) fun c0 => ?_
  have hl := (hn c0).2
  refine toCall_c ?_
  simp only [walk, lists, acts, mem, plain, seqs, maps, cells, resL, resV, intBin, ↓reduceIte, Nat.reduceAdd, Nat.reduceSub, Nat.reduceMul, Nat.reduceLeDiff, Nat.reduceEqDiff, Int.reduceToNat, Int.reduceEq, Int.reduceLT, Int.reduceLE, Int.reduceNeg, Int.reduceAdd, Int.reduceSub, Int.reduceMul, Nat.reducePow, Int.reduceNegSucc, wCall]
  refine specCallOk_c (by omega) fun b1 hb1 => ?_
  simp only [walk, lists, acts, mem, plain, seqs, maps, cells, resL, resV, intBin, ↓reduceIte, Nat.reduceAdd, Nat.reduceSub, Nat.reduceMul, Nat.reduceLeDiff, Nat.reduceEqDiff, Int.reduceToNat, Int.reduceEq, Int.reduceLT, Int.reduceLE, Int.reduceNeg, Int.reduceAdd, Int.reduceSub, Int.reduceMul, Nat.reducePow, Int.reduceNegSucc, wCall]
  refine toCall_c ?_
  simp only [walk, lists, acts, mem, plain, seqs, maps, cells, resL, resV, intBin, ↓reduceIte, Nat.reduceAdd, Nat.reduceSub, Nat.reduceMul, Nat.reduceLeDiff, Nat.reduceEqDiff, Int.reduceToNat, Int.reduceEq, Int.reduceLT, Int.reduceLE, Int.reduceNeg, Int.reduceAdd, Int.reduceSub, Int.reduceMul, Nat.reducePow, Int.reduceNegSucc, wCall]
  refine implCallOk_c (gl.sub (s1 _)) (gm.sub (s1 _)) (by omega) fun b2 hb2 => ?_
  have e : b2 = b1 := by
    cases b1 <;> cases b2 <;> simp_all
  subst e
  simp only [walk, lists, acts, mem, plain, seqs, maps, cells, resL, resV, intBin, ↓reduceIte, Nat.reduceAdd, Nat.reduceSub, Nat.reduceMul, Nat.reduceLeDiff, Nat.reduceEqDiff, Int.reduceToNat, Int.reduceEq, Int.reduceLT, Int.reduceLE, Int.reduceNeg, Int.reduceAdd, Int.reduceSub, Int.reduceMul, Nat.reducePow, Int.reduceNegSucc, wCall]
  refine ite_eqb (fun c => absurd rfl c) fun _ => ?_
  exact ⟨h, s1 _, k⟩
end Go.Proofs.YtfkkjjballajaaaDoor
end

/- What the laws measure, copy and compare: rows of calls. -/
section
set_option linter.unusedVariables false
set_option linter.unusedSimpArgs false
set_option maxRecDepth 20000
attribute [local irreducible] Go.Tk.vc Go.Tk.vops Go.Tk.vdr Go.Tk.vop Go.Tk.vfl Go.Tk.HCalls
namespace Go.Tk
open Go
theorem eC_len (e : DCall) : (cCall e).length = 6 := rfl
theorem eC_one (l : List DCall) : (fl cCall l).all vone = true := by induction l <;> simp_all [fl, cCall, vone]
theorem zC (n : Nat) : zrep (cCall zCall) n = fl cCall (List.replicate n zCall) := by
  induction n with
  | zero => rfl
  | succ n ih => rw [List.replicate_succ, fl_cons, ← ih]; rfl
end Go.Tk
namespace Go.Proofs.YtfkkjjballajaaaDoor
open Go Go.Tk

theorem szCalls_c {h : H} {v : Value} {l : List DCall} (r : rIn h cCall 6 v l) (hl : l.length ≤ 9223372036854775807) (ht : ∀ e ∈ l, e.text.length ≤ 9223372036854775807) {R : Ending → H → Prop}
    (k : ∀ n : Int, (0 ≤ n → l.length ≤ 1048576 ∧ ∀ e ∈ l, e.text.length ≤ 1048576) → R (.returned (.int .i64 n)) h) : HCalls Tryd.prog 24 #[v, .int .i64 1048576] h R := by
  refine HCalls_ir (args := [v, .int .i64 1048576]) Tryd.func24 ir24 ?_
  simp (disch := omega) only [walk, lists, acts, mem, plain, seqs, maps, cells, resL, resV, intBin, ↓reduceIte, Nat.reduceAdd, Nat.reduceSub, Nat.reduceMul, Nat.reduceLeDiff, Nat.reduceEqDiff, Int.reduceToNat, Int.reduceEq, Int.reduceLT, Int.reduceLE, Int.reduceNeg, Int.reduceAdd, Int.reduceSub, Int.reduceMul, Nat.reducePow, Int.reduceNegSucc, r.len, wrapI]
  refine ite_lt (fun c => .of (k (-1) (by omega))) fun c => ?_
  refine vc_loop [5, 1] (fun n vs h' => ∃ (i : Nat) (left : Int), vs = [.int .i64 i, .int .i64 left] ∧ h' = h ∧ 0 ≤ left ∧ left ≤ 1048576 ∧ (∀ e ∈ l.take i, e.text.length ≤ 1048576) ∧ i ≤ l.length ∧ n = l.length - i) l.length rfl
    ⟨0, _, rfl, rfl, by omega, by omega, by simp, by omega, rfl⟩ ?_
  rintro n f h' ⟨i, left, hv, rfl, h1, h2, h3, hi, rfl⟩
  simp only [List.map_cons, List.map_nil, List.cons.injEq, and_true] at hv
  simp only [walk, lists, acts, mem, plain, seqs, maps, cells, resL, resV, intBin, ↓reduceIte, Nat.reduceAdd, Nat.reduceSub, Nat.reduceMul, Nat.reduceLeDiff, Nat.reduceEqDiff, Int.reduceToNat, Int.reduceEq, Int.reduceLT, Int.reduceLE, Int.reduceNeg, Int.reduceAdd, Int.reduceSub, Int.reduceMul, Nat.reducePow, Int.reduceNegSucc, wr, hv.1, hv.2, r.len]
  refine ite_lt (fun c1 => ?_) fun c1 => ?_
  · have hi2 : i < l.length := by omega
    refine idx_in (i := i) eC_len r rfl hi2 fun b1 o1 e1 => ?_
    simp only [walk, lists, acts, mem, plain, seqs, maps, cells, resL, resV, intBin, ↓reduceIte, Nat.reduceAdd, Nat.reduceSub, Nat.reduceMul, Nat.reduceLeDiff, Nat.reduceEqDiff, Int.reduceToNat, Int.reduceEq, Int.reduceLT, Int.reduceLE, Int.reduceNeg, Int.reduceAdd, Int.reduceSub, Int.reduceMul, Nat.reducePow, Int.reduceNegSucc, e1, wCall]
    refine szCall_c ⟨h1, h2⟩ (ht _ (List.getElem_mem hi2)) fun n h4 h5 => ?_
    simp only [walk, lists, acts, mem, plain, seqs, maps, cells, resL, resV, intBin, ↓reduceIte, Nat.reduceAdd, Nat.reduceSub, Nat.reduceMul, Nat.reduceLeDiff, Nat.reduceEqDiff, Int.reduceToNat, Int.reduceEq, Int.reduceLT, Int.reduceLE, Int.reduceNeg, Int.reduceAdd, Int.reduceSub, Int.reduceMul, Nat.reducePow, Int.reduceNegSucc]
    refine ite_lt (fun c => .of (k (-1) (by omega))) fun c => ?_
    simp (disch := omega) only [walk, lists, acts, mem, plain, seqs, maps, cells, resL, resV, intBin, ↓reduceIte, Nat.reduceAdd, Nat.reduceSub, Nat.reduceMul, Nat.reduceLeDiff, Nat.reduceEqDiff, Int.reduceToNat, Int.reduceEq, Int.reduceLT, Int.reduceLE, Int.reduceNeg, Int.reduceAdd, Int.reduceSub, Int.reduceMul, Nat.reducePow, Int.reduceNegSucc, wrapI]
    refine ⟨l.length - (i + 1), by omega, _, .refl _, i + 1, n, by simp, rfl, by omega, by omega, fun e he => ?_, by omega, rfl⟩
    rw [List.take_succ_eq_append_getElem hi2] at he
    rcases List.mem_append.1 he with he | he
    · exact h3 e he
    · rw [List.mem_singleton] at he
      subst he
      omega
  · have hi2 : i = l.length := by omega
    subst hi2
    rw [List.take_length] at h3
    exact .of (k left fun _ => ⟨by omega, h3⟩)

theorem toCalls_c {h : H} {a : Value} {l : List DCall} (r : rIn h cCall 6 a l) (hl : l.length ≤ 1048576) {R : Ending → H → Prop} (k : ∀ v g, oLs 37 cCall 6 v l g → Dj g h → R (.returned v) (g ++ h)) : HCalls Tryd.prog 26 #[a] h R := by
  refine HCalls_ir (args := [a]) Tryd.func26 ir26 ?_
  have zc := zCall_eq
  simp only [str] at zc
  simp only [walk, lists, acts, mem, plain, seqs, maps, cells, resL, resV, intBin, ↓reduceIte, Nat.reduceAdd, Nat.reduceSub, Nat.reduceMul, Nat.reduceLeDiff, Nat.reduceEqDiff, Int.reduceToNat, Int.reduceEq, Int.reduceLT, Int.reduceLE, Int.reduceNeg, Int.reduceAdd, Int.reduceSub, Int.reduceMul, Nat.reducePow, Int.reduceNegSucc, r.len, str, zc]
  refine ⟨⟨by omega, by omega, by omega, by omega⟩, newB_intro fun j hj => ?_⟩
  rw [zC]
  simp only [walk, lists, acts, mem, plain, seqs, maps, cells, resL, resV, intBin, ↓reduceIte, Nat.reduceAdd, Nat.reduceSub, Nat.reduceMul, Nat.reduceLeDiff, Nat.reduceEqDiff, Int.reduceToNat, Int.reduceEq, Int.reduceLT, Int.reduceLE, Int.reduceNeg, Int.reduceAdd, Int.reduceSub, Int.reduceMul, Nat.reducePow, Int.reduceNegSucc]
  have hr : (List.replicate l.length zCall).length = l.length := by simp
  have o0 : oLs 37 cCall 6 (.slice (some ⟨j, 0, none⟩) l.length l.length) (List.replicate l.length zCall) [(j, blk (fl cCall (List.replicate l.length zCall)) 37)] := by
    have := oLs_new (e := 37) eC_len (j := j) (l := List.replicate l.length zCall)
    rw [hr] at this; exact this
  obtain ⟨V, hV⟩ : ∃ V, V = Value.slice (some ⟨j, 0, none⟩) l.length l.length := ⟨_, rfl⟩
  rw [← hV] at o0 ⊢
  refine vc_loop [4] (fun n vs h' => ∃ (i : Nat) (g' : H), vs = [.int .i64 i] ∧ h' = g' ++ h ∧ Dj g' h ∧ oLs 37 cCall 6 V (l.take i ++ (List.replicate l.length zCall).drop i) g' ∧ i ≤ l.length ∧ n = l.length - i) l.length rfl
    ⟨0, _, rfl, rfl, Dj.one hj, by simpa using o0, by omega, rfl⟩ ?_
  rintro n f h' ⟨i, g', hv, rfl, dj', o', hi, rfl⟩
  simp only [List.map_cons, List.map_nil, List.cons.injEq, and_true] at hv
  simp only [walk, lists, acts, mem, plain, seqs, maps, cells, resL, resV, intBin, ↓reduceIte, Nat.reduceAdd, Nat.reduceSub, Nat.reduceMul, Nat.reduceLeDiff, Nat.reduceEqDiff, Int.reduceToNat, Int.reduceEq, Int.reduceLT, Int.reduceLE, Int.reduceNeg, Int.reduceAdd, Int.reduceSub, Int.reduceMul, Nat.reducePow, Int.reduceNegSucc, wr, hv, r.len]
  refine ite_lt (fun c1 => ?_) fun c1 => ?_
  · have hi2 : i < l.length := by omega
    refine idx_in (i := i) eC_len (r.sub (Sub.right dj')) rfl hi2 fun b1 o1 e1 => ?_
    simp only [walk, lists, acts, mem, plain, seqs, maps, cells, resL, resV, intBin, ↓reduceIte, Nat.reduceAdd, Nat.reduceSub, Nat.reduceMul, Nat.reduceLeDiff, Nat.reduceEqDiff, Int.reduceToNat, Int.reduceEq, Int.reduceLT, Int.reduceLE, Int.reduceNeg, Int.reduceAdd, Int.reduceSub, Int.reduceMul, Nat.reducePow, Int.reduceNegSucc, e1, wCall]
    refine toCall_c ?_
    simp only [walk, lists, acts, mem, plain, seqs, maps, cells, resL, resV, intBin, ↓reduceIte, Nat.reduceAdd, Nat.reduceSub, Nat.reduceMul, Nat.reduceLeDiff, Nat.reduceEqDiff, Int.reduceToNat, Int.reduceEq, Int.reduceLT, Int.reduceLE, Int.reduceNeg, Int.reduceAdd, Int.reduceSub, Int.reduceMul, Nat.reducePow, Int.reduceNegSucc, wCall]
    refine own_idx (i := i) eC_len o' rfl (by simp; omega) fun b cap sp hv' hc hs hg => ?_
    subst hg
    simp only [walk, lists, acts, mem, plain, seqs, maps, cells, resL, resV, intBin, ↓reduceIte, Nat.reduceAdd, Nat.reduceSub, Nat.reduceMul, Nat.reduceLeDiff, Nat.reduceEqDiff, Int.reduceToNat, Int.reduceEq, Int.reduceLT, Int.reduceLE, Int.reduceNeg, Int.reduceAdd, Int.reduceSub, Int.reduceMul, Nat.reducePow, Int.reduceNegSucc, wCall]
    refine st_own (i := i) (a' := l[i]'hi2) (off := 0) eC_len (by omega) (by simp; omega) rfl (by omega) rfl ?_
    simp only [walk, lists, acts, mem, plain, seqs, maps, cells, resL, resV, intBin, ↓reduceIte, Nat.reduceAdd, Nat.reduceSub, Nat.reduceMul, Nat.reduceLeDiff, Nat.reduceEqDiff, Int.reduceToNat, Int.reduceEq, Int.reduceLT, Int.reduceLE, Int.reduceNeg, Int.reduceAdd, Int.reduceSub, Int.reduceMul, Nat.reducePow, Int.reduceNegSucc]
    simp (disch := omega) only [wrapI]
    refine ⟨l.length - (i + 1), by omega, _, .refl _, i + 1, _, by simp, rfl, Dj.one dj'.one', ?_, by omega, rfl⟩
    rw [← take_set (by omega) hr]
    exact own_set eC_len hv' hc hs
  · have hi' : i = l.length := by omega
    subst hi'
    have o2 : oLs 37 cCall 6 V l g' := by simpa using o'
    exact .of (k _ g' o2 dj')

theorem eqCallS_c {h : H} {a b : Value} {la lb : List DCall} (ra : rLs h cCall 6 a la) (rb : rLs h cCall 6 b lb) (ha : la.length ≤ 1099511627776) {R : Ending → H → Prop} (k : R (.returned (.bool (decide (la = lb)))) h) :
    HCalls Tryd.prog 28 #[a, b] h R := by
  refine HCalls_ir (args := [a, b]) Tryd.func28 ir28 ?_
  simp only [walk, lists, acts, mem, plain, seqs, maps, cells, resL, resV, intBin, ↓reduceIte, Nat.reduceAdd, Nat.reduceSub, Nat.reduceMul, Nat.reduceLeDiff, Nat.reduceEqDiff, Int.reduceToNat, Int.reduceEq, Int.reduceLT, Int.reduceLE, Int.reduceNeg, Int.reduceAdd, Int.reduceSub, Int.reduceMul, Nat.reducePow, Int.reduceNegSucc, ra.len, rb.len]
  split
  · rename_i c
    exact .of (kF k fun e => c (by rw [e]))
  · rename_i c
    have hl : la.length = lb.length := by omega
    refine vc_loop [5] (fun n vs h' => ∃ i : Nat, vs = [.int .i64 i] ∧ h' = h ∧ i ≤ la.length ∧ n = la.length - i ∧ la.take i = lb.take i) la.length rfl ⟨0, rfl, rfl, by omega, by omega, by simp⟩ ?_
    rintro n f h' ⟨i, hv, rfl, hi, rfl, ht⟩
    simp only [List.map_cons, List.map_nil, List.cons.injEq, and_true] at hv
    simp only [walk, lists, acts, mem, plain, seqs, maps, cells, resL, resV, intBin, ↓reduceIte, Nat.reduceAdd, Nat.reduceSub, Nat.reduceMul, Nat.reduceLeDiff, Nat.reduceEqDiff, Int.reduceToNat, Int.reduceEq, Int.reduceLT, Int.reduceLE, Int.reduceNeg, Int.reduceAdd, Int.reduceSub, Int.reduceMul, Nat.reducePow, Int.reduceNegSucc, wr, hv, ra.len, rb.len]
    split
    · rename_i c1
      refine vc_draw h' (Sub.refl _) ?_
      simp only [walk, lists, acts, mem, plain, seqs, maps, cells, resL, resV, intBin, ↓reduceIte, Nat.reduceAdd, Nat.reduceSub, Nat.reduceMul, Nat.reduceLeDiff, Nat.reduceEqDiff, Int.reduceToNat, Int.reduceEq, Int.reduceLT, Int.reduceLE, Int.reduceNeg, Int.reduceAdd, Int.reduceSub, Int.reduceMul, Nat.reducePow, Int.reduceNegSucc]
      refine idx_leaf (i := i) eC_len ra rfl (by omega) fun b1 o1 e1 => ?_
      simp only [walk, lists, acts, mem, plain, seqs, maps, cells, resL, resV, intBin, ↓reduceIte, Nat.reduceAdd, Nat.reduceSub, Nat.reduceMul, Nat.reduceLeDiff, Nat.reduceEqDiff, Int.reduceToNat, Int.reduceEq, Int.reduceLT, Int.reduceLE, Int.reduceNeg, Int.reduceAdd, Int.reduceSub, Int.reduceMul, Nat.reducePow, Int.reduceNegSucc, e1]
      refine idx_leaf (i := i) eC_len rb rfl (by omega) fun b2 o2 e2 => ?_
      simp only [walk, lists, acts, mem, plain, seqs, maps, cells, resL, resV, intBin, ↓reduceIte, Nat.reduceAdd, Nat.reduceSub, Nat.reduceMul, Nat.reduceLeDiff, Nat.reduceEqDiff, Int.reduceToNat, Int.reduceEq, Int.reduceLT, Int.reduceLE, Int.reduceNeg, Int.reduceAdd, Int.reduceSub, Int.reduceMul, Nat.reducePow, Int.reduceNegSucc, e2]
      refine eqCall_c ?_
      simp only [walk, lists, acts, mem, plain, seqs, maps, cells, resL, resV, intBin, ↓reduceIte, Nat.reduceAdd, Nat.reduceSub, Nat.reduceMul, Nat.reduceLeDiff, Nat.reduceEqDiff, Int.reduceToNat, Int.reduceEq, Int.reduceLT, Int.reduceLE, Int.reduceNeg, Int.reduceAdd, Int.reduceSub, Int.reduceMul, Nat.reducePow, Int.reduceNegSucc]
      refine ite_ne (fun d => .of (kF k (ne_at _ _ d))) fun d => ?_
      simp (disch := omega) only [wrapI]
      exact ⟨la.length - (i + 1), by omega, h', .refl _, i + 1, by simp, rfl, by omega, rfl, take_more _ _ ht d⟩
    · rename_i c1
      exact .of (kT k (take_all (by omega) hl ht))
end Go.Proofs.YtfkkjjballajaaaDoor
end

/- FnExactToldAt, walked whole. -/
section
set_option linter.unusedVariables false
set_option linter.unusedSimpArgs false
set_option maxRecDepth 20000
attribute [local irreducible] Go.Tk.vc Go.Tk.vops Go.Tk.vdr Go.Tk.vop Go.Tk.vfl Go.Tk.HCalls
namespace Go.Tk
open Go
/-- A call of a session, not ahead of a number. -/
def toldP (S N : Int) (c : DCall) : Prop := callOkP c ∧ c.session = S ∧ N ≤ c.number
/-- The place of a call in a row. -/
def ToldO (l : List DCall) (S N r : Int) : Prop := (60 < l.length ∧ r = 0) ∨ (l.length ≤ 60 ∧ ((∃ (i : Nat) (hi : i < l.length), toldP S N l[i] ∧ (∀ j (hj : j < i), ¬ toldP S N l[j]) ∧ r = if l[i].number = N then (i : Int) + 1 else 0) ∨ ((∀ c ∈ l, ¬ toldP S N c) ∧ r = 0)))
theorem ToldO.same {l : List DCall} {S N r r' : Int} (h : ToldO l S N r) (h' : ToldO l S N r') : r = r' := by
  rcases h with ⟨a, rfl⟩ | ⟨a, h⟩
  · rcases h' with ⟨_, rfl⟩ | ⟨b, _⟩
    · rfl
    · omega
  · rcases h' with ⟨b, _⟩ | ⟨_, h'⟩
    · omega
    · rcases h with ⟨i, hi, p, q, rfl⟩ | ⟨n, rfl⟩
      · rcases h' with ⟨j, hj, p', q', rfl⟩ | ⟨n, _⟩
        · have : i = j := by
            rcases Nat.lt_trichotomy i j with x | x | x
            · exact absurd p (q' i x)
            · exact x
            · exact absurd p' (q j x)
          subst this; rfl
        · exact absurd p (n _ (List.getElem_mem hi))
      · rcases h' with ⟨j, hj, p', _, _⟩ | ⟨_, rfl⟩
        · exact absurd p' (n _ (List.getElem_mem hj))
        · rfl
end Go.Tk
namespace Go.Proofs.YtfkkjjballajaaaDoor
open Go Go.Tk

theorem specToldAt_c {h : H} {v : Value} {l : List DCall} {S N : Int} (r : rLs h cCall 6 v l) (hl : l.length ≤ 1048576) (ht : ∀ c ∈ l, c.text.length ≤ 4194304) {R : Ending → H → Prop} (k : ∀ n, ToldO l S N n → R (.returned (.int .i64 n)) h) :
    HCalls Tryd.prog 25 #[v, .int .i64 S, .int .i64 N] h R := by
  refine HCalls_ir (args := [v, .int .i64 S, .int .i64 N]) Tryd.func25 ir25 ?_
  have zc := zCall_eq
  simp only [str] at zc
  simp only [walk, lists, acts, mem, plain, seqs, maps, cells, resL, resV, intBin, ↓reduceIte, Nat.reduceAdd, Nat.reduceSub, Nat.reduceMul, Nat.reduceLeDiff, Nat.reduceEqDiff, Int.reduceToNat, Int.reduceEq, Int.reduceLT, Int.reduceLE, Int.reduceNeg, Int.reduceAdd, Int.reduceSub, Int.reduceMul, Nat.reducePow, Int.reduceNegSucc, r.len, str, zc]
  refine ite_lt (fun c => .of (k 0 (.inl ⟨by omega, rfl⟩))) fun c => ?_
  have h60 : l.length ≤ 60 := by omega
  refine vc_loop [7] (fun n vs h' => ∃ (i : Nat), vs = [.int .i64 i] ∧ h' = h ∧ (∀ c ∈ l.take i, ¬ toldP S N c) ∧ i ≤ l.length ∧ n = l.length - i) l.length rfl
    ⟨0, rfl, rfl, by simp, by omega, rfl⟩ ?_
  rintro n f h' ⟨i, hv, rfl, hn, hi, rfl⟩
  simp only [List.map_cons, List.map_nil, List.cons.injEq, and_true] at hv
  simp only [walk, lists, acts, mem, plain, seqs, maps, cells, resL, resV, intBin, ↓reduceIte, Nat.reduceAdd, Nat.reduceSub, Nat.reduceMul, Nat.reduceLeDiff, Nat.reduceEqDiff, Int.reduceToNat, Int.reduceEq, Int.reduceLT, Int.reduceLE, Int.reduceNeg, Int.reduceAdd, Int.reduceSub, Int.reduceMul, Nat.reducePow, Int.reduceNegSucc, wr, hv, r.len, str, zc]
  refine ite_lt (fun c1 => ?_) fun c1 => ?_
  · have hi2 : i < l.length := by omega
    refine idx_leaf (i := i) eC_len r rfl hi2 fun b1 o1 e1 => ?_
    simp only [walk, lists, acts, mem, plain, seqs, maps, cells, resL, resV, intBin, ↓reduceIte, Nat.reduceAdd, Nat.reduceSub, Nat.reduceMul, Nat.reduceLeDiff, Nat.reduceEqDiff, Int.reduceToNat, Int.reduceEq, Int.reduceLT, Int.reduceLE, Int.reduceNeg, Int.reduceAdd, Int.reduceSub, Int.reduceMul, Nat.reducePow, Int.reduceNegSucc, e1, wCall, str, zc]
    refine newB_intro fun j hj => ?_
    have sj := Sub.cons (o := blk (cCall l[i]) 37) hj (Sub.refl h')
    have hm := List.getElem_mem hi2
    have hpre : ∀ j (hj : j < i), ¬ toldP S N l[j] := fun j hj => hn _ (by rw [List.mem_take_iff_getElem]; exact ⟨j, by omega, rfl⟩)
    have nx : ¬ toldP S N l[i] → ∃ m, m < l.length - i ∧ ∃ g, Tk.Sub g ((j, blk (cCall l[i]) 37) :: h') ∧ ∃ i' : Nat, [Value.int IntKind.i64 (IntKind.i64.wrap ((i : Int) + 1))] = [Value.int IntKind.i64 i'] ∧ g = h' ∧ (∀ c ∈ l.take i', ¬ toldP S N c) ∧ i' ≤ l.length ∧ m = l.length - i' := fun p =>
      ⟨l.length - (i + 1), by omega, h', sj, i + 1, by simp (disch := omega) only [wrapI]; simp, rfl, fun c hc => by
        rw [List.take_succ_eq_append_getElem hi2] at hc
        rcases List.mem_append.1 hc with hc | hc
        · exact hn c hc
        · rw [List.mem_singleton] at hc
          rw [hc]; exact p, by omega, rfl⟩
    simp only [walk, lists, acts, mem, plain, seqs, maps, cells, resL, resV, intBin, ↓reduceIte, Nat.reduceAdd, Nat.reduceSub, Nat.reduceMul, Nat.reduceLeDiff, Nat.reduceEqDiff, Int.reduceToNat, Int.reduceEq, Int.reduceLT, Int.reduceLE, Int.reduceNeg, Int.reduceAdd, Int.reduceSub, Int.reduceMul, Nat.reducePow, Int.reduceNegSucc, wCall, str, zc]
    refine specCallOk_c (ht _ hm) fun b hb => ?_
    simp only [walk, lists, acts, mem, plain, seqs, maps, cells, resL, resV, intBin, ↓reduceIte, Nat.reduceAdd, Nat.reduceSub, Nat.reduceMul, Nat.reduceLeDiff, Nat.reduceEqDiff, Int.reduceToNat, Int.reduceEq, Int.reduceLT, Int.reduceLE, Int.reduceNeg, Int.reduceAdd, Int.reduceSub, Int.reduceMul, Nat.reducePow, Int.reduceNegSucc, wCall, str, zc]
    refine ite_f (fun e => nx fun p => not_b hb e p.1) fun e => ?_
    refine ite_ne (fun c2 => nx fun p => c2 p.2.1) fun c2 => ?_
    refine ite_lt (fun c3 => nx fun p => by have := p.2.2; omega) fun c3 => ?_
    have hp : toldP S N l[i] := ⟨hb.1 e, c2, c3⟩
    refine ite_pos (fun c4 => ?_) fun c4 => ?_
    · simp (disch := omega) only [wrapI]
      exact ⟨h', sj, k _ (.inr ⟨h60, .inl ⟨i, hi2, hp, hpre, by rw [if_pos c4]⟩⟩)⟩
    · exact ⟨h', sj, k _ (.inr ⟨h60, .inl ⟨i, hi2, hp, hpre, by rw [if_neg c4]⟩⟩)⟩
  · have hi2 : i = l.length := by omega
    subst hi2
    rw [List.take_length] at hn
    exact .of (k 0 (.inr ⟨h60, .inr ⟨hn, rfl⟩⟩))

theorem told1_c {h : H} {c : DCall} {S N : Int} {j4 j5 : Nat} (gl : Gl h) (gm : MxL h) (ht : c.text.length ≤ 4194304) (h4 : hget h j4 = some (blk [.int .i64 S] 3)) (h5 : hget h j5 = some (blk [.int .i64 N] 3)) {R : Ending → H → Prop} (k : Asks R (toldP S N c) h) :
    HCalls Tryd.prog 52 #[.agg (cCall c).toArray, .pointer (some ⟨j4, 0, none⟩), .pointer (some ⟨j5, 0, none⟩)] h R := by
  refine HCalls_ir (args := [.agg (cCall c).toArray, .pointer (some ⟨j4, 0, none⟩), .pointer (some ⟨j5, 0, none⟩)]) Tryd.func52 ir52 ?_
  simp only [walk, lists, acts, mem, plain, seqs, maps, cells, resL, resV, intBin, ↓reduceIte, Nat.reduceAdd, Nat.reduceSub, Nat.reduceMul, Nat.reduceLeDiff, Nat.reduceEqDiff, Int.reduceToNat, Int.reduceEq, Int.reduceLT, Int.reduceLE, Int.reduceNeg, Int.reduceAdd, Int.reduceSub, Int.reduceMul, Nat.reducePow, Int.reduceNegSucc, wCall]
  refine newB_intro fun j hj => ?_
  have s1 := Sub.cons (o := blk (cCall c) 37) hj (Sub.refl h)
  have n4 : ¬ j4 = j := fun e => by rw [e, hj] at h4; cases h4
  have n5 : ¬ j5 = j := fun e => by rw [e, hj] at h5; cases h5
  have c4 : hcel h j4 0 = some (.int .i64 S) := by unfold hcel; rw [h4]; rfl
  have c5 : hcel h j5 0 = some (.int .i64 N) := by unfold hcel; rw [h5]; rfl
  simp only [walk, lists, acts, mem, plain, seqs, maps, cells, resL, resV, intBin, ↓reduceIte, Nat.reduceAdd, Nat.reduceSub, Nat.reduceMul, Nat.reduceLeDiff, Nat.reduceEqDiff, Int.reduceToNat, Int.reduceEq, Int.reduceLT, Int.reduceLE, Int.reduceNeg, Int.reduceAdd, Int.reduceSub, Int.reduceMul, Nat.reducePow, Int.reduceNegSucc, wCall, n4, n5, c4, c5]
  refine ite_pos (fun e1 => ?_) fun e1 => ?_
  · refine ite_ge (fun e2 => ?_) fun e2 => ?_
    · refine implCallOk_c (gl.sub s1) (gm.sub s1) ht fun b hb => ?_
      simp only [walk, lists, acts, mem, plain, seqs, maps, cells, resL, resV, intBin, ↓reduceIte, Nat.reduceAdd, Nat.reduceSub, Nat.reduceMul, Nat.reduceLeDiff, Nat.reduceEqDiff, Int.reduceToNat, Int.reduceEq, Int.reduceLT, Int.reduceLE, Int.reduceNeg, Int.reduceAdd, Int.reduceSub, Int.reduceMul, Nat.reducePow, Int.reduceNegSucc, wCall]
      refine ⟨h, s1, k _ ?_⟩
      rw [hb]
      exact ⟨fun x => ⟨x, e1, e2⟩, fun p => p.1⟩
    · exact k.dno s1 fun p => by have := p.2.2; omega
  · exact k.dno s1 fun p => e1 p.2.1

theorem indexFunc_c {h : H} {v : Value} {l : List DCall} {S N : Int} {j4 j5 : Nat} (gl : Gl h) (gm : MxL h) (r : rLs h cCall 6 v l) (hl : l.length ≤ 1048576) (ht : ∀ c ∈ l, c.text.length ≤ 4194304) (h4 : hget h j4 = some (blk [.int .i64 S] 3)) (h5 : hget h j5 = some (blk [.int .i64 N] 3)) {R : Ending → H → Prop}
    (k1 : ∀ (i : Nat) (hi : i < l.length), toldP S N l[i] → (∀ j (hj : j < i), ¬ toldP S N l[j]) → R (.returned (.int .i64 i)) h) (k2 : (∀ c ∈ l, ¬ toldP S N c) → R (.returned (.int .i64 (-1))) h) :
    HCalls Tryd.prog 51 #[v, .func (.func 52) #[] #[.pointer (some ⟨j4, 0, none⟩), .pointer (some ⟨j5, 0, none⟩)]] h R := by
  refine HCalls_ir (args := [v, .func (.func 52) #[] #[.pointer (some ⟨j4, 0, none⟩), .pointer (some ⟨j5, 0, none⟩)]]) Tryd.func51 ir51 ?_
  simp only [walk, lists, acts, mem, plain, seqs, maps, cells, resL, resV, intBin, ↓reduceIte, Nat.reduceAdd, Nat.reduceSub, Nat.reduceMul, Nat.reduceLeDiff, Nat.reduceEqDiff, Int.reduceToNat, Int.reduceEq, Int.reduceLT, Int.reduceLE, Int.reduceNeg, Int.reduceAdd, Int.reduceSub, Int.reduceMul, Nat.reducePow, Int.reduceNegSucc, r.len]
  refine vc_loop [8] (fun n vs h' => ∃ (i : Nat), vs = [.int .i64 i] ∧ h' = h ∧ (∀ c ∈ l.take i, ¬ toldP S N c) ∧ i ≤ l.length ∧ n = l.length - i) l.length rfl
    ⟨0, rfl, rfl, by simp, by omega, rfl⟩ ?_
  rintro n f h' ⟨i, hv, rfl, hn, hi, rfl⟩
  simp only [List.map_cons, List.map_nil, List.cons.injEq, and_true] at hv
  simp only [walk, lists, acts, mem, plain, seqs, maps, cells, resL, resV, intBin, ↓reduceIte, Nat.reduceAdd, Nat.reduceSub, Nat.reduceMul, Nat.reduceLeDiff, Nat.reduceEqDiff, Int.reduceToNat, Int.reduceEq, Int.reduceLT, Int.reduceLE, Int.reduceNeg, Int.reduceAdd, Int.reduceSub, Int.reduceMul, Nat.reducePow, Int.reduceNegSucc, wr, hv, r.len]
  refine ite_lt (fun c1 => ?_) fun c1 => ?_
  · have hi2 : i < l.length := by omega
    refine idx_leaf (i := i) eC_len r rfl hi2 fun b1 o1 e1 => ?_
    simp only [walk, lists, acts, mem, plain, seqs, maps, cells, resL, resV, intBin, ↓reduceIte, Nat.reduceAdd, Nat.reduceSub, Nat.reduceMul, Nat.reduceLeDiff, Nat.reduceEqDiff, Int.reduceToNat, Int.reduceEq, Int.reduceLT, Int.reduceLE, Int.reduceNeg, Int.reduceAdd, Int.reduceSub, Int.reduceMul, Nat.reducePow, Int.reduceNegSucc, e1, wCall]
    refine ⟨by kernel_rfl, told1_c gl gm (ht _ (List.getElem_mem hi2)) h4 h5 fun b hb => ?_⟩
    simp only [walk, lists, acts, mem, plain, seqs, maps, cells, resL, resV, intBin, ↓reduceIte, Nat.reduceAdd, Nat.reduceSub, Nat.reduceMul, Nat.reduceLeDiff, Nat.reduceEqDiff, Int.reduceToNat, Int.reduceEq, Int.reduceLT, Int.reduceLE, Int.reduceNeg, Int.reduceAdd, Int.reduceSub, Int.reduceMul, Nat.reducePow, Int.reduceNegSucc]
    cases b with
    | true => exact .of (k1 i hi2 (hb.1 rfl) fun j hj => hn _ (by rw [List.mem_take_iff_getElem]; exact ⟨j, by omega, rfl⟩))
    | false =>
      simp (disch := omega) only [walk, lists, acts, mem, plain, seqs, maps, cells, resL, resV, intBin, ↓reduceIte, Nat.reduceAdd, Nat.reduceSub, Nat.reduceMul, Nat.reduceLeDiff, Nat.reduceEqDiff, Int.reduceToNat, Int.reduceEq, Int.reduceLT, Int.reduceLE, Int.reduceNeg, Int.reduceAdd, Int.reduceSub, Int.reduceMul, Nat.reducePow, Int.reduceNegSucc, wrapI]
      refine ⟨l.length - (i + 1), by omega, h', .refl _, i + 1, by simp, rfl, fun c hc => ?_, by omega, rfl⟩
      rw [List.take_succ_eq_append_getElem hi2] at hc
      rcases List.mem_append.1 hc with hc | hc
      · exact hn c hc
      · rw [List.mem_singleton] at hc
        rw [hc]; exact not_b hb rfl
  · have hi2 : i = l.length := by omega
    subst hi2
    rw [List.take_length] at hn
    exact .of (k2 hn)

theorem implToldAt_c {h : H} {v : Value} {l : List DCall} {S N : Int} (gl : Gl h) (gm : MxL h) (r : rLs h cCall 6 v l) (hl : l.length ≤ 1048576) (ht : ∀ c ∈ l, c.text.length ≤ 4194304) {R : Ending → H → Prop} (k : ∀ n, ToldO l S N n → R (.returned (.int .i64 n)) h) :
    HCalls Tryd.prog 27 #[v, .int .i64 S, .int .i64 N] h R := by
  refine HCalls_ir (args := [v, .int .i64 S, .int .i64 N]) Tryd.func27 ir27 ?_
  simp only [walk, lists, acts, mem, plain, seqs, maps, cells, resL, resV, intBin, ↓reduceIte, Nat.reduceAdd, Nat.reduceSub, Nat.reduceMul, Nat.reduceLeDiff, Nat.reduceEqDiff, Int.reduceToNat, Int.reduceEq, Int.reduceLT, Int.reduceLE, Int.reduceNeg, Int.reduceAdd, Int.reduceSub, Int.reduceMul, Nat.reducePow, Int.reduceNegSucc]
  refine newB_intro fun j4 hj4 => ?_
  have s4 := Sub.cons (o := blk [.int .i64 S] 3) hj4 (Sub.refl h)
  simp only [walk, lists, acts, mem, plain, seqs, maps, cells, resL, resV, intBin, ↓reduceIte, Nat.reduceAdd, Nat.reduceSub, Nat.reduceMul, Nat.reduceLeDiff, Nat.reduceEqDiff, Int.reduceToNat, Int.reduceEq, Int.reduceLT, Int.reduceLE, Int.reduceNeg, Int.reduceAdd, Int.reduceSub, Int.reduceMul, Nat.reducePow, Int.reduceNegSucc]
  refine newB_intro fun j5 hj5 => ?_
  have n5 := hj5
  simp only [subs] at n5
  have s5 := s4.trans (Sub.cons (o := blk [.int .i64 N] 3) hj5 (Sub.refl _))
  have e45 : ¬ j4 = j5 := fun e => n5.1 e.symm
  simp only [walk, lists, acts, mem, plain, seqs, maps, cells, resL, resV, intBin, ↓reduceIte, Nat.reduceAdd, Nat.reduceSub, Nat.reduceMul, Nat.reduceLeDiff, Nat.reduceEqDiff, Int.reduceToNat, Int.reduceEq, Int.reduceLT, Int.reduceLE, Int.reduceNeg, Int.reduceAdd, Int.reduceSub, Int.reduceMul, Nat.reducePow, Int.reduceNegSucc, (r.sub s5).len]
  refine ite_lt (fun c => ⟨h, s5, k 0 (.inl ⟨by omega, rfl⟩)⟩) fun c => ?_
  have h60 : l.length ≤ 60 := by omega
  refine indexFunc_c (S := S) (N := N) (gl.sub s5) (gm.sub s5) (r.sub s5) hl ht (by simp only [subs, e45]) (hget_same _ _ _) (fun i hi p q => ?_) fun n => ?_
  · simp only [walk, lists, acts, mem, plain, seqs, maps, cells, resL, resV, intBin, ↓reduceIte, Nat.reduceAdd, Nat.reduceSub, Nat.reduceMul, Nat.reduceLeDiff, Nat.reduceEqDiff, Int.reduceToNat, Int.reduceEq, Int.reduceLT, Int.reduceLE, Int.reduceNeg, Int.reduceAdd, Int.reduceSub, Int.reduceMul, Nat.reducePow, Int.reduceNegSucc]
    refine vc_draw _ (Sub.refl _) ?_
    simp only [walk, lists, acts, mem, plain, seqs, maps, cells, resL, resV, intBin, ↓reduceIte, Nat.reduceAdd, Nat.reduceSub, Nat.reduceMul, Nat.reduceLeDiff, Nat.reduceEqDiff, Int.reduceToNat, Int.reduceEq, Int.reduceLT, Int.reduceLE, Int.reduceNeg, Int.reduceAdd, Int.reduceSub, Int.reduceMul, Nat.reducePow, Int.reduceNegSucc]
    refine ite_lt (fun c => by omega) fun c => ?_
    refine idx_leaf (i := i) eC_len (r.sub s5) rfl hi fun b1 o1 e1 => ?_
    have e11 := hread_c e1 1 rfl
    simp only [walk, lists, acts, mem, plain, seqs, maps, cells, resL, resV, intBin, ↓reduceIte, Nat.reduceAdd, Nat.reduceSub, Nat.reduceMul, Nat.reduceLeDiff, Nat.reduceEqDiff, Int.reduceToNat, Int.reduceEq, Int.reduceLT, Int.reduceLE, Int.reduceNeg, Int.reduceAdd, Int.reduceSub, Int.reduceMul, Nat.reducePow, Int.reduceNegSucc, e1, e11, wCall]
    refine ite_ne (fun c4 => ?_) fun c4 => ?_
    · exact ⟨h, s5, k _ (.inr ⟨h60, .inl ⟨i, hi, p, q, by rw [if_neg c4]⟩⟩)⟩
    · simp (disch := omega) only [wrapI]
      exact ⟨h, s5, k _ (.inr ⟨h60, .inl ⟨i, hi, p, q, by rw [if_pos c4]⟩⟩)⟩
  · simp only [walk, lists, acts, mem, plain, seqs, maps, cells, resL, resV, intBin, ↓reduceIte, Nat.reduceAdd, Nat.reduceSub, Nat.reduceMul, Nat.reduceLeDiff, Nat.reduceEqDiff, Int.reduceToNat, Int.reduceEq, Int.reduceLT, Int.reduceLE, Int.reduceNeg, Int.reduceAdd, Int.reduceSub, Int.reduceMul, Nat.reducePow, Int.reduceNegSucc]
    refine vc_draw _ (Sub.refl _) ?_
    simp only [walk, lists, acts, mem, plain, seqs, maps, cells, resL, resV, intBin, ↓reduceIte, Nat.reduceAdd, Nat.reduceSub, Nat.reduceMul, Nat.reduceLeDiff, Nat.reduceEqDiff, Int.reduceToNat, Int.reduceEq, Int.reduceLT, Int.reduceLE, Int.reduceNeg, Int.reduceAdd, Int.reduceSub, Int.reduceMul, Nat.reducePow, Int.reduceNegSucc]
    exact ⟨h, s5, k _ (.inr ⟨h60, .inr ⟨n, rfl⟩⟩)⟩

theorem exactToldAt_c {h : H} {v : Value} {l : List DCall} {S N : Int} (gl : Gl h) (gm : MxL h) (r : rIn h cCall 6 v l) (hl : l.length ≤ maxLen) (ht : ∀ c ∈ l, c.text.length ≤ maxLen) {R : Ending → H → Prop} (k : R (.returned (.bool true)) h) :
    HCalls Tryd.prog 7 #[v, .int .i64 S, .int .i64 N] h R := by
  refine HCalls_ir (args := [v, .int .i64 S, .int .i64 N]) Tryd.func7 ir7 ?_
  have hm : maxLen = 9223372036854775807 := by decide
  simp only [walk, lists, acts, mem, plain, seqs, maps, cells, resL, resV, intBin, ↓reduceIte, Nat.reduceAdd, Nat.reduceSub, Nat.reduceMul, Nat.reduceLeDiff, Nat.reduceEqDiff, Int.reduceToNat, Int.reduceEq, Int.reduceLT, Int.reduceLE, Int.reduceNeg, Int.reduceAdd, Int.reduceSub, Int.reduceMul, Nat.reducePow, Int.reduceNegSucc]
  refine szCalls_c r (by omega) (fun e he => by have := ht e he; omega) fun n hn => ?_
  simp only [walk, lists, acts, mem, plain, seqs, maps, cells, resL, resV, intBin, ↓reduceIte, Nat.reduceAdd, Nat.reduceSub, Nat.reduceMul, Nat.reduceLeDiff, Nat.reduceEqDiff, Int.reduceToNat, Int.reduceEq, Int.reduceLT, Int.reduceLE, Int.reduceNeg, Int.reduceAdd, Int.reduceSub, Int.reduceMul, Nat.reducePow, Int.reduceNegSucc]
  refine ite_lt (fun c => .of k) fun c => ?_
  obtain ⟨hl2, ht2⟩ := hn c
  have ht3 : ∀ e ∈ l, e.text.length ≤ 4194304 := fun e he => by have := ht2 e he; omega
  refine toCalls_c r hl2 fun v1 g1 o1 d1 => ?_
  have s1 := Sub.right d1
  simp only [walk, lists, acts, mem, plain, seqs, maps, cells, resL, resV, intBin, ↓reduceIte, Nat.reduceAdd, Nat.reduceSub, Nat.reduceMul, Nat.reduceLeDiff, Nat.reduceEqDiff, Int.reduceToNat, Int.reduceEq, Int.reduceLT, Int.reduceLE, Int.reduceNeg, Int.reduceAdd, Int.reduceSub, Int.reduceMul, Nat.reducePow, Int.reduceNegSucc]
  refine specToldAt_c (o1.rd.sub (Sub.left _ _)) hl2 ht3 fun n1 O1 => ?_
  simp only [walk, lists, acts, mem, plain, seqs, maps, cells, resL, resV, intBin, ↓reduceIte, Nat.reduceAdd, Nat.reduceSub, Nat.reduceMul, Nat.reduceLeDiff, Nat.reduceEqDiff, Int.reduceToNat, Int.reduceEq, Int.reduceLT, Int.reduceLE, Int.reduceNeg, Int.reduceAdd, Int.reduceSub, Int.reduceMul, Nat.reducePow, Int.reduceNegSucc]
  refine (toCalls_c r hl2 fun v2 g2 o2 d2 => ?_).weaken s1
  have s2 := Sub.right d2
  simp only [walk, lists, acts, mem, plain, seqs, maps, cells, resL, resV, intBin, ↓reduceIte, Nat.reduceAdd, Nat.reduceSub, Nat.reduceMul, Nat.reduceLeDiff, Nat.reduceEqDiff, Int.reduceToNat, Int.reduceEq, Int.reduceLT, Int.reduceLE, Int.reduceNeg, Int.reduceAdd, Int.reduceSub, Int.reduceMul, Nat.reducePow, Int.reduceNegSucc]
  refine implToldAt_c (gl.sub s2) (gm.sub s2) (o2.rd.sub (Sub.left _ _)) hl2 ht3 fun n2 O2 => ?_
  have e := O1.same O2
  subst e
  simp only [walk, lists, acts, mem, plain, seqs, maps, cells, resL, resV, intBin, ↓reduceIte, Nat.reduceAdd, Nat.reduceSub, Nat.reduceMul, Nat.reduceLeDiff, Nat.reduceEqDiff, Int.reduceToNat, Int.reduceEq, Int.reduceLT, Int.reduceLE, Int.reduceNeg, Int.reduceAdd, Int.reduceSub, Int.reduceMul, Nat.reducePow, Int.reduceNegSucc]
  refine toCalls_c (r.sub s2) hl2 fun v3 g3 o3 d3 => ?_
  have s3 := Sub.right d3
  simp only [walk, lists, acts, mem, plain, seqs, maps, cells, resL, resV, intBin, ↓reduceIte, Nat.reduceAdd, Nat.reduceSub, Nat.reduceMul, Nat.reduceLeDiff, Nat.reduceEqDiff, Int.reduceToNat, Int.reduceEq, Int.reduceLT, Int.reduceLE, Int.reduceNeg, Int.reduceAdd, Int.reduceSub, Int.reduceMul, Nat.reducePow, Int.reduceNegSucc]
  refine eqCallS_c ((o2.rd.sub (Sub.left _ _)).sub s3) (o3.rd.sub (Sub.left _ _)) (by omega) ?_
  simp only [walk, lists, acts, mem, plain, seqs, maps, cells, resL, resV, intBin, ↓reduceIte, Nat.reduceAdd, Nat.reduceSub, Nat.reduceMul, Nat.reduceLeDiff, Nat.reduceEqDiff, Int.reduceToNat, Int.reduceEq, Int.reduceLT, Int.reduceLE, Int.reduceNeg, Int.reduceAdd, Int.reduceSub, Int.reduceMul, Nat.reducePow, Int.reduceNegSucc, decide_true]
  exact ⟨h, s2.trans s3, k⟩
end Go.Proofs.YtfkkjjballajaaaDoor
end
