/- Parts of the proof, put together: V5, V6, V7, C1, V10, X2. -/
import Derived.Test.YtfkkjjballajaaaGreatDoorK710
import Derived.Test.YtfkkjjballajaaaGreatDoorK79
import Derived.Test.YtfkkjjballajaaaGreatDoorK75
/- How the program keeps and writes the statements of a deal. -/
section
set_option linter.unusedVariables false
set_option linter.unusedSimpArgs false
set_option maxRecDepth 20000
attribute [local irreducible] Go.Tk.vc Go.Tk.vops Go.Tk.vdr Go.Tk.vop Go.Tk.vfl Go.Tk.HCalls
namespace Go.Proofs.YtfkkjjballajaaaGreatDoor
open Go Go.Tk

/-- A statement by its kind. -/
def stepV (s : DStatement) : Value := if s.do_ = 1 then .iface 139 (.agg #[.int .i64 s.key]) else if s.do_ = 2 then .iface 141 (.agg #[.int .i64 s.key, .int .i64 s.num]) else if s.do_ = 3 then .iface 142 (.agg #[.int .i64 s.key, .int .i64 s.num]) else .iface 143 (.agg #[.int .i64 s.key, .int .i64 s.num])
def eStep (s : DStatement) : List Value := [stepV s]
theorem eStep_len (s : DStatement) : (eStep s).length = 1 := rfl
theorem stepV_one (s : DStatement) : vone (stepV s) = true := by
  unfold stepV
  repeat' split
  all_goals rfl
theorem stepV_cells (s : DStatement) : vcells (stepV s) = [stepV s] := by
  unfold stepV
  repeat' split
  all_goals rfl
theorem eStep_one (l : List DStatement) : (fl eStep l).all vone = true := by
  induction l with
  | nil => rfl
  | cons a l ih => rw [fl_cons, List.all_append, ih]; simp [eStep, stepV_one]
theorem tSteps : Tryz.prog.underlying 74 = some (.slice 81) := by kernel_rfl
theorem iStep : InfoIs Tryz.prog 81 1 16 := infoB_is (by kernel_rfl)

theorem stepOf_c {h : H} {x : DStatement} {R : Ending → H → Prop} (k1 : stP x → R (.returned (.tuple #[stepV x, .bool true])) h) (k2 : ¬ stP x → ∀ v, R (.returned (.tuple #[v, .bool false])) h) :
    HCalls Tryz.prog 71 #[.agg (cStatement x).toArray] h R := by
  refine HCalls_ir (args := [.agg (cStatement x).toArray]) Tryz.func71 ir71 ?_
  simp only [walk, lists, acts, mem, plain, seqs, maps, cells, resL, resV, intBin, ↓reduceIte, Nat.reduceAdd, Nat.reduceSub, Nat.reduceMul, Nat.reduceLeDiff, Nat.reduceEqDiff, Int.reduceToNat, Int.reduceEq, Int.reduceLT, Int.reduceLE, Int.reduceNeg, Int.reduceAdd, Int.reduceSub, Int.reduceMul, Nat.reducePow, Int.reduceNegSucc, wStatement]
  refine newB_intro fun j1 hj1 => ?_
  have s1 := Sub.cons (o := blk (cStatement x) 40) hj1 (Sub.refl h)
  simp only [walk, lists, acts, mem, plain, seqs, maps, cells, resL, resV, intBin, ↓reduceIte, Nat.reduceAdd, Nat.reduceSub, Nat.reduceMul, Nat.reduceLeDiff, Nat.reduceEqDiff, Int.reduceToNat, Int.reduceEq, Int.reduceLT, Int.reduceLE, Int.reduceNeg, Int.reduceAdd, Int.reduceSub, Int.reduceMul, Nat.reducePow, Int.reduceNegSucc, wStatement]
  refine isKey_c fun b1 hb1 => ?_
  simp only [walk, lists, acts, mem, plain, seqs, maps, cells, resL, resV, intBin, ↓reduceIte, Nat.reduceAdd, Nat.reduceSub, Nat.reduceMul, Nat.reduceLeDiff, Nat.reduceEqDiff, Int.reduceToNat, Int.reduceEq, Int.reduceLT, Int.reduceLE, Int.reduceNeg, Int.reduceAdd, Int.reduceSub, Int.reduceMul, Nat.reducePow, Int.reduceNegSucc, wStatement]
  refine ite_f (fun e => ⟨h, s1, k2 (fun p => not_b hb1 e p.2.1) _⟩) fun e1 => ?_
  refine isVal_c fun b2 hb2 => ?_
  simp only [walk, lists, acts, mem, plain, seqs, maps, cells, resL, resV, intBin, ↓reduceIte, Nat.reduceAdd, Nat.reduceSub, Nat.reduceMul, Nat.reduceLeDiff, Nat.reduceEqDiff, Int.reduceToNat, Int.reduceEq, Int.reduceLT, Int.reduceLE, Int.reduceNeg, Int.reduceAdd, Int.reduceSub, Int.reduceMul, Nat.reducePow, Int.reduceNegSucc, wStatement]
  refine ite_f (fun e => ⟨h, s1, k2 (fun p => not_b hb2 e p.2.2.1) _⟩) fun e2 => ?_
  have key := hb1.1 e1
  have val := hb2.1 e2
  have bad : ¬ (1 ≤ x.do_ ∧ x.do_ ≤ 4) → ¬ stP x := fun c p => c p.1
  refine ite_pos (fun c1 => ?_) fun c1 => ?_
  · refine vc_draw _ (Sub.refl _) ?_
    simp only [walk, lists, acts, mem, plain, seqs, maps, cells, resL, resV, intBin, ↓reduceIte, Nat.reduceAdd, Nat.reduceSub, Nat.reduceMul, Nat.reduceLeDiff, Nat.reduceEqDiff, Int.reduceToNat, Int.reduceEq, Int.reduceLT, Int.reduceLE, Int.reduceNeg, Int.reduceAdd, Int.reduceSub, Int.reduceMul, Nat.reducePow, Int.reduceNegSucc, wStatement]
    by_cases c0 : x.num = 0
    · have sv : stepV x = .iface 139 (.agg #[.int .i64 x.key]) := by unfold stepV; rw [if_pos c1]
      rw [decide_eq_true c0]
      have := k1 ⟨by unfold inP; omega, key, val, fun _ => c0⟩
      rw [sv] at this
      exact ⟨h, s1, this⟩
    · rw [decide_eq_false c0]
      exact ⟨h, s1, k2 (fun p => c0 (p.2.2.2 c1)) _⟩
  refine ite_pos (fun c2 => ?_) fun c2 => ?_
  · have sv : stepV x = .iface 141 (.agg #[.int .i64 x.key, .int .i64 x.num]) := by unfold stepV; rw [if_neg c1, if_pos c2]
    have := k1 ⟨by unfold inP; omega, key, val, fun e => absurd e c1⟩
    rw [sv] at this
    exact ⟨h, s1, this⟩
  refine ite_pos (fun c3 => ?_) fun c3 => ?_
  · have sv : stepV x = .iface 142 (.agg #[.int .i64 x.key, .int .i64 x.num]) := by unfold stepV; rw [if_neg c1, if_neg c2, if_pos c3]
    have := k1 ⟨by unfold inP; omega, key, val, fun e => absurd e c1⟩
    rw [sv] at this
    exact ⟨h, s1, this⟩
  refine ite_pos (fun c4 => ?_) fun c4 => ?_
  · have sv : stepV x = .iface 143 (.agg #[.int .i64 x.key, .int .i64 x.num]) := by unfold stepV; rw [if_neg c1, if_neg c2, if_neg c3]
    have := k1 ⟨by unfold inP; omega, key, val, fun e => absurd e c1⟩
    rw [sv] at this
    exact ⟨h, s1, this⟩
  · exact ⟨h, s1, k2 (bad (by omega)) _⟩

theorem stepsOf_c {h : H} {v : Value} {l : List DStatement} (r : rLs h cStatement 3 v l) (hl : l.length ≤ 1099511627776) {R : Ending → H → Prop} (k1 : dealP l → ∀ v' g, oLs 81 eStep 1 v' l g → Dj g h → R (.returned (.tuple #[v', .bool true])) (g ++ h)) (k2 : ¬ dealP l → R (.returned (.tuple #[.slice none 0 0, .bool false])) h) :
    HCalls Tryz.prog 48 #[v] h R := by
  refine HCalls_ir (args := [v]) Tryz.func48 ir48 ?_
  have zs := zStatement_eq
  simp only [walk, lists, acts, mem, plain, seqs, maps, cells, resL, resV, intBin, ↓reduceIte, Nat.reduceAdd, Nat.reduceSub, Nat.reduceMul, Nat.reduceLeDiff, Nat.reduceEqDiff, Int.reduceToNat, Int.reduceEq, Int.reduceLT, Int.reduceLE, Int.reduceNeg, Int.reduceAdd, Int.reduceSub, Int.reduceMul, Nat.reducePow, Int.reduceNegSucc, r.len, zs]
  refine within_c fun b1 hb1 => ?_
  simp only [walk, lists, acts, mem, plain, seqs, maps, cells, resL, resV, intBin, ↓reduceIte, Nat.reduceAdd, Nat.reduceSub, Nat.reduceMul, Nat.reduceLeDiff, Nat.reduceEqDiff, Int.reduceToNat, Int.reduceEq, Int.reduceLT, Int.reduceLE, Int.reduceNeg, Int.reduceAdd, Int.reduceSub, Int.reduceMul, Nat.reducePow, Int.reduceNegSucc, r.len, zs]
  refine ite_f (fun e => .of (k2 fun p => not_b hb1 e (by have := p.1; have := p.2.1; unfold inP; omega))) fun e1 => ?_
  have hlen := hb1.1 e1
  unfold inP at hlen
  refine ⟨⟨by omega, by omega, by omega⟩, newB_intro fun js hjs => ?_⟩
  have o0 : oLs 81 eStep 1 (.slice (some ⟨js, 0, none⟩) 0 l.length) [] [(js, blk (zrep [.nilIface] l.length) 81)] :=
    ⟨rfl, .inr ⟨js, l.length, zrep [.nilIface] l.length, rfl, Nat.zero_le _, by simp [zrep, fl_nil], rfl⟩⟩
  have ss := Sub.cons (o := blk (zrep [.nilIface] l.length) 81) hjs (Sub.refl h)
  simp only [walk, lists, acts, mem, plain, seqs, maps, cells, resL, resV, intBin, ↓reduceIte, Nat.reduceAdd, Nat.reduceSub, Nat.reduceMul, Nat.reduceLeDiff, Nat.reduceEqDiff, Int.reduceToNat, Int.reduceEq, Int.reduceLT, Int.reduceLE, Int.reduceNeg, Int.reduceAdd, Int.reduceSub, Int.reduceMul, Nat.reducePow, Int.reduceNegSucc, r.len, zs]
  refine vc_loop [18, 4] (fun n vs h' => ∃ (i : Nat) (v' : Value) (G : H), vs = [.int .i64 i, v'] ∧ h' = G ++ h ∧ Dj G h ∧ oLs 81 eStep 1 v' (l.take i) G ∧ allP stP (l.take i) ∧ i ≤ l.length ∧ n = l.length - i) l.length rfl
    ⟨0, _, _, rfl, rfl, by simp only [subs, hjs], o0, allP_zero _ _, by omega, rfl⟩ ?_
  rintro n f h' ⟨i, v', G, hv, rfl, dG, oG, ht, hi, rfl⟩
  simp only [List.map_cons, List.map_nil, List.cons.injEq, and_true] at hv
  have sG := Sub.right dG
  simp only [walk, lists, acts, mem, plain, seqs, maps, cells, resL, resV, intBin, ↓reduceIte, Nat.reduceAdd, Nat.reduceSub, Nat.reduceMul, Nat.reduceLeDiff, Nat.reduceEqDiff, Int.reduceToNat, Int.reduceEq, Int.reduceLT, Int.reduceLE, Int.reduceNeg, Int.reduceAdd, Int.reduceSub, Int.reduceMul, Nat.reducePow, Int.reduceNegSucc, wr, hv.1, hv.2, zs]
  refine ite_lt (fun c2 => ?_) fun c2 => ?_
  · have hi2 : i < l.length := by omega
    refine idx_leaf (i := i) cStatement_len (r.sub sG) rfl hi2 fun b1 o1 e1 => ?_
    simp only [walk, lists, acts, mem, plain, seqs, maps, cells, resL, resV, intBin, ↓reduceIte, Nat.reduceAdd, Nat.reduceSub, Nat.reduceMul, Nat.reduceLeDiff, Nat.reduceEqDiff, Int.reduceToNat, Int.reduceEq, Int.reduceLT, Int.reduceLE, Int.reduceNeg, Int.reduceAdd, Int.reduceSub, Int.reduceMul, Nat.reducePow, Int.reduceNegSucc, e1, zs, wStatement]
    refine newB_intro fun j6 hj6 => ?_
    have n6 := hj6
    simp only [subs] at n6
    have s6 := Sub.cons (o := blk (cStatement l[i]) 40) hj6 (Sub.refl (G ++ h))
    simp only [walk, lists, acts, mem, plain, seqs, maps, cells, resL, resV, intBin, ↓reduceIte, Nat.reduceAdd, Nat.reduceSub, Nat.reduceMul, Nat.reduceLeDiff, Nat.reduceEqDiff, Int.reduceToNat, Int.reduceEq, Int.reduceLT, Int.reduceLE, Int.reduceNeg, Int.reduceAdd, Int.reduceSub, Int.reduceMul, Nat.reducePow, Int.reduceNegSucc, zs, wStatement]
    refine stepOf_c (fun p => ?_) fun p v2 => ?_
    · simp only [walk, lists, acts, mem, plain, seqs, maps, cells, resL, resV, intBin, ↓reduceIte, Nat.reduceAdd, Nat.reduceSub, Nat.reduceMul, Nat.reduceLeDiff, Nat.reduceEqDiff, Int.reduceToNat, Int.reduceEq, Int.reduceLT, Int.reduceLE, Int.reduceNeg, Int.reduceAdd, Int.reduceSub, Int.reduceMul, Nat.reducePow, Int.reduceNegSucc, zs, wStatement, stepV_one, stepV_cells]
      refine newB_intro (o := blk (fl eStep [l[i]]) 81) fun j7 hj7 => ?_
      simp only [walk, lists, acts, mem, plain, seqs, maps, cells, resL, resV, intBin, ↓reduceIte, Nat.reduceAdd, Nat.reduceSub, Nat.reduceMul, Nat.reduceLeDiff, Nat.reduceEqDiff, Int.reduceToNat, Int.reduceEq, Int.reduceLT, Int.reduceLE, Int.reduceNeg, Int.reduceAdd, Int.reduceSub, Int.reduceMul, Nat.reducePow, Int.reduceNegSucc, zs, wStatement]
      refine app_leaf (g := G) (h := h) eStep_len eStep_one tSteps iStep (s6.trans (Sub.cons hj7 (Sub.refl _))) dG oG (rL_lit (e := 81) eStep_len [l[i]]) (by rw [List.length_take]; simp; omega) (by rw [List.length_take]; simp; omega) fun v3 g3 o3 d3 => ?_
      simp (disch := omega) only [walk, lists, acts, mem, plain, seqs, maps, cells, resL, resV, intBin, ↓reduceIte, Nat.reduceAdd, Nat.reduceSub, Nat.reduceMul, Nat.reduceLeDiff, Nat.reduceEqDiff, Int.reduceToNat, Int.reduceEq, Int.reduceLT, Int.reduceLE, Int.reduceNeg, Int.reduceAdd, Int.reduceSub, Int.reduceMul, Nat.reducePow, Int.reduceNegSucc, wrapI]
      refine ⟨l.length - (i + 1), by omega, _, .refl _, i + 1, v3, g3, by simp, rfl, d3, ?_, allP_more hi2 ht p, by omega, rfl⟩
      rw [List.take_succ_eq_append_getElem hi2]; exact o3
    · simp only [walk, lists, acts, mem, plain, seqs, maps, cells, resL, resV, intBin, ↓reduceIte, Nat.reduceAdd, Nat.reduceSub, Nat.reduceMul, Nat.reduceLeDiff, Nat.reduceEqDiff, Int.reduceToNat, Int.reduceEq, Int.reduceLT, Int.reduceLE, Int.reduceNeg, Int.reduceAdd, Int.reduceSub, Int.reduceMul, Nat.reducePow, Int.reduceNegSucc, zs, wStatement]
      exact ⟨h, sG.trans s6, k2 fun q => p (q.2.2 _ (List.getElem_mem hi2))⟩
  · have hi2 : i = l.length := by omega
    subst hi2
    rw [List.take_length] at ht oG
    exact .of (k1 ⟨by omega, by omega, ht⟩ v' G oG dG)

theorem implOk_c {h : H} {v : Value} {l : List DStatement} (r : rLs h cStatement 3 v l) (hl : l.length ≤ 1099511627776) {R : Ending → H → Prop} (k : Asks R (dealP l) h) : HCalls Tryz.prog 31 #[v] h R := by
  refine HCalls_ir (args := [v]) Tryz.func31 ir31 ?_
  simp only [walk, lists, acts, mem, plain, seqs, maps, cells, resL, resV, intBin, ↓reduceIte, Nat.reduceAdd, Nat.reduceSub, Nat.reduceMul, Nat.reduceLeDiff, Nat.reduceEqDiff, Int.reduceToNat, Int.reduceEq, Int.reduceLT, Int.reduceLE, Int.reduceNeg, Int.reduceAdd, Int.reduceSub, Int.reduceMul, Nat.reducePow, Int.reduceNegSucc]
  refine stepsOf_c r hl (fun p v' g o d => ?_) fun p => ?_
  · simp only [walk, lists, acts, mem, plain, seqs, maps, cells, resL, resV, intBin, ↓reduceIte, Nat.reduceAdd, Nat.reduceSub, Nat.reduceMul, Nat.reduceLeDiff, Nat.reduceEqDiff, Int.reduceToNat, Int.reduceEq, Int.reduceLT, Int.reduceLE, Int.reduceNeg, Int.reduceAdd, Int.reduceSub, Int.reduceMul, Nat.reducePow, Int.reduceNegSucc]
    exact ⟨h, Sub.right d, k.yes p⟩
  · simp only [walk, lists, acts, mem, plain, seqs, maps, cells, resL, resV, intBin, ↓reduceIte, Nat.reduceAdd, Nat.reduceSub, Nat.reduceMul, Nat.reduceLeDiff, Nat.reduceEqDiff, Int.reduceToNat, Int.reduceEq, Int.reduceLT, Int.reduceLE, Int.reduceNeg, Int.reduceAdd, Int.reduceSub, Int.reduceMul, Nat.reducePow, Int.reduceNegSucc]
    exact .of (k.no p)

theorem numText_c {h : H} {nm : List UInt8} {a b : Int} (gl : Gl h) (hn : nm.length ≤ 100) (ha : i64P a) (hb : i64P b) {R : Ending → H → Prop} (k : R (.returned (.string ⟨(nm ++ 32 :: (decI a ++ 32 :: (decI b ++ [59]))).toArray⟩)) h) :
    HCalls Tryz.prog 144 #[.string ⟨nm.toArray⟩, .int .i64 a, .int .i64 b] h R := by
  refine HCalls_ir (args := [.string ⟨nm.toArray⟩, .int .i64 a, .int .i64 b]) Tryz.func144 ir144 ?_
  have la := decI_len' ha
  have lb := decI_len' hb
  simp (disch := (first | assumption | (simp only [List.length_append, List.length_cons, List.length_nil]; omega) | omega)) only [walk, lists, acts, mem, plain, seqs, maps, cells, resL, resV, intBin, ↓reduceIte, Nat.reduceAdd, Nat.reduceSub, Nat.reduceMul, Nat.reduceLeDiff, Nat.reduceEqDiff, Int.reduceToNat, Int.reduceEq, Int.reduceLT, Int.reduceLE, Int.reduceNeg, Int.reduceAdd, Int.reduceSub, Int.reduceMul, Nat.reducePow, Int.reduceNegSucc, str, str_add]
  refine itoa_c gl ha ?_
  simp (disch := (first | assumption | (simp only [List.length_append, List.length_cons, List.length_nil]; omega) | omega)) only [walk, lists, acts, mem, plain, seqs, maps, cells, resL, resV, intBin, ↓reduceIte, Nat.reduceAdd, Nat.reduceSub, Nat.reduceMul, Nat.reduceLeDiff, Nat.reduceEqDiff, Int.reduceToNat, Int.reduceEq, Int.reduceLT, Int.reduceLE, Int.reduceNeg, Int.reduceAdd, Int.reduceSub, Int.reduceMul, Nat.reducePow, Int.reduceNegSucc, str, str_add]
  refine itoa_c gl hb ?_
  simp (disch := (first | assumption | (simp only [List.length_append, List.length_cons, List.length_nil]; omega) | omega)) only [walk, lists, acts, mem, plain, seqs, maps, cells, resL, resV, intBin, ↓reduceIte, Nat.reduceAdd, Nat.reduceSub, Nat.reduceMul, Nat.reduceLeDiff, Nat.reduceEqDiff, Int.reduceToNat, Int.reduceEq, Int.reduceLT, Int.reduceLE, Int.reduceNeg, Int.reduceAdd, Int.reduceSub, Int.reduceMul, Nat.reducePow, Int.reduceNegSucc, str, str_add]
  refine .of ?_
  have e : nm ++ [32] ++ decI a ++ [32] ++ decI b ++ [59] = nm ++ 32 :: (decI a ++ 32 :: (decI b ++ [59])) := by simp
  rw [e]; exact k
end Go.Proofs.YtfkkjjballajaaaGreatDoor
end

/- How the program writes a deal. -/
section
set_option linter.unusedVariables false
set_option linter.unusedSimpArgs false
set_option maxRecDepth 20000
attribute [local irreducible] Go.Tk.vc Go.Tk.vops Go.Tk.vdr Go.Tk.vop Go.Tk.vfl Go.Tk.HCalls
namespace Go.Proofs.YtfkkjjballajaaaGreatDoor
open Go Go.Tk

theorem get_text_c {h : H} {a : Int} (gl : Gl h) (ha : i64P a) {R : Ending → H → Prop} (k : R (.returned (.string ⟨([103, 101, 116, 32] ++ decI a ++ [59]).toArray⟩)) h) :
    HCalls Tryz.prog 142 #[.agg #[.int .i64 a]] h R := by
  refine HCalls_ir (args := [.agg [.int .i64 a].toArray]) Tryz.func142 ir142 ?_
  have la := decI_len' ha
  simp only [walk, lists, acts, mem, plain, seqs, maps, cells, resL, resV, intBin, ↓reduceIte, Nat.reduceAdd, Nat.reduceSub, Nat.reduceMul, Nat.reduceLeDiff, Nat.reduceEqDiff, Int.reduceToNat, Int.reduceEq, Int.reduceLT, Int.reduceLE, Int.reduceNeg, Int.reduceAdd, Int.reduceSub, Int.reduceMul, Nat.reducePow, Int.reduceNegSucc, str]
  refine newB_intro fun j hj => ?_
  have sj := fun o => Sub.cons (o := o) hj (Sub.refl h)
  simp only [walk, lists, acts, mem, plain, seqs, maps, cells, resL, resV, intBin, ↓reduceIte, Nat.reduceAdd, Nat.reduceSub, Nat.reduceMul, Nat.reduceLeDiff, Nat.reduceEqDiff, Int.reduceToNat, Int.reduceEq, Int.reduceLT, Int.reduceLE, Int.reduceNeg, Int.reduceAdd, Int.reduceSub, Int.reduceMul, Nat.reducePow, Int.reduceNegSucc, str]
  refine itoa_c (gl.sub (sj _)) ha ?_
  simp (disch := (first | assumption | (simp only [List.length_append, List.length_cons, List.length_nil]; omega) | omega)) only [walk, lists, acts, mem, plain, seqs, maps, cells, resL, resV, intBin, ↓reduceIte, Nat.reduceAdd, Nat.reduceSub, Nat.reduceMul, Nat.reduceLeDiff, Nat.reduceEqDiff, Int.reduceToNat, Int.reduceEq, Int.reduceLT, Int.reduceLE, Int.reduceNeg, Int.reduceAdd, Int.reduceSub, Int.reduceMul, Nat.reducePow, Int.reduceNegSucc, str, str_add]
  exact ⟨h, sj _, k⟩
theorem putStep_text_c {h : H} {a b : Int} (gl : Gl h) (ha : i64P a) (hb : i64P b) {R : Ending → H → Prop} (k : R (.returned (.string ⟨([112, 117, 116] ++ 32 :: (decI a ++ 32 :: (decI b ++ [59]))).toArray⟩)) h) :
    HCalls Tryz.prog 143 #[.agg #[.int .i64 a, .int .i64 b]] h R := by
  refine HCalls_ir (args := [.agg [.int .i64 a, .int .i64 b].toArray]) Tryz.func143 ir143 ?_
  simp only [walk, lists, acts, mem, plain, seqs, maps, cells, resL, resV, intBin, ↓reduceIte, Nat.reduceAdd, Nat.reduceSub, Nat.reduceMul, Nat.reduceLeDiff, Nat.reduceEqDiff, Int.reduceToNat, Int.reduceEq, Int.reduceLT, Int.reduceLE, Int.reduceNeg, Int.reduceAdd, Int.reduceSub, Int.reduceMul, Nat.reducePow, Int.reduceNegSucc, str]
  refine newB_intro fun j hj => ?_
  have sj := fun o => Sub.cons (o := o) hj (Sub.refl h)
  simp only [walk, lists, acts, mem, plain, seqs, maps, cells, resL, resV, intBin, ↓reduceIte, Nat.reduceAdd, Nat.reduceSub, Nat.reduceMul, Nat.reduceLeDiff, Nat.reduceEqDiff, Int.reduceToNat, Int.reduceEq, Int.reduceLT, Int.reduceLE, Int.reduceNeg, Int.reduceAdd, Int.reduceSub, Int.reduceMul, Nat.reducePow, Int.reduceNegSucc, str]
  refine numText_c (gl.sub (sj _)) (by decide) ha hb ?_
  simp only [walk, lists, acts, mem, plain, seqs, maps, cells, resL, resV, intBin, ↓reduceIte, Nat.reduceAdd, Nat.reduceSub, Nat.reduceMul, Nat.reduceLeDiff, Nat.reduceEqDiff, Int.reduceToNat, Int.reduceEq, Int.reduceLT, Int.reduceLE, Int.reduceNeg, Int.reduceAdd, Int.reduceSub, Int.reduceMul, Nat.reducePow, Int.reduceNegSucc, str]
  exact ⟨h, sj _, k⟩
theorem addStep_text_c {h : H} {a b : Int} (gl : Gl h) (ha : i64P a) (hb : i64P b) {R : Ending → H → Prop} (k : R (.returned (.string ⟨([97, 100, 100] ++ 32 :: (decI a ++ 32 :: (decI b ++ [59]))).toArray⟩)) h) :
    HCalls Tryz.prog 145 #[.agg #[.int .i64 a, .int .i64 b]] h R := by
  refine HCalls_ir (args := [.agg [.int .i64 a, .int .i64 b].toArray]) Tryz.func145 ir145 ?_
  simp only [walk, lists, acts, mem, plain, seqs, maps, cells, resL, resV, intBin, ↓reduceIte, Nat.reduceAdd, Nat.reduceSub, Nat.reduceMul, Nat.reduceLeDiff, Nat.reduceEqDiff, Int.reduceToNat, Int.reduceEq, Int.reduceLT, Int.reduceLE, Int.reduceNeg, Int.reduceAdd, Int.reduceSub, Int.reduceMul, Nat.reducePow, Int.reduceNegSucc, str]
  refine newB_intro fun j hj => ?_
  have sj := fun o => Sub.cons (o := o) hj (Sub.refl h)
  simp only [walk, lists, acts, mem, plain, seqs, maps, cells, resL, resV, intBin, ↓reduceIte, Nat.reduceAdd, Nat.reduceSub, Nat.reduceMul, Nat.reduceLeDiff, Nat.reduceEqDiff, Int.reduceToNat, Int.reduceEq, Int.reduceLT, Int.reduceLE, Int.reduceNeg, Int.reduceAdd, Int.reduceSub, Int.reduceMul, Nat.reducePow, Int.reduceNegSucc, str]
  refine numText_c (gl.sub (sj _)) (by decide) ha hb ?_
  simp only [walk, lists, acts, mem, plain, seqs, maps, cells, resL, resV, intBin, ↓reduceIte, Nat.reduceAdd, Nat.reduceSub, Nat.reduceMul, Nat.reduceLeDiff, Nat.reduceEqDiff, Int.reduceToNat, Int.reduceEq, Int.reduceLT, Int.reduceLE, Int.reduceNeg, Int.reduceAdd, Int.reduceSub, Int.reduceMul, Nat.reducePow, Int.reduceNegSucc, str]
  exact ⟨h, sj _, k⟩
theorem needStep_text_c {h : H} {a b : Int} (gl : Gl h) (ha : i64P a) (hb : i64P b) {R : Ending → H → Prop} (k : R (.returned (.string ⟨([110, 101, 101, 100] ++ 32 :: (decI a ++ 32 :: (decI b ++ [59]))).toArray⟩)) h) :
    HCalls Tryz.prog 146 #[.agg #[.int .i64 a, .int .i64 b]] h R := by
  refine HCalls_ir (args := [.agg [.int .i64 a, .int .i64 b].toArray]) Tryz.func146 ir146 ?_
  simp only [walk, lists, acts, mem, plain, seqs, maps, cells, resL, resV, intBin, ↓reduceIte, Nat.reduceAdd, Nat.reduceSub, Nat.reduceMul, Nat.reduceLeDiff, Nat.reduceEqDiff, Int.reduceToNat, Int.reduceEq, Int.reduceLT, Int.reduceLE, Int.reduceNeg, Int.reduceAdd, Int.reduceSub, Int.reduceMul, Nat.reducePow, Int.reduceNegSucc, str]
  refine newB_intro fun j hj => ?_
  have sj := fun o => Sub.cons (o := o) hj (Sub.refl h)
  simp only [walk, lists, acts, mem, plain, seqs, maps, cells, resL, resV, intBin, ↓reduceIte, Nat.reduceAdd, Nat.reduceSub, Nat.reduceMul, Nat.reduceLeDiff, Nat.reduceEqDiff, Int.reduceToNat, Int.reduceEq, Int.reduceLT, Int.reduceLE, Int.reduceNeg, Int.reduceAdd, Int.reduceSub, Int.reduceMul, Nat.reducePow, Int.reduceNegSucc, str]
  refine numText_c (gl.sub (sj _)) (by decide) ha hb ?_
  simp only [walk, lists, acts, mem, plain, seqs, maps, cells, resL, resV, intBin, ↓reduceIte, Nat.reduceAdd, Nat.reduceSub, Nat.reduceMul, Nat.reduceLeDiff, Nat.reduceEqDiff, Int.reduceToNat, Int.reduceEq, Int.reduceLT, Int.reduceLE, Int.reduceNeg, Int.reduceAdd, Int.reduceSub, Int.reduceMul, Nat.reducePow, Int.reduceNegSucc, str]
  exact ⟨h, sj _, k⟩
theorem step_text_c {h : H} {s : DStatement} (gl : Gl h) (hp : stP s) {R : Ending → H → Prop} (k : R (.returned (.string ⟨(stText s).toArray⟩)) h) : invK Tryz.prog (stepV s) "loop.example/turnpike/impl.text" [] h R := by
  obtain ⟨hd, hk, hv, _⟩ := hp
  unfold inP at hd
  have ik : i64P s.key := by unfold inP at hk; unfold i64P; omega
  have iv : i64P s.num := by unfold valP inP at hv; unfold i64P; omega
  rw [stText_W] at k
  unfold stW nmD at k
  unfold stepV
  split
  · rename_i c
    rw [if_pos c, if_pos c] at k
    refine ⟨142, .agg #[.int .i64 s.key], by kernel_rfl, by kernel_rfl, get_text_c gl ik ?_⟩
    simpa using k
  · rename_i c
    rw [if_neg c, if_neg c] at k
    split
    · rename_i c2
      rw [if_pos c2] at k
      refine ⟨143, .agg #[.int .i64 s.key, .int .i64 s.num], by kernel_rfl, by kernel_rfl, putStep_text_c gl ik iv ?_⟩
      simpa using k
    · rename_i c2
      rw [if_neg c2] at k
      split
      · rename_i c3
        rw [if_pos c3] at k
        refine ⟨145, .agg #[.int .i64 s.key, .int .i64 s.num], by kernel_rfl, by kernel_rfl, addStep_text_c gl ik iv ?_⟩
        simpa using k
      · rename_i c3
        rw [if_neg c3] at k
        refine ⟨146, .agg #[.int .i64 s.key, .int .i64 s.num], by kernel_rfl, by kernel_rfl, needStep_text_c gl ik iv ?_⟩
        simpa using k

theorem implDealWrite_c {h : H} {v : Value} {l : List DStatement} (gl : Gl h) (r : rLs h cStatement 3 v l) (hl : l.length ≤ 1099511627776) {R : Ending → H → Prop} (k : ∀ t, dealT l t → R (.returned (.string ⟨t.toArray⟩)) h) :
    HCalls Tryz.prog 32 #[v] h R := by
  refine HCalls_ir (args := [v]) Tryz.func32 ir32 ?_
  simp only [walk, lists, acts, mem, plain, seqs, maps, cells, resL, resV, intBin, ↓reduceIte, Nat.reduceAdd, Nat.reduceSub, Nat.reduceMul, Nat.reduceLeDiff, Nat.reduceEqDiff, Int.reduceToNat, Int.reduceEq, Int.reduceLT, Int.reduceLE, Int.reduceNeg, Int.reduceAdd, Int.reduceSub, Int.reduceMul, Nat.reducePow, Int.reduceNegSucc, str]
  refine stepsOf_c r hl (fun p v' g o d => ?_) fun p => ?_
  · have sg := Sub.right d
    simp only [walk, lists, acts, mem, plain, seqs, maps, cells, resL, resV, intBin, ↓reduceIte, Nat.reduceAdd, Nat.reduceSub, Nat.reduceMul, Nat.reduceLeDiff, Nat.reduceEqDiff, Int.reduceToNat, Int.reduceEq, Int.reduceLT, Int.reduceLE, Int.reduceNeg, Int.reduceAdd, Int.reduceSub, Int.reduceMul, Nat.reducePow, Int.reduceNegSucc, str]
    refine newB_intro fun jb hjb => ?_
    have nb := hjb
    simp only [subs] at nb
    simp only [walk, lists, acts, mem, plain, seqs, maps, cells, resL, resV, intBin, ↓reduceIte, Nat.reduceAdd, Nat.reduceSub, Nat.reduceMul, Nat.reduceLeDiff, Nat.reduceEqDiff, Int.reduceToNat, Int.reduceEq, Int.reduceLT, Int.reduceLE, Int.reduceNeg, Int.reduceAdd, Int.reduceSub, Int.reduceMul, Nat.reducePow, Int.reduceNegSucc, str, o.rd.len]
    obtain ⟨B, hB⟩ : ∃ B, B = g ++ h := ⟨_, rfl⟩
    rw [← hB] at sg
    have rB : rLs B eStep 1 v' l := o.rd.sub (by rw [hB]; exact Sub.left _ _)
    rw [← hB] at hjb ⊢
    have hlt := fun i => dealText_len (l := l.take i) fun x hx => p.2.2 x (List.mem_of_mem_take hx)
    refine vc_loop [17] (fun n vs h' => ∃ (i : Nat) (G : H), vs = [.int .i64 i] ∧ h' = G ++ B ∧ oB jb (dealText (l.take i)) G ∧ Dj G B ∧ i ≤ l.length ∧ n = l.length - i) l.length rfl
      ⟨0, _, rfl, rfl, oB_new, by simp only [subs, hjb], by omega, rfl⟩ ?_
    rintro n f h' ⟨i, G, hv, rfl, oG, dG, hi, rfl⟩
    simp only [List.map_cons, List.map_nil, List.cons.injEq, and_true] at hv
    have sG := Sub.right dG
    simp only [walk, lists, acts, mem, plain, seqs, maps, cells, resL, resV, intBin, ↓reduceIte, Nat.reduceAdd, Nat.reduceSub, Nat.reduceMul, Nat.reduceLeDiff, Nat.reduceEqDiff, Int.reduceToNat, Int.reduceEq, Int.reduceLT, Int.reduceLE, Int.reduceNeg, Int.reduceAdd, Int.reduceSub, Int.reduceMul, Nat.reducePow, Int.reduceNegSucc, wr, hv, str]
    refine ite_lt (fun c2 => ?_) fun c2 => ?_
    · have hi2 : i < l.length := by omega
      refine idx_leaf (i := i) eStep_len (rB.sub sG) rfl hi2 fun b1 o1 e1 => ?_
      have e1' : hread (G ++ B) b1 o1 1 = some [stepV l[i]] := e1
      have st := p.2.2 _ (List.getElem_mem hi2)
      have h60 := stText_len st
      have hli := hlt i
      rw [List.length_take] at hli
      have h6 := p.2.1
      simp only [walk, lists, acts, mem, plain, seqs, maps, cells, resL, resV, intBin, ↓reduceIte, Nat.reduceAdd, Nat.reduceSub, Nat.reduceMul, Nat.reduceLeDiff, Nat.reduceEqDiff, Int.reduceToNat, Int.reduceEq, Int.reduceLT, Int.reduceLE, Int.reduceNeg, Int.reduceAdd, Int.reduceSub, Int.reduceMul, Nat.reducePow, Int.reduceNegSucc, hread_1 e1', str]
      refine step_text_c (gl.sub (sg.trans sG)) st ?_
      simp only [walk, lists, acts, mem, plain, seqs, maps, cells, resL, resV, intBin, ↓reduceIte, Nat.reduceAdd, Nat.reduceSub, Nat.reduceMul, Nat.reduceLeDiff, Nat.reduceEqDiff, Int.reduceToNat, Int.reduceEq, Int.reduceLT, Int.reduceLE, Int.reduceNeg, Int.reduceAdd, Int.reduceSub, Int.reduceMul, Nat.reducePow, Int.reduceNegSucc, str]
      refine bws_c oG dG (by omega) fun G2 o2 d2 => ?_
      simp (disch := omega) only [walk, lists, acts, mem, plain, seqs, maps, cells, resL, resV, intBin, ↓reduceIte, Nat.reduceAdd, Nat.reduceSub, Nat.reduceMul, Nat.reduceLeDiff, Nat.reduceEqDiff, Int.reduceToNat, Int.reduceEq, Int.reduceLT, Int.reduceLE, Int.reduceNeg, Int.reduceAdd, Int.reduceSub, Int.reduceMul, Nat.reducePow, Int.reduceNegSucc, wrapI]
      refine ⟨l.length - (i + 1), by omega, _, .refl _, i + 1, G2, by simp, rfl, ?_, d2, by omega, rfl⟩
      rw [List.take_succ_eq_append_getElem hi2, dealText_app, dealText_one]; exact o2
    · have hi2 : i = l.length := by omega
      subst hi2
      have hli := hlt l.length
      rw [List.take_length] at oG hli
      have h6 := p.2.1
      refine bstr_c oG dG (by omega) ?_
      simp only [walk, lists, acts, mem, plain, seqs, maps, cells, resL, resV, intBin, ↓reduceIte, Nat.reduceAdd, Nat.reduceSub, Nat.reduceMul, Nat.reduceLeDiff, Nat.reduceEqDiff, Int.reduceToNat, Int.reduceEq, Int.reduceLT, Int.reduceLE, Int.reduceNeg, Int.reduceAdd, Int.reduceSub, Int.reduceMul, Nat.reducePow, Int.reduceNegSucc]
      exact ⟨h, sg, k _ (.inl ⟨p, rfl⟩)⟩
  · simp only [walk, lists, acts, mem, plain, seqs, maps, cells, resL, resV, intBin, ↓reduceIte, Nat.reduceAdd, Nat.reduceSub, Nat.reduceMul, Nat.reduceLeDiff, Nat.reduceEqDiff, Int.reduceToNat, Int.reduceEq, Int.reduceLT, Int.reduceLE, Int.reduceNeg, Int.reduceAdd, Int.reduceSub, Int.reduceMul, Nat.reducePow, Int.reduceNegSucc, str]
    exact .of (k _ (.inr ⟨p, rfl⟩))
end Go.Proofs.YtfkkjjballajaaaGreatDoor
end

/- How the program reads a deal. -/
section
set_option linter.unusedVariables false
set_option linter.unusedSimpArgs false
set_option maxRecDepth 20000
attribute [local irreducible] Go.Tk.vc Go.Tk.vops Go.Tk.vdr Go.Tk.vop Go.Tk.vfl Go.Tk.HCalls
namespace Go.Proofs.YtfkkjjballajaaaGreatDoor
open Go Go.Tk

theorem implRead_c {h : H} {s : List UInt8} (gl : Gl h) (gm : MxL h) (hs : s.length ≤ 4194304) {R : Ending → H → Prop} (k : ∀ v g l ok, OutD s l ok → oLs 40 cStatement 3 v l g → Dj g h → R (.returned (.tuple #[v, .bool ok])) (g ++ h)) :
    HCalls Tryz.prog 16 #[.string ⟨s.toArray⟩] h R := by
  refine HCalls_ir (args := [.string ⟨s.toArray⟩]) Tryz.func16 ir16 ?_
  have zs := zStatement_eq
  have bad : ∀ {M : H}, Tk.Sub h M → (∀ d, dealP d → s = dealText d → s.length ≤ 80 → False) → dP R (.returned (.tuple #[.slice none 0 0, .bool false])) M := fun {M} sM e => ⟨h, sM, k _ [] [] false (.inr ⟨rfl, rfl, e⟩) (ows.nil _ _) (Dj.nil _)⟩
  simp only [walk, lists, acts, mem, plain, seqs, maps, cells, resL, resV, intBin, ↓reduceIte, Nat.reduceAdd, Nat.reduceSub, Nat.reduceMul, Nat.reduceLeDiff, Nat.reduceEqDiff, Int.reduceToNat, Int.reduceEq, Int.reduceLT, Int.reduceLE, Int.reduceNeg, Int.reduceAdd, Int.reduceSub, Int.reduceMul, Nat.reducePow, Int.reduceNegSucc, str, zs]
  refine ite_lt (fun c => bad (.refl _) fun d _ _ h => by omega) fun c => ?_
  refine vc_loop [5, 4] (fun n vs h' => ∃ (v : Value) (xs : List DStatement) (r : List UInt8) (G : H), vs = [.string ⟨r.toArray⟩, v] ∧ h' = G ++ h ∧ Dj G h ∧ oLs 40 cStatement 3 v xs G ∧ xs.length + r.length ≤ 80 ∧ (∀ d, dealP d → s = dealText d → ∃ i, i ≤ d.length ∧ xs = d.take i ∧ r = dealText (d.drop i)) ∧ n = r.length) s.length rfl
    ⟨_, [], s, [], rfl, rfl, Dj.nil _, ows.nil _ _, by simp; omega, fun d hd e => ⟨0, by omega, rfl, e⟩, rfl⟩ ?_
  rintro n f h' ⟨v, xs, r, G, hv, rfl, dG, oG, hlen, hin, rfl⟩
  simp only [List.map_cons, List.map_nil, List.cons.injEq, and_true] at hv
  have sG := Sub.right dG
  simp only [walk, lists, acts, mem, plain, seqs, maps, cells, resL, resV, intBin, ↓reduceIte, Nat.reduceAdd, Nat.reduceSub, Nat.reduceMul, Nat.reduceLeDiff, Nat.reduceEqDiff, Int.reduceToNat, Int.reduceEq, Int.reduceLT, Int.reduceLE, Int.reduceNeg, Int.reduceAdd, Int.reduceSub, Int.reduceMul, Nat.reducePow, Int.reduceNegSucc, wr, hv.1, hv.2, str, zs, strBin, str_inj]
  refine ite_ne (fun c2 => ?_) fun c2 => ?_
  · refine cut_c (c := 59) (by omega) fun a b fd hc => ?_
    have hab : a.length ≤ r.length ∧ b.length ≤ r.length ∧ (fd = true → b.length < r.length) := by
      obtain ⟨_, ⟨_, h2⟩ | ⟨h1, h2, h3⟩⟩ := hc
      · rw [h2]; simp; omega
      · rw [h2, h3, h1]; simp
    simp only [walk, lists, acts, mem, plain, seqs, maps, cells, resL, resV, intBin, ↓reduceIte, Nat.reduceAdd, Nat.reduceSub, Nat.reduceMul, Nat.reduceLeDiff, Nat.reduceEqDiff, Int.reduceToNat, Int.reduceEq, Int.reduceLT, Int.reduceLE, Int.reduceNeg, Int.reduceAdd, Int.reduceSub, Int.reduceMul, Nat.reducePow, Int.reduceNegSucc, str, zs]
    refine readStatement_c (gl.sub sG) (gm.sub sG) (by omega) fun x ok hx => ?_
    simp only [walk, lists, acts, mem, plain, seqs, maps, cells, resL, resV, intBin, ↓reduceIte, Nat.reduceAdd, Nat.reduceSub, Nat.reduceMul, Nat.reduceLeDiff, Nat.reduceEqDiff, Int.reduceToNat, Int.reduceEq, Int.reduceLT, Int.reduceLE, Int.reduceNeg, Int.reduceAdd, Int.reduceSub, Int.reduceMul, Nat.reducePow, Int.reduceNegSucc, str, zs, wStatement]
    refine newB_intro fun j9 hj9 => ?_
    have s9 := Sub.cons (o := blk (cStatement x) 40) hj9 (Sub.refl (G ++ h))
    have step : ∀ d, dealP d → s = dealText d → ∃ i, ∃ hi : i < d.length, xs = d.take i ∧ a = stW d[i] ∧ b = dealText (d.drop (i + 1)) ∧ fd = true := fun d hd e => by
      obtain ⟨i, hi, h1, h2⟩ := hin d hd e
      have hi2 : i < d.length := by
        rcases Nat.lt_or_ge i d.length with q | q
        · exact q
        · rw [List.drop_eq_nil_of_le q] at h2
          exact absurd h2 c2
      rw [List.drop_eq_getElem_cons hi2, dealText_cons] at h2
      obtain ⟨e1, e2, e3⟩ := hc.at h2 (stW_no59 _)
      exact ⟨i, hi2, h1, e1, e2, e3⟩
    simp only [walk, lists, acts, mem, plain, seqs, maps, cells, resL, resV, intBin, ↓reduceIte, Nat.reduceAdd, Nat.reduceSub, Nat.reduceMul, Nat.reduceLeDiff, Nat.reduceEqDiff, Int.reduceToNat, Int.reduceEq, Int.reduceLT, Int.reduceLE, Int.reduceNeg, Int.reduceAdd, Int.reduceSub, Int.reduceMul, Nat.reducePow, Int.reduceNegSucc, str, zs, wStatement]
    cases fd with
    | false =>
      simp only [walk, lists, acts, mem, plain, seqs, maps, cells, resL, resV, intBin, ↓reduceIte, Nat.reduceAdd, Nat.reduceSub, Nat.reduceMul, Nat.reduceLeDiff, Nat.reduceEqDiff, Int.reduceToNat, Int.reduceEq, Int.reduceLT, Int.reduceLE, Int.reduceNeg, Int.reduceAdd, Int.reduceSub, Int.reduceMul, Nat.reducePow, Int.reduceNegSucc, str, zs, wStatement]
      exact bad (sG.trans s9) fun d hd e _ => by
        obtain ⟨i, hi, _, _, _, q⟩ := step d hd e
        cases q
    | true =>
      cases ok with
      | false =>
        simp only [walk, lists, acts, mem, plain, seqs, maps, cells, resL, resV, intBin, ↓reduceIte, Nat.reduceAdd, Nat.reduceSub, Nat.reduceMul, Nat.reduceLeDiff, Nat.reduceEqDiff, Int.reduceToNat, Int.reduceEq, Int.reduceLT, Int.reduceLE, Int.reduceNeg, Int.reduceAdd, Int.reduceSub, Int.reduceMul, Nat.reducePow, Int.reduceNegSucc, str, zs, wStatement]
        exact bad (sG.trans s9) fun d hd e _ => by
          obtain ⟨i, hi, _, q, _, _⟩ := step d hd e
          have := (hx _ (hd.2.2 _ (List.getElem_mem hi)) q).1
          cases this
      | true =>
        simp only [walk, lists, acts, mem, plain, seqs, maps, cells, resL, resV, intBin, ↓reduceIte, Nat.reduceAdd, Nat.reduceSub, Nat.reduceMul, Nat.reduceLeDiff, Nat.reduceEqDiff, Int.reduceToNat, Int.reduceEq, Int.reduceLT, Int.reduceLE, Int.reduceNeg, Int.reduceAdd, Int.reduceSub, Int.reduceMul, Nat.reducePow, Int.reduceNegSucc, str, zs, wStatement]
        refine newB_intro (o := blk (fl cStatement [x]) 40) fun j7 hj7 => ?_
        simp only [walk, lists, acts, mem, plain, seqs, maps, cells, resL, resV, intBin, ↓reduceIte, Nat.reduceAdd, Nat.reduceSub, Nat.reduceMul, Nat.reduceLeDiff, Nat.reduceEqDiff, Int.reduceToNat, Int.reduceEq, Int.reduceLT, Int.reduceLE, Int.reduceNeg, Int.reduceAdd, Int.reduceSub, Int.reduceMul, Nat.reducePow, Int.reduceNegSucc, wStatement, str, zs]
        refine app_leaf (g := G) (h := h) cStatement_len cStatement_one tStatements iStatement (s9.trans (Sub.cons hj7 (Sub.refl _))) dG oG (rL_lit (e := 40) cStatement_len [x]) (by simp; omega) (by simp; omega) fun v2 g2 o2 d2 => ?_
        simp only [walk, lists, acts, mem, plain, seqs, maps, cells, resL, resV, intBin, ↓reduceIte, Nat.reduceAdd, Nat.reduceSub, Nat.reduceMul, Nat.reduceLeDiff, Nat.reduceEqDiff, Int.reduceToNat, Int.reduceEq, Int.reduceLT, Int.reduceLE, Int.reduceNeg, Int.reduceAdd, Int.reduceSub, Int.reduceMul, Nat.reducePow, Int.reduceNegSucc]
        refine ⟨b.length, hab.2.2 rfl, _, .refl _, v2, _, b, g2, rfl, rfl, d2, o2, by rw [List.length_append]; have := hab.2.2 rfl; simp; omega, fun d hd e => ?_, rfl⟩
        obtain ⟨i, hi, h1, h2, h3, _⟩ := step d hd e
        refine ⟨i + 1, by omega, ?_, h3⟩
        rw [List.take_succ_eq_append_getElem hi, h1, (hx _ (hd.2.2 _ (List.getElem_mem hi)) h2).2]
  · subst c2
    have fin : ∀ d, dealP d → s = dealText d → xs = d := fun d hd e => by
      obtain ⟨i, hi, h1, h2⟩ := hin d hd e
      rcases Nat.lt_or_ge i d.length with q | q
      · rw [List.drop_eq_getElem_cons q, dealText_cons] at h2
        have := congrArg List.length h2
        simp at this
      · rw [h1, List.take_of_length_le q]
    have hx80 : xs.length ≤ 80 := by omega
    refine implOk_c (oG.rd.sub (Sub.left _ _)) (by omega) fun b1 hb1 => ?_
    simp only [walk, lists, acts, mem, plain, seqs, maps, cells, resL, resV, intBin, ↓reduceIte, Nat.reduceAdd, Nat.reduceSub, Nat.reduceMul, Nat.reduceLeDiff, Nat.reduceEqDiff, Int.reduceToNat, Int.reduceEq, Int.reduceLT, Int.reduceLE, Int.reduceNeg, Int.reduceAdd, Int.reduceSub, Int.reduceMul, Nat.reducePow, Int.reduceNegSucc]
    refine ite_f (fun e => bad sG fun d hd e2 _ => not_b hb1 e (by rw [fin d hd e2]; exact hd)) fun e1 => ?_
    have hp := hb1.1 e1
    refine implDealWrite_c (gl.sub sG) (oG.rd.sub (Sub.left _ _)) (by omega) fun t ht => ?_
    simp only [walk, lists, acts, mem, plain, seqs, maps, cells, resL, resV, intBin, ↓reduceIte, Nat.reduceAdd, Nat.reduceSub, Nat.reduceMul, Nat.reduceLeDiff, Nat.reduceEqDiff, Int.reduceToNat, Int.reduceEq, Int.reduceLT, Int.reduceLE, Int.reduceNeg, Int.reduceAdd, Int.reduceSub, Int.reduceMul, Nat.reducePow, Int.reduceNegSucc, str, strBin, str_inj]
    have ht2 : t = dealText xs := by
      rcases ht with ⟨_, ht⟩ | ⟨hn, _⟩
      · exact ht
      · exact absurd hp hn
    refine ite_ne (fun c3 => bad sG fun d hd e _ => c3 (by rw [ht2, fin d hd e, e])) fun c3 => ?_
    exact .of (k v G xs true (.inl ⟨rfl, hp, by rw [← c3, ht2], by omega⟩) oG dG)
end Go.Proofs.YtfkkjjballajaaaGreatDoor
end

/- What the laws measure, copy and compare: calls. -/
section
set_option linter.unusedVariables false
set_option linter.unusedSimpArgs false
set_option maxRecDepth 20000
attribute [local irreducible] Go.Tk.vc Go.Tk.vops Go.Tk.vdr Go.Tk.vop Go.Tk.vfl Go.Tk.HCalls
namespace Go.Proofs.YtfkkjjballajaaaGreatDoor
open Go Go.Tk

theorem szCall_c {h : H} {c : DCall} {left : Int} (hl : 0 ≤ left ∧ left ≤ 1048576) (ht : c.text.length ≤ 9223372036854775807) {R : Ending → H → Prop}
    (k : ∀ n : Int, (0 ≤ n → n ≤ left ∧ (c.text.length : Int) ≤ left) → -1 ≤ n → R (.returned (.int .i64 n)) h) : HCalls Tryz.prog 5 #[.agg (cCall c).toArray, .int .i64 left] h R := by
  refine HCalls_ir (args := [.agg (cCall c).toArray, .int .i64 left]) Tryz.func5 ir5 ?_
  simp only [walk, lists, acts, mem, plain, seqs, maps, cells, resL, resV, intBin, ↓reduceIte, Nat.reduceAdd, Nat.reduceSub, Nat.reduceMul, Nat.reduceLeDiff, Nat.reduceEqDiff, Int.reduceToNat, Int.reduceEq, Int.reduceLT, Int.reduceLE, Int.reduceNeg, Int.reduceAdd, Int.reduceSub, Int.reduceMul, Nat.reducePow, Int.reduceNegSucc, wCall]
  refine newB_intro fun j hj => ?_
  simp (disch := omega) only [walk, lists, acts, mem, plain, seqs, maps, cells, resL, resV, intBin, ↓reduceIte, Nat.reduceAdd, Nat.reduceSub, Nat.reduceMul, Nat.reduceLeDiff, Nat.reduceEqDiff, Int.reduceToNat, Int.reduceEq, Int.reduceLT, Int.reduceLE, Int.reduceNeg, Int.reduceAdd, Int.reduceSub, Int.reduceMul, Nat.reducePow, Int.reduceNegSucc, wCall, wrapI]
  refine ite_lt (fun c => ⟨h, Sub.cons hj (Sub.refl h), k (-1) (by omega) (by omega)⟩) fun c => ?_
  exact ⟨h, Sub.cons hj (Sub.refl h), k _ (fun _ => by omega) (by omega)⟩

theorem toCall_c {h : H} {c : DCall} {R : Ending → H → Prop} (k : R (.returned (.agg (cCall c).toArray)) h) : HCalls Tryz.prog 7 #[.agg (cCall c).toArray] h R := by
  refine HCalls_ir (args := [.agg (cCall c).toArray]) Tryz.func7 ir7 ?_
  have zc := zCall_eq
  simp only [str] at zc
  simp only [walk, lists, acts, mem, plain, seqs, maps, cells, resL, resV, intBin, ↓reduceIte, Nat.reduceAdd, Nat.reduceSub, Nat.reduceMul, Nat.reduceLeDiff, Nat.reduceEqDiff, Int.reduceToNat, Int.reduceEq, Int.reduceLT, Int.reduceLE, Int.reduceNeg, Int.reduceAdd, Int.reduceSub, Int.reduceMul, Nat.reducePow, Int.reduceNegSucc, wCall, str, zc]
  refine newB_intro fun j1 h1 => ?_
  simp only [walk, lists, acts, mem, plain, seqs, maps, cells, resL, resV, intBin, ↓reduceIte, Nat.reduceAdd, Nat.reduceSub, Nat.reduceMul, Nat.reduceLeDiff, Nat.reduceEqDiff, Int.reduceToNat, Int.reduceEq, Int.reduceLT, Int.reduceLE, Int.reduceNeg, Int.reduceAdd, Int.reduceSub, Int.reduceMul, Nat.reducePow, Int.reduceNegSucc, wCall]
  refine newB_intro fun j2 h2 => ?_
  have n2 := h2
  simp only [subs] at n2
  simp only [walk, lists, acts, mem, plain, seqs, maps, cells, resL, resV, intBin, ↓reduceIte, Nat.reduceAdd, Nat.reduceSub, Nat.reduceMul, Nat.reduceLeDiff, Nat.reduceEqDiff, Int.reduceToNat, Int.reduceEq, Int.reduceLT, Int.reduceLE, Int.reduceNeg, Int.reduceAdd, Int.reduceSub, Int.reduceMul, Nat.reducePow, Int.reduceNegSucc, wCall, n2]
  refine newB_intro fun j3 h3 => ?_
  have n3 := h3
  simp only [subs] at n3
  have m : j1 ≠ j2 ∧ j1 ≠ j3 ∧ j2 ≠ j3 ∧ j2 ≠ j1 ∧ j3 ≠ j1 ∧ j3 ≠ j2 := by refine ⟨?_, ?_, ?_, ?_, ?_, ?_⟩ <;> simp_all [Ne, eq_comm]
  simp only [walk, lists, acts, mem, plain, seqs, maps, cells, resL, resV, intBin, ↓reduceIte, Nat.reduceAdd, Nat.reduceSub, Nat.reduceMul, Nat.reduceLeDiff, Nat.reduceEqDiff, Int.reduceToNat, Int.reduceEq, Int.reduceLT, Int.reduceLE, Int.reduceNeg, Int.reduceAdd, Int.reduceSub, Int.reduceMul, Nat.reducePow, Int.reduceNegSucc, wCall, m]
  exact ⟨h, by (repeat' first | exact Sub.refl _ | exact Sub.nil _ | assumption | refine Sub.both ?_ ?_ | refine Sub.cons_of (by simp only [subs, n2, n3, m, h1]) ?_ | exact Sub.left _ _ | refine Sub.app (by simp only [subs, n2, n3, m, h1]) ?_ | refine Sub.cons (by simp only [subs, n2, n3, m, h1]) ?_), k⟩
end Go.Proofs.YtfkkjjballajaaaGreatDoor
end

/- Which calls are ok. -/
section
set_option linter.unusedVariables false
set_option linter.unusedSimpArgs false
set_option maxRecDepth 20000
attribute [local irreducible] Go.Tk.vc Go.Tk.vops Go.Tk.vdr Go.Tk.vop Go.Tk.vfl Go.Tk.HCalls
namespace Go.Tk
open Go
def sessP (n : Int) : Prop := inP 0 2 n
def dealTP (t : List UInt8) : Prop := ∃ d, dealP d ∧ t = dealText d ∧ t.length ≤ 80
theorem OutD.iff {t : List UInt8} {l : List DStatement} {ok : Bool} (h : OutD t l ok) : ok = true ↔ dealTP t := by
  rcases h with ⟨h1, p, e, z⟩ | ⟨h1, _, n⟩
  · exact ⟨fun _ => ⟨l, p, e, z⟩, fun _ => h1⟩
  · exact ⟨fun x => (by rw [h1] at x; cases x), fun ⟨d, a, b, c⟩ => (n d a b c).elim⟩
def formP (c : DCall) : Prop := sessP c.session ∧ inP 1 99 c.number ∧ ((c.kind = 1 ∧ c.slot = 0 ∧ c.to = 0 ∧ c.text.length ≤ 80) ∨ (c.kind = 2 ∧ c.text = [] ∧ slotP c.slot ∧ houseP c.to))
/-- A call that is ok. -/
def callOkP (c : DCall) : Prop := formP c ∧ (c.kind = 1 → dealTP c.text)
end Go.Tk
namespace Go.Proofs.YtfkkjjballajaaaGreatDoor
open Go Go.Tk

theorem isSession_c {a : Int} {h : H} {R : Ending → H → Prop} (k : Asks R (sessP a) h) : HCalls Tryz.prog 24 #[.int .i64 a] h R := by
  refine HCalls_ir (args := [.int .i64 a]) Tryz.func24 ir24 ?_
  simp only [walk, lists, acts, mem, plain, seqs, maps, cells, resL, resV, intBin, ↓reduceIte, Nat.reduceAdd, Nat.reduceSub, Nat.reduceMul, Nat.reduceLeDiff, Nat.reduceEqDiff, Int.reduceToNat, Int.reduceEq, Int.reduceLT, Int.reduceLE, Int.reduceNeg, Int.reduceAdd, Int.reduceSub, Int.reduceMul, Nat.reducePow, Int.reduceNegSucc]
  refine within_c fun b hb => ?_
  simp only [walk, lists, acts, mem, plain, seqs, maps, cells, resL, resV, intBin, ↓reduceIte, Nat.reduceAdd, Nat.reduceSub, Nat.reduceMul, Nat.reduceLeDiff, Nat.reduceEqDiff, Int.reduceToNat, Int.reduceEq, Int.reduceLT, Int.reduceLE, Int.reduceNeg, Int.reduceAdd, Int.reduceSub, Int.reduceMul, Nat.reducePow, Int.reduceNegSucc]
  exact .of (k b hb)

theorem l3Form_c {h : H} {c : DCall} {R : Ending → H → Prop} (k : Asks R (formP c) h) : HCalls Tryz.prog 28 #[.agg (cCall c).toArray] h R := by
  refine HCalls_ir (args := [.agg (cCall c).toArray]) Tryz.func28 ir28 ?_
  simp only [walk, lists, acts, mem, plain, seqs, maps, cells, resL, resV, intBin, ↓reduceIte, Nat.reduceAdd, Nat.reduceSub, Nat.reduceMul, Nat.reduceLeDiff, Nat.reduceEqDiff, Int.reduceToNat, Int.reduceEq, Int.reduceLT, Int.reduceLE, Int.reduceNeg, Int.reduceAdd, Int.reduceSub, Int.reduceMul, Nat.reducePow, Int.reduceNegSucc, wCall]
  refine newB_intro fun j hj => ?_
  have s1 := Sub.cons (o := blk (cCall c) 27) hj (Sub.refl h)
  simp only [walk, lists, acts, mem, plain, seqs, maps, cells, resL, resV, intBin, ↓reduceIte, Nat.reduceAdd, Nat.reduceSub, Nat.reduceMul, Nat.reduceLeDiff, Nat.reduceEqDiff, Int.reduceToNat, Int.reduceEq, Int.reduceLT, Int.reduceLE, Int.reduceNeg, Int.reduceAdd, Int.reduceSub, Int.reduceMul, Nat.reducePow, Int.reduceNegSucc, wCall]
  refine l6In_c fun b1 hb1 => ?_
  simp only [walk, lists, acts, mem, plain, seqs, maps, cells, resL, resV, intBin, ↓reduceIte, Nat.reduceAdd, Nat.reduceSub, Nat.reduceMul, Nat.reduceLeDiff, Nat.reduceEqDiff, Int.reduceToNat, Int.reduceEq, Int.reduceLT, Int.reduceLE, Int.reduceNeg, Int.reduceAdd, Int.reduceSub, Int.reduceMul, Nat.reducePow, Int.reduceNegSucc, wCall]
  refine ite_f (fun e => k.dno s1 fun p => not_b hb1 e p.1) fun e1 => ?_
  refine l6In_c fun b2 hb2 => ?_
  simp only [walk, lists, acts, mem, plain, seqs, maps, cells, resL, resV, intBin, ↓reduceIte, Nat.reduceAdd, Nat.reduceSub, Nat.reduceMul, Nat.reduceLeDiff, Nat.reduceEqDiff, Int.reduceToNat, Int.reduceEq, Int.reduceLT, Int.reduceLE, Int.reduceNeg, Int.reduceAdd, Int.reduceSub, Int.reduceMul, Nat.reducePow, Int.reduceNegSucc, wCall]
  refine ite_f (fun e => k.dno s1 fun p => not_b hb2 e p.2.1) fun e2 => ?_
  have p1 := hb1.1 e1
  have p2 := hb2.1 e2
  refine ite_pos (fun c1 => ?_) fun c1 => ?_
  · refine ite_pos (fun c2 => ?_) fun c2 => ?_
    · refine ite_pos (fun c3 => ?_) fun c3 => ?_
      · refine ⟨h, s1, k _ ?_⟩
        rw [decide_eq_true_eq]
        exact ⟨fun x => ⟨p1, p2, .inl ⟨c1, c2, c3, by omega⟩⟩, fun p => by
          rcases p.2.2 with q | q
          · have := q.2.2.2; omega
          · have := q.1; omega⟩
      · exact k.dno s1 fun p => by
          rcases p.2.2 with q | q
          · exact c3 q.2.2.1
          · have := q.1; omega
    · exact k.dno s1 fun p => by
        rcases p.2.2 with q | q
        · exact c2 q.2.1
        · have := q.1; omega
  · have el : ((⟨c.text.toArray⟩ : ByteArray) = ⟨#[]⟩) = (c.text = []) := propext ⟨fun e => by simpa using congrArg (fun a : ByteArray => a.data.toList) e, fun e => by rw [e]⟩
    refine ite_pos (fun c2 => ?_) fun c2 => ?_
    · simp only [walk, lists, acts, mem, plain, seqs, maps, cells, resL, resV, intBin, ↓reduceIte, Nat.reduceAdd, Nat.reduceSub, Nat.reduceMul, Nat.reduceLeDiff, Nat.reduceEqDiff, Int.reduceToNat, Int.reduceEq, Int.reduceLT, Int.reduceLE, Int.reduceNeg, Int.reduceAdd, Int.reduceSub, Int.reduceMul, Nat.reducePow, Int.reduceNegSucc, wCall, str, strBin, el]
      refine ite_pos (fun c3 => ?_) fun c3 => ?_
      · refine l6In_c fun b3 hb3 => ?_
        simp only [walk, lists, acts, mem, plain, seqs, maps, cells, resL, resV, intBin, ↓reduceIte, Nat.reduceAdd, Nat.reduceSub, Nat.reduceMul, Nat.reduceLeDiff, Nat.reduceEqDiff, Int.reduceToNat, Int.reduceEq, Int.reduceLT, Int.reduceLE, Int.reduceNeg, Int.reduceAdd, Int.reduceSub, Int.reduceMul, Nat.reducePow, Int.reduceNegSucc, wCall]
        cases b3 with
        | false =>
          simp only [walk, lists, acts, mem, plain, seqs, maps, cells, resL, resV, intBin, ↓reduceIte, Nat.reduceAdd, Nat.reduceSub, Nat.reduceMul, Nat.reduceLeDiff, Nat.reduceEqDiff, Int.reduceToNat, Int.reduceEq, Int.reduceLT, Int.reduceLE, Int.reduceNeg, Int.reduceAdd, Int.reduceSub, Int.reduceMul, Nat.reducePow, Int.reduceNegSucc]
          exact k.dno s1 fun p => by
            rcases p.2.2 with q | q
            · exact c1 q.1
            · exact not_b hb3 rfl q.2.2.1
        | true =>
          simp only [walk, lists, acts, mem, plain, seqs, maps, cells, resL, resV, intBin, ↓reduceIte, Nat.reduceAdd, Nat.reduceSub, Nat.reduceMul, Nat.reduceLeDiff, Nat.reduceEqDiff, Int.reduceToNat, Int.reduceEq, Int.reduceLT, Int.reduceLE, Int.reduceNeg, Int.reduceAdd, Int.reduceSub, Int.reduceMul, Nat.reducePow, Int.reduceNegSucc, wCall]
          refine l6In_c fun b4 hb4 => ?_
          simp only [walk, lists, acts, mem, plain, seqs, maps, cells, resL, resV, intBin, ↓reduceIte, Nat.reduceAdd, Nat.reduceSub, Nat.reduceMul, Nat.reduceLeDiff, Nat.reduceEqDiff, Int.reduceToNat, Int.reduceEq, Int.reduceLT, Int.reduceLE, Int.reduceNeg, Int.reduceAdd, Int.reduceSub, Int.reduceMul, Nat.reducePow, Int.reduceNegSucc, wCall]
          refine ⟨h, s1, k _ ?_⟩
          rw [hb4]
          exact ⟨fun x => ⟨p1, p2, .inr ⟨c2, c3, hb3.1 rfl, x⟩⟩, fun p => by
            rcases p.2.2 with q | q
            · exact absurd q.1 c1
            · exact q.2.2.2⟩
      · exact k.dno s1 fun p => by
          rcases p.2.2 with q | q
          · exact c1 q.1
          · exact c3 q.2.1
    · exact k.dno s1 fun p => by
        rcases p.2.2 with q | q
        · exact c1 q.1
        · exact c2 q.1

theorem specCallOk_c {h : H} {c : DCall} (ht : c.text.length ≤ 4194304) {R : Ending → H → Prop} (k : Asks R (callOkP c) h) : HCalls Tryz.prog 15 #[.agg (cCall c).toArray] h R := by
  refine HCalls_ir (args := [.agg (cCall c).toArray]) Tryz.func15 ir15 ?_
  simp only [walk, lists, acts, mem, plain, seqs, maps, cells, resL, resV, intBin, ↓reduceIte, Nat.reduceAdd, Nat.reduceSub, Nat.reduceMul, Nat.reduceLeDiff, Nat.reduceEqDiff, Int.reduceToNat, Int.reduceEq, Int.reduceLT, Int.reduceLE, Int.reduceNeg, Int.reduceAdd, Int.reduceSub, Int.reduceMul, Nat.reducePow, Int.reduceNegSucc, wCall]
  refine newB_intro fun j hj => ?_
  have s1 := Sub.cons (o := blk (cCall c) 27) hj (Sub.refl h)
  simp only [walk, lists, acts, mem, plain, seqs, maps, cells, resL, resV, intBin, ↓reduceIte, Nat.reduceAdd, Nat.reduceSub, Nat.reduceMul, Nat.reduceLeDiff, Nat.reduceEqDiff, Int.reduceToNat, Int.reduceEq, Int.reduceLT, Int.reduceLE, Int.reduceNeg, Int.reduceAdd, Int.reduceSub, Int.reduceMul, Nat.reducePow, Int.reduceNegSucc, wCall]
  refine ite_pos (fun c1 => ?_) fun c1 => ?_
  · refine specRead_c ht fun v g l ok O o d => ?_
    have n := d
    simp only [subs] at n
    have s2 := s1.trans (Sub.right d)
    simp only [walk, lists, acts, mem, plain, seqs, maps, cells, resL, resV, intBin, ↓reduceIte, Nat.reduceAdd, Nat.reduceSub, Nat.reduceMul, Nat.reduceLeDiff, Nat.reduceEqDiff, Int.reduceToNat, Int.reduceEq, Int.reduceLT, Int.reduceLE, Int.reduceNeg, Int.reduceAdd, Int.reduceSub, Int.reduceMul, Nat.reducePow, Int.reduceNegSucc, wCall]
    cases ok with
    | false =>
      simp only [walk, lists, acts, mem, plain, seqs, maps, cells, resL, resV, intBin, ↓reduceIte, Nat.reduceAdd, Nat.reduceSub, Nat.reduceMul, Nat.reduceLeDiff, Nat.reduceEqDiff, Int.reduceToNat, Int.reduceEq, Int.reduceLT, Int.reduceLE, Int.reduceNeg, Int.reduceAdd, Int.reduceSub, Int.reduceMul, Nat.reducePow, Int.reduceNegSucc]
      refine ⟨h, s2, k.no fun p => ?_⟩
      have := O.iff.2 (p.2 c1)
      cases this
    | true =>
      simp only [walk, lists, acts, mem, plain, seqs, maps, cells, resL, resV, intBin, ↓reduceIte, Nat.reduceAdd, Nat.reduceSub, Nat.reduceMul, Nat.reduceLeDiff, Nat.reduceEqDiff, Int.reduceToNat, Int.reduceEq, Int.reduceLT, Int.reduceLE, Int.reduceNeg, Int.reduceAdd, Int.reduceSub, Int.reduceMul, Nat.reducePow, Int.reduceNegSucc, wCall, apps, n]
      refine l3Form_c fun b hb => ?_
      simp only [walk, lists, acts, mem, plain, seqs, maps, cells, resL, resV, intBin, ↓reduceIte, Nat.reduceAdd, Nat.reduceSub, Nat.reduceMul, Nat.reduceLeDiff, Nat.reduceEqDiff, Int.reduceToNat, Int.reduceEq, Int.reduceLT, Int.reduceLE, Int.reduceNeg, Int.reduceAdd, Int.reduceSub, Int.reduceMul, Nat.reducePow, Int.reduceNegSucc, wCall]
      refine ⟨h, s2, k _ ?_⟩
      rw [hb]
      exact ⟨fun x => ⟨x, fun _ => O.iff.1 rfl⟩, fun p => p.1⟩
  · refine l3Form_c fun b hb => ?_
    simp only [walk, lists, acts, mem, plain, seqs, maps, cells, resL, resV, intBin, ↓reduceIte, Nat.reduceAdd, Nat.reduceSub, Nat.reduceMul, Nat.reduceLeDiff, Nat.reduceEqDiff, Int.reduceToNat, Int.reduceEq, Int.reduceLT, Int.reduceLE, Int.reduceNeg, Int.reduceAdd, Int.reduceSub, Int.reduceMul, Nat.reducePow, Int.reduceNegSucc, wCall]
    refine ⟨h, s1, k _ ?_⟩
    rw [hb]
    exact ⟨fun x => ⟨x, fun y => absurd y c1⟩, fun p => p.1⟩

theorem implCallOk_c {h : H} {c : DCall} (gl : Gl h) (gm : MxL h) (ht : c.text.length ≤ 4194304) {R : Ending → H → Prop} (k : Asks R (callOkP c) h) : HCalls Tryz.prog 14 #[.agg (cCall c).toArray] h R := by
  refine HCalls_ir (args := [.agg (cCall c).toArray]) Tryz.func14 ir14 ?_
  have el : ((⟨c.text.toArray⟩ : ByteArray) = ⟨#[]⟩) = (c.text = []) := propext ⟨fun e => by simpa using congrArg (fun a : ByteArray => a.data.toList) e, fun e => by rw [e]⟩
  simp only [walk, lists, acts, mem, plain, seqs, maps, cells, resL, resV, intBin, ↓reduceIte, Nat.reduceAdd, Nat.reduceSub, Nat.reduceMul, Nat.reduceLeDiff, Nat.reduceEqDiff, Int.reduceToNat, Int.reduceEq, Int.reduceLT, Int.reduceLE, Int.reduceNeg, Int.reduceAdd, Int.reduceSub, Int.reduceMul, Nat.reducePow, Int.reduceNegSucc, wCall]
  refine newB_intro fun j hj => ?_
  have s1 := Sub.cons (o := blk (cCall c) 27) hj (Sub.refl h)
  simp only [walk, lists, acts, mem, plain, seqs, maps, cells, resL, resV, intBin, ↓reduceIte, Nat.reduceAdd, Nat.reduceSub, Nat.reduceMul, Nat.reduceLeDiff, Nat.reduceEqDiff, Int.reduceToNat, Int.reduceEq, Int.reduceLT, Int.reduceLE, Int.reduceNeg, Int.reduceAdd, Int.reduceSub, Int.reduceMul, Nat.reducePow, Int.reduceNegSucc, wCall]
  refine isSession_c fun b1 hb1 => ?_
  simp only [walk, lists, acts, mem, plain, seqs, maps, cells, resL, resV, intBin, ↓reduceIte, Nat.reduceAdd, Nat.reduceSub, Nat.reduceMul, Nat.reduceLeDiff, Nat.reduceEqDiff, Int.reduceToNat, Int.reduceEq, Int.reduceLT, Int.reduceLE, Int.reduceNeg, Int.reduceAdd, Int.reduceSub, Int.reduceMul, Nat.reducePow, Int.reduceNegSucc, wCall]
  refine ite_f (fun e => k.dno s1 fun p => not_b hb1 e p.1.1) fun e1 => ?_
  refine within_c fun b2 hb2 => ?_
  simp only [walk, lists, acts, mem, plain, seqs, maps, cells, resL, resV, intBin, ↓reduceIte, Nat.reduceAdd, Nat.reduceSub, Nat.reduceMul, Nat.reduceLeDiff, Nat.reduceEqDiff, Int.reduceToNat, Int.reduceEq, Int.reduceLT, Int.reduceLE, Int.reduceNeg, Int.reduceAdd, Int.reduceSub, Int.reduceMul, Nat.reducePow, Int.reduceNegSucc, wCall]
  refine ite_f (fun e => k.dno s1 fun p => not_b hb2 e p.1.2.1) fun e2 => ?_
  have p1 := hb1.1 e1
  have p2 := hb2.1 e2
  refine ite_pos (fun c1 => ?_) fun c1 => ?_
  · refine implRead_c (gl.sub s1) (gm.sub s1) ht fun v g l ok O o d => ?_
    have n := d
    simp only [subs] at n
    have s2 := s1.trans (Sub.right d)
    simp only [walk, lists, acts, mem, plain, seqs, maps, cells, resL, resV, intBin, ↓reduceIte, Nat.reduceAdd, Nat.reduceSub, Nat.reduceMul, Nat.reduceLeDiff, Nat.reduceEqDiff, Int.reduceToNat, Int.reduceEq, Int.reduceLT, Int.reduceLE, Int.reduceNeg, Int.reduceAdd, Int.reduceSub, Int.reduceMul, Nat.reducePow, Int.reduceNegSucc, wCall]
    cases ok with
    | false =>
      simp only [walk, lists, acts, mem, plain, seqs, maps, cells, resL, resV, intBin, ↓reduceIte, Nat.reduceAdd, Nat.reduceSub, Nat.reduceMul, Nat.reduceLeDiff, Nat.reduceEqDiff, Int.reduceToNat, Int.reduceEq, Int.reduceLT, Int.reduceLE, Int.reduceNeg, Int.reduceAdd, Int.reduceSub, Int.reduceMul, Nat.reducePow, Int.reduceNegSucc]
      refine ⟨h, s2, k.no fun p => ?_⟩
      have := O.iff.2 (p.2 c1)
      cases this
    | true =>
      have hd := O.iff.1 rfl
      have h80 : c.text.length ≤ 80 := by obtain ⟨_, _, _, z⟩ := hd; exact z
      simp only [walk, lists, acts, mem, plain, seqs, maps, cells, resL, resV, intBin, ↓reduceIte, Nat.reduceAdd, Nat.reduceSub, Nat.reduceMul, Nat.reduceLeDiff, Nat.reduceEqDiff, Int.reduceToNat, Int.reduceEq, Int.reduceLT, Int.reduceLE, Int.reduceNeg, Int.reduceAdd, Int.reduceSub, Int.reduceMul, Nat.reducePow, Int.reduceNegSucc, wCall, apps, n]
      refine ite_pos (fun c2 => ?_) fun c2 => ?_
      · refine ⟨h, s2, k _ ?_⟩
        rw [decide_eq_true_eq]
        exact ⟨fun x => ⟨⟨p1, p2, .inl ⟨c1, c2, x, h80⟩⟩, fun _ => hd⟩, fun p => by
          rcases p.1.2.2 with q | q
          · exact q.2.2.1
          · have := q.1; omega⟩
      · refine ⟨h, s2, k.no fun p => ?_⟩
        rcases p.1.2.2 with q | q
        · exact c2 q.2.1
        · have := q.1; omega
  · refine ite_pos (fun c2 => ?_) fun c2 => ?_
    · simp only [walk, lists, acts, mem, plain, seqs, maps, cells, resL, resV, intBin, ↓reduceIte, Nat.reduceAdd, Nat.reduceSub, Nat.reduceMul, Nat.reduceLeDiff, Nat.reduceEqDiff, Int.reduceToNat, Int.reduceEq, Int.reduceLT, Int.reduceLE, Int.reduceNeg, Int.reduceAdd, Int.reduceSub, Int.reduceMul, Nat.reducePow, Int.reduceNegSucc, wCall, str, strBin, el]
      refine ite_pos (fun c3 => ?_) fun c3 => ?_
      · refine isSlot_c fun b3 hb3 => ?_
        simp only [walk, lists, acts, mem, plain, seqs, maps, cells, resL, resV, intBin, ↓reduceIte, Nat.reduceAdd, Nat.reduceSub, Nat.reduceMul, Nat.reduceLeDiff, Nat.reduceEqDiff, Int.reduceToNat, Int.reduceEq, Int.reduceLT, Int.reduceLE, Int.reduceNeg, Int.reduceAdd, Int.reduceSub, Int.reduceMul, Nat.reducePow, Int.reduceNegSucc, wCall]
        cases b3 with
        | false =>
          simp only [walk, lists, acts, mem, plain, seqs, maps, cells, resL, resV, intBin, ↓reduceIte, Nat.reduceAdd, Nat.reduceSub, Nat.reduceMul, Nat.reduceLeDiff, Nat.reduceEqDiff, Int.reduceToNat, Int.reduceEq, Int.reduceLT, Int.reduceLE, Int.reduceNeg, Int.reduceAdd, Int.reduceSub, Int.reduceMul, Nat.reducePow, Int.reduceNegSucc]
          exact k.dno s1 fun p => by
            rcases p.1.2.2 with q | q
            · exact c1 q.1
            · exact not_b hb3 rfl q.2.2.1
        | true =>
          simp only [walk, lists, acts, mem, plain, seqs, maps, cells, resL, resV, intBin, ↓reduceIte, Nat.reduceAdd, Nat.reduceSub, Nat.reduceMul, Nat.reduceLeDiff, Nat.reduceEqDiff, Int.reduceToNat, Int.reduceEq, Int.reduceLT, Int.reduceLE, Int.reduceNeg, Int.reduceAdd, Int.reduceSub, Int.reduceMul, Nat.reducePow, Int.reduceNegSucc, wCall]
          refine isHouse_c fun b4 hb4 => ?_
          simp only [walk, lists, acts, mem, plain, seqs, maps, cells, resL, resV, intBin, ↓reduceIte, Nat.reduceAdd, Nat.reduceSub, Nat.reduceMul, Nat.reduceLeDiff, Nat.reduceEqDiff, Int.reduceToNat, Int.reduceEq, Int.reduceLT, Int.reduceLE, Int.reduceNeg, Int.reduceAdd, Int.reduceSub, Int.reduceMul, Nat.reducePow, Int.reduceNegSucc, wCall]
          refine ⟨h, s1, k _ ?_⟩
          rw [hb4]
          exact ⟨fun x => ⟨⟨p1, p2, .inr ⟨c2, c3, hb3.1 rfl, x⟩⟩, fun y => absurd y c1⟩, fun p => by
            rcases p.1.2.2 with q | q
            · exact absurd q.1 c1
            · exact q.2.2.2⟩
      · exact k.dno s1 fun p => by
          rcases p.1.2.2 with q | q
          · exact c1 q.1
          · exact c3 q.2.1
    · exact k.dno s1 fun p => by
        rcases p.1.2.2 with q | q
        · exact c1 q.1
        · exact c2 q.1
end Go.Proofs.YtfkkjjballajaaaGreatDoor
end

/- Which slots a call touches: both. -/
section
set_option linter.unusedVariables false
set_option linter.unusedSimpArgs false
set_option maxRecDepth 20000
attribute [local irreducible] Go.Tk.vc Go.Tk.vops Go.Tk.vdr Go.Tk.vop Go.Tk.vfl Go.Tk.HCalls
namespace Go.Tk
open Go
def slotK (k : Int) : Int := if 0 ≤ k ∧ k ≤ 31 then (k * 8).tdiv 32 else -1
theorem slotK_in {k : Int} (h : keyP k) : 0 ≤ slotK k ∧ slotK k ≤ 7 := by
  have h2 : 0 ≤ k ∧ k ≤ 31 := h
  obtain ⟨n, rfl⟩ : ∃ n : Nat, k = n := ⟨k.toNat, by omega⟩
  unfold slotK
  rw [if_pos h2]
  have : ((n : Int) * 8).tdiv 32 = ((n * 8 / 32 : Nat) : Int) := rfl
  rw [this]
  omega
def touchP (c : DCall) (ds : List DStatement) (s : Int) : Prop := (c.kind = 2 ∧ c.slot = s) ∨ ∃ st ∈ ds, slotK st.key = s
def SlotsO (c : DCall) (l : List Int) : Prop := (¬ callOkP c ∧ l = []) ∨ (callOkP c ∧ l.Pairwise (· < ·) ∧ ∃ ds ok, OutD c.text ds ok ∧ ∀ s, s ∈ l ↔ touchP c ds s)
theorem lt_same : ∀ {l m : List Int}, l.Pairwise (· < ·) → m.Pairwise (· < ·) → (∀ s, s ∈ l ↔ s ∈ m) → l = m := by
  intro l
  induction l with
  | nil =>
    intro m _ _ h
    cases m with
    | nil => rfl
    | cons b m => exact absurd ((h b).2 List.mem_cons_self) List.not_mem_nil
  | cons a l ih =>
    intro m hl hm h
    cases m with
    | nil => exact absurd ((h a).1 List.mem_cons_self) List.not_mem_nil
    | cons b m =>
      rw [List.pairwise_cons] at hl hm
      have hab : a = b := by
        rcases List.mem_cons.1 ((h a).1 List.mem_cons_self) with e | e
        · exact e
        · rcases List.mem_cons.1 ((h b).2 List.mem_cons_self) with e2 | e2
          · exact e2.symm
          · have := hm.1 a e
            have := hl.1 b e2
            omega
      subst hab
      rw [ih hl.2 hm.2 fun s => ?_]
      constructor
      · intro hs
        rcases List.mem_cons.1 ((h s).1 (List.mem_cons_of_mem _ hs)) with e | e
        · have := hl.1 s hs; omega
        · exact e
      · intro hs
        rcases List.mem_cons.1 ((h s).2 (List.mem_cons_of_mem _ hs)) with e | e
        · have := hm.1 s hs; omega
        · exact e
theorem SlotsO.same {c : DCall} {l m : List Int} (x : SlotsO c l) (y : SlotsO c m) : l = m := by
  rcases x with ⟨n, rfl⟩ | ⟨p, pl, ds, ok, O, hm⟩
  · rcases y with ⟨_, rfl⟩ | ⟨p, _⟩
    · rfl
    · exact absurd p n
  · rcases y with ⟨n, _⟩ | ⟨_, pm, ds2, ok2, O2, hm2⟩
    · exact absurd p n
    · obtain ⟨rfl, rfl⟩ := O.same O2
      exact lt_same pl pm fun s => (hm s).trans (hm2 s).symm
theorem OutD.none : OutD [] [] false := .inr ⟨rfl, rfl, fun d hd e _ => by
  have h1 := hd.1
  cases d with
  | nil => simp at h1
  | cons a d =>
    rw [dealText_cons] at e
    have := congrArg List.length e
    simp at this⟩
theorem OutD.keys {t : List UInt8} {ds : List DStatement} {ok : Bool} (h : OutD t ds ok) : ∀ st ∈ ds, keyP st.key := by
  rcases h with ⟨_, p, _⟩ | ⟨_, rfl, _⟩
  · exact fun st hs => (p.2.2 st hs).2.1
  · intro st hs; cases hs
theorem OutD.le {t : List UInt8} {l : List DStatement} {ok : Bool} (h : OutD t l ok) : l.length ≤ 6 := by
  rcases h with ⟨_, p, _⟩ | ⟨_, rfl, _⟩
  · exact p.2.1
  · simp
end Go.Tk
namespace Go.Proofs.YtfkkjjballajaaaGreatDoor
open Go Go.Tk
theorem implMapSlot_c {n : Int} {h : H} {R : Ending → H → Prop} (k : R (.returned (.int .i64 (slotK n))) h) : HCalls Tryz.prog 17 #[.int .i64 n] h R := by
  refine HCalls_ir (args := [.int .i64 n]) Tryz.func17 ir17 ?_
  simp only [walk, lists, acts, mem, plain, seqs, maps, cells, resL, resV, intBin, ↓reduceIte, Nat.reduceAdd, Nat.reduceSub, Nat.reduceMul, Nat.reduceLeDiff, Nat.reduceEqDiff, Int.reduceToNat, Int.reduceEq, Int.reduceLT, Int.reduceLE, Int.reduceNeg, Int.reduceAdd, Int.reduceSub, Int.reduceMul, Nat.reducePow, Int.reduceNegSucc]
  refine isKey_c fun b hb => ?_
  have hb2 : b = true ↔ 0 ≤ n ∧ n ≤ 31 := hb
  simp only [walk, lists, acts, mem, plain, seqs, maps, cells, resL, resV, intBin, ↓reduceIte, Nat.reduceAdd, Nat.reduceSub, Nat.reduceMul, Nat.reduceLeDiff, Nat.reduceEqDiff, Int.reduceToNat, Int.reduceEq, Int.reduceLT, Int.reduceLE, Int.reduceNeg, Int.reduceAdd, Int.reduceSub, Int.reduceMul, Nat.reducePow, Int.reduceNegSucc]
  refine ite_f (fun e => .of ?_) fun e => ?_
  · have : slotK n = -1 := by unfold slotK; rw [if_neg fun p => by rw [hb2.2 p] at e; cases e]
    rw [this] at k; exact k
  · have hn := hb2.1 e
    simp (disch := omega) only [walk, lists, acts, mem, plain, seqs, maps, cells, resL, resV, intBin, ↓reduceIte, Nat.reduceAdd, Nat.reduceSub, Nat.reduceMul, Nat.reduceLeDiff, Nat.reduceEqDiff, Int.reduceToNat, Int.reduceEq, Int.reduceLT, Int.reduceLE, Int.reduceNeg, Int.reduceAdd, Int.reduceSub, Int.reduceMul, Nat.reducePow, Int.reduceNegSucc, wrapI]
    have : slotK n = (n * 8).tdiv 32 := by unfold slotK; rw [if_pos hn]
    have hs := slotK_in (k := n) hn
    rw [this] at k hs
    rw [wrapI _ ⟨by omega, by omega⟩]
    exact .of k
theorem specMapSlot_c {n : Int} {h : H} {R : Ending → H → Prop} (k : R (.returned (.int .i64 (slotK n))) h) : HCalls Tryz.prog 19 #[.int .i64 n] h R := by
  refine HCalls_ir (args := [.int .i64 n]) Tryz.func19 ir19 ?_
  simp only [walk, lists, acts, mem, plain, seqs, maps, cells, resL, resV, intBin, ↓reduceIte, Nat.reduceAdd, Nat.reduceSub, Nat.reduceMul, Nat.reduceLeDiff, Nat.reduceEqDiff, Int.reduceToNat, Int.reduceEq, Int.reduceLT, Int.reduceLE, Int.reduceNeg, Int.reduceAdd, Int.reduceSub, Int.reduceMul, Nat.reducePow, Int.reduceNegSucc]
  refine l6In_c fun b hb => ?_
  have hb2 : b = true ↔ 0 ≤ n ∧ n ≤ 31 := hb
  simp only [walk, lists, acts, mem, plain, seqs, maps, cells, resL, resV, intBin, ↓reduceIte, Nat.reduceAdd, Nat.reduceSub, Nat.reduceMul, Nat.reduceLeDiff, Nat.reduceEqDiff, Int.reduceToNat, Int.reduceEq, Int.reduceLT, Int.reduceLE, Int.reduceNeg, Int.reduceAdd, Int.reduceSub, Int.reduceMul, Nat.reducePow, Int.reduceNegSucc]
  refine ite_f (fun e => .of ?_) fun e => ?_
  · have : slotK n = -1 := by unfold slotK; rw [if_neg fun p => by rw [hb2.2 p] at e; cases e]
    rw [this] at k; exact k
  · have hn := hb2.1 e
    simp (disch := omega) only [walk, lists, acts, mem, plain, seqs, maps, cells, resL, resV, intBin, ↓reduceIte, Nat.reduceAdd, Nat.reduceSub, Nat.reduceMul, Nat.reduceLeDiff, Nat.reduceEqDiff, Int.reduceToNat, Int.reduceEq, Int.reduceLT, Int.reduceLE, Int.reduceNeg, Int.reduceAdd, Int.reduceSub, Int.reduceMul, Nat.reducePow, Int.reduceNegSucc, wrapI]
    have : slotK n = (n * 8).tdiv 32 := by unfold slotK; rw [if_pos hn]
    have hs := slotK_in (k := n) hn
    rw [this] at k hs
    rw [wrapI _ ⟨by omega, by omega⟩]
    exact .of k

theorem specSlots_c {h : H} {c : DCall} (ht : c.text.length ≤ 4194304) {R : Ending → H → Prop} (k : ∀ v g l, SlotsO c l → l.length ≤ 8 → oLs 3 eI 1 v l g → Dj g h → R (.returned v) (g ++ h)) :
    HCalls Tryz.prog 6 #[.agg (cCall c).toArray] h R := by
  refine HCalls_ir (args := [.agg (cCall c).toArray]) Tryz.func6 ir6 ?_
  simp only [walk, lists, acts, mem, plain, seqs, maps, cells, resL, resV, intBin, ↓reduceIte, Nat.reduceAdd, Nat.reduceSub, Nat.reduceMul, Nat.reduceLeDiff, Nat.reduceEqDiff, Int.reduceToNat, Int.reduceEq, Int.reduceLT, Int.reduceLE, Int.reduceNeg, Int.reduceAdd, Int.reduceSub, Int.reduceMul, Nat.reducePow, Int.reduceNegSucc, wCall]
  refine newB_intro (o := blk (cCall c) 27) fun j hj => ?_
  have s1 := Sub.cons (o := blk (cCall c) 27) hj (Sub.refl h)
  simp only [walk, lists, acts, mem, plain, seqs, maps, cells, resL, resV, intBin, ↓reduceIte, Nat.reduceAdd, Nat.reduceSub, Nat.reduceMul, Nat.reduceLeDiff, Nat.reduceEqDiff, Int.reduceToNat, Int.reduceEq, Int.reduceLT, Int.reduceLE, Int.reduceNeg, Int.reduceAdd, Int.reduceSub, Int.reduceMul, Nat.reducePow, Int.reduceNegSucc, wCall]
  refine newB_intro (o := blk (fl eI []) 3) fun j9 hj9 => ?_
  have n9 := hj9
  simp only [subs] at n9
  have e9 : ¬ j = j9 := fun e => n9.1 e.symm
  have o9 : oLs 3 eI 1 (.slice (some ⟨j9, 0, none⟩) 0 0) [] [(j9, blk (fl eI []) 3)] := oLs_new eI_len
  simp only [walk, lists, acts, mem, plain, seqs, maps, cells, resL, resV, intBin, ↓reduceIte, Nat.reduceAdd, Nat.reduceSub, Nat.reduceMul, Nat.reduceLeDiff, Nat.reduceEqDiff, Int.reduceToNat, Int.reduceEq, Int.reduceLT, Int.reduceLE, Int.reduceNeg, Int.reduceAdd, Int.reduceSub, Int.reduceMul, Nat.reducePow, Int.reduceNegSucc, wCall, e9]
  refine specCallOk_c ht fun b1 hb1 => ?_
  simp only [walk, lists, acts, mem, plain, seqs, maps, cells, resL, resV, intBin, ↓reduceIte, Nat.reduceAdd, Nat.reduceSub, Nat.reduceMul, Nat.reduceLeDiff, Nat.reduceEqDiff, Int.reduceToNat, Int.reduceEq, Int.reduceLT, Int.reduceLE, Int.reduceNeg, Int.reduceAdd, Int.reduceSub, Int.reduceMul, Nat.reducePow, Int.reduceNegSucc, wCall, e9]
  refine ite_f (fun e => ⟨[(j9, blk (fl eI []) 3)] ++ h, by (repeat' first | exact Sub.refl _ | exact Sub.nil _ | assumption | refine Sub.both ?_ ?_ | refine Sub.cons_of (by simp only [subs, n9, e9, hj]) ?_ | exact Sub.left _ _ | refine Sub.app (by simp only [subs, n9, e9, hj]) ?_ | refine Sub.cons (by simp only [subs, n9, e9, hj]) ?_), k _ _ [] (.inl ⟨fun p => (by rw [hb1.2 p] at e; cases e), rfl⟩) (by simp) o9 (by simp only [subs, n9])⟩) fun e1 => ?_
  have hok := hb1.1 e1
  refine specRead_c ht fun v4 g4 ds ok O o4 d4 => ?_
  have n4 := d4
  simp only [subs] at n4
  obtain ⟨B, hB⟩ : ∃ B, B = g4 ++ ((j, blk (cCall c) 27) :: h) := ⟨_, rfl⟩
  have r4 : rLs B cStatement 3 v4 ds := o4.rd.sub (by rw [hB]; exact Sub.left _ _)
  have cj : ∀ {i : Nat} {x : Value}, (cCall c)[i]? = some x → hcel B j i = some x := fun {i x} hx => by
    rw [hB, apps.1 _ _ _ _ (by simp only [n4])]
    unfold hcel
    rw [hget_same]
    simpa [blk] using hx
  have hds := O.le
  have hjB : hget B j9 = none := by rw [hB]; simp only [subs, n4, n9, e9]
  have sB : Tk.Sub h B := by rw [hB]; (repeat' first | exact Sub.refl _ | exact Sub.nil _ | assumption | refine Sub.both ?_ ?_ | refine Sub.cons_of (by simp only [subs, n4, hj]) ?_ | exact Sub.left _ _ | refine Sub.app (by simp only [subs, n4, hj]) ?_ | refine Sub.cons (by simp only [subs, n4, hj]) ?_)
  simp only [walk, lists, acts, mem, plain, seqs, maps, cells, resL, resV, intBin, ↓reduceIte, Nat.reduceAdd, Nat.reduceSub, Nat.reduceMul, Nat.reduceLeDiff, Nat.reduceEqDiff, Int.reduceToNat, Int.reduceEq, Int.reduceLT, Int.reduceLE, Int.reduceNeg, Int.reduceAdd, Int.reduceSub, Int.reduceMul, Nat.reducePow, Int.reduceNegSucc, wCall]
  refine vc_loopS (g0 := [(j9, blk (fl eI []) 3)] ++ B) [6, 3] (fun n vs h' => ∃ (s : Nat) (v' : Value) (xs : List Int) (G : H), vs = [.int .i64 s, v'] ∧ h' = G ++ B ∧ Dj G B ∧ oLs 3 eI 1 v' xs G ∧ xs.Pairwise (· < ·) ∧ (∀ x, x ∈ xs ↔ (0 ≤ x ∧ x < s) ∧ touchP c ds x) ∧ xs.length ≤ s ∧ s ≤ 8 ∧ n = 8 - s) 8 rfl (by rw [hB]; (repeat' first | exact Sub.refl _ | exact Sub.nil _ | assumption | refine Sub.both ?_ ?_ | refine Sub.cons_of (by simp only [subs, n4, n9, hj, e9]) ?_ | exact Sub.left _ _ | refine Sub.app (by simp only [subs, n4, n9, hj, e9]) ?_ | refine Sub.cons (by simp only [subs, n4, n9, hj, e9]) ?_))
    ⟨0, _, [], _, rfl, rfl, by simp only [subs, hjB], o9, by simp, fun x => ⟨fun hx => (by cases hx), fun hx => (by have := hx.1; omega)⟩, by simp, by omega, rfl⟩ ?_
  rintro n f h' ⟨s, v', xs, G, hv, rfl, dG, oG, hpw, hmem, hxl, hs, rfl⟩
  simp only [List.map_cons, List.map_nil, List.cons.injEq, and_true] at hv
  have sG := Sub.right dG
  have c2 : hcel (G ++ B) j 2 = some (.int .i64 c.kind) := hcel_sub sG (cj rfl)
  have c4 : hcel (G ++ B) j 4 = some (.int .i64 c.slot) := hcel_sub sG (cj rfl)
  simp only [walk, lists, acts, mem, plain, seqs, maps, cells, resL, resV, intBin, ↓reduceIte, Nat.reduceAdd, Nat.reduceSub, Nat.reduceMul, Nat.reduceLeDiff, Nat.reduceEqDiff, Int.reduceToNat, Int.reduceEq, Int.reduceLT, Int.reduceLE, Int.reduceNeg, Int.reduceAdd, Int.reduceSub, Int.reduceMul, Nat.reducePow, Int.reduceNegSucc, wr, hv.1, hv.2, c2]
  refine ite_lt (fun c1 => ?_) fun c1 => ?_
  · refine ite_pos (fun hk => ?_) fun hk => ?_
    · simp only [walk, lists, acts, mem, plain, seqs, maps, cells, resL, resV, intBin, ↓reduceIte, Nat.reduceAdd, Nat.reduceSub, Nat.reduceMul, Nat.reduceLeDiff, Nat.reduceEqDiff, Int.reduceToNat, Int.reduceEq, Int.reduceLT, Int.reduceLE, Int.reduceNeg, Int.reduceAdd, Int.reduceSub, Int.reduceMul, Nat.reducePow, Int.reduceNegSucc, c4]
      refine vc_loopS (g0 := G ++ B) [8, 7] (fun n vs h' => ∃ (i : Nat) (b : Bool), vs = [.int .i64 i, .bool b] ∧ h' = G ++ B ∧ (b = true ↔ (c.kind = 2 ∧ c.slot = s) ∨ ∃ st ∈ ds.take i, slotK st.key = s) ∧ i ≤ ds.length ∧ n = ds.length - i) ds.length rfl (Sub.refl _)
        ⟨0, decide (c.slot = (s : Int)), rfl, rfl, by simp [hk], by omega, rfl⟩ ?_
      rintro n f2 h' ⟨i, b, hv2, rfl, hb, hi, rfl⟩
      simp only [List.map_cons, List.map_nil, List.cons.injEq, and_true] at hv2
      simp only [walk, lists, acts, mem, plain, seqs, maps, cells, resL, resV, intBin, ↓reduceIte, Nat.reduceAdd, Nat.reduceSub, Nat.reduceMul, Nat.reduceLeDiff, Nat.reduceEqDiff, Int.reduceToNat, Int.reduceEq, Int.reduceLT, Int.reduceLE, Int.reduceNeg, Int.reduceAdd, Int.reduceSub, Int.reduceMul, Nat.reducePow, Int.reduceNegSucc, wr, hv2.1, hv2.2, (r4.sub sG).len]
      refine ite_lt (fun c3 => ?_) fun c3 => ?_
      · have hi2 : i < ds.length := by omega
        cases b with
        | true =>
          simp (disch := omega) only [walk, lists, acts, mem, plain, seqs, maps, cells, resL, resV, intBin, ↓reduceIte, Nat.reduceAdd, Nat.reduceSub, Nat.reduceMul, Nat.reduceLeDiff, Nat.reduceEqDiff, Int.reduceToNat, Int.reduceEq, Int.reduceLT, Int.reduceLE, Int.reduceNeg, Int.reduceAdd, Int.reduceSub, Int.reduceMul, Nat.reducePow, Int.reduceNegSucc, wrapI]
          refine ⟨ds.length - (i + 1), by omega, _, .refl _, i + 1, true, rfl, rfl, ⟨fun _ => ?_, fun _ => rfl⟩, by omega, rfl⟩
          rcases hb.1 rfl with h1 | ⟨st, h1, h2⟩
          · exact .inl h1
          · exact .inr ⟨st, by rw [List.take_succ_eq_append_getElem hi2]; exact List.mem_append_left _ h1, h2⟩
        | false =>
          simp only [walk, lists, acts, mem, plain, seqs, maps, cells, resL, resV, intBin, ↓reduceIte, Nat.reduceAdd, Nat.reduceSub, Nat.reduceMul, Nat.reduceLeDiff, Nat.reduceEqDiff, Int.reduceToNat, Int.reduceEq, Int.reduceLT, Int.reduceLE, Int.reduceNeg, Int.reduceAdd, Int.reduceSub, Int.reduceMul, Nat.reducePow, Int.reduceNegSucc]
          refine idx_leaf (i := i) cStatement_len (r4.sub sG) rfl hi2 fun b1 o1 e1 => ?_
          have e1k : hcel (G ++ B) b1 (o1 + 1) = some (.int .i64 ds[i].key) := hread_c e1 1 rfl
          simp only [walk, lists, acts, mem, plain, seqs, maps, cells, resL, resV, intBin, ↓reduceIte, Nat.reduceAdd, Nat.reduceSub, Nat.reduceMul, Nat.reduceLeDiff, Nat.reduceEqDiff, Int.reduceToNat, Int.reduceEq, Int.reduceLT, Int.reduceLE, Int.reduceNeg, Int.reduceAdd, Int.reduceSub, Int.reduceMul, Nat.reducePow, Int.reduceNegSucc, e1k]
          refine specMapSlot_c ?_
          simp (disch := omega) only [walk, lists, acts, mem, plain, seqs, maps, cells, resL, resV, intBin, ↓reduceIte, Nat.reduceAdd, Nat.reduceSub, Nat.reduceMul, Nat.reduceLeDiff, Nat.reduceEqDiff, Int.reduceToNat, Int.reduceEq, Int.reduceLT, Int.reduceLE, Int.reduceNeg, Int.reduceAdd, Int.reduceSub, Int.reduceMul, Nat.reducePow, Int.reduceNegSucc, wrapI]
          refine ⟨ds.length - (i + 1), by omega, _, .refl _, i + 1, decide (slotK ds[i].key = s), rfl, rfl, ?_, by omega, rfl⟩
          rw [List.take_succ_eq_append_getElem hi2, decide_eq_true_eq]
          constructor
          · intro e
            exact .inr ⟨ds[i], List.mem_append_right _ List.mem_cons_self, e⟩
          · rintro (h1 | ⟨st, h1, h2⟩)
            · exact absurd (hb.2 (.inl h1)) (by simp)
            · rcases List.mem_append.1 h1 with h3 | h3
              · exact absurd (hb.2 (.inr ⟨st, h3, h2⟩)) (by simp)
              · rw [← List.mem_singleton.1 h3]; exact h2
      · have hi2 : i = ds.length := by omega
        subst hi2
        rw [List.take_length] at hb
        have hb2 : b = true ↔ touchP c ds s := hb
        cases b with
        | true =>
          have ht := hb2.1 rfl
          simp only [walk, lists, acts, mem, plain, seqs, maps, cells, resL, resV, intBin, ↓reduceIte, Nat.reduceAdd, Nat.reduceSub, Nat.reduceMul, Nat.reduceLeDiff, Nat.reduceEqDiff, Int.reduceToNat, Int.reduceEq, Int.reduceLT, Int.reduceLE, Int.reduceNeg, Int.reduceAdd, Int.reduceSub, Int.reduceMul, Nat.reducePow, Int.reduceNegSucc]
          refine newB_intro (o := blk (fl eI [(s : Int)]) 3) fun j7 hj7 => ?_
          simp only [walk, lists, acts, mem, plain, seqs, maps, cells, resL, resV, intBin, ↓reduceIte, Nat.reduceAdd, Nat.reduceSub, Nat.reduceMul, Nat.reduceLeDiff, Nat.reduceEqDiff, Int.reduceToNat, Int.reduceEq, Int.reduceLT, Int.reduceLE, Int.reduceNeg, Int.reduceAdd, Int.reduceSub, Int.reduceMul, Nat.reducePow, Int.reduceNegSucc]
          refine app_leaf (g := G) (h := B) eI_len eI_one tInts iInt (Sub.cons hj7 (Sub.refl _)) dG oG (rI_lit (e := 3) [(s : Int)]) (by simp; omega) (by simp; omega) fun v2 g2 o2 d2 => ?_
          simp (disch := omega) only [walk, lists, acts, mem, plain, seqs, maps, cells, resL, resV, intBin, ↓reduceIte, Nat.reduceAdd, Nat.reduceSub, Nat.reduceMul, Nat.reduceLeDiff, Nat.reduceEqDiff, Int.reduceToNat, Int.reduceEq, Int.reduceLT, Int.reduceLE, Int.reduceNeg, Int.reduceAdd, Int.reduceSub, Int.reduceMul, Nat.reducePow, Int.reduceNegSucc, wrapI]
          refine ⟨8 - (s + 1), by omega, _, .refl _, s + 1, v2, _, g2, by simp, rfl, d2, o2, ?_, fun x => ?_, by simp; omega, by omega, rfl⟩
          · rw [List.pairwise_append]
            refine ⟨hpw, by simp, fun x hx y hy => ?_⟩
            rw [List.mem_singleton.1 hy]
            have := ((hmem x).1 hx).1; omega
          · rw [List.mem_append, hmem, List.mem_singleton]
            constructor
            · rintro (⟨h1, h2⟩ | h1)
              · exact ⟨⟨h1.1, by omega⟩, h2⟩
              · rw [h1]; exact ⟨⟨by omega, by omega⟩, ht⟩
            · rintro ⟨⟨h1, h2⟩, h3⟩
              by_cases e : x = s
              · exact .inr e
              · exact .inl ⟨⟨h1, by omega⟩, h3⟩
        | false =>
          simp (disch := omega) only [walk, lists, acts, mem, plain, seqs, maps, cells, resL, resV, intBin, ↓reduceIte, Nat.reduceAdd, Nat.reduceSub, Nat.reduceMul, Nat.reduceLeDiff, Nat.reduceEqDiff, Int.reduceToNat, Int.reduceEq, Int.reduceLT, Int.reduceLE, Int.reduceNeg, Int.reduceAdd, Int.reduceSub, Int.reduceMul, Nat.reducePow, Int.reduceNegSucc, wrapI]
          refine ⟨8 - (s + 1), by omega, _, .refl _, s + 1, v', xs, G, by simp, rfl, dG, oG, hpw, fun x => ?_, by omega, by omega, rfl⟩
          rw [hmem]
          constructor
          · rintro ⟨h1, h2⟩
            exact ⟨⟨h1.1, by omega⟩, h2⟩
          · rintro ⟨⟨h1, h2⟩, h3⟩
            by_cases e : x = s
            · rw [e] at h3; exact absurd (hb2.2 h3) (by simp)
            · exact ⟨⟨h1, by omega⟩, h3⟩
    · skip
      refine vc_loopS (g0 := G ++ B) [8, 7] (fun n vs h' => ∃ (i : Nat) (b : Bool), vs = [.int .i64 i, .bool b] ∧ h' = G ++ B ∧ (b = true ↔ (c.kind = 2 ∧ c.slot = s) ∨ ∃ st ∈ ds.take i, slotK st.key = s) ∧ i ≤ ds.length ∧ n = ds.length - i) ds.length rfl (Sub.refl _)
        ⟨0, false, rfl, rfl, by simp [hk], by omega, rfl⟩ ?_
      rintro n f2 h' ⟨i, b, hv2, rfl, hb, hi, rfl⟩
      simp only [List.map_cons, List.map_nil, List.cons.injEq, and_true] at hv2
      simp only [walk, lists, acts, mem, plain, seqs, maps, cells, resL, resV, intBin, ↓reduceIte, Nat.reduceAdd, Nat.reduceSub, Nat.reduceMul, Nat.reduceLeDiff, Nat.reduceEqDiff, Int.reduceToNat, Int.reduceEq, Int.reduceLT, Int.reduceLE, Int.reduceNeg, Int.reduceAdd, Int.reduceSub, Int.reduceMul, Nat.reducePow, Int.reduceNegSucc, wr, hv2.1, hv2.2, (r4.sub sG).len]
      refine ite_lt (fun c3 => ?_) fun c3 => ?_
      · have hi2 : i < ds.length := by omega
        cases b with
        | true =>
          simp (disch := omega) only [walk, lists, acts, mem, plain, seqs, maps, cells, resL, resV, intBin, ↓reduceIte, Nat.reduceAdd, Nat.reduceSub, Nat.reduceMul, Nat.reduceLeDiff, Nat.reduceEqDiff, Int.reduceToNat, Int.reduceEq, Int.reduceLT, Int.reduceLE, Int.reduceNeg, Int.reduceAdd, Int.reduceSub, Int.reduceMul, Nat.reducePow, Int.reduceNegSucc, wrapI]
          refine ⟨ds.length - (i + 1), by omega, _, .refl _, i + 1, true, rfl, rfl, ⟨fun _ => ?_, fun _ => rfl⟩, by omega, rfl⟩
          rcases hb.1 rfl with h1 | ⟨st, h1, h2⟩
          · exact .inl h1
          · exact .inr ⟨st, by rw [List.take_succ_eq_append_getElem hi2]; exact List.mem_append_left _ h1, h2⟩
        | false =>
          simp only [walk, lists, acts, mem, plain, seqs, maps, cells, resL, resV, intBin, ↓reduceIte, Nat.reduceAdd, Nat.reduceSub, Nat.reduceMul, Nat.reduceLeDiff, Nat.reduceEqDiff, Int.reduceToNat, Int.reduceEq, Int.reduceLT, Int.reduceLE, Int.reduceNeg, Int.reduceAdd, Int.reduceSub, Int.reduceMul, Nat.reducePow, Int.reduceNegSucc]
          refine idx_leaf (i := i) cStatement_len (r4.sub sG) rfl hi2 fun b1 o1 e1 => ?_
          have e1k : hcel (G ++ B) b1 (o1 + 1) = some (.int .i64 ds[i].key) := hread_c e1 1 rfl
          simp only [walk, lists, acts, mem, plain, seqs, maps, cells, resL, resV, intBin, ↓reduceIte, Nat.reduceAdd, Nat.reduceSub, Nat.reduceMul, Nat.reduceLeDiff, Nat.reduceEqDiff, Int.reduceToNat, Int.reduceEq, Int.reduceLT, Int.reduceLE, Int.reduceNeg, Int.reduceAdd, Int.reduceSub, Int.reduceMul, Nat.reducePow, Int.reduceNegSucc, e1k]
          refine specMapSlot_c ?_
          simp (disch := omega) only [walk, lists, acts, mem, plain, seqs, maps, cells, resL, resV, intBin, ↓reduceIte, Nat.reduceAdd, Nat.reduceSub, Nat.reduceMul, Nat.reduceLeDiff, Nat.reduceEqDiff, Int.reduceToNat, Int.reduceEq, Int.reduceLT, Int.reduceLE, Int.reduceNeg, Int.reduceAdd, Int.reduceSub, Int.reduceMul, Nat.reducePow, Int.reduceNegSucc, wrapI]
          refine ⟨ds.length - (i + 1), by omega, _, .refl _, i + 1, decide (slotK ds[i].key = s), rfl, rfl, ?_, by omega, rfl⟩
          rw [List.take_succ_eq_append_getElem hi2, decide_eq_true_eq]
          constructor
          · intro e
            exact .inr ⟨ds[i], List.mem_append_right _ List.mem_cons_self, e⟩
          · rintro (h1 | ⟨st, h1, h2⟩)
            · exact absurd (hb.2 (.inl h1)) (by simp)
            · rcases List.mem_append.1 h1 with h3 | h3
              · exact absurd (hb.2 (.inr ⟨st, h3, h2⟩)) (by simp)
              · rw [← List.mem_singleton.1 h3]; exact h2
      · have hi2 : i = ds.length := by omega
        subst hi2
        rw [List.take_length] at hb
        have hb2 : b = true ↔ touchP c ds s := hb
        cases b with
        | true =>
          have ht := hb2.1 rfl
          simp only [walk, lists, acts, mem, plain, seqs, maps, cells, resL, resV, intBin, ↓reduceIte, Nat.reduceAdd, Nat.reduceSub, Nat.reduceMul, Nat.reduceLeDiff, Nat.reduceEqDiff, Int.reduceToNat, Int.reduceEq, Int.reduceLT, Int.reduceLE, Int.reduceNeg, Int.reduceAdd, Int.reduceSub, Int.reduceMul, Nat.reducePow, Int.reduceNegSucc]
          refine newB_intro (o := blk (fl eI [(s : Int)]) 3) fun j7 hj7 => ?_
          simp only [walk, lists, acts, mem, plain, seqs, maps, cells, resL, resV, intBin, ↓reduceIte, Nat.reduceAdd, Nat.reduceSub, Nat.reduceMul, Nat.reduceLeDiff, Nat.reduceEqDiff, Int.reduceToNat, Int.reduceEq, Int.reduceLT, Int.reduceLE, Int.reduceNeg, Int.reduceAdd, Int.reduceSub, Int.reduceMul, Nat.reducePow, Int.reduceNegSucc]
          refine app_leaf (g := G) (h := B) eI_len eI_one tInts iInt (Sub.cons hj7 (Sub.refl _)) dG oG (rI_lit (e := 3) [(s : Int)]) (by simp; omega) (by simp; omega) fun v2 g2 o2 d2 => ?_
          simp (disch := omega) only [walk, lists, acts, mem, plain, seqs, maps, cells, resL, resV, intBin, ↓reduceIte, Nat.reduceAdd, Nat.reduceSub, Nat.reduceMul, Nat.reduceLeDiff, Nat.reduceEqDiff, Int.reduceToNat, Int.reduceEq, Int.reduceLT, Int.reduceLE, Int.reduceNeg, Int.reduceAdd, Int.reduceSub, Int.reduceMul, Nat.reducePow, Int.reduceNegSucc, wrapI]
          refine ⟨8 - (s + 1), by omega, _, .refl _, s + 1, v2, _, g2, by simp, rfl, d2, o2, ?_, fun x => ?_, by simp; omega, by omega, rfl⟩
          · rw [List.pairwise_append]
            refine ⟨hpw, by simp, fun x hx y hy => ?_⟩
            rw [List.mem_singleton.1 hy]
            have := ((hmem x).1 hx).1; omega
          · rw [List.mem_append, hmem, List.mem_singleton]
            constructor
            · rintro (⟨h1, h2⟩ | h1)
              · exact ⟨⟨h1.1, by omega⟩, h2⟩
              · rw [h1]; exact ⟨⟨by omega, by omega⟩, ht⟩
            · rintro ⟨⟨h1, h2⟩, h3⟩
              by_cases e : x = s
              · exact .inr e
              · exact .inl ⟨⟨h1, by omega⟩, h3⟩
        | false =>
          simp (disch := omega) only [walk, lists, acts, mem, plain, seqs, maps, cells, resL, resV, intBin, ↓reduceIte, Nat.reduceAdd, Nat.reduceSub, Nat.reduceMul, Nat.reduceLeDiff, Nat.reduceEqDiff, Int.reduceToNat, Int.reduceEq, Int.reduceLT, Int.reduceLE, Int.reduceNeg, Int.reduceAdd, Int.reduceSub, Int.reduceMul, Nat.reducePow, Int.reduceNegSucc, wrapI]
          refine ⟨8 - (s + 1), by omega, _, .refl _, s + 1, v', xs, G, by simp, rfl, dG, oG, hpw, fun x => ?_, by omega, by omega, rfl⟩
          rw [hmem]
          constructor
          · rintro ⟨h1, h2⟩
            exact ⟨⟨h1.1, by omega⟩, h2⟩
          · rintro ⟨⟨h1, h2⟩, h3⟩
            by_cases e : x = s
            · rw [e] at h3; exact absurd (hb2.2 h3) (by simp)
            · exact ⟨⟨h1, by omega⟩, h3⟩
  · have hs8 : s = 8 := by omega
    subst hs8
    have dh : Dj G h := by
      have := dG
      rw [hB] at this
      simp only [subs] at this
      exact this.2.2
    refine ⟨G ++ h, ?_, k v' G xs (.inr ⟨hok, hpw, ds, ok, O, fun x => ?_⟩) hxl oG dh⟩
    · rw [hB] at dG ⊢
      have dg := dG
      simp only [subs] at dg
      (repeat' first | exact Sub.refl _ | exact Sub.nil _ | assumption | refine Sub.both ?_ ?_ | refine Sub.cons_of (by simp only [subs, dg, n4, hj]) ?_ | exact Sub.left _ _ | refine Sub.app (by simp only [subs, dg, n4, hj]) ?_ | refine Sub.cons (by simp only [subs, dg, n4, hj]) ?_)
    · rw [hmem]
      refine ⟨fun p => p.2, fun p => ⟨?_, p⟩⟩
      rcases p with ⟨p1, p2⟩ | ⟨st, p1, p2⟩
      · have hsl : slotP c.slot := by
          rcases hok.1.2.2 with q | q
          · have := q.1; omega
          · exact q.2.2.1
        unfold slotP inP at hsl
        omega
      · have := slotK_in (O.keys st p1)
        omega
end Go.Proofs.YtfkkjjballajaaaGreatDoor
end
