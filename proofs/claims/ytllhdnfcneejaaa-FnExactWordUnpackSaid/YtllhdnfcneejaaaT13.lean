/- How the reference reads lists of numbers, and texts. -/
import Derived.Test.YtllhdnfcneejaaaT12
import Derived.Test.YtllhdnfcneejaaaT4
set_option linter.unusedVariables false
set_option linter.unusedSimpArgs false
set_option maxRecDepth 20000
attribute [local irreducible] Go.Tk.vc Go.Tk.vops Go.Tk.vdr Go.Tk.vop Go.Tk.vfl Go.Tk.HCalls
namespace Go.Proofs.Ytllhdnfcneejaaa
open Go Go.Tk

theorem small_num {x : Int} (h : smallP x) : zig x < 2097152 := by
  have := zig_lt (n := x) (b := 10000) ⟨by have := h.1; omega, by have := h.2; omega⟩
  omega

theorem nums_c {h0 : H} {j at_ : Nat} {bv : Value} {l : List UInt8} {bad : Bool} {n : Int} (hj : hget h0 j = none) (rb : rBytes h0 bv l) (hl : l.length ≤ 1099511627776) (ha : at_ ≤ l.length) (hn : n ≤ 2097152) {R : Ending → H → Prop}
    (k : ∀ v g ys (at' : Nat) (bad' : Bool), oLs 3 eI 1 v ys g → Dj g ((j, blk (rd bv at' bad') 49) :: h0) → at' ≤ l.length → ys.length ≤ n.toNat → (bad' = false → bad = false ∧ ys.length = n.toNat) → (∀ y ∈ ys, -2097152 ≤ y ∧ y ≤ 2097152) →
      (bad = false → ∀ xs r, l.drop at_ = encIs xs ++ r → allP smallP xs → (xs.length : Int) = n → ys = xs ∧ l.drop at' = r ∧ bad' = false) → R (.returned v) (g ++ ((j, blk (rd bv at' bad') 49) :: h0))) :
    HCalls Try.prog 70 #[.pointer (some ⟨j, 0, none⟩), .int .i64 n] ((j, blk (rd bv at_ bad) 49) :: h0) R := by
  refine HCalls_ir (args := [.pointer (some ⟨j, 0, none⟩), .int .i64 n]) Try.func70 ir70 ?_
  simp only [walk, lists, acts, mem, plain, seqs, maps, cells, resL, resV, intBin, ↓reduceIte, Nat.reduceAdd, Nat.reduceSub, Nat.reduceMul, Nat.reduceLeDiff, Nat.reduceEqDiff, Int.reduceToNat, Int.reduceEq, Int.reduceLT, Int.reduceLE, Int.reduceNeg, Int.reduceAdd, Int.reduceSub, Int.reduceMul, Nat.reducePow, Int.reduceNegSucc, w_rd]
  refine newB_intro fun j1 hj1 => ?_
  have n1 := fresh hj1
  simp only [walk, lists, acts, mem, plain, seqs, maps, cells, resL, resV, intBin, ↓reduceIte, Nat.reduceAdd, Nat.reduceSub, Nat.reduceMul, Nat.reduceLeDiff, Nat.reduceEqDiff, Int.reduceToNat, Int.reduceEq, Int.reduceLT, Int.reduceLE, Int.reduceNeg, Int.reduceAdd, Int.reduceSub, Int.reduceMul, Nat.reducePow, Int.reduceNegSucc, w_rd]
  have o1 : oLs 3 eI 1 (.slice (some ⟨j1, 0, none⟩) 0 0) [] [(j1, blk (fl eI []) 3)] := oLs_new eI_len
  refine vc_loop [5, 6] (fun n' vs h' => ∃ (i : Nat) (v' : Value) (g' : H) (ys : List Int) (at' : Nat) (bad' : Bool), vs = [v', .int .i64 i] ∧ h' = g' ++ ((j, blk (rd bv at' bad') 49) :: h0) ∧ Dj g' ((j, blk (rd bv at' bad') 49) :: h0) ∧ oLs 3 eI 1 v' ys g' ∧ ys.length = i ∧ at' ≤ l.length ∧
      (bad' = false → bad = false) ∧ (∀ y ∈ ys, -2097152 ≤ y ∧ y ≤ 2097152) ∧ i ≤ n.toNat ∧ n' = n.toNat - i ∧ (bad = false → ∀ xs r, l.drop at_ = encIs xs ++ r → allP smallP xs → (xs.length : Int) = n → ys = xs.take i ∧ l.drop at' = encIs (xs.drop i) ++ r ∧ bad' = false)) n.toNat rfl
    ⟨0, _, _, [], at_, bad, rfl, rfl, Dj.one hj1, o1, rfl, ha, fun h => h, fun y hy => (by cases hy), by omega, rfl, fun hb xs r hx _ _ => ⟨by simp, by simpa using hx, hb⟩⟩ ?_
  rintro n' f h' ⟨i, v', g', ys, at', bad', hv, rfl, dj', o', hyl, ha', hbb, hys, hi, rfl, ex⟩
  simp only [List.map_cons, List.map_nil, List.cons.injEq, and_true] at hv
  have d1 := dj'
  have d2 := dj'.symm
  simp only [subs] at d1 d2
  simp only [walk, lists, acts, mem, plain, seqs, maps, cells, resL, resV, intBin, ↓reduceIte, Nat.reduceAdd, Nat.reduceSub, Nat.reduceMul, Nat.reduceLeDiff, Nat.reduceEqDiff, Int.reduceToNat, Int.reduceEq, Int.reduceLT, Int.reduceLE, Int.reduceNeg, Int.reduceAdd, Int.reduceSub, Int.reduceMul, Nat.reducePow, Int.reduceNegSucc, wr, hv.1, hv.2, w_rd, apps, d1]
  refine ite_lt (fun c1 => ?_) fun c1 => ?_
  · cases bad'
    · simp only [walk, lists, acts, mem, plain, seqs, maps, cells, resL, resV, intBin, ↓reduceIte, Nat.reduceAdd, Nat.reduceSub, Nat.reduceMul, Nat.reduceLeDiff, Nat.reduceEqDiff, Int.reduceToNat, Int.reduceEq, Int.reduceLT, Int.reduceLE, Int.reduceNeg, Int.reduceAdd, Int.reduceSub, Int.reduceMul, Nat.reducePow, Int.reduceNegSucc]
      refine (num_c (bad := false) (at_ := at') (h0 := g' ++ h0) (by simp only [subs, d1, hj]) (rb.sub (Sub.right d1.2)) hl ha' fun x at2 bad2 ha2 hx2 hb2 ex2 => ?_).weaken (by (repeat' first | exact Sub.refl _ | exact Sub.nil _ | assumption | refine Sub.both ?_ ?_ | refine Sub.cons_of (by simp only [subs, d1, d2, hj]) ?_ | exact Sub.left _ _ | refine Sub.app (by simp only [subs, d1, d2, hj]) ?_ | refine Sub.cons (by simp only [subs, d1, d2, hj]) ?_))
      simp only [walk, lists, acts, mem, plain, seqs, maps, cells, resL, resV, intBin, ↓reduceIte, Nat.reduceAdd, Nat.reduceSub, Nat.reduceMul, Nat.reduceLeDiff, Nat.reduceEqDiff, Int.reduceToNat, Int.reduceEq, Int.reduceLT, Int.reduceLE, Int.reduceNeg, Int.reduceAdd, Int.reduceSub, Int.reduceMul, Nat.reducePow, Int.reduceNegSucc]
      refine newB_intro fun j5 hj5 => ?_
      simp only [subs] at hj5
      simp only [walk, lists, acts, mem, plain, seqs, maps, cells, resL, resV, intBin, ↓reduceIte, Nat.reduceAdd, Nat.reduceSub, Nat.reduceMul, Nat.reduceLeDiff, Nat.reduceEqDiff, Int.reduceToNat, Int.reduceEq, Int.reduceLT, Int.reduceLE, Int.reduceNeg, Int.reduceAdd, Int.reduceSub, Int.reduceMul, Nat.reducePow, Int.reduceNegSucc]
      refine app_leaf (g := g') (h := (j, blk (rd bv at2 bad2) 49) :: h0) (M := (j5, blk (fl eI [x]) 3) :: (j, blk (rd bv at2 bad2) 49) :: (g' ++ h0)) eI_len eI_one tInts iInt (by (repeat' first | exact Sub.refl _ | exact Sub.nil _ | assumption | refine Sub.both ?_ ?_ | refine Sub.cons_of (by simp only [subs, d1, d2, hj, hj5]) ?_ | exact Sub.left _ _ | refine Sub.app (by simp only [subs, d1, d2, hj, hj5]) ?_ | refine Sub.cons (by simp only [subs, d1, d2, hj, hj5]) ?_)) (by simp only [subs, d1]) o' (rI_lit [x]) (by simp; omega) (by simp; omega) fun v2 g2 o2 d3 => ?_
      simp (disch := omega) only [walk, lists, acts, mem, plain, seqs, maps, cells, resL, resV, intBin, ↓reduceIte, Nat.reduceAdd, Nat.reduceSub, Nat.reduceMul, Nat.reduceLeDiff, Nat.reduceEqDiff, Int.reduceToNat, Int.reduceEq, Int.reduceLT, Int.reduceLE, Int.reduceNeg, Int.reduceAdd, Int.reduceSub, Int.reduceMul, Nat.reducePow, Int.reduceNegSucc, wrapI]
      refine ⟨n.toNat - (i + 1), by omega, _, .refl _, i + 1, v2, g2, _, at2, bad2, by simp, rfl, d3, o2, by simp [hyl], ha2, fun _ => hbb rfl, ?_, by omega, rfl, ?_⟩
      · intro y hy
        rcases List.mem_append.1 hy with hy | hy
        · exact hys y hy
        · rw [List.mem_singleton.1 hy]; exact hx2
      · intro hb xs r hx hs hxl
        obtain ⟨e1, e2, _⟩ := ex hb xs r hx hs hxl
        have hi2 : i < xs.length := by omega
        rw [List.drop_eq_getElem_cons hi2, encIs_cons, List.append_assoc] at e2
        obtain ⟨f1, f2, f3⟩ := ex2 _ _ ⟨e2, small_num (hs _ (List.getElem_mem hi2))⟩
        refine ⟨?_, f2, f3⟩
        rw [take_app_one hi2, ← e1, f1, unzig_zig]
    · simp only [walk, lists, acts, mem, plain, seqs, maps, cells, resL, resV, intBin, ↓reduceIte, Nat.reduceAdd, Nat.reduceSub, Nat.reduceMul, Nat.reduceLeDiff, Nat.reduceEqDiff, Int.reduceToNat, Int.reduceEq, Int.reduceLT, Int.reduceLE, Int.reduceNeg, Int.reduceAdd, Int.reduceSub, Int.reduceMul, Nat.reducePow, Int.reduceNegSucc]
      refine .of (k v' g' ys at' true o' dj' ha' (by omega) (fun h => by cases h) hys fun hb xs r hx hs hxl => ?_)
      have := (ex hb xs r hx hs hxl).2.2
      cases this
  · refine .of (k v' g' ys at' bad' o' dj' ha' (by omega) (fun h => ⟨hbb h, by omega⟩) hys fun hb xs r hx hs hxl => ?_)
    obtain ⟨e1, e2, e3⟩ := ex hb xs r hx hs hxl
    have hi2 : i = xs.length := by omega
    rw [hi2] at e1 e2
    exact ⟨by simpa using e1, by simpa [encIs] using e2, e3⟩
end Go.Proofs.Ytllhdnfcneejaaa
