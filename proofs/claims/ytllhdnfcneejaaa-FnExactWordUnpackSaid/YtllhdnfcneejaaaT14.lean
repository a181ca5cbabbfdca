/- How the reference reads texts and words. -/
import Derived.Test.YtllhdnfcneejaaaT13
import Derived.Test.YtllhdnfcneejaaaA19
set_option linter.unusedVariables false
set_option linter.unusedSimpArgs false
set_option maxRecDepth 20000
attribute [local irreducible] Go.Tk.vc Go.Tk.vops Go.Tk.vdr Go.Tk.vop Go.Tk.vfl Go.Tk.HCalls
namespace Go.Proofs.Ytllhdnfcneejaaa
open Go Go.Tk

theorem text_c {h0 : H} {j at_ : Nat} {bv : Value} {l : List UInt8} {bad : Bool} {n : Int} (hj : hget h0 j = none) (rb : rBytes h0 bv l) (hl : l.length ≤ 1099511627776) (ha : at_ ≤ l.length) (hn : -2097152 ≤ n ∧ n ≤ 2097152) {R : Ending → H → Prop}
    (k : ∀ (s : List UInt8) (at' : Nat) (bad' : Bool), at' ≤ l.length → s.length ≤ l.length → (bad = true → bad' = true) → (bad = false → ∀ t r, l.drop at_ = t ++ r → (t.length : Int) = n → s = t ∧ l.drop at' = r ∧ bad' = false) →
      R (.returned (.string ⟨s.toArray⟩)) ((j, blk (rd bv at' bad') 49) :: h0)) :
    HCalls Try.prog 71 #[.pointer (some ⟨j, 0, none⟩), .int .i64 n] ((j, blk (rd bv at_ bad) 49) :: h0) R := by
  refine HCalls_ir (args := [.pointer (some ⟨j, 0, none⟩), .int .i64 n]) Try.func71 ir71 ?_
  have sj := fun o => Sub.cons (o := o) hj (Sub.refl h0)
  simp only [walk, lists, acts, mem, plain, seqs, maps, cells, resL, resV, intBin, ↓reduceIte, Nat.reduceAdd, Nat.reduceSub, Nat.reduceMul, Nat.reduceLeDiff, Nat.reduceEqDiff, Int.reduceToNat, Int.reduceEq, Int.reduceLT, Int.reduceLE, Int.reduceNeg, Int.reduceAdd, Int.reduceSub, Int.reduceMul, Nat.reducePow, Int.reduceNegSucc, w_rd]
  refine vc_draw _ (Sub.refl _) ?_
  cases bad
  · simp (disch := omega) only [walk, lists, acts, mem, plain, seqs, maps, cells, resL, resV, intBin, ↓reduceIte, Nat.reduceAdd, Nat.reduceSub, Nat.reduceMul, Nat.reduceLeDiff, Nat.reduceEqDiff, Int.reduceToNat, Int.reduceEq, Int.reduceLT, Int.reduceLE, Int.reduceNeg, Int.reduceAdd, Int.reduceSub, Int.reduceMul, Nat.reducePow, Int.reduceNegSucc, w_rd, rb.len, wrapI]
    refine ite_lt (fun c1 => .of (k [] at_ true ha (by simp) (fun _ => rfl) fun _ t r ht hx => ?_)) fun c1 => ?_
    · omega
    · refine ite_lt (fun c2 => .of (k [] at_ true ha (by simp) (fun _ => rfl) fun _ t r ht hx => ?_)) fun c2 => ?_
      · have := congrArg List.length ht
        simp only [List.length_drop, List.length_append] at this
        omega
      · refine vc_draw _ (Sub.refl _) ?_
        simp (disch := omega) only [walk, lists, acts, mem, plain, seqs, maps, cells, resL, resV, intBin, ↓reduceIte, Nat.reduceAdd, Nat.reduceSub, Nat.reduceMul, Nat.reduceLeDiff, Nat.reduceEqDiff, Int.reduceToNat, Int.reduceEq, Int.reduceLT, Int.reduceLE, Int.reduceNeg, Int.reduceAdd, Int.reduceSub, Int.reduceMul, Nat.reducePow, Int.reduceNegSucc, w_rd, wrapI]
        refine slc_rd eB_len (rb.sub (sj (blk (rd bv at_ false) 49))) (by omega) (by omega) (by omega) fun v2 r2 => ?_
        have hc : (at_ : Int) + n = ((at_ + n.toNat : Nat) : Int) := by omega
        have e1 : (at_ + n.toNat) - at_ = n.toNat := by omega
        rw [hc] at r2
        simp only [Int.toNat_natCast, e1] at r2
        simp (disch := omega) only [walk, lists, acts, mem, plain, seqs, maps, cells, resL, resV, intBin, ↓reduceIte, Nat.reduceAdd, Nat.reduceSub, Nat.reduceMul, Nat.reduceLeDiff, Nat.reduceEqDiff, Int.reduceToNat, Int.reduceEq, Int.reduceLT, Int.reduceLE, Int.reduceNeg, Int.reduceAdd, Int.reduceSub, Int.reduceMul, Nat.reducePow, Int.reduceNegSucc, w_rd, wrapI, btos_rd r2, hc]
        refine .of (k _ (at_ + n.toNat) false (by omega) (by rw [List.length_take, List.length_drop]; omega) (fun h => h) fun _ t r ht hx => ?_)
        have ht2 : n.toNat = t.length := by omega
        rw [← List.drop_drop, ht, ht2]
        exact ⟨by simp, by simp, rfl⟩
  · simp (disch := omega) only [walk, lists, acts, mem, plain, seqs, maps, cells, resL, resV, intBin, ↓reduceIte, Nat.reduceAdd, Nat.reduceSub, Nat.reduceMul, Nat.reduceLeDiff, Nat.reduceEqDiff, Int.reduceToNat, Int.reduceEq, Int.reduceLT, Int.reduceLE, Int.reduceNeg, Int.reduceAdd, Int.reduceSub, Int.reduceMul, Nat.reducePow, Int.reduceNegSucc, w_rd, rb.len, wrapI]
    exact .of (k [] at_ true ha (by simp) (fun _ => rfl) fun h => by cases h)
end Go.Proofs.Ytllhdnfcneejaaa
