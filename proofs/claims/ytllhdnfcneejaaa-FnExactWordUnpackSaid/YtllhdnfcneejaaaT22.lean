/- How the program reads counts, texts and lists. -/
import Derived.Test.YtllhdnfcneejaaaT21
import Derived.Test.YtllhdnfcneejaaaA19
import Derived.Test.YtllhdnfcneejaaaT13
set_option linter.unusedVariables false
set_option linter.unusedSimpArgs false
set_option maxRecDepth 20000
attribute [local irreducible] Go.Tk.vc Go.Tk.vops Go.Tk.vdr Go.Tk.vop Go.Tk.vfl Go.Tk.HCalls
namespace Go.Proofs.Ytllhdnfcneejaaa
open Go Go.Tk

theorem count_c {h0 : H} {j at_ : Nat} {bv : Value} {l : List UInt8} {e : Option (Nat × Int)} (hj : hget h0 j = none) (rb : rBytes h0 bv l) (hl : l.length ≤ 1099511627776) (ha : at_ ≤ l.length) (he : okE e) {R : Ending → H → Prop}
    (k : ∀ (n at' : Nat) (e' : Option (Nat × Int)), at' ≤ l.length → n ≤ l.length - at' → okE e' → (e' = none → e = none) → (e = none → ∀ (m : Nat) r, l.drop at_ = encI (m : Int) ++ r → m ≤ 9999 → m ≤ r.length → n = m ∧ l.drop at' = r ∧ e' = none) →
      R (.returned (.int .i64 n)) ((j, blk (cu bv at' (errV e')) 54) :: h0)) :
    HCalls Try.prog 76 #[.pointer (some ⟨j, 0, none⟩)] ((j, blk (cu bv at_ (errV e)) 54) :: h0) R := by
  refine HCalls_ir (args := [.pointer (some ⟨j, 0, none⟩)]) Try.func76 ir76 ?_
  simp only [walk, lists, acts, mem, plain, seqs, maps, cells, resL, resV, intBin, ↓reduceIte, Nat.reduceAdd, Nat.reduceSub, Nat.reduceMul, Nat.reduceLeDiff, Nat.reduceEqDiff, Int.reduceToNat, Int.reduceEq, Int.reduceLT, Int.reduceLE, Int.reduceNeg, Int.reduceAdd, Int.reduceSub, Int.reduceMul, Nat.reducePow, Int.reduceNegSucc, w_cu]
  refine number_c hj rb hl ha he fun n at1 e1 ha1 hn he1 hen ex => ?_
  simp only [walk, lists, acts, mem, plain, seqs, maps, cells, resL, resV, intBin, ↓reduceIte, Nat.reduceAdd, Nat.reduceSub, Nat.reduceMul, Nat.reduceLeDiff, Nat.reduceEqDiff, Int.reduceToNat, Int.reduceEq, Int.reduceLT, Int.reduceLE, Int.reduceNeg, Int.reduceAdd, Int.reduceSub, Int.reduceMul, Nat.reducePow, Int.reduceNegSucc, w_cu]
  have exm : e = none → ∀ (m : Nat) r, l.drop at_ = encI (m : Int) ++ r → m ≤ 9999 → n = m ∧ l.drop at1 = r ∧ e1 = none := fun h m r hx hm => by
    have := ex h (zig (m : Int)) r ⟨hx, small_num ⟨by omega, by omega⟩⟩
    rw [unzig_zig] at this; exact this
  have bad : (∀ (m : Nat) r, l.drop at_ = encI (m : Int) ++ r → m ≤ 9999 → m ≤ r.length → e = none → False) → dP R (.returned (.int .i64 0)) ((j, blk (cu bv at1 (errV (e1.or (some (at1, 1))))) 54) :: h0) := fun no =>
    .of (k 0 at1 (e1.or (some (at1, 1))) ha1 (by omega) (fun a f h => by
      cases e1 with
      | none => cases h; exact .inl rfl
      | some p => exact he1 a f h) (fun h => by cases e1 <;> cases h) fun h m r hx hm hr => (no m r hx hm hr h).elim)
  refine vc_draw _ (Sub.refl _) ?_
  simp only [walk, lists, acts, mem, plain, seqs, maps, cells, resL, resV, intBin, ↓reduceIte, Nat.reduceAdd, Nat.reduceSub, Nat.reduceMul, Nat.reduceLeDiff, Nat.reduceEqDiff, Int.reduceToNat, Int.reduceEq, Int.reduceLT, Int.reduceLE, Int.reduceNeg, Int.reduceAdd, Int.reduceSub, Int.reduceMul, Nat.reducePow, Int.reduceNegSucc, w_cu, rb.len]
  simp (disch := omega) only [wrapI]
  refine ite_lt (fun c1 => ?_) fun c1 => ?_
  · refine fail_c ?_
    simp only [walk, lists, acts, mem, plain, seqs, maps, cells, resL, resV, intBin, ↓reduceIte, Nat.reduceAdd, Nat.reduceSub, Nat.reduceMul, Nat.reduceLeDiff, Nat.reduceEqDiff, Int.reduceToNat, Int.reduceEq, Int.reduceLT, Int.reduceLE, Int.reduceNeg, Int.reduceAdd, Int.reduceSub, Int.reduceMul, Nat.reducePow, Int.reduceNegSucc]
    refine bad fun m r hx hm hr h => ?_
    have := (exm h m r hx hm).1
    omega
  · refine ite_lt (fun c2 => ?_) fun c2 => ?_
    · refine fail_c ?_
      simp only [walk, lists, acts, mem, plain, seqs, maps, cells, resL, resV, intBin, ↓reduceIte, Nat.reduceAdd, Nat.reduceSub, Nat.reduceMul, Nat.reduceLeDiff, Nat.reduceEqDiff, Int.reduceToNat, Int.reduceEq, Int.reduceLT, Int.reduceLE, Int.reduceNeg, Int.reduceAdd, Int.reduceSub, Int.reduceMul, Nat.reducePow, Int.reduceNegSucc]
      refine bad fun m r hx hm hr h => ?_
      obtain ⟨h1, h2, _⟩ := exm h m r hx hm
      have := congrArg List.length h2
      simp only [List.length_drop] at this
      omega
    · have hc : n = ((n.toNat : Nat) : Int) := by omega
      rw [hc]
      refine .of (k n.toNat at1 e1 ha1 (by omega) he1 hen fun h m r hx hm hr => ?_)
      obtain ⟨h1, h2, h3⟩ := exm h m r hx hm
      exact ⟨by omega, h2, h3⟩

theorem implText_c {h0 : H} {j at_ : Nat} {bv : Value} {l : List UInt8} {e : Option (Nat × Int)} (hj : hget h0 j = none) (rb : rBytes h0 bv l) (hl : l.length ≤ 1099511627776) (ha : at_ ≤ l.length) (he : okE e) {R : Ending → H → Prop}
    (k : ∀ (s : List UInt8) (at' : Nat) (e' : Option (Nat × Int)), at' ≤ l.length → s.length ≤ l.length → okE e' → (e' = none → e = none) → (e = none → ∀ t r, l.drop at_ = encI (t.length : Int) ++ (t ++ r) → t.length ≤ 9999 → s = t ∧ l.drop at' = r ∧ e' = none) →
      R (.returned (.string ⟨s.toArray⟩)) ((j, blk (cu bv at' (errV e')) 54) :: h0)) :
    HCalls Try.prog 74 #[.pointer (some ⟨j, 0, none⟩)] ((j, blk (cu bv at_ (errV e)) 54) :: h0) R := by
  refine HCalls_ir (args := [.pointer (some ⟨j, 0, none⟩)]) Try.func74 ir74 ?_
  simp only [walk, lists, acts, mem, plain, seqs, maps, cells, resL, resV, intBin, ↓reduceIte, Nat.reduceAdd, Nat.reduceSub, Nat.reduceMul, Nat.reduceLeDiff, Nat.reduceEqDiff, Int.reduceToNat, Int.reduceEq, Int.reduceLT, Int.reduceLE, Int.reduceNeg, Int.reduceAdd, Int.reduceSub, Int.reduceMul, Nat.reducePow, Int.reduceNegSucc, w_cu]
  refine count_c hj rb hl ha he fun n at1 e1 ha1 hn he1 hen ex => ?_
  have sj := fun o => Sub.cons (o := o) hj (Sub.refl h0)
  have hc : (at1 : Int) + (n : Int) = ((at1 + n : Nat) : Int) := by omega
  simp only [walk, lists, acts, mem, plain, seqs, maps, cells, resL, resV, intBin, ↓reduceIte, Nat.reduceAdd, Nat.reduceSub, Nat.reduceMul, Nat.reduceLeDiff, Nat.reduceEqDiff, Int.reduceToNat, Int.reduceEq, Int.reduceLT, Int.reduceLE, Int.reduceNeg, Int.reduceAdd, Int.reduceSub, Int.reduceMul, Nat.reducePow, Int.reduceNegSucc, w_cu]
  simp (disch := omega) only [walk, lists, acts, mem, plain, seqs, maps, cells, resL, resV, intBin, ↓reduceIte, Nat.reduceAdd, Nat.reduceSub, Nat.reduceMul, Nat.reduceLeDiff, Nat.reduceEqDiff, Int.reduceToNat, Int.reduceEq, Int.reduceLT, Int.reduceLE, Int.reduceNeg, Int.reduceAdd, Int.reduceSub, Int.reduceMul, Nat.reducePow, Int.reduceNegSucc, w_cu, wrapI, hc]
  refine vc_draw _ (Sub.refl _) ?_
  have hc2 : ((at1 + n : Nat) : Int) - (n : Int) = (at1 : Int) := by omega
  simp (disch := omega) only [walk, lists, acts, mem, plain, seqs, maps, cells, resL, resV, intBin, ↓reduceIte, Nat.reduceAdd, Nat.reduceSub, Nat.reduceMul, Nat.reduceLeDiff, Nat.reduceEqDiff, Int.reduceToNat, Int.reduceEq, Int.reduceLT, Int.reduceLE, Int.reduceNeg, Int.reduceAdd, Int.reduceSub, Int.reduceMul, Nat.reducePow, Int.reduceNegSucc, w_cu, wrapI, hc2]
  refine slc_rd eB_len (rb.sub (sj (blk (cu bv (at1 + n) (errV e1)) 54))) (by omega) (by omega) (by omega) fun v2 r2 => ?_
  simp only [Int.toNat_natCast] at r2
  rw [show at1 + n - at1 = n from by omega] at r2
  simp only [walk, lists, acts, mem, plain, seqs, maps, cells, resL, resV, intBin, ↓reduceIte, Nat.reduceAdd, Nat.reduceSub, Nat.reduceMul, Nat.reduceLeDiff, Nat.reduceEqDiff, Int.reduceToNat, Int.reduceEq, Int.reduceLT, Int.reduceLE, Int.reduceNeg, Int.reduceAdd, Int.reduceSub, Int.reduceMul, Nat.reducePow, Int.reduceNegSucc, w_cu, btos_rd r2]
  refine .of (k _ (at1 + n) e1 (by omega) (by rw [List.length_take, List.length_drop]; omega) he1 hen fun h t r hx ht => ?_)
  obtain ⟨h1, h2, h3⟩ := ex h t.length (t ++ r) hx ht (by simp)
  rw [← List.drop_drop, h2, h1]
  exact ⟨by simp, by simp, h3⟩
end Go.Proofs.Ytllhdnfcneejaaa
