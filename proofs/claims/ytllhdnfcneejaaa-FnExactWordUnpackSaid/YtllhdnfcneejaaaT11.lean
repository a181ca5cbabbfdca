/- How the reference writes words. -/
import Derived.Test.YtllhdnfcneejaaaT10
import Derived.Test.YtllhdnfcneejaaaP3
set_option linter.unusedVariables false
set_option linter.unusedSimpArgs false
set_option maxRecDepth 20000
attribute [local irreducible] Go.Tk.vc Go.Tk.vops Go.Tk.vdr Go.Tk.vop Go.Tk.vfl Go.Tk.HCalls
namespace Go.Proofs.Ytllhdnfcneejaaa
open Go Go.Tk

theorem l13Nums_c {g h : H} {v y : Value} {l : List UInt8} {ns : List Int} (o : oLs 5 eB 1 v l g) (dj : Dj g h) (r : rInts h y ns) (hl : l.length ≤ 17592186044416) (hs : allP smallP ns) (hn : ns.length ≤ 1099511627776) {R : Ending → H → Prop}
    (k : ∀ v' g', oLs 5 eB 1 v' (l ++ encIs ((ns.length : Int) :: ns)) g' → Dj g' h → R (.returned v') (g' ++ h)) : HCalls Try.prog 42 #[v, y] (g ++ h) R := by
  refine HCalls_ir (args := [v, y]) Try.func42 ir42 ?_
  simp only [walk, lists, acts, mem, plain, seqs, maps, cells, resL, resV, intBin, ↓reduceIte, Nat.reduceAdd, Nat.reduceSub, Nat.reduceMul, Nat.reduceLeDiff, Nat.reduceEqDiff, Int.reduceToNat, Int.reduceEq, Int.reduceLT, Int.reduceLE, Int.reduceNeg, Int.reduceAdd, Int.reduceSub, Int.reduceMul, Nat.reducePow, Int.reduceNegSucc, r.len]
  refine l13Num_c o dj (by omega) (by omega) fun v1 g1 o1 d1 => ?_
  simp only [walk, lists, acts, mem, plain, seqs, maps, cells, resL, resV, intBin, ↓reduceIte, Nat.reduceAdd, Nat.reduceSub, Nat.reduceMul, Nat.reduceLeDiff, Nat.reduceEqDiff, Int.reduceToNat, Int.reduceEq, Int.reduceLT, Int.reduceLE, Int.reduceNeg, Int.reduceAdd, Int.reduceSub, Int.reduceMul, Nat.reducePow, Int.reduceNegSucc, r.len]
  have h0 : (encI (ns.length : Int)).length ≤ 2 * ns.length + 1 := by
    have := encN_le (zig (ns.length : Int))
    have e : zig (ns.length : Int) = 2 * ns.length := by unfold zig; rw [if_neg (by omega)]; omega
    unfold encI
    rw [e] at this ⊢; exact this
  refine vc_loop [0, 5] (fun n' vs h' => ∃ (i : Nat) (v' : Value) (g' : H), vs = [v', .int .i64 i] ∧ h' = g' ++ h ∧ Dj g' h ∧ oLs 5 eB 1 v' (l ++ encIs ((ns.length : Int) :: ns.take i)) g' ∧ i ≤ ns.length ∧ n' = ns.length - i) ns.length rfl
    ⟨0, v1, g1, rfl, rfl, d1, by rw [List.take_zero, encIs_one]; exact o1, by omega, rfl⟩ ?_
  rintro n' f h' ⟨i, v', g', hv, rfl, dj', o', hi, rfl⟩
  simp only [List.map_cons, List.map_nil, List.cons.injEq, and_true] at hv
  simp only [walk, lists, acts, mem, plain, seqs, maps, cells, resL, resV, intBin, ↓reduceIte, Nat.reduceAdd, Nat.reduceSub, Nat.reduceMul, Nat.reduceLeDiff, Nat.reduceEqDiff, Int.reduceToNat, Int.reduceEq, Int.reduceLT, Int.reduceLE, Int.reduceNeg, Int.reduceAdd, Int.reduceSub, Int.reduceMul, Nat.reducePow, Int.reduceNegSucc, wr, hv.1, hv.2, r.len]
  refine ite_lt (fun c1 => ?_) fun c1 => ?_
  · have hi2 : i < ns.length := by omega
    refine idx_leaf (i := i) eI_len (r.sub (Sub.right dj')) rfl hi2 fun b1 o1 e1 => ?_
    simp only [walk, lists, acts, mem, plain, seqs, maps, cells, resL, resV, intBin, ↓reduceIte, Nat.reduceAdd, Nat.reduceSub, Nat.reduceMul, Nat.reduceLeDiff, Nat.reduceEqDiff, Int.reduceToNat, Int.reduceEq, Int.reduceLT, Int.reduceLE, Int.reduceNeg, Int.reduceAdd, Int.reduceSub, Int.reduceMul, Nat.reducePow, Int.reduceNegSucc, hread_1 e1]
    have sm : smallP ns[i] := hs _ (List.getElem_mem hi2)
    have hle : (encIs ((ns.length : Int) :: ns.take i)).length ≤ 5 * ns.length + 1 := by
      rw [encIs_cons, List.length_append]
      have := encIs_len (l := ns.take i) (fun x hx => hs x (List.mem_of_mem_take hx))
      rw [List.length_take] at this
      omega
    refine l13Num_c o' dj' (by rw [List.length_append]; omega) ⟨by have := sm.1; omega, by have := sm.2; omega⟩ fun v2 g2 o2 d2 => ?_
    simp (disch := omega) only [walk, lists, acts, mem, plain, seqs, maps, cells, resL, resV, intBin, ↓reduceIte, Nat.reduceAdd, Nat.reduceSub, Nat.reduceMul, Nat.reduceLeDiff, Nat.reduceEqDiff, Int.reduceToNat, Int.reduceEq, Int.reduceLT, Int.reduceLE, Int.reduceNeg, Int.reduceAdd, Int.reduceSub, Int.reduceMul, Nat.reducePow, Int.reduceNegSucc, wrapI]
    refine ⟨ns.length - (i + 1), by omega, _, .refl _, i + 1, v2, g2, by simp, rfl, d2, ?_, by omega, rfl⟩
    rw [take_app_one hi2, ← List.cons_append, encIs_app, encIs_one, ← List.append_assoc]; exact o2
  · have : ns.take i = ns := List.take_of_length_le (by omega)
    rw [this] at o'
    exact .of (k v' g' o' dj')

theorem l13Yes_c {b : Bool} {h : H} {R : Ending → H → Prop} (k : R (.returned (.int .i64 (yesN b))) h) : HCalls Try.prog 40 #[.bool b] h R := by
  refine HCalls_ir (args := [.bool b]) Try.func40 ir40 ?_
  simp only [walk, lists, acts, mem, plain, seqs, maps, cells, resL, resV, intBin, ↓reduceIte, Nat.reduceAdd, Nat.reduceSub, Nat.reduceMul, Nat.reduceLeDiff, Nat.reduceEqDiff, Int.reduceToNat, Int.reduceEq, Int.reduceLT, Int.reduceLE, Int.reduceNeg, Int.reduceAdd, Int.reduceSub, Int.reduceMul, Nat.reducePow, Int.reduceNegSucc]
  cases b
  · simp only [walk, lists, acts, mem, plain, seqs, maps, cells, resL, resV, intBin, ↓reduceIte, Nat.reduceAdd, Nat.reduceSub, Nat.reduceMul, Nat.reduceLeDiff, Nat.reduceEqDiff, Int.reduceToNat, Int.reduceEq, Int.reduceLT, Int.reduceLE, Int.reduceNeg, Int.reduceAdd, Int.reduceSub, Int.reduceMul, Nat.reducePow, Int.reduceNegSucc]; exact .of k
  · simp only [walk, lists, acts, mem, plain, seqs, maps, cells, resL, resV, intBin, ↓reduceIte, Nat.reduceAdd, Nat.reduceSub, Nat.reduceMul, Nat.reduceLeDiff, Nat.reduceEqDiff, Int.reduceToNat, Int.reduceEq, Int.reduceLT, Int.reduceLE, Int.reduceNeg, Int.reduceAdd, Int.reduceSub, Int.reduceMul, Nat.reducePow, Int.reduceNegSucc]; exact .of k
end Go.Proofs.Ytllhdnfcneejaaa
