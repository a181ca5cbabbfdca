/- How the program writes lists of numbers. -/
import Derived.Test.YtllhdnfcneejaaaT17
import Derived.Test.YtllhdnfcneejaaaT12
set_option linter.unusedVariables false
set_option linter.unusedSimpArgs false
set_option maxRecDepth 20000
attribute [local irreducible] Go.Tk.vc Go.Tk.vops Go.Tk.vdr Go.Tk.vop Go.Tk.vfl Go.Tk.HCalls
namespace Go.Proofs.Ytllhdnfcneejaaa
open Go Go.Tk

theorem penNumbers_c {jp : Nat} {pv y : Value} {g h : H} {l : List UInt8} {ns : List Int} (o : oLs 5 eB 1 pv l g) (dj : ∀ q, Dj g ((jp, blk [q] 75) :: h)) (hjp : hget h jp = none) (r : rInts h y ns) (hl : l.length ≤ 17592186044416) (hs : allP smallP ns) (hn : ns.length ≤ 1099511627776) {R : Ending → H → Prop}
    (k : ∀ pv' g', oLs 5 eB 1 pv' (l ++ encIs ns) g' → (∀ q, Dj g' ((jp, blk [q] 75) :: h)) → R (.returned (.tuple #[])) (g' ++ ((jp, blk [pv'] 75) :: h))) :
    HCalls Try.prog 49 #[.pointer (some ⟨jp, 0, none⟩), y] (g ++ ((jp, blk [pv] 75) :: h)) R := by
  refine HCalls_ir (args := [.pointer (some ⟨jp, 0, none⟩), y]) Try.func49 ir49 ?_
  simp only [walk, lists, acts, mem, plain, seqs, maps, cells, resL, resV, intBin, ↓reduceIte, Nat.reduceAdd, Nat.reduceSub, Nat.reduceMul, Nat.reduceLeDiff, Nat.reduceEqDiff, Int.reduceToNat, Int.reduceEq, Int.reduceLT, Int.reduceLE, Int.reduceNeg, Int.reduceAdd, Int.reduceSub, Int.reduceMul, Nat.reducePow, Int.reduceNegSucc, r.len]
  refine vc_loop [8] (fun n' vs h' => ∃ (i : Nat) (pv' : Value) (g' : H), vs = [.int .i64 i] ∧ h' = g' ++ ((jp, blk [pv'] 75) :: h) ∧ (∀ q, Dj g' ((jp, blk [q] 75) :: h)) ∧ oLs 5 eB 1 pv' (l ++ encIs (ns.take i)) g' ∧ i ≤ ns.length ∧ n' = ns.length - i) ns.length rfl
    ⟨0, pv, g, rfl, rfl, dj, by simpa [encIs] using o, by omega, rfl⟩ ?_
  rintro n' f h' ⟨i, pv', g', hv, rfl, dj', o', hi, rfl⟩
  simp only [List.map_cons, List.map_nil, List.cons.injEq, and_true] at hv
  simp only [walk, lists, acts, mem, plain, seqs, maps, cells, resL, resV, intBin, ↓reduceIte, Nat.reduceAdd, Nat.reduceSub, Nat.reduceMul, Nat.reduceLeDiff, Nat.reduceEqDiff, Int.reduceToNat, Int.reduceEq, Int.reduceLT, Int.reduceLE, Int.reduceNeg, Int.reduceAdd, Int.reduceSub, Int.reduceMul, Nat.reducePow, Int.reduceNegSucc, wr, hv, r.len]
  refine ite_lt (fun c1 => ?_) fun c1 => ?_
  · have hi2 : i < ns.length := by omega
    have rM : rInts (g' ++ ((jp, blk [pv'] 75) :: h)) y ns := r.sub ((Sub.cons hjp (Sub.refl _)).trans (Sub.right (dj' _)))
    refine idx_leaf (i := i) eI_len rM rfl hi2 fun b1 o1 e1 => ?_
    simp only [walk, lists, acts, mem, plain, seqs, maps, cells, resL, resV, intBin, ↓reduceIte, Nat.reduceAdd, Nat.reduceSub, Nat.reduceMul, Nat.reduceLeDiff, Nat.reduceEqDiff, Int.reduceToNat, Int.reduceEq, Int.reduceLT, Int.reduceLE, Int.reduceNeg, Int.reduceAdd, Int.reduceSub, Int.reduceMul, Nat.reducePow, Int.reduceNegSucc, hread_1 e1]
    have sm : smallP ns[i] := hs _ (List.getElem_mem hi2)
    have hle := encIs_len (l := ns.take i) (fun x hx => hs x (List.mem_of_mem_take hx))
    rw [List.length_take] at hle
    refine penNumber_c o' dj' (by rw [List.length_append]; omega) ⟨by have := sm.1; omega, by have := sm.2; omega⟩ fun v2 g2 o2 d2 => ?_
    simp (disch := omega) only [walk, lists, acts, mem, plain, seqs, maps, cells, resL, resV, intBin, ↓reduceIte, Nat.reduceAdd, Nat.reduceSub, Nat.reduceMul, Nat.reduceLeDiff, Nat.reduceEqDiff, Int.reduceToNat, Int.reduceEq, Int.reduceLT, Int.reduceLE, Int.reduceNeg, Int.reduceAdd, Int.reduceSub, Int.reduceMul, Nat.reducePow, Int.reduceNegSucc, wrapI]
    refine ⟨ns.length - (i + 1), by omega, _, .refl _, i + 1, v2, g2, by simp, rfl, d2, ?_, by omega, rfl⟩
    rw [take_app_one hi2, encIs_app, encIs_one, ← List.append_assoc]; exact o2
  · have : ns.take i = ns := List.take_of_length_le (by omega)
    rw [this] at o'
    exact .of (k pv' g' o' dj')

theorem penCounted_c {jp : Nat} {pv y : Value} {g h : H} {l : List UInt8} {ns : List Int} (o : oLs 5 eB 1 pv l g) (dj : ∀ q, Dj g ((jp, blk [q] 75) :: h)) (hjp : hget h jp = none) (r : rInts h y ns) (hl : l.length ≤ 8796093022208) (hs : allP smallP ns) (hn : ns.length ≤ 1099511627776) {R : Ending → H → Prop}
    (k : ∀ pv' g', oLs 5 eB 1 pv' (l ++ encIs ((ns.length : Int) :: ns)) g' → (∀ q, Dj g' ((jp, blk [q] 75) :: h)) → R (.returned (.tuple #[])) (g' ++ ((jp, blk [pv'] 75) :: h))) :
    HCalls Try.prog 50 #[.pointer (some ⟨jp, 0, none⟩), y] (g ++ ((jp, blk [pv] 75) :: h)) R := by
  refine HCalls_ir (args := [.pointer (some ⟨jp, 0, none⟩), y]) Try.func50 ir50 ?_
  simp only [walk, lists, acts, mem, plain, seqs, maps, cells, resL, resV, intBin, ↓reduceIte, Nat.reduceAdd, Nat.reduceSub, Nat.reduceMul, Nat.reduceLeDiff, Nat.reduceEqDiff, Int.reduceToNat, Int.reduceEq, Int.reduceLT, Int.reduceLE, Int.reduceNeg, Int.reduceAdd, Int.reduceSub, Int.reduceMul, Nat.reducePow, Int.reduceNegSucc, r.len]
  have hb := encIs_hd (n := ns.length) (allP_nil smallP)
  rw [encIs_one] at hb
  refine penNumber_c o dj (by omega) (by omega) fun v2 g2 o2 d2 => ?_
  simp only [walk, lists, acts, mem, plain, seqs, maps, cells, resL, resV, intBin, ↓reduceIte, Nat.reduceAdd, Nat.reduceSub, Nat.reduceMul, Nat.reduceLeDiff, Nat.reduceEqDiff, Int.reduceToNat, Int.reduceEq, Int.reduceLT, Int.reduceLE, Int.reduceNeg, Int.reduceAdd, Int.reduceSub, Int.reduceMul, Nat.reducePow, Int.reduceNegSucc]
  refine penNumbers_c o2 d2 hjp r (by rw [List.length_append]; simp only [List.length_nil] at hb; omega) hs hn fun v3 g3 o3 d3 => ?_
  simp only [walk, lists, acts, mem, plain, seqs, maps, cells, resL, resV, intBin, ↓reduceIte, Nat.reduceAdd, Nat.reduceSub, Nat.reduceMul, Nat.reduceLeDiff, Nat.reduceEqDiff, Int.reduceToNat, Int.reduceEq, Int.reduceLT, Int.reduceLE, Int.reduceNeg, Int.reduceAdd, Int.reduceSub, Int.reduceMul, Nat.reducePow, Int.reduceNegSucc]
  refine .of (k v3 g3 ?_ d3)
  rw [encIs_cons, ← List.append_assoc]; exact o3
end Go.Proofs.Ytllhdnfcneejaaa
