/- What errors.Is says of the reader's fault, and whether rows of bytes are equal. -/
import Derived.Test.YtllhdnfcneejaaaT25
import Derived.Test.YtllhdnfcneejaaaT22
set_option linter.unusedVariables false
set_option linter.unusedSimpArgs false
set_option maxRecDepth 20000
attribute [local irreducible] Go.Tk.vc Go.Tk.vops Go.Tk.vdr Go.Tk.vop Go.Tk.vfl Go.Tk.HCalls
namespace Go.Proofs.Ytllhdnfcneejaaa
open Go Go.Tk

def isF (e : Option (Nat × Int)) (g : Int) : Bool := match e with
  | none => false
  | some (_, f) => f == g

theorem is_c {h : H} {e : Option (Nat × Int)} {g : Int} {R : Ending → H → Prop} (k : R (.returned (.bool (isF e g))) h) :
    HCalls Try.prog 29 #[errV e, .iface 56 (.int .i64 g)] h R := by
  refine .of_calls fun w s => ?_
  cases e with
  | none =>
    refine (isNil g w).mono ?_
    rintro e w' ⟨rfl, rfl⟩
    exact ⟨h, k, .refl s⟩
  | some p =>
    obtain ⟨a, f⟩ := p
    refine (isWrap a f g w).mono ?_
    rintro e w' ⟨rfl, o, rfl⟩
    exact ⟨h, k, .one s⟩

theorem equal_c {h : H} {x y : Value} {a b : List UInt8} (ra : rBytes h x a) (rb : rBytes h y b) (hb : b.length ≤ 1099511627776) {R : Ending → H → Prop} (k : R (.returned (.bool (decide (a = b)))) h) :
    HCalls Try.prog 30 #[x, y] h R := by
  refine HCalls_ir (args := [x, y]) Try.func30 ir30 ?_
  simp only [walk, lists, acts, mem, plain, seqs, maps, cells, resL, resV, intBin, ↓reduceIte, Nat.reduceAdd, Nat.reduceSub, Nat.reduceMul, Nat.reduceLeDiff, Nat.reduceEqDiff, Int.reduceToNat, Int.reduceEq, Int.reduceLT, Int.reduceLE, Int.reduceNeg, Int.reduceAdd, Int.reduceSub, Int.reduceMul, Nat.reducePow, Int.reduceNegSucc, ra.len, rb.len]
  refine ite_ne (fun c1 => .of (kF k fun e => c1 (by rw [e]))) fun c1 => ?_
  have hl : a.length = b.length := by omega
  refine vc_loop [13] (fun n' vs h' => ∃ (i : Nat), vs = [.int .i64 i] ∧ h' = h ∧ i ≤ a.length ∧ n' = a.length - i ∧ a.take i = b.take i) a.length rfl ⟨0, rfl, rfl, by omega, rfl, by simp⟩ ?_
  rintro n' f h' ⟨i, hv, rfl, hi, rfl, ht⟩
  simp only [List.map_cons, List.map_nil, List.cons.injEq, and_true] at hv
  simp only [walk, lists, acts, mem, plain, seqs, maps, cells, resL, resV, intBin, ↓reduceIte, Nat.reduceAdd, Nat.reduceSub, Nat.reduceMul, Nat.reduceLeDiff, Nat.reduceEqDiff, Int.reduceToNat, Int.reduceEq, Int.reduceLT, Int.reduceLE, Int.reduceNeg, Int.reduceAdd, Int.reduceSub, Int.reduceMul, Nat.reducePow, Int.reduceNegSucc, wr, hv]
  refine ite_lt (fun c2 => ?_) fun c2 => ?_
  · have hi2 : i < a.length := by omega
    refine vc_draw _ (Sub.refl _) ?_
    simp only [walk, lists, acts, mem, plain, seqs, maps, cells, resL, resV, intBin, ↓reduceIte, Nat.reduceAdd, Nat.reduceSub, Nat.reduceMul, Nat.reduceLeDiff, Nat.reduceEqDiff, Int.reduceToNat, Int.reduceEq, Int.reduceLT, Int.reduceLE, Int.reduceNeg, Int.reduceAdd, Int.reduceSub, Int.reduceMul, Nat.reducePow, Int.reduceNegSucc]
    refine idx_leaf (i := i) eB_len ra rfl hi2 fun b1 o1 e1 => ?_
    simp only [walk, lists, acts, mem, plain, seqs, maps, cells, resL, resV, intBin, ↓reduceIte, Nat.reduceAdd, Nat.reduceSub, Nat.reduceMul, Nat.reduceLeDiff, Nat.reduceEqDiff, Int.reduceToNat, Int.reduceEq, Int.reduceLT, Int.reduceLE, Int.reduceNeg, Int.reduceAdd, Int.reduceSub, Int.reduceMul, Nat.reducePow, Int.reduceNegSucc, hread_1 e1]
    refine idx_leaf (i := i) eB_len rb rfl (by omega) fun b2 o2 e2 => ?_
    simp only [walk, lists, acts, mem, plain, seqs, maps, cells, resL, resV, intBin, ↓reduceIte, Nat.reduceAdd, Nat.reduceSub, Nat.reduceMul, Nat.reduceLeDiff, Nat.reduceEqDiff, Int.reduceToNat, Int.reduceEq, Int.reduceLT, Int.reduceLE, Int.reduceNeg, Int.reduceAdd, Int.reduceSub, Int.reduceMul, Nat.reducePow, Int.reduceNegSucc, hread_1 e2]
    refine ite_ne (fun d => .of (kF k (ne_at hi2 (by omega) fun e => d (by rw [e])))) fun d => ?_
    simp (disch := omega) only [wrapI]
    exact ⟨a.length - (i + 1), by omega, h', .refl _, i + 1, by simp, rfl, by omega, rfl, take_more _ _ ht (UInt8.toNat_inj.1 (by omega))⟩
  · exact .of (kT k (take_all (by omega) hl ht))
end Go.Proofs.Ytllhdnfcneejaaa
