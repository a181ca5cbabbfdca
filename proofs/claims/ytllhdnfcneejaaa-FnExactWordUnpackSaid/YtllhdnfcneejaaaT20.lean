/- How the program reads numbers. -/
import Derived.Test.YtllhdnfcneejaaaT19
set_option linter.unusedVariables false
set_option linter.unusedSimpArgs false
set_option maxRecDepth 20000
attribute [local irreducible] Go.Tk.vc Go.Tk.vops Go.Tk.vdr Go.Tk.vop Go.Tk.vfl Go.Tk.HCalls
namespace Go.Proofs.Ytllhdnfcneejaaa
open Go Go.Tk

/-- A fault, and where it is. -/
def errV : Option (Nat × Int) → Value
  | none => .nilIface
  | some (a, f) => .iface 129 (.agg #[.int .i64 a, .iface 56 (.int .i64 f)])
theorem errV_one (e : Option (Nat × Int)) : vone (errV e) = true := by
  cases e with
  | none => rfl
  | some p => obtain ⟨a, f⟩ := p; rfl
/-- The program's reader's cells. -/
def cu (bv : Value) (at_ : Nat) (e : Value) : List Value := [bv, .int .i64 at_, e]
theorem w_cu : (∀ b a d, (cu b a d).length = 3) ∧ (∀ b a d, (cu b a d)[0]? = some b) ∧ (∀ b a d, (cu b a d)[1]? = some (.int .i64 a)) ∧ (∀ b a d, (cu b a d)[2]? = some d) ∧
    (∀ b a d (n : Nat), splice (cu b a d) 1 [.int .i64 n] = cu b n d) ∧ (∀ b a d e, splice (cu b a d) 2 [e] = cu b a e) :=
  ⟨fun _ _ _ => rfl, fun _ _ _ => rfl, fun _ _ _ => rfl, fun _ _ _ => rfl, fun _ _ _ _ => rfl, fun _ _ _ _ => rfl⟩

theorem fail_c {h0 : H} {j at_ : Nat} {bv : Value} {e : Option (Nat × Int)} {f : Int} {R : Ending → H → Prop}
    (k : R (.returned (.tuple #[])) ((j, blk (cu bv at_ (errV (e.or (some (at_, f))))) 54) :: h0)) :
    HCalls Try.prog 77 #[.pointer (some ⟨j, 0, none⟩), .int .i64 f] ((j, blk (cu bv at_ (errV e)) 54) :: h0) R := by
  refine HCalls_ir (args := [.pointer (some ⟨j, 0, none⟩), .int .i64 f]) Try.func77 ir77 ?_
  cases e with
  | none =>
    simp only [walk, lists, acts, mem, plain, seqs, maps, cells, resL, resV, intBin, ↓reduceIte, Nat.reduceAdd, Nat.reduceSub, Nat.reduceMul, Nat.reduceLeDiff, Nat.reduceEqDiff, Int.reduceToNat, Int.reduceEq, Int.reduceLT, Int.reduceLE, Int.reduceNeg, Int.reduceAdd, Int.reduceSub, Int.reduceMul, Nat.reducePow, Int.reduceNegSucc, w_cu, errV]
    exact ⟨rfl, .of k⟩
  | some p =>
    obtain ⟨a, f'⟩ := p
    simp only [walk, lists, acts, mem, plain, seqs, maps, cells, resL, resV, intBin, ↓reduceIte, Nat.reduceAdd, Nat.reduceSub, Nat.reduceMul, Nat.reduceLeDiff, Nat.reduceEqDiff, Int.reduceToNat, Int.reduceEq, Int.reduceLT, Int.reduceLE, Int.reduceNeg, Int.reduceAdd, Int.reduceSub, Int.reduceMul, Nat.reducePow, Int.reduceNegSucc, w_cu, errV]
    exact .of k

theorem and127b (x : Nat) (h : x < 256) : IntKind.u8.wrap ((BitVec.ofInt IntKind.u8.bits (x : Int) &&& BitVec.ofInt IntKind.u8.bits 127).toNat : Int) = ((x % 128 : Nat) : Int) := by
  have e : (BitVec.ofInt IntKind.u8.bits (x : Int) &&& BitVec.ofInt IntKind.u8.bits 127).toNat = x % 128 := by
    rw [BitVec.toNat_and, BitVec.toNat_ofInt, BitVec.toNat_ofInt]
    show ((x : Int) % (2 ^ 8 : Nat)).toNat &&& ((127 : Int) % (2 ^ 8 : Nat)).toNat = x % 128
    have h1 : ((x : Int) % (2 ^ 8 : Nat)).toNat = x := by
      rw [show ((2 ^ 8 : Nat) : Int) = 256 from rfl]; omega
    rw [h1, show ((127 : Int) % (2 ^ 8 : Nat)).toNat = 2 ^ 7 - 1 from rfl, Nat.and_two_pow_sub_one_eq_mod]
  rw [e, u8_wrap]; omega
theorem or64 (a b s : Nat) (ha : a < 2 ^ s) (hs : a + b * 2 ^ s < 18446744073709551616) : IntKind.u64.wrap ((BitVec.ofInt IntKind.u64.bits (a : Int) ||| BitVec.ofInt IntKind.u64.bits ((b * 2 ^ s : Nat) : Int)).toNat : Int) = ((a + b * 2 ^ s : Nat) : Int) := by
  have e : (BitVec.ofInt IntKind.u64.bits (a : Int) ||| BitVec.ofInt IntKind.u64.bits ((b * 2 ^ s : Nat) : Int)).toNat = a + b * 2 ^ s := by
    rw [BitVec.toNat_or, BitVec.toNat_ofInt, BitVec.toNat_ofInt]
    show ((a : Int) % (2 ^ 64 : Nat)).toNat ||| (((b * 2 ^ s : Nat) : Int) % (2 ^ 64 : Nat)).toNat = a + b * 2 ^ s
    have h1 : ((a : Int) % (2 ^ 64 : Nat)).toNat = a := by
      rw [show ((2 ^ 64 : Nat) : Int) = 18446744073709551616 from rfl]; omega
    have h2 : (((b * 2 ^ s : Nat) : Int) % (2 ^ 64 : Nat)).toNat = b * 2 ^ s := by
      rw [show ((2 ^ 64 : Nat) : Int) = 18446744073709551616 from rfl]; omega
    rw [h1, h2, ← Nat.shiftLeft_eq, Nat.or_comm, ← Nat.shiftLeft_add_eq_or_of_lt ha, Nat.add_comm]
  rw [e, wrapU _ (by omega)]
end Go.Proofs.Ytllhdnfcneejaaa
