/- How the reference writes numbers. -/
import Derived.Test.YtllhdnfcneejaaaT9
import Derived.Test.YtllhdnfcneejaaaA18
set_option linter.unusedVariables false
set_option linter.unusedSimpArgs false
set_option maxRecDepth 20000
attribute [local irreducible] Go.Tk.vc Go.Tk.vops Go.Tk.vdr Go.Tk.vop Go.Tk.vfl Go.Tk.HCalls
namespace Go.Proofs.Ytllhdnfcneejaaa
open Go Go.Tk

theorem tBytes : Try.prog.underlying 22 = some (.slice 5) := by kernel_rfl
theorem tInts : Try.prog.underlying 23 = some (.slice 3) := by kernel_rfl
theorem tPen : Try.prog.underlying 75 = some (.slice 5) := by kernel_rfl
theorem tPairs : Try.prog.underlying 24 = some (.slice 69) := by kernel_rfl
theorem tText : Try.prog.underlying 9 = some .string := by kernel_rfl
theorem tByte : Try.prog.underlying 5 = some (.int .u8) := by kernel_rfl
theorem iByte : InfoIs Try.prog 5 1 1 := infoB_is (by kernel_rfl)
theorem iInt : InfoIs Try.prog 3 1 8 := infoB_is (by kernel_rfl)
theorem iPair : InfoIs Try.prog 69 2 16 := infoB_is (by kernel_rfl)

theorem l13Num_c {g h : H} {v : Value} {l : List UInt8} {n : Int} (o : oLs 5 eB 1 v l g) (dj : Dj g h) (hl : l.length ≤ 35184372088832) (hn : -1099511627776 ≤ n ∧ n ≤ 1099511627776) {R : Ending → H → Prop}
    (k : ∀ v' g', oLs 5 eB 1 v' (l ++ encI n) g' → Dj g' h → R (.returned v') (g' ++ h)) : HCalls Try.prog 41 #[v, .int .i64 n] (g ++ h) R := by
  refine HCalls_ir (args := [v, .int .i64 n]) Try.func41 ir41 ?_
  simp only [walk, lists, acts, mem, plain, seqs, maps, cells, resL, resV, intBin, ↓reduceIte, Nat.reduceAdd, Nat.reduceSub, Nat.reduceMul, Nat.reduceLeDiff, Nat.reduceEqDiff, Int.reduceToNat, Int.reduceEq, Int.reduceLT, Int.reduceLE, Int.reduceNeg, Int.reduceAdd, Int.reduceSub, Int.reduceMul, Nat.reducePow, Int.reduceNegSucc]
  have hzb : zig n ≤ 2199023255552 := by unfold zig; split <;> omega
  refine ite_lt (fun c0 => ?_) fun c0 => ?_
  · have hz : (-2 : Int) * n - 1 = (zig n : Int) := by unfold zig; rw [if_pos c0]; omega
    simp (disch := omega) only [wrapI, hz]
    refine vc_loop [0, 1] (fun n' vs h' => ∃ (m : Nat) (v' : Value) (l' : List UInt8) (g' : H), vs = [v', .int .i64 m] ∧ h' = g' ++ h ∧ Dj g' h ∧ oLs 5 eB 1 v' l' g' ∧ l' ++ encN m = l ++ encI n ∧ m ≤ zig n ∧ m = n') (zig n) rfl ⟨zig n, v, l, g, rfl, rfl, dj, o, rfl, Nat.le_refl _, rfl⟩ ?_
    rintro n' f h' ⟨m, v', l', g', hv, rfl, dj', o', hx, hm, rfl⟩
    simp only [List.map_cons, List.map_nil, List.cons.injEq, and_true] at hv
    have hlen : l'.length ≤ 40000000000000 := by
      have e1 := congrArg List.length hx
      have e2 := encN_le (zig n)
      simp only [List.length_append, encI] at e1
      omega
    have hm128 : (128 : Int) + ((m % 128 : Nat) : Int) = ((128 + m % 128 : Nat) : Int) := by omega
    simp (disch := omega) only [walk, lists, acts, mem, plain, seqs, maps, cells, resL, resV, intBin, ↓reduceIte, Nat.reduceAdd, Nat.reduceSub, Nat.reduceMul, Nat.reduceLeDiff, Nat.reduceEqDiff, Int.reduceToNat, Int.reduceEq, Int.reduceLT, Int.reduceLE, Int.reduceNeg, Int.reduceAdd, Int.reduceSub, Int.reduceMul, Nat.reducePow, Int.reduceNegSucc, wr, hv.1, hv.2, tm128, td128, wrapI, hm128, u8_of]
    refine ite_lt (fun c1 => ?_) fun c1 => ?_
    · refine newB_intro fun j hj => ?_
      simp only [walk, lists, acts, mem, plain, seqs, maps, cells, resL, resV, intBin, ↓reduceIte, Nat.reduceAdd, Nat.reduceSub, Nat.reduceMul, Nat.reduceLeDiff, Nat.reduceEqDiff, Int.reduceToNat, Int.reduceEq, Int.reduceLT, Int.reduceLE, Int.reduceNeg, Int.reduceAdd, Int.reduceSub, Int.reduceMul, Nat.reducePow, Int.reduceNegSucc]
      refine app_leaf (M := (j, blk (fl eB [UInt8.ofNat (128 + m % 128)]) 5) :: (g' ++ h)) eB_len eB_one tBytes iByte (Sub.cons hj (Sub.refl _)) dj' o' (rB_lit [UInt8.ofNat (128 + m % 128)]) (by simp; omega) (by simp; omega) fun v2 g2 o2 d2 => ?_
      simp (disch := omega) only [walk, lists, acts, mem, plain, seqs, maps, cells, resL, resV, intBin, ↓reduceIte, Nat.reduceAdd, Nat.reduceSub, Nat.reduceMul, Nat.reduceLeDiff, Nat.reduceEqDiff, Int.reduceToNat, Int.reduceEq, Int.reduceLT, Int.reduceLE, Int.reduceNeg, Int.reduceAdd, Int.reduceSub, Int.reduceMul, Nat.reducePow, Int.reduceNegSucc, tm128, td128, wrapI]
      refine ⟨m / 128, by omega, _, .refl _, m / 128, v2, _, g2, rfl, rfl, d2, o2, ?_, by omega, rfl⟩
      rw [← hx, encN_ge (by omega : ¬ m < 128)]; simp
    · refine newB_intro fun j hj => ?_
      simp only [walk, lists, acts, mem, plain, seqs, maps, cells, resL, resV, intBin, ↓reduceIte, Nat.reduceAdd, Nat.reduceSub, Nat.reduceMul, Nat.reduceLeDiff, Nat.reduceEqDiff, Int.reduceToNat, Int.reduceEq, Int.reduceLT, Int.reduceLE, Int.reduceNeg, Int.reduceAdd, Int.reduceSub, Int.reduceMul, Nat.reducePow, Int.reduceNegSucc]
      refine app_leaf (M := (j, blk (fl eB [UInt8.ofNat m]) 5) :: (g' ++ h)) eB_len eB_one tBytes iByte (Sub.cons hj (Sub.refl _)) dj' o' (rB_lit [UInt8.ofNat m]) (by simp; omega) (by simp; omega) fun v2 g2 o2 d2 => ?_
      simp only [walk, lists, acts, mem, plain, seqs, maps, cells, resL, resV, intBin, ↓reduceIte, Nat.reduceAdd, Nat.reduceSub, Nat.reduceMul, Nat.reduceLeDiff, Nat.reduceEqDiff, Int.reduceToNat, Int.reduceEq, Int.reduceLT, Int.reduceLE, Int.reduceNeg, Int.reduceAdd, Int.reduceSub, Int.reduceMul, Nat.reducePow, Int.reduceNegSucc]
      refine .of (k v2 g2 ?_ d2)
      rw [← hx, encN_lt (by omega : m < 128)]; exact o2
  · have hz : (2 : Int) * n = (zig n : Int) := by unfold zig; rw [if_neg (by omega)]; omega
    simp (disch := omega) only [wrapI, hz]
    refine vc_loop [0, 1] (fun n' vs h' => ∃ (m : Nat) (v' : Value) (l' : List UInt8) (g' : H), vs = [v', .int .i64 m] ∧ h' = g' ++ h ∧ Dj g' h ∧ oLs 5 eB 1 v' l' g' ∧ l' ++ encN m = l ++ encI n ∧ m ≤ zig n ∧ m = n') (zig n) rfl ⟨zig n, v, l, g, rfl, rfl, dj, o, rfl, Nat.le_refl _, rfl⟩ ?_
    rintro n' f h' ⟨m, v', l', g', hv, rfl, dj', o', hx, hm, rfl⟩
    simp only [List.map_cons, List.map_nil, List.cons.injEq, and_true] at hv
    have hlen : l'.length ≤ 40000000000000 := by
      have e1 := congrArg List.length hx
      have e2 := encN_le (zig n)
      simp only [List.length_append, encI] at e1
      omega
    have hm128 : (128 : Int) + ((m % 128 : Nat) : Int) = ((128 + m % 128 : Nat) : Int) := by omega
    simp (disch := omega) only [walk, lists, acts, mem, plain, seqs, maps, cells, resL, resV, intBin, ↓reduceIte, Nat.reduceAdd, Nat.reduceSub, Nat.reduceMul, Nat.reduceLeDiff, Nat.reduceEqDiff, Int.reduceToNat, Int.reduceEq, Int.reduceLT, Int.reduceLE, Int.reduceNeg, Int.reduceAdd, Int.reduceSub, Int.reduceMul, Nat.reducePow, Int.reduceNegSucc, wr, hv.1, hv.2, tm128, td128, wrapI, hm128, u8_of]
    refine ite_lt (fun c1 => ?_) fun c1 => ?_
    · refine newB_intro fun j hj => ?_
      simp only [walk, lists, acts, mem, plain, seqs, maps, cells, resL, resV, intBin, ↓reduceIte, Nat.reduceAdd, Nat.reduceSub, Nat.reduceMul, Nat.reduceLeDiff, Nat.reduceEqDiff, Int.reduceToNat, Int.reduceEq, Int.reduceLT, Int.reduceLE, Int.reduceNeg, Int.reduceAdd, Int.reduceSub, Int.reduceMul, Nat.reducePow, Int.reduceNegSucc]
      refine app_leaf (M := (j, blk (fl eB [UInt8.ofNat (128 + m % 128)]) 5) :: (g' ++ h)) eB_len eB_one tBytes iByte (Sub.cons hj (Sub.refl _)) dj' o' (rB_lit [UInt8.ofNat (128 + m % 128)]) (by simp; omega) (by simp; omega) fun v2 g2 o2 d2 => ?_
      simp (disch := omega) only [walk, lists, acts, mem, plain, seqs, maps, cells, resL, resV, intBin, ↓reduceIte, Nat.reduceAdd, Nat.reduceSub, Nat.reduceMul, Nat.reduceLeDiff, Nat.reduceEqDiff, Int.reduceToNat, Int.reduceEq, Int.reduceLT, Int.reduceLE, Int.reduceNeg, Int.reduceAdd, Int.reduceSub, Int.reduceMul, Nat.reducePow, Int.reduceNegSucc, tm128, td128, wrapI]
      refine ⟨m / 128, by omega, _, .refl _, m / 128, v2, _, g2, rfl, rfl, d2, o2, ?_, by omega, rfl⟩
      rw [← hx, encN_ge (by omega : ¬ m < 128)]; simp
    · refine newB_intro fun j hj => ?_
      simp only [walk, lists, acts, mem, plain, seqs, maps, cells, resL, resV, intBin, ↓reduceIte, Nat.reduceAdd, Nat.reduceSub, Nat.reduceMul, Nat.reduceLeDiff, Nat.reduceEqDiff, Int.reduceToNat, Int.reduceEq, Int.reduceLT, Int.reduceLE, Int.reduceNeg, Int.reduceAdd, Int.reduceSub, Int.reduceMul, Nat.reducePow, Int.reduceNegSucc]
      refine app_leaf (M := (j, blk (fl eB [UInt8.ofNat m]) 5) :: (g' ++ h)) eB_len eB_one tBytes iByte (Sub.cons hj (Sub.refl _)) dj' o' (rB_lit [UInt8.ofNat m]) (by simp; omega) (by simp; omega) fun v2 g2 o2 d2 => ?_
      simp only [walk, lists, acts, mem, plain, seqs, maps, cells, resL, resV, intBin, ↓reduceIte, Nat.reduceAdd, Nat.reduceSub, Nat.reduceMul, Nat.reduceLeDiff, Nat.reduceEqDiff, Int.reduceToNat, Int.reduceEq, Int.reduceLT, Int.reduceLE, Int.reduceNeg, Int.reduceAdd, Int.reduceSub, Int.reduceMul, Nat.reducePow, Int.reduceNegSucc]
      refine .of (k v2 g2 ?_ d2)
      rw [← hx, encN_lt (by omega : m < 128)]; exact o2
end Go.Proofs.Ytllhdnfcneejaaa
