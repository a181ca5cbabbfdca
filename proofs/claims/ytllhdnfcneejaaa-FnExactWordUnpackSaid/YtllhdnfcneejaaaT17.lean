/- How the program writes numbers. -/
import Derived.Test.YtllhdnfcneejaaaT11
set_option linter.unusedVariables false
set_option linter.unusedSimpArgs false
set_option maxRecDepth 20000
attribute [local irreducible] Go.Tk.vc Go.Tk.vops Go.Tk.vdr Go.Tk.vop Go.Tk.vfl Go.Tk.HCalls
namespace Go.Proofs.Ytllhdnfcneejaaa
open Go Go.Tk

theorem vcells_one1 {v : Value} (h : vone v = true) : vcells v = [v] := by cases v <;> first | rfl | cases h

theorem penNumber_c {jp : Nat} {pv : Value} {g h : H} {l : List UInt8} {n : Int} (o : oLs 5 eB 1 pv l g) (dj : ∀ q, Dj g ((jp, blk [q] 75) :: h)) (hl : l.length ≤ 35184372088832) (hn : -1099511627776 ≤ n ∧ n ≤ 1099511627776) {R : Ending → H → Prop}
    (k : ∀ pv' g', oLs 5 eB 1 pv' (l ++ encI n) g' → (∀ q, Dj g' ((jp, blk [q] 75) :: h)) → R (.returned (.tuple #[])) (g' ++ ((jp, blk [pv'] 75) :: h))) :
    HCalls Try.prog 51 #[.pointer (some ⟨jp, 0, none⟩), .int .i64 n] (g ++ ((jp, blk [pv] 75) :: h)) R := by
  refine HCalls_ir (args := [.pointer (some ⟨jp, 0, none⟩), .int .i64 n]) Try.func51 ir51 ?_
  have hzb : zig n ≤ 2199023255552 := by unfold zig; split <;> omega
  simp only [walk, lists, acts, mem, plain, seqs, maps, cells, resL, resV, intBin, ↓reduceIte, Nat.reduceAdd, Nat.reduceSub, Nat.reduceMul, Nat.reduceLeDiff, Nat.reduceEqDiff, Int.reduceToNat, Int.reduceEq, Int.reduceLT, Int.reduceLE, Int.reduceNeg, Int.reduceAdd, Int.reduceSub, Int.reduceMul, Nat.reducePow, Int.reduceNegSucc]
  have p1 : (2 : Int) ^ 1 = 2 := rfl
  refine ite_lt (fun c0 => ?_) fun c0 => ?_
  · refine raw_neg (n := n + 1) (by simp (disch := omega) only [walk, lists, acts, mem, plain, seqs, maps, cells, resL, resV, intBin, ↓reduceIte, Nat.reduceAdd, Nat.reduceSub, Nat.reduceMul, Nat.reduceLeDiff, Nat.reduceEqDiff, Int.reduceToNat, Int.reduceEq, Int.reduceLT, Int.reduceLE, Int.reduceNeg, Int.reduceAdd, Int.reduceSub, Int.reduceMul, Nat.reducePow, Int.reduceNegSucc, wrapI]) ?_
    have hz : (0 - (n + 1)) * 2 + 1 = (zig n : Int) := by unfold zig; rw [if_pos c0]; omega
    have hw : IntKind.u64.wrap (0 - (n + 1)) = 0 - (n + 1) := wrapU _ (by omega)
    simp only [walk, lists, acts, mem, plain, seqs, maps, cells, resL, resV, intBin, ↓reduceIte, Nat.reduceAdd, Nat.reduceSub, Nat.reduceMul, Nat.reduceLeDiff, Nat.reduceEqDiff, Int.reduceToNat, Int.reduceEq, Int.reduceLT, Int.reduceLE, Int.reduceNeg, Int.reduceAdd, Int.reduceSub, Int.reduceMul, Nat.reducePow, Int.reduceNegSucc]
    simp (disch := omega) only [wrapI, wrapU, mb1, p1, hz]
    refine vc_loop [4] (fun n' vs h' => ∃ (m : Nat) (pv' : Value) (l' : List UInt8) (g' : H), vs = [.int .u64 m] ∧ h' = g' ++ ((jp, blk [pv'] 75) :: h) ∧ (∀ q, Dj g' ((jp, blk [q] 75) :: h)) ∧ oLs 5 eB 1 pv' l' g' ∧ l' ++ encN m = l ++ encI n ∧ m ≤ zig n ∧ m = n') (zig n) rfl ⟨zig n, pv, l, g, rfl, rfl, dj, o, rfl, Nat.le_refl _, rfl⟩ ?_
    rintro n' f h' ⟨m, pv', l', g', hv, rfl, dj', o', hx, hm, rfl⟩
    simp only [List.map_cons, List.map_nil, List.cons.injEq, and_true] at hv
    have hlen : l'.length ≤ 40000000000000 := by
      have e1 := congrArg List.length hx
      have e2 := encN_le (zig n)
      simp only [List.length_append, encI] at e1
      omega
    have dx := dj' pv'
    simp only [subs] at dx
    have hp7 : (2 : Int) ^ 7 = 128 := rfl
    have hm3 : ((m % 128 : Nat) : Int) + 128 = ((128 + m % 128 : Nat) : Int) := by omega
    have hu8 : IntKind.u8.wrap ((m % 128 : Nat) : Int) = ((m % 128 : Nat) : Int) := by rw [u8_wrap]; omega
    simp only [walk, lists, acts, mem, plain, seqs, maps, cells, resL, resV, intBin, ↓reduceIte, Nat.reduceAdd, Nat.reduceSub, Nat.reduceMul, Nat.reduceLeDiff, Nat.reduceEqDiff, Int.reduceToNat, Int.reduceEq, Int.reduceLT, Int.reduceLE, Int.reduceNeg, Int.reduceAdd, Int.reduceSub, Int.reduceMul, Nat.reducePow, Int.reduceNegSucc, wr, hv, apps, dx]
    simp (disch := omega) only [and127, mb7, hp7, fdiv128, wrapU, hu8, hm3, u8_of]
    refine ite_ge (fun c1 => ?_) fun c1 => ?_
    · refine newB_intro fun j hj => ?_
      simp only [subs] at hj
      simp only [walk, lists, acts, mem, plain, seqs, maps, cells, resL, resV, intBin, ↓reduceIte, Nat.reduceAdd, Nat.reduceSub, Nat.reduceMul, Nat.reduceLeDiff, Nat.reduceEqDiff, Int.reduceToNat, Int.reduceEq, Int.reduceLT, Int.reduceLE, Int.reduceNeg, Int.reduceAdd, Int.reduceSub, Int.reduceMul, Nat.reducePow, Int.reduceNegSucc]
      refine app_leaf (g := g') (h := (jp, blk [pv'] 75) :: h) (M := (j, blk (fl eB [UInt8.ofNat (128 + m % 128)]) 5) :: (g' ++ ((jp, blk [pv'] 75) :: h))) eB_len eB_one tPen iByte (Sub.cons (by simp only [subs, hj]) (Sub.refl _)) (dj' _) o' (rB_lit [UInt8.ofNat (128 + m % 128)]) (by simp; omega) (by simp; omega) fun v2 g2 o2 d2 => ?_
      have d2x := d2
      simp only [subs] at d2x
      have one2 := o2.rd.one
      have vc2 := vcells_one1 one2
      simp only [walk, lists, acts, mem, plain, seqs, maps, cells, resL, resV, intBin, ↓reduceIte, Nat.reduceAdd, Nat.reduceSub, Nat.reduceMul, Nat.reduceLeDiff, Nat.reduceEqDiff, Int.reduceToNat, Int.reduceEq, Int.reduceLT, Int.reduceLE, Int.reduceNeg, Int.reduceAdd, Int.reduceSub, Int.reduceMul, Nat.reducePow, Int.reduceNegSucc, apps, d2x, one2, vc2]
      simp (disch := omega) only [mb7, hp7, fdiv128]
      refine ⟨m / 128, by omega, _, .refl _, m / 128, v2, _, g2, rfl, rfl, fun q => by simp only [subs, d2x], o2, ?_, by omega, rfl⟩
      rw [← hx, encN_ge (by omega : ¬ m < 128)]; simp
    · refine newB_intro fun j hj => ?_
      simp only [subs] at hj
      simp only [walk, lists, acts, mem, plain, seqs, maps, cells, resL, resV, intBin, ↓reduceIte, Nat.reduceAdd, Nat.reduceSub, Nat.reduceMul, Nat.reduceLeDiff, Nat.reduceEqDiff, Int.reduceToNat, Int.reduceEq, Int.reduceLT, Int.reduceLE, Int.reduceNeg, Int.reduceAdd, Int.reduceSub, Int.reduceMul, Nat.reducePow, Int.reduceNegSucc]
      refine app_leaf (g := g') (h := (jp, blk [pv'] 75) :: h) (M := (j, blk (fl eB [UInt8.ofNat m]) 5) :: (g' ++ ((jp, blk [pv'] 75) :: h))) eB_len eB_one tPen iByte (Sub.cons (by simp only [subs, hj]) (Sub.refl _)) (dj' _) o' (rB_lit [UInt8.ofNat m]) (by simp; omega) (by simp; omega) fun v2 g2 o2 d2 => ?_
      have d2x := d2
      simp only [subs] at d2x
      have one2 := o2.rd.one
      have vc2 := vcells_one1 one2
      simp only [walk, lists, acts, mem, plain, seqs, maps, cells, resL, resV, intBin, ↓reduceIte, Nat.reduceAdd, Nat.reduceSub, Nat.reduceMul, Nat.reduceLeDiff, Nat.reduceEqDiff, Int.reduceToNat, Int.reduceEq, Int.reduceLT, Int.reduceLE, Int.reduceNeg, Int.reduceAdd, Int.reduceSub, Int.reduceMul, Nat.reducePow, Int.reduceNegSucc, apps, d2x, one2, vc2]
      refine .of (k v2 g2 ?_ fun q => by simp only [subs, d2x])
      rw [← hx, encN_lt (by omega : m < 128)]; exact o2
  · have hz : n * 2 = (zig n : Int) := by unfold zig; rw [if_neg (by omega)]; omega
    simp (disch := omega) only [wrapI, wrapU, mb1, p1, hz]
    refine vc_loop [4] (fun n' vs h' => ∃ (m : Nat) (pv' : Value) (l' : List UInt8) (g' : H), vs = [.int .u64 m] ∧ h' = g' ++ ((jp, blk [pv'] 75) :: h) ∧ (∀ q, Dj g' ((jp, blk [q] 75) :: h)) ∧ oLs 5 eB 1 pv' l' g' ∧ l' ++ encN m = l ++ encI n ∧ m ≤ zig n ∧ m = n') (zig n) rfl ⟨zig n, pv, l, g, rfl, rfl, dj, o, rfl, Nat.le_refl _, rfl⟩ ?_
    rintro n' f h' ⟨m, pv', l', g', hv, rfl, dj', o', hx, hm, rfl⟩
    simp only [List.map_cons, List.map_nil, List.cons.injEq, and_true] at hv
    have hlen : l'.length ≤ 40000000000000 := by
      have e1 := congrArg List.length hx
      have e2 := encN_le (zig n)
      simp only [List.length_append, encI] at e1
      omega
    have dx := dj' pv'
    simp only [subs] at dx
    have hp7 : (2 : Int) ^ 7 = 128 := rfl
    have hm3 : ((m % 128 : Nat) : Int) + 128 = ((128 + m % 128 : Nat) : Int) := by omega
    have hu8 : IntKind.u8.wrap ((m % 128 : Nat) : Int) = ((m % 128 : Nat) : Int) := by rw [u8_wrap]; omega
    simp only [walk, lists, acts, mem, plain, seqs, maps, cells, resL, resV, intBin, ↓reduceIte, Nat.reduceAdd, Nat.reduceSub, Nat.reduceMul, Nat.reduceLeDiff, Nat.reduceEqDiff, Int.reduceToNat, Int.reduceEq, Int.reduceLT, Int.reduceLE, Int.reduceNeg, Int.reduceAdd, Int.reduceSub, Int.reduceMul, Nat.reducePow, Int.reduceNegSucc, wr, hv, apps, dx]
    simp (disch := omega) only [and127, mb7, hp7, fdiv128, wrapU, hu8, hm3, u8_of]
    refine ite_ge (fun c1 => ?_) fun c1 => ?_
    · refine newB_intro fun j hj => ?_
      simp only [subs] at hj
      simp only [walk, lists, acts, mem, plain, seqs, maps, cells, resL, resV, intBin, ↓reduceIte, Nat.reduceAdd, Nat.reduceSub, Nat.reduceMul, Nat.reduceLeDiff, Nat.reduceEqDiff, Int.reduceToNat, Int.reduceEq, Int.reduceLT, Int.reduceLE, Int.reduceNeg, Int.reduceAdd, Int.reduceSub, Int.reduceMul, Nat.reducePow, Int.reduceNegSucc]
      refine app_leaf (g := g') (h := (jp, blk [pv'] 75) :: h) (M := (j, blk (fl eB [UInt8.ofNat (128 + m % 128)]) 5) :: (g' ++ ((jp, blk [pv'] 75) :: h))) eB_len eB_one tPen iByte (Sub.cons (by simp only [subs, hj]) (Sub.refl _)) (dj' _) o' (rB_lit [UInt8.ofNat (128 + m % 128)]) (by simp; omega) (by simp; omega) fun v2 g2 o2 d2 => ?_
      have d2x := d2
      simp only [subs] at d2x
      have one2 := o2.rd.one
      have vc2 := vcells_one1 one2
      simp only [walk, lists, acts, mem, plain, seqs, maps, cells, resL, resV, intBin, ↓reduceIte, Nat.reduceAdd, Nat.reduceSub, Nat.reduceMul, Nat.reduceLeDiff, Nat.reduceEqDiff, Int.reduceToNat, Int.reduceEq, Int.reduceLT, Int.reduceLE, Int.reduceNeg, Int.reduceAdd, Int.reduceSub, Int.reduceMul, Nat.reducePow, Int.reduceNegSucc, apps, d2x, one2, vc2]
      simp (disch := omega) only [mb7, hp7, fdiv128]
      refine ⟨m / 128, by omega, _, .refl _, m / 128, v2, _, g2, rfl, rfl, fun q => by simp only [subs, d2x], o2, ?_, by omega, rfl⟩
      rw [← hx, encN_ge (by omega : ¬ m < 128)]; simp
    · refine newB_intro fun j hj => ?_
      simp only [subs] at hj
      simp only [walk, lists, acts, mem, plain, seqs, maps, cells, resL, resV, intBin, ↓reduceIte, Nat.reduceAdd, Nat.reduceSub, Nat.reduceMul, Nat.reduceLeDiff, Nat.reduceEqDiff, Int.reduceToNat, Int.reduceEq, Int.reduceLT, Int.reduceLE, Int.reduceNeg, Int.reduceAdd, Int.reduceSub, Int.reduceMul, Nat.reducePow, Int.reduceNegSucc]
      refine app_leaf (g := g') (h := (jp, blk [pv'] 75) :: h) (M := (j, blk (fl eB [UInt8.ofNat m]) 5) :: (g' ++ ((jp, blk [pv'] 75) :: h))) eB_len eB_one tPen iByte (Sub.cons (by simp only [subs, hj]) (Sub.refl _)) (dj' _) o' (rB_lit [UInt8.ofNat m]) (by simp; omega) (by simp; omega) fun v2 g2 o2 d2 => ?_
      have d2x := d2
      simp only [subs] at d2x
      have one2 := o2.rd.one
      have vc2 := vcells_one1 one2
      simp only [walk, lists, acts, mem, plain, seqs, maps, cells, resL, resV, intBin, ↓reduceIte, Nat.reduceAdd, Nat.reduceSub, Nat.reduceMul, Nat.reduceLeDiff, Nat.reduceEqDiff, Int.reduceToNat, Int.reduceEq, Int.reduceLT, Int.reduceLE, Int.reduceNeg, Int.reduceAdd, Int.reduceSub, Int.reduceMul, Nat.reducePow, Int.reduceNegSucc, apps, d2x, one2, vc2]
      refine .of (k v2 g2 ?_ fun q => by simp only [subs, d2x])
      rw [← hx, encN_lt (by omega : m < 128)]; exact o2
end Go.Proofs.Ytllhdnfcneejaaa
