/- How the reference reads numbers. -/
import Derived.Test.YtllhdnfcneejaaaTI
import Derived.Test.YtllhdnfcneejaaaP1
set_option linter.unusedVariables false
set_option linter.unusedSimpArgs false
set_option maxRecDepth 20000
attribute [local irreducible] Go.Tk.vc Go.Tk.vops Go.Tk.vdr Go.Tk.vop Go.Tk.vfl Go.Tk.HCalls
namespace Go.Proofs.Ytllhdnfcneejaaa
open Go Go.Tk

/-- The reference's reader's cells. -/
def rd (bv : Value) (at_ : Nat) (bad : Bool) : List Value := [bv, .int .i64 at_, .bool bad]
theorem w_rd : (∀ b a d, (rd b a d).length = 3) ∧ (∀ b a d, (rd b a d)[0]? = some b) ∧ (∀ b a d, (rd b a d)[1]? = some (.int .i64 a)) ∧ (∀ b a d, (rd b a d)[2]? = some (.bool d)) ∧
    (∀ b a d (n : Nat), splice (rd b a d) 1 [.int .i64 n] = rd b n d) ∧ (∀ b a d e, splice (rd b a d) 2 [.bool e] = rd b a e) :=
  ⟨fun _ _ _ => rfl, fun _ _ _ => rfl, fun _ _ _ => rfl, fun _ _ _ => rfl, fun _ _ _ _ => rfl, fun _ _ _ _ => rfl⟩

theorem num_c {h0 : H} {j at_ : Nat} {bv : Value} {l : List UInt8} {bad : Bool} (hj : hget h0 j = none) (rb : rBytes h0 bv l) (hl : l.length ≤ 1099511627776) (ha : at_ ≤ l.length) {R : Ending → H → Prop}
    (k : ∀ (n : Int) (at' : Nat) (bad' : Bool), at' ≤ l.length → -2097152 ≤ n ∧ n ≤ 2097152 → (bad = true → bad' = true) → (∀ m r, Num (l.drop at_) m r → n = unzig m ∧ l.drop at' = r ∧ bad' = bad) → R (.returned (.int .i64 n)) ((j, blk (rd bv at' bad') 49) :: h0)) :
    HCalls Try.prog 72 #[.pointer (some ⟨j, 0, none⟩)] ((j, blk (rd bv at_ bad) 49) :: h0) R := by
  refine HCalls_ir (args := [.pointer (some ⟨j, 0, none⟩)]) Try.func72 ir72 ?_
  simp only [walk, lists, acts, mem, plain, seqs, maps, cells, resL, resV, intBin, ↓reduceIte, Nat.reduceAdd, Nat.reduceSub, Nat.reduceMul, Nat.reduceLeDiff, Nat.reduceEqDiff, Int.reduceToNat, Int.reduceEq, Int.reduceLT, Int.reduceLE, Int.reduceNeg, Int.reduceAdd, Int.reduceSub, Int.reduceMul, Nat.reducePow, Int.reduceNegSucc, w_rd]
  refine vc_loop [5, 3, 4] (fun n vs h' => ∃ (i at' : Nat) (a : Nat), vs = [.int .i64 i, .int .i64 a, .int .i64 (128 ^ i : Nat)] ∧ h' = (j, blk (rd bv at' bad) 49) :: h0 ∧ at' ≤ l.length ∧ i ≤ 3 ∧ n = 3 - i ∧ a < 128 ^ i ∧
    (∀ m r, Num (l.drop at_) m r → l.drop at' = encN (m / 128 ^ i) ++ r ∧ a = m % 128 ^ i ∧ (0 < i → 128 ^ i ≤ m))) 3 rfl ⟨0, at_, 0, rfl, rfl, ha, by omega, rfl, by simp, fun m r nm => ⟨by simpa using nm.1, by simp; omega, fun x => by omega⟩⟩ ?_
  rintro n f h' ⟨i, at', a, hv, rfl, ha', hi, rfl, hai, ex⟩
  simp only [List.map_cons, List.map_nil, List.cons.injEq, and_true] at hv
  simp only [walk, lists, acts, mem, plain, seqs, maps, cells, resL, resV, intBin, ↓reduceIte, Nat.reduceAdd, Nat.reduceSub, Nat.reduceMul, Nat.reduceLeDiff, Nat.reduceEqDiff, Int.reduceToNat, Int.reduceEq, Int.reduceLT, Int.reduceLE, Int.reduceNeg, Int.reduceAdd, Int.reduceSub, Int.reduceMul, Nat.reducePow, Int.reduceNegSucc, wr, hv.1, hv.2.1, hv.2.2, w_rd]
  split
  · rename_i c1
    have hj2 : ∀ o, Sub h0 ((j, o) :: h0) := fun o => Sub.cons hj (Sub.refl h0)
    refine vc_draw _ (Sub.refl _) ?_
    simp only [walk, lists, acts, mem, plain, seqs, maps, cells, resL, resV, intBin, ↓reduceIte, Nat.reduceAdd, Nat.reduceSub, Nat.reduceMul, Nat.reduceLeDiff, Nat.reduceEqDiff, Int.reduceToNat, Int.reduceEq, Int.reduceLT, Int.reduceLE, Int.reduceNeg, Int.reduceAdd, Int.reduceSub, Int.reduceMul, Nat.reducePow, Int.reduceNegSucc, w_rd, rb.len]
    refine ite_ge ?_ ?_
    · intro c2
      have hd : l.drop at' = [] := List.drop_eq_nil_of_le (by omega)
      refine .of (k 0 at' true ha' (by omega) (fun _ => rfl) fun m r nm => ?_)
      have := (ex m r nm).1
      rw [hd] at this
      exact absurd (List.append_eq_nil_iff.1 this.symm).1 (encN_ne _)
    · intro c2
      have hlt : at' < l.length := by omega
      refine vc_draw _ (Sub.refl _) ?_
      simp only [walk, lists, acts, mem, plain, seqs, maps, cells, resL, resV, intBin, ↓reduceIte, Nat.reduceAdd, Nat.reduceSub, Nat.reduceMul, Nat.reduceLeDiff, Nat.reduceEqDiff, Int.reduceToNat, Int.reduceEq, Int.reduceLT, Int.reduceLE, Int.reduceNeg, Int.reduceAdd, Int.reduceSub, Int.reduceMul, Nat.reducePow, Int.reduceNegSucc, w_rd]
      refine idx_leaf (i := at') eB_len (rb.sub (hj2 (blk (rd bv at' bad) 49))) rfl hlt fun b1 o1 e1 => ?_
      have hx : l[at'].toNat < 256 := UInt8.toNat_lt _
      have hdr : l.drop at' = l[at'] :: l.drop (at' + 1) := List.drop_eq_getElem_cons hlt
      have he : eB l[at'] = [.int .u8 l[at'].toNat] := rfl
      rw [he] at e1
      have st : ∀ m r, Num (l.drop at_) m r → (l[at'].toNat < 128 → a + l[at'].toNat % 128 * 128 ^ i = m ∧ l.drop (at' + 1) = r) ∧ (128 ≤ l[at'].toNat → l.drop (at' + 1) = encN (m / 128 ^ (i + 1)) ++ r ∧ a + l[at'].toNat % 128 * 128 ^ i = m % 128 ^ (i + 1) ∧ 128 ^ (i + 1) ≤ m) := by
        intro m r nm
        obtain ⟨x1, x2, _⟩ := ex m r nm
        rw [hdr] at x1
        exact num_step (c := l[at']) (l2 := l.drop (at' + 1)) (r := r) (i := i) (a := a) (m := m) x1 x2
      generalize l[at'].toNat = x at *
      have hc : (at' : Int) + 1 = ((at' + 1 : Nat) : Int) := by omega
      have hc2 : (i : Int) + 1 = ((i + 1 : Nat) : Int) := by omega
      have hp : (128 : Nat) ^ i ≤ 16384 ∧ 128 ^ (i + 1) = 128 * 128 ^ i := by
        refine ⟨?_, by rw [Nat.pow_succ, Nat.mul_comm]⟩
        rcases (by omega : i = 0 ∨ i = 1 ∨ i = 2) with rfl | rfl | rfl <;> decide
      have hmul : (x % 128) * 128 ^ i ≤ 127 * 128 ^ i := Nat.mul_le_mul_right _ (by omega)
      have hz : ((x % 128 : Nat) : Int) * ((128 ^ i : Nat) : Int) = ((x % 128 * 128 ^ i : Nat) : Int) := by simp
      have hz2 : ((128 ^ i : Nat) : Int) * 128 = ((128 ^ (i + 1) : Nat) : Int) := by rw [hp.2]; simp; omega
      have hz3 : ∀ y : Nat, (a : Int) + (y : Int) = ((a + y : Nat) : Int) := fun y => by omega
      simp (disch := omega) only [walk, lists, acts, mem, plain, seqs, maps, cells, resL, resV, intBin, ↓reduceIte, Nat.reduceAdd, Nat.reduceSub, Nat.reduceMul, Nat.reduceLeDiff, Nat.reduceEqDiff, Int.reduceToNat, Int.reduceEq, Int.reduceLT, Int.reduceLE, Int.reduceNeg, Int.reduceAdd, Int.reduceSub, Int.reduceMul, Nat.reducePow, Int.reduceNegSucc, w_rd, hread_1 e1, wrapI, tm128, hc, hz, hz2, hz3]
      generalize hM : a + x % 128 * 128 ^ i = M at *
      rw [tm2]
      by_cases c3 : (x : Int) < 128
      · rw [if_pos c3]
        by_cases c4 : ((M % 2 : Nat) : Int) = 1
        · rw [if_pos c4]
          refine raw_neg (by simp only [walk, lists, acts, mem, plain, seqs, maps, cells, resL, resV, intBin, ↓reduceIte, Nat.reduceAdd, Nat.reduceSub, Nat.reduceMul, Nat.reduceLeDiff, Nat.reduceEqDiff, Int.reduceToNat, Int.reduceEq, Int.reduceLT, Int.reduceLE, Int.reduceNeg, Int.reduceAdd, Int.reduceSub, Int.reduceMul, Nat.reducePow, Int.reduceNegSucc]; rfl) ?_
          have hn : (0 : Int) - ((M : Int) + 1) = -((M + 1 : Nat) : Int) := by omega
          simp (disch := omega) only [walk, lists, acts, mem, plain, seqs, maps, cells, resL, resV, intBin, ↓reduceIte, Nat.reduceAdd, Nat.reduceSub, Nat.reduceMul, Nat.reduceLeDiff, Nat.reduceEqDiff, Int.reduceToNat, Int.reduceEq, Int.reduceLT, Int.reduceLE, Int.reduceNeg, Int.reduceAdd, Int.reduceSub, Int.reduceMul, Nat.reducePow, Int.reduceNegSucc, wrapI]
          rw [hn, tdneg2]
          simp (disch := omega) only [wrapI]
          refine .of (k _ (at' + 1) bad (by omega) (by omega) (fun h => h) fun m r nm => ?_)
          have := (st m r nm).1 (by omega)
          refine ⟨?_, this.2, rfl⟩
          unfold unzig
          rw [← this.1, if_pos (by omega)]
        · rw [if_neg c4]
          simp (disch := omega) only [walk, lists, acts, mem, plain, seqs, maps, cells, resL, resV, intBin, ↓reduceIte, Nat.reduceAdd, Nat.reduceSub, Nat.reduceMul, Nat.reduceLeDiff, Nat.reduceEqDiff, Int.reduceToNat, Int.reduceEq, Int.reduceLT, Int.reduceLE, Int.reduceNeg, Int.reduceAdd, Int.reduceSub, Int.reduceMul, Nat.reducePow, Int.reduceNegSucc, wrapI, td2]
          refine .of (k _ (at' + 1) bad (by omega) (by omega) (fun h => h) fun m r nm => ?_)
          have := (st m r nm).1 (by omega)
          refine ⟨?_, this.2, rfl⟩
          unfold unzig
          rw [← this.1, if_neg (by omega)]
      · rw [if_neg c3]
        simp (disch := omega) only [walk, lists, acts, mem, plain, seqs, maps, cells, resL, resV, intBin, ↓reduceIte, Nat.reduceAdd, Nat.reduceSub, Nat.reduceMul, Nat.reduceLeDiff, Nat.reduceEqDiff, Int.reduceToNat, Int.reduceEq, Int.reduceLT, Int.reduceLE, Int.reduceNeg, Int.reduceAdd, Int.reduceSub, Int.reduceMul, Nat.reducePow, Int.reduceNegSucc, wrapI, hc2]
        exact ⟨3 - (i + 1), by omega, _, .refl _, i + 1, at' + 1, M, rfl, rfl, by omega, by omega, rfl, by omega, fun m r nm => by
          have := (st m r nm).2 (by omega)
          exact ⟨this.1, this.2.1, fun _ => this.2.2⟩⟩
  · rename_i c1
    refine .of (k 0 at' true ha' (by omega) (fun _ => rfl) fun m r nm => ?_)
    have hi3 : i = 3 := by omega
    subst hi3
    have := (ex m r nm).2.2 (by omega)
    have := nm.2
    omega
end Go.Proofs.Ytllhdnfcneejaaa
