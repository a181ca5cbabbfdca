/- How the program reads a number. -/
import Derived.Test.YtllhdnfcneejaaaT20
set_option linter.unusedVariables false
set_option linter.unusedSimpArgs false
set_option maxRecDepth 20000
attribute [local irreducible] Go.Tk.vc Go.Tk.vops Go.Tk.vdr Go.Tk.vop Go.Tk.vfl Go.Tk.HCalls
namespace Go.Proofs.Ytllhdnfcneejaaa
open Go Go.Tk

def okE (e : Option (Nat × Int)) : Prop := ∀ a f, e = some (a, f) → f = 1 ∨ f = 2

theorem number_c {h0 : H} {j at_ : Nat} {bv : Value} {l : List UInt8} {e : Option (Nat × Int)} (hj : hget h0 j = none) (rb : rBytes h0 bv l) (hl : l.length ≤ 1099511627776) (ha : at_ ≤ l.length) (he : okE e) {R : Ending → H → Prop}
    (k : ∀ (n : Int) (at' : Nat) (e' : Option (Nat × Int)), at' ≤ l.length → -72057594037927936 ≤ n ∧ n ≤ 72057594037927936 → okE e' → (e' = none → e = none) → (e = none → ∀ m r, Num (l.drop at_) m r → n = unzig m ∧ l.drop at' = r ∧ e' = none) →
      R (.returned (.int .i64 n)) ((j, blk (cu bv at' (errV e')) 54) :: h0)) :
    HCalls Try.prog 93 #[.pointer (some ⟨j, 0, none⟩)] ((j, blk (cu bv at_ (errV e)) 54) :: h0) R := by
  refine HCalls_ir (args := [.pointer (some ⟨j, 0, none⟩)]) Try.func93 ir93 ?_
  simp only [walk, lists, acts, mem, plain, seqs, maps, cells, resL, resV, intBin, ↓reduceIte, Nat.reduceAdd, Nat.reduceSub, Nat.reduceMul, Nat.reduceLeDiff, Nat.reduceEqDiff, Int.reduceToNat, Int.reduceEq, Int.reduceLT, Int.reduceLE, Int.reduceNeg, Int.reduceAdd, Int.reduceSub, Int.reduceMul, Nat.reducePow, Int.reduceNegSucc, w_cu]
  refine vc_loop [4, 3] (fun n' vs h' => ∃ (i at' a : Nat) (e' : Option (Nat × Int)), vs = [.int .i64 (7 * i : Nat), .int .u64 a] ∧ h' = (j, blk (cu bv at' (errV e')) 54) :: h0 ∧ at' ≤ l.length ∧ i ≤ 8 ∧ n' = 8 - i ∧ a < 2 ^ (7 * i) ∧ e' = e ∧
    (e = none → ∀ m r, Num (l.drop at_) m r → l.drop at' = encN (m / 128 ^ i) ++ r ∧ a = m % 128 ^ i ∧ (0 < i → 128 ^ i ≤ m))) 8 rfl ⟨0, at_, 0, e, rfl, rfl, ha, by omega, rfl, by simp, rfl, fun _ m r nm => ⟨by simpa using nm.1, by simp; omega, fun x => by omega⟩⟩ ?_
  rintro n' f h' ⟨i, at', a, e', hv, rfl, ha', hi, rfl, hai, rfl, ex⟩
  simp only [List.map_cons, List.map_nil, List.cons.injEq, and_true] at hv
  cases e' with
  | some p =>
    obtain ⟨pa, pf⟩ := p
    simp only [walk, lists, acts, mem, plain, seqs, maps, cells, resL, resV, intBin, ↓reduceIte, Nat.reduceAdd, Nat.reduceSub, Nat.reduceMul, Nat.reduceLeDiff, Nat.reduceEqDiff, Int.reduceToNat, Int.reduceEq, Int.reduceLT, Int.reduceLE, Int.reduceNeg, Int.reduceAdd, Int.reduceSub, Int.reduceMul, Nat.reducePow, Int.reduceNegSucc, wr, hv.1, hv.2, w_cu, errV]
    exact .of (k 0 at' (some (pa, pf)) ha' (by omega) he (fun h => by cases h) fun h => by cases h)
  | none =>
    simp only [walk, lists, acts, mem, plain, seqs, maps, cells, resL, resV, intBin, ↓reduceIte, Nat.reduceAdd, Nat.reduceSub, Nat.reduceMul, Nat.reduceLeDiff, Nat.reduceEqDiff, Int.reduceToNat, Int.reduceEq, Int.reduceLT, Int.reduceLE, Int.reduceNeg, Int.reduceAdd, Int.reduceSub, Int.reduceMul, Nat.reducePow, Int.reduceNegSucc, wr, hv.1, hv.2, w_cu, errV]
    refine ⟨rfl, vc_draw _ (Sub.refl _) ?_⟩
    simp only [walk, lists, acts, mem, plain, seqs, maps, cells, resL, resV, intBin, ↓reduceIte, Nat.reduceAdd, Nat.reduceSub, Nat.reduceMul, Nat.reduceLeDiff, Nat.reduceEqDiff, Int.reduceToNat, Int.reduceEq, Int.reduceLT, Int.reduceLE, Int.reduceNeg, Int.reduceAdd, Int.reduceSub, Int.reduceMul, Nat.reducePow, Int.reduceNegSucc, w_cu, rb.len]
    have sj := fun o => Sub.cons (o := o) hj (Sub.refl h0)
    refine ite_pos (fun c1 => ?_) fun c1 => ?_
    · refine fail_c (e := none) (f := 1) ?_
      simp only [walk, lists, acts, mem, plain, seqs, maps, cells, resL, resV, intBin, ↓reduceIte, Nat.reduceAdd, Nat.reduceSub, Nat.reduceMul, Nat.reduceLeDiff, Nat.reduceEqDiff, Int.reduceToNat, Int.reduceEq, Int.reduceLT, Int.reduceLE, Int.reduceNeg, Int.reduceAdd, Int.reduceSub, Int.reduceMul, Nat.reducePow, Int.reduceNegSucc]
      refine .of (k 0 at' (some (at', 1)) ha' (by omega) (fun a f h => by cases h; exact .inl rfl) (fun h => by cases h) fun _ m r nm => ?_)
      have := (ex rfl m r nm).1
      rw [List.drop_eq_nil_of_le (by omega)] at this
      exact absurd (List.append_eq_nil_iff.1 this.symm).1 (encN_ne _)
    · refine ite_lt (fun c2 => ?_) fun c2 => ?_
      · refine fail_c (e := none) (f := 2) ?_
        simp only [walk, lists, acts, mem, plain, seqs, maps, cells, resL, resV, intBin, ↓reduceIte, Nat.reduceAdd, Nat.reduceSub, Nat.reduceMul, Nat.reduceLeDiff, Nat.reduceEqDiff, Int.reduceToNat, Int.reduceEq, Int.reduceLT, Int.reduceLE, Int.reduceNeg, Int.reduceAdd, Int.reduceSub, Int.reduceMul, Nat.reducePow, Int.reduceNegSucc]
        refine .of (k 0 at' (some (at', 2)) ha' (by omega) (fun a f h => by cases h; exact .inr rfl) (fun h => by cases h) fun _ m r nm => ?_)
        have h1 := (ex rfl m r nm).2.2 (by omega)
        have h2 := nm.2
        have h3 : 128 ^ 3 ≤ 128 ^ i := Nat.pow_le_pow_right (by omega) (by omega)
        omega
      · have hlt : at' < l.length := by omega
        refine vc_draw _ (Sub.refl _) ?_
        simp only [walk, lists, acts, mem, plain, seqs, maps, cells, resL, resV, intBin, ↓reduceIte, Nat.reduceAdd, Nat.reduceSub, Nat.reduceMul, Nat.reduceLeDiff, Nat.reduceEqDiff, Int.reduceToNat, Int.reduceEq, Int.reduceLT, Int.reduceLE, Int.reduceNeg, Int.reduceAdd, Int.reduceSub, Int.reduceMul, Nat.reducePow, Int.reduceNegSucc, w_cu]
        refine idx_leaf (i := at') eB_len (rb.sub (sj (blk (cu bv at' .nilIface) 54))) rfl hlt fun b1 o1 e1 => ?_
        have hx : l[at'].toNat < 256 := UInt8.toNat_lt _
        have he1 : eB l[at'] = [.int .u8 l[at'].toNat] := rfl
        rw [he1] at e1
        have st : ∀ m r, Num (l.drop at_) m r → (l[at'].toNat < 128 → a + l[at'].toNat % 128 * 128 ^ i = m ∧ l.drop (at' + 1) = r) ∧ (128 ≤ l[at'].toNat → l.drop (at' + 1) = encN (m / 128 ^ (i + 1)) ++ r ∧ a + l[at'].toNat % 128 * 128 ^ i = m % 128 ^ (i + 1) ∧ 128 ^ (i + 1) ≤ m) := by
          intro m r nm
          obtain ⟨x1, x2, _⟩ := ex rfl m r nm
          rw [List.drop_eq_getElem_cons hlt] at x1
          exact num_step (c := l[at']) (l2 := l.drop (at' + 1)) (r := r) (i := i) (a := a) (m := m) x1 x2
        generalize l[at'].toNat = x at *
        have hi7 : i ≤ 7 := by omega
        have hp : (2 : Nat) ^ (7 * i) ≤ 562949953421312 := by
          have := Nat.pow_le_pow_right (n := 2) (by omega) (by omega : 7 * i ≤ 49)
          exact this
        have hp2 : (128 : Nat) ^ i = 2 ^ (7 * i) := by rw [Nat.pow_mul]
        have hmul : x % 128 * 2 ^ (7 * i) ≤ 127 * 2 ^ (7 * i) := Nat.mul_le_mul_right _ (by omega)
        have hc : (at' : Int) + 1 = ((at' + 1 : Nat) : Int) := by omega
        have hc2 : ((7 * i : Nat) : Int) + 7 = ((7 * (i + 1) : Nat) : Int) := by omega
        have hnn : (((7 * i : Nat) : Int) < 0) = False := by simp; omega
        have hmin : min (7 * i) IntKind.u64.bits = 7 * i := by show min (7 * i) 64 = 7 * i; omega
        have hsh : ((x % 128 : Nat) : Int) * 2 ^ (7 * i) = ((x % 128 * 2 ^ (7 * i) : Nat) : Int) := by simp
        have hor := or64 a (x % 128) (7 * i) hai (by omega)
        simp only [walk, lists, acts, mem, plain, seqs, maps, cells, resL, resV, intBin, ↓reduceIte, Nat.reduceAdd, Nat.reduceSub, Nat.reduceMul, Nat.reduceLeDiff, Nat.reduceEqDiff, Int.reduceToNat, Int.reduceEq, Int.reduceLT, Int.reduceLE, Int.reduceNeg, Int.reduceAdd, Int.reduceSub, Int.reduceMul, Nat.reducePow, Int.reduceNegSucc, w_cu, hread_1 e1]
        rw [and127b x hx]
        simp (disch := omega) only [walk, lists, acts, mem, plain, seqs, maps, cells, resL, resV, intBin, ↓reduceIte, Nat.reduceAdd, Nat.reduceSub, Nat.reduceMul, Nat.reduceLeDiff, Nat.reduceEqDiff, Int.reduceToNat, Int.reduceEq, Int.reduceLT, Int.reduceLE, Int.reduceNeg, Int.reduceAdd, Int.reduceSub, Int.reduceMul, Nat.reducePow, Int.reduceNegSucc, w_cu, wrapI, wrapU, hc, hc2, hnn, hmin, hsh, hor]
        generalize hM : a + x % 128 * 2 ^ (7 * i) = M at *
        have hMb : M ≤ 72057594037927936 := by omega
        rw [hp2] at st
        rw [hM] at st
        rw [tm2]
        by_cases c3 : (x : Int) < 128
        · rw [if_pos c3]
          by_cases c4 : ((M % 2 : Nat) : Int) = 1
          · rw [if_pos c4]
            simp (disch := omega) only [walk, lists, acts, mem, plain, seqs, maps, cells, resL, resV, intBin, ↓reduceIte, Nat.reduceAdd, Nat.reduceSub, Nat.reduceMul, Nat.reduceLeDiff, Nat.reduceEqDiff, Int.reduceToNat, Int.reduceEq, Int.reduceLT, Int.reduceLE, Int.reduceNeg, Int.reduceAdd, Int.reduceSub, Int.reduceMul, Nat.reducePow, Int.reduceNegSucc, wrapI, wrapU, td2]
            refine raw_neg (n := ((M / 2 : Nat) : Int)) (by simp (disch := omega) only [walk, lists, acts, mem, plain, seqs, maps, cells, resL, resV, intBin, ↓reduceIte, Nat.reduceAdd, Nat.reduceSub, Nat.reduceMul, Nat.reduceLeDiff, Nat.reduceEqDiff, Int.reduceToNat, Int.reduceEq, Int.reduceLT, Int.reduceLE, Int.reduceNeg, Int.reduceAdd, Int.reduceSub, Int.reduceMul, Nat.reducePow, Int.reduceNegSucc, wrapI, wrapU, td2]) ?_
            simp (disch := omega) only [walk, lists, acts, mem, plain, seqs, maps, cells, resL, resV, intBin, ↓reduceIte, Nat.reduceAdd, Nat.reduceSub, Nat.reduceMul, Nat.reduceLeDiff, Nat.reduceEqDiff, Int.reduceToNat, Int.reduceEq, Int.reduceLT, Int.reduceLE, Int.reduceNeg, Int.reduceAdd, Int.reduceSub, Int.reduceMul, Nat.reducePow, Int.reduceNegSucc, wrapI]
            refine .of (k _ (at' + 1) none (by omega) (by omega) he (fun h => h) fun _ m r nm => ?_)
            have := (st m r nm).1 (by omega)
            refine ⟨?_, this.2, rfl⟩
            unfold unzig
            rw [← this.1, if_pos (by omega)]
            omega
          · rw [if_neg c4]
            simp (disch := omega) only [walk, lists, acts, mem, plain, seqs, maps, cells, resL, resV, intBin, ↓reduceIte, Nat.reduceAdd, Nat.reduceSub, Nat.reduceMul, Nat.reduceLeDiff, Nat.reduceEqDiff, Int.reduceToNat, Int.reduceEq, Int.reduceLT, Int.reduceLE, Int.reduceNeg, Int.reduceAdd, Int.reduceSub, Int.reduceMul, Nat.reducePow, Int.reduceNegSucc, wrapI, wrapU, td2]
            refine .of (k _ (at' + 1) none (by omega) (by omega) he (fun h => h) fun _ m r nm => ?_)
            have := (st m r nm).1 (by omega)
            refine ⟨?_, this.2, rfl⟩
            unfold unzig
            rw [← this.1, if_neg (by omega)]
        · rw [if_neg c3]
          exact ⟨8 - (i + 1), by omega, _, .refl _, i + 1, at' + 1, M, none, rfl, rfl, by omega, by omega, rfl, by rw [Nat.mul_add, Nat.pow_add]; omega, rfl, fun m r nm => by
            have := (st m r nm).2 (by omega)
            exact ⟨this.1, this.2.1, fun _ => this.2.2⟩⟩
end Go.Proofs.Ytllhdnfcneejaaa
