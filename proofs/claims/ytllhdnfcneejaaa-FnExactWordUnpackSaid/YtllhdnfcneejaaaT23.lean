/- How the program reads numbers into places, and lists of numbers. -/
import Derived.Test.YtllhdnfcneejaaaT22
set_option linter.unusedVariables false
set_option linter.unusedSimpArgs false
set_option maxRecDepth 20000
attribute [local irreducible] Go.Tk.vc Go.Tk.vops Go.Tk.vdr Go.Tk.vop Go.Tk.vfl Go.Tk.HCalls
namespace Go.Proofs.Ytllhdnfcneejaaa
open Go Go.Tk

theorem errV_n : errV none = .nilIface := rfl
theorem errV_s (a : Nat) (f : Int) : errV (some (a, f)) = .iface 129 (.agg #[.int .i64 a, .iface 56 (.int .i64 f)]) := rfl

/-- A place. -/
def ePt (p : Nat × Nat) : List Value := [.pointer (some ⟨p.1, p.2, none⟩)]
theorem ePt_len (p : Nat × Nat) : (ePt p).length = 1 := rfl

theorem into_c {M : List Int → H} {j at_ : Nat} {bv lv : Value} {l : List UInt8} {ts : List (Nat × Nat)} {e : Option (Nat × Int)} (hj : ∀ ys, hget (M ys) j = none) (rb : ∀ ys, rBytes (M ys) bv l) (rl : ∀ ys, rLs (M ys) ePt 1 lv ts)
    (hw : ∀ ys z (h : ys.length < ts.length), (ts[ys.length].1 ≠ j) ∧ hwrite (M ys) ts[ys.length].1 ts[ys.length].2 [.int .i64 z] = some (M (ys ++ [z])))
    (hl : l.length ≤ 1099511627776) (ht : ts.length ≤ 1099511627776) (ha : at_ ≤ l.length) (he : okE e) {R : Ending → H → Prop}
    (k : ∀ ys (at' : Nat) (e' : Option (Nat × Int)), ys.length = ts.length → at' ≤ l.length → okE e' → (e' = none → e = none) → (e = none → ∀ xs r, xs.length = ts.length → allP smallP xs → l.drop at_ = encIs xs ++ r → ys = xs ∧ l.drop at' = r ∧ e' = none) →
      R (.returned (.tuple #[])) ((j, blk (cu bv at' (errV e')) 54) :: M ys)) :
    HCalls Try.prog 73 #[.pointer (some ⟨j, 0, none⟩), lv] ((j, blk (cu bv at_ (errV e)) 54) :: M []) R := by
  refine HCalls_ir (args := [.pointer (some ⟨j, 0, none⟩), lv]) Try.func73 ir73 ?_
  simp only [walk, lists, acts, mem, plain, seqs, maps, cells, resL, resV, intBin, ↓reduceIte, Nat.reduceAdd, Nat.reduceSub, Nat.reduceMul, Nat.reduceLeDiff, Nat.reduceEqDiff, Int.reduceToNat, Int.reduceEq, Int.reduceLT, Int.reduceLE, Int.reduceNeg, Int.reduceAdd, Int.reduceSub, Int.reduceMul, Nat.reducePow, Int.reduceNegSucc, (rl []).len]
  refine vc_loop [8] (fun n' vs h' => ∃ (ys : List Int) (at' : Nat) (e' : Option (Nat × Int)), vs = [.int .i64 ys.length] ∧ h' = (j, blk (cu bv at' (errV e')) 54) :: M ys ∧ ys.length ≤ ts.length ∧ n' = ts.length - ys.length ∧ at' ≤ l.length ∧ okE e' ∧ (e' = none → e = none) ∧
    (e = none → ∀ xs r, xs.length = ts.length → allP smallP xs → l.drop at_ = encIs xs ++ r → ys = xs.take ys.length ∧ l.drop at' = encIs (xs.drop ys.length) ++ r ∧ e' = none)) ts.length rfl
    ⟨[], at_, e, rfl, rfl, by simp, rfl, ha, he, fun h => h, fun h xs r _ _ hx => ⟨by simp, by simpa using hx, h⟩⟩ ?_
  rintro n' f h' ⟨ys, at', e', hv, rfl, hi, rfl, ha', he', hee, ex⟩
  simp only [List.map_cons, List.map_nil, List.cons.injEq, and_true] at hv
  simp only [walk, lists, acts, mem, plain, seqs, maps, cells, resL, resV, intBin, ↓reduceIte, Nat.reduceAdd, Nat.reduceSub, Nat.reduceMul, Nat.reduceLeDiff, Nat.reduceEqDiff, Int.reduceToNat, Int.reduceEq, Int.reduceLT, Int.reduceLE, Int.reduceNeg, Int.reduceAdd, Int.reduceSub, Int.reduceMul, Nat.reducePow, Int.reduceNegSucc, wr, hv]
  refine ite_lt (fun c1 => ?_) fun c1 => ?_
  · have hi2 : ys.length < ts.length := by omega
    have sj := fun o => Sub.cons (o := o) (hj ys) (Sub.refl (M ys))
    refine idx_leaf (i := ys.length) ePt_len ((rl ys).sub (sj (blk (cu bv at' (errV e')) 54))) rfl hi2 fun b1 o1 e1 => ?_
    simp only [walk, lists, acts, mem, plain, seqs, maps, cells, resL, resV, intBin, ↓reduceIte, Nat.reduceAdd, Nat.reduceSub, Nat.reduceMul, Nat.reduceLeDiff, Nat.reduceEqDiff, Int.reduceToNat, Int.reduceEq, Int.reduceLT, Int.reduceLE, Int.reduceNeg, Int.reduceAdd, Int.reduceSub, Int.reduceMul, Nat.reducePow, Int.reduceNegSucc, hread_1 e1]
    refine number_c (hj ys) (rb ys) hl ha' he' fun n at2 e2 ha2 hn2 he2 hen2 ex2 => ?_
    obtain ⟨hne, hwr⟩ := hw ys n hi2
    simp only [walk, lists, acts, mem, plain, seqs, maps, cells, resL, resV, intBin, ↓reduceIte, Nat.reduceAdd, Nat.reduceSub, Nat.reduceMul, Nat.reduceLeDiff, Nat.reduceEqDiff, Int.reduceToNat, Int.reduceEq, Int.reduceLT, Int.reduceLE, Int.reduceNeg, Int.reduceAdd, Int.reduceSub, Int.reduceMul, Nat.reducePow, Int.reduceNegSucc, w_cu, hne, hwr]
    simp (disch := omega) only [walk, lists, acts, mem, plain, seqs, maps, cells, resL, resV, intBin, ↓reduceIte, Nat.reduceAdd, Nat.reduceSub, Nat.reduceMul, Nat.reduceLeDiff, Nat.reduceEqDiff, Int.reduceToNat, Int.reduceEq, Int.reduceLT, Int.reduceLE, Int.reduceNeg, Int.reduceAdd, Int.reduceSub, Int.reduceMul, Nat.reducePow, Int.reduceNegSucc, wrapI]
    refine ⟨ts.length - (ys.length + 1), by omega, _, .refl _, ys ++ [n], at2, e2, by simp, rfl, by simp; omega, by simp, ha2, he2, fun h => hee (hen2 h), fun h xs r hx hs hd => ?_⟩
    obtain ⟨h1, h2, h3⟩ := ex h xs r hx hs hd
    have hx2 : ys.length < xs.length := by omega
    rw [List.drop_eq_getElem_cons hx2, encIs_cons, List.append_assoc] at h2
    obtain ⟨g1, g2, g3⟩ := ex2 h3 _ _ ⟨h2, small_num (hs _ (List.getElem_mem hx2))⟩
    rw [unzig_zig] at g1
    refine ⟨?_, by simpa using g2, g3⟩
    rw [List.length_append, List.length_singleton, take_app_one hx2, ← h1, g1]
  · refine .of (k ys at' e' (by omega) ha' he' hee fun h xs r hx hs hd => ?_)
    obtain ⟨h1, h2, h3⟩ := ex h xs r hx hs hd
    rw [List.take_of_length_le (by omega)] at h1
    rw [show xs.drop ys.length = [] from List.drop_eq_nil_of_le (by omega), encIs_nil] at h2
    exact ⟨h1, h2, h3⟩

theorem counted_c {h0 : H} {j at_ : Nat} {bv : Value} {l : List UInt8} {e : Option (Nat × Int)} (hj : hget h0 j = none) (rb : rBytes h0 bv l) (hl : l.length ≤ 1099511627776) (ha : at_ ≤ l.length) (he : okE e) {R : Ending → H → Prop}
    (k : ∀ v g xs (at' : Nat) (e' : Option (Nat × Int)), oLs 3 eI 1 v xs g → Dj g ((j, blk (cu bv at' (errV e')) 54) :: h0) → xs.length ≤ l.length → at' ≤ l.length → okE e' → (e' = none → e = none) →
      (e = none → ∀ ys r, ys.length ≤ 9999 → allP smallP ys → l.drop at_ = encIs ((ys.length : Int) :: ys) ++ r → xs = ys ∧ l.drop at' = r ∧ e' = none) →
      R (.returned v) (g ++ ((j, blk (cu bv at' (errV e')) 54) :: h0))) :
    HCalls Try.prog 75 #[.pointer (some ⟨j, 0, none⟩)] ((j, blk (cu bv at_ (errV e)) 54) :: h0) R := by
  refine HCalls_ir (args := [.pointer (some ⟨j, 0, none⟩)]) Try.func75 ir75 ?_
  simp only [walk, lists, acts, mem, plain, seqs, maps, cells, resL, resV, intBin, ↓reduceIte, Nat.reduceAdd, Nat.reduceSub, Nat.reduceMul, Nat.reduceLeDiff, Nat.reduceEqDiff, Int.reduceToNat, Int.reduceEq, Int.reduceLT, Int.reduceLE, Int.reduceNeg, Int.reduceAdd, Int.reduceSub, Int.reduceMul, Nat.reducePow, Int.reduceNegSucc]
  refine count_c hj rb hl ha he fun n at1 e1 ha1 hn1 he1 hen1 ex1 => ?_
  simp only [walk, lists, acts, mem, plain, seqs, maps, cells, resL, resV, intBin, ↓reduceIte, Nat.reduceAdd, Nat.reduceSub, Nat.reduceMul, Nat.reduceLeDiff, Nat.reduceEqDiff, Int.reduceToNat, Int.reduceEq, Int.reduceLT, Int.reduceLE, Int.reduceNeg, Int.reduceAdd, Int.reduceSub, Int.reduceMul, Nat.reducePow, Int.reduceNegSucc]
  refine vc_loop [3, 4] (fun n' vs h' => ∃ (i : Nat) (v' : Value) (g' : H) (xs : List Int) (at' : Nat) (e' : Option (Nat × Int)), vs = [v', .int .i64 ((n - i : Nat) : Int)] ∧ h' = g' ++ ((j, blk (cu bv at' (errV e')) 54) :: h0) ∧ Dj g' ((j, blk (cu bv at' (errV e')) 54) :: h0) ∧ oLs 3 eI 1 v' xs g' ∧
    xs.length = i ∧ i ≤ n ∧ n' = n - i ∧ at' ≤ l.length ∧ okE e' ∧ (e' = none → e = none) ∧ (e = none → ∀ ys r, ys.length ≤ 9999 → allP smallP ys → l.drop at_ = encIs ((ys.length : Int) :: ys) ++ r → n = ys.length ∧ xs = ys.take i ∧ l.drop at' = encIs (ys.drop i) ++ r ∧ e' = none)) n rfl
    ⟨0, _, [], [], at1, e1, rfl, rfl, Dj.nil _, ows.nil _ _, rfl, by omega, rfl, ha1, he1, hen1, fun h ys r hy hs hx => by
      rw [encIs_cons, List.append_assoc] at hx
      have hle : ys.length ≤ (encIs ys ++ r).length := by
        rw [List.length_append]
        have : ∀ zs : List Int, zs.length ≤ (encIs zs).length := fun zs => by
          induction zs with
          | nil => simp
          | cons a t ih =>
            rw [encIs_cons, List.length_append, List.length_cons]
            have : 0 < (encI a).length := List.length_pos_iff.2 (encN_ne _)
            omega
        have := this ys
        omega
      obtain ⟨a, b, c⟩ := ex1 h _ _ hx hy hle
      exact ⟨a, by simp, by simpa using b, c⟩⟩ ?_
  rintro n' f h' ⟨i, v', g', xs, at', e', hv, rfl, dj', o', hxl, hi, rfl, ha', he', hee, ex⟩
  simp only [List.map_cons, List.map_nil, List.cons.injEq, and_true] at hv
  have d1 := dj'
  have d2 := dj'.symm
  simp only [subs] at d1 d2
  simp only [walk, lists, acts, mem, plain, seqs, maps, cells, resL, resV, intBin, ↓reduceIte, Nat.reduceAdd, Nat.reduceSub, Nat.reduceMul, Nat.reduceLeDiff, Nat.reduceEqDiff, Int.reduceToNat, Int.reduceEq, Int.reduceLT, Int.reduceLE, Int.reduceNeg, Int.reduceAdd, Int.reduceSub, Int.reduceMul, Nat.reducePow, Int.reduceNegSucc, wr, hv.1, hv.2, apps, d1, w_cu]
  have fin : (i = n ∨ e' ≠ none) → dP R (.returned v') (g' ++ ((j, blk (cu bv at' (errV e')) 54) :: h0)) := fun hd =>
    .of (k v' g' xs at' e' o' dj' (by omega) ha' he' hee fun h ys r hy hs hx => by
      obtain ⟨a, b, c, d⟩ := ex h ys r hy hs hx
      rcases hd with hd | hd
      · rw [List.take_of_length_le (by omega)] at b
        rw [show ys.drop i = [] from List.drop_eq_nil_of_le (by omega), encIs_nil] at c
        exact ⟨b, c, d⟩
      · exact absurd d hd)
  refine ite_lt (fun c1 => ?_) fun c1 => ?_
  · cases e' with
    | some p =>
      obtain ⟨pa, pf⟩ := p
      simp only [walk, lists, acts, mem, plain, seqs, maps, cells, resL, resV, intBin, ↓reduceIte, Nat.reduceAdd, Nat.reduceSub, Nat.reduceMul, Nat.reduceLeDiff, Nat.reduceEqDiff, Int.reduceToNat, Int.reduceEq, Int.reduceLT, Int.reduceLE, Int.reduceNeg, Int.reduceAdd, Int.reduceSub, Int.reduceMul, Nat.reducePow, Int.reduceNegSucc, wr, hv.1, hv.2, w_cu, errV_n, errV_s, apps, d1]
      exact fin (.inr (by simp))
    | none =>
      simp only [walk, lists, acts, mem, plain, seqs, maps, cells, resL, resV, intBin, ↓reduceIte, Nat.reduceAdd, Nat.reduceSub, Nat.reduceMul, Nat.reduceLeDiff, Nat.reduceEqDiff, Int.reduceToNat, Int.reduceEq, Int.reduceLT, Int.reduceLE, Int.reduceNeg, Int.reduceAdd, Int.reduceSub, Int.reduceMul, Nat.reducePow, Int.reduceNegSucc, wr, hv.1, hv.2, w_cu, errV_n, errV_s, apps, d1]
      refine ⟨rfl, ?_⟩
      refine (number_c (j := j) (e := none) (at_ := at') (h0 := g' ++ h0) (by simp only [subs, d1, hj]) (rb.sub (Sub.right d1.2)) hl ha' he' fun x at2 e2 ha2 hx2 he2 hen2 ex2 => ?_).weaken (by rw [errV_n]; (repeat' first | exact Sub.refl _ | exact Sub.nil _ | assumption | refine Sub.both ?_ ?_ | refine Sub.cons_of (by simp only [subs, d1, d2, hj]) ?_ | exact Sub.left _ _ | refine Sub.app (by simp only [subs, d1, d2, hj]) ?_ | refine Sub.cons (by simp only [subs, d1, d2, hj]) ?_))
      simp only [walk, lists, acts, mem, plain, seqs, maps, cells, resL, resV, intBin, ↓reduceIte, Nat.reduceAdd, Nat.reduceSub, Nat.reduceMul, Nat.reduceLeDiff, Nat.reduceEqDiff, Int.reduceToNat, Int.reduceEq, Int.reduceLT, Int.reduceLE, Int.reduceNeg, Int.reduceAdd, Int.reduceSub, Int.reduceMul, Nat.reducePow, Int.reduceNegSucc]
      refine newB_intro fun j5 hj5 => ?_
      simp only [subs] at hj5
      simp only [walk, lists, acts, mem, plain, seqs, maps, cells, resL, resV, intBin, ↓reduceIte, Nat.reduceAdd, Nat.reduceSub, Nat.reduceMul, Nat.reduceLeDiff, Nat.reduceEqDiff, Int.reduceToNat, Int.reduceEq, Int.reduceLT, Int.reduceLE, Int.reduceNeg, Int.reduceAdd, Int.reduceSub, Int.reduceMul, Nat.reducePow, Int.reduceNegSucc]
      refine app_leaf (g := g') (h := (j, blk (cu bv at2 (errV e2)) 54) :: h0) (M := (j5, blk (fl eI [x]) 3) :: (j, blk (cu bv at2 (errV e2)) 54) :: (g' ++ h0)) eI_len eI_one tInts iInt (by (repeat' first | exact Sub.refl _ | exact Sub.nil _ | assumption | refine Sub.both ?_ ?_ | refine Sub.cons_of (by simp only [subs, d1, d2, hj, hj5]) ?_ | exact Sub.left _ _ | refine Sub.app (by simp only [subs, d1, d2, hj, hj5]) ?_ | refine Sub.cons (by simp only [subs, d1, d2, hj, hj5]) ?_)) (by simp only [subs, d1]) o' (rI_lit [x]) (by simp; omega) (by simp; omega) fun v2 g2 o2 d3 => ?_
      simp (disch := omega) only [walk, lists, acts, mem, plain, seqs, maps, cells, resL, resV, intBin, ↓reduceIte, Nat.reduceAdd, Nat.reduceSub, Nat.reduceMul, Nat.reduceLeDiff, Nat.reduceEqDiff, Int.reduceToNat, Int.reduceEq, Int.reduceLT, Int.reduceLE, Int.reduceNeg, Int.reduceAdd, Int.reduceSub, Int.reduceMul, Nat.reducePow, Int.reduceNegSucc, wrapI]
      have hx1 : (xs ++ [x]).length = i + 1 := by rw [List.length_append, hxl]; rfl
      refine ⟨n - (i + 1), by omega, _, .refl _, i + 1, v2, g2, xs ++ [x], at2, e2, by simp; omega, rfl, d3, o2, hx1, by omega, rfl, ha2, he2, fun h => hee (hen2 h), fun h ys r hy hs hx => ?_⟩
      obtain ⟨a, b, c, d⟩ := ex h ys r hy hs hx
      have hi2 : i < ys.length := by omega
      rw [List.drop_eq_getElem_cons hi2, encIs_cons, List.append_assoc] at c
      obtain ⟨g1, g2, g3⟩ := ex2 d _ _ ⟨c, small_num (hs _ (List.getElem_mem hi2))⟩
      rw [unzig_zig] at g1
      exact ⟨a, by rw [take_app_one hi2, ← b, g1], g2, g3⟩
  · exact fin (.inl (by omega))
end Go.Proofs.Ytllhdnfcneejaaa
