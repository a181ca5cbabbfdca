/- How the reference writes words. -/
import Derived.Test.YtllhdnfcneejaaaT11
set_option linter.unusedVariables false
set_option linter.unusedSimpArgs false
set_option maxRecDepth 20000
attribute [local irreducible] Go.Tk.vc Go.Tk.vops Go.Tk.vdr Go.Tk.vop Go.Tk.vfl Go.Tk.HCalls
namespace Go.Proofs.Ytllhdnfcneejaaa
open Go Go.Tk

theorem encIs_hd {l : List Int} {n : Nat} (hs : allP smallP l) : (encIs ((n : Int) :: l)).length ≤ 2 * n + 1 + 3 * l.length := by
  rw [encIs_cons, List.length_append]
  have h1 := encN_le (zig (n : Int))
  have e : zig (n : Int) = 2 * n := by unfold zig; rw [if_neg (by omega)]; omega
  have h2 := encIs_len hs
  unfold encI
  rw [e] at h1 ⊢
  omega
theorem flatP_small {l : List (Int × Int)} (h : ∀ x ∈ l, smallP x.1 ∧ smallP x.2) : allP smallP (flatP l) := by
  induction l with
  | nil => exact allP_nil _
  | cons a l ih =>
    rw [flatP_cons]
    intro x hx
    rcases List.mem_cons.1 hx with rfl | hx
    · exact (h a List.mem_cons_self).1
    · rcases List.mem_cons.1 hx with rfl | hx
      · exact (h a List.mem_cons_self).2
      · exact ih (fun y hy => h y (List.mem_cons_of_mem _ hy)) x hx
theorem flatP_len (l : List (Int × Int)) : (flatP l).length = 2 * l.length := by
  induction l with
  | nil => rfl
  | cons a l ih => rw [flatP_cons]; simp only [List.length_cons, ih]; omega

theorem specPack_c {h : H} {w : DWord} {s p v : Value} (r : sWord h w s p v) (hw : wLen w) {R : Ending → H → Prop}
    (kok : wordP w → ∀ v' g', oLs 5 eB 1 v' (pack w) g' → Dj g' h → R (.returned v') (g' ++ h))
    (kno : ¬ wordP w → ∀ v' g', oLs 5 eB 1 v' [] g' → Dj g' h → R (.returned v') (g' ++ h)) :
    HCalls Try.prog 16 #[.agg (cWord w s p v).toArray] h R := by
  refine HCalls_ir (args := [.agg (cWord w s p v).toArray]) Try.func16 ir16 ?_
  simp only [walk, lists, acts, mem, plain, seqs, maps, cells, resL, resV, intBin, ↓reduceIte, Nat.reduceAdd, Nat.reduceSub, Nat.reduceMul, Nat.reduceLeDiff, Nat.reduceEqDiff, Int.reduceToNat, Int.reduceEq, Int.reduceLT, Int.reduceLE, Int.reduceNeg, Int.reduceAdd, Int.reduceSub, Int.reduceMul, Nat.reducePow, Int.reduceNegSucc, wWord]
  refine newB_intro fun j hj => ?_
  have sj := fun o => Sub.cons (o := o) hj (Sub.refl h)
  simp only [walk, lists, acts, mem, plain, seqs, maps, cells, resL, resV, intBin, ↓reduceIte, Nat.reduceAdd, Nat.reduceSub, Nat.reduceMul, Nat.reduceLeDiff, Nat.reduceEqDiff, Int.reduceToNat, Int.reduceEq, Int.reduceLT, Int.reduceLE, Int.reduceNeg, Int.reduceAdd, Int.reduceSub, Int.reduceMul, Nat.reducePow, Int.reduceNegSucc, wWord]
  refine newB_intro fun j2 hj2 => ?_
  have n2 := fresh hj2
  have sj2 := fun o => Sub.cons (o := o) hj2 (sj _)
  simp only [walk, lists, acts, mem, plain, seqs, maps, cells, resL, resV, intBin, ↓reduceIte, Nat.reduceAdd, Nat.reduceSub, Nat.reduceMul, Nat.reduceLeDiff, Nat.reduceEqDiff, Int.reduceToNat, Int.reduceEq, Int.reduceLT, Int.reduceLE, Int.reduceNeg, Int.reduceAdd, Int.reduceSub, Int.reduceMul, Nat.reducePow, Int.reduceNegSucc, wWord, n2.1, n2.2.1]
  refine specWordOk_c (w := w) ⟨r.1.sub (sj2 _), r.2.1.sub (sj2 _), r.2.2.sub (sj2 _)⟩ hw fun b hb => ?_
  simp only [walk, lists, acts, mem, plain, seqs, maps, cells, resL, resV, intBin, ↓reduceIte, Nat.reduceAdd, Nat.reduceSub, Nat.reduceMul, Nat.reduceLeDiff, Nat.reduceEqDiff, Int.reduceToNat, Int.reduceEq, Int.reduceLT, Int.reduceLE, Int.reduceNeg, Int.reduceAdd, Int.reduceSub, Int.reduceMul, Nat.reducePow, Int.reduceNegSucc, wWord, wCall, n2.1, n2.2.1]
  have o2 : oLs 5 eB 1 (.slice (some ⟨j2, 0, none⟩) 0 0) [] [(j2, blk (fl eB []) 5)] := oLs_new eB_len
  refine ite_f (fun e => ⟨[(j2, blk [] 5)] ++ h, by (repeat' first | exact Sub.refl _ | exact Sub.nil _ | assumption | refine Sub.both ?_ ?_ | refine Sub.cons_of (by simp only [subs, hj, hj2, n2]) ?_ | exact Sub.left _ _ | refine Sub.app (by simp only [subs, hj, hj2, n2]) ?_ | refine Sub.cons (by simp only [subs, hj, hj2, n2]) ?_), kno (not_b hb e) _ _ o2 (Dj.one n2.2.2)⟩) fun e => ?_
  have ok := hb.1 e
  refine vc_draw _ (Sub.refl _) ?_
  simp only [walk, lists, acts, mem, plain, seqs, maps, cells, resL, resV, intBin, ↓reduceIte, Nat.reduceAdd, Nat.reduceSub, Nat.reduceMul, Nat.reduceLeDiff, Nat.reduceEqDiff, Int.reduceToNat, Int.reduceEq, Int.reduceLT, Int.reduceLE, Int.reduceNeg, Int.reduceAdd, Int.reduceSub, Int.reduceMul, Nat.reducePow, Int.reduceNegSucc, wWord, wCall, n2.1, n2.2.1]
  refine l13Yes_c ?_
  simp only [walk, lists, acts, mem, plain, seqs, maps, cells, resL, resV, intBin, ↓reduceIte, Nat.reduceAdd, Nat.reduceSub, Nat.reduceMul, Nat.reduceLeDiff, Nat.reduceEqDiff, Int.reduceToNat, Int.reduceEq, Int.reduceLT, Int.reduceLE, Int.reduceNeg, Int.reduceAdd, Int.reduceSub, Int.reduceMul, Nat.reducePow, Int.reduceNegSucc, wWord, wCall, n2.1, n2.2.1, Sub_self]
  refine newB_intro (o := blk (fl eI (headW w)) 3) fun j3 hj3 => ?_
  have n3 := fresh hj3
  have n3' := fresh n3.2.2
  simp only [walk, lists, acts, mem, plain, seqs, maps, cells, resL, resV, intBin, ↓reduceIte, Nat.reduceAdd, Nat.reduceSub, Nat.reduceMul, Nat.reduceLeDiff, Nat.reduceEqDiff, Int.reduceToNat, Int.reduceEq, Int.reduceLT, Int.reduceLE, Int.reduceNeg, Int.reduceAdd, Int.reduceSub, Int.reduceMul, Nat.reducePow, Int.reduceNegSucc, Sub_new hj3]
  obtain ⟨hB, ehB⟩ : ∃ hB, hB = (j3, blk (fl eI (headW w)) 3) :: (j, blk (cWord w s p v) 28) :: h := ⟨_, rfl⟩
  have rj : ∀ k, hcel hB j k = (cWord w s p v)[k]? := fun k => by rw [ehB, hcel_next _ _ _ _ n3'.1, hcel_same]
  have hjB : hget hB j ≠ none := by rw [ehB, hget_next _ _ _ n3'.1, hget_same]; simp
  have sB : Sub h hB := by rw [ehB]; exact Sub.cons (by simp only [subs, n3'.1, n3'.2.1, n3'.2.2]) (sj _)
  have rs : sWord hB w s p v := sWord.sub sB r
  obtain ⟨V, hV⟩ : ∃ V, V = Value.slice (some ⟨j3, 0, none⟩) 14 14 := ⟨_, rfl⟩
  rw [← hV]
  have rV : rInts hB V (headW w) := by rw [hV, ehB]; exact rI_lit (headW w)
  have hlen : (headW w).length = 14 := rfl
  have sm := headW_small ok
  have d2 : Dj [(j2, blk [] 5)] hB := by rw [ehB]; simp only [subs, n2, n3, n3', hj2, hget_nil, eq_self]
  refine vc_loopS (g0 := [(j2, blk [] 5)] ++ hB) [3, 5] (fun n' vs h' => ∃ (i : Nat) (v' : Value) (g' : H), vs = [v', .int .i64 i] ∧ h' = g' ++ hB ∧ Dj g' hB ∧ oLs 5 eB 1 v' (encIs ((headW w).take i)) g' ∧ i ≤ 14 ∧ n' = 14 - i) 14 rfl
    (Sub.both (Sub.cons_of (by simp only [subs, n3]) (Sub.nil _)) (by rw [ehB]; (repeat' first | exact Sub.refl _ | exact Sub.nil _ | assumption | refine Sub.both ?_ ?_ | refine Sub.cons_of (by simp only [subs, n2, n3, n3', hj2, hj]) ?_ | exact Sub.left _ _ | refine Sub.app (by simp only [subs, n2, n3, n3', hj2, hj]) ?_ | refine Sub.cons (by simp only [subs, n2, n3, n3', hj2, hj]) ?_))) ⟨0, _, _, rfl, rfl, d2, o2, by omega, rfl⟩ ?_
  rintro n' f h' ⟨i, v', g', hv, rfl, dj', o', hi, rfl⟩
  simp only [List.map_cons, List.map_nil, List.cons.injEq, and_true] at hv
  simp only [walk, lists, acts, mem, plain, seqs, maps, cells, resL, resV, intBin, ↓reduceIte, Nat.reduceAdd, Nat.reduceSub, Nat.reduceMul, Nat.reduceLeDiff, Nat.reduceEqDiff, Int.reduceToNat, Int.reduceEq, Int.reduceLT, Int.reduceLE, Int.reduceNeg, Int.reduceAdd, Int.reduceSub, Int.reduceMul, Nat.reducePow, Int.reduceNegSucc, wr, hv.1, hv.2, rV.len, hlen]
  have hjg : ∀ {g' : H}, Dj g' hB → hget g' j = none := fun d => d.of hjB
  refine ite_lt (fun c1 => ?_) fun c1 => ?_
  · have hi2 : i < (headW w).length := by rw [hlen]; omega
    refine idx_leaf (i := i) eI_len (rV.sub (Sub.right dj')) rfl hi2 fun b1 o1 e1 => ?_
    simp only [walk, lists, acts, mem, plain, seqs, maps, cells, resL, resV, intBin, ↓reduceIte, Nat.reduceAdd, Nat.reduceSub, Nat.reduceMul, Nat.reduceLeDiff, Nat.reduceEqDiff, Int.reduceToNat, Int.reduceEq, Int.reduceLT, Int.reduceLE, Int.reduceNeg, Int.reduceAdd, Int.reduceSub, Int.reduceMul, Nat.reducePow, Int.reduceNegSucc, hread_1 e1]
    have hle : (encIs ((headW w).take i)).length ≤ 42 := by
      have := encIs_len (l := (headW w).take i) (fun x hx => sm x (List.mem_of_mem_take hx))
      rw [List.length_take] at this
      omega
    have sx := sm _ (List.getElem_mem hi2)
    refine l13Num_c o' dj' (by omega) ⟨by have := sx.1; omega, by have := sx.2; omega⟩ fun v2 g2 o2 d2 => ?_
    simp (disch := omega) only [walk, lists, acts, mem, plain, seqs, maps, cells, resL, resV, intBin, ↓reduceIte, Nat.reduceAdd, Nat.reduceSub, Nat.reduceMul, Nat.reduceLeDiff, Nat.reduceEqDiff, Int.reduceToNat, Int.reduceEq, Int.reduceLT, Int.reduceLE, Int.reduceNeg, Int.reduceAdd, Int.reduceSub, Int.reduceMul, Nat.reducePow, Int.reduceNegSucc, wrapI]
    refine ⟨14 - (i + 1), by omega, _, .refl _, i + 1, v2, g2, by simp, rfl, d2, ?_, by omega, rfl⟩
    rw [take_app_one hi2, encIs_app, encIs_one]; exact o2
  · have hi2 : (headW w).take i = headW w := List.take_of_length_le (by omega)
    rw [hi2] at o'
    have hle : (encIs (headW w)).length ≤ 42 := by
      have := encIs_len sm
      omega
    simp only [walk, lists, acts, mem, plain, seqs, maps, cells, resL, resV, intBin, ↓reduceIte, Nat.reduceAdd, Nat.reduceSub, Nat.reduceMul, Nat.reduceLeDiff, Nat.reduceEqDiff, Int.reduceToNat, Int.reduceEq, Int.reduceLT, Int.reduceLE, Int.reduceNeg, Int.reduceAdd, Int.reduceSub, Int.reduceMul, Nat.reducePow, Int.reduceNegSucc, apps, hjg dj', rj, wWord, wCall]
    refine raw_bytes (s := w.call.text) (by simp only [walk, lists, acts, mem, plain, seqs, maps, cells, resL, resV, intBin, ↓reduceIte, Nat.reduceAdd, Nat.reduceSub, Nat.reduceMul, Nat.reduceLeDiff, Nat.reduceEqDiff, Int.reduceToNat, Int.reduceEq, Int.reduceLT, Int.reduceLE, Int.reduceNeg, Int.reduceAdd, Int.reduceSub, Int.reduceMul, Nat.reducePow, Int.reduceNegSucc]) tText tBytes tByte fun j4 ob v4 hj4 r4 => ?_
    simp only [walk, lists, acts, mem, plain, seqs, maps, cells, resL, resV, intBin, ↓reduceIte, Nat.reduceAdd, Nat.reduceSub, Nat.reduceMul, Nat.reduceLeDiff, Nat.reduceEqDiff, Int.reduceToNat, Int.reduceEq, Int.reduceLT, Int.reduceLE, Int.reduceNeg, Int.reduceAdd, Int.reduceSub, Int.reduceMul, Nat.reducePow, Int.reduceNegSucc]
    have hct : w.call.text.length ≤ 80 := ok.2.2.2.2.2.2.2.2.2.2.2.2.2.2.2
    refine app_leaf (M := (j4, ob) :: (g' ++ hB)) eB_len eB_one tBytes iByte (Sub.cons hj4 (Sub.refl _)) dj' o' (r4.sub (Sub.cons_of (hget_same _ _ _) (Sub.nil _))) (by omega) (by omega) fun v2 g2 o2 d2 => ?_
    simp only [walk, lists, acts, mem, plain, seqs, maps, cells, resL, resV, intBin, ↓reduceIte, Nat.reduceAdd, Nat.reduceSub, Nat.reduceMul, Nat.reduceLeDiff, Nat.reduceEqDiff, Int.reduceToNat, Int.reduceEq, Int.reduceLT, Int.reduceLE, Int.reduceNeg, Int.reduceAdd, Int.reduceSub, Int.reduceMul, Nat.reducePow, Int.reduceNegSucc]
    refine vc_draw hB (Sub.right d2) ?_
    simp only [walk, lists, acts, mem, plain, seqs, maps, cells, resL, resV, intBin, ↓reduceIte, Nat.reduceAdd, Nat.reduceSub, Nat.reduceMul, Nat.reduceLeDiff, Nat.reduceEqDiff, Int.reduceToNat, Int.reduceEq, Int.reduceLT, Int.reduceLE, Int.reduceNeg, Int.reduceAdd, Int.reduceSub, Int.reduceMul, Nat.reducePow, Int.reduceNegSucc, apps, hjg d2, rj, wWord, wCall]
    refine l13Nums_c o2 d2 rs.1 (by rw [List.length_append]; omega) (slotsP_small ok.2.2.2.2.2.2.1) hw.1 fun v3 g3 o3 d3 => ?_
    simp only [walk, lists, acts, mem, plain, seqs, maps, cells, resL, resV, intBin, ↓reduceIte, Nat.reduceAdd, Nat.reduceSub, Nat.reduceMul, Nat.reduceLeDiff, Nat.reduceEqDiff, Int.reduceToNat, Int.reduceEq, Int.reduceLT, Int.reduceLE, Int.reduceNeg, Int.reduceAdd, Int.reduceSub, Int.reduceMul, Nat.reducePow, Int.reduceNegSucc]
    refine ⟨Sub.right d3, ?_⟩
    have b1 := encIs_hd (n := w.slots.length) (slotsP_small ok.2.2.2.2.2.2.1)
    have b2 := encIs_hd (n := w.vals.length) (valsP_small ok.2.2.2.2.2.2.2.2.2.1)
    obtain ⟨w1, w2, w3⟩ := hw
    have okp : pairsP w.pairs := ok.2.2.2.2.2.2.2.1
    refine l13Nums_c o3 d3 rs.2.2 (by simp only [List.length_append]; omega) (valsP_small ok.2.2.2.2.2.2.2.2.2.1) w3 fun v5 g5 o5 d5 => ?_
    simp only [walk, lists, acts, mem, plain, seqs, maps, cells, resL, resV, intBin, ↓reduceIte, Nat.reduceAdd, Nat.reduceSub, Nat.reduceMul, Nat.reduceLeDiff, Nat.reduceEqDiff, Int.reduceToNat, Int.reduceEq, Int.reduceLT, Int.reduceLE, Int.reduceNeg, Int.reduceAdd, Int.reduceSub, Int.reduceMul, Nat.reducePow, Int.reduceNegSucc]
    refine ⟨Sub.right d5, ?_⟩
    simp only [walk, lists, acts, mem, plain, seqs, maps, cells, resL, resV, intBin, ↓reduceIte, Nat.reduceAdd, Nat.reduceSub, Nat.reduceMul, Nat.reduceLeDiff, Nat.reduceEqDiff, Int.reduceToNat, Int.reduceEq, Int.reduceLT, Int.reduceLE, Int.reduceNeg, Int.reduceAdd, Int.reduceSub, Int.reduceMul, Nat.reducePow, Int.reduceNegSucc, apps, hjg d5, rj, wWord, wCall, rs.2.1.len]
    refine l13Num_c o5 d5 (by simp only [List.length_append]; omega) (by omega) fun v6 g6 o6 d6 => ?_
    simp only [walk, lists, acts, mem, plain, seqs, maps, cells, resL, resV, intBin, ↓reduceIte, Nat.reduceAdd, Nat.reduceSub, Nat.reduceMul, Nat.reduceLeDiff, Nat.reduceEqDiff, Int.reduceToNat, Int.reduceEq, Int.reduceLT, Int.reduceLE, Int.reduceNeg, Int.reduceAdd, Int.reduceSub, Int.reduceMul, Nat.reducePow, Int.reduceNegSucc]
    obtain ⟨pre, hpre⟩ : ∃ pre, pre = encIs (headW w) ++ w.call.text ++ encIs ((w.slots.length : Int) :: w.slots) ++ encIs ((w.vals.length : Int) :: w.vals) := ⟨_, rfl⟩
    have hprel : pre.length ≤ 11000000000000 := by rw [hpre]; simp only [List.length_append]; omega
    rw [← hpre] at o6
    refine vc_loop [3, 6] (fun n' vs h' => ∃ (i : Nat) (v' : Value) (g' : H), vs = [v', .int .i64 i] ∧ h' = g' ++ hB ∧ Dj g' hB ∧ oLs 5 eB 1 v' (pre ++ encIs ((w.pairs.length : Int) :: flatP (w.pairs.take i))) g' ∧ i ≤ w.pairs.length ∧ n' = w.pairs.length - i) w.pairs.length rfl
      ⟨0, _, g6, rfl, rfl, d6, by rw [List.take_zero, flatP_nil, encIs_one]; exact o6, by omega, rfl⟩ ?_
    rintro n' f h' ⟨i, v', g', hv, rfl, dj', o', hi, rfl⟩
    simp only [List.map_cons, List.map_nil, List.cons.injEq, and_true] at hv
    simp only [walk, lists, acts, mem, plain, seqs, maps, cells, resL, resV, intBin, ↓reduceIte, Nat.reduceAdd, Nat.reduceSub, Nat.reduceMul, Nat.reduceLeDiff, Nat.reduceEqDiff, Int.reduceToNat, Int.reduceEq, Int.reduceLT, Int.reduceLE, Int.reduceNeg, Int.reduceAdd, Int.reduceSub, Int.reduceMul, Nat.reducePow, Int.reduceNegSucc, wr, hv.1, hv.2, apps, hjg dj', rj, wWord, rs.2.1.len]
    refine ite_lt (fun c1 => ?_) fun c1 => ?_
    · have hi2 : i < w.pairs.length := by omega
      refine vc_draw hB (Sub.right dj') ?_
      simp only [walk, lists, acts, mem, plain, seqs, maps, cells, resL, resV, intBin, ↓reduceIte, Nat.reduceAdd, Nat.reduceSub, Nat.reduceMul, Nat.reduceLeDiff, Nat.reduceEqDiff, Int.reduceToNat, Int.reduceEq, Int.reduceLT, Int.reduceLE, Int.reduceNeg, Int.reduceAdd, Int.reduceSub, Int.reduceMul, Nat.reducePow, Int.reduceNegSucc, rj, wWord]
      refine idx_leaf (i := i) eP_len rs.2.1 rfl hi2 fun b1 o1 e1 => ?_
      simp only [walk, lists, acts, mem, plain, seqs, maps, cells, resL, resV, intBin, ↓reduceIte, Nat.reduceAdd, Nat.reduceSub, Nat.reduceMul, Nat.reduceLeDiff, Nat.reduceEqDiff, Int.reduceToNat, Int.reduceEq, Int.reduceLT, Int.reduceLE, Int.reduceNeg, Int.reduceAdd, Int.reduceSub, Int.reduceMul, Nat.reducePow, Int.reduceNegSucc, (pair_cells e1).1, rj, wWord]
      refine idx_leaf (i := i) eP_len rs.2.1 rfl hi2 fun b2 o2 e2 => ?_
      simp only [walk, lists, acts, mem, plain, seqs, maps, cells, resL, resV, intBin, ↓reduceIte, Nat.reduceAdd, Nat.reduceSub, Nat.reduceMul, Nat.reduceLeDiff, Nat.reduceEqDiff, Int.reduceToNat, Int.reduceEq, Int.reduceLT, Int.reduceLE, Int.reduceNeg, Int.reduceAdd, Int.reduceSub, Int.reduceMul, Nat.reducePow, Int.reduceNegSucc, (pair_cells e2).2]
      have sx := pairsP_small okp (List.getElem_mem hi2)
      have hb3 := encIs_hd (l := flatP (w.pairs.take i)) (n := w.pairs.length) (flatP_small fun x hx => pairsP_small okp (List.mem_of_mem_take hx))
      rw [flatP_len, List.length_take] at hb3
      have sxl := encI_len (n := w.pairs[i].1) ⟨by have := sx.1.1; omega, by have := sx.1.2; omega⟩
      refine l13Num_c o' dj' (by rw [List.length_append]; omega) ⟨by have := sx.1.1; omega, by have := sx.1.2; omega⟩ fun v7 g7 o7 d7 => ?_
      simp only [walk, lists, acts, mem, plain, seqs, maps, cells, resL, resV, intBin, ↓reduceIte, Nat.reduceAdd, Nat.reduceSub, Nat.reduceMul, Nat.reduceLeDiff, Nat.reduceEqDiff, Int.reduceToNat, Int.reduceEq, Int.reduceLT, Int.reduceLE, Int.reduceNeg, Int.reduceAdd, Int.reduceSub, Int.reduceMul, Nat.reducePow, Int.reduceNegSucc]
      refine ⟨Sub.right d7, ?_⟩
      refine l13Num_c o7 d7 (by simp only [List.length_append]; omega) ⟨by have := sx.2.1; omega, by have := sx.2.2; omega⟩ fun v8 g8 o8 d8 => ?_
      simp (disch := omega) only [walk, lists, acts, mem, plain, seqs, maps, cells, resL, resV, intBin, ↓reduceIte, Nat.reduceAdd, Nat.reduceSub, Nat.reduceMul, Nat.reduceLeDiff, Nat.reduceEqDiff, Int.reduceToNat, Int.reduceEq, Int.reduceLT, Int.reduceLE, Int.reduceNeg, Int.reduceAdd, Int.reduceSub, Int.reduceMul, Nat.reducePow, Int.reduceNegSucc, wrapI]
      refine ⟨Sub.right d8, w.pairs.length - (i + 1), by omega, _, .refl _, i + 1, v8, g8, by simp, rfl, d8, ?_, by omega, rfl⟩
      rw [take_app_one hi2, flatP_app, flatP_one, ← List.cons_append, encIs_app, encIs_cons _ [_], encIs_one, ← List.append_assoc, ← List.append_assoc]; exact o8
    · have hi2 : w.pairs.take i = w.pairs := List.take_of_length_le (by omega)
      rw [hi2, hpre] at o'
      refine ⟨g' ++ h, Sub.both (Sub.left _ _) (sB.trans (Sub.right dj')), kok ok v' g' o' (dj'.sub (.refl _) sB)⟩
end Go.Proofs.Ytllhdnfcneejaaa
