/- Parts of the proof, put together: Q8, C2, Q9, QA, Y3. -/
import Derived.Test.YtmfhlkkligcgdaaGreatDoorK1215
import Derived.Test.YtmfhlkkligcgdaaGreatDoorK1214
import Derived.Test.YtmfhlkkligcgdaaGreatDoorK1213
import Derived.Test.YtmfhlkkligcgdaaGreatDoorK125
/- What comes in, anew. -/
section
set_option linter.unusedVariables false
set_option linter.unusedSimpArgs false
set_option maxRecDepth 20000
attribute [local irreducible] Go.Tk.vc Go.Tk.vops Go.Tk.vdr Go.Tk.vop Go.Tk.vfl Go.Tk.HCalls
namespace Go.Proofs.YtmfhlkkligcgdaaGreatDoor
open Go Go.Tk

theorem toIntS_d {h : H} {a : Value} {l : List Int} (r : rIn h eI 1 a l) (hl : l.length ≤ 1048576) {R : Ending → H → Prop} (k : ∀ M' v S, Tk.Sub h M' → dL 3 eI 1 M' v l S → (∀ x, S x → hget h x = none) → R (.returned v) M') : HCalls Tryz.prog 96 #[a] h R :=
  toIntS_c r hl fun v g o d => k _ v _ (Sub.right d) (dL.of (h := h) o (Sub.left _ _)) fun x q => d x q
theorem toPairS_d {h : H} {a : Value} {l : List (Int × Int)} (r : rIn h eP 2 a l) (hl : l.length ≤ 1048576) {R : Ending → H → Prop} (k : ∀ M' v S, Tk.Sub h M' → dL 136 eP 2 M' v l S → (∀ x, S x → hget h x = none) → R (.returned v) M') : HCalls Tryz.prog 97 #[a] h R :=
  toPairS_c r hl fun v g o d => k _ v _ (Sub.right d) (dL.of (h := h) o (Sub.left _ _)) fun x q => d x q

set_option maxHeartbeats 1000000 in
theorem toRecord_c {h : H} {d : DRecord} {v1 v2 : Value} (r1 : rIn h eI 1 v1 d.vals) (r2 : rIn h eP 2 v2 d.pairs) (hx : bRecord d) {R : Ending → H → Prop}
    (k : ∀ M' w1 w2 S, Tk.Sub h M' → WRecord M' (cRecord d w1 w2) d S → (∀ x, S x → hget h x = none) → R (.returned (.agg (cRecord d w1 w2).toArray)) M') : HCalls Tryz.prog 61 #[.agg (cRecord d v1 v2).toArray] h R := by
  refine HCalls_ir (args := [.agg (cRecord d v1 v2).toArray]) Tryz.func61 ir61 ?_
  have z1 := zRecord_eq
  try simp only [str] at z1
  simp only [walk, lists, acts, mem, plain, seqs, maps, cells, resL, resV, intBin, seval, wRecord, str, z1]
  refine newB_intro fun j1 h1 => ?_
  simp only [walk, lists, acts, mem, plain, seqs, maps, cells, resL, resV, intBin, seval, wRecord]
  refine newB_intro fun j2 h2 => ?_
  simp only [walk, lists, acts, mem, plain, seqs, maps, cells, resL, resV, intBin, seval, wRecord]
  refine newB_intro fun j3 h3 => ?_
  have n2 := h2
  have n3 := h3
  simp only [subs] at n2 n3
  have m : j1 ≠ j2 ∧ j1 ≠ j3 ∧ j2 ≠ j3 ∧ j2 ≠ j1 ∧ j3 ≠ j1 ∧ j3 ≠ j2 := by refine ⟨?_, ?_, ?_, ?_, ?_, ?_⟩ <;> simp_all [Ne, eq_comm]
  try simp only [walk, lists, acts, mem, plain, seqs, maps, cells, resL, resV, intBin, seval, wRecord, wCall, z1, m]
  refine toCall_c ?_
  try simp only [walk, lists, acts, mem, plain, seqs, maps, cells, resL, resV, intBin, seval, wRecord, wCall, z1, m]
  obtain ⟨M0, hM0⟩ : ∃ M0, M0 = (j3, blk (cRecord ⟨d.stamp, d.try_, d.call, d.code, zRecord.vals, zRecord.pairs⟩ (.slice none 0 0) (.slice none 0 0)) 86) :: (j2, blk (cRecord zRecord (.slice none 0 0) (.slice none 0 0)) 86) :: (j1, blk (cRecord d v1 v2) 73) :: h := ⟨_, rfl⟩
  have sM0 : Tk.Sub h M0 := by rw [hM0]; (repeat' first | exact Sub.refl _ | exact Sub.nil _ | assumption | refine Sub.both ?_ ?_ | refine Sub.cons_of (by simp only [subs, n2, n3, h1, m]) ?_ | exact Sub.left _ _ | refine Sub.app (by simp only [subs, n2, n3, h1, m]) ?_ | refine Sub.cons (by simp only [subs, n2, n3, h1, m]) ?_)
  have g1 : hget M0 j1 = some (blk (cRecord d v1 v2) 73) := by rw [hM0]; simp only [mem, m, ne_eq, not_false_eq_true]
  have g2 : hget M0 j2 = some (blk (cRecord zRecord (.slice none 0 0) (.slice none 0 0)) 86) := by rw [hM0]; simp only [mem, m, ne_eq, not_false_eq_true]
  have g3 : hget M0 j3 = some (blk (cRecord ⟨d.stamp, d.try_, d.call, d.code, zRecord.vals, zRecord.pairs⟩ (.slice none 0 0) (.slice none 0 0)) 86) := by rw [hM0]; simp only [mem]
  rw [← hM0]
  have cl1 : hcel M0 j1 9 = some v1 := hcel_of g1 rfl
  try simp only [walk, lists, acts, mem, plain, seqs, maps, cells, resL, resV, intBin, seval, wRecord, cl1]
  refine toIntS_d (r1.sub sM0) (by have := hx.v; unfold lim at this; omega) fun M1 w1 S1 t1 u1 f1 => ?_
  have g1_1' : hget M1 j1 = some (blk (cRecord d v1 v2) 73) := t1 _ _ g1
  have g2_1' : hget M1 j2 = some (blk (cRecord zRecord (.slice none 0 0) (.slice none 0 0)) 86) := t1 _ _ g2
  have g3_1' := t1 _ _ g3
  obtain ⟨N1, hN1⟩ : ∃ N1, N1 = hupd M1 j3 (blk (cRecord ⟨d.stamp, d.try_, d.call, d.code, zRecord.vals, zRecord.pairs⟩ w1 (.slice none 0 0)) 86) := ⟨_, rfl⟩
  have wt1 : hwrite M1 j3 9 [w1] = some N1 := by
    rw [hN1]; exact hwrite_of g3_1' (by show 9 + 1 ≤ 11; omega)
  have on1 := u1.one
  have vcw1 := vc1 on1
  have g3_1 : hget N1 j3 = some (blk (cRecord ⟨d.stamp, d.try_, d.call, d.code, zRecord.vals, zRecord.pairs⟩ w1 (.slice none 0 0)) 86) := by rw [hN1]; exact hget_hupd_same g3_1'
  have g1_1 : hget N1 j1 = some (blk (cRecord d v1 v2) 73) := by rw [hN1, hget_hupd_ne m.2.1]; exact g1_1'
  have g2_1 : hget N1 j2 = some (blk (cRecord zRecord (.slice none 0 0) (.slice none 0 0)) 86) := by rw [hN1, hget_hupd_ne m.2.2.1]; exact g2_1'
  have fr1 : ∀ x, x ≠ j3 → hget N1 x = hget M1 x := fun x e => by rw [hN1, hget_hupd_ne e]
  have sN1 : Tk.Sub h N1 := fun x o e => by
    rw [fr1 x (fun c => by subst c; rw [n3.2.2] at e; cases e)]; exact t1 _ _ (sM0 _ _ e)
  simp only [walk, lists, acts, mem, plain, seqs, maps, cells, resL, resV, intBin, seval, wRecord, wt1, on1, vcw1]
  have cl2 : hcel N1 j1 10 = some v2 := hcel_of g1_1 rfl
  try simp only [walk, lists, acts, mem, plain, seqs, maps, cells, resL, resV, intBin, seval, wRecord, cl2]
  refine toPairS_d (r2.sub sN1) (by have := hx.p; unfold lim at this; omega) fun M2 w2 S2 t2 u2 f2 => ?_
  have g1_2' : hget M2 j1 = some (blk (cRecord d v1 v2) 73) := t2 _ _ g1_1
  have g2_2' : hget M2 j2 = some (blk (cRecord zRecord (.slice none 0 0) (.slice none 0 0)) 86) := t2 _ _ g2_1
  have g3_2' := t2 _ _ g3_1
  obtain ⟨N2, hN2⟩ : ∃ N2, N2 = hupd M2 j3 (blk (cRecord ⟨d.stamp, d.try_, d.call, d.code, zRecord.vals, zRecord.pairs⟩ w1 w2) 86) := ⟨_, rfl⟩
  have wt2 : hwrite M2 j3 10 [w2] = some N2 := by
    rw [hN2]; exact hwrite_of g3_2' (by show 10 + 1 ≤ 11; omega)
  have on2 := u2.one
  have vcw2 := vc1 on2
  have g3_2 : hget N2 j3 = some (blk (cRecord ⟨d.stamp, d.try_, d.call, d.code, zRecord.vals, zRecord.pairs⟩ w1 w2) 86) := by rw [hN2]; exact hget_hupd_same g3_2'
  have g1_2 : hget N2 j1 = some (blk (cRecord d v1 v2) 73) := by rw [hN2, hget_hupd_ne m.2.1]; exact g1_2'
  have g2_2 : hget N2 j2 = some (blk (cRecord zRecord (.slice none 0 0) (.slice none 0 0)) 86) := by rw [hN2, hget_hupd_ne m.2.2.1]; exact g2_2'
  have fr2 : ∀ x, x ≠ j3 → hget N2 x = hget M2 x := fun x e => by rw [hN2, hget_hupd_ne e]
  have sN2 : Tk.Sub h N2 := fun x o e => by
    rw [fr2 x (fun c => by subst c; rw [n3.2.2] at e; cases e)]; exact t2 _ _ (sN1 _ _ e)
  simp only [walk, lists, acts, mem, plain, seqs, maps, cells, resL, resV, intBin, seval, wRecord, wt2, on2, vcw2]
  have rd3 : hread N2 j3 0 11 = some (cRecord ⟨d.stamp, d.try_, d.call, d.code, zRecord.vals, zRecord.pairs⟩ w1 w2) := hread_of g3_2 rfl
  obtain ⟨Z3, hZ3⟩ : ∃ Z3, Z3 = hupd N2 j2 (blk (cRecord ⟨d.stamp, d.try_, d.call, d.code, zRecord.vals, zRecord.pairs⟩ w1 w2) 86) := ⟨_, rfl⟩
  have wtz : hwrite N2 j2 0 (cRecord ⟨d.stamp, d.try_, d.call, d.code, zRecord.vals, zRecord.pairs⟩ w1 w2) = some Z3 := by
    rw [hZ3]; exact hwrite_of g2_2 (by show 0 + 11 ≤ 11; omega)
  have hone : (cRecord ⟨d.stamp, d.try_, d.call, d.code, zRecord.vals, zRecord.pairs⟩ w1 w2).all vone = true := by simp only [cRecord, List.all_cons, List.all_nil, on1, on2]; rfl
  simp only [walk, lists, acts, mem, plain, seqs, maps, cells, resL, resV, intBin, seval, wRecord, rd3, wtz, hone]
  have rdz : hread Z3 j2 0 11 = some (cRecord ⟨d.stamp, d.try_, d.call, d.code, zRecord.vals, zRecord.pairs⟩ w1 w2) := hread_of (by rw [hZ3]; exact hget_hupd_same g2_2) rfl
  simp only [walk, lists, acts, mem, plain, seqs, maps, cells, resL, resV, intBin, seval, wRecord, rdz]
  have frz : ∀ x, x ≠ j2 → hget Z3 x = hget N2 x := fun x e => by rw [hZ3, hget_hupd_ne e]
  have ne1 : ∀ x, S1 x → x ≠ j2 ∧ x ≠ j3 := fun x q => ⟨fun e => (by have := f1 x q; rw [e, g2] at this; cases this), fun e => (by have := f1 x q; rw [e, g3] at this; cases this)⟩
  have ne2 : ∀ x, S2 x → x ≠ j2 ∧ x ≠ j3 := fun x q => ⟨fun e => (by have := f2 x q; rw [e, g2_1] at this; cases this), fun e => (by have := f2 x q; rw [e, g3_1] at this; cases this)⟩
  have d12 : ∀ x, S1 x → ¬ S2 x := fun x q q2 => by
    have := f2 x q2
    rw [fr1 x (ne1 x q).2] at this
    exact u1.in q this
  refine dP.of (k Z3 w1 w2 (fun x => S1 x ∨ S2 x) (fun x o e => by rw [frz x (fun c => by subst c; rw [n2.2] at e; cases e)]; exact sN2 x o e) ⟨w1, w2, S1, S2, rfl, (u1.frame fun x q => by rw [frz x (ne1 x q).1, fr2 x (ne1 x q).2, Sub.eq t2 (by rw [fr1 x (ne1 x q).2]; exact u1.in q), fr1 x (ne1 x q).2]), (u2.frame fun x q => by rw [frz x (ne2 x q).1, fr2 x (ne2 x q).2]), d12, fun _ => Iff.rfl⟩ ?_)
  rintro x (q | q)
  · exact sM0.none' (f1 x q)
  · exact sN1.none' (f2 x q)

set_option maxHeartbeats 1000000 in
theorem toRecordS_c {h : H} {a : Value} {l : List DRecord} (r : rIRs h (nRecord h) 11 a l) (hl : l.length ≤ 1048576) (hb : ∀ d ∈ l, bRecord d) {R : Ending → H → Prop} (k : ∀ M' v S, Tk.Sub h M' → dR 86 WRecord 11 M' v l S → (∀ x, S x → hget h x = none) → R (.returned v) M') :
    HCalls Tryz.prog 31 #[a] h R := by
  refine HCalls_ir (args := [a]) Tryz.func31 ir31 ?_
  have z1 := zRecord_eq
  try simp only [str] at z1
  simp only [walk, lists, acts, mem, plain, seqs, maps, cells, resL, resV, intBin, seval, r.len, str, z1]
  refine ⟨⟨by omega, by omega, by omega, by omega⟩, newB_intro fun j hj => ?_⟩
  simp only [walk, lists, acts, mem, plain, seqs, maps, cells, resL, resV, intBin, seval]
  obtain ⟨V, hV⟩ : ∃ V, V = Value.slice (some ⟨j, 0, none⟩) l.length l.length := ⟨_, rfl⟩
  obtain ⟨M0, hM0⟩ : ∃ M0, M0 = (j, blk (zrep (cRecord zRecord (.slice none 0 0) (.slice none 0 0)) l.length) 86) :: h := ⟨_, rfl⟩
  have D0 : dRb 86 WRecord 11 M0 (List.replicate l.length zRecord) (fun x => x = j) j (List.replicate l.length (cRecord zRecord (.slice none 0 0) (.slice none 0 0))) [] (fun _ _ => False) := by
    refine ⟨by rw [hM0, List.append_nil]; exact hget_same _ _ _, by simp, fun c hc => by rw [List.eq_of_mem_replicate hc]; rfl, fun i h1 h2 => ?_, fun _ _ q => q, fun _ _ _ _ _ _ q => q.elim, fun x => by simp⟩
    simp only [List.getElem_replicate]
    exact ⟨_, _, _, _, rfl, dL.nil, dL.nil, fun _ q => q.elim, fun _ => by simp⟩
  have d0 : dR 86 WRecord 11 M0 V (l.take 0 ++ (List.replicate l.length zRecord).drop 0) (fun x => x = j) := by
    have hr : (List.replicate l.length zRecord).length = l.length := by simp
    refine .inr ⟨j, l.length, List.replicate l.length (cRecord zRecord (.slice none 0 0) (.slice none 0 0)), [], fun _ _ => False, by simp only [List.take_zero, List.nil_append, List.drop_zero, hr]; exact hV, by simp, ?_, D0⟩
    rw [List.append_nil, flat_len (sz := 11) (fun c hc => by rw [List.eq_of_mem_replicate hc]; rfl)]; simp
  rw [← hV, ← hM0]
  refine vc_loop [4] (fun n vs M' => ∃ (i : Nat) (S : Nat → Prop), vs = [.int .i64 i] ∧ Tk.Sub h M' ∧ dR 86 WRecord 11 M' V (l.take i ++ (List.replicate l.length zRecord).drop i) S ∧ (∀ x, S x → hget h x = none) ∧ i ≤ l.length ∧ n = l.length - i) l.length rfl
    ⟨0, _, rfl, by rw [hM0]; exact Sub.cons hj (Sub.refl _), d0, fun x e => e ▸ hj, by omega, rfl⟩ ?_
  rintro n f M' ⟨i, S, hv, sM, hd, hfr, hi, rfl⟩
  simp only [List.map_cons, List.map_nil, List.cons.injEq, and_true] at hv
  simp only [walk, lists, acts, mem, plain, seqs, maps, cells, resL, resV, intBin, seval, wr, hv, r.len]
  refine ite_lt (fun c1 => ?_) fun c1 => ?_
  · have hi2 : i < l.length := by omega
    obtain ⟨b1, o1, cs1, hx1, e1, v1, v2, rfl, q1, q2⟩ := (r.sub sM fun _ _ q => nRecord.sub sM q).at hi2
    simp only [walk, lists, acts, mem, plain, seqs, maps, cells, resL, resV, intBin, seval, hx1, e1]
    refine toRecord_c q1 q2 (hb _ (List.getElem_mem hi2)) fun M2 w1 w2 T s2 wn fn => ?_
    have hsame : ∀ x, S x → hget M2 x = hget M' x := fun x q => Sub.eq s2 (hd.in WRecord.in q)
    have hdj : ∀ x, T x → ¬ S x := fun x q q2 => hd.in WRecord.in q2 (fn x q)
    have hd2 := hd.frame WRecord.fr hsame
    rcases hd2 with ⟨_, e0, _⟩ | ⟨b, cap, css, sp, Ss, hv0, hc, hs, D⟩
    · have := congrArg List.length e0
      rw [List.length_append, List.length_take, List.length_drop, List.length_replicate] at this
      simp at this; omega
    have hset := take_set hi2 (by simp : (List.replicate l.length zRecord).length = l.length)
    have hll : (l.take i ++ (List.replicate l.length zRecord).drop i).length = l.length := by rw [List.length_append, List.length_take, List.length_drop, List.length_replicate]; omega
    have hiL : i < (l.take i ++ (List.replicate l.length zRecord).drop i).length := by omega
    obtain ⟨A, B, hAB, hA, hset2⟩ := D.split hiL
    have hx := idx_top (sz := 11) hv0 hiL
    have hget0 : hget M2 b = some (blk (A ++ (css[i]'(by rw [D.len]; exact hiL) ++ B)) 86) := by rw [D.get, hAB]
    have hcl : (css[i]'(by rw [D.len]; exact hiL)).length = 11 := D.sz _ (List.getElem_mem _)
    have wt : hwrite M2 b (i * 11) (cRecord l[i] w1 w2) = some (slot M2 b 86 A B (cRecord l[i] w1 w2)) := by
      have := slot_wr (j := 0) (e := 86) (B := B) (vs := cRecord l[i] w1 w2) hget0 hA (by rw [hcl]; exact Nat.le_refl _)
      rw [slot_self hget0] at this
      have h2 := splice_all (x := cRecord l[i] w1 w2) (y := css[i]'(by rw [D.len]; exact hiL)) (by rw [hcl]; rfl)
      rw [h2] at this
      exact this
    have hone : (cRecord l[i] w1 w2).all vone = true := by
      obtain ⟨_, _, _, _, e, p1, p2, _⟩ := wn
      rw [e]
      simp only [cRecord, List.all_cons, List.all_nil, p1.one, p2.one]; rfl
    simp only [walk, lists, acts, mem, plain, seqs, maps, cells, resL, resV, intBin, seval, hx, wt, hone, wRecord]
    simp (disch := omega) only [walk, lists, acts, mem, plain, seqs, maps, cells, resL, resV, intBin, seval, wrapI]
    have fb : ∀ x, x ≠ b → hget (slot M2 b 86 A B (cRecord l[i] w1 w2)) x = hget M2 x := fun x e => slot_ne e
    have hbS : S b := (D.dom b).2 (.inl rfl)
    refine ⟨l.length - (i + 1), by omega, _, .refl _, i + 1, (fun x => x = b ∨ ∃ j, j < ((l.take i ++ (List.replicate l.length zRecord).drop i).set i l[i]).length ∧ (if j = i then T else Ss j) x), by simp, fun x o e => ?_, .inr ⟨b, cap, css.set i (cRecord l[i] w1 w2), sp, (fun j => if j = i then T else Ss j), ?_, ?_, ?_, ?_⟩, ?_, by omega, rfl⟩
    · rw [fb x (fun c => by subst c; rw [hfr _ hbS] at e; cases e)]; exact s2 _ _ (sM _ _ e)
    · rw [← hset, List.length_set]; exact hv0
    · rw [← hset, List.length_set]; exact hc
    · rw [hset2 _ rfl, ← hs, hAB]; simp only [List.length_append, hcl]; rfl
    · rw [← hset]
      exact D.grow WRecord.fr hiL rfl (by rw [hset2 _ rfl]; exact slot_get hget0) (WRecord.fr _ _ _ _ _ (fun x q => fb x fun e => hdj x q (e ▸ hbS)) wn) hdj fun x _ e => fb x e
    · rintro x (e | ⟨j, hj, q⟩)
      · exact e ▸ hfr _ hbS
      · by_cases e : j = i
        · rw [if_pos e] at q; exact sM.none' (fn x q)
        · rw [if_neg e] at q
          rw [List.length_set] at hj
          exact hfr x ((D.dom x).2 (.inr ⟨j, hj, q⟩))
  · have hi' : i = l.length := by omega
    subst hi'
    rw [List.take_length, List.drop_of_length_le (by simp), List.append_nil] at hd
    exact .of (k M' V S sM hd hfr)

set_option maxHeartbeats 1000000 in
theorem toTold_c {h : H} {d : DTold} {v1 : Value} (r1 : rIn h eP 2 v1 d.pairs) (hx : bTold d) {R : Ending → H → Prop}
    (k : ∀ M' w1 S, Tk.Sub h M' → WTold M' (cTold d w1) d S → (∀ x, S x → hget h x = none) → R (.returned (.agg (cTold d w1).toArray)) M') : HCalls Tryz.prog 122 #[.agg (cTold d v1).toArray] h R := by
  refine HCalls_ir (args := [.agg (cTold d v1).toArray]) Tryz.func122 ir122 ?_
  have z1 := zTold_eq
  try simp only [str] at z1
  simp only [walk, lists, acts, mem, plain, seqs, maps, cells, resL, resV, intBin, seval, wTold, str, z1]
  refine newB_intro fun j1 h1 => ?_
  simp only [walk, lists, acts, mem, plain, seqs, maps, cells, resL, resV, intBin, seval, wTold]
  refine newB_intro fun j2 h2 => ?_
  simp only [walk, lists, acts, mem, plain, seqs, maps, cells, resL, resV, intBin, seval, wTold]
  refine newB_intro fun j3 h3 => ?_
  have n2 := h2
  have n3 := h3
  simp only [subs] at n2 n3
  have m : j1 ≠ j2 ∧ j1 ≠ j3 ∧ j2 ≠ j3 ∧ j2 ≠ j1 ∧ j3 ≠ j1 ∧ j3 ≠ j2 := by refine ⟨?_, ?_, ?_, ?_, ?_, ?_⟩ <;> simp_all [Ne, eq_comm]
  try simp only [walk, lists, acts, mem, plain, seqs, maps, cells, resL, resV, intBin, seval, wTold, wCall, z1, m]
  obtain ⟨M0, hM0⟩ : ∃ M0, M0 = (j3, blk (cTold ⟨d.house, zTold.pairs⟩ (.slice none 0 0)) 112) :: (j2, blk (cTold zTold (.slice none 0 0)) 112) :: (j1, blk (cTold d v1) 146) :: h := ⟨_, rfl⟩
  have sM0 : Tk.Sub h M0 := by rw [hM0]; (repeat' first | exact Sub.refl _ | exact Sub.nil _ | assumption | refine Sub.both ?_ ?_ | refine Sub.cons_of (by simp only [subs, n2, n3, h1, m]) ?_ | exact Sub.left _ _ | refine Sub.app (by simp only [subs, n2, n3, h1, m]) ?_ | refine Sub.cons (by simp only [subs, n2, n3, h1, m]) ?_)
  have g1 : hget M0 j1 = some (blk (cTold d v1) 146) := by rw [hM0]; simp only [mem, m, ne_eq, not_false_eq_true]
  have g2 : hget M0 j2 = some (blk (cTold zTold (.slice none 0 0)) 112) := by rw [hM0]; simp only [mem, m, ne_eq, not_false_eq_true]
  have g3 : hget M0 j3 = some (blk (cTold ⟨d.house, zTold.pairs⟩ (.slice none 0 0)) 112) := by rw [hM0]; simp only [mem]
  rw [← hM0]
  have cl1 : hcel M0 j1 1 = some v1 := hcel_of g1 rfl
  try simp only [walk, lists, acts, mem, plain, seqs, maps, cells, resL, resV, intBin, seval, wTold, cl1]
  refine toPairS_d (r1.sub sM0) (by have := hx; unfold bTold lim at this; omega) fun M1 w1 S1 t1 u1 f1 => ?_
  have g1_1' : hget M1 j1 = some (blk (cTold d v1) 146) := t1 _ _ g1
  have g2_1' : hget M1 j2 = some (blk (cTold zTold (.slice none 0 0)) 112) := t1 _ _ g2
  have g3_1' := t1 _ _ g3
  obtain ⟨N1, hN1⟩ : ∃ N1, N1 = hupd M1 j3 (blk (cTold ⟨d.house, zTold.pairs⟩ w1) 112) := ⟨_, rfl⟩
  have wt1 : hwrite M1 j3 1 [w1] = some N1 := by
    rw [hN1]; exact hwrite_of g3_1' (by show 1 + 1 ≤ 2; omega)
  have on1 := u1.one
  have vcw1 := vc1 on1
  have g3_1 : hget N1 j3 = some (blk (cTold ⟨d.house, zTold.pairs⟩ w1) 112) := by rw [hN1]; exact hget_hupd_same g3_1'
  have g1_1 : hget N1 j1 = some (blk (cTold d v1) 146) := by rw [hN1, hget_hupd_ne m.2.1]; exact g1_1'
  have g2_1 : hget N1 j2 = some (blk (cTold zTold (.slice none 0 0)) 112) := by rw [hN1, hget_hupd_ne m.2.2.1]; exact g2_1'
  have fr1 : ∀ x, x ≠ j3 → hget N1 x = hget M1 x := fun x e => by rw [hN1, hget_hupd_ne e]
  have sN1 : Tk.Sub h N1 := fun x o e => by
    rw [fr1 x (fun c => by subst c; rw [n3.2.2] at e; cases e)]; exact t1 _ _ (sM0 _ _ e)
  simp only [walk, lists, acts, mem, plain, seqs, maps, cells, resL, resV, intBin, seval, wTold, wt1, on1, vcw1]
  have rd3 : hread N1 j3 0 2 = some (cTold ⟨d.house, zTold.pairs⟩ w1) := hread_of g3_1 rfl
  obtain ⟨Z3, hZ3⟩ : ∃ Z3, Z3 = hupd N1 j2 (blk (cTold ⟨d.house, zTold.pairs⟩ w1) 112) := ⟨_, rfl⟩
  have wtz : hwrite N1 j2 0 (cTold ⟨d.house, zTold.pairs⟩ w1) = some Z3 := by
    rw [hZ3]; exact hwrite_of g2_1 (by show 0 + 2 ≤ 2; omega)
  have hone : (cTold ⟨d.house, zTold.pairs⟩ w1).all vone = true := by simp only [cTold, List.all_cons, List.all_nil, on1]; rfl
  simp only [walk, lists, acts, mem, plain, seqs, maps, cells, resL, resV, intBin, seval, wTold, rd3, wtz, hone]
  have rdz : hread Z3 j2 0 2 = some (cTold ⟨d.house, zTold.pairs⟩ w1) := hread_of (by rw [hZ3]; exact hget_hupd_same g2_1) rfl
  simp only [walk, lists, acts, mem, plain, seqs, maps, cells, resL, resV, intBin, seval, wTold, rdz]
  have frz : ∀ x, x ≠ j2 → hget Z3 x = hget N1 x := fun x e => by rw [hZ3, hget_hupd_ne e]
  have ne1 : ∀ x, S1 x → x ≠ j2 ∧ x ≠ j3 := fun x q => ⟨fun e => (by have := f1 x q; rw [e, g2] at this; cases this), fun e => (by have := f1 x q; rw [e, g3] at this; cases this)⟩
  exact dP.of (k Z3 w1 S1 (fun x o e => by rw [frz x (fun c => by subst c; rw [n2.2] at e; cases e)]; exact sN1 x o e) ⟨w1, rfl, (u1.frame fun x q => by rw [frz x (ne1 x q).1, fr1 x (ne1 x q).2])⟩ fun x q => sM0.none' (f1 x q))

set_option maxHeartbeats 1000000 in
theorem toToldS_c {h : H} {a : Value} {l : List DTold} (r : rIRs h (nTold h) 2 a l) (hl : l.length ≤ 1048576) (hb : ∀ d ∈ l, bTold d) {R : Ending → H → Prop} (k : ∀ M' v S, Tk.Sub h M' → dR 112 WTold 2 M' v l S → (∀ x, S x → hget h x = none) → R (.returned v) M') :
    HCalls Tryz.prog 98 #[a] h R := by
  refine HCalls_ir (args := [a]) Tryz.func98 ir98 ?_
  have z1 := zTold_eq
  try simp only [str] at z1
  simp only [walk, lists, acts, mem, plain, seqs, maps, cells, resL, resV, intBin, seval, r.len, str, z1]
  refine ⟨⟨by omega, by omega, by omega, by omega⟩, newB_intro fun j hj => ?_⟩
  simp only [walk, lists, acts, mem, plain, seqs, maps, cells, resL, resV, intBin, seval]
  obtain ⟨V, hV⟩ : ∃ V, V = Value.slice (some ⟨j, 0, none⟩) l.length l.length := ⟨_, rfl⟩
  obtain ⟨M0, hM0⟩ : ∃ M0, M0 = (j, blk (zrep (cTold zTold (.slice none 0 0)) l.length) 112) :: h := ⟨_, rfl⟩
  have D0 : dRb 112 WTold 2 M0 (List.replicate l.length zTold) (fun x => x = j) j (List.replicate l.length (cTold zTold (.slice none 0 0))) [] (fun _ _ => False) := by
    refine ⟨by rw [hM0, List.append_nil]; exact hget_same _ _ _, by simp, fun c hc => by rw [List.eq_of_mem_replicate hc]; rfl, fun i h1 h2 => ?_, fun _ _ q => q, fun _ _ _ _ _ _ q => q.elim, fun x => by simp⟩
    simp only [List.getElem_replicate]
    exact ⟨_, rfl, dL.nil⟩
  have d0 : dR 112 WTold 2 M0 V (l.take 0 ++ (List.replicate l.length zTold).drop 0) (fun x => x = j) := by
    have hr : (List.replicate l.length zTold).length = l.length := by simp
    refine .inr ⟨j, l.length, List.replicate l.length (cTold zTold (.slice none 0 0)), [], fun _ _ => False, by simp only [List.take_zero, List.nil_append, List.drop_zero, hr]; exact hV, by simp, ?_, D0⟩
    rw [List.append_nil, flat_len (sz := 2) (fun c hc => by rw [List.eq_of_mem_replicate hc]; rfl)]; simp
  rw [← hV, ← hM0]
  refine vc_loop [4] (fun n vs M' => ∃ (i : Nat) (S : Nat → Prop), vs = [.int .i64 i] ∧ Tk.Sub h M' ∧ dR 112 WTold 2 M' V (l.take i ++ (List.replicate l.length zTold).drop i) S ∧ (∀ x, S x → hget h x = none) ∧ i ≤ l.length ∧ n = l.length - i) l.length rfl
    ⟨0, _, rfl, by rw [hM0]; exact Sub.cons hj (Sub.refl _), d0, fun x e => e ▸ hj, by omega, rfl⟩ ?_
  rintro n f M' ⟨i, S, hv, sM, hd, hfr, hi, rfl⟩
  simp only [List.map_cons, List.map_nil, List.cons.injEq, and_true] at hv
  simp only [walk, lists, acts, mem, plain, seqs, maps, cells, resL, resV, intBin, seval, wr, hv, r.len]
  refine ite_lt (fun c1 => ?_) fun c1 => ?_
  · have hi2 : i < l.length := by omega
    obtain ⟨b1, o1, cs1, hx1, e1, v1, rfl, q1⟩ := (r.sub sM fun _ _ q => nTold.sub sM q).at hi2
    simp only [walk, lists, acts, mem, plain, seqs, maps, cells, resL, resV, intBin, seval, hx1, e1]
    refine toTold_c q1 (hb _ (List.getElem_mem hi2)) fun M2 w1 T s2 wn fn => ?_
    have hsame : ∀ x, S x → hget M2 x = hget M' x := fun x q => Sub.eq s2 (hd.in WTold.in q)
    have hdj : ∀ x, T x → ¬ S x := fun x q q2 => hd.in WTold.in q2 (fn x q)
    have hd2 := hd.frame WTold.fr hsame
    rcases hd2 with ⟨_, e0, _⟩ | ⟨b, cap, css, sp, Ss, hv0, hc, hs, D⟩
    · have := congrArg List.length e0
      rw [List.length_append, List.length_take, List.length_drop, List.length_replicate] at this
      simp at this; omega
    have hset := take_set hi2 (by simp : (List.replicate l.length zTold).length = l.length)
    have hll : (l.take i ++ (List.replicate l.length zTold).drop i).length = l.length := by rw [List.length_append, List.length_take, List.length_drop, List.length_replicate]; omega
    have hiL : i < (l.take i ++ (List.replicate l.length zTold).drop i).length := by omega
    obtain ⟨A, B, hAB, hA, hset2⟩ := D.split hiL
    have hx := idx_top (sz := 2) hv0 hiL
    have hget0 : hget M2 b = some (blk (A ++ (css[i]'(by rw [D.len]; exact hiL) ++ B)) 112) := by rw [D.get, hAB]
    have hcl : (css[i]'(by rw [D.len]; exact hiL)).length = 2 := D.sz _ (List.getElem_mem _)
    have wt : hwrite M2 b (i * 2) (cTold l[i] w1) = some (slot M2 b 112 A B (cTold l[i] w1)) := by
      have := slot_wr (j := 0) (e := 112) (B := B) (vs := cTold l[i] w1) hget0 hA (by rw [hcl]; exact Nat.le_refl _)
      rw [slot_self hget0] at this
      have h2 := splice_all (x := cTold l[i] w1) (y := css[i]'(by rw [D.len]; exact hiL)) (by rw [hcl]; rfl)
      rw [h2] at this
      exact this
    have hone : (cTold l[i] w1).all vone = true := by
      obtain ⟨_, e, p1⟩ := wn
      rw [e]
      simp only [cTold, List.all_cons, List.all_nil, p1.one]; rfl
    simp only [walk, lists, acts, mem, plain, seqs, maps, cells, resL, resV, intBin, seval, hx, wt, hone, wTold]
    simp (disch := omega) only [walk, lists, acts, mem, plain, seqs, maps, cells, resL, resV, intBin, seval, wrapI]
    have fb : ∀ x, x ≠ b → hget (slot M2 b 112 A B (cTold l[i] w1)) x = hget M2 x := fun x e => slot_ne e
    have hbS : S b := (D.dom b).2 (.inl rfl)
    refine ⟨l.length - (i + 1), by omega, _, .refl _, i + 1, (fun x => x = b ∨ ∃ j, j < ((l.take i ++ (List.replicate l.length zTold).drop i).set i l[i]).length ∧ (if j = i then T else Ss j) x), by simp, fun x o e => ?_, .inr ⟨b, cap, css.set i (cTold l[i] w1), sp, (fun j => if j = i then T else Ss j), ?_, ?_, ?_, ?_⟩, ?_, by omega, rfl⟩
    · rw [fb x (fun c => by subst c; rw [hfr _ hbS] at e; cases e)]; exact s2 _ _ (sM _ _ e)
    · rw [← hset, List.length_set]; exact hv0
    · rw [← hset, List.length_set]; exact hc
    · rw [hset2 _ rfl, ← hs, hAB]; simp only [List.length_append, hcl]; rfl
    · rw [← hset]
      exact D.grow WTold.fr hiL rfl (by rw [hset2 _ rfl]; exact slot_get hget0) (WTold.fr _ _ _ _ _ (fun x q => fb x fun e => hdj x q (e ▸ hbS)) wn) hdj fun x _ e => fb x e
    · rintro x (e | ⟨j, hj, q⟩)
      · exact e ▸ hfr _ hbS
      · by_cases e : j = i
        · rw [if_pos e] at q; exact sM.none' (fn x q)
        · rw [if_neg e] at q
          rw [List.length_set] at hj
          exact hfr x ((D.dom x).2 (.inr ⟨j, hj, q⟩))
  · have hi' : i = l.length := by omega
    subst hi'
    rw [List.take_length, List.drop_of_length_le (by simp), List.append_nil] at hd
    exact .of (k M' V S sM hd hfr)

set_option maxHeartbeats 1000000 in
theorem toLive_c {h : H} {d : DLive} {v1 v2 : Value} (r1 : rIn h eI 1 v1 d.locked) (r2 : rIRs h (nTold h) 2 v2 d.told) (hx : bLive d) {R : Ending → H → Prop}
    (k : ∀ M' w1 w2 S, Tk.Sub h M' → WLive M' (cLive d w1 w2) d S → (∀ x, S x → hget h x = none) → R (.returned (.agg (cLive d w1 w2).toArray)) M') : HCalls Tryz.prog 62 #[.agg (cLive d v1 v2).toArray] h R := by
  refine HCalls_ir (args := [.agg (cLive d v1 v2).toArray]) Tryz.func62 ir62 ?_
  have z1 := zLive_eq
  try simp only [str] at z1
  simp only [walk, lists, acts, mem, plain, seqs, maps, cells, resL, resV, intBin, seval, wLive, str, z1]
  refine newB_intro fun j1 h1 => ?_
  simp only [walk, lists, acts, mem, plain, seqs, maps, cells, resL, resV, intBin, seval, wLive]
  refine newB_intro fun j2 h2 => ?_
  simp only [walk, lists, acts, mem, plain, seqs, maps, cells, resL, resV, intBin, seval, wLive]
  refine newB_intro fun j3 h3 => ?_
  have n2 := h2
  have n3 := h3
  simp only [subs] at n2 n3
  have m : j1 ≠ j2 ∧ j1 ≠ j3 ∧ j2 ≠ j3 ∧ j2 ≠ j1 ∧ j3 ≠ j1 ∧ j3 ≠ j2 := by refine ⟨?_, ?_, ?_, ?_, ?_, ?_⟩ <;> simp_all [Ne, eq_comm]
  try simp only [walk, lists, acts, mem, plain, seqs, maps, cells, resL, resV, intBin, seval, wLive, wCall, z1, m]
  refine toCall_c ?_
  try simp only [walk, lists, acts, mem, plain, seqs, maps, cells, resL, resV, intBin, seval, wLive, wCall, z1, m]
  obtain ⟨M0, hM0⟩ : ∃ M0, M0 = (j3, blk (cLive ⟨d.stamp, d.try_, d.version, d.phase, d.call, zLive.locked, zLive.told⟩ (.slice none 0 0) (.slice none 0 0)) 82) :: (j2, blk (cLive zLive (.slice none 0 0) (.slice none 0 0)) 82) :: (j1, blk (cLive d v1 v2) 77) :: h := ⟨_, rfl⟩
  have sM0 : Tk.Sub h M0 := by rw [hM0]; (repeat' first | exact Sub.refl _ | exact Sub.nil _ | assumption | refine Sub.both ?_ ?_ | refine Sub.cons_of (by simp only [subs, n2, n3, h1, m]) ?_ | exact Sub.left _ _ | refine Sub.app (by simp only [subs, n2, n3, h1, m]) ?_ | refine Sub.cons (by simp only [subs, n2, n3, h1, m]) ?_)
  have g1 : hget M0 j1 = some (blk (cLive d v1 v2) 77) := by rw [hM0]; simp only [mem, m, ne_eq, not_false_eq_true]
  have g2 : hget M0 j2 = some (blk (cLive zLive (.slice none 0 0) (.slice none 0 0)) 82) := by rw [hM0]; simp only [mem, m, ne_eq, not_false_eq_true]
  have g3 : hget M0 j3 = some (blk (cLive ⟨d.stamp, d.try_, d.version, d.phase, d.call, zLive.locked, zLive.told⟩ (.slice none 0 0) (.slice none 0 0)) 82) := by rw [hM0]; simp only [mem]
  rw [← hM0]
  have cl1 : hcel M0 j1 10 = some v1 := hcel_of g1 rfl
  try simp only [walk, lists, acts, mem, plain, seqs, maps, cells, resL, resV, intBin, seval, wLive, cl1]
  refine toIntS_d (r1.sub sM0) (by have := hx.l; unfold lim at this; omega) fun M1 w1 S1 t1 u1 f1 => ?_
  have g1_1' : hget M1 j1 = some (blk (cLive d v1 v2) 77) := t1 _ _ g1
  have g2_1' : hget M1 j2 = some (blk (cLive zLive (.slice none 0 0) (.slice none 0 0)) 82) := t1 _ _ g2
  have g3_1' := t1 _ _ g3
  obtain ⟨N1, hN1⟩ : ∃ N1, N1 = hupd M1 j3 (blk (cLive ⟨d.stamp, d.try_, d.version, d.phase, d.call, zLive.locked, zLive.told⟩ w1 (.slice none 0 0)) 82) := ⟨_, rfl⟩
  have wt1 : hwrite M1 j3 10 [w1] = some N1 := by
    rw [hN1]; exact hwrite_of g3_1' (by show 10 + 1 ≤ 12; omega)
  have on1 := u1.one
  have vcw1 := vc1 on1
  have g3_1 : hget N1 j3 = some (blk (cLive ⟨d.stamp, d.try_, d.version, d.phase, d.call, zLive.locked, zLive.told⟩ w1 (.slice none 0 0)) 82) := by rw [hN1]; exact hget_hupd_same g3_1'
  have g1_1 : hget N1 j1 = some (blk (cLive d v1 v2) 77) := by rw [hN1, hget_hupd_ne m.2.1]; exact g1_1'
  have g2_1 : hget N1 j2 = some (blk (cLive zLive (.slice none 0 0) (.slice none 0 0)) 82) := by rw [hN1, hget_hupd_ne m.2.2.1]; exact g2_1'
  have fr1 : ∀ x, x ≠ j3 → hget N1 x = hget M1 x := fun x e => by rw [hN1, hget_hupd_ne e]
  have sN1 : Tk.Sub h N1 := fun x o e => by
    rw [fr1 x (fun c => by subst c; rw [n3.2.2] at e; cases e)]; exact t1 _ _ (sM0 _ _ e)
  simp only [walk, lists, acts, mem, plain, seqs, maps, cells, resL, resV, intBin, seval, wLive, wt1, on1, vcw1]
  have cl2 : hcel N1 j1 11 = some v2 := hcel_of g1_1 rfl
  try simp only [walk, lists, acts, mem, plain, seqs, maps, cells, resL, resV, intBin, seval, wLive, cl2]
  refine toToldS_c (r2.sub sN1 fun _ _ q => nTold.sub sN1 q) (by have := hx.t; unfold lim at this; omega) hx.ts fun M2 w2 S2 t2 u2 f2 => ?_
  have g1_2' : hget M2 j1 = some (blk (cLive d v1 v2) 77) := t2 _ _ g1_1
  have g2_2' : hget M2 j2 = some (blk (cLive zLive (.slice none 0 0) (.slice none 0 0)) 82) := t2 _ _ g2_1
  have g3_2' := t2 _ _ g3_1
  obtain ⟨N2, hN2⟩ : ∃ N2, N2 = hupd M2 j3 (blk (cLive ⟨d.stamp, d.try_, d.version, d.phase, d.call, zLive.locked, zLive.told⟩ w1 w2) 82) := ⟨_, rfl⟩
  have wt2 : hwrite M2 j3 11 [w2] = some N2 := by
    rw [hN2]; exact hwrite_of g3_2' (by show 11 + 1 ≤ 12; omega)
  have on2 := u2.one
  have vcw2 := vc1 on2
  have g3_2 : hget N2 j3 = some (blk (cLive ⟨d.stamp, d.try_, d.version, d.phase, d.call, zLive.locked, zLive.told⟩ w1 w2) 82) := by rw [hN2]; exact hget_hupd_same g3_2'
  have g1_2 : hget N2 j1 = some (blk (cLive d v1 v2) 77) := by rw [hN2, hget_hupd_ne m.2.1]; exact g1_2'
  have g2_2 : hget N2 j2 = some (blk (cLive zLive (.slice none 0 0) (.slice none 0 0)) 82) := by rw [hN2, hget_hupd_ne m.2.2.1]; exact g2_2'
  have fr2 : ∀ x, x ≠ j3 → hget N2 x = hget M2 x := fun x e => by rw [hN2, hget_hupd_ne e]
  have sN2 : Tk.Sub h N2 := fun x o e => by
    rw [fr2 x (fun c => by subst c; rw [n3.2.2] at e; cases e)]; exact t2 _ _ (sN1 _ _ e)
  simp only [walk, lists, acts, mem, plain, seqs, maps, cells, resL, resV, intBin, seval, wLive, wt2, on2, vcw2]
  have rd3 : hread N2 j3 0 12 = some (cLive ⟨d.stamp, d.try_, d.version, d.phase, d.call, zLive.locked, zLive.told⟩ w1 w2) := hread_of g3_2 rfl
  obtain ⟨Z3, hZ3⟩ : ∃ Z3, Z3 = hupd N2 j2 (blk (cLive ⟨d.stamp, d.try_, d.version, d.phase, d.call, zLive.locked, zLive.told⟩ w1 w2) 82) := ⟨_, rfl⟩
  have wtz : hwrite N2 j2 0 (cLive ⟨d.stamp, d.try_, d.version, d.phase, d.call, zLive.locked, zLive.told⟩ w1 w2) = some Z3 := by
    rw [hZ3]; exact hwrite_of g2_2 (by show 0 + 12 ≤ 12; omega)
  have hone : (cLive ⟨d.stamp, d.try_, d.version, d.phase, d.call, zLive.locked, zLive.told⟩ w1 w2).all vone = true := by simp only [cLive, List.all_cons, List.all_nil, on1, on2]; rfl
  simp only [walk, lists, acts, mem, plain, seqs, maps, cells, resL, resV, intBin, seval, wLive, rd3, wtz, hone]
  have rdz : hread Z3 j2 0 12 = some (cLive ⟨d.stamp, d.try_, d.version, d.phase, d.call, zLive.locked, zLive.told⟩ w1 w2) := hread_of (by rw [hZ3]; exact hget_hupd_same g2_2) rfl
  simp only [walk, lists, acts, mem, plain, seqs, maps, cells, resL, resV, intBin, seval, wLive, rdz]
  have frz : ∀ x, x ≠ j2 → hget Z3 x = hget N2 x := fun x e => by rw [hZ3, hget_hupd_ne e]
  have ne1 : ∀ x, S1 x → x ≠ j2 ∧ x ≠ j3 := fun x q => ⟨fun e => (by have := f1 x q; rw [e, g2] at this; cases this), fun e => (by have := f1 x q; rw [e, g3] at this; cases this)⟩
  have ne2 : ∀ x, S2 x → x ≠ j2 ∧ x ≠ j3 := fun x q => ⟨fun e => (by have := f2 x q; rw [e, g2_1] at this; cases this), fun e => (by have := f2 x q; rw [e, g3_1] at this; cases this)⟩
  have d12 : ∀ x, S1 x → ¬ S2 x := fun x q q2 => by
    have := f2 x q2
    rw [fr1 x (ne1 x q).2] at this
    exact u1.in q this
  refine dP.of (k Z3 w1 w2 (fun x => S1 x ∨ S2 x) (fun x o e => by rw [frz x (fun c => by subst c; rw [n2.2] at e; cases e)]; exact sN2 x o e) ⟨w1, w2, S1, S2, rfl, (u1.frame fun x q => by rw [frz x (ne1 x q).1, fr2 x (ne1 x q).2, Sub.eq t2 (by rw [fr1 x (ne1 x q).2]; exact u1.in q), fr1 x (ne1 x q).2]), (u2.frame WTold.fr fun x q => by rw [frz x (ne2 x q).1, fr2 x (ne2 x q).2]), d12, fun _ => Iff.rfl⟩ ?_)
  rintro x (q | q)
  · exact sM0.none' (f1 x q)
  · exact sN1.none' (f2 x q)

set_option maxHeartbeats 1000000 in
theorem toLiveS_c {h : H} {a : Value} {l : List DLive} (r : rIRs h (nLive h) 12 a l) (hl : l.length ≤ 1048576) (hb : ∀ d ∈ l, bLive d) {R : Ending → H → Prop} (k : ∀ M' v S, Tk.Sub h M' → dR 82 WLive 12 M' v l S → (∀ x, S x → hget h x = none) → R (.returned v) M') :
    HCalls Tryz.prog 32 #[a] h R := by
  refine HCalls_ir (args := [a]) Tryz.func32 ir32 ?_
  have z1 := zLive_eq
  try simp only [str] at z1
  simp only [walk, lists, acts, mem, plain, seqs, maps, cells, resL, resV, intBin, seval, r.len, str, z1]
  refine ⟨⟨by omega, by omega, by omega, by omega⟩, newB_intro fun j hj => ?_⟩
  simp only [walk, lists, acts, mem, plain, seqs, maps, cells, resL, resV, intBin, seval]
  obtain ⟨V, hV⟩ : ∃ V, V = Value.slice (some ⟨j, 0, none⟩) l.length l.length := ⟨_, rfl⟩
  obtain ⟨M0, hM0⟩ : ∃ M0, M0 = (j, blk (zrep (cLive zLive (.slice none 0 0) (.slice none 0 0)) l.length) 82) :: h := ⟨_, rfl⟩
  have D0 : dRb 82 WLive 12 M0 (List.replicate l.length zLive) (fun x => x = j) j (List.replicate l.length (cLive zLive (.slice none 0 0) (.slice none 0 0))) [] (fun _ _ => False) := by
    refine ⟨by rw [hM0, List.append_nil]; exact hget_same _ _ _, by simp, fun c hc => by rw [List.eq_of_mem_replicate hc]; rfl, fun i h1 h2 => ?_, fun _ _ q => q, fun _ _ _ _ _ _ q => q.elim, fun x => by simp⟩
    simp only [List.getElem_replicate]
    exact ⟨_, _, _, _, rfl, dL.nil, dR.nil, fun _ q => q.elim, fun _ => by simp⟩
  have d0 : dR 82 WLive 12 M0 V (l.take 0 ++ (List.replicate l.length zLive).drop 0) (fun x => x = j) := by
    have hr : (List.replicate l.length zLive).length = l.length := by simp
    refine .inr ⟨j, l.length, List.replicate l.length (cLive zLive (.slice none 0 0) (.slice none 0 0)), [], fun _ _ => False, by simp only [List.take_zero, List.nil_append, List.drop_zero, hr]; exact hV, by simp, ?_, D0⟩
    rw [List.append_nil, flat_len (sz := 12) (fun c hc => by rw [List.eq_of_mem_replicate hc]; rfl)]; simp
  rw [← hV, ← hM0]
  refine vc_loop [4] (fun n vs M' => ∃ (i : Nat) (S : Nat → Prop), vs = [.int .i64 i] ∧ Tk.Sub h M' ∧ dR 82 WLive 12 M' V (l.take i ++ (List.replicate l.length zLive).drop i) S ∧ (∀ x, S x → hget h x = none) ∧ i ≤ l.length ∧ n = l.length - i) l.length rfl
    ⟨0, _, rfl, by rw [hM0]; exact Sub.cons hj (Sub.refl _), d0, fun x e => e ▸ hj, by omega, rfl⟩ ?_
  rintro n f M' ⟨i, S, hv, sM, hd, hfr, hi, rfl⟩
  simp only [List.map_cons, List.map_nil, List.cons.injEq, and_true] at hv
  simp only [walk, lists, acts, mem, plain, seqs, maps, cells, resL, resV, intBin, seval, wr, hv, r.len]
  refine ite_lt (fun c1 => ?_) fun c1 => ?_
  · have hi2 : i < l.length := by omega
    obtain ⟨b1, o1, cs1, hx1, e1, v1, v2, rfl, q1, q2⟩ := (r.sub sM fun _ _ q => nLive.sub sM q).at hi2
    simp only [walk, lists, acts, mem, plain, seqs, maps, cells, resL, resV, intBin, seval, hx1, e1]
    refine toLive_c q1 q2 (hb _ (List.getElem_mem hi2)) fun M2 w1 w2 T s2 wn fn => ?_
    have hsame : ∀ x, S x → hget M2 x = hget M' x := fun x q => Sub.eq s2 (hd.in WLive.in q)
    have hdj : ∀ x, T x → ¬ S x := fun x q q2 => hd.in WLive.in q2 (fn x q)
    have hd2 := hd.frame WLive.fr hsame
    rcases hd2 with ⟨_, e0, _⟩ | ⟨b, cap, css, sp, Ss, hv0, hc, hs, D⟩
    · have := congrArg List.length e0
      rw [List.length_append, List.length_take, List.length_drop, List.length_replicate] at this
      simp at this; omega
    have hset := take_set hi2 (by simp : (List.replicate l.length zLive).length = l.length)
    have hll : (l.take i ++ (List.replicate l.length zLive).drop i).length = l.length := by rw [List.length_append, List.length_take, List.length_drop, List.length_replicate]; omega
    have hiL : i < (l.take i ++ (List.replicate l.length zLive).drop i).length := by omega
    obtain ⟨A, B, hAB, hA, hset2⟩ := D.split hiL
    have hx := idx_top (sz := 12) hv0 hiL
    have hget0 : hget M2 b = some (blk (A ++ (css[i]'(by rw [D.len]; exact hiL) ++ B)) 82) := by rw [D.get, hAB]
    have hcl : (css[i]'(by rw [D.len]; exact hiL)).length = 12 := D.sz _ (List.getElem_mem _)
    have wt : hwrite M2 b (i * 12) (cLive l[i] w1 w2) = some (slot M2 b 82 A B (cLive l[i] w1 w2)) := by
      have := slot_wr (j := 0) (e := 82) (B := B) (vs := cLive l[i] w1 w2) hget0 hA (by rw [hcl]; exact Nat.le_refl _)
      rw [slot_self hget0] at this
      have h2 := splice_all (x := cLive l[i] w1 w2) (y := css[i]'(by rw [D.len]; exact hiL)) (by rw [hcl]; rfl)
      rw [h2] at this
      exact this
    have hone : (cLive l[i] w1 w2).all vone = true := by
      obtain ⟨_, _, _, _, e, p1, p2, _⟩ := wn
      rw [e]
      simp only [cLive, List.all_cons, List.all_nil, p1.one, p2.one]; rfl
    simp only [walk, lists, acts, mem, plain, seqs, maps, cells, resL, resV, intBin, seval, hx, wt, hone, wLive]
    simp (disch := omega) only [walk, lists, acts, mem, plain, seqs, maps, cells, resL, resV, intBin, seval, wrapI]
    have fb : ∀ x, x ≠ b → hget (slot M2 b 82 A B (cLive l[i] w1 w2)) x = hget M2 x := fun x e => slot_ne e
    have hbS : S b := (D.dom b).2 (.inl rfl)
    refine ⟨l.length - (i + 1), by omega, _, .refl _, i + 1, (fun x => x = b ∨ ∃ j, j < ((l.take i ++ (List.replicate l.length zLive).drop i).set i l[i]).length ∧ (if j = i then T else Ss j) x), by simp, fun x o e => ?_, .inr ⟨b, cap, css.set i (cLive l[i] w1 w2), sp, (fun j => if j = i then T else Ss j), ?_, ?_, ?_, ?_⟩, ?_, by omega, rfl⟩
    · rw [fb x (fun c => by subst c; rw [hfr _ hbS] at e; cases e)]; exact s2 _ _ (sM _ _ e)
    · rw [← hset, List.length_set]; exact hv0
    · rw [← hset, List.length_set]; exact hc
    · rw [hset2 _ rfl, ← hs, hAB]; simp only [List.length_append, hcl]; rfl
    · rw [← hset]
      exact D.grow WLive.fr hiL rfl (by rw [hset2 _ rfl]; exact slot_get hget0) (WLive.fr _ _ _ _ _ (fun x q => fb x fun e => hdj x q (e ▸ hbS)) wn) hdj fun x _ e => fb x e
    · rintro x (e | ⟨j, hj, q⟩)
      · exact e ▸ hfr _ hbS
      · by_cases e : j = i
        · rw [if_pos e] at q; exact sM.none' (fn x q)
        · rw [if_neg e] at q
          rw [List.length_set] at hj
          exact hfr x ((D.dom x).2 (.inr ⟨j, hj, q⟩))
  · have hi' : i = l.length := by omega
    subst hi'
    rw [List.take_length, List.drop_of_length_le (by simp), List.append_nil] at hd
    exact .of (k M' V S sM hd hfr)

end Go.Proofs.YtmfhlkkligcgdaaGreatDoor
end

/- What the laws measure, copy and compare: rows of calls. -/
section
set_option linter.unusedVariables false
set_option linter.unusedSimpArgs false
set_option maxRecDepth 20000
attribute [local irreducible] Go.Tk.vc Go.Tk.vops Go.Tk.vdr Go.Tk.vop Go.Tk.vfl Go.Tk.HCalls
namespace Go.Tk
open Go
end Go.Tk
namespace Go.Proofs.YtmfhlkkligcgdaaGreatDoor
open Go Go.Tk

end Go.Proofs.YtmfhlkkligcgdaaGreatDoor
end

/- What the laws compare and mark: ways, calls. -/
section
set_option linter.unusedVariables false
set_option linter.unusedSimpArgs false
set_option maxRecDepth 20000
attribute [local irreducible] Go.Tk.vc Go.Tk.vops Go.Tk.vdr Go.Tk.vop Go.Tk.vfl Go.Tk.HCalls
namespace Go.Tk
open Go
theorem eW_len (e : DWay) : (cWay e).length = 2 := rfl
/-- What is marked from k on. -/
def mkWay (k : Int) (n : Nat) : List DWay := (List.range n).map fun (i : Nat) => ⟨(k + 2 * (i : Int)), (k + 2 * (i : Int)) + 1⟩
theorem mkWay_len (k : Int) (n : Nat) : (mkWay k n).length = n := by simp [mkWay]
theorem mkWay_at (k : Int) (n i : Nat) (h : i < (mkWay k n).length) : (mkWay k n)[i] = ⟨(k + 2 * (i : Int)), (k + 2 * (i : Int)) + 1⟩ := by simp [mkWay]
theorem mkWay_set (k : Int) (l : List DWay) (i : Nat) (h : i < l.length) : (mkWay k i ++ l.drop i).set i ⟨(k + 2 * (i : Int)), (k + 2 * (i : Int)) + 1⟩ = mkWay k (i + 1) ++ l.drop (i + 1) := by
  rw [List.set_append_right _ _ (by rw [mkWay_len]; omega), mkWay_len, Nat.sub_self, List.drop_eq_getElem_cons h, List.set_cons_zero]
  simp [mkWay, List.range_succ]
end Go.Tk
namespace Go.Proofs.YtmfhlkkligcgdaaGreatDoor
open Go Go.Tk

theorem eqWay_c {h : H} {x y : DWay} {R : Ending → H → Prop} (k : R (.returned (.bool (decide (x = y)))) h) : HCalls Tryz.prog 71 #[.agg (cWay x).toArray, .agg (cWay y).toArray] h R := by
  refine HCalls_ir (args := [.agg (cWay x).toArray, .agg (cWay y).toArray]) Tryz.func71 ir71 ?_
  simp only [walk, lists, acts, mem, plain, seqs, maps, cells, resL, resV, intBin, seval, wWay]
  refine newB_intro fun j1 h1 => ?_
  simp only [walk, lists, acts, mem, plain, seqs, maps, cells, resL, resV, intBin, seval, wWay]
  refine newB_intro fun j2 h2 => ?_
  have n := fresh h2
  simp only [walk, lists, acts, mem, plain, seqs, maps, cells, resL, resV, intBin, seval, wWay, n.1, n.2.1, strBin, str_inj]
  refine ite_ne (fun d => ⟨h, Sub.cons h2 (Sub.cons h1 (Sub.refl h)), kF k (fun e => d (by rw [e]))⟩) fun d0 => ?_
  refine ite_ne (fun d => ⟨h, Sub.cons h2 (Sub.cons h1 (Sub.refl h)), kF k (fun e => d (by rw [e]))⟩) fun d1 => ?_
  refine ⟨h, Sub.cons h2 (Sub.cons h1 (Sub.refl h)), kT k ?_⟩
  cases x; cases y; simp_all

theorem eqWayS_c {h : H} {a b : Value} {la lb : List DWay} (ra : rLs h cWay 2 a la) (rb : rLs h cWay 2 b lb) (ha : la.length ≤ 1099511627776) {R : Ending → H → Prop} (k : R (.returned (.bool (decide (la = lb)))) h) :
    HCalls Tryz.prog 39 #[a, b] h R := by
  refine HCalls_ir (args := [a, b]) Tryz.func39 ir39 ?_
  simp only [walk, lists, acts, mem, plain, seqs, maps, cells, resL, resV, intBin, seval, ra.len, rb.len]
  split
  · rename_i c
    exact .of (kF k fun e => c (by rw [e]))
  · rename_i c
    have hl : la.length = lb.length := by omega
    refine vc_loop [5] (fun n vs h' => ∃ i : Nat, vs = [.int .i64 i] ∧ h' = h ∧ i ≤ la.length ∧ n = la.length - i ∧ la.take i = lb.take i) la.length rfl ⟨0, rfl, rfl, by omega, by omega, by simp⟩ ?_
    rintro n f h' ⟨i, hv, rfl, hi, rfl, ht⟩
    simp only [List.map_cons, List.map_nil, List.cons.injEq, and_true] at hv
    simp only [walk, lists, acts, mem, plain, seqs, maps, cells, resL, resV, intBin, seval, wr, hv, ra.len, rb.len]
    split
    · rename_i c1
      refine vc_draw h' (Sub.refl _) ?_
      simp only [walk, lists, acts, mem, plain, seqs, maps, cells, resL, resV, intBin, seval]
      refine idx_leaf (i := i) eW_len ra rfl (by omega) fun b1 o1 e1 => ?_
      simp only [walk, lists, acts, mem, plain, seqs, maps, cells, resL, resV, intBin, seval, e1]
      refine idx_leaf (i := i) eW_len rb rfl (by omega) fun b2 o2 e2 => ?_
      simp only [walk, lists, acts, mem, plain, seqs, maps, cells, resL, resV, intBin, seval, e2]
      refine eqWay_c ?_
      simp only [walk, lists, acts, mem, plain, seqs, maps, cells, resL, resV, intBin, seval]
      refine ite_ne (fun d => .of (kF k (ne_at _ _ d))) fun d => ?_
      simp (disch := omega) only [wrapI]
      exact ⟨la.length - (i + 1), by omega, h', .refl _, i + 1, by simp, rfl, by omega, rfl, take_more _ _ ht d⟩
    · rename_i c1
      exact .of (kT k (take_all (by omega) hl ht))

theorem szWayS_c {h : H} {v : Value} {l : List DWay} {left : Int} (r : rIn h cWay 2 v l) (hl : 0 ≤ left ∧ left ≤ 1048576) (hb : l.length ≤ 9223372036854775807) {R : Ending → H → Prop} (k : ∀ x, (0 ≤ x → x = left - l.length) → x ≤ 1048576 → R (.returned (.int .i64 x)) h) : HCalls Tryz.prog 28 #[v, .int .i64 left] h R := by
  refine HCalls_ir (args := [v, .int .i64 left]) Tryz.func28 ir28 ?_
  simp (disch := omega) only [walk, lists, acts, mem, plain, seqs, maps, cells, resL, resV, intBin, seval, r.len, wrapI]
  refine ite_lt (fun c => .of (k _ (fun q => by omega) (by omega))) fun c => .of (k _ (fun _ => rfl) (by omega))

theorem toWay_c {h : H} {p : DWay} {R : Ending → H → Prop} (k : R (.returned (.agg (cWay p).toArray)) h) : HCalls Tryz.prog 63 #[.agg (cWay p).toArray] h R := by
  refine HCalls_ir (args := [.agg (cWay p).toArray]) Tryz.func63 ir63 ?_
  have zp := zWay_eq
  simp only [walk, lists, acts, mem, plain, seqs, maps, cells, resL, resV, intBin, seval, zp, wWay]
  refine newB_intro fun j1 h1 => ?_
  simp only [walk, lists, acts, mem, plain, seqs, maps, cells, resL, resV, intBin, seval, zp, wWay]
  refine newB_intro fun j2 h2 => ?_
  simp only [walk, lists, acts, mem, plain, seqs, maps, cells, resL, resV, intBin, seval, zp, wWay]
  refine newB_intro fun j3 h3 => ?_
  have n2 := fresh h2
  have n3 := fresh h3
  simp only [subs] at h2 h3
  have e31 : ¬ j1 = j3 := fun e => h3.2.1 e.symm
  have e32 : ¬ j2 = j3 := fun e => h3.1 e.symm
  have e21 : ¬ j1 = j2 := fun e => h2.1 e.symm
  simp only [walk, lists, acts, mem, plain, seqs, maps, cells, resL, resV, intBin, seval, zp, wWay, e31, e32, e21, h3, h2]
  refine ⟨h, ?_, k⟩
  (repeat' first | exact Sub.refl _ | exact Sub.nil _ | assumption | refine Sub.both ?_ ?_ | refine Sub.cons_of (by simp only [subs, h1, h2, h3, e31, e32, e21]) ?_ | exact Sub.left _ _ | refine Sub.app (by simp only [subs, h1, h2, h3, e31, e32, e21]) ?_ | refine Sub.cons (by simp only [subs, h1, h2, h3, e31, e32, e21]) ?_)

theorem toWayS_c {h : H} {a : Value} {l : List DWay} (r : rIn h cWay 2 a l) (hl : l.length ≤ 1048576) {R : Ending → H → Prop} (k : ∀ v g, oLs 92 cWay 2 v l g → Dj g h → R (.returned v) (g ++ h)) : HCalls Tryz.prog 33 #[a] h R := by
  refine HCalls_ir (args := [a]) Tryz.func33 ir33 ?_
  have zp := zWay_eq
  simp only [walk, lists, acts, mem, plain, seqs, maps, cells, resL, resV, intBin, seval, r.len, str, zp]
  refine ⟨⟨by omega, by omega, by omega, by omega⟩, newB_intro fun j hj => ?_⟩
  rw [zrep_fl (enc := cWay) (a := zWay) rfl]
  simp only [walk, lists, acts, mem, plain, seqs, maps, cells, resL, resV, intBin, seval]
  have hr : (List.replicate l.length zWay).length = l.length := by simp
  have o0 : oLs 92 cWay 2 (.slice (some ⟨j, 0, none⟩) l.length l.length) (List.replicate l.length zWay) [(j, blk (fl cWay (List.replicate l.length zWay)) 92)] := by
    have := oLs_new (e := 92) eW_len (j := j) (l := List.replicate l.length zWay)
    rw [hr] at this; exact this
  obtain ⟨V, hV⟩ : ∃ V, V = Value.slice (some ⟨j, 0, none⟩) l.length l.length := ⟨_, rfl⟩
  rw [← hV] at o0 ⊢
  refine vc_loop [4] (fun n vs h' => ∃ (i : Nat) (g' : H), vs = [.int .i64 i] ∧ h' = g' ++ h ∧ Dj g' h ∧ oLs 92 cWay 2 V (l.take i ++ (List.replicate l.length zWay).drop i) g' ∧ i ≤ l.length ∧ n = l.length - i) l.length rfl
    ⟨0, _, rfl, rfl, Dj.one hj, by simpa using o0, by omega, rfl⟩ ?_
  rintro n f h' ⟨i, g', hv, rfl, dj', o', hi, rfl⟩
  simp only [List.map_cons, List.map_nil, List.cons.injEq, and_true] at hv
  simp only [walk, lists, acts, mem, plain, seqs, maps, cells, resL, resV, intBin, seval, wr, hv, r.len]
  refine ite_lt (fun c1 => ?_) fun c1 => ?_
  · have hi2 : i < l.length := by omega
    refine idx_in (i := i) eW_len (r.sub (Sub.right dj')) rfl hi2 fun b1 o1 e1 => ?_
    simp only [walk, lists, acts, mem, plain, seqs, maps, cells, resL, resV, intBin, seval, e1, wWay]
    refine toWay_c ?_
    simp only [walk, lists, acts, mem, plain, seqs, maps, cells, resL, resV, intBin, seval, wWay]
    refine own_idx (i := i) eW_len o' rfl (by simp; omega) fun b cap sp hv' hc hs hg => ?_
    subst hg
    simp only [walk, lists, acts, mem, plain, seqs, maps, cells, resL, resV, intBin, seval, wWay]
    refine st_own (i := i) (a' := l[i]'hi2) (off := 0) eW_len (by omega) (by simp; omega) rfl (by omega) rfl ?_
    simp only [walk, lists, acts, mem, plain, seqs, maps, cells, resL, resV, intBin, seval]
    simp (disch := omega) only [wrapI]
    refine ⟨l.length - (i + 1), by omega, _, .refl _, i + 1, _, by simp, rfl, Dj.one dj'.one', ?_, by omega, rfl⟩
    rw [← take_set (by omega) hr]
    exact own_set eW_len hv' hc hs
  · have hi' : i = l.length := by omega
    subst hi'
    have o2 : oLs 92 cWay 2 V l g' := by simpa using o'
    exact .of (k _ g' o2 dj')

theorem markWayS_c {e : TypeId} {g h0 : H} {v : Value} {l : List DWay} {k : Int} (o : oLs e cWay 2 v l g) (dj : Dj g h0) (hl : l.length ≤ 16777216) (hk : 1 ≤ k ∧ k ≤ 4294967296) {R : Ending → H → Prop}
    (kr : ∀ g', oLs e cWay 2 v (mkWay k l.length) g' → Dj g' h0 → R (.returned (.int .i64 (k + 2 * l.length))) (g' ++ h0)) :
    HCalls Tryz.prog 42 #[v, .int .i64 k] (g ++ h0) R := by
  refine HCalls_ir (args := [v, .int .i64 k]) Tryz.func42 ir42 ?_
  simp only [walk, lists, acts, mem, plain, seqs, maps, cells, resL, resV, intBin, seval]
  refine vc_loop [5, 1] (fun n vs h' => ∃ (i : Nat) (g' : H), vs = [.int .i64 i, .int .i64 (k + 2 * (i : Int))] ∧ h' = g' ++ h0 ∧ Dj g' h0 ∧ oLs e cWay 2 v (mkWay k i ++ l.drop i) g' ∧ i ≤ l.length ∧ n = l.length - i) l.length rfl ⟨0, g, by simp, rfl, dj, by simpa [mkWay] using o, by omega, rfl⟩ ?_
  rintro n f h' ⟨i, g', hv, rfl, dj', o', hi, rfl⟩
  simp only [List.map_cons, List.map_nil, List.cons.injEq, and_true] at hv
  have hll : (mkWay k i ++ l.drop i).length = l.length := by simp [mkWay_len]; omega
  have hlen : ∀ {f : Value → Prop}, lenSK v f = f (.int .i64 l.length) := fun {f} => by rw [← hll]; exact o'.rd.len
  simp only [walk, lists, acts, mem, plain, seqs, maps, cells, resL, resV, intBin, seval, wr, hv.1, hv.2, hlen]
  split
  · rename_i c1
    obtain ⟨L, hL⟩ : ∃ L, L = mkWay k i ++ l.drop i := ⟨_, rfl⟩
    rw [← hL] at o' hll
    have hb : i < L.length := by omega
    obtain ⟨E, hE⟩ : ∃ E, E = L[i] := ⟨_, rfl⟩
    obtain ⟨q, hq⟩ : ∃ q : Int, q = k + 2 * (i : Int) := ⟨_, rfl⟩
    have hqb : 1 ≤ q ∧ q ≤ 4400000000 := by omega
    rw [← hq]
    refine own_idx (i := i) eW_len o' rfl (by omega) fun b0 cap0 sp0 hv0 hc0 hs0 hg0 => ?_
    subst hg0
    simp only [walk, lists, acts, mem, plain, seqs, maps, cells, resL, resV, intBin, seval]
    refine st_own (i := i) (a' := { E with house := q }) (off := 0) eW_len (by omega) hb rfl (by omega) (by rw [← hE]; rfl) ?_
    simp only [walk, lists, acts, mem, plain, seqs, maps, cells, resL, resV, intBin, seval]
    have o0 := own_set (e := e) (i := i) (a' := { E with house := q }) eW_len hv0 hc0 hs0
    simp (disch := omega) only [wrapI, Int.add_assoc, Int.reduceAdd]
    refine own_idx (i := i) eW_len o0 rfl (by simp only [List.length_set]; omega) fun b1 cap1 sp1 hv1 hc1 hs1 hg1 => ?_
    simp only [List.singleton_append, List.cons.injEq, Prod.mk.injEq, and_true] at hg1
    obtain ⟨rfl, hg1⟩ := hg1
    rw [hg1]
    simp only [walk, lists, acts, mem, plain, seqs, maps, cells, resL, resV, intBin, seval]
    refine st_own (i := i) (a' := { E with house := q, stamp := q + 1 }) (off := 1) eW_len (by omega) (by simp only [List.length_set]; omega) rfl (by omega) (by rw [List.getElem_set_self]; rfl) ?_
    simp only [walk, lists, acts, mem, plain, seqs, maps, cells, resL, resV, intBin, seval]
    have o1 := own_set (e := e) (i := i) (a' := { E with house := q, stamp := q + 1 }) eW_len hv1 hc1 hs1
    rw [List.set_set] at o1
    try rw [List.set_set]
    simp (disch := omega) only [wrapI, Int.add_assoc, Int.reduceAdd]
    refine ⟨l.length - (i + 1), by omega, _, .refl _, i + 1, _, ?_, rfl, Dj.one dj'.one', ?_, by omega, rfl⟩
    · simp; omega
    · have e1 := mkWay_set k l i (by omega)
      rw [← hL, ← hq] at e1
      rw [← e1]
      exact o1
  · rename_i c1
    have hi' : i = l.length := by omega
    subst hi'
    simp only [List.drop_length, List.append_nil] at o'
    exact .of (kr g' o' dj')

theorem heldWayS_c {h : H} {v : Value} {l : List DWay} {k : Int} (r : rLs h cWay 2 v l) (hm : l = mkWay k l.length) (hl : l.length ≤ 16777216) (hk : 1 ≤ k ∧ k ≤ 4294967296) {R : Ending → H → Prop}
    (kr : R (.returned (.int .i64 (k + 2 * l.length))) h) : HCalls Tryz.prog 53 #[v, .int .i64 k] h R := by
  refine HCalls_ir (args := [v, .int .i64 k]) Tryz.func53 ir53 ?_
  simp only [walk, lists, acts, mem, plain, seqs, maps, cells, resL, resV, intBin, seval]
  refine vc_loop [5, 1] (fun n vs h' => ∃ (i : Nat), vs = [.int .i64 i, .int .i64 (k + 2 * (i : Int))] ∧ h' = h ∧ i ≤ l.length ∧ n = l.length - i) l.length rfl ⟨0, by simp, rfl, by omega, rfl⟩ ?_
  rintro n f h' ⟨i, hv, rfl, hi, rfl⟩
  simp only [List.map_cons, List.map_nil, List.cons.injEq, and_true] at hv
  simp only [walk, lists, acts, mem, plain, seqs, maps, cells, resL, resV, intBin, seval, wr, hv.1, hv.2, r.len]
  split
  · rename_i c1
    have hx : l[i]'(by omega) = ⟨(k + 2 * (i : Int)), (k + 2 * (i : Int)) + 1⟩ := by
      have : ∀ (m : List DWay) (hi : i < m.length), m = mkWay k l.length → m[i] = ⟨(k + 2 * (i : Int)), (k + 2 * (i : Int)) + 1⟩ := by rintro m hi rfl; exact mkWay_at _ _ _ _
      exact this l _ hm
    obtain ⟨q, hq⟩ : ∃ q : Int, q = k + 2 * (i : Int) := ⟨_, rfl⟩
    have hqb : 1 ≤ q ∧ q ≤ 4400000000 := by omega
    rw [← hq] at hx ⊢
    refine idx_leaf (i := i) eW_len r rfl (by omega) fun b0 p0 e0 => ?_
    rw [hx] at e0
    have f0 := hread_c e0 0 rfl
    rw [Nat.add_zero] at f0
    simp (disch := omega) only [walk, lists, acts, mem, plain, seqs, maps, cells, resL, resV, intBin, seval, f0, wrapI, Int.add_assoc, Int.reduceAdd]
    refine idx_leaf (i := i) eW_len r rfl (by omega) fun b1 p1 e1 => ?_
    rw [hx] at e1
    have f1 := hread_c e1 1 rfl
    simp (disch := omega) only [walk, lists, acts, mem, plain, seqs, maps, cells, resL, resV, intBin, seval, f1, wrapI, Int.add_assoc, Int.reduceAdd]
    exact ⟨l.length - (i + 1), by omega, h', .refl _, i + 1, by simp; omega, rfl, by omega, rfl⟩
  · rename_i c1
    have hi' : i = l.length := by omega
    subst hi'
    exact .of kr

end Go.Proofs.YtmfhlkkligcgdaaGreatDoor
end

/- What the laws do with gates as wholes. -/
section
set_option linter.unusedVariables false
set_option linter.unusedSimpArgs false
set_option maxRecDepth 20000
attribute [local irreducible] Go.Tk.vc Go.Tk.vops Go.Tk.vdr Go.Tk.vop Go.Tk.vfl Go.Tk.HCalls
namespace Go.Tk
open Go
/-- How much is marked in a gate. -/
def cnGate (g : DGate) : Nat := sumL cnRec g.log + sumL cnLive g.lives + 2 * g.ways.length
def mkGate (k : Int) (g : DGate) : DGate := { g with log := mkL (mkRec mT) cnRec k g.log, lives := mkL (mkLive mT) cnLive (k + sumL cnRec g.log) g.lives, ways := mkWay (k + sumL cnRec g.log + sumL cnLive g.lives) g.ways.length }
theorem len_sum {α : Type} {cn : α → Nat} (h : ∀ a, 1 ≤ cn a) (l : List α) : l.length ≤ sumL cn l := by
  induction l with
  | nil => simp
  | cons a l ih => have := h a; simp only [List.length_cons, sumL]; omega
end Go.Tk
namespace Go.Proofs.YtmfhlkkligcgdaaGreatDoor
open Go Go.Tk

theorem eqGate_c {h : H} {x y : DGate} {v1 v2 v3 w1 w2 w3 : Value} (rx : sGate h x v1 v2 v3) (ry : sGate h y w1 w2 w3) (hx : bGate x) {R : Ending → H → Prop} (k : R (.returned (.bool (decide (x = y)))) h) :
    HCalls Tryz.prog 12 #[.agg (cGate x v1 v2 v3).toArray, .agg (cGate y w1 w2 w3).toArray] h R := by
  refine HCalls_ir (args := [.agg (cGate x v1 v2 v3).toArray, .agg (cGate y w1 w2 w3).toArray]) Tryz.func12 ir12 ?_
  have b1 := hx.log; have b2 := hx.lives; have b3 := hx.ways
  unfold lim at b1 b2 b3
  simp only [walk, lists, acts, mem, plain, seqs, maps, cells, resL, resV, intBin, seval, wGate]
  refine newB_intro fun j1 h1 => ?_
  simp only [walk, lists, acts, mem, plain, seqs, maps, cells, resL, resV, intBin, seval, wGate]
  refine newB_intro fun j2 h2 => ?_
  have n := fresh h2
  have sb := fun o => Sub.cons (o := o) h2 (Sub.cons h1 (Sub.refl h))
  simp only [walk, lists, acts, mem, plain, seqs, maps, cells, resL, resV, intBin, seval, wGate, n.1, n.2.1]
  refine ite_eqb (fun d => ⟨h, Sub.cons h2 (Sub.cons h1 (Sub.refl h)), kF k (fun e => d (by rw [e]))⟩) fun d0 => ?_
  refine ite_ne (fun d => ⟨h, Sub.cons h2 (Sub.cons h1 (Sub.refl h)), kF k (fun e => d (by rw [e]))⟩) fun d1 => ?_
  refine ite_ne (fun d => ⟨h, Sub.cons h2 (Sub.cons h1 (Sub.refl h)), kF k (fun e => d (by rw [e]))⟩) fun d2 => ?_
  refine eqRecordS_c (rx.1.sub (sb _) fun c a q => rRecord.sub (sb _) q) (ry.1.sub (sb _) fun c a q => rRecord.sub (sb _) q) hx.recs (by omega) ?_
  simp only [walk, lists, acts, mem, plain, seqs, maps, cells, resL, resV, intBin, seval, wGate, n.1, n.2.1]
  refine ite_ne (fun d => ⟨h, Sub.cons h2 (Sub.cons h1 (Sub.refl h)), kF k (fun e => d (by rw [e]))⟩) fun d3 => ?_
  refine eqLiveS_c (rx.2.1.sub (sb _) fun c a q => rLive.sub (sb _) q) (ry.2.1.sub (sb _) fun c a q => rLive.sub (sb _) q) hx.live (by omega) ?_
  simp only [walk, lists, acts, mem, plain, seqs, maps, cells, resL, resV, intBin, seval, wGate, n.1, n.2.1]
  refine ite_ne (fun d => ⟨h, Sub.cons h2 (Sub.cons h1 (Sub.refl h)), kF k (fun e => d (by rw [e]))⟩) fun d4 => ?_
  refine eqWayS_c (rx.2.2.sub (sb _)) (ry.2.2.sub (sb _)) (by omega) ?_
  simp only [walk, lists, acts, mem, plain, seqs, maps, cells, resL, resV, intBin, seval, wGate, n.1, n.2.1]
  refine ite_ne (fun d => ⟨h, Sub.cons h2 (Sub.cons h1 (Sub.refl h)), kF k (fun e => d (by rw [e]))⟩) fun d5 => ?_
  refine ⟨h, Sub.cons h2 (Sub.cons h1 (Sub.refl h)), kT k ?_⟩
  cases x; cases y; simp_all

/-- A gate that comes in. -/
def nGate (h : H) (d : DGate) (v1 v2 v3 : Value) : Prop := rIRs h (nRecord h) 11 v1 d.log ∧ rIRs h (nLive h) 12 v2 d.lives ∧ rIn h cWay 2 v3 d.ways
theorem nGate.sub {g h : H} (s : Tk.Sub g h) {d : DGate} {v1 v2 v3 : Value} (r : nGate g d v1 v2 v3) : nGate h d v1 v2 v3 :=
  ⟨r.1.sub s fun _ _ q => nRecord.sub s q, r.2.1.sub s fun _ _ q => nLive.sub s q, r.2.2.sub s⟩
def uGate (d : DGate) : Prop := d.log.length ≤ 9223372036854775807 ∧ (∀ x ∈ d.log, uRecord x) ∧ d.lives.length ≤ 9223372036854775807 ∧ (∀ x ∈ d.lives, uLive x) ∧ d.ways.length ≤ 9223372036854775807

theorem szGate_c {h : H} {d : DGate} {v1 v2 v3 : Value} {left : Int} (r : nGate h d v1 v2 v3) (hl : 0 ≤ left ∧ left ≤ 1048576) (hu : uGate d) {R : Ending → H → Prop} (k : ∀ x, (0 ≤ x → x = left - szGateN d) → x ≤ 1048576 → R (.returned (.int .i64 x)) h) :
    HCalls Tryz.prog 7 #[.agg (cGate d v1 v2 v3).toArray, .int .i64 left] h R := by
  refine HCalls_ir (args := [.agg (cGate d v1 v2 v3).toArray, .int .i64 left]) Tryz.func7 ir7 ?_
  obtain ⟨u1, u2, u3, u4, u5⟩ := hu
  unfold szGateN at k
  simp only [walk, lists, acts, mem, plain, seqs, maps, cells, resL, resV, intBin, seval, wGate]
  refine newB_intro fun j hj => ?_
  have sb := fun o => Sub.cons (o := o) hj (Sub.refl h)
  simp (disch := omega) only [walk, lists, acts, mem, plain, seqs, maps, cells, resL, resV, intBin, seval, wGate]
  refine szRecordS_c (r.1.sub (sb _) fun _ _ q => nRecord.sub (sb _) q) ⟨by omega, by omega⟩ (by omega) u2 fun x0 a0 b0 => ?_
  simp (disch := omega) only [walk, lists, acts, mem, plain, seqs, maps, cells, resL, resV, intBin, seval, wGate]
  refine ite_lt (fun c => ⟨h, sb _, k _ (fun q => absurd q (by omega)) (by omega)⟩) fun c0 => ?_
  have a0' := a0 (by omega)
  try simp (disch := omega) only [walk, lists, acts, mem, plain, seqs, maps, cells, resL, resV, intBin, seval, wGate]
  refine szLiveS_c (r.2.1.sub (sb _) fun _ _ q => nLive.sub (sb _) q) ⟨by omega, by omega⟩ (by omega) u4 fun x1 a1 b1 => ?_
  simp (disch := omega) only [walk, lists, acts, mem, plain, seqs, maps, cells, resL, resV, intBin, seval, wGate]
  refine ite_lt (fun c => ⟨h, sb _, k _ (fun q => absurd q (by omega)) (by omega)⟩) fun c1 => ?_
  have a1' := a1 (by omega)
  try simp (disch := omega) only [walk, lists, acts, mem, plain, seqs, maps, cells, resL, resV, intBin, seval, wGate]
  refine szWayS_c (r.2.2.sub (sb _)) ⟨by omega, by omega⟩ (by omega) fun x2 a2 b2 => ?_
  simp (disch := omega) only [walk, lists, acts, mem, plain, seqs, maps, cells, resL, resV, intBin, seval, wGate]
  refine ite_lt (fun c => ⟨h, sb _, k _ (fun q => absurd q (by omega)) (by omega)⟩) fun c2 => ?_
  have a2' := a2 (by omega)
  try simp (disch := omega) only [walk, lists, acts, mem, plain, seqs, maps, cells, resL, resV, intBin, seval, wGate]
  exact ⟨h, sb _, k _ (fun _ => by omega) (by omega)⟩

theorem markGate_c {M : H} {d : DGate} {v1 v2 v3 : Value} {S : Nat → Prop} {k : Int} (w : WGate M d v1 v2 v3 S) (hl : cnGate d ≤ 16777216) (hk : 1 ≤ k ∧ k ≤ 16777216) {R : Ending → H → Prop}
    (kr : ∀ M', WGate M' (mkGate k d) v1 v2 v3 S → Ch S M M' → R (.returned (.int .i64 (k + cnGate d))) M') : HCalls Tryz.prog 13 #[.agg (cGate d v1 v2 v3).toArray, .int .i64 k] M R := by
  refine HCalls_ir (args := [.agg (cGate d v1 v2 v3).toArray, .int .i64 k]) Tryz.func13 ir13 ?_
  unfold cnGate at hl kr
  simp only [walk, lists, acts, mem, plain, seqs, maps, cells, resL, resV, intBin, seval, wGate]
  refine newB_intro fun j hj => ?_
  obtain ⟨N, hN⟩ : ∃ N, N = (j, blk (cGate d v1 v2 v3) 34) :: M := ⟨_, rfl⟩
  have sN : Tk.Sub M N := by rw [hN]; exact Sub.cons hj (Sub.refl _)
  have gN : hget N j = some (blk (cGate d v1 v2 v3) 34) := by rw [hN]; exact hget_same _ _ _
  have hSj : ¬ S j := fun c => w.in c hj
  have w0 := w.frame (M' := N) fun x q => Sub.eq sN (w.in q)
  obtain ⟨S1, S2, S3, q1, q2, q3, d12, d13, d23, su⟩ := w0
  have c3 : hcel N j 3 = some v1 := hcel_of gN rfl
  simp only [walk, lists, acts, mem, plain, seqs, maps, cells, resL, resV, intBin, seval, wGate]
  rw [← hN]
  try simp only [walk, lists, acts, mem, plain, seqs, maps, cells, resL, resV, intBin, seval, wGate, c3]
  refine markRecordS_c q1 (by omega) (by omega) fun N1 p1 ch1 => ?_
  have g1 : hget N1 j = some (blk (cGate d v1 v2 v3) 34) := by rw [ch1 j fun c => hSj ((su j).2 (.inl c))]; exact gN
  have c4 : hcel N1 j 4 = some v2 := hcel_of g1 rfl
  simp only [walk, lists, acts, mem, plain, seqs, maps, cells, resL, resV, intBin, seval, wGate, c4]
  refine markLiveS_c (q2.frame WLive.fr fun x q => ch1 x fun c => d12 x c q) (by omega) (by omega) fun N2 p2 ch2 => ?_
  have g2 : hget N2 j = some (blk (cGate d v1 v2 v3) 34) := by rw [ch2 j fun c => hSj ((su j).2 (.inr (.inl c)))]; exact g1
  have c5 : hcel N2 j 5 = some v3 := hcel_of g2 rfl
  simp only [walk, lists, acts, mem, plain, seqs, maps, cells, resL, resV, intBin, seval, wGate, c5]
  refine HCalls_ch (q3.frame fun x q => by rw [ch2 x fun c => d23 x c q, ch1 x fun c => d13 x c q]) (fun g h0 R o dj kr => markWayS_c o dj (by omega) (by omega) kr) fun N3 p3 ch3 => ?_
  simp only [walk, lists, acts, mem, plain, seqs, maps, cells, resL, resV, intBin, seval]
  have chA : Ch S N N3 := fun x q => by
    rw [ch3 x fun c => q ((su x).2 (.inr (.inr c))), ch2 x fun c => q ((su x).2 (.inr (.inl c))), ch1 x fun c => q ((su x).2 (.inl c))]
  obtain ⟨N4, s4, ch4, f4⟩ := chA.unbox hN hj hSj
  refine ⟨N4, s4, ?_⟩
  have := kr N4 ⟨S1, S2, S3, p1.frame WRecord.fr fun x q => by rw [f4 x ((su x).2 (.inl q)), ch3 x (d13 x q), ch2 x (d12 x q)], p2.frame WLive.fr fun x q => by rw [f4 x ((su x).2 (.inr (.inl q))), ch3 x (d23 x q)], p3.frame fun x q => f4 x ((su x).2 (.inr (.inr q))), d12, d13, d23, su⟩ ch4
  have e : k + (sumL cnRec d.log : Nat) + (sumL cnLive d.lives : Nat) + 2 * (d.ways.length : Int) = k + ((sumL cnRec d.log + sumL cnLive d.lives + 2 * d.ways.length : Nat) : Int) := by omega
  rw [e]; exact this

theorem heldGate_c {h : H} {d : DGate} {v1 v2 v3 : Value} {k : Int} (r : sGate h (mkGate k d) v1 v2 v3) (hl : cnGate d ≤ 16777216) (hk : 1 ≤ k ∧ k ≤ 16777216) {R : Ending → H → Prop}
    (kr : R (.returned (.int .i64 (k + cnGate d))) h) : HCalls Tryz.prog 23 #[.agg (cGate (mkGate k d) v1 v2 v3).toArray, .int .i64 k] h R := by
  refine HCalls_ir (args := [.agg (cGate (mkGate k d) v1 v2 v3).toArray, .int .i64 k]) Tryz.func23 ir23 ?_
  unfold cnGate at hl kr
  have l1 := len_sum (cn := cnRec) (fun a => by unfold cnRec; omega) d.log
  have l2 := len_sum (cn := cnLive) (fun a => by unfold cnLive; omega) d.lives
  simp only [walk, lists, acts, mem, plain, seqs, maps, cells, resL, resV, intBin, seval, wGate]
  refine newB_intro fun j hj => ?_
  have sb := fun o => Sub.cons (o := o) hj (Sub.refl h)
  simp only [walk, lists, acts, mem, plain, seqs, maps, cells, resL, resV, intBin, seval, wGate]
  refine heldRecordS_c (l := d.log) (r.1.sub (sb _) fun _ _ q => rRecord.sub (sb _) q) (by omega) (by omega) (by omega) ?_
  simp only [walk, lists, acts, mem, plain, seqs, maps, cells, resL, resV, intBin, seval, wGate]
  refine ite_lt (fun c => absurd c (by omega)) fun _ => ?_
  try simp only [walk, lists, acts, mem, plain, seqs, maps, cells, resL, resV, intBin, seval, wGate]
  refine heldLiveS_c (l := d.lives) (r.2.1.sub (sb _) fun _ _ q => rLive.sub (sb _) q) (by omega) (by omega) (by omega) ?_
  simp only [walk, lists, acts, mem, plain, seqs, maps, cells, resL, resV, intBin, seval, wGate]
  refine ite_lt (fun c => absurd c (by omega)) fun _ => ?_
  try simp only [walk, lists, acts, mem, plain, seqs, maps, cells, resL, resV, intBin, seval, wGate]
  have hw : (mkWay (k + (sumL cnRec d.log : Nat) + (sumL cnLive d.lives : Nat)) d.ways.length).length = d.ways.length := mkWay_len _ _
  refine heldWayS_c (k := k + (sumL cnRec d.log : Nat) + (sumL cnLive d.lives : Nat)) (l := mkWay (k + (sumL cnRec d.log : Nat) + (sumL cnLive d.lives : Nat)) d.ways.length) (r.2.2.sub (sb _)) (by rw [hw]) (by rw [hw]; omega) (by omega) ?_
  rw [hw]
  simp only [walk, lists, acts, mem, plain, seqs, maps, cells, resL, resV, intBin, seval, wGate]
  refine ite_lt (fun c => absurd c (by omega)) fun _ => ?_
  have e : k + (sumL cnRec d.log : Nat) + (sumL cnLive d.lives : Nat) + 2 * (d.ways.length : Int) = k + ((sumL cnRec d.log + sumL cnLive d.lives + 2 * d.ways.length : Nat) : Int) := by omega
  rw [e]
  exact ⟨h, sb _, kr⟩

theorem toWayS_d {h : H} {a : Value} {l : List DWay} (r : rIn h cWay 2 a l) (hl : l.length ≤ 1048576) {R : Ending → H → Prop} (k : ∀ M' v S, Tk.Sub h M' → dL 92 cWay 2 M' v l S → (∀ x, S x → hget h x = none) → R (.returned v) M') : HCalls Tryz.prog 33 #[a] h R :=
  toWayS_c r hl fun v g o d => k _ v _ (Sub.right d) (dL.of (h := h) o (Sub.left _ _)) fun x q => d x q

set_option maxHeartbeats 1000000 in
theorem toGate_c {h : H} {d : DGate} {v1 v2 v3 : Value} (r : nGate h d v1 v2 v3) (hx : bGate d) {R : Ending → H → Prop}
    (k : ∀ M' w1 w2 w3 S, Tk.Sub h M' → WGate M' d w1 w2 w3 S → (∀ x, S x → hget h x = none) → R (.returned (.agg (cGate d w1 w2 w3).toArray)) M') : HCalls Tryz.prog 9 #[.agg (cGate d v1 v2 v3).toArray] h R := by
  refine HCalls_ir (args := [.agg (cGate d v1 v2 v3).toArray]) Tryz.func9 ir9 ?_
  have b1 := hx.log; have b2 := hx.lives; have b3 := hx.ways
  unfold lim at b1 b2 b3
  have z1 := zGate_eq
  try simp only [str] at z1
  simp only [walk, lists, acts, mem, plain, seqs, maps, cells, resL, resV, intBin, seval, wGate, str, z1]
  refine newB_intro fun j1 h1 => ?_
  simp only [walk, lists, acts, mem, plain, seqs, maps, cells, resL, resV, intBin, seval, wGate]
  refine newB_intro fun j2 h2 => ?_
  simp only [walk, lists, acts, mem, plain, seqs, maps, cells, resL, resV, intBin, seval, wGate]
  refine newB_intro fun j3 h3 => ?_
  have n2 := h2
  have n3 := h3
  simp only [subs] at n2 n3
  have m : j1 ≠ j2 ∧ j1 ≠ j3 ∧ j2 ≠ j3 ∧ j2 ≠ j1 ∧ j3 ≠ j1 ∧ j3 ≠ j2 := by refine ⟨?_, ?_, ?_, ?_, ?_, ?_⟩ <;> simp_all [Ne, eq_comm]
  try simp only [walk, lists, acts, mem, plain, seqs, maps, cells, resL, resV, intBin, seval, wGate, z1, m]
  obtain ⟨d0, hd0⟩ : ∃ d0 : DGate, d0 = ⟨d.up, d.life, d.next, zGate.log, zGate.lives, zGate.ways⟩ := ⟨_, rfl⟩
  rw [← hd0]
  have same : ∀ a b c, cGate d0 a b c = cGate d a b c := fun a b c => by rw [hd0]; rfl
  obtain ⟨M0, hM0⟩ : ∃ M0, M0 = (j3, blk (cGate d0 (.slice none 0 0) (.slice none 0 0) (.slice none 0 0)) 34) :: (j2, blk (cGate zGate (.slice none 0 0) (.slice none 0 0) (.slice none 0 0)) 34) :: (j1, blk (cGate d v1 v2 v3) 26) :: h := ⟨_, rfl⟩
  have sM0 : Tk.Sub h M0 := by rw [hM0]; (repeat' first | exact Sub.refl _ | exact Sub.nil _ | assumption | refine Sub.both ?_ ?_ | refine Sub.cons_of (by simp only [subs, n2, n3, h1, m]) ?_ | exact Sub.left _ _ | refine Sub.app (by simp only [subs, n2, n3, h1, m]) ?_ | refine Sub.cons (by simp only [subs, n2, n3, h1, m]) ?_)
  have g1 : hget M0 j1 = some (blk (cGate d v1 v2 v3) 26) := by rw [hM0]; simp only [mem, m, ne_eq, not_false_eq_true]
  have g2 : hget M0 j2 = some (blk (cGate zGate (.slice none 0 0) (.slice none 0 0) (.slice none 0 0)) 34) := by rw [hM0]; simp only [mem, m, ne_eq, not_false_eq_true]
  have g3 : hget M0 j3 = some (blk (cGate d0 (.slice none 0 0) (.slice none 0 0) (.slice none 0 0)) 34) := by rw [hM0]; simp only [mem]
  rw [← hM0]
  have cl1 : hcel M0 j1 3 = some v1 := hcel_of g1 rfl
  try simp only [walk, lists, acts, mem, plain, seqs, maps, cells, resL, resV, intBin, seval, wGate, cl1]
  refine toRecordS_c (r.1.sub sM0 fun _ _ q => nRecord.sub sM0 q) (by omega) hx.recs fun M1 w1 S1 t1 u1 f1 => ?_
  have g1_1' := t1 _ _ g1
  have g2_1' := t1 _ _ g2
  have g3_1' := t1 _ _ g3
  obtain ⟨N1, hN1⟩ : ∃ N1, N1 = hupd M1 j3 (blk (cGate d0 w1 (.slice none 0 0) (.slice none 0 0)) 34) := ⟨_, rfl⟩
  have wt1 : hwrite M1 j3 3 [w1] = some N1 := by
    rw [hN1]; exact hwrite_of g3_1' (by show 3 + 1 ≤ 6; omega)
  have on1 := u1.one
  have vcw1 := vc1 on1
  have g3_1 : hget N1 j3 = some (blk (cGate d0 w1 (.slice none 0 0) (.slice none 0 0)) 34) := by rw [hN1]; exact hget_hupd_same g3_1'
  have g1_1 : hget N1 j1 = some (blk (cGate d v1 v2 v3) 26) := by rw [hN1, hget_hupd_ne m.2.1]; exact g1_1'
  have g2_1 : hget N1 j2 = some (blk (cGate zGate (.slice none 0 0) (.slice none 0 0) (.slice none 0 0)) 34) := by rw [hN1, hget_hupd_ne m.2.2.1]; exact g2_1'
  have fr1 : ∀ x, x ≠ j3 → hget N1 x = hget M1 x := fun x e => by rw [hN1, hget_hupd_ne e]
  have sN1 : Tk.Sub h N1 := fun x o e => by
    rw [fr1 x (fun c => by subst c; rw [n3.2.2] at e; cases e)]; exact t1 _ _ (sM0 _ _ e)
  simp only [walk, lists, acts, mem, plain, seqs, maps, cells, resL, resV, intBin, seval, wGate, wt1, on1, vcw1]
  have cl2 : hcel N1 j1 4 = some v2 := hcel_of g1_1 rfl
  try simp only [walk, lists, acts, mem, plain, seqs, maps, cells, resL, resV, intBin, seval, wGate, cl2]
  refine toLiveS_c (r.2.1.sub sN1 fun _ _ q => nLive.sub sN1 q) (by omega) hx.live fun M2 w2 S2 t2 u2 f2 => ?_
  have g1_2' := t2 _ _ g1_1
  have g2_2' := t2 _ _ g2_1
  have g3_2' := t2 _ _ g3_1
  obtain ⟨N2, hN2⟩ : ∃ N2, N2 = hupd M2 j3 (blk (cGate d0 w1 w2 (.slice none 0 0)) 34) := ⟨_, rfl⟩
  have wt2 : hwrite M2 j3 4 [w2] = some N2 := by
    rw [hN2]; exact hwrite_of g3_2' (by show 4 + 1 ≤ 6; omega)
  have on2 := u2.one
  have vcw2 := vc1 on2
  have g3_2 : hget N2 j3 = some (blk (cGate d0 w1 w2 (.slice none 0 0)) 34) := by rw [hN2]; exact hget_hupd_same g3_2'
  have g1_2 : hget N2 j1 = some (blk (cGate d v1 v2 v3) 26) := by rw [hN2, hget_hupd_ne m.2.1]; exact g1_2'
  have g2_2 : hget N2 j2 = some (blk (cGate zGate (.slice none 0 0) (.slice none 0 0) (.slice none 0 0)) 34) := by rw [hN2, hget_hupd_ne m.2.2.1]; exact g2_2'
  have fr2 : ∀ x, x ≠ j3 → hget N2 x = hget M2 x := fun x e => by rw [hN2, hget_hupd_ne e]
  have sN2 : Tk.Sub h N2 := fun x o e => by
    rw [fr2 x (fun c => by subst c; rw [n3.2.2] at e; cases e)]; exact t2 _ _ (sN1 _ _ e)
  simp only [walk, lists, acts, mem, plain, seqs, maps, cells, resL, resV, intBin, seval, wGate, wt2, on2, vcw2]
  have cl3 : hcel N2 j1 5 = some v3 := hcel_of g1_2 rfl
  try simp only [walk, lists, acts, mem, plain, seqs, maps, cells, resL, resV, intBin, seval, wGate, cl3]
  refine toWayS_d (r.2.2.sub sN2) (by omega) fun M3 w3 S3 t3 u3 f3 => ?_
  have g1_3' := t3 _ _ g1_2
  have g2_3' := t3 _ _ g2_2
  have g3_3' := t3 _ _ g3_2
  obtain ⟨N3, hN3⟩ : ∃ N3, N3 = hupd M3 j3 (blk (cGate d0 w1 w2 w3) 34) := ⟨_, rfl⟩
  have wt3 : hwrite M3 j3 5 [w3] = some N3 := by
    rw [hN3]; exact hwrite_of g3_3' (by show 5 + 1 ≤ 6; omega)
  have on3 := u3.one
  have vcw3 := vc1 on3
  have g3_3 : hget N3 j3 = some (blk (cGate d0 w1 w2 w3) 34) := by rw [hN3]; exact hget_hupd_same g3_3'
  have g1_3 : hget N3 j1 = some (blk (cGate d v1 v2 v3) 26) := by rw [hN3, hget_hupd_ne m.2.1]; exact g1_3'
  have g2_3 : hget N3 j2 = some (blk (cGate zGate (.slice none 0 0) (.slice none 0 0) (.slice none 0 0)) 34) := by rw [hN3, hget_hupd_ne m.2.2.1]; exact g2_3'
  have fr3 : ∀ x, x ≠ j3 → hget N3 x = hget M3 x := fun x e => by rw [hN3, hget_hupd_ne e]
  have sN3 : Tk.Sub h N3 := fun x o e => by
    rw [fr3 x (fun c => by subst c; rw [n3.2.2] at e; cases e)]; exact t3 _ _ (sN2 _ _ e)
  simp only [walk, lists, acts, mem, plain, seqs, maps, cells, resL, resV, intBin, seval, wGate, wt3, on3, vcw3]
  have rd3 : hread N3 j3 0 6 = some (cGate d0 w1 w2 w3) := hread_of g3_3 rfl
  obtain ⟨Z3, hZ3⟩ : ∃ Z3, Z3 = hupd N3 j2 (blk (cGate d0 w1 w2 w3) 34) := ⟨_, rfl⟩
  have wtz : hwrite N3 j2 0 (cGate d0 w1 w2 w3) = some Z3 := by
    rw [hZ3]; exact hwrite_of g2_3 (by show 0 + 6 ≤ 6; omega)
  have hone : (cGate d0 w1 w2 w3).all vone = true := by simp only [cGate, List.all_cons, List.all_nil, on1, on2, on3]; rfl
  simp only [walk, lists, acts, mem, plain, seqs, maps, cells, resL, resV, intBin, seval, wGate, rd3, wtz, hone]
  have rdz : hread Z3 j2 0 6 = some (cGate d0 w1 w2 w3) := hread_of (by rw [hZ3]; exact hget_hupd_same g2_3) rfl
  simp only [walk, lists, acts, mem, plain, seqs, maps, cells, resL, resV, intBin, seval, wGate, rdz]
  have frz : ∀ x, x ≠ j2 → hget Z3 x = hget N3 x := fun x e => by rw [hZ3, hget_hupd_ne e]
  have ne1 : ∀ x, S1 x → x ≠ j2 ∧ x ≠ j3 := fun x q => ⟨fun e => (by have := f1 x q; rw [e, g2] at this; cases this), fun e => (by have := f1 x q; rw [e, g3] at this; cases this)⟩
  have ne2 : ∀ x, S2 x → x ≠ j2 ∧ x ≠ j3 := fun x q => ⟨fun e => (by have := f2 x q; rw [e, g2_1] at this; cases this), fun e => (by have := f2 x q; rw [e, g3_1] at this; cases this)⟩
  have ne3 : ∀ x, S3 x → x ≠ j2 ∧ x ≠ j3 := fun x q => ⟨fun e => (by have := f3 x q; rw [e, g2_2] at this; cases this), fun e => (by have := f3 x q; rw [e, g3_2] at this; cases this)⟩
  have k1 : ∀ x, S1 x → hget N1 x ≠ none := fun x q => by rw [fr1 x (ne1 x q).2]; exact u1.in WRecord.in q
  have k1' : ∀ x, S1 x → hget N2 x ≠ none := fun x q => by rw [fr2 x (ne1 x q).2, Sub.eq t2 (k1 x q)]; exact k1 x q
  have k2 : ∀ x, S2 x → hget N2 x ≠ none := fun x q => by rw [fr2 x (ne2 x q).2]; exact u2.in WLive.in q
  have d12 : ∀ x, S1 x → ¬ S2 x := fun x q q2 => k1 x q (f2 x q2)
  have d13 : ∀ x, S1 x → ¬ S3 x := fun x q q2 => k1' x q (f3 x q2)
  have d23 : ∀ x, S2 x → ¬ S3 x := fun x q q2 => k2 x q (f3 x q2)
  rw [same]
  refine dP.of (k Z3 w1 w2 w3 (fun x => S1 x ∨ S2 x ∨ S3 x) (fun x o e => by rw [frz x (fun c => by subst c; rw [n2.2] at e; cases e)]; exact sN3 x o e)
    ⟨S1, S2, S3, u1.frame WRecord.fr fun x q => by rw [frz x (ne1 x q).1, fr3 x (ne1 x q).2, Sub.eq t3 (k1' x q), fr2 x (ne1 x q).2, Sub.eq t2 (k1 x q), fr1 x (ne1 x q).2],
      u2.frame WLive.fr fun x q => by rw [frz x (ne2 x q).1, fr3 x (ne2 x q).2, Sub.eq t3 (k2 x q), fr2 x (ne2 x q).2], u3.frame fun x q => by rw [frz x (ne3 x q).1, fr3 x (ne3 x q).2], d12, d13, d23, fun _ => Iff.rfl⟩ ?_)
  rintro x (q | q | q)
  · exact sM0.none' (f1 x q)
  · exact sN1.none' (f2 x q)
  · exact sN2.none' (f3 x q)
end Go.Proofs.YtmfhlkkligcgdaaGreatDoor
end

/- Maps: both. -/
section
set_option linter.unusedVariables false
set_option linter.unusedSimpArgs false
set_option maxRecDepth 20000
attribute [local irreducible] Go.Tk.vc Go.Tk.vops Go.Tk.vdr Go.Tk.vop Go.Tk.vfl Go.Tk.HCalls
namespace Go.Tk
open Go
end Go.Tk
namespace Go.Proofs.YtmfhlkkligcgdaaGreatDoor
open Go Go.Tk

end Go.Proofs.YtmfhlkkligcgdaaGreatDoor
end
