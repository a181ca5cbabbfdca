/- Parts of the proof. -/
import Derived.Test.YtjioiemhgbkbfaaGreatDoorK155
import Derived.Test.YtjioiemhgbkbfaaGreatDoorK1516
import Derived.Test.YtjioiemhgbkbfaaGreatDoorK1512
set_option maxHeartbeats 4000000
set_option maxRecDepth 100000
set_option linter.unusedVariables false
set_option linter.unusedSimpArgs false
set_option linter.defProp false
attribute [local irreducible] Go.Tk.vc Go.Tk.vops Go.Tk.vdr Go.Tk.vop Go.Tk.vfl Go.Tk.HCalls
section
namespace Go.Proofs.YtjioiemhgbkbfaaGreatDoor
open Go Go.Tk
theorem toRec_c {h : H} {d : DRec} {v1 v2 : Value} (r1 : rIn h eI 1 v1 d.slots) (r2 : rIn h eP 2 v2 d.pairs) (hx : bRec d) {R : Ending -> H -> Prop}
  (k : ∀ M' w1 w2 S, Tk.Sub h M' -> WRec M' (cRec d w1 w2) d S -> (∀ x, S x -> hget h x = none) -> R (.returned (.agg (cRec d w1 w2).toArray)) M') : HCalls Tryz.prog 139 #[.agg (cRec d v1 v2).toArray] h R := by
 refine qD lite (args := [.agg (cRec d v1 v2).toArray]) Tryz.func139 ?_
 conv => arg 2; cbv
 rw [qR]
 have z1 := vR
 try simp only [str] at z1
 simp only [wK, seval, wRec, str, z1]
 refine qC (o := blk (cRec d v1 v2) 217) fun j1 h1 => ?_
 simp only [wK, seval, wRec, str, z1]
 refine qC (o := blk (cRec zRec (.slice none 0 0) (.slice none 0 0)) 137) fun j2 h2 => ?_
 simp only [wK, seval, wRec, str, z1]
 refine qC (o := blk (cRec zRec (.slice none 0 0) (.slice none 0 0)) 137) fun j3 h3 => ?_
 have n2 := h2
 have n3 := h3
 simp only [subs] at n2 n3
 have m : j1 ≠ j2 /\ j1 ≠ j3 /\ j2 ≠ j3 /\ j2 ≠ j1 /\ j3 ≠ j1 /\ j3 ≠ j2 := by refine ⟨?_, ?_, ?_, ?_, ?_, ?_⟩ <;> simp_all [Ne, eq_comm]
 try simp only [wK, seval, wRec, zA, z1, m]
 obtain ⟨M0, hM0⟩ : ∃ M0, M0 = (j3, blk (cRec ⟨d.kind, d.stamp, d.try_, d.what, zRec.slots, zRec.pairs⟩ (.slice none 0 0) (.slice none 0 0)) 137) :: (j2, blk (cRec zRec (.slice none 0 0) (.slice none 0 0)) 137) :: (j1, blk (cRec d v1 v2) 217) :: h := ⟨_, rfl⟩
 have s0 : Tk.Sub h M0 := by rw [hM0]; (repeat' first | exact Sub.refl _ | exact Sub.nil _ | assumption | refine Sub.both ?_ ?_ | refine Sub.cons_of (by simp only [subs, n2, n3, h1, m]) ?_ | exact Sub.left _ _ | refine Sub.app (by simp only [subs, n2, n3, h1, m]) ?_ | refine Sub.cons (by simp only [subs, n2, n3, h1, m]) ?_)
 have g1 : hget M0 j1 = some (blk (cRec d v1 v2) 217) := by rw [hM0]; simp only [mem, m, ne_eq, not_false_eq_true]
 have g2 : hget M0 j2 = some (blk (cRec zRec (.slice none 0 0) (.slice none 0 0)) 137) := by rw [hM0]; simp only [mem, m, ne_eq, not_false_eq_true]
 have g3 : hget M0 j3 = some (blk (cRec ⟨d.kind, d.stamp, d.try_, d.what, zRec.slots, zRec.pairs⟩ (.slice none 0 0) (.slice none 0 0)) 137) := by rw [hM0]; simp only [mem]
 rw [<- hM0]
 have cl : hcel M0 j1 4 = some v1 := qE g1 rfl
 try simp only [wK, seval, wRec, cl]
 refine jL (r1.sub s0) (by have := hx.s; unfold lim at this; omega) fun M1 w1 S1 t1 u1 f1 => ?_
 have ne1 : ∀ x, S1 x -> x ≠ j2 /\ x ≠ j3 := fun x q => ⟨fun e => (by have := f1 x q; rw [e, g2] at this; cases this), fun e => (by have := f1 x q; rw [e, g3] at this; cases this)⟩
 have fh1 : ∀ x, S1 x -> hget h x = none := fun x q => s0.none' (f1 x q)
 have g1 := t1 _ _ g1
 have g2 := t1 _ _ g2
 have g3 := t1 _ _ g3
 have s0 := s0.trans t1
 have on1 := u1.one
 have vcw1 := vc1 on1
 obtain ⟨N1, wt1, g3', fr1⟩ := bst (vs := [w1]) (cs' := cRec ⟨d.kind, d.stamp, d.try_, d.what, zRec.slots, zRec.pairs⟩ w1 (.slice none 0 0)) (o := 4) g3 (by show 4 + 1 <= 6; omega) rfl
 have g3 := g3'
 have g1 := (fr1 j1 m.2.1).trans g1
 have g2 := (fr1 j2 m.2.2.1).trans g2
 have s0 : Tk.Sub h N1 := fun x o e => by rw [fr1 x (fun c => by subst c; rw [n3.2.2] at e; cases e)]; exact s0 _ _ e
 have u1 := u1.frame fun x q => fr1 x (ne1 x q).2
 simp only [wK, seval, wRec, wt1, on1, vcw1]
 have cl : hcel N1 j1 5 = some v2 := qE g1 rfl
 try simp only [wK, seval, wRec, cl]
 refine qBU (r2.sub s0) (by have := hx.p; unfold lim at this; omega) fun M2 w2 S2 t2 u2 f2 => ?_
 have ne2 : ∀ x, S2 x -> x ≠ j2 /\ x ≠ j3 := fun x q => ⟨fun e => (by have := f2 x q; rw [e, g2] at this; cases this), fun e => (by have := f2 x q; rw [e, g3] at this; cases this)⟩
 have fh2 : ∀ x, S2 x -> hget h x = none := fun x q => s0.none' (f2 x q)
 have d12 : ∀ x, S1 x -> ¬ S2 x := fun x q q2 => u1.in q (f2 x q2)
 have u1 := u1.frame fun x q => Sub.eq t2 (u1.in q)
 have g1 := t2 _ _ g1
 have g2 := t2 _ _ g2
 have g3 := t2 _ _ g3
 have s0 := s0.trans t2
 have on2 := u2.one
 have vcw2 := vc1 on2
 obtain ⟨N2, wt2, g3', fr2⟩ := bst (vs := [w2]) (cs' := cRec ⟨d.kind, d.stamp, d.try_, d.what, zRec.slots, zRec.pairs⟩ w1 w2) (o := 5) g3 (by show 5 + 1 <= 6; omega) rfl
 have g3 := g3'
 have g1 := (fr2 j1 m.2.1).trans g1
 have g2 := (fr2 j2 m.2.2.1).trans g2
 have s0 : Tk.Sub h N2 := fun x o e => by rw [fr2 x (fun c => by subst c; rw [n3.2.2] at e; cases e)]; exact s0 _ _ e
 have u1 := u1.frame fun x q => fr2 x (ne1 x q).2
 have u2 := u2.frame fun x q => fr2 x (ne2 x q).2
 simp only [wK, seval, wRec, wt2, on2, vcw2]
 have rd3 : qV N2 j3 0 6 = some (cRec ⟨d.kind, d.stamp, d.try_, d.what, zRec.slots, zRec.pairs⟩ w1 w2) := zD g3 rfl
 have hone : (cRec ⟨d.kind, d.stamp, d.try_, d.what, zRec.slots, zRec.pairs⟩ w1 w2).all vone = true := by simp only [cRec, List.all_cons, List.all_nil, on1, on2]; rfl
 obtain ⟨Z3, wtz, gz, frz⟩ := bst (vs := cRec ⟨d.kind, d.stamp, d.try_, d.what, zRec.slots, zRec.pairs⟩ w1 w2) (cs' := cRec ⟨d.kind, d.stamp, d.try_, d.what, zRec.slots, zRec.pairs⟩ w1 w2) (o := 0) g2 (by show 0 + 6 <= 6; omega) rfl
 have rdz : qV Z3 j2 0 6 = some (cRec ⟨d.kind, d.stamp, d.try_, d.what, zRec.slots, zRec.pairs⟩ w1 w2) := zD gz rfl
 simp only [wK, seval, wRec, rd3, wtz, hone]
 try simp only [wK, seval, wRec, rdz]
 have u1 := u1.frame fun x q => frz x (ne1 x q).1
 have u2 := u2.frame fun x q => frz x (ne2 x q).1
 exact dP.of (k Z3 w1 w2 (fun x => S1 x ∨ S2 x) (fun x o e => by rw [frz x (fun c => by subst c; rw [n2.2] at e; cases e)]; exact s0 _ _ e) ⟨w1, w2, S1, S2, rfl, u1, u2, d12, fun _ => Iff.rfl⟩ fun x q => by
  rcases q with q | q
  ·exact fh1 x q
  ·exact fh2 x q)
theorem zEX {h : H} {a : Value} {l : List DRec} (r : rIRs h (nRec h) 6 a l) (hl : l.length <= 1048576) (hb : ∀ d ∈ l, bRec d) {R : Ending -> H -> Prop} (k : ∀ M' v S, Tk.Sub h M' -> dR 137 WRec 6 M' v l S -> (∀ x, S x -> hget h x = none) -> R (.returned v) M') :
  HCalls Tryz.prog 100 #[a] h R := by
 refine qD lite (args := [a]) Tryz.func100 ?_
 conv => arg 2; cbv
 rw [qR]
 have z1 := vR
 try simp only [str] at z1
 simp only [wK, seval, r.len, str, z1]
 refine ⟨⟨by omega, by omega, by omega, by omega⟩, qC fun j hj => ?_⟩
 simp only [wK, seval]
 obtain ⟨V, hV⟩ : ∃ V, V = Value.slice (some ⟨j, 0, none⟩) l.length l.length := ⟨_, rfl⟩
 obtain ⟨M0, hM0⟩ : ∃ M0, M0 = (j, blk (zrep (cRec zRec (.slice none 0 0) (.slice none 0 0)) l.length) 137) :: h := ⟨_, rfl⟩
 have D0 : dRb 137 WRec 6 M0 (List.replicate l.length zRec) (fun x => x = j) j (List.replicate l.length (cRec zRec (.slice none 0 0) (.slice none 0 0))) [] (fun _ _ => False) := by
  refine ⟨by rw [hM0, List.append_nil]; exact qG _ _ _, by simp, fun c hc => by rw [List.eq_of_mem_replicate hc]; rfl, fun i h1 h2 => ?_, fun _ _ q => q, fun _ _ _ _ _ _ q => q.elim, fun x => by simp⟩
  simp only [List.getElem_replicate]
  exact ⟨_, _, _, _, rfl, dL.nil, dL.nil, fun _ q => q.elim, fun _ => by simp⟩
 have d0 : dR 137 WRec 6 M0 V (l.take 0 ++ (List.replicate l.length zRec).drop 0) (fun x => x = j) := by
  have hr : (List.replicate l.length zRec).length = l.length := by simp
  refine .inr ⟨j, l.length, List.replicate l.length (cRec zRec (.slice none 0 0) (.slice none 0 0)), [], fun _ _ => False, by simp only [List.take_zero, List.nil_append, List.drop_zero, hr]; exact hV, by simp, ?_, D0⟩
  rw [List.append_nil, wE (sz := 6) (fun c hc => by rw [List.eq_of_mem_replicate hc]; rfl)]; simp
 rw [<- hV, <- hM0]
 refine qP [4] (fun n vs M' => ∃ (i : Nat) (S : Nat -> Prop), vs = [.int .i64 i] /\ Tk.Sub h M' /\ dR 137 WRec 6 M' V (l.take i ++ (List.replicate l.length zRec).drop i) S /\ (∀ x, S x -> hget h x = none) /\ i <= l.length /\ n = l.length - i) l.length rfl
  ⟨0, _, rfl, by rw [hM0]; exact Sub.cons hj (Sub.refl _), d0, fun x e => e ▸ hj, by omega, rfl⟩ ?_
 rintro n f M' ⟨i, S, hv, sM, hd, hfr, hi, rfl⟩
 simp only [lm4] at hv
 simp only [wK, seval, wr, hv, r.len]
 refine qF (fun c1 => ?_) fun c1 => ?_
 ·have hi2 : i < l.length := by omega
  obtain ⟨b1, o1, cs1, hx1, e1, v1, v2, rfl, q1, q2⟩ := (r.sub sM fun _ _ q => nRec.sub sM q).at hi2
  simp only [wK, seval, hx1, e1]
  refine toRec_c q1 q2 (hb _ (List.getElem_mem hi2)) fun M2 w1 w2 T s2 wn fn => ?_
  have hsame : ∀ x, S x -> hget M2 x = hget M' x := fun x q => Sub.eq s2 (hd.in WRec.in q)
  have hdj : ∀ x, T x -> ¬ S x := fun x q q2 => hd.in WRec.in q2 (fn x q)
  have hd2 := hd.frame WRec.fr hsame
  rcases hd2 with ⟨_, e0, _⟩ | ⟨b, cap, css, sp, Ss, hv0, hc, hs, D⟩
  ·have := congrArg List.length e0
   rw [List.length_append, List.length_take, List.length_drop, List.length_replicate] at this
   simp at this; omega
  have hset := xZ hi2 (by simp : (List.replicate l.length zRec).length = l.length)
  have hll : (l.take i ++ (List.replicate l.length zRec).drop i).length = l.length := by rw [List.length_append, List.length_take, List.length_drop, List.length_replicate]; omega
  have hiL : i < (l.take i ++ (List.replicate l.length zRec).drop i).length := by omega
  obtain ⟨A, B, hAB, hA, hset2⟩ := D.split hiL
  have hx := jC (sz := 6) hv0 hiL
  have hget0 : hget M2 b = some (blk (A ++ (css[i]'(by rw [D.len]; exact hiL) ++ B)) 137) := by rw [D.get, hAB]
  have hcl : (css[i]'(by rw [D.len]; exact hiL)).length = 6 := D.sz _ (List.getElem_mem _)
  have wt : zQ M2 b (i * 6) (cRec l[i] w1 w2) = some (slot M2 b 137 A B (cRec l[i] w1 w2)) := by
   have := uZ (j := 0) (e := 137) (B := B) (vs := cRec l[i] w1 w2) hget0 hA (by rw [hcl]; exact Nat.le_refl _)
   rw [vG hget0] at this
   have h2 := yW (x := cRec l[i] w1 w2) (y := css[i]'(by rw [D.len]; exact hiL)) (by rw [hcl]; rfl)
   rw [h2] at this
   exact this
  have hone : (cRec l[i] w1 w2).all vone = true := WRec.one wn
  simp only [wK, seval, hx, wt, hone, wRec]
  simp (disch := omega) only [wK, seval, qK]
  have fb : ∀ x, x ≠ b -> hget (slot M2 b 137 A B (cRec l[i] w1 w2)) x = hget M2 x := fun x e => jA e
  have hbS : S b := (D.dom b).2 (.inl rfl)
  refine ⟨l.length - (i + 1), by omega, _, .refl _, i + 1, (fun x => x = b ∨ ∃ j, j < ((l.take i ++ (List.replicate l.length zRec).drop i).set i l[i]).length /\ (if j = i then T else Ss j) x), by simp, fun x o e => ?_, .inr ⟨b, cap, css.set i (cRec l[i] w1 w2), sp, (fun j => if j = i then T else Ss j), ?_, ?_, ?_, ?_⟩, ?_, by omega, rfl⟩
  ·rw [fb x (fun c => by subst c; rw [hfr _ hbS] at e; cases e)]; exact s2 _ _ (sM _ _ e)
  ·rw [<- hset, List.length_set]; exact hv0
  ·rw [<- hset, List.length_set]; exact hc
  ·rw [hset2 _ rfl, <- hs, hAB]; simp only [List.length_append, hcl]; rfl
  ·rw [<- hset]
   exact D.grow WRec.fr hiL rfl (by rw [hset2 _ rfl]; exact vL hget0) (WRec.fr _ _ _ _ _ (fun x q => fb x fun e => hdj x q (e ▸ hbS)) wn) hdj fun x _ e => fb x e
  ·rintro x (e | ⟨j, hj, q⟩)
   ·exact e ▸ hfr _ hbS
   ·by_cases e : j = i
    ·rw [if_pos e] at q; exact sM.none' (fn x q)
    ·rw [if_neg e] at q
     rw [List.length_set] at hj
     exact hfr x ((D.dom x).2 (.inr ⟨j, hj, q⟩))
 ·have hi' : i = l.length := by omega
  subst hi'
  rw [List.take_length, List.drop_of_length_le (by simp), List.append_nil] at hd
  exact .of (k M' V S sM hd hfr)
theorem zEZ {h : H} {d : DLock} {v1 v2 : Value} (r1 : rIn h zE 4 v1 d.held) (r2 : rIn h zE 4 v2 d.waits) (hx : bLock d) {R : Ending -> H -> Prop}
  (k : ∀ M' w1 w2 S, Tk.Sub h M' -> WLock M' (zP d w1 w2) d S -> (∀ x, S x -> hget h x = none) -> R (.returned (.agg (zP d w1 w2).toArray)) M') : HCalls Tryz.prog 140 #[.agg (zP d v1 v2).toArray] h R := by
 refine qD lite (args := [.agg (zP d v1 v2).toArray]) Tryz.func140 ?_
 conv => arg 2; cbv
 rw [qR]
 have z1 := qAY
 try simp only [str] at z1
 simp only [wK, seval, xN, str, z1]
 refine qC (o := blk (zP d v1 v2) 221) fun j1 h1 => ?_
 simp only [wK, seval, xN, str, z1]
 refine qC (o := blk (zP zLock (.slice none 0 0) (.slice none 0 0)) 81) fun j2 h2 => ?_
 simp only [wK, seval, xN, str, z1]
 refine qC (o := blk (zP zLock (.slice none 0 0) (.slice none 0 0)) 81) fun j3 h3 => ?_
 have n2 := h2
 have n3 := h3
 simp only [subs] at n2 n3
 have m : j1 ≠ j2 /\ j1 ≠ j3 /\ j2 ≠ j3 /\ j2 ≠ j1 /\ j3 ≠ j1 /\ j3 ≠ j2 := by refine ⟨?_, ?_, ?_, ?_, ?_, ?_⟩ <;> simp_all [Ne, eq_comm]
 try simp only [wK, seval, xN, zA, z1, m]
 obtain ⟨M0, hM0⟩ : ∃ M0, M0 = (j3, blk (zP ⟨d.slot, zLock.held, zLock.waits⟩ (.slice none 0 0) (.slice none 0 0)) 81) :: (j2, blk (zP zLock (.slice none 0 0) (.slice none 0 0)) 81) :: (j1, blk (zP d v1 v2) 221) :: h := ⟨_, rfl⟩
 have s0 : Tk.Sub h M0 := by rw [hM0]; (repeat' first | exact Sub.refl _ | exact Sub.nil _ | assumption | refine Sub.both ?_ ?_ | refine Sub.cons_of (by simp only [subs, n2, n3, h1, m]) ?_ | exact Sub.left _ _ | refine Sub.app (by simp only [subs, n2, n3, h1, m]) ?_ | refine Sub.cons (by simp only [subs, n2, n3, h1, m]) ?_)
 have g1 : hget M0 j1 = some (blk (zP d v1 v2) 221) := by rw [hM0]; simp only [mem, m, ne_eq, not_false_eq_true]
 have g2 : hget M0 j2 = some (blk (zP zLock (.slice none 0 0) (.slice none 0 0)) 81) := by rw [hM0]; simp only [mem, m, ne_eq, not_false_eq_true]
 have g3 : hget M0 j3 = some (blk (zP ⟨d.slot, zLock.held, zLock.waits⟩ (.slice none 0 0) (.slice none 0 0)) 81) := by rw [hM0]; simp only [mem]
 rw [<- hM0]
 have cl : hcel M0 j1 1 = some v1 := qE g1 rfl
 try simp only [wK, seval, xN, cl]
 refine qLO (r1.sub s0) (by have := hx.h; unfold lim at this; omega) fun M1 w1 S1 t1 u1 f1 => ?_
 have ne1 : ∀ x, S1 x -> x ≠ j2 /\ x ≠ j3 := fun x q => ⟨fun e => (by have := f1 x q; rw [e, g2] at this; cases this), fun e => (by have := f1 x q; rw [e, g3] at this; cases this)⟩
 have fh1 : ∀ x, S1 x -> hget h x = none := fun x q => s0.none' (f1 x q)
 have g1 := t1 _ _ g1
 have g2 := t1 _ _ g2
 have g3 := t1 _ _ g3
 have s0 := s0.trans t1
 have on1 := u1.one
 have vcw1 := vc1 on1
 obtain ⟨N1, wt1, g3', fr1⟩ := bst (vs := [w1]) (cs' := zP ⟨d.slot, zLock.held, zLock.waits⟩ w1 (.slice none 0 0)) (o := 1) g3 (by show 1 + 1 <= 3; omega) rfl
 have g3 := g3'
 have g1 := (fr1 j1 m.2.1).trans g1
 have g2 := (fr1 j2 m.2.2.1).trans g2
 have s0 : Tk.Sub h N1 := fun x o e => by rw [fr1 x (fun c => by subst c; rw [n3.2.2] at e; cases e)]; exact s0 _ _ e
 have u1 := u1.frame fun x q => fr1 x (ne1 x q).2
 simp only [wK, seval, xN, wt1, on1, vcw1]
 have cl : hcel N1 j1 2 = some v2 := qE g1 rfl
 try simp only [wK, seval, xN, cl]
 refine qLO (r2.sub s0) (by have := hx.w; unfold lim at this; omega) fun M2 w2 S2 t2 u2 f2 => ?_
 have ne2 : ∀ x, S2 x -> x ≠ j2 /\ x ≠ j3 := fun x q => ⟨fun e => (by have := f2 x q; rw [e, g2] at this; cases this), fun e => (by have := f2 x q; rw [e, g3] at this; cases this)⟩
 have fh2 : ∀ x, S2 x -> hget h x = none := fun x q => s0.none' (f2 x q)
 have d12 : ∀ x, S1 x -> ¬ S2 x := fun x q q2 => u1.in q (f2 x q2)
 have u1 := u1.frame fun x q => Sub.eq t2 (u1.in q)
 have g1 := t2 _ _ g1
 have g2 := t2 _ _ g2
 have g3 := t2 _ _ g3
 have s0 := s0.trans t2
 have on2 := u2.one
 have vcw2 := vc1 on2
 obtain ⟨N2, wt2, g3', fr2⟩ := bst (vs := [w2]) (cs' := zP ⟨d.slot, zLock.held, zLock.waits⟩ w1 w2) (o := 2) g3 (by show 2 + 1 <= 3; omega) rfl
 have g3 := g3'
 have g1 := (fr2 j1 m.2.1).trans g1
 have g2 := (fr2 j2 m.2.2.1).trans g2
 have s0 : Tk.Sub h N2 := fun x o e => by rw [fr2 x (fun c => by subst c; rw [n3.2.2] at e; cases e)]; exact s0 _ _ e
 have u1 := u1.frame fun x q => fr2 x (ne1 x q).2
 have u2 := u2.frame fun x q => fr2 x (ne2 x q).2
 simp only [wK, seval, xN, wt2, on2, vcw2]
 have rd3 : qV N2 j3 0 3 = some (zP ⟨d.slot, zLock.held, zLock.waits⟩ w1 w2) := zD g3 rfl
 have hone : (zP ⟨d.slot, zLock.held, zLock.waits⟩ w1 w2).all vone = true := by simp only [zP, List.all_cons, List.all_nil, on1, on2]; rfl
 obtain ⟨Z3, wtz, gz, frz⟩ := bst (vs := zP ⟨d.slot, zLock.held, zLock.waits⟩ w1 w2) (cs' := zP ⟨d.slot, zLock.held, zLock.waits⟩ w1 w2) (o := 0) g2 (by show 0 + 3 <= 3; omega) rfl
 have rdz : qV Z3 j2 0 3 = some (zP ⟨d.slot, zLock.held, zLock.waits⟩ w1 w2) := zD gz rfl
 simp only [wK, seval, xN, rd3, wtz, hone]
 try simp only [wK, seval, xN, rdz]
 have u1 := u1.frame fun x q => frz x (ne1 x q).1
 have u2 := u2.frame fun x q => frz x (ne2 x q).1
 exact dP.of (k Z3 w1 w2 (fun x => S1 x ∨ S2 x) (fun x o e => by rw [frz x (fun c => by subst c; rw [n2.2] at e; cases e)]; exact s0 _ _ e) ⟨w1, w2, S1, S2, rfl, u1, u2, d12, fun _ => Iff.rfl⟩ fun x q => by
  rcases q with q | q
  ·exact fh1 x q
  ·exact fh2 x q)
theorem zAD {h : H} {a : Value} {l : List DLock} (r : rIRs h (nLock h) 3 a l) (hl : l.length <= 1048576) (hb : ∀ d ∈ l, bLock d) {R : Ending -> H -> Prop} (k : ∀ M' v S, Tk.Sub h M' -> dR 81 WLock 3 M' v l S -> (∀ x, S x -> hget h x = none) -> R (.returned v) M') :
  HCalls Tryz.prog 101 #[a] h R := by
 refine qD lite (args := [a]) Tryz.func101 ?_
 conv => arg 2; cbv
 rw [qR]
 have z1 := qAY
 try simp only [str] at z1
 simp only [wK, seval, r.len, str, z1]
 refine ⟨⟨by omega, by omega, by omega, by omega⟩, qC fun j hj => ?_⟩
 simp only [wK, seval]
 obtain ⟨V, hV⟩ : ∃ V, V = Value.slice (some ⟨j, 0, none⟩) l.length l.length := ⟨_, rfl⟩
 obtain ⟨M0, hM0⟩ : ∃ M0, M0 = (j, blk (zrep (zP zLock (.slice none 0 0) (.slice none 0 0)) l.length) 81) :: h := ⟨_, rfl⟩
 have D0 : dRb 81 WLock 3 M0 (List.replicate l.length zLock) (fun x => x = j) j (List.replicate l.length (zP zLock (.slice none 0 0) (.slice none 0 0))) [] (fun _ _ => False) := by
  refine ⟨by rw [hM0, List.append_nil]; exact qG _ _ _, by simp, fun c hc => by rw [List.eq_of_mem_replicate hc]; rfl, fun i h1 h2 => ?_, fun _ _ q => q, fun _ _ _ _ _ _ q => q.elim, fun x => by simp⟩
  simp only [List.getElem_replicate]
  exact ⟨_, _, _, _, rfl, dL.nil, dL.nil, fun _ q => q.elim, fun _ => by simp⟩
 have d0 : dR 81 WLock 3 M0 V (l.take 0 ++ (List.replicate l.length zLock).drop 0) (fun x => x = j) := by
  have hr : (List.replicate l.length zLock).length = l.length := by simp
  refine .inr ⟨j, l.length, List.replicate l.length (zP zLock (.slice none 0 0) (.slice none 0 0)), [], fun _ _ => False, by simp only [List.take_zero, List.nil_append, List.drop_zero, hr]; exact hV, by simp, ?_, D0⟩
  rw [List.append_nil, wE (sz := 3) (fun c hc => by rw [List.eq_of_mem_replicate hc]; rfl)]; simp
 rw [<- hV, <- hM0]
 refine qP [4] (fun n vs M' => ∃ (i : Nat) (S : Nat -> Prop), vs = [.int .i64 i] /\ Tk.Sub h M' /\ dR 81 WLock 3 M' V (l.take i ++ (List.replicate l.length zLock).drop i) S /\ (∀ x, S x -> hget h x = none) /\ i <= l.length /\ n = l.length - i) l.length rfl
  ⟨0, _, rfl, by rw [hM0]; exact Sub.cons hj (Sub.refl _), d0, fun x e => e ▸ hj, by omega, rfl⟩ ?_
 rintro n f M' ⟨i, S, hv, sM, hd, hfr, hi, rfl⟩
 simp only [lm4] at hv
 simp only [wK, seval, wr, hv, r.len]
 refine qF (fun c1 => ?_) fun c1 => ?_
 ·have hi2 : i < l.length := by omega
  obtain ⟨b1, o1, cs1, hx1, e1, v1, v2, rfl, q1, q2⟩ := (r.sub sM fun _ _ q => nLock.sub sM q).at hi2
  simp only [wK, seval, hx1, e1]
  refine zEZ q1 q2 (hb _ (List.getElem_mem hi2)) fun M2 w1 w2 T s2 wn fn => ?_
  have hsame : ∀ x, S x -> hget M2 x = hget M' x := fun x q => Sub.eq s2 (hd.in WLock.in q)
  have hdj : ∀ x, T x -> ¬ S x := fun x q q2 => hd.in WLock.in q2 (fn x q)
  have hd2 := hd.frame WLock.fr hsame
  rcases hd2 with ⟨_, e0, _⟩ | ⟨b, cap, css, sp, Ss, hv0, hc, hs, D⟩
  ·have := congrArg List.length e0
   rw [List.length_append, List.length_take, List.length_drop, List.length_replicate] at this
   simp at this; omega
  have hset := xZ hi2 (by simp : (List.replicate l.length zLock).length = l.length)
  have hll : (l.take i ++ (List.replicate l.length zLock).drop i).length = l.length := by rw [List.length_append, List.length_take, List.length_drop, List.length_replicate]; omega
  have hiL : i < (l.take i ++ (List.replicate l.length zLock).drop i).length := by omega
  obtain ⟨A, B, hAB, hA, hset2⟩ := D.split hiL
  have hx := jC (sz := 3) hv0 hiL
  have hget0 : hget M2 b = some (blk (A ++ (css[i]'(by rw [D.len]; exact hiL) ++ B)) 81) := by rw [D.get, hAB]
  have hcl : (css[i]'(by rw [D.len]; exact hiL)).length = 3 := D.sz _ (List.getElem_mem _)
  have wt : zQ M2 b (i * 3) (zP l[i] w1 w2) = some (slot M2 b 81 A B (zP l[i] w1 w2)) := by
   have := uZ (j := 0) (e := 81) (B := B) (vs := zP l[i] w1 w2) hget0 hA (by rw [hcl]; exact Nat.le_refl _)
   rw [vG hget0] at this
   have h2 := yW (x := zP l[i] w1 w2) (y := css[i]'(by rw [D.len]; exact hiL)) (by rw [hcl]; rfl)
   rw [h2] at this
   exact this
  have hone : (zP l[i] w1 w2).all vone = true := WLock.one wn
  simp only [wK, seval, hx, wt, hone, xN]
  simp (disch := omega) only [wK, seval, qK]
  have fb : ∀ x, x ≠ b -> hget (slot M2 b 81 A B (zP l[i] w1 w2)) x = hget M2 x := fun x e => jA e
  have hbS : S b := (D.dom b).2 (.inl rfl)
  refine ⟨l.length - (i + 1), by omega, _, .refl _, i + 1, (fun x => x = b ∨ ∃ j, j < ((l.take i ++ (List.replicate l.length zLock).drop i).set i l[i]).length /\ (if j = i then T else Ss j) x), by simp, fun x o e => ?_, .inr ⟨b, cap, css.set i (zP l[i] w1 w2), sp, (fun j => if j = i then T else Ss j), ?_, ?_, ?_, ?_⟩, ?_, by omega, rfl⟩
  ·rw [fb x (fun c => by subst c; rw [hfr _ hbS] at e; cases e)]; exact s2 _ _ (sM _ _ e)
  ·rw [<- hset, List.length_set]; exact hv0
  ·rw [<- hset, List.length_set]; exact hc
  ·rw [hset2 _ rfl, <- hs, hAB]; simp only [List.length_append, hcl]; rfl
  ·rw [<- hset]
   exact D.grow WLock.fr hiL rfl (by rw [hset2 _ rfl]; exact vL hget0) (WLock.fr _ _ _ _ _ (fun x q => fb x fun e => hdj x q (e ▸ hbS)) wn) hdj fun x _ e => fb x e
  ·rintro x (e | ⟨j, hj, q⟩)
   ·exact e ▸ hfr _ hbS
   ·by_cases e : j = i
    ·rw [if_pos e] at q; exact sM.none' (fn x q)
    ·rw [if_neg e] at q
     rw [List.length_set] at hj
     exact hfr x ((D.dom x).2 (.inr ⟨j, hj, q⟩))
 ·have hi' : i = l.length := by omega
  subst hi'
  rw [List.take_length, List.drop_of_length_le (by simp), List.append_nil] at hd
  exact .of (k M' V S sM hd hfr)
theorem zES {h : H} {d : DWork} {v1 : Value} (r1 : rIn h eI 1 v1 d.slots) (hx : kW d) {R : Ending -> H -> Prop}
  (k : ∀ M' w1 S, Tk.Sub h M' -> WWork M' (zT d w1) d S -> (∀ x, S x -> hget h x = none) -> R (.returned (.agg (zT d w1).toArray)) M') : HCalls Tryz.prog 141 #[.agg (zT d v1).toArray] h R := by
 refine qD lite (args := [.agg (zT d v1).toArray]) Tryz.func141 ?_
 conv => arg 2; cbv
 rw [qR]
 have z1 := qHP
 try simp only [str] at z1
 simp only [wK, seval, vV, str, z1]
 refine qC (o := blk (zT d v1) 223) fun j1 h1 => ?_
 simp only [wK, seval, vV, str, z1]
 refine qC (o := blk (zT zWork (.slice none 0 0)) 168) fun j2 h2 => ?_
 simp only [wK, seval, vV, str, z1]
 refine qC (o := blk (zT zWork (.slice none 0 0)) 168) fun j3 h3 => ?_
 have n2 := h2
 have n3 := h3
 simp only [subs] at n2 n3
 have m : j1 ≠ j2 /\ j1 ≠ j3 /\ j2 ≠ j3 /\ j2 ≠ j1 /\ j3 ≠ j1 /\ j3 ≠ j2 := by refine ⟨?_, ?_, ?_, ?_, ?_, ?_⟩ <;> simp_all [Ne, eq_comm]
 try simp only [wK, seval, vV, zA, z1, m]
 obtain ⟨M0, hM0⟩ : ∃ M0, M0 = (j3, blk (zT ⟨d.stamp, d.try_, d.what, zWork.slots⟩ (.slice none 0 0)) 168) :: (j2, blk (zT zWork (.slice none 0 0)) 168) :: (j1, blk (zT d v1) 223) :: h := ⟨_, rfl⟩
 have s0 : Tk.Sub h M0 := by rw [hM0]; (repeat' first | exact Sub.refl _ | exact Sub.nil _ | assumption | refine Sub.both ?_ ?_ | refine Sub.cons_of (by simp only [subs, n2, n3, h1, m]) ?_ | exact Sub.left _ _ | refine Sub.app (by simp only [subs, n2, n3, h1, m]) ?_ | refine Sub.cons (by simp only [subs, n2, n3, h1, m]) ?_)
 have g1 : hget M0 j1 = some (blk (zT d v1) 223) := by rw [hM0]; simp only [mem, m, ne_eq, not_false_eq_true]
 have g2 : hget M0 j2 = some (blk (zT zWork (.slice none 0 0)) 168) := by rw [hM0]; simp only [mem, m, ne_eq, not_false_eq_true]
 have g3 : hget M0 j3 = some (blk (zT ⟨d.stamp, d.try_, d.what, zWork.slots⟩ (.slice none 0 0)) 168) := by rw [hM0]; simp only [mem]
 rw [<- hM0]
 have cl : hcel M0 j1 3 = some v1 := qE g1 rfl
 try simp only [wK, seval, vV, cl]
 refine jL (r1.sub s0) (by have := hx; unfold kW lim at this; omega) fun M1 w1 S1 t1 u1 f1 => ?_
 have ne1 : ∀ x, S1 x -> x ≠ j2 /\ x ≠ j3 := fun x q => ⟨fun e => (by have := f1 x q; rw [e, g2] at this; cases this), fun e => (by have := f1 x q; rw [e, g3] at this; cases this)⟩
 have fh1 : ∀ x, S1 x -> hget h x = none := fun x q => s0.none' (f1 x q)
 have g1 := t1 _ _ g1
 have g2 := t1 _ _ g2
 have g3 := t1 _ _ g3
 have s0 := s0.trans t1
 have on1 := u1.one
 have vcw1 := vc1 on1
 obtain ⟨N1, wt1, g3', fr1⟩ := bst (vs := [w1]) (cs' := zT ⟨d.stamp, d.try_, d.what, zWork.slots⟩ w1) (o := 3) g3 (by show 3 + 1 <= 4; omega) rfl
 have g3 := g3'
 have g1 := (fr1 j1 m.2.1).trans g1
 have g2 := (fr1 j2 m.2.2.1).trans g2
 have s0 : Tk.Sub h N1 := fun x o e => by rw [fr1 x (fun c => by subst c; rw [n3.2.2] at e; cases e)]; exact s0 _ _ e
 have u1 := u1.frame fun x q => fr1 x (ne1 x q).2
 simp only [wK, seval, vV, wt1, on1, vcw1]
 have rd3 : qV N1 j3 0 4 = some (zT ⟨d.stamp, d.try_, d.what, zWork.slots⟩ w1) := zD g3 rfl
 have hone : (zT ⟨d.stamp, d.try_, d.what, zWork.slots⟩ w1).all vone = true := by simp only [zT, List.all_cons, List.all_nil, on1]; rfl
 obtain ⟨Z3, wtz, gz, frz⟩ := bst (vs := zT ⟨d.stamp, d.try_, d.what, zWork.slots⟩ w1) (cs' := zT ⟨d.stamp, d.try_, d.what, zWork.slots⟩ w1) (o := 0) g2 (by show 0 + 4 <= 4; omega) rfl
 have rdz : qV Z3 j2 0 4 = some (zT ⟨d.stamp, d.try_, d.what, zWork.slots⟩ w1) := zD gz rfl
 simp only [wK, seval, vV, rd3, wtz, hone]
 try simp only [wK, seval, vV, rdz]
 have u1 := u1.frame fun x q => frz x (ne1 x q).1
 exact dP.of (k Z3 w1 S1 (fun x o e => by rw [frz x (fun c => by subst c; rw [n2.2] at e; cases e)]; exact s0 _ _ e) ⟨w1, rfl, u1⟩ fun x q => fh1 x q)
theorem qZZ {h : H} {a : Value} {l : List DWork} (r : rIRs h (nWork h) 4 a l) (hl : l.length <= 1048576) (hb : ∀ d ∈ l, kW d) {R : Ending -> H -> Prop} (k : ∀ M' v S, Tk.Sub h M' -> dR 168 WWork 4 M' v l S -> (∀ x, S x -> hget h x = none) -> R (.returned v) M') :
  HCalls Tryz.prog 102 #[a] h R := by
 refine qD lite (args := [a]) Tryz.func102 ?_
 conv => arg 2; cbv
 rw [qR]
 have z1 := qHP
 try simp only [str] at z1
 simp only [wK, seval, r.len, str, z1]
 refine ⟨⟨by omega, by omega, by omega, by omega⟩, qC fun j hj => ?_⟩
 simp only [wK, seval]
 obtain ⟨V, hV⟩ : ∃ V, V = Value.slice (some ⟨j, 0, none⟩) l.length l.length := ⟨_, rfl⟩
 obtain ⟨M0, hM0⟩ : ∃ M0, M0 = (j, blk (zrep (zT zWork (.slice none 0 0)) l.length) 168) :: h := ⟨_, rfl⟩
 have D0 : dRb 168 WWork 4 M0 (List.replicate l.length zWork) (fun x => x = j) j (List.replicate l.length (zT zWork (.slice none 0 0))) [] (fun _ _ => False) := by
  refine ⟨by rw [hM0, List.append_nil]; exact qG _ _ _, by simp, fun c hc => by rw [List.eq_of_mem_replicate hc]; rfl, fun i h1 h2 => ?_, fun _ _ q => q, fun _ _ _ _ _ _ q => q.elim, fun x => by simp⟩
  simp only [List.getElem_replicate]
  exact ⟨_, rfl, dL.nil⟩
 have d0 : dR 168 WWork 4 M0 V (l.take 0 ++ (List.replicate l.length zWork).drop 0) (fun x => x = j) := by
  have hr : (List.replicate l.length zWork).length = l.length := by simp
  refine .inr ⟨j, l.length, List.replicate l.length (zT zWork (.slice none 0 0)), [], fun _ _ => False, by simp only [List.take_zero, List.nil_append, List.drop_zero, hr]; exact hV, by simp, ?_, D0⟩
  rw [List.append_nil, wE (sz := 4) (fun c hc => by rw [List.eq_of_mem_replicate hc]; rfl)]; simp
 rw [<- hV, <- hM0]
 refine qP [4] (fun n vs M' => ∃ (i : Nat) (S : Nat -> Prop), vs = [.int .i64 i] /\ Tk.Sub h M' /\ dR 168 WWork 4 M' V (l.take i ++ (List.replicate l.length zWork).drop i) S /\ (∀ x, S x -> hget h x = none) /\ i <= l.length /\ n = l.length - i) l.length rfl
  ⟨0, _, rfl, by rw [hM0]; exact Sub.cons hj (Sub.refl _), d0, fun x e => e ▸ hj, by omega, rfl⟩ ?_
 rintro n f M' ⟨i, S, hv, sM, hd, hfr, hi, rfl⟩
 simp only [lm4] at hv
 simp only [wK, seval, wr, hv, r.len]
 refine qF (fun c1 => ?_) fun c1 => ?_
 ·have hi2 : i < l.length := by omega
  obtain ⟨b1, o1, cs1, hx1, e1, v1, rfl, q1⟩ := (r.sub sM fun _ _ q => nWork.sub sM q).at hi2
  simp only [wK, seval, hx1, e1]
  refine zES q1 (hb _ (List.getElem_mem hi2)) fun M2 w1 T s2 wn fn => ?_
  have hsame : ∀ x, S x -> hget M2 x = hget M' x := fun x q => Sub.eq s2 (hd.in WWork.in q)
  have hdj : ∀ x, T x -> ¬ S x := fun x q q2 => hd.in WWork.in q2 (fn x q)
  have hd2 := hd.frame WWork.fr hsame
  rcases hd2 with ⟨_, e0, _⟩ | ⟨b, cap, css, sp, Ss, hv0, hc, hs, D⟩
  ·have := congrArg List.length e0
   rw [List.length_append, List.length_take, List.length_drop, List.length_replicate] at this
   simp at this; omega
  have hset := xZ hi2 (by simp : (List.replicate l.length zWork).length = l.length)
  have hll : (l.take i ++ (List.replicate l.length zWork).drop i).length = l.length := by rw [List.length_append, List.length_take, List.length_drop, List.length_replicate]; omega
  have hiL : i < (l.take i ++ (List.replicate l.length zWork).drop i).length := by omega
  obtain ⟨A, B, hAB, hA, hset2⟩ := D.split hiL
  have hx := jC (sz := 4) hv0 hiL
  have hget0 : hget M2 b = some (blk (A ++ (css[i]'(by rw [D.len]; exact hiL) ++ B)) 168) := by rw [D.get, hAB]
  have hcl : (css[i]'(by rw [D.len]; exact hiL)).length = 4 := D.sz _ (List.getElem_mem _)
  have wt : zQ M2 b (i * 4) (zT l[i] w1) = some (slot M2 b 168 A B (zT l[i] w1)) := by
   have := uZ (j := 0) (e := 168) (B := B) (vs := zT l[i] w1) hget0 hA (by rw [hcl]; exact Nat.le_refl _)
   rw [vG hget0] at this
   have h2 := yW (x := zT l[i] w1) (y := css[i]'(by rw [D.len]; exact hiL)) (by rw [hcl]; rfl)
   rw [h2] at this
   exact this
  have hone : (zT l[i] w1).all vone = true := WWork.one wn
  simp only [wK, seval, hx, wt, hone, vV]
  simp (disch := omega) only [wK, seval, qK]
  have fb : ∀ x, x ≠ b -> hget (slot M2 b 168 A B (zT l[i] w1)) x = hget M2 x := fun x e => jA e
  have hbS : S b := (D.dom b).2 (.inl rfl)
  refine ⟨l.length - (i + 1), by omega, _, .refl _, i + 1, (fun x => x = b ∨ ∃ j, j < ((l.take i ++ (List.replicate l.length zWork).drop i).set i l[i]).length /\ (if j = i then T else Ss j) x), by simp, fun x o e => ?_, .inr ⟨b, cap, css.set i (zT l[i] w1), sp, (fun j => if j = i then T else Ss j), ?_, ?_, ?_, ?_⟩, ?_, by omega, rfl⟩
  ·rw [fb x (fun c => by subst c; rw [hfr _ hbS] at e; cases e)]; exact s2 _ _ (sM _ _ e)
  ·rw [<- hset, List.length_set]; exact hv0
  ·rw [<- hset, List.length_set]; exact hc
  ·rw [hset2 _ rfl, <- hs, hAB]; simp only [List.length_append, hcl]; rfl
  ·rw [<- hset]
   exact D.grow WWork.fr hiL rfl (by rw [hset2 _ rfl]; exact vL hget0) (WWork.fr _ _ _ _ _ (fun x q => fb x fun e => hdj x q (e ▸ hbS)) wn) hdj fun x _ e => fb x e
  ·rintro x (e | ⟨j, hj, q⟩)
   ·exact e ▸ hfr _ hbS
   ·by_cases e : j = i
    ·rw [if_pos e] at q; exact sM.none' (fn x q)
    ·rw [if_neg e] at q
     rw [List.length_set] at hj
     exact hfr x ((D.dom x).2 (.inr ⟨j, hj, q⟩))
 ·have hi' : i = l.length := by omega
  subst hi'
  rw [List.take_length, List.drop_of_length_le (by simp), List.append_nil] at hd
  exact .of (k M' V S sM hd hfr)
theorem zAF {h : H} {d : DHouse} {v1 v2 v3 : Value} (r1 : rIRs h (nRec h) 6 v1 d.log) (r2 : rIRs h (nLock h) 3 v2 d.locks) (r3 : rIRs h (nWork h) 4 v3 d.works) (hx : bHouse d) {R : Ending -> H -> Prop}
  (k : ∀ M' w1 w2 w3 S, Tk.Sub h M' -> WHouseC M' (qT d w1 w2 w3) d S -> (∀ x, S x -> hget h x = none) -> R (.returned (.agg (qT d w1 w2 w3).toArray)) M') : HCalls Tryz.prog 57 #[.agg (qT d v1 v2 v3).toArray] h R := by
 refine qD lite (args := [.agg (qT d v1 v2 v3).toArray]) Tryz.func57 ?_
 conv => arg 2; cbv
 rw [qR]
 have z1 := kL
 try simp only [str] at z1
 simp only [wK, seval, yC, str, z1]
 refine qC (o := blk (qT d v1 v2 v3) 91) fun j1 h1 => ?_
 simp only [wK, seval, yC, str, z1]
 refine qC (o := blk (qT zHouse (.slice none 0 0) (.slice none 0 0) (.slice none 0 0)) 59) fun j2 h2 => ?_
 simp only [wK, seval, yC, str, z1]
 refine qC (o := blk (qT zHouse (.slice none 0 0) (.slice none 0 0) (.slice none 0 0)) 59) fun j3 h3 => ?_
 have n2 := h2
 have n3 := h3
 simp only [subs] at n2 n3
 have m : j1 ≠ j2 /\ j1 ≠ j3 /\ j2 ≠ j3 /\ j2 ≠ j1 /\ j3 ≠ j1 /\ j3 ≠ j2 := by refine ⟨?_, ?_, ?_, ?_, ?_, ?_⟩ <;> simp_all [Ne, eq_comm]
 try simp only [wK, seval, yC, zA, z1, m]
 obtain ⟨M0, hM0⟩ : ∃ M0, M0 = (j3, blk (qT ⟨d.id, d.up, zHouse.log, zHouse.forced, zHouse.locks, zHouse.works⟩ (.slice none 0 0) (.slice none 0 0) (.slice none 0 0)) 59) :: (j2, blk (qT zHouse (.slice none 0 0) (.slice none 0 0) (.slice none 0 0)) 59) :: (j1, blk (qT d v1 v2 v3) 91) :: h := ⟨_, rfl⟩
 have s0 : Tk.Sub h M0 := by rw [hM0]; (repeat' first | exact Sub.refl _ | exact Sub.nil _ | assumption | refine Sub.both ?_ ?_ | refine Sub.cons_of (by simp only [subs, n2, n3, h1, m]) ?_ | exact Sub.left _ _ | refine Sub.app (by simp only [subs, n2, n3, h1, m]) ?_ | refine Sub.cons (by simp only [subs, n2, n3, h1, m]) ?_)
 have g1 : hget M0 j1 = some (blk (qT d v1 v2 v3) 91) := by rw [hM0]; simp only [mem, m, ne_eq, not_false_eq_true]
 have g2 : hget M0 j2 = some (blk (qT zHouse (.slice none 0 0) (.slice none 0 0) (.slice none 0 0)) 59) := by rw [hM0]; simp only [mem, m, ne_eq, not_false_eq_true]
 have g3 : hget M0 j3 = some (blk (qT ⟨d.id, d.up, zHouse.log, zHouse.forced, zHouse.locks, zHouse.works⟩ (.slice none 0 0) (.slice none 0 0) (.slice none 0 0)) 59) := by rw [hM0]; simp only [mem]
 rw [<- hM0]
 have cl : hcel M0 j1 2 = some v1 := qE g1 rfl
 try simp only [wK, seval, yC, cl]
 refine zEX (r1.sub s0 fun _ _ q => nRec.sub s0 q) (by have := hx.log; unfold lim at this; omega) hx.recs fun M1 w1 S1 t1 u1 f1 => ?_
 have ne1 : ∀ x, S1 x -> x ≠ j2 /\ x ≠ j3 := fun x q => ⟨fun e => (by have := f1 x q; rw [e, g2] at this; cases this), fun e => (by have := f1 x q; rw [e, g3] at this; cases this)⟩
 have fh1 : ∀ x, S1 x -> hget h x = none := fun x q => s0.none' (f1 x q)
 have g1 := t1 _ _ g1
 have g2 := t1 _ _ g2
 have g3 := t1 _ _ g3
 have s0 := s0.trans t1
 have on1 := u1.one
 have vcw1 := vc1 on1
 obtain ⟨N1, wt1, g3', fr1⟩ := bst (vs := [w1]) (cs' := qT ⟨d.id, d.up, zHouse.log, zHouse.forced, zHouse.locks, zHouse.works⟩ w1 (.slice none 0 0) (.slice none 0 0)) (o := 2) g3 (by show 2 + 1 <= 6; omega) rfl
 have g3 := g3'
 have g1 := (fr1 j1 m.2.1).trans g1
 have g2 := (fr1 j2 m.2.2.1).trans g2
 have s0 : Tk.Sub h N1 := fun x o e => by rw [fr1 x (fun c => by subst c; rw [n3.2.2] at e; cases e)]; exact s0 _ _ e
 have u1 := u1.frame WRec.fr fun x q => fr1 x (ne1 x q).2
 simp only [wK, seval, yC, wt1, on1, vcw1]
 have cl : hcel N1 j1 3 = some (.int .i64 d.forced) := qE g1 rfl
 obtain ⟨N2, wt2, g3', fr2⟩ := bst (vs := [.int .i64 d.forced]) (cs' := qT ⟨d.id, d.up, zHouse.log, d.forced, zHouse.locks, zHouse.works⟩ w1 (.slice none 0 0) (.slice none 0 0)) (o := 3) g3 (by show 3 + 1 <= 6; omega) rfl
 have g3 := g3'
 have g1 := (fr2 j1 m.2.1).trans g1
 have g2 := (fr2 j2 m.2.2.1).trans g2
 have s0 : Tk.Sub h N2 := fun x o e => by rw [fr2 x (fun c => by subst c; rw [n3.2.2] at e; cases e)]; exact s0 _ _ e
 have u1 := u1.frame WRec.fr fun x q => fr2 x (ne1 x q).2
 simp only [wK, seval, yC, cl, wt2]
 have cl : hcel N2 j1 4 = some v2 := qE g1 rfl
 try simp only [wK, seval, yC, cl]
 refine zAD (r2.sub s0 fun _ _ q => nLock.sub s0 q) (by have := hx.locks; unfold lim at this; omega) hx.lock fun M2 w2 S2 t2 u2 f2 => ?_
 have ne2 : ∀ x, S2 x -> x ≠ j2 /\ x ≠ j3 := fun x q => ⟨fun e => (by have := f2 x q; rw [e, g2] at this; cases this), fun e => (by have := f2 x q; rw [e, g3] at this; cases this)⟩
 have fh2 : ∀ x, S2 x -> hget h x = none := fun x q => s0.none' (f2 x q)
 have d12 : ∀ x, S1 x -> ¬ S2 x := fun x q q2 => u1.in WRec.in q (f2 x q2)
 have u1 := u1.frame WRec.fr fun x q => Sub.eq t2 (u1.in WRec.in q)
 have g1 := t2 _ _ g1
 have g2 := t2 _ _ g2
 have g3 := t2 _ _ g3
 have s0 := s0.trans t2
 have on2 := u2.one
 have vcw2 := vc1 on2
 obtain ⟨N3, wt3, g3', fr3⟩ := bst (vs := [w2]) (cs' := qT ⟨d.id, d.up, zHouse.log, d.forced, zHouse.locks, zHouse.works⟩ w1 w2 (.slice none 0 0)) (o := 4) g3 (by show 4 + 1 <= 6; omega) rfl
 have g3 := g3'
 have g1 := (fr3 j1 m.2.1).trans g1
 have g2 := (fr3 j2 m.2.2.1).trans g2
 have s0 : Tk.Sub h N3 := fun x o e => by rw [fr3 x (fun c => by subst c; rw [n3.2.2] at e; cases e)]; exact s0 _ _ e
 have u1 := u1.frame WRec.fr fun x q => fr3 x (ne1 x q).2
 have u2 := u2.frame WLock.fr fun x q => fr3 x (ne2 x q).2
 simp only [wK, seval, yC, wt3, on2, vcw2]
 have cl : hcel N3 j1 5 = some v3 := qE g1 rfl
 try simp only [wK, seval, yC, cl]
 refine qZZ (r3.sub s0 fun _ _ q => nWork.sub s0 q) (by have := hx.works; unfold lim at this; omega) hx.work fun M3 w3 S3 t3 u3 f3 => ?_
 have ne3 : ∀ x, S3 x -> x ≠ j2 /\ x ≠ j3 := fun x q => ⟨fun e => (by have := f3 x q; rw [e, g2] at this; cases this), fun e => (by have := f3 x q; rw [e, g3] at this; cases this)⟩
 have fh3 : ∀ x, S3 x -> hget h x = none := fun x q => s0.none' (f3 x q)
 have d13 : ∀ x, S1 x -> ¬ S3 x := fun x q q2 => u1.in WRec.in q (f3 x q2)
 have u1 := u1.frame WRec.fr fun x q => Sub.eq t3 (u1.in WRec.in q)
 have d23 : ∀ x, S2 x -> ¬ S3 x := fun x q q2 => u2.in WLock.in q (f3 x q2)
 have u2 := u2.frame WLock.fr fun x q => Sub.eq t3 (u2.in WLock.in q)
 have g1 := t3 _ _ g1
 have g2 := t3 _ _ g2
 have g3 := t3 _ _ g3
 have s0 := s0.trans t3
 have on3 := u3.one
 have vcw3 := vc1 on3
 obtain ⟨N4, wt4, g3', fr4⟩ := bst (vs := [w3]) (cs' := qT ⟨d.id, d.up, zHouse.log, d.forced, zHouse.locks, zHouse.works⟩ w1 w2 w3) (o := 5) g3 (by show 5 + 1 <= 6; omega) rfl
 have g3 := g3'
 have g1 := (fr4 j1 m.2.1).trans g1
 have g2 := (fr4 j2 m.2.2.1).trans g2
 have s0 : Tk.Sub h N4 := fun x o e => by rw [fr4 x (fun c => by subst c; rw [n3.2.2] at e; cases e)]; exact s0 _ _ e
 have u1 := u1.frame WRec.fr fun x q => fr4 x (ne1 x q).2
 have u2 := u2.frame WLock.fr fun x q => fr4 x (ne2 x q).2
 have u3 := u3.frame WWork.fr fun x q => fr4 x (ne3 x q).2
 simp only [wK, seval, yC, wt4, on3, vcw3]
 have rd3 : qV N4 j3 0 6 = some (qT ⟨d.id, d.up, zHouse.log, d.forced, zHouse.locks, zHouse.works⟩ w1 w2 w3) := zD g3 rfl
 have hone : (qT ⟨d.id, d.up, zHouse.log, d.forced, zHouse.locks, zHouse.works⟩ w1 w2 w3).all vone = true := by simp only [qT, List.all_cons, List.all_nil, on1, on2, on3]; rfl
 obtain ⟨Z3, wtz, gz, frz⟩ := bst (vs := qT ⟨d.id, d.up, zHouse.log, d.forced, zHouse.locks, zHouse.works⟩ w1 w2 w3) (cs' := qT ⟨d.id, d.up, zHouse.log, d.forced, zHouse.locks, zHouse.works⟩ w1 w2 w3) (o := 0) g2 (by show 0 + 6 <= 6; omega) rfl
 have rdz : qV Z3 j2 0 6 = some (qT ⟨d.id, d.up, zHouse.log, d.forced, zHouse.locks, zHouse.works⟩ w1 w2 w3) := zD gz rfl
 simp only [wK, seval, yC, rd3, wtz, hone]
 try simp only [wK, seval, yC, rdz]
 have u1 := u1.frame WRec.fr fun x q => frz x (ne1 x q).1
 have u2 := u2.frame WLock.fr fun x q => frz x (ne2 x q).1
 have u3 := u3.frame WWork.fr fun x q => frz x (ne3 x q).1
 exact dP.of (k Z3 w1 w2 w3 (fun x => S1 x ∨ S2 x ∨ S3 x) (fun x o e => by rw [frz x (fun c => by subst c; rw [n2.2] at e; cases e)]; exact s0 _ _ e) ⟨w1, w2, w3, rfl, S1, S2, S3, u1, u2, u3, d12, d13, d23, fun _ => Iff.rfl⟩ fun x q => by
  rcases q with q | q | q
  ·exact fh1 x q
  ·exact fh2 x q
  ·exact fh3 x q)
theorem qUC {h : H} {a : Value} {l : List DHouse} (r : rIRs h (nHouse h) 6 a l) (hl : l.length <= 1048576) (hb : ∀ d ∈ l, bHouse d) {R : Ending -> H -> Prop} (k : ∀ M' v S, Tk.Sub h M' -> dR 59 WHouseC 6 M' v l S -> (∀ x, S x -> hget h x = none) -> R (.returned v) M') :
  HCalls Tryz.prog 22 #[a] h R := by
 refine qD lite (args := [a]) Tryz.func22 ?_
 conv => arg 2; cbv
 rw [qR]
 have z1 := kL
 try simp only [str] at z1
 simp only [wK, seval, r.len, str, z1]
 refine ⟨⟨by omega, by omega, by omega, by omega⟩, qC fun j hj => ?_⟩
 simp only [wK, seval]
 obtain ⟨V, hV⟩ : ∃ V, V = Value.slice (some ⟨j, 0, none⟩) l.length l.length := ⟨_, rfl⟩
 obtain ⟨M0, hM0⟩ : ∃ M0, M0 = (j, blk (zrep (qT zHouse (.slice none 0 0) (.slice none 0 0) (.slice none 0 0)) l.length) 59) :: h := ⟨_, rfl⟩
 have D0 : dRb 59 WHouseC 6 M0 (List.replicate l.length zHouse) (fun x => x = j) j (List.replicate l.length (qT zHouse (.slice none 0 0) (.slice none 0 0) (.slice none 0 0))) [] (fun _ _ => False) := by
  refine ⟨by rw [hM0, List.append_nil]; exact qG _ _ _, by simp, fun c hc => by rw [List.eq_of_mem_replicate hc]; rfl, fun i h1 h2 => ?_, fun _ _ q => q, fun _ _ _ _ _ _ q => q.elim, fun x => by simp⟩
  simp only [List.getElem_replicate]
  exact ⟨_, _, _, rfl, _, _, _, dR.nil, dR.nil, dR.nil, fun _ q => q.elim, fun _ q => q.elim, fun _ q => q.elim, fun _ => by simp⟩
 have d0 : dR 59 WHouseC 6 M0 V (l.take 0 ++ (List.replicate l.length zHouse).drop 0) (fun x => x = j) := by
  have hr : (List.replicate l.length zHouse).length = l.length := by simp
  refine .inr ⟨j, l.length, List.replicate l.length (qT zHouse (.slice none 0 0) (.slice none 0 0) (.slice none 0 0)), [], fun _ _ => False, by simp only [List.take_zero, List.nil_append, List.drop_zero, hr]; exact hV, by simp, ?_, D0⟩
  rw [List.append_nil, wE (sz := 6) (fun c hc => by rw [List.eq_of_mem_replicate hc]; rfl)]; simp
 rw [<- hV, <- hM0]
 refine qP [4] (fun n vs M' => ∃ (i : Nat) (S : Nat -> Prop), vs = [.int .i64 i] /\ Tk.Sub h M' /\ dR 59 WHouseC 6 M' V (l.take i ++ (List.replicate l.length zHouse).drop i) S /\ (∀ x, S x -> hget h x = none) /\ i <= l.length /\ n = l.length - i) l.length rfl
  ⟨0, _, rfl, by rw [hM0]; exact Sub.cons hj (Sub.refl _), d0, fun x e => e ▸ hj, by omega, rfl⟩ ?_
 rintro n f M' ⟨i, S, hv, sM, hd, hfr, hi, rfl⟩
 simp only [lm4] at hv
 simp only [wK, seval, wr, hv, r.len]
 refine qF (fun c1 => ?_) fun c1 => ?_
 ·have hi2 : i < l.length := by omega
  obtain ⟨b1, o1, cs1, hx1, e1, v1, v2, v3, rfl, q1, q2, q3⟩ := (r.sub sM fun _ _ q => nHouse.sub sM q).at hi2
  simp only [wK, seval, hx1, e1]
  refine zAF q1 q2 q3 (hb _ (List.getElem_mem hi2)) fun M2 w1 w2 w3 T s2 wn fn => ?_
  have hsame : ∀ x, S x -> hget M2 x = hget M' x := fun x q => Sub.eq s2 (hd.in WHouseC.in q)
  have hdj : ∀ x, T x -> ¬ S x := fun x q q2 => hd.in WHouseC.in q2 (fn x q)
  have hd2 := hd.frame WHouseC.fr hsame
  rcases hd2 with ⟨_, e0, _⟩ | ⟨b, cap, css, sp, Ss, hv0, hc, hs, D⟩
  ·have := congrArg List.length e0
   rw [List.length_append, List.length_take, List.length_drop, List.length_replicate] at this
   simp at this; omega
  have hset := xZ hi2 (by simp : (List.replicate l.length zHouse).length = l.length)
  have hll : (l.take i ++ (List.replicate l.length zHouse).drop i).length = l.length := by rw [List.length_append, List.length_take, List.length_drop, List.length_replicate]; omega
  have hiL : i < (l.take i ++ (List.replicate l.length zHouse).drop i).length := by omega
  obtain ⟨A, B, hAB, hA, hset2⟩ := D.split hiL
  have hx := jC (sz := 6) hv0 hiL
  have hget0 : hget M2 b = some (blk (A ++ (css[i]'(by rw [D.len]; exact hiL) ++ B)) 59) := by rw [D.get, hAB]
  have hcl : (css[i]'(by rw [D.len]; exact hiL)).length = 6 := D.sz _ (List.getElem_mem _)
  have wt : zQ M2 b (i * 6) (qT l[i] w1 w2 w3) = some (slot M2 b 59 A B (qT l[i] w1 w2 w3)) := by
   have := uZ (j := 0) (e := 59) (B := B) (vs := qT l[i] w1 w2 w3) hget0 hA (by rw [hcl]; exact Nat.le_refl _)
   rw [vG hget0] at this
   have h2 := yW (x := qT l[i] w1 w2 w3) (y := css[i]'(by rw [D.len]; exact hiL)) (by rw [hcl]; rfl)
   rw [h2] at this
   exact this
  have hone : (qT l[i] w1 w2 w3).all vone = true := WHouseC.one wn
  simp only [wK, seval, hx, wt, hone, yC]
  simp (disch := omega) only [wK, seval, qK]
  have fb : ∀ x, x ≠ b -> hget (slot M2 b 59 A B (qT l[i] w1 w2 w3)) x = hget M2 x := fun x e => jA e
  have hbS : S b := (D.dom b).2 (.inl rfl)
  refine ⟨l.length - (i + 1), by omega, _, .refl _, i + 1, (fun x => x = b ∨ ∃ j, j < ((l.take i ++ (List.replicate l.length zHouse).drop i).set i l[i]).length /\ (if j = i then T else Ss j) x), by simp, fun x o e => ?_, .inr ⟨b, cap, css.set i (qT l[i] w1 w2 w3), sp, (fun j => if j = i then T else Ss j), ?_, ?_, ?_, ?_⟩, ?_, by omega, rfl⟩
  ·rw [fb x (fun c => by subst c; rw [hfr _ hbS] at e; cases e)]; exact s2 _ _ (sM _ _ e)
  ·rw [<- hset, List.length_set]; exact hv0
  ·rw [<- hset, List.length_set]; exact hc
  ·rw [hset2 _ rfl, <- hs, hAB]; simp only [List.length_append, hcl]; rfl
  ·rw [<- hset]
   exact D.grow WHouseC.fr hiL rfl (by rw [hset2 _ rfl]; exact vL hget0) (WHouseC.fr _ _ _ _ _ (fun x q => fb x fun e => hdj x q (e ▸ hbS)) wn) hdj fun x _ e => fb x e
  ·rintro x (e | ⟨j, hj, q⟩)
   ·exact e ▸ hfr _ hbS
   ·by_cases e : j = i
    ·rw [if_pos e] at q; exact sM.none' (fn x q)
    ·rw [if_neg e] at q
     rw [List.length_set] at hj
     exact hfr x ((D.dom x).2 (.inr ⟨j, hj, q⟩))
 ·have hi' : i = l.length := by omega
  subst hi'
  rw [List.take_length, List.drop_of_length_le (by simp), List.append_nil] at hd
  exact .of (k M' V S sM hd hfr)
def WWord (M : H) (cs : List Value) (d : DWord) (S : Nat -> Prop) : Prop := ∃ v1 v2 v3 S1 S2 S3, cs = zL d v1 v2 v3 /\ dL 3 eI 1 M v1 d.slots S1 /\ dL 175 eP 2 M v2 d.pairs S2 /\ dL 3 eI 1 M v3 d.vals S3 /\
 (∀ i, S1 i -> ¬ S2 i) /\ (∀ i, S1 i -> ¬ S3 i) /\ (∀ i, S2 i -> ¬ S3 i) /\ ∀ i, S i ↔ S1 i ∨ S2 i ∨ S3 i
theorem WWord.fr : dFr WWord := by
 rintro M M' cs d S hx ⟨v1, v2, v3, S1, S2, S3, e, w1, w2, w3, d12, d13, d23, su⟩
 exact ⟨v1, v2, v3, S1, S2, S3, e, w1.frame fun x q => hx x ((su x).2 (.inl q)), w2.frame fun x q => hx x ((su x).2 (.inr (.inl q))), w3.frame fun x q => hx x ((su x).2 (.inr (.inr q))), d12, d13, d23, su⟩
theorem WWord.rd : ∀ M cs a S, WWord M cs a S -> rWord M cs a := by
 rintro M cs d S ⟨v1, v2, v3, S1, S2, S3, e, w1, w2, w3, d12, d13, d23, su⟩
 exact ⟨v1, v2, v3, e, w1.rd, w2.rd, w3.rd⟩
theorem WWord.in : ∀ M cs a S i, WWord M cs a S -> S i -> hget M i ≠ none := by
 rintro M cs d S i ⟨v1, v2, v3, S1, S2, S3, e, w1, w2, w3, d12, d13, d23, su⟩ hi
 rcases (su i).1 hi with q | q | q
 ·exact w1.in q
 ·exact w2.in q
 ·exact w3.in q
theorem WWord.one {M : H} {cs : List Value} {d : DWord} {S : Nat -> Prop} (w : WWord M cs d S) : cs.all vone = true := by
 obtain ⟨v1, v2, v3, S1, S2, S3, rfl, w1, w2, w3, _⟩ := w
 simp only [zL, List.all_cons, List.all_nil, w1.one, w2.one, w3.one]; rfl
theorem zET {h : H} {d : DWord} {v1 v2 v3 : Value} (r1 : rIn h eI 1 v1 d.slots) (r2 : rIn h eP 2 v2 d.pairs) (r3 : rIn h eI 1 v3 d.vals) (hx : bWord d) {R : Ending -> H -> Prop}
  (k : ∀ M' w1 w2 w3 S, Tk.Sub h M' -> WWord M' (zL d w1 w2 w3) d S -> (∀ x, S x -> hget h x = none) -> R (.returned (.agg (zL d w1 w2 w3).toArray)) M') : HCalls Tryz.prog 58 #[.agg (zL d v1 v2 v3).toArray] h R := by
 refine qD lite (args := [.agg (zL d v1 v2 v3).toArray]) Tryz.func58 ?_
 conv => arg 2; cbv
 rw [qR]
 have z1 := qHQ
 try simp only [str] at z1
 simp only [wK, seval, zZ, str, z1]
 refine qC (o := blk (zL d v1 v2 v3) 96) fun j1 h1 => ?_
 simp only [wK, seval, zZ, str, z1]
 refine qC (o := blk (zL zWord (.slice none 0 0) (.slice none 0 0) (.slice none 0 0)) 66) fun j2 h2 => ?_
 simp only [wK, seval, zZ, str, z1]
 refine qC (o := blk (zL zWord (.slice none 0 0) (.slice none 0 0) (.slice none 0 0)) 66) fun j3 h3 => ?_
 have n2 := h2
 have n3 := h3
 simp only [subs] at n2 n3
 have m : j1 ≠ j2 /\ j1 ≠ j3 /\ j2 ≠ j3 /\ j2 ≠ j1 /\ j3 ≠ j1 /\ j3 ≠ j2 := by refine ⟨?_, ?_, ?_, ?_, ?_, ?_⟩ <;> simp_all [Ne, eq_comm]
 try simp only [wK, seval, zZ, zA, z1, m]
 obtain ⟨M0, hM0⟩ : ∃ M0, M0 = (j3, blk (zL ⟨d.kind, d.from_, d.to, d.stamp, d.try_, d.what, d.yes, zWord.slots, zWord.pairs, zWord.code, zWord.vals, zWord.call⟩ (.slice none 0 0) (.slice none 0 0) (.slice none 0 0)) 66) :: (j2, blk (zL zWord (.slice none 0 0) (.slice none 0 0) (.slice none 0 0)) 66) :: (j1, blk (zL d v1 v2 v3) 96) :: h := ⟨_, rfl⟩
 have s0 : Tk.Sub h M0 := by rw [hM0]; (repeat' first | exact Sub.refl _ | exact Sub.nil _ | assumption | refine Sub.both ?_ ?_ | refine Sub.cons_of (by simp only [subs, n2, n3, h1, m]) ?_ | exact Sub.left _ _ | refine Sub.app (by simp only [subs, n2, n3, h1, m]) ?_ | refine Sub.cons (by simp only [subs, n2, n3, h1, m]) ?_)
 have g1 : hget M0 j1 = some (blk (zL d v1 v2 v3) 96) := by rw [hM0]; simp only [mem, m, ne_eq, not_false_eq_true]
 have g2 : hget M0 j2 = some (blk (zL zWord (.slice none 0 0) (.slice none 0 0) (.slice none 0 0)) 66) := by rw [hM0]; simp only [mem, m, ne_eq, not_false_eq_true]
 have g3 : hget M0 j3 = some (blk (zL ⟨d.kind, d.from_, d.to, d.stamp, d.try_, d.what, d.yes, zWord.slots, zWord.pairs, zWord.code, zWord.vals, zWord.call⟩ (.slice none 0 0) (.slice none 0 0) (.slice none 0 0)) 66) := by rw [hM0]; simp only [mem]
 rw [<- hM0]
 have cl : hcel M0 j1 7 = some v1 := qE g1 rfl
 try simp only [wK, seval, zZ, cl]
 refine jL (r1.sub s0) (by have := hx.s; unfold lim at this; omega) fun M1 w1 S1 t1 u1 f1 => ?_
 have ne1 : ∀ x, S1 x -> x ≠ j2 /\ x ≠ j3 := fun x q => ⟨fun e => (by have := f1 x q; rw [e, g2] at this; cases this), fun e => (by have := f1 x q; rw [e, g3] at this; cases this)⟩
 have fh1 : ∀ x, S1 x -> hget h x = none := fun x q => s0.none' (f1 x q)
 have g1 := t1 _ _ g1
 have g2 := t1 _ _ g2
 have g3 := t1 _ _ g3
 have s0 := s0.trans t1
 have on1 := u1.one
 have vcw1 := vc1 on1
 obtain ⟨N1, wt1, g3', fr1⟩ := bst (vs := [w1]) (cs' := zL ⟨d.kind, d.from_, d.to, d.stamp, d.try_, d.what, d.yes, zWord.slots, zWord.pairs, zWord.code, zWord.vals, zWord.call⟩ w1 (.slice none 0 0) (.slice none 0 0)) (o := 7) g3 (by show 7 + 1 <= 17; omega) rfl
 have g3 := g3'
 have g1 := (fr1 j1 m.2.1).trans g1
 have g2 := (fr1 j2 m.2.2.1).trans g2
 have s0 : Tk.Sub h N1 := fun x o e => by rw [fr1 x (fun c => by subst c; rw [n3.2.2] at e; cases e)]; exact s0 _ _ e
 have u1 := u1.frame fun x q => fr1 x (ne1 x q).2
 simp only [wK, seval, zZ, wt1, on1, vcw1]
 have cl : hcel N1 j1 8 = some v2 := qE g1 rfl
 try simp only [wK, seval, zZ, cl]
 refine qBU (r2.sub s0) (by have := hx.p; unfold lim at this; omega) fun M2 w2 S2 t2 u2 f2 => ?_
 have ne2 : ∀ x, S2 x -> x ≠ j2 /\ x ≠ j3 := fun x q => ⟨fun e => (by have := f2 x q; rw [e, g2] at this; cases this), fun e => (by have := f2 x q; rw [e, g3] at this; cases this)⟩
 have fh2 : ∀ x, S2 x -> hget h x = none := fun x q => s0.none' (f2 x q)
 have d12 : ∀ x, S1 x -> ¬ S2 x := fun x q q2 => u1.in q (f2 x q2)
 have u1 := u1.frame fun x q => Sub.eq t2 (u1.in q)
 have g1 := t2 _ _ g1
 have g2 := t2 _ _ g2
 have g3 := t2 _ _ g3
 have s0 := s0.trans t2
 have on2 := u2.one
 have vcw2 := vc1 on2
 obtain ⟨N2, wt2, g3', fr2⟩ := bst (vs := [w2]) (cs' := zL ⟨d.kind, d.from_, d.to, d.stamp, d.try_, d.what, d.yes, zWord.slots, zWord.pairs, zWord.code, zWord.vals, zWord.call⟩ w1 w2 (.slice none 0 0)) (o := 8) g3 (by show 8 + 1 <= 17; omega) rfl
 have g3 := g3'
 have g1 := (fr2 j1 m.2.1).trans g1
 have g2 := (fr2 j2 m.2.2.1).trans g2
 have s0 : Tk.Sub h N2 := fun x o e => by rw [fr2 x (fun c => by subst c; rw [n3.2.2] at e; cases e)]; exact s0 _ _ e
 have u1 := u1.frame fun x q => fr2 x (ne1 x q).2
 have u2 := u2.frame fun x q => fr2 x (ne2 x q).2
 simp only [wK, seval, zZ, wt2, on2, vcw2]
 have cl : hcel N2 j1 9 = some (.int .i64 d.code) := qE g1 rfl
 obtain ⟨N3, wt3, g3', fr3⟩ := bst (vs := [.int .i64 d.code]) (cs' := zL ⟨d.kind, d.from_, d.to, d.stamp, d.try_, d.what, d.yes, zWord.slots, zWord.pairs, d.code, zWord.vals, zWord.call⟩ w1 w2 (.slice none 0 0)) (o := 9) g3 (by show 9 + 1 <= 17; omega) rfl
 have g3 := g3'
 have g1 := (fr3 j1 m.2.1).trans g1
 have g2 := (fr3 j2 m.2.2.1).trans g2
 have s0 : Tk.Sub h N3 := fun x o e => by rw [fr3 x (fun c => by subst c; rw [n3.2.2] at e; cases e)]; exact s0 _ _ e
 have u1 := u1.frame fun x q => fr3 x (ne1 x q).2
 have u2 := u2.frame fun x q => fr3 x (ne2 x q).2
 simp only [wK, seval, zZ, cl, wt3]
 have cl : hcel N3 j1 10 = some v3 := qE g1 rfl
 try simp only [wK, seval, zZ, cl]
 refine jL (r3.sub s0) (by have := hx.v; unfold lim at this; omega) fun M3 w3 S3 t3 u3 f3 => ?_
 have ne3 : ∀ x, S3 x -> x ≠ j2 /\ x ≠ j3 := fun x q => ⟨fun e => (by have := f3 x q; rw [e, g2] at this; cases this), fun e => (by have := f3 x q; rw [e, g3] at this; cases this)⟩
 have fh3 : ∀ x, S3 x -> hget h x = none := fun x q => s0.none' (f3 x q)
 have d13 : ∀ x, S1 x -> ¬ S3 x := fun x q q2 => u1.in q (f3 x q2)
 have u1 := u1.frame fun x q => Sub.eq t3 (u1.in q)
 have d23 : ∀ x, S2 x -> ¬ S3 x := fun x q q2 => u2.in q (f3 x q2)
 have u2 := u2.frame fun x q => Sub.eq t3 (u2.in q)
 have g1 := t3 _ _ g1
 have g2 := t3 _ _ g2
 have g3 := t3 _ _ g3
 have s0 := s0.trans t3
 have on3 := u3.one
 have vcw3 := vc1 on3
 obtain ⟨N4, wt4, g3', fr4⟩ := bst (vs := [w3]) (cs' := zL ⟨d.kind, d.from_, d.to, d.stamp, d.try_, d.what, d.yes, zWord.slots, zWord.pairs, d.code, zWord.vals, zWord.call⟩ w1 w2 w3) (o := 10) g3 (by show 10 + 1 <= 17; omega) rfl
 have g3 := g3'
 have g1 := (fr4 j1 m.2.1).trans g1
 have g2 := (fr4 j2 m.2.2.1).trans g2
 have s0 : Tk.Sub h N4 := fun x o e => by rw [fr4 x (fun c => by subst c; rw [n3.2.2] at e; cases e)]; exact s0 _ _ e
 have u1 := u1.frame fun x q => fr4 x (ne1 x q).2
 have u2 := u2.frame fun x q => fr4 x (ne2 x q).2
 have u3 := u3.frame fun x q => fr4 x (ne3 x q).2
 simp only [wK, seval, zZ, wt4, on3, vcw3]
 have cl : qV N4 j1 11 6 = some (zW d.call) := by unfold qV; rw [g1]; rfl
 try simp only [wK, seval, zZ, zA, cl]
 refine qDO ?_
 obtain ⟨N5, wt5, g3', fr5⟩ := bst (vs := zW d.call) (cs' := zL ⟨d.kind, d.from_, d.to, d.stamp, d.try_, d.what, d.yes, zWord.slots, zWord.pairs, d.code, zWord.vals, d.call⟩ w1 w2 w3) (o := 11) g3 (by show 11 + 6 <= 17; omega) rfl
 have g3 := g3'
 have g1 := (fr5 j1 m.2.1).trans g1
 have g2 := (fr5 j2 m.2.2.1).trans g2
 have s0 : Tk.Sub h N5 := fun x o e => by rw [fr5 x (fun c => by subst c; rw [n3.2.2] at e; cases e)]; exact s0 _ _ e
 have u1 := u1.frame fun x q => fr5 x (ne1 x q).2
 have u2 := u2.frame fun x q => fr5 x (ne2 x q).2
 have u3 := u3.frame fun x q => fr5 x (ne3 x q).2
 simp only [wK, seval, zZ, zA, wt5]
 have rd3 : qV N5 j3 0 17 = some (zL ⟨d.kind, d.from_, d.to, d.stamp, d.try_, d.what, d.yes, zWord.slots, zWord.pairs, d.code, zWord.vals, d.call⟩ w1 w2 w3) := zD g3 rfl
 have hone : (zL ⟨d.kind, d.from_, d.to, d.stamp, d.try_, d.what, d.yes, zWord.slots, zWord.pairs, d.code, zWord.vals, d.call⟩ w1 w2 w3).all vone = true := by simp only [zL, List.all_cons, List.all_nil, on1, on2, on3]; rfl
 obtain ⟨Z3, wtz, gz, frz⟩ := bst (vs := zL ⟨d.kind, d.from_, d.to, d.stamp, d.try_, d.what, d.yes, zWord.slots, zWord.pairs, d.code, zWord.vals, d.call⟩ w1 w2 w3) (cs' := zL ⟨d.kind, d.from_, d.to, d.stamp, d.try_, d.what, d.yes, zWord.slots, zWord.pairs, d.code, zWord.vals, d.call⟩ w1 w2 w3) (o := 0) g2 (by show 0 + 17 <= 17; omega) rfl
 have rdz : qV Z3 j2 0 17 = some (zL ⟨d.kind, d.from_, d.to, d.stamp, d.try_, d.what, d.yes, zWord.slots, zWord.pairs, d.code, zWord.vals, d.call⟩ w1 w2 w3) := zD gz rfl
 simp only [wK, seval, zZ, rd3, wtz, hone]
 try simp only [wK, seval, zZ, rdz]
 have u1 := u1.frame fun x q => frz x (ne1 x q).1
 have u2 := u2.frame fun x q => frz x (ne2 x q).1
 have u3 := u3.frame fun x q => frz x (ne3 x q).1
 exact dP.of (k Z3 w1 w2 w3 (fun x => S1 x ∨ S2 x ∨ S3 x) (fun x o e => by rw [frz x (fun c => by subst c; rw [n2.2] at e; cases e)]; exact s0 _ _ e) ⟨w1, w2, w3, S1, S2, S3, rfl, u1, u2, u3, d12, d13, d23, fun _ => Iff.rfl⟩ fun x q => by
  rcases q with q | q | q
  ·exact fh1 x q
  ·exact fh2 x q
  ·exact fh3 x q)
theorem zAA {h : H} {a : Value} {l : List DWord} (r : rIRs h (nWord h) 17 a l) (hl : l.length <= 1048576) (hb : ∀ d ∈ l, bWord d) {R : Ending -> H -> Prop} (k : ∀ M' v S, Tk.Sub h M' -> dR 66 WWord 17 M' v l S -> (∀ x, S x -> hget h x = none) -> R (.returned v) M') :
  HCalls Tryz.prog 23 #[a] h R := by
 refine qD lite (args := [a]) Tryz.func23 ?_
 conv => arg 2; cbv
 rw [qR]
 have z1 := qHQ
 try simp only [str] at z1
 simp only [wK, seval, r.len, str, z1]
 refine ⟨⟨by omega, by omega, by omega, by omega⟩, qC fun j hj => ?_⟩
 simp only [wK, seval]
 obtain ⟨V, hV⟩ : ∃ V, V = Value.slice (some ⟨j, 0, none⟩) l.length l.length := ⟨_, rfl⟩
 obtain ⟨M0, hM0⟩ : ∃ M0, M0 = (j, blk (zrep (zL zWord (.slice none 0 0) (.slice none 0 0) (.slice none 0 0)) l.length) 66) :: h := ⟨_, rfl⟩
 have D0 : dRb 66 WWord 17 M0 (List.replicate l.length zWord) (fun x => x = j) j (List.replicate l.length (zL zWord (.slice none 0 0) (.slice none 0 0) (.slice none 0 0))) [] (fun _ _ => False) := by
  refine ⟨by rw [hM0, List.append_nil]; exact qG _ _ _, by simp, fun c hc => by rw [List.eq_of_mem_replicate hc]; rfl, fun i h1 h2 => ?_, fun _ _ q => q, fun _ _ _ _ _ _ q => q.elim, fun x => by simp⟩
  simp only [List.getElem_replicate]
  exact ⟨_, _, _, _, _, _, rfl, dL.nil, dL.nil, dL.nil, fun _ q => q.elim, fun _ q => q.elim, fun _ q => q.elim, fun _ => by simp⟩
 have d0 : dR 66 WWord 17 M0 V (l.take 0 ++ (List.replicate l.length zWord).drop 0) (fun x => x = j) := by
  have hr : (List.replicate l.length zWord).length = l.length := by simp
  refine .inr ⟨j, l.length, List.replicate l.length (zL zWord (.slice none 0 0) (.slice none 0 0) (.slice none 0 0)), [], fun _ _ => False, by simp only [List.take_zero, List.nil_append, List.drop_zero, hr]; exact hV, by simp, ?_, D0⟩
  rw [List.append_nil, wE (sz := 17) (fun c hc => by rw [List.eq_of_mem_replicate hc]; rfl)]; simp
 rw [<- hV, <- hM0]
 refine qP [4] (fun n vs M' => ∃ (i : Nat) (S : Nat -> Prop), vs = [.int .i64 i] /\ Tk.Sub h M' /\ dR 66 WWord 17 M' V (l.take i ++ (List.replicate l.length zWord).drop i) S /\ (∀ x, S x -> hget h x = none) /\ i <= l.length /\ n = l.length - i) l.length rfl
  ⟨0, _, rfl, by rw [hM0]; exact Sub.cons hj (Sub.refl _), d0, fun x e => e ▸ hj, by omega, rfl⟩ ?_
 rintro n f M' ⟨i, S, hv, sM, hd, hfr, hi, rfl⟩
 simp only [lm4] at hv
 simp only [wK, seval, wr, hv, r.len]
 refine qF (fun c1 => ?_) fun c1 => ?_
 ·have hi2 : i < l.length := by omega
  obtain ⟨b1, o1, cs1, hx1, e1, v1, v2, v3, rfl, q1, q2, q3⟩ := (r.sub sM fun _ _ q => nWord.sub sM q).at hi2
  simp only [wK, seval, hx1, e1]
  refine zET q1 q2 q3 (hb _ (List.getElem_mem hi2)) fun M2 w1 w2 w3 T s2 wn fn => ?_
  have hsame : ∀ x, S x -> hget M2 x = hget M' x := fun x q => Sub.eq s2 (hd.in WWord.in q)
  have hdj : ∀ x, T x -> ¬ S x := fun x q q2 => hd.in WWord.in q2 (fn x q)
  have hd2 := hd.frame WWord.fr hsame
  rcases hd2 with ⟨_, e0, _⟩ | ⟨b, cap, css, sp, Ss, hv0, hc, hs, D⟩
  ·have := congrArg List.length e0
   rw [List.length_append, List.length_take, List.length_drop, List.length_replicate] at this
   simp at this; omega
  have hset := xZ hi2 (by simp : (List.replicate l.length zWord).length = l.length)
  have hll : (l.take i ++ (List.replicate l.length zWord).drop i).length = l.length := by rw [List.length_append, List.length_take, List.length_drop, List.length_replicate]; omega
  have hiL : i < (l.take i ++ (List.replicate l.length zWord).drop i).length := by omega
  obtain ⟨A, B, hAB, hA, hset2⟩ := D.split hiL
  have hx := jC (sz := 17) hv0 hiL
  have hget0 : hget M2 b = some (blk (A ++ (css[i]'(by rw [D.len]; exact hiL) ++ B)) 66) := by rw [D.get, hAB]
  have hcl : (css[i]'(by rw [D.len]; exact hiL)).length = 17 := D.sz _ (List.getElem_mem _)
  have wt : zQ M2 b (i * 17) (zL l[i] w1 w2 w3) = some (slot M2 b 66 A B (zL l[i] w1 w2 w3)) := by
   have := uZ (j := 0) (e := 66) (B := B) (vs := zL l[i] w1 w2 w3) hget0 hA (by rw [hcl]; exact Nat.le_refl _)
   rw [vG hget0] at this
   have h2 := yW (x := zL l[i] w1 w2 w3) (y := css[i]'(by rw [D.len]; exact hiL)) (by rw [hcl]; rfl)
   rw [h2] at this
   exact this
  have hone : (zL l[i] w1 w2 w3).all vone = true := WWord.one wn
  simp only [wK, seval, hx, wt, hone, zZ]
  simp (disch := omega) only [wK, seval, qK]
  have fb : ∀ x, x ≠ b -> hget (slot M2 b 66 A B (zL l[i] w1 w2 w3)) x = hget M2 x := fun x e => jA e
  have hbS : S b := (D.dom b).2 (.inl rfl)
  refine ⟨l.length - (i + 1), by omega, _, .refl _, i + 1, (fun x => x = b ∨ ∃ j, j < ((l.take i ++ (List.replicate l.length zWord).drop i).set i l[i]).length /\ (if j = i then T else Ss j) x), by simp, fun x o e => ?_, .inr ⟨b, cap, css.set i (zL l[i] w1 w2 w3), sp, (fun j => if j = i then T else Ss j), ?_, ?_, ?_, ?_⟩, ?_, by omega, rfl⟩
  ·rw [fb x (fun c => by subst c; rw [hfr _ hbS] at e; cases e)]; exact s2 _ _ (sM _ _ e)
  ·rw [<- hset, List.length_set]; exact hv0
  ·rw [<- hset, List.length_set]; exact hc
  ·rw [hset2 _ rfl, <- hs, hAB]; simp only [List.length_append, hcl]; rfl
  ·rw [<- hset]
   exact D.grow WWord.fr hiL rfl (by rw [hset2 _ rfl]; exact vL hget0) (WWord.fr _ _ _ _ _ (fun x q => fb x fun e => hdj x q (e ▸ hbS)) wn) hdj fun x _ e => fb x e
  ·rintro x (e | ⟨j, hj, q⟩)
   ·exact e ▸ hfr _ hbS
   ·by_cases e : j = i
    ·rw [if_pos e] at q; exact sM.none' (fn x q)
    ·rw [if_neg e] at q
     rw [List.length_set] at hj
     exact hfr x ((D.dom x).2 (.inr ⟨j, hj, q⟩))
 ·have hi' : i = l.length := by omega
  subst hi'
  rw [List.take_length, List.drop_of_length_le (by simp), List.append_nil] at hd
  exact .of (k M' V S sM hd hfr)
theorem qNN {h : H} {d : DTollCall} {v1 : Value} (r1 : rIn h eI 1 v1 d.vals) (hx : bTollCall d) {R : Ending -> H -> Prop}
  (k : ∀ M' w1 S, Tk.Sub h M' -> WTollCall M' (qI d w1) d S -> (∀ x, S x -> hget h x = none) -> R (.returned (.agg (qI d w1).toArray)) M') : HCalls Tryz.prog 59 #[.agg (qI d v1).toArray] h R := by
 refine qD lite (args := [.agg (qI d v1).toArray]) Tryz.func59 ?_
 conv => arg 2; cbv
 rw [qR]
 have z1 := kZ
 try simp only [str] at z1
 simp only [wK, seval, zX, str, z1]
 refine qC (o := blk (qI d v1) 99) fun j1 h1 => ?_
 simp only [wK, seval, zX, str, z1]
 refine qC (o := blk (qI zTollCall (.slice none 0 0)) 111) fun j2 h2 => ?_
 simp only [wK, seval, zX, str, z1]
 refine qC (o := blk (qI zTollCall (.slice none 0 0)) 111) fun j3 h3 => ?_
 have n2 := h2
 have n3 := h3
 simp only [subs] at n2 n3
 have m : j1 ≠ j2 /\ j1 ≠ j3 /\ j2 ≠ j3 /\ j2 ≠ j1 /\ j3 ≠ j1 /\ j3 ≠ j2 := by refine ⟨?_, ?_, ?_, ?_, ?_, ?_⟩ <;> simp_all [Ne, eq_comm]
 try simp only [wK, seval, zX, zA, z1, m]
 refine qDO ?_
 try simp only [wK, seval, zX, zA, z1, m]
 obtain ⟨M0, hM0⟩ : ∃ M0, M0 = (j3, blk (qI ⟨d.call, d.begin, d.end_, d.over, d.code, zTollCall.vals⟩ (.slice none 0 0)) 111) :: (j2, blk (qI zTollCall (.slice none 0 0)) 111) :: (j1, blk (qI d v1) 99) :: h := ⟨_, rfl⟩
 have s0 : Tk.Sub h M0 := by rw [hM0]; (repeat' first | exact Sub.refl _ | exact Sub.nil _ | assumption | refine Sub.both ?_ ?_ | refine Sub.cons_of (by simp only [subs, n2, n3, h1, m]) ?_ | exact Sub.left _ _ | refine Sub.app (by simp only [subs, n2, n3, h1, m]) ?_ | refine Sub.cons (by simp only [subs, n2, n3, h1, m]) ?_)
 have g1 : hget M0 j1 = some (blk (qI d v1) 99) := by rw [hM0]; simp only [mem, m, ne_eq, not_false_eq_true]
 have g2 : hget M0 j2 = some (blk (qI zTollCall (.slice none 0 0)) 111) := by rw [hM0]; simp only [mem, m, ne_eq, not_false_eq_true]
 have g3 : hget M0 j3 = some (blk (qI ⟨d.call, d.begin, d.end_, d.over, d.code, zTollCall.vals⟩ (.slice none 0 0)) 111) := by rw [hM0]; simp only [mem]
 rw [<- hM0]
 have cl : hcel M0 j1 10 = some v1 := qE g1 rfl
 try simp only [wK, seval, zX, cl]
 refine jL (r1.sub s0) (by have := hx.v; unfold lim at this; omega) fun M1 w1 S1 t1 u1 f1 => ?_
 have ne1 : ∀ x, S1 x -> x ≠ j2 /\ x ≠ j3 := fun x q => ⟨fun e => (by have := f1 x q; rw [e, g2] at this; cases this), fun e => (by have := f1 x q; rw [e, g3] at this; cases this)⟩
 have fh1 : ∀ x, S1 x -> hget h x = none := fun x q => s0.none' (f1 x q)
 have g1 := t1 _ _ g1
 have g2 := t1 _ _ g2
 have g3 := t1 _ _ g3
 have s0 := s0.trans t1
 have on1 := u1.one
 have vcw1 := vc1 on1
 obtain ⟨N1, wt1, g3', fr1⟩ := bst (vs := [w1]) (cs' := qI ⟨d.call, d.begin, d.end_, d.over, d.code, zTollCall.vals⟩ w1) (o := 10) g3 (by show 10 + 1 <= 11; omega) rfl
 have g3 := g3'
 have g1 := (fr1 j1 m.2.1).trans g1
 have g2 := (fr1 j2 m.2.2.1).trans g2
 have s0 : Tk.Sub h N1 := fun x o e => by rw [fr1 x (fun c => by subst c; rw [n3.2.2] at e; cases e)]; exact s0 _ _ e
 have u1 := u1.frame fun x q => fr1 x (ne1 x q).2
 simp only [wK, seval, zX, wt1, on1, vcw1]
 have rd3 : qV N1 j3 0 11 = some (qI ⟨d.call, d.begin, d.end_, d.over, d.code, zTollCall.vals⟩ w1) := zD g3 rfl
 have hone : (qI ⟨d.call, d.begin, d.end_, d.over, d.code, zTollCall.vals⟩ w1).all vone = true := by simp only [qI, List.all_cons, List.all_nil, on1]; rfl
 obtain ⟨Z3, wtz, gz, frz⟩ := bst (vs := qI ⟨d.call, d.begin, d.end_, d.over, d.code, zTollCall.vals⟩ w1) (cs' := qI ⟨d.call, d.begin, d.end_, d.over, d.code, zTollCall.vals⟩ w1) (o := 0) g2 (by show 0 + 11 <= 11; omega) rfl
 have rdz : qV Z3 j2 0 11 = some (qI ⟨d.call, d.begin, d.end_, d.over, d.code, zTollCall.vals⟩ w1) := zD gz rfl
 simp only [wK, seval, zX, rd3, wtz, hone]
 try simp only [wK, seval, zX, rdz]
 have u1 := u1.frame fun x q => frz x (ne1 x q).1
 exact dP.of (k Z3 w1 S1 (fun x o e => by rw [frz x (fun c => by subst c; rw [n2.2] at e; cases e)]; exact s0 _ _ e) ⟨w1, rfl, u1⟩ fun x q => fh1 x q)
theorem qKL {h : H} {a : Value} {l : List DTollCall} (r : rIRs h (nTollCall h) 11 a l) (hl : l.length <= 1048576) (hb : ∀ d ∈ l, bTollCall d) {R : Ending -> H -> Prop} (k : ∀ M' v S, Tk.Sub h M' -> dR 111 WTollCall 11 M' v l S -> (∀ x, S x -> hget h x = none) -> R (.returned v) M') :
  HCalls Tryz.prog 24 #[a] h R := by
 refine qD lite (args := [a]) Tryz.func24 ?_
 conv => arg 2; cbv
 rw [qR]
 have z1 := kZ
 try simp only [str] at z1
 simp only [wK, seval, r.len, str, z1]
 refine ⟨⟨by omega, by omega, by omega, by omega⟩, qC fun j hj => ?_⟩
 simp only [wK, seval]
 obtain ⟨V, hV⟩ : ∃ V, V = Value.slice (some ⟨j, 0, none⟩) l.length l.length := ⟨_, rfl⟩
 obtain ⟨M0, hM0⟩ : ∃ M0, M0 = (j, blk (zrep (qI zTollCall (.slice none 0 0)) l.length) 111) :: h := ⟨_, rfl⟩
 have D0 : dRb 111 WTollCall 11 M0 (List.replicate l.length zTollCall) (fun x => x = j) j (List.replicate l.length (qI zTollCall (.slice none 0 0))) [] (fun _ _ => False) := by
  refine ⟨by rw [hM0, List.append_nil]; exact qG _ _ _, by simp, fun c hc => by rw [List.eq_of_mem_replicate hc]; rfl, fun i h1 h2 => ?_, fun _ _ q => q, fun _ _ _ _ _ _ q => q.elim, fun x => by simp⟩
  simp only [List.getElem_replicate]
  exact ⟨_, rfl, dL.nil⟩
 have d0 : dR 111 WTollCall 11 M0 V (l.take 0 ++ (List.replicate l.length zTollCall).drop 0) (fun x => x = j) := by
  have hr : (List.replicate l.length zTollCall).length = l.length := by simp
  refine .inr ⟨j, l.length, List.replicate l.length (qI zTollCall (.slice none 0 0)), [], fun _ _ => False, by simp only [List.take_zero, List.nil_append, List.drop_zero, hr]; exact hV, by simp, ?_, D0⟩
  rw [List.append_nil, wE (sz := 11) (fun c hc => by rw [List.eq_of_mem_replicate hc]; rfl)]; simp
 rw [<- hV, <- hM0]
 refine qP [4] (fun n vs M' => ∃ (i : Nat) (S : Nat -> Prop), vs = [.int .i64 i] /\ Tk.Sub h M' /\ dR 111 WTollCall 11 M' V (l.take i ++ (List.replicate l.length zTollCall).drop i) S /\ (∀ x, S x -> hget h x = none) /\ i <= l.length /\ n = l.length - i) l.length rfl
  ⟨0, _, rfl, by rw [hM0]; exact Sub.cons hj (Sub.refl _), d0, fun x e => e ▸ hj, by omega, rfl⟩ ?_
 rintro n f M' ⟨i, S, hv, sM, hd, hfr, hi, rfl⟩
 simp only [lm4] at hv
 simp only [wK, seval, wr, hv, r.len]
 refine qF (fun c1 => ?_) fun c1 => ?_
 ·have hi2 : i < l.length := by omega
  obtain ⟨b1, o1, cs1, hx1, e1, v1, rfl, q1⟩ := (r.sub sM fun _ _ q => nTollCall.sub sM q).at hi2
  simp only [wK, seval, hx1, e1]
  refine qNN q1 (hb _ (List.getElem_mem hi2)) fun M2 w1 T s2 wn fn => ?_
  have hsame : ∀ x, S x -> hget M2 x = hget M' x := fun x q => Sub.eq s2 (hd.in WTollCall.in q)
  have hdj : ∀ x, T x -> ¬ S x := fun x q q2 => hd.in WTollCall.in q2 (fn x q)
  have hd2 := hd.frame WTollCall.fr hsame
  rcases hd2 with ⟨_, e0, _⟩ | ⟨b, cap, css, sp, Ss, hv0, hc, hs, D⟩
  ·have := congrArg List.length e0
   rw [List.length_append, List.length_take, List.length_drop, List.length_replicate] at this
   simp at this; omega
  have hset := xZ hi2 (by simp : (List.replicate l.length zTollCall).length = l.length)
  have hll : (l.take i ++ (List.replicate l.length zTollCall).drop i).length = l.length := by rw [List.length_append, List.length_take, List.length_drop, List.length_replicate]; omega
  have hiL : i < (l.take i ++ (List.replicate l.length zTollCall).drop i).length := by omega
  obtain ⟨A, B, hAB, hA, hset2⟩ := D.split hiL
  have hx := jC (sz := 11) hv0 hiL
  have hget0 : hget M2 b = some (blk (A ++ (css[i]'(by rw [D.len]; exact hiL) ++ B)) 111) := by rw [D.get, hAB]
  have hcl : (css[i]'(by rw [D.len]; exact hiL)).length = 11 := D.sz _ (List.getElem_mem _)
  have wt : zQ M2 b (i * 11) (qI l[i] w1) = some (slot M2 b 111 A B (qI l[i] w1)) := by
   have := uZ (j := 0) (e := 111) (B := B) (vs := qI l[i] w1) hget0 hA (by rw [hcl]; exact Nat.le_refl _)
   rw [vG hget0] at this
   have h2 := yW (x := qI l[i] w1) (y := css[i]'(by rw [D.len]; exact hiL)) (by rw [hcl]; rfl)
   rw [h2] at this
   exact this
  have hone : (qI l[i] w1).all vone = true := WTollCall.one wn
  simp only [wK, seval, hx, wt, hone, zX]
  simp (disch := omega) only [wK, seval, qK]
  have fb : ∀ x, x ≠ b -> hget (slot M2 b 111 A B (qI l[i] w1)) x = hget M2 x := fun x e => jA e
  have hbS : S b := (D.dom b).2 (.inl rfl)
  refine ⟨l.length - (i + 1), by omega, _, .refl _, i + 1, (fun x => x = b ∨ ∃ j, j < ((l.take i ++ (List.replicate l.length zTollCall).drop i).set i l[i]).length /\ (if j = i then T else Ss j) x), by simp, fun x o e => ?_, .inr ⟨b, cap, css.set i (qI l[i] w1), sp, (fun j => if j = i then T else Ss j), ?_, ?_, ?_, ?_⟩, ?_, by omega, rfl⟩
  ·rw [fb x (fun c => by subst c; rw [hfr _ hbS] at e; cases e)]; exact s2 _ _ (sM _ _ e)
  ·rw [<- hset, List.length_set]; exact hv0
  ·rw [<- hset, List.length_set]; exact hc
  ·rw [hset2 _ rfl, <- hs, hAB]; simp only [List.length_append, hcl]; rfl
  ·rw [<- hset]
   exact D.grow WTollCall.fr hiL rfl (by rw [hset2 _ rfl]; exact vL hget0) (WTollCall.fr _ _ _ _ _ (fun x q => fb x fun e => hdj x q (e ▸ hbS)) wn) hdj fun x _ e => fb x e
  ·rintro x (e | ⟨j, hj, q⟩)
   ·exact e ▸ hfr _ hbS
   ·by_cases e : j = i
    ·rw [if_pos e] at q; exact sM.none' (fn x q)
    ·rw [if_neg e] at q
     rw [List.length_set] at hj
     exact hfr x ((D.dom x).2 (.inr ⟨j, hj, q⟩))
 ·have hi' : i = l.length := by omega
  subst hi'
  rw [List.take_length, List.drop_of_length_le (by simp), List.append_nil] at hd
  exact .of (k M' V S sM hd hfr)
end Go.Proofs.YtjioiemhgbkbfaaGreatDoor
end
