/- Parts of the proof, put together: ZH2, Y8B, ZK0, ZK, Q11, Q12, Q13, ZT. -/
import Derived.Test.YtgbapakcfmgahaaGreatDoorK1322
import Derived.Test.YtgbapakcfmgahaaGreatDoorK1318
import Derived.Test.YtgbapakcfmgahaaGreatDoorK1319
import Derived.Test.YtgbapakcfmgahaaGreatDoorK1314
import Derived.Test.YtgbapakcfmgahaaGreatDoorK136
import Derived.Test.YtgbapakcfmgahaaGreatDoorK1321
import Derived.Test.YtgbapakcfmgahaaGreatDoorK1320
set_option linter.unusedVariables false
set_option linter.unusedSimpArgs false
set_option linter.defProp false
section
set_option maxRecDepth 20000
attribute [local irreducible] Go.Tk.vc Go.Tk.vops Go.Tk.vdr Go.Tk.vop Go.Tk.vfl Go.Tk.HCalls
namespace Go.Proofs.YtgbapakcfmgahaaGreatDoor
open Go Go.Tk
set_option maxHeartbeats 1000000 in
theorem deskOf_c {h : H} {jo : Nat} {g : DGate} {lg lv wy : Value} (r : sGate h g lg lv wy) (hb : bGate g) {R : Ending -> H -> Prop}
  (k : ∀ M' jd rr a b c S es cl m, Tk.Sub h M' -> hget h jd = none -> hget h rr = none -> jd ≠ rr -> hget M' jd = some (blk (cDesk g a b c rr (sendF jo)) 67) -> WGate M' g a b c S -> (∀ x, S x -> hget h x = none /\ x ≠ jd) -> hget M' rr = some (.map es cl) -> mapO eTwo es m -> waysM m g.ways -> R (.returned (.pointer (some ⟨jd, 0, none⟩))) M') :
  HCalls Tryz.prog 24 #[.agg (cGate g lg lv wy).toArray, sendF jo] h R := by
 refine qB (args := [.agg (cGate g lg lv wy).toArray, sendF jo]) Tryz.func24 ir24 ?_
 obtain ⟨sf, hsf⟩ : ∃ sf, sf = sendF jo := ⟨_, rfl⟩
 have osf : vone sf = true := by rw [hsf]; rfl
 have vsf := vc1 osf
 rw [<- hsf] at k ⊢
 have bw := hb.ways
 unfold lim at bw
 simp only [wk, seval, zB]
 refine qA (o := blk (cGate g lg lv wy) 34) fun j2 h2 => ?_
 obtain ⟨A, hA⟩ : ∃ A, A = (j2, blk (cGate g lg lv wy) 34) :: h := ⟨_, rfl⟩
 have sA : Tk.Sub h A := by rw [hA]; exact Sub.cons h2 (Sub.refl _)
 have g2 : hget A j2 = some (blk (cGate g lg lv wy) 34) := by rw [hA]; exact qL _ _ _
 have r2 : qQ A j2 0 6 = some (cGate g lg lv wy) := qU g2 rfl
 rw [<- hA]
 simp only [wk, seval, zB, r2]
 refine implGateClone_c (r.sub sA) hb fun M a b c S sM w fS => ?_
 simp only [wk, seval, zB]
 refine raw_make fun rr hr => ?_
 have onea := WGate.one (e := g) w
 simp only [wk, seval, zB, osf, vsf, cGate, onea]
 refine qA (o := blk (cDesk g a b c rr sf) 67) fun jd hd => ?_
 have n := hd
 simp only [subs] at n
 have hdM : hget M jd = none := n.2
 obtain ⟨B, hB⟩ : ∃ B, B = (jd, blk (cDesk g a b c rr sf) 67) :: (rr, Obj.map #[] 0) :: M := ⟨_, rfl⟩
 have nrd : rr ≠ jd := fun e => n.1 e.symm
 have gB : hget B jd = some (blk (cDesk g a b c rr sf) 67) := by rw [hB]; exact qL _ _ _
 have mB : hget B rr = some (.map #[] 0) := by rw [hB, zN _ _ _ nrd]; exact qL _ _ _
 have sMB : Tk.Sub M B := by rw [hB]; exact Sub.cons hd (Sub.cons hr (Sub.refl _))
 have c25 : hcel B j2 5 = some wy := qH (sMB _ _ (sM _ _ g2)) rfl
 have eB : (jd, blk [.bool g.up, .int .i64 g.life, .int .i64 g.next, a, b, c, .map (some rr), sf] 67) :: (rr, Obj.map #[] 0) :: M = B := hB.symm
 rw [<- hB]
 simp only [wk, seval, c25, r.2.2.len]
 refine qS [17] (fun n vs M' => ∃ (i : Nat) (es : Array MapEntry) (cl : Nat) (m : List ((Int × Int) × Value)), vs = [.int .i64 i] /\ Tk.Sub M M' /\ hget M' jd = some (blk (cDesk g a b c rr sf) 67) /\ hget M' rr = some (.map es cl) /\ mapO eTwo es m /\ waysM m (g.ways.take i) /\ i <= g.ways.length /\ n = g.ways.length - i) g.ways.length rfl
  ⟨0, #[], 0, [], rfl, sMB, gB, mB, rfl, waysM_nil, by omega, rfl⟩ ?_
 rintro n f M' ⟨i, es, cl, m, hv, s, gd, gr, hmo, hwm, hi, rfl⟩
 simp only [lm4] at hv
 simp only [wk, seval, wr, hv]
 refine qF (fun q1 => ?_) fun q1 => ?_
 ·have hi2 : i < g.ways.length := by omega
  obtain ⟨bw', ow, hx, e⟩ := ls_at (enc := cWay) (sz := 2) (fun _ => rfl) (r.2.2.sub (sA.trans (sM.trans s))) hi2
  have zy := zWay_eq
  simp only [wk, seval, hx, e, wWay, zy]
  refine qA (o := blk (cWay zWay) 108) fun j7 h7 => ?_
  obtain ⟨N, hN⟩ : ∃ N, N = (j7, blk (cWay g.ways[i]) 108) :: M' := ⟨_, rfl⟩
  have sN : Tk.Sub M' N := by rw [hN]; exact Sub.cons h7 (Sub.refl _)
  have g7 : hget N j7 = some (blk (cWay g.ways[i]) 108) := by rw [hN]; exact qL _ _ _
  have c70 : hcel N j7 0 = some (.int .i64 g.ways[i].house) := qH g7 rfl
  have c71 : hcel N j7 1 = some (.int .i64 g.ways[i].stamp) := qH g7 rfl
  have c6 : hcel N jd 6 = some (.map (some rr)) := qH (sN _ _ gd) rfl
  have sNN := Sub.refl N
  try simp only [wk, seval, wWay]
  rw [<- hN]
  refine qY N (Sub.refl _) ?_
  simp only [wk, seval, c6, c70, c71, sNN]
  refine raw_build2 tTwoI zTwoI iInt (a := g.ways[i].house) (b := g.ways[i].stamp) (by simp only [wk, seval]) (by simp only [wk, seval]) ?_
  simp only [wk, seval, sNN]
  refine raw_update keyTwoI tMapTwo (k := (g.ways[i].house, g.ways[i].stamp)) (v := .int .i64 1) (by simp only [wk, seval]) (by simp only [wk, seval]; rfl) (by simp only [wk, seval]) (sN _ _ gr) hmo fun es' c' hmo' => ?_
  obtain ⟨N2, hN2⟩ : ∃ N2, N2 = hupd N rr (.map es' c') := ⟨_, rfl⟩
  have f2 : ∀ y, y ≠ rr -> hget N2 y = hget N y := fun y q => by rw [hN2, qG q]
  have g2r : hget N2 rr = some (.map es' c') := by rw [hN2]; exact qN (sN _ _ gr)
  rw [<- hN2]
  simp (disch := omega) only [wk, seval, qI]
  exact ⟨g.ways.length - (i + 1), by omega, _, .refl _, i + 1, es', c', _, by simp, fun y o e => by rw [f2 y (fun c => by rw [c, hr] at e; cases e)]; exact sN _ _ (s _ _ e), (f2 _ (Ne.symm nrd)).trans (sN _ _ gd), g2r, hmo', waysM_more hi2 hwm, by omega, rfl⟩
 ·have hi3 : i = g.ways.length := by omega
  rw [hi3, List.take_length] at hwm
  have w' := w.frame (M' := M') fun x q => Sub.eq s (w.in q)
  try simp only [wk, seval]
  exact .of (k M' jd rr a b c S es cl m (sA.trans (sM.trans s)) (sA.none' (sM.none' hdM)) (sA.none' (sM.none' hr)) (Ne.symm nrd) gd w' (fun x q => ⟨sA.none' (fS x q), fun e => w.in q (e ▸ hdM)⟩) gr hmo hwm)
end Go.Proofs.YtgbapakcfmgahaaGreatDoor
end

section
set_option maxRecDepth 20000
attribute [local irreducible] Go.Tk.vc Go.Tk.vops Go.Tk.vdr Go.Tk.vop Go.Tk.vfl Go.Tk.HCalls
namespace Go.Tk
open Go
theorem any_yes {l : List DTold} {i : Nat} {s : Int} (hi : i < l.length) (h : l[i].house = s) : (l.any fun t => decide (t.house = s)) = true := List.any_eq_true.2 ⟨l[i], List.getElem_mem hi, by simpa using h⟩
theorem any_no {l : List DTold} {s : Int} (h : ∀ p (hp : p < l.length), l[p].house ≠ s) : (l.any fun t => decide (t.house = s)) = false := by
 rw [List.any_eq_false]
 intro x hx
 obtain ⟨i, hi, rfl⟩ := List.getElem_of_mem hx
 simpa using h i hi
end Go.Tk
namespace Go.Proofs.YtgbapakcfmgahaaGreatDoor
open Go Go.Tk
theorem toldHouse_c {h : H} {d : DTold} {a : Value} {R : Ending -> H -> Prop} (k : R (.returned (.int .i64 d.house)) h) : HCalls Tryz.prog 28 #[.agg (zA d a).toArray] h R := by
 refine qB (args := [.agg (zA d a).toArray]) Tryz.func28 ir28 ?_
 simp only [wk, seval, wTold]
 refine qA (o := blk (zA d a) 54) fun j hj => ?_
 simp only [wk, seval, wTold]
 exact ⟨h, Sub.cons hj (Sub.refl h), k⟩
theorem placeTold1_c {h : H} {d : DTold} {a : Value} {s : Int} {j : Nat} (hj5 : hcel h j 0 = some (.func (.func 28) #[] #[])) {R : Ending -> H -> Prop} (k : R (.returned (.int .i64 (cmpI d.house s))) h) :
  HCalls Tryz.prog 64 #[.agg (zA d a).toArray, .int .i64 s, .pointer (some ⟨j, 0, none⟩)] h R := by
 refine qB (args := [.agg (zA d a).toArray, .int .i64 s, .pointer (some ⟨j, 0, none⟩)]) Tryz.func64 ir64 ?_
 simp only [wk, seval, wTold]
 refine qA (o := blk (zA d a) 54) fun j3 hj3 => ?_
 have hj5' : hcel ((j3, blk (zA d a) 54) :: h) j 0 = some (.func (.func 28) #[] #[]) := zT (Sub.cons hj3 (Sub.refl h)) hj5
 simp only [wk, seval, wTold, hj5']
 refine ⟨by kernel_rfl, toldHouse_c ?_⟩
 simp only [wk, seval, wTold]
 refine compare_c ?_
 simp only [wk, seval]
 exact ⟨h, Sub.cons hj3 (Sub.refl h), k⟩
theorem searchTold_c {h : H} {v : Value} {l : List DTold} {s : Int} {j : Nat} (r : rRs h (rTold h) 2 v l) (hl : l.length <= 1099511627776) (hr : risP (·.house) l) (hj5 : hcel h j 0 = some (.func (.func 28) #[] #[])) {R : Ending -> H -> Prop}
  (k : ∀ p : Nat, R (.returned (.tuple #[.int .i64 p, .bool (l.any fun t => decide (t.house = s))])) h) :
  HCalls Tryz.prog 63 #[v, .int .i64 s, .func (.func 64) #[] #[.pointer (some ⟨j, 0, none⟩)]] h R := by
 refine qB (args := [v, .int .i64 s, .func (.func 64) #[] #[.pointer (some ⟨j, 0, none⟩)]]) Tryz.func63 ir63 ?_
 simp only [wk, seval, r.len]
 refine qS [9, 10] (fun n vs h' => ∃ i q : Nat, vs = [.int .i64 i, .int .i64 q] /\ h' = h /\ i <= q /\ q <= l.length /\ n = q - i /\ (∀ p (hp : p < l.length), p < i -> l[p].house < s) /\ (∀ p (hp : p < l.length), q <= p -> s <= l[p].house)) l.length rfl
  ⟨0, l.length, rfl, rfl, by omega, by omega, rfl, fun p hp h => absurd h (Nat.not_lt_zero _), fun p hp h => by omega⟩ ?_
 rintro n f h' ⟨i, q, hv, rfl, hiq, hq, rfl, hlo, hhi⟩
 simp only [lm4] at hv
 simp only [wk, seval, wr, hv.1, hv.2, r.len]
 refine qF (fun c => ?_) fun c => ?_
 ·have hm : (i + q) / 2 < l.length := by omega
  have hw : IntKind.i64.wrap ((i : Int) + q) = (i : Int) + q := qI _ ⟨by omega, by omega⟩
  have hs := shr1 i q (by omega)
  obtain ⟨b, o, cs, hx, e, a1, rfl, sr⟩ := zU r hm
  simp only [wk, seval, hw, hs, hx, e]
  refine ⟨by kernel_rfl, placeTold1_c hj5 ?_⟩
  simp only [wk, seval]
  refine qF (fun c2 => ?_) fun c2 => ?_
  ·have h2 := cmpI_lt.1 c2
   simp (disch := omega) only [wk, seval, qI]
   refine ⟨q - ((i + q) / 2 + 1), by omega, _, .refl _, (i + q) / 2 + 1, q, by simp, rfl, by omega, hq, rfl, fun p hp hpi => ?_, hhi⟩
   by_cases e : p = (i + q) / 2
   ·subst e; exact h2
   ·have := risP_lt hr ((i + q) / 2) p hm (by omega)
    have : l[p].house < l[(i + q) / 2].house := this
    omega
  ·have h2 : ¬ l[(i + q) / 2].house < s := fun x => by have := cmpI_lt.2 x; omega
   refine ⟨(i + q) / 2 - i, by omega, _, .refl _, i, (i + q) / 2, rfl, rfl, by omega, by omega, rfl, hlo, fun p hp hpi => ?_⟩
   by_cases e : p = (i + q) / 2
   ·subst e; omega
   ·have := risP_lt hr p ((i + q) / 2) hp (by omega)
    have : l[(i + q) / 2].house < l[p].house := this
    omega
 ·have hiq2 : i = q := by omega
  subst hiq2
  refine qF (fun c2 => ?_) fun c2 => ?_
  ·have hi2 : i < l.length := by omega
   obtain ⟨b, o, cs, hx, e, a1, rfl, sr⟩ := zU r hi2
   simp only [wk, seval, hx, e]
   refine ⟨by kernel_rfl, placeTold1_c hj5 ?_⟩
   simp only [wk, seval]
   by_cases hne : l[i].house = s
   ·have := k i
    rw [any_yes hi2 hne] at this
    simp only [cmpI_eq.2 hne]
    exact .of this
   have := k i
   rw [any_no fun p hp => ?_] at this
   ·have c0 : ¬ cmpI l[i].house s = 0 := fun c => hne (cmpI_eq.1 c)
    simp only [c0, decide_false]
    exact .of this
   by_cases e : p = i
   ·subst e; exact hne
   ·by_cases e2 : p < i
    ·have := hlo p hp e2; omega
    ·have := risP_lt hr p i hp (by omega)
     have : l[i].house < l[p].house := this
     have := hhi i hi2 (by omega)
     omega
  ·try simp only [wk, seval]
   have := k i
   rw [any_no fun p hp => ?_] at this
   ·exact .of this
   have := hlo p hp (by omega)
   omega
theorem placeTold_c {h : H} {v : Value} {l : List DTold} {s : Int} (r : rRs h (rTold h) 2 v l) (hl : l.length <= 1099511627776) (hr : risP (·.house) l) {R : Ending -> H -> Prop}
  (k : ∀ p : Nat, R (.returned (.tuple #[.int .i64 p, .bool (l.any fun t => decide (t.house = s))])) h) :
  HCalls Tryz.prog 27 #[v, .int .i64 s, .func (.func 28) #[] #[]] h R := by
 refine qB (args := [v, .int .i64 s, .func (.func 28) #[] #[]]) Tryz.func27 ir27 ?_
 simp only [wk, seval]
 refine qA fun j hj => ?_
 simp only [wk, seval]
 refine searchTold_c ((r.subH (Sub.cons hj (Sub.refl h))).relImp fun _ _ x => rTold.sub (Sub.cons hj (Sub.refl h)) x) hl hr (by simp only [wk, seval]) fun p => ?_
 simp only [wk, seval]
 exact ⟨h, Sub.cons hj (Sub.refl h), k p⟩
end Go.Proofs.YtgbapakcfmgahaaGreatDoor
end

section
set_option maxRecDepth 20000
attribute [local irreducible] Go.Tk.vc Go.Tk.vops Go.Tk.vdr Go.Tk.vop Go.Tk.vfl Go.Tk.HCalls
namespace Go.Proofs.YtgbapakcfmgahaaGreatDoor
open Go Go.Tk
theorem indexI_c {h : H} {v : Value} {l : List Int} {a : Int} (r : rInts h v l) (hl : l.length <= 1048576) {R : Ending -> H -> Prop} (k1 : l.contains a = true -> ∀ n : Nat, R (.returned (.int .i64 n)) h) (k2 : l.contains a = false -> R (.returned (.int .i64 (-1))) h) : HCalls Tryz.prog 66 #[v, .int .i64 a] h R := by
 refine qB (args := [v, .int .i64 a]) Tryz.func66 ir66 ?_
 simp only [wk, seval, r.len]
 refine qS [8] (fun n vs h' => ∃ i : Nat, vs = [.int .i64 i] /\ h' = h /\ (l.take i).contains a = false /\ i <= l.length /\ n = l.length - i) l.length rfl ⟨0, rfl, rfl, rfl, by omega, rfl⟩ ?_
 rintro n f h' ⟨i, hv, rfl, hn, hi, rfl⟩
 simp only [lm4] at hv
 simp only [wk, seval, wr, hv, r.len]
 refine qF (fun c1 => ?_) fun c1 => ?_
 ·have hi2 : i < l.length := by omega
  obtain ⟨b, o, hx, e⟩ := ls_at (enc := eI) (sz := 1) (fun _ => rfl) r hi2
  have e0 : hcel h' b o = some (.int .i64 l[i]) := qW e 0 rfl
  simp only [wk, seval, hx, e0]
  by_cases d1 : a = l[i]
  ·have : l.contains a = true := by rw [List.contains_iff_mem, d1]; exact List.getElem_mem hi2
   simp only [wk, seval, d1, decide_true]
   exact .of (k1 this i)
  ·simp only [wk, seval, d1, decide_false]
   simp (disch := omega) only [wk, seval, qI]
   refine ⟨l.length - (i + 1), by omega, h', .refl _, i + 1, by simp, rfl, ?_, by omega, rfl⟩
   rw [List.take_succ_eq_append_getElem hi2, <- Bool.not_eq_true, List.contains_iff_mem]
   rw [<- Bool.not_eq_true, List.contains_iff_mem] at hn
   simp only [List.mem_append, List.mem_singleton]
   rintro (q | q)
   ·exact hn q
   ·exact d1 q
 ·have hi3 : i = l.length := by omega
  rw [hi3, List.take_length] at hn
  try simp only [wk, seval]
  exact .of (k2 hn)
theorem contains_c {h : H} {v : Value} {l : List Int} {a : Int} (r : rInts h v l) (hl : l.length <= 1048576) {R : Ending -> H -> Prop} (k : R (.returned (.bool (l.contains a))) h) : HCalls Tryz.prog 29 #[v, .int .i64 a] h R := by
 refine qB (args := [v, .int .i64 a]) Tryz.func29 ir29 ?_
 simp only [wk, seval]
 refine indexI_c r hl (fun e n => ?_) fun e => ?_
 ·rw [e] at k
  have e2 : decide (0 <= (n : Int)) = true := by simp
  have e3 : decide ((n : Int) ≥ 0) = true := by simp
  simp only [wk, seval, e2, e3]
  exact .of k
 ·rw [e] at k
  simp only [wk, seval]
  exact .of k
theorem rmv (M : H) (j : Nat) : ∃ B, Tk.Sub B M /\ hget B j = none /\ ∀ x, x ≠ j -> hget B x = hget M x := by
 have e : ∀ x, hget (hdel M [(j, .map #[] 0)]) x = if x = j then none else hget M x := fun x => by
  rw [hget_hdel, qX, hget_nil]
  by_cases c : x = j
  ·simp [c]
  ·simp [c]
 refine ⟨hdel M [(j, .map #[] 0)], fun x o q => ?_, by rw [e, if_pos rfl], fun x c => by rw [e, if_neg c]⟩
 rw [e] at q
 split at q
 ·cases q
 ·exact q
theorem tend_kind {c : DCall} (h : callOkP c) : c.kind = 1 ∨ c.kind = 2 := by
 rcases h.1.2.2 with q | q
 ·exact .inl q.1
 ·exact .inr q.1
end Go.Proofs.YtgbapakcfmgahaaGreatDoor
end

section
set_option maxRecDepth 20000
attribute [local irreducible] Go.Tk.vc Go.Tk.vops Go.Tk.vdr Go.Tk.vop Go.Tk.vfl Go.Tk.HCalls
namespace Go.Proofs.YtgbapakcfmgahaaGreatDoor
open Go Go.Tk
set_option maxHeartbeats 2000000 in
theorem implGateTend_c {h : H} {g : DGate} {lg lv wy : Value} (gl : Gl h) (gm : MxL h) (r : sGate h g lg lv wy) (hb : bGate g) {R : Ending -> H -> Prop}
  (k : ∀ M' v S, Tk.Sub h M' -> dR 57 WWord 17 M' v (gateTend zF g) S -> (∀ x, S x -> hget h x = none) -> R (.returned v) M') :
  HCalls Tryz.prog 7 #[.agg (cGate g lg lv wy).toArray] h R := by
 refine qB (args := [.agg (cGate g lg lv wy).toArray]) Tryz.func7 ir7 ?_
 simp only [wk, seval, zB]
 refine qA (o := blk (cGate g lg lv wy) 34) fun j1 h1 => ?_
 obtain ⟨A0, hA0⟩ : ∃ A0, A0 = (j1, blk (cGate g lg lv wy) 34) :: h := ⟨_, rfl⟩
 have sA0 : Tk.Sub h A0 := by rw [hA0]; exact Sub.cons h1 (Sub.refl _)
 have g1 : hget A0 j1 = some (blk (cGate g lg lv wy) 34) := by rw [hA0]; exact qL _ _ _
 have ra : qQ A0 j1 0 6 = some (cGate g lg lv wy) := qU g1 rfl
 have c0 : hcel A0 j1 0 = some (.bool g.up) := qH g1 rfl
 rw [<- hA0]
 simp only [wk, seval, zB, ra]
 refine implGateOk_c (gl.sub sA0) (gm.sub sA0) (r.sub sA0) hb fun q hq => ?_
 cases q with
 | false =>
  have hno : ¬ (gateOkP g /\ g.up = true) := fun c => zG hq rfl c.1
  simp only [wk, seval]
  have e : gateTend zF g = [] := by unfold gateTend; rw [if_neg hno]
  try simp only [wk, seval]
  exact .of (k A0 _ (fun _ => False) sA0 (by rw [e]; exact dR.nil) fun _ q => q.elim)
 | true =>
 have hok := hq.1 rfl
 simp only [wk, seval, c0]
 obtain ⟨u, hu⟩ : ∃ u, u = g.up := ⟨_, rfl⟩
 rw [<- hu]
 cases u with
 | false =>
  have hno : ¬ (gateOkP g /\ g.up = true) := fun c => by rw [<- hu] at c; cases c.2
  simp only [wk, seval]
  have e : gateTend zF g = [] := by unfold gateTend; rw [if_neg hno]
  try simp only [wk, seval]
  exact .of (k A0 _ (fun _ => False) sA0 (by rw [e]; exact dR.nil) fun _ q => q.elim)
 | true =>
 have e : gateTend zF g = g.lives.flatMap (tendLive zF g) := by unfold gateTend; rw [if_pos ⟨hok, hu.symm⟩]
 rw [e] at k
 have bv := hb.lives
 have bl := hb.log
 unfold lim at bv bl
 simp only [wk, seval]
 refine qA (o := blk [.slice none 0 0] 28) fun jo ho => ?_
 obtain ⟨A1, hA1⟩ : ∃ A1, A1 = (jo, blk [.slice none 0 0] 28) :: A0 := ⟨_, rfl⟩
 have sA1 : Tk.Sub A0 A1 := by rw [hA1]; exact Sub.cons ho (Sub.refl _)
 have gjo1 : hget A1 jo = some (blk [.slice none 0 0] 28) := by rw [hA1]; exact qL _ _ _
 have ra1 : qQ A1 j1 0 6 = some (cGate g lg lv wy) := qU (sA1 _ _ g1) rfl
 rw [<- hA1]
 simp only [wk, seval, zB, ra1]
 refine deskOf_c (jo := jo) (r.sub (sA0.trans sA1)) hb fun M jd rr a b c S0 es cl m sM njd nrr ne gdM w fS grM hmo hwm => ?_
 have hjdo : jd ≠ jo := fun c => by rw [c, gjo1] at njd; cases njd
 have hrro : rr ≠ jo := fun c => by rw [c, gjo1] at nrr; cases nrr
 obtain ⟨B, sB, nB, eB⟩ := rmv M jo
 have gd : hget B jd = some (blk (cDesk g a b c rr (sendF jo)) 67) := (eB _ hjdo).trans gdM
 have gr : hget B rr = some (.map es cl) := (eB _ hrro).trans grM
 have wB := w.frame (M' := B) fun x q => eB x (fun c => by have := (fS x q).1; rw [c, gjo1] at this; cases this)
 have sAB : Tk.Sub A0 B := fun x o e => by rw [eB x (fun c => by rw [c, ho] at e; cases e)]; exact sM _ _ (sA1 _ _ e)
 have rB := wB.rd
 have rv := rB.2.1
 have c4 : hcel M jd 4 = some b := qH gdM rfl
 simp only [wk, seval, c4, rv.len]
 refine qS [28] (fun n vs M' => ∃ (i : Nat) (v : Value) (S : Nat -> Prop), vs = [.int .i64 i] /\ Tk.Sub B M' /\ hget M' jo = some (blk [v] 28) /\ dR 57 WWord 17 M' v ((g.lives.take i).flatMap (tendLive zF g)) S /\ (∀ x, S x -> hget B x = none /\ x ≠ jo) /\ i <= g.lives.length /\ n = g.lives.length - i) g.lives.length rfl
  ⟨0, _, (fun _ => False), rfl, sB, sM _ _ gjo1, dR.nil, fun _ q => q.elim, by omega, rfl⟩ ?_
 rintro n f' M' ⟨i, v, S, hv, s, gjo, dS, fS', hi', rfl⟩
 simp only [lm4] at hv
 simp only [wk, seval, wr, hv]
 refine qF (fun q1 => ?_) fun q1 => ?_
 ·have hi2 : i < g.lives.length := by omega
  obtain ⟨b', oo, cs, hx, e1, va, vb, rfl, ra', rb⟩ := zU rv hi2
  have e1 := hread_sub s e1
  have z1 := zLive_eq
  try simp only [str] at z1
  obtain ⟨d, hd⟩ : ∃ d, d = g.lives[i] := ⟨_, rfl⟩
  have hbd : bLive d := hd ▸ hb.live _ (List.getElem_mem hi2)
  have hlp : liveP d g.next := hd ▸ (hok.2.2.2.1.2.1 _ (List.getElem_mem hi2)).1
  have hkd := tend_kind hlp.2.2.2.2.1
  have hrt : risP (·.house) d.told := hlp.2.2.2.2.2.2.2.1.2
  have bll := hbd.l
  have bt := hbd.t
  have bc := hbd.c
  unfold lim at bll bt
  unfold bCall lim at bc
  rw [<- hd] at ra' rb e1
  have oneL : (qE d va vb).all vone = true := by simp only [qE, List.all_cons, List.all_nil, ra'.one, rb.one]; rfl
  simp only [wk, seval, hx, e1, wLive, str, z1]
  refine qA (o := blk (qE zLive (.slice none 0 0) (.slice none 0 0)) 50) fun j6 h6 => ?_
  try simp only [wk, seval, wLive, str, z1, oneL]
  obtain ⟨N0, hN0⟩ : ∃ N0, N0 = (j6, blk (qE d va vb) 50) :: M' := ⟨_, rfl⟩
  have sN0 : Tk.Sub M' N0 := by rw [hN0]; exact Sub.cons h6 (Sub.refl _)
  have g60 : hget N0 j6 = some (blk (qE d va vb) 50) := by rw [hN0]; exact qL _ _ _
  have c60 : hcel N0 j6 0 = some (.int .i64 d.stamp) := qH g60 rfl
  rw [<- hN0]
  try simp only [wk, seval, wLive, c60]
  refine housesTo_c (s := d.stamp) (sN0 _ _ (s _ _ gd)) (sN0 _ _ (s _ _ gr)) hmo hwm fun M1 t6 Sw s1 u6 fw => ?_
  have n6B : hget B j6 = none := s.none' h6
  have n6o : j6 ≠ jo := fun c => by rw [c, gjo] at h6; cases h6
  have dS1 : dR 57 WWord 17 M1 v ((g.lives.take i).flatMap (tendLive zF g)) S := dS.frame WWord.fr fun x q => Sub.eq (sN0.trans s1) (dS.in WWord.in q)
  have fw6 : ∀ x, Sw x -> x ≠ j6 := fun x q c => by have := fw x q; rw [c, g60] at this; cases this
  have fwo : ∀ x, Sw x -> x ≠ jo := fun x q c => by have := fw x q; rw [c, sN0 _ _ gjo] at this; cases this
  have fwB : ∀ x, Sw x -> hget B x = none := fun x q => (s.trans sN0).none' (fw x q)
  have fS1 : ∀ x, S x -> hget B x = none /\ x ≠ jo /\ x ≠ j6 /\ ¬ Sw x := fun x q => ⟨(fS' x q).1, (fS' x q).2, fun c => dS.in WWord.in q (c ▸ h6), fun c => dS.in WWord.in q (sN0.none' (fw x c))⟩
  obtain ⟨L0, hL0⟩ : ∃ L0, L0 = (g.lives.take i).flatMap (tendLive zF g) := ⟨_, rfl⟩
  obtain ⟨ys, hys⟩ : ∃ ys, ys = waysTo g.ways d.stamp := ⟨_, rfl⟩
  rw [<- hL0] at dS1
  rw [<- hys] at u6
  have hyl : ys.length <= 3 := by rw [hys]; exact List.length_filter_le _ _
  have a1 := flatMap_le (tendLive zF g) 3 (fun x => tendLive_le zF g x) (g.lives.take i)
  rw [<- hL0, List.length_take] at a1
  try simp only [wk, seval, u6.rd.len]
  refine qS [37] (fun n vs M2 => ∃ (kk : Nat) (v' : Value) (S' : Nat -> Prop), vs = [.int .i64 kk] /\ Tk.Sub B M2 /\ hget M2 j6 = some (blk (qE d va vb) 50) /\ dL 3 eI 1 M2 t6 ys Sw /\ hget M2 jo = some (blk [v'] 28) /\ dR 57 WWord 17 M2 v' (L0 ++ (ys.take kk).flatMap (zS g.log (zF d.call) d)) S' /\
   (∀ x, S' x -> hget B x = none /\ x ≠ jo /\ x ≠ j6 /\ ¬ Sw x) /\ kk <= ys.length /\ n = ys.length - kk) ys.length rfl
   ⟨0, v, S, rfl, s.trans (sN0.trans s1), s1 _ _ g60, u6, s1 _ _ (sN0 _ _ gjo), by simpa using dS1, fS1, by omega, rfl⟩ ?_
  rintro n f2 M2 ⟨kk, v', S', hv2, s2, g6, u6', gjo, dW, fW, hk, rfl⟩
  simp only [lm4] at hv2
  simp only [wk, seval, wr, hv2]
  refine qF (fun q2 => ?_) fun q2 => ?_
  ·have hk2 : kk < ys.length := by omega
   obtain ⟨b6, o6, hx6, e6⟩ := ls_at (enc := eI) (sz := 1) (fun _ => rfl) u6'.rd hk2
   obtain ⟨hh, hhh⟩ : ∃ hh, hh = ys[kk] := ⟨_, rfl⟩
   have e6' : hcel M2 b6 o6 = some (.int .i64 hh) := by rw [hhh]; exact qW e6 0 rfl
   have c611 : hcel M2 j6 11 = some vb := qH g6 rfl
   have c63 : hcel M2 j6 3 = some (.int .i64 d.phase) := qH g6 rfl
   have c610 : hcel M2 j6 10 = some va := qH g6 rfl
   have rbM := (rb.subH s2).relImp fun _ _ q => rTold.sub s2 q
   have htk := flatMap_more (zS g.log (zF d.call) d) hk2
   rw [<- hhh] at htk
   have skip : zS g.log (zF d.call) d hh = [] -> dR 57 WWord 17 M2 v' (L0 ++ (ys.take (kk + 1)).flatMap (zS g.log (zF d.call) d)) S' := fun e => by rw [htk, e, List.append_nil]; exact dW
   have hll : (L0 ++ (ys.take kk).flatMap (zS g.log (zF d.call) d)).length <= 4194304 := by
    have a2 := flatMap_le (zS g.log (zF d.call) d) 1 (fun a => tendAt_le _ _ _ a) (ys.take kk)
    rw [List.length_take] at a2
    rw [List.length_append]; omega
   simp only [wk, seval, hx6, e6', wLive, c611]
   refine placeTold_c (s := hh) rbM (by omega) hrt fun p => ?_
   obtain ⟨bb, hbb⟩ : ∃ bb, bb = d.told.any fun t => decide (t.house = hh) := ⟨_, rfl⟩
   rw [<- hbb]
   simp only [wk, seval, wLive, c63]
   by_cases p1 : d.phase = 1
   ·simp only [wk, seval, p1, decide_true, wLive, c610]
    refine contains_c (ra'.sub s2) (by omega) ?_
    obtain ⟨lk, hlk⟩ : ∃ lk, lk = d.locked.contains hh := ⟨_, rfl⟩
    rw [<- hlk]
    cases lk with
    | true =>
     have hte : zS g.log (zF d.call) d hh = [] := by unfold zS; rw [if_neg (fun c => by rw [<- hlk] at c; cases c.2), if_neg (fun c => by omega)]
     simp only [wk, seval, c63, p1]
     try simp (disch := omega) only [wk, seval, qI]
     exact ⟨ys.length - (kk + 1), by omega, _, .refl _, kk + 1, v', S', by simp, s2, g6, u6', gjo, skip hte, fW, by omega, rfl⟩
    | false =>
     simp only [wk, seval]
     obtain ⟨HR, hHR⟩ : ∃ HR, HR = (j6, blk (qE d va vb) 50) :: B := ⟨_, rfl⟩
     have sHR : Tk.Sub HR M2 := by rw [hHR]; exact Sub.cons_of g6 s2
     have sBH : Tk.Sub B HR := by rw [hHR]; exact Sub.cons n6B (Sub.refl B)
     have c7H : hcel HR jd 7 = some (.func (.func 25) #[] #[.pointer (some ⟨jo, 0, none⟩)]) := qH (sBH _ _ gd) rfl
     have c3H : hcel HR jd 3 = some a := qH (sBH _ _ gd) rfl
     have r6H : qQ HR j6 0 12 = some (qE d va vb) := qU (by rw [hHR]; exact qL _ _ _) rfl
     have sh2 : Tk.Sub h M2 := sA0.trans (sAB.trans s2)
     refine qY HR sHR ?_
     simp only [wk, seval, wLive, c7H, c3H, r6H, sHR]
     refine lockWord_c (gl.sub sh2) (gm.sub sh2) ((rB.1.subH s2).relImp fun _ _ q => rRecord.sub s2 q) bl (by omega) hkd fun M3 w9 S9 sl O9 s3 u9 f9 => ?_
     have sHR3 := sHR.trans s3
     have hsl := slotsF_eq O9
     obtain ⟨LW, hLW⟩ : ∃ LW, LW = lockW g.log sl d hh := ⟨_, rfl⟩
     rw [<- hLW] at u9 ⊢
     have ww : WWord M3 (qK LW w9 (.slice none 0 0) (.slice none 0 0)) LW S9 := WWord.slots u9 (by rw [hLW]; rfl) (by rw [hLW]; rfl)
     have hte : zS g.log (zF d.call) d hh = [LW] := by unfold zS; rw [if_pos ⟨p1, hlk.symm⟩, hsl, hLW]
     have dW3 := dW.frame (M' := M3) WWord.fr fun y q => Sub.eq s3 (dW.in WWord.in q)
     simp only [wk, seval, zV, sHR3]
     refine ⟨by kernel_rfl, send_c (s3 _ _ gjo) dW3 (fun q => (fW jo q).2.1 rfl) ww (fun y q => ⟨fun c => dW.in WWord.in c (f9 y q), fun c => by have := f9 y q; rw [c, gjo] at this; cases this⟩) hll fun M5 v5 S5 gjo5 d5 nj5 k5 f5 => ?_⟩
     have kk5 : ∀ y, hget M2 y ≠ none -> ¬ S' y -> y ≠ jo -> hget M5 y = hget M2 y := fun y a1 a2 a3 => by rw [k5 y (by rw [Sub.eq s3 a1]; exact a1) a2 a3, Sub.eq s3 a1]
     have sB5 : Tk.Sub B M5 := fun y o e => by rw [kk5 y (by rw [s2 _ _ e]; simp) (fun q => by rw [(fW y q).1] at e; cases e) (fun c => by rw [c, nB] at e; cases e)]; exact s2 _ _ e
     have g65 : hget M5 j6 = some (blk (qE d va vb) 50) := (kk5 j6 (by rw [g6]; simp) (fun q => (fW j6 q).2.2.1 rfl) n6o).trans g6
     have u65 := u6'.frame (M' := M5) fun y q => kk5 y (u6'.in q) (fun c => (fW y c).2.2.2 q) (fwo y q)
     have new5 : ∀ y, hget M2 y = none -> hget B y = none /\ y ≠ jo /\ y ≠ j6 /\ ¬ Sw y := fun y c => ⟨s2.none' c, fun e => (by rw [e, gjo] at c; cases c), fun e => (by rw [e, g6] at c; cases c), fun e => u6'.in e c⟩
     have fr5 : ∀ y, S5 y -> hget B y = none /\ y ≠ jo /\ y ≠ j6 /\ ¬ Sw y := fun y q => by
      rcases f5 y q with c | c | c
      ·exact fW y c
      ·exact new5 y (f9 y c)
      ·exact new5 y (s3.none' c)
     have d5' : dR 57 WWord 17 M5 v5 (L0 ++ (ys.take (kk + 1)).flatMap (zS g.log (zF d.call) d)) S5 := by rw [htk, hte, <- List.append_assoc]; exact d5
     have sHR5 : Tk.Sub HR M5 := by rw [hHR]; exact Sub.cons_of g65 sB5
     simp only [wk, seval, sHR5]
     try simp (disch := omega) only [wk, seval, qI]
     exact ⟨ys.length - (kk + 1), by omega, _, .refl _, kk + 1, v5, S5, by simp, sB5, g65, u65, gjo5, d5', fr5, by omega, rfl⟩
   ·simp only [wk, seval, p1, decide_false, wLive, c63]
    by_cases p2 : d.phase = 2
    ·cases bb with
     | true =>
      have hte : zS g.log (zF d.call) d hh = [] := by unfold zS; rw [if_neg (fun c => p1 c.1), if_neg (fun c => by rw [<- hbb] at c; cases c.2)]
      simp only [wk, seval, p2, decide_true]
      try simp (disch := omega) only [wk, seval, qI]
      exact ⟨ys.length - (kk + 1), by omega, _, .refl _, kk + 1, v', S', by simp, s2, g6, u6', gjo, skip hte, fW, by omega, rfl⟩
     | false =>
      have c60' : hcel M2 j6 0 = some (.int .i64 d.stamp) := qH g6 rfl
      have c61 : hcel M2 j6 1 = some (.int .i64 d.try_) := qH g6 rfl
      simp only [wk, seval, p2, decide_true, wLive, c60', c61]
      obtain ⟨LW, hLW⟩ : ∃ LW, LW = promW d hh := ⟨_, rfl⟩
      have hte : zS g.log (zF d.call) d hh = [LW] := by unfold zS; rw [if_neg (fun c => p1 c.1), if_pos ⟨p2, hbb.symm⟩, hLW]
      refine word_c (s2 _ _ gd) gjo dW (fun q => (fW jo q).2.1 rfl) hll (w := LW) (by rw [hLW]; rfl) fun M5 v5 S5 gjo5 d5 nj5 kk5 f5 => ?_
      have sB5 : Tk.Sub B M5 := fun y o e => by rw [kk5 y (by rw [s2 _ _ e]; simp) (fun q => by rw [(fW y q).1] at e; cases e) (fun c => by rw [c, nB] at e; cases e)]; exact s2 _ _ e
      have g65 : hget M5 j6 = some (blk (qE d va vb) 50) := (kk5 j6 (by rw [g6]; simp) (fun q => (fW j6 q).2.2.1 rfl) n6o).trans g6
      have u65 := u6'.frame (M' := M5) fun y q => kk5 y (u6'.in q) (fun c => (fW y c).2.2.2 q) (fwo y q)
      have new5 : ∀ y, hget M2 y = none -> hget B y = none /\ y ≠ jo /\ y ≠ j6 /\ ¬ Sw y := fun y c => ⟨s2.none' c, fun e => (by rw [e, gjo] at c; cases c), fun e => (by rw [e, g6] at c; cases c), fun e => u6'.in e c⟩
      have fr5 : ∀ y, S5 y -> hget B y = none /\ y ≠ jo /\ y ≠ j6 /\ ¬ Sw y := fun y q => by
       rcases f5 y q with c | c
       ·exact fW y c
       ·exact new5 y c
      have d5' : dR 57 WWord 17 M5 v5 (L0 ++ (ys.take (kk + 1)).flatMap (zS g.log (zF d.call) d)) S5 := by rw [htk, hte, <- List.append_assoc]; exact d5
      try simp only [wk, seval]
      try simp (disch := omega) only [wk, seval, qI]
      exact ⟨ys.length - (kk + 1), by omega, _, .refl _, kk + 1, v5, S5, by simp, sB5, g65, u65, gjo5, d5', fr5, by omega, rfl⟩
    ·have hte : zS g.log (zF d.call) d hh = [] := by unfold zS; rw [if_neg (fun c => p1 c.1), if_neg (fun c => p2 c.1)]
     simp only [wk, seval, p2, decide_false]
     try simp (disch := omega) only [wk, seval, qI]
     exact ⟨ys.length - (kk + 1), by omega, _, .refl _, kk + 1, v', S', by simp, s2, g6, u6', gjo, skip hte, fW, by omega, rfl⟩
  ·have hk3 : kk = ys.length := by omega
   rw [hk3, List.take_length] at dW
   simp (disch := omega) only [wk, seval, qI]
   refine ⟨g.lives.length - (i + 1), by omega, _, .refl _, i + 1, v', S', by simp, s2, gjo, ?_, fun x q => ⟨(fW x q).1, (fW x q).2.1⟩, by omega, rfl⟩
   rw [flatMap_more _ hi2, <- hL0, <- hd]
   unfold tendLive
   rw [<- hys]; exact dW
 ·have hi3 : i = g.lives.length := by omega
  rw [hi3, List.take_length] at dS
  have cjo : hcel M' jo 0 = some v := qH gjo rfl
  simp only [wk, seval, cjo]
  exact .of (k M' v S (sA0.trans (sAB.trans s)) dS fun x q => sA0.none' (sAB.none' (fS' x q).1))
end Go.Proofs.YtgbapakcfmgahaaGreatDoor
end

section
set_option maxRecDepth 20000
attribute [local irreducible] Go.Tk.vc Go.Tk.vops Go.Tk.vdr Go.Tk.vop Go.Tk.vfl Go.Tk.HCalls
namespace Go.Proofs.YtgbapakcfmgahaaGreatDoor
open Go Go.Tk
theorem eqWord_c {h : H} {x y : DWord} {s p v s' p' v' : Value} (rx : sWord h x s p v) (ry : sWord h y s' p' v') (hx : wLen x) {R : Ending -> H -> Prop} (k : R (.returned (.bool (decide (x = y)))) h) :
  HCalls Tryz.prog 32 #[.agg (qK x s p v).toArray, .agg (qK y s' p' v').toArray] h R := by
 refine qB (args := [.agg (qK x s p v).toArray, .agg (qK y s' p' v').toArray]) Tryz.func32 ir32 ?_
 simp only [wk, seval, zV]
 refine qA fun j1 h1 => ?_
 simp only [wk, seval, zV, zE]
 refine qA fun j2 h2 => ?_
 have n := fresh h2
 simp only [wk, seval, zV, zE, n.1, n.2.1]
 have sb := fun o => Sub.cons (o := o) h2 (Sub.cons h1 (Sub.refl h))
 refine zK (fun d => ⟨h, Sub.cons h2 (Sub.cons h1 (Sub.refl h)), kF k (fun e => d (by rw [e]))⟩) fun d0 => ?_
 refine zK (fun d => ⟨h, Sub.cons h2 (Sub.cons h1 (Sub.refl h)), kF k (fun e => d (by rw [e]))⟩) fun d1 => ?_
 refine zK (fun d => ⟨h, Sub.cons h2 (Sub.cons h1 (Sub.refl h)), kF k (fun e => d (by rw [e]))⟩) fun d2 => ?_
 refine zK (fun d => ⟨h, Sub.cons h2 (Sub.cons h1 (Sub.refl h)), kF k (fun e => d (by rw [e]))⟩) fun d3 => ?_
 refine zK (fun d => ⟨h, Sub.cons h2 (Sub.cons h1 (Sub.refl h)), kF k (fun e => d (by rw [e]))⟩) fun d4 => ?_
 refine zK (fun d => ⟨h, Sub.cons h2 (Sub.cons h1 (Sub.refl h)), kF k (fun e => d (by rw [e]))⟩) fun d5 => ?_
 refine ite_eqb (fun d => ⟨h, Sub.cons h2 (Sub.cons h1 (Sub.refl h)), kF k (fun e => d (by rw [e]))⟩) fun d6 => ?_
 refine eqIntS_c (rx.1.sub (sb _)) (ry.1.sub (sb _)) hx.1 ?_
 simp only [wk, seval, zV, zE]
 refine zK (fun d => ⟨h, Sub.cons h2 (Sub.cons h1 (Sub.refl h)), kF k (fun e => d (by rw [e]))⟩) fun d7 => ?_
 simp only [n.1, n.2.1, wk, seval, zV, zE]
 refine eqPairS_c (rx.2.1.sub (sb _)) (ry.2.1.sub (sb _)) hx.2.1 ?_
 simp only [wk, seval, zV, zE, n.1, n.2.1]
 refine zK (fun d => ⟨h, Sub.cons h2 (Sub.cons h1 (Sub.refl h)), kF k (fun e => d (by rw [e]))⟩) fun d8 => ?_
 refine zK (fun d => ⟨h, Sub.cons h2 (Sub.cons h1 (Sub.refl h)), kF k (fun e => d (by rw [e]))⟩) fun d9 => ?_
 refine eqIntS_c (rx.2.2.sub (sb _)) (ry.2.2.sub (sb _)) hx.2.2 ?_
 simp only [wk, seval, zV, zE, n.1, n.2.1]
 refine zK (fun d => ⟨h, Sub.cons h2 (Sub.cons h1 (Sub.refl h)), kF k (fun e => d (by rw [e]))⟩) fun d10 => ?_
 refine eqCall_c (x := x.call) (y := y.call) ?_
 simp only [wk, seval, zV, zE]
 refine zK (fun d => ⟨h, Sub.cons h2 (Sub.cons h1 (Sub.refl h)), kF k (fun e => d (by rw [e]))⟩) fun d11 => ?_
 refine ⟨h, Sub.cons h2 (Sub.cons h1 (Sub.refl h)), kT k ?_⟩
 cases x; cases y; simp_all
theorem eqWordS_c {h : H} {a b : Value} {la lb : List DWord} (ra : rRs h (rWord h) 17 a la) (rb : rRs h (rWord h) 17 b lb) (hb : ∀ x ∈ la, wLen x) (ha : la.length <= 1099511627776) {R : Ending -> H -> Prop} (k : R (.returned (.bool (decide (la = lb)))) h) :
  HCalls Tryz.prog 8 #[a, b] h R := by
 refine qB (args := [a, b]) Tryz.func8 ir8 ?_
 simp only [wk, seval, ra.len, rb.len]
 split
 ·rename_i c
  exact .of (kF k fun e => c (by rw [e]))
 ·rename_i c
  have hl : la.length = lb.length := by omega
  refine qS [5] (fun n vs h' => ∃ i : Nat, vs = [.int .i64 i] /\ h' = h /\ i <= la.length /\ n = la.length - i /\ la.take i = lb.take i) la.length rfl ⟨0, rfl, rfl, by omega, by omega, by simp⟩ ?_
  rintro n f h' ⟨i, hv, rfl, hi, rfl, ht⟩
  simp only [lm4] at hv
  simp only [wk, seval, wr, hv, ra.len, rb.len]
  split
  ·rename_i c1
   have hia : i < la.length := by omega
   have hib : i < lb.length := by omega
   obtain ⟨b1, o1, cs1, hx1, e1, v1, v2, v3, rfl, s1⟩ := zU ra hia
   obtain ⟨b2, o2, cs2, hx2, e2, w1, w2, w3, rfl, s2⟩ := zU rb hib
   refine qY h' (Sub.refl _) ?_
   simp only [wk, seval, hx1, hx2, e1, e2, Sub.refl h']
   refine eqWord_c s1 s2 (hb _ (List.getElem_mem hia)) ?_
   simp only [wk, seval, Sub.refl h']
   refine zK (fun d => .of (kF k (ne_at hia hib d))) fun d => ?_
   simp (disch := omega) only [qI]
   exact ⟨la.length - (i + 1), by omega, h', .refl _, i + 1, by simp, rfl, by omega, rfl, take_more hia hib ht d⟩
  ·rename_i c1
   exact .of (kT k (take_all (by omega) hl ht))
end Go.Proofs.YtgbapakcfmgahaaGreatDoor
end

section
set_option maxRecDepth 20000
attribute [local irreducible] Go.Tk.vc Go.Tk.vops Go.Tk.vdr Go.Tk.vop Go.Tk.vfl Go.Tk.HCalls
namespace Go.Proofs.YtgbapakcfmgahaaGreatDoor
open Go Go.Tk
set_option maxHeartbeats 1000000 in
theorem markWordS_c {M : H} {v : Value} {l : List DWord} {S : Nat -> Prop} {k : Int} (d : dR 57 WWord 17 M v l S) (hl : sumL cnWd l <= 33554432) (hk : 1 <= k /\ k <= 1073741824) {R : Ending -> H -> Prop}
  (kr : ∀ M', dR 57 WWord 17 M' v (mkL (mkWd mT) cnWd k l) S -> Ch S M M' -> R (.returned (.int .i64 (k + sumL cnWd l))) M') : HCalls Tryz.prog 11 #[v, .int .i64 k] M R := by
 refine qB (args := [v, .int .i64 k]) Tryz.func11 ir11 ?_
 have hlen : ∀ {f : Value -> Prop}, lenSK v f = f (.int .i64 l.length) := by rcases d with ⟨rfl, rfl, _⟩ | ⟨b, cap, css, sp, Ss, rfl, _⟩ <;> exact fun {f} => rfl
 have hll0 : l.length <= 33554432 := by
  have h2 : l.length <= sumL cnWd l := by
   clear hlen d kr hl
   induction l with
   | nil => simp
   | cons a l ih => simp only [List.length_cons, sumL]; have : 1 <= cnWd a := by unfold cnWd; omega
                    omega
  omega
 simp only [wk, seval]
 refine qS [5, 1] (fun n vs M' => ∃ (i : Nat), vs = [.int .i64 i, .int .i64 (k + sumL cnWd (l.take i))] /\ Ch S M M' /\ dR 57 WWord 17 M' v (mkL (mkWd mT) cnWd k (l.take i) ++ l.drop i) S /\ i <= l.length /\ n = l.length - i) l.length rfl ⟨0, by simp [sumL], Ch.refl _ _, by simpa [mkL] using d, by omega, rfl⟩ ?_
 rintro n f M' ⟨i, hv, hch, hd, hi, rfl⟩
 simp only [lm4] at hv
 simp only [wk, seval, wr, hv.1, hv.2, hlen]
 refine qF (fun c1 => ?_) fun c1 => ?_
 ·have hi2 : i < l.length := by omega
  have hset := mkL_set (mkWd mT) cnWd k l i hi2
  have hsum := sumL_more cnWd hi2
  have hle := sumL_take cnWd l (i + 1)
  obtain ⟨L, hL⟩ : ∃ L, L = mkL (mkWd mT) cnWd k (l.take i) ++ l.drop i := ⟨_, rfl⟩
  have hll : L.length = l.length := by rw [hL, List.length_append, mkL_len, List.length_take, List.length_drop]; omega
  have hcur : ∀ h2 : i < L.length, L[i] = l[i] := by subst hL; exact fun h2 => mkL_cur (mkWd mT) cnWd k l i hi2 h2
  obtain ⟨q, hq⟩ : ∃ q : Int, q = k + sumL cnWd (l.take i) := ⟨_, rfl⟩
  rw [<- hL] at hd hset
  rw [<- hq] at hset ⊢
  rcases hd with ⟨_, e0, _⟩ | ⟨b, cap, css, sp, Ss, hv0, hc, hs, D⟩
  ·rw [e0] at hll; simp at hll; omega
  have hiL : i < L.length := by omega
  obtain ⟨A, B, hAB, hA, hset2⟩ := D.split hiL
  have hW := D.el i (by rw [D.len]; exact hiL) hiL
  rw [hcur hiL] at hW
  obtain ⟨E, hE⟩ : ∃ E, E = l[i] := ⟨_, rfl⟩
  rw [<- hE] at hW hset hsum
  have hcn : cnWd E = 14 + E.slots.length + 2 * E.pairs.length + E.vals.length := rfl
  have hqb : 1 <= q /\ q + cnWd E <= 1107296256 := by omega
  obtain ⟨v1, v2, v3, S1, S2, S3, hcs, w1, w2, w3, d12, d13, d23, su⟩ := hW
  have i1 : ∀ x, S1 x -> Ss i x := fun x q => (su x).2 (.inl q)
  have i2 : ∀ x, S2 x -> Ss i x := fun x q => (su x).2 (.inr (.inl q))
  have i3 : ∀ x, S3 x -> Ss i x := fun x q => (su x).2 (.inr (.inr q))
  have hx := idx_top (sz := 17) hv0 hiL
  have nbb : ∀ x, Ss i x -> x ≠ b := fun x hx e => D.nb i hiL (e ▸ hx)
  have g0 : Tk.hget M' b = some (blk (A ++ (qK E v1 v2 v3 ++ B)) 57) := by rw [D.get, hAB, hcs]
  have a0 : ∀ x, x ≠ b -> ¬ Ss i x -> Tk.hget M' x = Tk.hget M' x := fun _ _ _ => rfl
  have wr1_0 : ∀ d x, qT (slot M' b 57 A B (qK d v1 v2 v3)) b (i * 17) [x] = some (slot M' b 57 A B (qJ (qK d v1 v2 v3) 0 [x])) := fun d x => zQ (j := 0) g0 hA (by show 0 + 1 <= 17; omega)
  have wr1_1 : ∀ d x, qT (slot M' b 57 A B (qK d v1 v2 v3)) b (i * 17 + 1) [x] = some (slot M' b 57 A B (qJ (qK d v1 v2 v3) 1 [x])) := fun d x => zQ (j := 1) g0 hA (by show 1 + 1 <= 17; omega)
  have wr1_2 : ∀ d x, qT (slot M' b 57 A B (qK d v1 v2 v3)) b (i * 17 + 2) [x] = some (slot M' b 57 A B (qJ (qK d v1 v2 v3) 2 [x])) := fun d x => zQ (j := 2) g0 hA (by show 2 + 1 <= 17; omega)
  have wr1_3 : ∀ d x, qT (slot M' b 57 A B (qK d v1 v2 v3)) b (i * 17 + 3) [x] = some (slot M' b 57 A B (qJ (qK d v1 v2 v3) 3 [x])) := fun d x => zQ (j := 3) g0 hA (by show 3 + 1 <= 17; omega)
  have wr1_4 : ∀ d x, qT (slot M' b 57 A B (qK d v1 v2 v3)) b (i * 17 + 4) [x] = some (slot M' b 57 A B (qJ (qK d v1 v2 v3) 4 [x])) := fun d x => zQ (j := 4) g0 hA (by show 4 + 1 <= 17; omega)
  have wr1_5 : ∀ d x, qT (slot M' b 57 A B (qK d v1 v2 v3)) b (i * 17 + 5) [x] = some (slot M' b 57 A B (qJ (qK d v1 v2 v3) 5 [x])) := fun d x => zQ (j := 5) g0 hA (by show 5 + 1 <= 17; omega)
  have wr1_6 : ∀ d x, qT (slot M' b 57 A B (qK d v1 v2 v3)) b (i * 17 + 6) [x] = some (slot M' b 57 A B (qJ (qK d v1 v2 v3) 6 [x])) := fun d x => zQ (j := 6) g0 hA (by show 6 + 1 <= 17; omega)
  have cl1 : ∀ d, hcel (slot M' b 57 A B (qK d v1 v2 v3)) b (i * 17 + 7) = some v1 := fun d => slot_cel (j := 7) g0 hA rfl
  rw [(slot_self g0).symm]
  simp (disch := omega) only [wk, seval, hx, wr1_0, wr1_1, wr1_2, wr1_3, wr1_4, wr1_5, wr1_6, zV, cl1, qI, Int.add_assoc, Int.reduceAdd]
  obtain ⟨N1, hN1⟩ : ∃ N, N = slot M' b 57 A B (qK ⟨q, q + 1, q + 2, q + 3, q + 4, q + 5, decide ((q + 6).tmod 3 = 0), E.slots, E.pairs, E.code, E.vals, ⟨E.call.session, E.call.number, E.call.kind, E.call.text, E.call.slot, E.call.to⟩⟩ v1 v2 v3) := ⟨_, rfl⟩
  have n1 : ∀ x, x ≠ b -> Tk.hget N1 x = Tk.hget M' x := fun x hx => by rw [hN1]; exact slot_ne hx
  have g1 : Tk.hget N1 b = some (blk (A ++ (qK ⟨q, q + 1, q + 2, q + 3, q + 4, q + 5, decide ((q + 6).tmod 3 = 0), E.slots, E.pairs, E.code, E.vals, ⟨E.call.session, E.call.number, E.call.kind, E.call.text, E.call.slot, E.call.to⟩⟩ v1 v2 v3 ++ B)) 57) := by rw [hN1]; exact slot_get g0
  have a1 : ∀ x, x ≠ b -> ¬ Ss i x -> Tk.hget N1 x = Tk.hget M' x := fun x e1 e2 => (n1 x e1).trans (a0 x e1 e2)
  rw [<- hN1]
  have w1 := w1.frame fun x q => n1 x (nbb x (i1 x q))
  have w2 := w2.frame fun x q => n1 x (nbb x (i2 x q))
  have w3 := w3.frame fun x q => n1 x (nbb x (i3 x q))
  refine HCalls_ch w1 (fun g h0 R o dj kr => markIntS_c o dj (by omega) (by omega) kr) fun N2 u1 ch2 => ?_
  have g2 : Tk.hget N2 b = _ := (ch2 b (fun c => nbb b (i1 b c) rfl)).trans g1
  have a2 : ∀ x, x ≠ b -> ¬ Ss i x -> Tk.hget N2 x = Tk.hget M' x := fun x e1 e2 => (ch2 x (fun c => e2 (i1 x c))).trans (a1 x e1 e2)
  have w2 := w2.frame fun x q => ch2 x (fun c => d12 x c q)
  have w3 := w3.frame fun x q => ch2 x (fun c => d13 x c q)
  obtain ⟨q2, hq2⟩ : ∃ z : Int, z = q + 7 + (E.slots.length : Int) := ⟨_, rfl⟩
  rw [<- hq2]
  have cl3 : hcel N2 b (i * 17 + 8) = some v2 := cel_at g2 hA rfl
  simp (disch := omega) only [wk, seval, hx, cl3]
  refine HCalls_ch w2 (fun g h0 R o dj kr => markPairS_c o dj (by omega) (by omega) kr) fun N3 u2 ch3 => ?_
  have g3 : Tk.hget N3 b = _ := (ch3 b (fun c => nbb b (i2 b c) rfl)).trans g2
  have a3 : ∀ x, x ≠ b -> ¬ Ss i x -> Tk.hget N3 x = Tk.hget M' x := fun x e1 e2 => (ch3 x (fun c => e2 (i2 x c))).trans (a2 x e1 e2)
  have u1 := u1.frame fun x q => ch3 x (d12 x q)
  have w3 := w3.frame fun x q => ch3 x (fun c => d23 x c q)
  obtain ⟨q3, hq3⟩ : ∃ z : Int, z = q2 + 2 * (E.pairs.length : Int) := ⟨_, rfl⟩
  rw [<- hq3]
  have wr4_9 : ∀ d x, qT (slot N3 b 57 A B (qK d v1 v2 v3)) b (i * 17 + 9) [x] = some (slot N3 b 57 A B (qJ (qK d v1 v2 v3) 9 [x])) := fun d x => zQ (j := 9) g3 hA (by show 9 + 1 <= 17; omega)
  have cl4 : ∀ d, hcel (slot N3 b 57 A B (qK d v1 v2 v3)) b (i * 17 + 10) = some v3 := fun d => slot_cel (j := 10) g3 hA rfl
  rw [(slot_self g3).symm]
  simp (disch := omega) only [wk, seval, hx, wr4_9, zV, cl4, qI, Int.add_assoc, Int.reduceAdd]
  obtain ⟨N4, hN4⟩ : ∃ N, N = slot N3 b 57 A B (qK ⟨q, q + 1, q + 2, q + 3, q + 4, q + 5, decide ((q + 6).tmod 3 = 0), E.slots, E.pairs, q3, E.vals, ⟨E.call.session, E.call.number, E.call.kind, E.call.text, E.call.slot, E.call.to⟩⟩ v1 v2 v3) := ⟨_, rfl⟩
  have n4 : ∀ x, x ≠ b -> Tk.hget N4 x = Tk.hget N3 x := fun x hx => by rw [hN4]; exact slot_ne hx
  have g4 : Tk.hget N4 b = some (blk (A ++ (qK ⟨q, q + 1, q + 2, q + 3, q + 4, q + 5, decide ((q + 6).tmod 3 = 0), E.slots, E.pairs, q3, E.vals, ⟨E.call.session, E.call.number, E.call.kind, E.call.text, E.call.slot, E.call.to⟩⟩ v1 v2 v3 ++ B)) 57) := by rw [hN4]; exact slot_get g3
  have a4 : ∀ x, x ≠ b -> ¬ Ss i x -> Tk.hget N4 x = Tk.hget M' x := fun x e1 e2 => (n4 x e1).trans (a3 x e1 e2)
  rw [<- hN4]
  have u1 := u1.frame fun x q => n4 x (nbb x (i1 x q))
  have u2 := u2.frame fun x q => n4 x (nbb x (i2 x q))
  have w3 := w3.frame fun x q => n4 x (nbb x (i3 x q))
  refine HCalls_ch w3 (fun g h0 R o dj kr => markIntS_c o dj (by omega) (by omega) kr) fun N5 u3 ch5 => ?_
  have g5 : Tk.hget N5 b = _ := (ch5 b (fun c => nbb b (i3 b c) rfl)).trans g4
  have a5 : ∀ x, x ≠ b -> ¬ Ss i x -> Tk.hget N5 x = Tk.hget M' x := fun x e1 e2 => (ch5 x (fun c => e2 (i3 x c))).trans (a4 x e1 e2)
  have u1 := u1.frame fun x q => ch5 x (d13 x q)
  have u2 := u2.frame fun x q => ch5 x (d23 x q)
  obtain ⟨q5, hq5⟩ : ∃ z : Int, z = q3 + 1 + (E.vals.length : Int) := ⟨_, rfl⟩
  rw [<- hq5]
  have wr6_11 : ∀ d x, qT (slot N5 b 57 A B (qK d v1 v2 v3)) b (i * 17 + 11) [x] = some (slot N5 b 57 A B (qJ (qK d v1 v2 v3) 11 [x])) := fun d x => zQ (j := 11) g5 hA (by show 11 + 1 <= 17; omega)
  have wr6_12 : ∀ d x, qT (slot N5 b 57 A B (qK d v1 v2 v3)) b (i * 17 + 12) [x] = some (slot N5 b 57 A B (qJ (qK d v1 v2 v3) 12 [x])) := fun d x => zQ (j := 12) g5 hA (by show 12 + 1 <= 17; omega)
  have wr6_13 : ∀ d x, qT (slot N5 b 57 A B (qK d v1 v2 v3)) b (i * 17 + 13) [x] = some (slot N5 b 57 A B (qJ (qK d v1 v2 v3) 13 [x])) := fun d x => zQ (j := 13) g5 hA (by show 13 + 1 <= 17; omega)
  have wr6_14 : ∀ d x, qT (slot N5 b 57 A B (qK d v1 v2 v3)) b (i * 17 + 14) [x] = some (slot N5 b 57 A B (qJ (qK d v1 v2 v3) 14 [x])) := fun d x => zQ (j := 14) g5 hA (by show 14 + 1 <= 17; omega)
  have wr6_15 : ∀ d x, qT (slot N5 b 57 A B (qK d v1 v2 v3)) b (i * 17 + 15) [x] = some (slot N5 b 57 A B (qJ (qK d v1 v2 v3) 15 [x])) := fun d x => zQ (j := 15) g5 hA (by show 15 + 1 <= 17; omega)
  have wr6_16 : ∀ d x, qT (slot N5 b 57 A B (qK d v1 v2 v3)) b (i * 17 + 16) [x] = some (slot N5 b 57 A B (qJ (qK d v1 v2 v3) 16 [x])) := fun d x => zQ (j := 16) g5 hA (by show 16 + 1 <= 17; omega)
  rw [(slot_self g5).symm]
  simp (disch := omega) only [wk, seval, hx, wr6_11, wr6_12, wr6_13, wr6_14, wr6_15, wr6_16, zV, qI, Int.add_assoc, Int.reduceAdd]
  refine markText_c (k := q5 + 3) (by omega) ?_
  simp (disch := omega) only [wk, seval, hx, wr6_11, wr6_12, wr6_13, wr6_14, wr6_15, wr6_16, zV, qI, Int.add_assoc, Int.reduceAdd]
  obtain ⟨N6, hN6⟩ : ∃ N, N = slot N5 b 57 A B (qK ⟨q, q + 1, q + 2, q + 3, q + 4, q + 5, decide ((q + 6).tmod 3 = 0), E.slots, E.pairs, q3, E.vals, ⟨q5, q5 + 1, q5 + 2, mT (q5 + 3), q5 + 4, q5 + 5⟩⟩ v1 v2 v3) := ⟨_, rfl⟩
  have n6 : ∀ x, x ≠ b -> Tk.hget N6 x = Tk.hget N5 x := fun x hx => by rw [hN6]; exact slot_ne hx
  have g6 : Tk.hget N6 b = some (blk (A ++ (qK ⟨q, q + 1, q + 2, q + 3, q + 4, q + 5, decide ((q + 6).tmod 3 = 0), E.slots, E.pairs, q3, E.vals, ⟨q5, q5 + 1, q5 + 2, mT (q5 + 3), q5 + 4, q5 + 5⟩⟩ v1 v2 v3 ++ B)) 57) := by rw [hN6]; exact slot_get g5
  have a6 : ∀ x, x ≠ b -> ¬ Ss i x -> Tk.hget N6 x = Tk.hget M' x := fun x e1 e2 => (n6 x e1).trans (a5 x e1 e2)
  rw [<- hN6]
  have u1 := u1.frame fun x q => n6 x (nbb x (i1 x q))
  have u2 := u2.frame fun x q => n6 x (nbb x (i2 x q))
  have u3 := u3.frame fun x q => n6 x (nbb x (i3 x q))
  try simp (disch := omega) only [wk, seval, qI]
  refine ⟨l.length - (i + 1), by omega, N6, .refl _, i + 1, ?_, ?_, ?_, by omega, rfl⟩
  ·rw [hsum, hcn]
   simp only [List.cons.injEq, Value.int.injEq, and_true, true_and]
   refine ⟨by omega, by omega⟩
  ·exact hch.trans fun x hn => a6 x (fun c => hn ((D.dom x).2 (.inl c))) fun c => hn ((D.dom x).2 (.inr ⟨i, hiL, c⟩))
  ·rw [<- hset]
   subst hq5 hq3 hq2
   have hfin : Tk.hget N6 b = some (blk (A ++ (qK ((mkWd mT) q E) v1 v2 v3 ++ B)) 57) := by rw [g6]; rfl
   refine .inr ⟨b, cap, css.set i (qK ((mkWd mT) q E) v1 v2 v3), sp, Ss, by rw [List.length_set]; exact hv0, by rw [List.length_set]; exact hc, ?_, D.step WWord.fr hiL (a' := (mkWd mT) q E) rfl (by rw [hset2 _ rfl]; exact hfin) ?_ a6⟩
   ·rw [hset2 _ rfl, <- hs, hAB, hcs]; simp only [List.length_append]; rfl
   ·exact ⟨_, _, _, _, _, _, rfl, u1, u2, u3, d12, d13, d23, su⟩
 ·have hi' : i = l.length := by omega
  subst hi'
  rw [List.take_length] at *
  rw [List.drop_length, List.append_nil] at hd
  exact .of (kr M' hd hch)
end Go.Proofs.YtgbapakcfmgahaaGreatDoor
end

section
set_option maxRecDepth 20000
attribute [local irreducible] Go.Tk.vc Go.Tk.vops Go.Tk.vdr Go.Tk.vop Go.Tk.vfl Go.Tk.HCalls
namespace Go.Proofs.YtgbapakcfmgahaaGreatDoor
open Go Go.Tk
set_option maxHeartbeats 1000000 in
theorem heldWordS_c {h : H} {v : Value} {l : List DWord} {k : Int} (r : rRs h (rWord h) 17 v (mkL (mkWd mT) cnWd k l)) (hl : sumL cnWd l <= 33554432) (hll0 : l.length <= 33554432) (hk : 1 <= k /\ k <= 1073741824) {R : Ending -> H -> Prop}
  (kr : R (.returned (.int .i64 (k + sumL cnWd l))) h) : HCalls Tryz.prog 12 #[v, .int .i64 k] h R := by
 refine qB (args := [v, .int .i64 k]) Tryz.func12 ir12 ?_
 have hlen : ∀ {f : Value -> Prop}, lenSK v f = f (.int .i64 l.length) := fun {f} => by rw [r.len, mkL_len]
 simp only [wk, seval]
 refine qS [5, 1] (fun n vs h' => ∃ (i : Nat), vs = [.int .i64 i, .int .i64 (k + sumL cnWd (l.take i))] /\ h' = h /\ i <= l.length /\ n = l.length - i) l.length rfl ⟨0, by simp [sumL], rfl, by omega, rfl⟩ ?_
 rintro n f h' ⟨i, hv, rfl, hi, rfl⟩
 simp only [lm4] at hv
 simp only [wk, seval, wr, hv.1, hv.2, hlen]
 refine qF (fun c1 => ?_) fun c1 => ?_
 ·have hi2 : i < l.length := by omega
  have hiL : i < (mkL (mkWd mT) cnWd k l).length := by rw [mkL_len]; exact hi2
  have hsum := sumL_more cnWd hi2
  have hle := sumL_take cnWd l (i + 1)
  obtain ⟨b, o, cs, hx, e, rr⟩ := zU r hiL
  rw [mkL_at (mkWd mT) cnWd l k i hiL hi2] at rr
  obtain ⟨q, hq⟩ : ∃ q : Int, q = k + sumL cnWd (l.take i) := ⟨_, rfl⟩
  obtain ⟨E, hE⟩ : ∃ E, E = l[i] := ⟨_, rfl⟩
  rw [<- hE, <- hq] at rr
  rw [<- hE] at hsum
  rw [<- hq]
  have hcn : cnWd E = 14 + E.slots.length + 2 * E.pairs.length + E.vals.length := rfl
  have hqb : 1 <= q /\ q + cnWd E <= 1107296256 := by omega
  obtain ⟨v1, v2, v3, rfl, s1, s2, s3⟩ := rr
  have fs1 : hcel h' b (o + 7) = some v1 := qW e 7 rfl
  have fs2 : hcel h' b (o + 8) = some v2 := qW e 8 rfl
  have fs3 : hcel h' b (o + 10) = some v3 := qW e 10 rfl
  have f0 : hcel h' b o = some (.int .i64 (q)) := by exact qW e 0 rfl
  have f1 : hcel h' b (o + 1) = some (.int .i64 (q + 1)) := by exact qW e 1 rfl
  have f2 : hcel h' b (o + 2) = some (.int .i64 (q + 2)) := by exact qW e 2 rfl
  have f3 : hcel h' b (o + 3) = some (.int .i64 (q + 3)) := by exact qW e 3 rfl
  have f4 : hcel h' b (o + 4) = some (.int .i64 (q + 4)) := by exact qW e 4 rfl
  have f5 : hcel h' b (o + 5) = some (.int .i64 (q + 5)) := by exact qW e 5 rfl
  have f6 : hcel h' b (o + 6) = some (.bool (decide ((q + 6).tmod 3 = 0))) := by exact qW e 6 rfl
  simp (maxSteps := 1000000) (disch := omega) only [wk, seval, hx, f0, f1, f2, f3, f4, f5, f6, fs1, fs2, fs3, qI, Int.add_assoc, Int.reduceAdd, strBin, str_inj]
  rw [if_neg (by simp)]
  refine heldIntS_c s1 (by show mks (q + 7) E.slots.length = mks (q + 7) (mks (q + 7) E.slots.length).length; rw [mks_len]) (by show (mks (q + 7) E.slots.length).length <= _; rw [mks_len]; omega) (by omega) ?_
  rw [show (((mkWd mT) q E).slots).length = E.slots.length from mks_len _ _]
  obtain ⟨q2, hq2⟩ : ∃ z : Int, z = q + 7 + (E.slots.length : Int) := ⟨_, rfl⟩
  rw [<- hq2]
  simp (disch := omega) only [wk, seval, hx, fs1, fs2, fs3, qI, strBin, str_inj]
  refine qF (fun c => absurd c (by omega)) fun _ => ?_
  try simp (disch := omega) only [wk, seval, hx, fs1, fs2, fs3, qI, strBin, str_inj]
  refine heldPairS_c s2 (by subst hq2; show mkp (q + 7 + (E.slots.length : Int)) E.pairs.length = mkp (q + 7 + (E.slots.length : Int)) (mkp (q + 7 + (E.slots.length : Int)) E.pairs.length).length; rw [mkp_len]) (by subst hq2; show (mkp (q + 7 + (E.slots.length : Int)) E.pairs.length).length <= _; rw [mkp_len]; omega) (by omega) ?_
  rw [show (((mkWd mT) q E).pairs).length = E.pairs.length from mkp_len _ _]
  obtain ⟨q3, hq3⟩ : ∃ z : Int, z = q2 + 2 * (E.pairs.length : Int) := ⟨_, rfl⟩
  rw [<- hq3]
  simp (disch := omega) only [wk, seval, hx, fs1, fs2, fs3, qI, strBin, str_inj]
  refine qF (fun c => absurd c (by omega)) fun _ => ?_
  try simp (disch := omega) only [wk, seval, hx, fs1, fs2, fs3, qI, strBin, str_inj]
  have f9 : hcel h' b (o + 9) = some (.int .i64 (q3)) := by subst hq3 hq2; exact qW e 9 rfl
  try simp (maxSteps := 1000000) (disch := omega) only [wk, seval, hx, f9, fs1, fs2, fs3, qI, Int.add_assoc, Int.reduceAdd, strBin, str_inj]
  refine heldIntS_c s3 (by subst hq3 hq2; show mks (q + 7 + (E.slots.length : Int) + 2 * (E.pairs.length : Int) + 1) E.vals.length = mks (q + 7 + (E.slots.length : Int) + 2 * (E.pairs.length : Int) + 1) (mks (q + 7 + (E.slots.length : Int) + 2 * (E.pairs.length : Int) + 1) E.vals.length).length; rw [mks_len]) (by subst hq3 hq2; show (mks (q + 7 + (E.slots.length : Int) + 2 * (E.pairs.length : Int) + 1) E.vals.length).length <= _; rw [mks_len]; omega) (by omega) ?_
  rw [show (((mkWd mT) q E).vals).length = E.vals.length from mks_len _ _]
  obtain ⟨q5, hq5⟩ : ∃ z : Int, z = q3 + 1 + (E.vals.length : Int) := ⟨_, rfl⟩
  rw [<- hq5]
  simp (disch := omega) only [wk, seval, hx, fs1, fs2, fs3, qI, strBin, str_inj]
  refine qF (fun c => absurd c (by omega)) fun _ => ?_
  try simp (disch := omega) only [wk, seval, hx, fs1, fs2, fs3, qI, strBin, str_inj]
  have f11 : hcel h' b (o + 11) = some (.int .i64 (q5)) := by subst hq5 hq3 hq2; exact qW e 11 rfl
  have f12 : hcel h' b (o + 12) = some (.int .i64 (q5 + 1)) := by subst hq5 hq3 hq2; exact qW e 12 rfl
  have f13 : hcel h' b (o + 13) = some (.int .i64 (q5 + 2)) := by subst hq5 hq3 hq2; exact qW e 13 rfl
  have f14 : hcel h' b (o + 14) = some (.string ⟨(mT (q5 + 3)).toArray⟩) := by subst hq5 hq3 hq2; exact qW e 14 rfl
  have f15 : hcel h' b (o + 15) = some (.int .i64 (q5 + 4)) := by subst hq5 hq3 hq2; exact qW e 15 rfl
  have f16 : hcel h' b (o + 16) = some (.int .i64 (q5 + 5)) := by subst hq5 hq3 hq2; exact qW e 16 rfl
  try simp (maxSteps := 1000000) (disch := omega) only [wk, seval, hx, f11, f12, f13, f14, f15, f16, fs1, fs2, fs3, qI, Int.add_assoc, Int.reduceAdd, strBin, str_inj]
  refine qY _ (Sub.refl _) ?_
  simp (maxSteps := 1000000) (disch := omega) only [wk, seval, hx, f11, f12, f13, f14, f15, f16, fs1, fs2, fs3, qI, Int.add_assoc, Int.reduceAdd, strBin, str_inj]
  refine markText_c (k := q5 + 3) (by omega) ?_
  simp (maxSteps := 1000000) (disch := omega) only [wk, seval, hx, f11, f12, f13, f14, f15, f16, fs1, fs2, fs3, qI, Int.add_assoc, Int.reduceAdd, strBin, str_inj]
  refine ⟨l.length - (i + 1), by omega, h', .refl _, i + 1, ?_, rfl, by omega, rfl⟩
  rw [hsum, hcn]
  simp only [List.cons.injEq, Value.int.injEq, and_true, true_and]
  refine ⟨by omega, by omega⟩
 ·have hi' : i = l.length := by omega
  subst hi'
  rw [List.take_length] at *
  exact .of kr
end Go.Proofs.YtgbapakcfmgahaaGreatDoor
end

section
set_option maxRecDepth 20000
attribute [local irreducible] Go.Tk.vc Go.Tk.vops Go.Tk.vdr Go.Tk.vop Go.Tk.vfl Go.Tk.HCalls
namespace Go.Proofs.YtgbapakcfmgahaaGreatDoor
open Go Go.Tk
def WWords (M : H) (v : Value) (l : List DWord) (S : Nat -> Prop) : Prop := dR 57 WWord 17 M v l S
theorem WWords.frame {M M' : H} {v : Value} {l : List DWord} {S : Nat -> Prop} (d : WWords M v l S) (c : ∀ i, S i -> hget M' i = hget M i) : WWords M' v l S := dR.frame WWord.fr d c
theorem WWords.in {M : H} {v : Value} {l : List DWord} {S : Nat -> Prop} (d : WWords M v l S) {i : Nat} (h : S i) : hget M i ≠ none := dR.in WWord.in d h
theorem WWords.rd {M : H} {v : Value} {l : List DWord} {S : Nat -> Prop} (d : WWords M v l S) : rRs M (rWord M) 17 v l := dR.rd WWord.rd d
theorem markWordS_w {M : H} {v : Value} {l : List DWord} {S : Nat -> Prop} {k : Int} (d : WWords M v l S) (hl : sumL cnWd l <= 33554432) (hk : 1 <= k /\ k <= 1073741824) {R : Ending -> H -> Prop}
  (kr : ∀ M', WWords M' v (mkL (mkWd mT) cnWd k l) S -> Ch S M M' -> R (.returned (.int .i64 (k + sumL cnWd l))) M') : HCalls Tryz.prog 11 #[v, .int .i64 k] M R := markWordS_c d hl hk kr
theorem specGateTend_w {h : H} {g : DGate} {lg lv wy : Value} (r : sGate h g lg lv wy) (hb : bGate g) {R : Ending -> H -> Prop} (k : ∀ M' v S, Tk.Sub h M' -> WWords M' v (gateTend zF g) S -> (∀ x, S x -> hget h x = none) -> R (.returned v) M') :
  HCalls Tryz.prog 5 #[.agg (cGate g lg lv wy).toArray] h R := specGateTend_c r hb k
theorem implGateTend_w {h : H} {g : DGate} {lg lv wy : Value} (gl : Gl h) (gm : MxL h) (r : sGate h g lg lv wy) (hb : bGate g) {R : Ending -> H -> Prop} (k : ∀ M' v S, Tk.Sub h M' -> WWords M' v (gateTend zF g) S -> (∀ x, S x -> hget h x = none) -> R (.returned v) M') :
  HCalls Tryz.prog 7 #[.agg (cGate g lg lv wy).toArray] h R := implGateTend_c gl gm r hb k
set_option maxHeartbeats 2000000 in
theorem exactGateTend_c {h : H} {d : DGate} {v1 v2 v3 : Value} (gl : Gl h) (gm : MxL h) (r : nGate h d v1 v2 v3) (hu : uGate d) {R : Ending -> H -> Prop} (k : R (.returned (.bool true)) h) :
  HCalls Tryz.prog 3 #[.agg (cGate d v1 v2 v3).toArray] h R := by
 refine qB (args := [.agg (cGate d v1 v2 v3).toArray]) Tryz.func3 ir3 ?_
 have zg := zGate_eq
 have zm := zMap_eq
 simp only [wk, seval, zB]
 refine qA (o := blk (cGate d v1 v2 v3) 26) fun j1 h1 => ?_
 obtain ⟨M0, hM0⟩ : ∃ M0, M0 = (j1, blk (cGate d v1 v2 v3) 26) :: h := ⟨_, rfl⟩
 have s0 : Tk.Sub h M0 := by rw [hM0]; exact Sub.cons h1 (Sub.refl _)
 have g0 : hget M0 j1 = some (blk (cGate d v1 v2 v3) 26) := by rw [hM0]; exact qL _ _ _
 have a0 : qQ M0 j1 0 6 = some (cGate d v1 v2 v3) := qU g0 rfl
 rw [<- hM0]
 simp only [wk, seval, zB, a0]
 refine szGate_c (r.sub s0) ⟨by omega, by omega⟩ hu fun x hx hx2 => ?_
 simp only [wk, seval]
 refine qF (fun c => ⟨h, s0, k⟩) fun c => ?_
 have hsz : szGateN d <= 1048576 := by have := hx (by omega); omega
 have hb := bGate_of hsz
 have hcn := cnGate_of hsz
 have hlen := gateTend_len d
 have hsum := gateTend_sum d
 try simp only [wk, seval, a0]
 refine toGate_c (r.sub s0) hb fun M1 w1 w2 w3 S1 s1 W1 f1 => ?_
 simp only [wk, seval]
 refine specGateTend_w W1.rd hb fun M2 av S2 s2 D2 f2 => ?_
 simp only [wk, seval]
 have s02 : Tk.Sub M0 M2 := (s1.trans s2)
 have a2 : qQ M2 j1 0 6 = some (cGate d v1 v2 v3) := qU (s02 _ _ g0) rfl
 try simp only [wk, seval, a2]
 refine toGate_c (r.sub (s0.trans s02)) hb fun M3 x1 x2 x3 S3 s3 W3 f3 => ?_
 simp only [wk, seval, zg, zm]
 refine qA (o := blk (cGate zGate (.slice none 0 0) (.slice none 0 0) (.slice none 0 0)) 34) fun j5 h5 => ?_
 have one5 := WGate.one (e := d) W3
 obtain ⟨M4, hM4⟩ : ∃ M4, M4 = (j5, blk (cGate d x1 x2 x3) 34) :: M3 := ⟨_, rfl⟩
 have s4 : Tk.Sub M3 M4 := by rw [hM4]; exact Sub.cons h5 (Sub.refl _)
 have g5 : hget M4 j5 = some (blk (cGate d x1 x2 x3) 34) := by rw [hM4]; exact qL _ _ _
 have a5 : qQ M4 j5 0 6 = some (cGate d x1 x2 x3) := qU g5 rfl
 have s24 : Tk.Sub M2 M4 := s3.trans s4
 have s04 : Tk.Sub h M4 := s0.trans (s02.trans s24)
 simp only [wk, seval, zB, one5, <- hM4]
 try simp only [wk, seval, a5]
 have W4 := W3.frame (M' := M4) fun x q => Sub.eq s4 (W3.in q)
 refine implGateTend_w (gl.sub s04) (gm.sub s04) W4.rd hb fun M5 bv S5 s5 D5 f5 => ?_
 simp only [wk, seval]
 have s45 : Tk.Sub M4 M5 := s5
 have s25 : Tk.Sub M2 M5 := (s24.trans s5)
 have D2' := D2.frame (M' := M5) fun x q => Sub.eq s25 (D2.in q)
 refine eqWordS_c D5.rd D2'.rd (fun w q => small_wLen (gateTend_small w q)) (by omega) ?_
 simp only [wk, seval, decide_true]
 have a1' : qQ M5 j1 0 6 = some (cGate d v1 v2 v3) := qU (s45 _ _ (s24 _ _ (s02 _ _ g0))) rfl
 have a5' : qQ M5 j5 0 6 = some (cGate d x1 x2 x3) := qU (s45 _ _ g5) rfl
 have s55 := Sub.refl M5
 refine qY _ (Sub.refl _) ?_
 simp only [wk, seval, a1', a5', s55]
 refine toGate_c (r.sub (s04.trans s45)) hb fun M6 y1 y2 y3 S6 s6 W6 f6 => ?_
 simp only [wk, seval, a1', a5', s6]
 have W6x := W4.frame (M' := M6) fun x q => Sub.eq (s45.trans s6) (W4.in q)
 refine eqGate_c W6x.rd W6.rd hb ?_
 simp only [wk, seval, decide_true, s6]
 have s46 : Tk.Sub M4 M6 := s45.trans s6
 have a5'' : qQ M6 j5 0 6 = some (cGate d x1 x2 x3) := qU (s46 _ _ g5) rfl
 try simp only [wk, seval, a5'']
 refine markGate_c W6x hcn ⟨by omega, by omega⟩ fun M7 W7 ch7 => ?_
 simp only [wk, seval]
 have hS3 : ∀ x, S3 x -> hget M2 x = none /\ hget M4 x ≠ none := fun x q => ⟨f3 x q, W4.in q⟩
 have n7 : ∀ x o, hget M2 x = some o -> hget M7 x = some o := fun x o e => by
  rw [ch7 x fun q => by rw [(hS3 x q).1] at e; cases e]; exact s46 _ _ (s24 _ _ e)
 refine qF (fun c => absurd c (by omega)) fun _ => ?_
 try simp only [wk, seval, a5'']
 have D5' := D5.frame (M' := M7) fun x q => by rw [ch7 x fun q2 => (hS3 x q2).2 (f5 x q)]; exact Sub.eq s6 (D5.in q)
 have D2'' := D2.frame (M' := M7) fun x q => by
  cases e : hget M2 x with
  | none => exact absurd e (D2.in q)
  | some o => exact n7 x o e
 refine eqWordS_c D5'.rd D2''.rd (fun w q => small_wLen (gateTend_small w q)) (by omega) ?_
 simp only [wk, seval, decide_true]
 try simp only [wk, seval, a5'']
 refine markWordS_w D5' (by omega) (by omega) fun M8 D8 ch8 => ?_
 have n8 : ∀ x o, hget M2 x = some o -> hget M8 x = some o := fun x o e => by
  rw [ch8 x fun q => by have := f5 x q; rw [s24 _ _ e] at this; cases this]; exact n7 x o e
 simp only [wk, seval]
 refine heldWordS_c (k := 1) D8.rd (by omega) (by omega) (by omega) ?_
 skip
 simp only [wk, seval]
 refine qF (fun c => absurd c (by omega)) fun _ => ?_
 try simp only [wk, seval]
 try refine zK (fun c => absurd rfl c) fun _ => ?_
 have sh8 : Tk.Sub h M8 := fun x o e => n8 x o (s02 _ _ (s0 _ _ e))
 have a8 : qQ M8 j1 0 6 = some (cGate d v1 v2 v3) := qU (n8 _ _ (s02 _ _ g0)) rfl
 try simp only [wk, seval, a8]
 refine toGate_c (r.sub sh8) hb fun M9 z1 z2 z3 S9 s9 W9 f9 => ?_
 simp only [wk, seval]
 refine implGateTend_w (gl.sub (sh8.trans s9)) (gm.sub (sh8.trans s9)) W9.rd hb fun M10 cv S10 s10 D10 f10 => ?_
 simp only [wk, seval]
 have s8T : Tk.Sub M8 M10 := s9.trans s10
 have D2T := D2.frame (M' := M10) fun x q => by
  cases e : hget M2 x with
  | none => exact absurd e (D2.in q)
  | some o => exact s8T _ _ (n8 x o e)
 have D8T := D8.frame (M' := M10) fun x q => Sub.eq s8T (D8.in q)
 refine eqWordS_c D10.rd D2T.rd (fun w q => small_wLen (gateTend_small w q)) (by omega) ?_
 simp only [wk, seval, decide_true]
 try simp only [wk, seval]
 refine heldWordS_c (k := 1) D8T.rd (by omega) (by omega) (by omega) ?_
 skip
 simp only [wk, seval]
 refine qF (fun c => absurd c (by omega)) fun _ => ?_
 try simp only [wk, seval]
 try refine zK (fun c => absurd rfl c) fun _ => ?_
 try simp only [wk, seval]
 exact ⟨h, sh8.trans s8T, k⟩
end Go.Proofs.YtgbapakcfmgahaaGreatDoor
end
