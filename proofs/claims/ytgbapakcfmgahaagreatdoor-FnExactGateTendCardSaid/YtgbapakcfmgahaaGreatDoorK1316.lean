/- Parts of the proof, put together: Q9, QA, Y3, Y1, V0, V1, V2. -/
import Derived.Shelf.Vars
import Derived.Test.YtgbapakcfmgahaaGreatDoorK1314
import Derived.Test.YtgbapakcfmgahaaGreatDoorK1315
import Derived.Test.YtgbapakcfmgahaaGreatDoorK1313
import Derived.Test.YtgbapakcfmgahaaGreatDoorK135
import Derived.Test.YtgbapakcfmgahaaGreatDoorK136
set_option linter.unusedVariables false
set_option linter.unusedSimpArgs false
set_option linter.defProp false
section
set_option maxRecDepth 20000
attribute [local irreducible] Go.Tk.vc Go.Tk.vops Go.Tk.vdr Go.Tk.vop Go.Tk.vfl Go.Tk.HCalls
namespace Go.Tk
open Go
theorem eW_len (e : DWay) : (cWay e).length = 2 := rfl
def mkWay (k : Int) (n : Nat) : List DWay := (List.range n).map fun (i : Nat) => ⟨(k + 2 * (i : Int)), (k + 2 * (i : Int)) + 1⟩
theorem mkWay_len (k : Int) (n : Nat) : (mkWay k n).length = n := by simp [mkWay]
theorem mkWay_set (k : Int) (l : List DWay) (i : Nat) (h : i < l.length) : (mkWay k i ++ l.drop i).set i ⟨(k + 2 * (i : Int)), (k + 2 * (i : Int)) + 1⟩ = mkWay k (i + 1) ++ l.drop (i + 1) := by
 rw [List.set_append_right _ _ (by rw [mkWay_len]; omega), mkWay_len, Nat.sub_self, List.drop_eq_getElem_cons h, List.set_cons_zero]
 simp [mkWay, List.range_succ]
end Go.Tk
namespace Go.Proofs.YtgbapakcfmgahaaGreatDoor
open Go Go.Tk
theorem eqWay_c {h : H} {x y : DWay} {R : Ending -> H -> Prop} (k : R (.returned (.bool (decide (x = y)))) h) : HCalls Tryz.prog 76 #[.agg (cWay x).toArray, .agg (cWay y).toArray] h R := by
 refine qB (args := [.agg (cWay x).toArray, .agg (cWay y).toArray]) Tryz.func76 ir76 ?_
 simp only [wk, seval, wWay]
 refine qA fun j1 h1 => ?_
 simp only [wk, seval, wWay]
 refine qA fun j2 h2 => ?_
 have n := fresh h2
 simp only [wk, seval, wWay, n.1, n.2.1, strBin, str_inj]
 refine zK (fun d => ⟨h, Sub.cons h2 (Sub.cons h1 (Sub.refl h)), kF k (fun e => d (by rw [e]))⟩) fun d0 => ?_
 refine zK (fun d => ⟨h, Sub.cons h2 (Sub.cons h1 (Sub.refl h)), kF k (fun e => d (by rw [e]))⟩) fun d1 => ?_
 refine ⟨h, Sub.cons h2 (Sub.cons h1 (Sub.refl h)), kT k ?_⟩
 cases x; cases y; simp_all
theorem eqWayS_c {h : H} {a b : Value} {la lb : List DWay} (ra : rLs h cWay 2 a la) (rb : rLs h cWay 2 b lb) (ha : la.length <= 1099511627776) {R : Ending -> H -> Prop} (k : R (.returned (.bool (decide (la = lb)))) h) :
  HCalls Tryz.prog 35 #[a, b] h R := by
 refine qB (args := [a, b]) Tryz.func35 ir35 ?_
 simp only [wk, seval, ra.len, rb.len]
 split
 ·rename_i c
  exact .of (kF k fun e => c (by rw [e]))
 ·rename_i c
  have hl : la.length = lb.length := by omega
  refine qS [5] (fun n vs h' => ∃ i : Nat, vs = [.int .i64 i] /\ h' = h /\ i <= la.length /\ n = la.length - i /\ la.take i = lb.take i) la.length rfl ⟨0, rfl, rfl, by omega, by omega, by simp⟩ ?_
  rintro n f h' ⟨i, hv, rfl, hi, rfl, ht⟩
  simp only [lm4] at hv
  simp only [wk, seval, wr, hv, ra.len, rb.len]
  split
  ·rename_i c1
   refine qY h' (Sub.refl _) ?_
   simp only [wk, seval]
   refine zJ (i := i) eW_len ra rfl (by omega) fun b1 o1 e1 => ?_
   simp only [wk, seval, e1]
   refine zJ (i := i) eW_len rb rfl (by omega) fun b2 o2 e2 => ?_
   simp only [wk, seval, e2]
   refine eqWay_c ?_
   simp only [wk, seval]
   refine zK (fun d => .of (kF k (ne_at _ _ d))) fun d => ?_
   simp (disch := omega) only [qI]
   exact ⟨la.length - (i + 1), by omega, h', .refl _, i + 1, by simp, rfl, by omega, rfl, take_more _ _ ht d⟩
  ·rename_i c1
   exact .of (kT k (take_all (by omega) hl ht))
theorem szWayS_c {h : H} {v : Value} {l : List DWay} {left : Int} (r : rIn h cWay 2 v l) (hl : 0 <= left /\ left <= 1048576) (hb : l.length <= 9223372036854775807) {R : Ending -> H -> Prop} (k : ∀ x, (0 <= x -> x = left - l.length) -> x <= 1048576 -> R (.returned (.int .i64 x)) h) : HCalls Tryz.prog 15 #[v, .int .i64 left] h R := by
 refine qB (args := [v, .int .i64 left]) Tryz.func15 ir15 ?_
 simp (disch := omega) only [wk, seval, r.len, qI]
 refine qF (fun c => .of (k _ (fun q => by omega) (by omega))) fun c => .of (k _ (fun _ => rfl) (by omega))
theorem toWay_c {h : H} {p : DWay} {R : Ending -> H -> Prop} (k : R (.returned (.agg (cWay p).toArray)) h) : HCalls Tryz.prog 56 #[.agg (cWay p).toArray] h R := by
 refine qB (args := [.agg (cWay p).toArray]) Tryz.func56 ir56 ?_
 have zp := zWay_eq
 simp only [wk, seval, zp, wWay]
 refine qA fun j1 h1 => ?_
 simp only [wk, seval, zp, wWay]
 refine qA fun j2 h2 => ?_
 simp only [wk, seval, zp, wWay]
 refine qA fun j3 h3 => ?_
 have n2 := fresh h2
 have n3 := fresh h3
 simp only [subs] at h2 h3
 have e31 : ¬ j1 = j3 := fun e => h3.2.1 e.symm
 have e32 : ¬ j2 = j3 := fun e => h3.1 e.symm
 have e21 : ¬ j1 = j2 := fun e => h2.1 e.symm
 simp only [wk, seval, zp, wWay, e31, e32, e21, h3, h2]
 refine ⟨h, ?_, k⟩
 (repeat' first | exact Sub.refl _ | exact Sub.nil _ | assumption | refine Sub.both ?_ ?_ | refine Sub.cons_of (by simp only [subs, h1, h2, h3, e31, e32, e21]) ?_ | exact Sub.left _ _ | refine Sub.app (by simp only [subs, h1, h2, h3, e31, e32, e21]) ?_ | refine Sub.cons (by simp only [subs, h1, h2, h3, e31, e32, e21]) ?_)
theorem toWayS_c {h : H} {a : Value} {l : List DWay} (r : rIn h cWay 2 a l) (hl : l.length <= 1048576) {R : Ending -> H -> Prop} (k : ∀ v g, oLs 108 cWay 2 v l g -> Dj g h -> R (.returned v) (g ++ h)) : HCalls Tryz.prog 22 #[a] h R := by
 refine qB (args := [a]) Tryz.func22 ir22 ?_
 have zp := zWay_eq
 simp only [wk, seval, r.len, str, zp]
 refine ⟨⟨by omega, by omega, by omega, by omega⟩, qA fun j hj => ?_⟩
 rw [zrep_fl (enc := cWay) (a := zWay) rfl]
 simp only [wk, seval]
 have hr : (List.replicate l.length zWay).length = l.length := by simp
 have o0 : oLs 108 cWay 2 (.slice (some ⟨j, 0, none⟩) l.length l.length) (List.replicate l.length zWay) [(j, blk (fl cWay (List.replicate l.length zWay)) 108)] := by
  have := oLs_new (e := 108) eW_len (j := j) (l := List.replicate l.length zWay)
  rw [hr] at this; exact this
 obtain ⟨V, hV⟩ : ∃ V, V = Value.slice (some ⟨j, 0, none⟩) l.length l.length := ⟨_, rfl⟩
 rw [<- hV] at o0 ⊢
 refine qS [4] (fun n vs h' => ∃ (i : Nat) (g' : H), vs = [.int .i64 i] /\ h' = g' ++ h /\ Dj g' h /\ oLs 108 cWay 2 V (l.take i ++ (List.replicate l.length zWay).drop i) g' /\ i <= l.length /\ n = l.length - i) l.length rfl
  ⟨0, _, rfl, rfl, Dj.one hj, by simpa using o0, by omega, rfl⟩ ?_
 rintro n f h' ⟨i, g', hv, rfl, dj', o', hi, rfl⟩
 simp only [lm4] at hv
 simp only [wk, seval, wr, hv, r.len]
 refine qF (fun c1 => ?_) fun c1 => ?_
 ·have hi2 : i < l.length := by omega
  refine idx_in (i := i) eW_len (r.sub (Sub.right dj')) rfl hi2 fun b1 o1 e1 => ?_
  simp only [wk, seval, e1, wWay]
  refine toWay_c ?_
  simp only [wk, seval, wWay]
  refine own_idx (i := i) eW_len o' rfl (by simp; omega) fun b cap sp hv' hc hs hg => ?_
  subst hg
  simp only [wk, seval, wWay]
  refine st_own (i := i) (a' := l[i]'hi2) (off := 0) eW_len (by omega) (by simp; omega) rfl (by omega) rfl ?_
  simp only [wk, seval]
  simp (disch := omega) only [qI]
  refine ⟨l.length - (i + 1), by omega, _, .refl _, i + 1, _, by simp, rfl, Dj.one dj'.one', ?_, by omega, rfl⟩
  rw [<- take_set (by omega) hr]
  exact own_set eW_len hv' hc hs
 ·have hi' : i = l.length := by omega
  subst hi'
  have o2 : oLs 108 cWay 2 V l g' := by simpa using o'
  exact .of (k _ g' o2 dj')
theorem markWayS_c {e : TypeId} {g h0 : H} {v : Value} {l : List DWay} {k : Int} (o : oLs e cWay 2 v l g) (dj : Dj g h0) (hl : l.length <= 16777216) (hk : 1 <= k /\ k <= 4294967296) {R : Ending -> H -> Prop}
  (kr : ∀ g', oLs e cWay 2 v (mkWay k l.length) g' -> Dj g' h0 -> R (.returned (.int .i64 (k + 2 * l.length))) (g' ++ h0)) :
  HCalls Tryz.prog 38 #[v, .int .i64 k] (g ++ h0) R := by
 refine qB (args := [v, .int .i64 k]) Tryz.func38 ir38 ?_
 simp only [wk, seval]
 refine qS [5, 1] (fun n vs h' => ∃ (i : Nat) (g' : H), vs = [.int .i64 i, .int .i64 (k + 2 * (i : Int))] /\ h' = g' ++ h0 /\ Dj g' h0 /\ oLs e cWay 2 v (mkWay k i ++ l.drop i) g' /\ i <= l.length /\ n = l.length - i) l.length rfl ⟨0, g, by simp, rfl, dj, by simpa [mkWay] using o, by omega, rfl⟩ ?_
 rintro n f h' ⟨i, g', hv, rfl, dj', o', hi, rfl⟩
 simp only [lm4] at hv
 have hll : (mkWay k i ++ l.drop i).length = l.length := by simp [mkWay_len]; omega
 have hlen : ∀ {f : Value -> Prop}, lenSK v f = f (.int .i64 l.length) := fun {f} => by rw [<- hll]; exact o'.rd.len
 simp only [wk, seval, wr, hv.1, hv.2, hlen]
 split
 ·rename_i c1
  obtain ⟨L, hL⟩ : ∃ L, L = mkWay k i ++ l.drop i := ⟨_, rfl⟩
  rw [<- hL] at o' hll
  have hb : i < L.length := by omega
  obtain ⟨E, hE⟩ : ∃ E, E = L[i] := ⟨_, rfl⟩
  obtain ⟨q, hq⟩ : ∃ q : Int, q = k + 2 * (i : Int) := ⟨_, rfl⟩
  have hqb : 1 <= q /\ q <= 4400000000 := by omega
  rw [<- hq]
  refine own_idx (i := i) eW_len o' rfl (by omega) fun b0 cap0 sp0 hv0 hc0 hs0 hg0 => ?_
  subst hg0
  simp only [wk, seval]
  refine st_own (i := i) (a' := { E with house := q }) (off := 0) eW_len (by omega) hb rfl (by omega) (by rw [<- hE]; rfl) ?_
  simp only [wk, seval]
  have o0 := own_set (e := e) (i := i) (a' := { E with house := q }) eW_len hv0 hc0 hs0
  simp (disch := omega) only [qI, Int.add_assoc, Int.reduceAdd]
  refine own_idx (i := i) eW_len o0 rfl (by simp only [List.length_set]; omega) fun b1 cap1 sp1 hv1 hc1 hs1 hg1 => ?_
  simp only [List.singleton_append, List.cons.injEq, Prod.mk.injEq, and_true] at hg1
  obtain ⟨rfl, hg1⟩ := hg1
  rw [hg1]
  simp only [wk, seval]
  refine st_own (i := i) (a' := { E with house := q, stamp := q + 1 }) (off := 1) eW_len (by omega) (by simp only [List.length_set]; omega) rfl (by omega) (by rw [List.getElem_set_self]; rfl) ?_
  simp only [wk, seval]
  have o1 := own_set (e := e) (i := i) (a' := { E with house := q, stamp := q + 1 }) eW_len hv1 hc1 hs1
  rw [List.set_set] at o1
  try rw [List.set_set]
  simp (disch := omega) only [qI, Int.add_assoc, Int.reduceAdd]
  refine ⟨l.length - (i + 1), by omega, _, .refl _, i + 1, _, ?_, rfl, Dj.one dj'.one', ?_, by omega, rfl⟩
  ·simp; omega
  ·have e1 := mkWay_set k l i (by omega)
   rw [<- hL, <- hq] at e1
   rw [<- e1]
   exact o1
 ·rename_i c1
  have hi' : i = l.length := by omega
  subst hi'
  simp only [List.drop_length, List.append_nil] at o'
  exact .of (kr g' o' dj')
end Go.Proofs.YtgbapakcfmgahaaGreatDoor
end

section
set_option maxRecDepth 20000
attribute [local irreducible] Go.Tk.vc Go.Tk.vops Go.Tk.vdr Go.Tk.vop Go.Tk.vfl Go.Tk.HCalls
namespace Go.Tk
open Go
def cnGate (g : DGate) : Nat := sumL cnRec g.log + sumL cnLive g.lives + 2 * g.ways.length
def mkGate (k : Int) (g : DGate) : DGate := { g with log := mkL (mkRec mT) cnRec k g.log, lives := mkL (mkLive mT) cnLive (k + sumL cnRec g.log) g.lives, ways := mkWay (k + sumL cnRec g.log + sumL cnLive g.lives) g.ways.length }
end Go.Tk
namespace Go.Proofs.YtgbapakcfmgahaaGreatDoor
open Go Go.Tk
theorem eqGate_c {h : H} {x y : DGate} {v1 v2 v3 w1 w2 w3 : Value} (rx : sGate h x v1 v2 v3) (ry : sGate h y w1 w2 w3) (hx : bGate x) {R : Ending -> H -> Prop} (k : R (.returned (.bool (decide (x = y)))) h) :
  HCalls Tryz.prog 9 #[.agg (cGate x v1 v2 v3).toArray, .agg (cGate y w1 w2 w3).toArray] h R := by
 refine qB (args := [.agg (cGate x v1 v2 v3).toArray, .agg (cGate y w1 w2 w3).toArray]) Tryz.func9 ir9 ?_
 have b1 := hx.log; have b2 := hx.lives; have b3 := hx.ways
 unfold lim at b1 b2 b3
 simp only [wk, seval, zB]
 refine qA fun j1 h1 => ?_
 simp only [wk, seval, zB]
 refine qA fun j2 h2 => ?_
 have n := fresh h2
 have sb := fun o => Sub.cons (o := o) h2 (Sub.cons h1 (Sub.refl h))
 simp only [wk, seval, zB, n.1, n.2.1]
 refine ite_eqb (fun d => ⟨h, Sub.cons h2 (Sub.cons h1 (Sub.refl h)), kF k (fun e => d (by rw [e]))⟩) fun d0 => ?_
 refine zK (fun d => ⟨h, Sub.cons h2 (Sub.cons h1 (Sub.refl h)), kF k (fun e => d (by rw [e]))⟩) fun d1 => ?_
 refine zK (fun d => ⟨h, Sub.cons h2 (Sub.cons h1 (Sub.refl h)), kF k (fun e => d (by rw [e]))⟩) fun d2 => ?_
 refine eqRecordS_c (rx.1.sub (sb _) fun c a q => rRecord.sub (sb _) q) (ry.1.sub (sb _) fun c a q => rRecord.sub (sb _) q) hx.recs (by omega) ?_
 simp only [wk, seval, zB, n.1, n.2.1]
 refine zK (fun d => ⟨h, Sub.cons h2 (Sub.cons h1 (Sub.refl h)), kF k (fun e => d (by rw [e]))⟩) fun d3 => ?_
 refine eqLiveS_c (rx.2.1.sub (sb _) fun c a q => rLive.sub (sb _) q) (ry.2.1.sub (sb _) fun c a q => rLive.sub (sb _) q) hx.live (by omega) ?_
 simp only [wk, seval, zB, n.1, n.2.1]
 refine zK (fun d => ⟨h, Sub.cons h2 (Sub.cons h1 (Sub.refl h)), kF k (fun e => d (by rw [e]))⟩) fun d4 => ?_
 refine eqWayS_c (rx.2.2.sub (sb _)) (ry.2.2.sub (sb _)) (by omega) ?_
 simp only [wk, seval, zB, n.1, n.2.1]
 refine zK (fun d => ⟨h, Sub.cons h2 (Sub.cons h1 (Sub.refl h)), kF k (fun e => d (by rw [e]))⟩) fun d5 => ?_
 refine ⟨h, Sub.cons h2 (Sub.cons h1 (Sub.refl h)), kT k ?_⟩
 cases x; cases y; simp_all
def nGate (h : H) (d : DGate) (v1 v2 v3 : Value) : Prop := rIRs h (nRecord h) 11 v1 d.log /\ rIRs h (nLive h) 12 v2 d.lives /\ rIn h cWay 2 v3 d.ways
theorem nGate.sub {g h : H} (s : Tk.Sub g h) {d : DGate} {v1 v2 v3 : Value} (r : nGate g d v1 v2 v3) : nGate h d v1 v2 v3 :=
 ⟨r.1.sub s fun _ _ q => nRecord.sub s q, r.2.1.sub s fun _ _ q => nLive.sub s q, r.2.2.sub s⟩
def uGate (d : DGate) : Prop := d.log.length <= 9223372036854775807 /\ (∀ x ∈ d.log, uRecord x) /\ d.lives.length <= 9223372036854775807 /\ (∀ x ∈ d.lives, uLive x) /\ d.ways.length <= 9223372036854775807
theorem szGate_c {h : H} {d : DGate} {v1 v2 v3 : Value} {left : Int} (r : nGate h d v1 v2 v3) (hl : 0 <= left /\ left <= 1048576) (hu : uGate d) {R : Ending -> H -> Prop} (k : ∀ x, (0 <= x -> x = left - szGateN d) -> x <= 1048576 -> R (.returned (.int .i64 x)) h) :
  HCalls Tryz.prog 4 #[.agg (cGate d v1 v2 v3).toArray, .int .i64 left] h R := by
 refine qB (args := [.agg (cGate d v1 v2 v3).toArray, .int .i64 left]) Tryz.func4 ir4 ?_
 obtain ⟨u1, u2, u3, u4, u5⟩ := hu
 unfold szGateN at k
 simp only [wk, seval, zB]
 refine qA fun j hj => ?_
 have sb := fun o => Sub.cons (o := o) hj (Sub.refl h)
 simp (disch := omega) only [wk, seval, zB]
 refine szRecordS_c (r.1.sub (sb _) fun _ _ q => nRecord.sub (sb _) q) ⟨by omega, by omega⟩ (by omega) u2 fun x0 a0 b0 => ?_
 simp (disch := omega) only [wk, seval, zB]
 refine qF (fun c => ⟨h, sb _, k _ (fun q => absurd q (by omega)) (by omega)⟩) fun c0 => ?_
 have a0' := a0 (by omega)
 try simp (disch := omega) only [wk, seval, zB]
 refine szLiveS_c (r.2.1.sub (sb _) fun _ _ q => nLive.sub (sb _) q) ⟨by omega, by omega⟩ (by omega) u4 fun x1 a1 b1 => ?_
 simp (disch := omega) only [wk, seval, zB]
 refine qF (fun c => ⟨h, sb _, k _ (fun q => absurd q (by omega)) (by omega)⟩) fun c1 => ?_
 have a1' := a1 (by omega)
 try simp (disch := omega) only [wk, seval, zB]
 refine szWayS_c (r.2.2.sub (sb _)) ⟨by omega, by omega⟩ (by omega) fun x2 a2 b2 => ?_
 simp (disch := omega) only [wk, seval, zB]
 refine qF (fun c => ⟨h, sb _, k _ (fun q => absurd q (by omega)) (by omega)⟩) fun c2 => ?_
 have a2' := a2 (by omega)
 try simp (disch := omega) only [wk, seval, zB]
 exact ⟨h, sb _, k _ (fun _ => by omega) (by omega)⟩
theorem markGate_c {M : H} {d : DGate} {v1 v2 v3 : Value} {S : Nat -> Prop} {k : Int} (w : WGate M d v1 v2 v3 S) (hl : cnGate d <= 16777216) (hk : 1 <= k /\ k <= 16777216) {R : Ending -> H -> Prop}
  (kr : ∀ M', WGate M' (mkGate k d) v1 v2 v3 S -> Ch S M M' -> R (.returned (.int .i64 (k + cnGate d))) M') : HCalls Tryz.prog 10 #[.agg (cGate d v1 v2 v3).toArray, .int .i64 k] M R := by
 refine qB (args := [.agg (cGate d v1 v2 v3).toArray, .int .i64 k]) Tryz.func10 ir10 ?_
 unfold cnGate at hl kr
 simp only [wk, seval, zB]
 refine qA fun j hj => ?_
 obtain ⟨N, hN⟩ : ∃ N, N = (j, blk (cGate d v1 v2 v3) 34) :: M := ⟨_, rfl⟩
 have sN : Tk.Sub M N := by rw [hN]; exact Sub.cons hj (Sub.refl _)
 have gN : hget N j = some (blk (cGate d v1 v2 v3) 34) := by rw [hN]; exact qL _ _ _
 have hSj : ¬ S j := fun c => w.in c hj
 have w0 := w.frame (M' := N) fun x q => Sub.eq sN (w.in q)
 obtain ⟨S1, S2, S3, q1, q2, q3, d12, d13, d23, su⟩ := w0
 have c3 : hcel N j 3 = some v1 := qH gN rfl
 simp only [wk, seval, zB]
 rw [<- hN]
 try simp only [wk, seval, zB, c3]
 refine markRecordS_c q1 (by omega) (by omega) fun N1 p1 ch1 => ?_
 have g1 : hget N1 j = some (blk (cGate d v1 v2 v3) 34) := by rw [ch1 j fun c => hSj ((su j).2 (.inl c))]; exact gN
 have c4 : hcel N1 j 4 = some v2 := qH g1 rfl
 simp only [wk, seval, zB, c4]
 refine markLiveS_c (q2.frame WLive.fr fun x q => ch1 x fun c => d12 x c q) (by omega) (by omega) fun N2 p2 ch2 => ?_
 have g2 : hget N2 j = some (blk (cGate d v1 v2 v3) 34) := by rw [ch2 j fun c => hSj ((su j).2 (.inr (.inl c)))]; exact g1
 have c5 : hcel N2 j 5 = some v3 := qH g2 rfl
 simp only [wk, seval, zB, c5]
 refine HCalls_ch (q3.frame fun x q => by rw [ch2 x fun c => d23 x c q, ch1 x fun c => d13 x c q]) (fun g h0 R o dj kr => markWayS_c o dj (by omega) (by omega) kr) fun N3 p3 ch3 => ?_
 simp only [wk, seval]
 have chA : Ch S N N3 := fun x q => by
  rw [ch3 x fun c => q ((su x).2 (.inr (.inr c))), ch2 x fun c => q ((su x).2 (.inr (.inl c))), ch1 x fun c => q ((su x).2 (.inl c))]
 obtain ⟨N4, s4, ch4, f4⟩ := chA.unbox hN hj hSj
 refine ⟨N4, s4, ?_⟩
 have := kr N4 ⟨S1, S2, S3, p1.frame WRecord.fr fun x q => by rw [f4 x ((su x).2 (.inl q)), ch3 x (d13 x q), ch2 x (d12 x q)], p2.frame WLive.fr fun x q => by rw [f4 x ((su x).2 (.inr (.inl q))), ch3 x (d23 x q)], p3.frame fun x q => f4 x ((su x).2 (.inr (.inr q))), d12, d13, d23, su⟩ ch4
 have e : k + (sumL cnRec d.log : Nat) + (sumL cnLive d.lives : Nat) + 2 * (d.ways.length : Int) = k + ((sumL cnRec d.log + sumL cnLive d.lives + 2 * d.ways.length : Nat) : Int) := by omega
 rw [e]; exact this
theorem toWayS_d {h : H} {a : Value} {l : List DWay} (r : rIn h cWay 2 a l) (hl : l.length <= 1048576) {R : Ending -> H -> Prop} (k : ∀ M' v S, Tk.Sub h M' -> dL 108 cWay 2 M' v l S -> (∀ x, S x -> hget h x = none) -> R (.returned v) M') : HCalls Tryz.prog 22 #[a] h R :=
 toWayS_c r hl fun v g o d => k _ v _ (Sub.right d) (dL.of (h := h) o (Sub.left _ _)) fun x q => d x q
set_option maxHeartbeats 1000000 in
theorem toGate_c {h : H} {d : DGate} {v1 v2 v3 : Value} (r : nGate h d v1 v2 v3) (hx : bGate d) {R : Ending -> H -> Prop}
  (k : ∀ M' w1 w2 w3 S, Tk.Sub h M' -> WGate M' d w1 w2 w3 S -> (∀ x, S x -> hget h x = none) -> R (.returned (.agg (cGate d w1 w2 w3).toArray)) M') : HCalls Tryz.prog 6 #[.agg (cGate d v1 v2 v3).toArray] h R := by
 refine qB (args := [.agg (cGate d v1 v2 v3).toArray]) Tryz.func6 ir6 ?_
 have b1 := hx.log; have b2 := hx.lives; have b3 := hx.ways
 unfold lim at b1 b2 b3
 have z1 := zGate_eq
 try simp only [str] at z1
 simp only [wk, seval, zB, str, z1]
 refine qA fun j1 h1 => ?_
 simp only [wk, seval, zB]
 refine qA fun j2 h2 => ?_
 simp only [wk, seval, zB]
 refine qA fun j3 h3 => ?_
 have n2 := h2
 have n3 := h3
 simp only [subs] at n2 n3
 have m : j1 ≠ j2 /\ j1 ≠ j3 /\ j2 ≠ j3 /\ j2 ≠ j1 /\ j3 ≠ j1 /\ j3 ≠ j2 := by refine ⟨?_, ?_, ?_, ?_, ?_, ?_⟩ <;> simp_all [Ne, eq_comm]
 try simp only [wk, seval, zB, z1, m]
 obtain ⟨d0, hd0⟩ : ∃ d0 : DGate, d0 = ⟨d.up, d.life, d.next, zGate.log, zGate.lives, zGate.ways⟩ := ⟨_, rfl⟩
 rw [<- hd0]
 have same : ∀ a b c, cGate d0 a b c = cGate d a b c := fun a b c => by rw [hd0]; rfl
 obtain ⟨M0, hM0⟩ : ∃ M0, M0 = (j3, blk (cGate d0 (.slice none 0 0) (.slice none 0 0) (.slice none 0 0)) 34) :: (j2, blk (cGate zGate (.slice none 0 0) (.slice none 0 0) (.slice none 0 0)) 34) :: (j1, blk (cGate d v1 v2 v3) 26) :: h := ⟨_, rfl⟩
 have sM0 : Tk.Sub h M0 := by rw [hM0]; (repeat' first | exact Sub.refl _ | exact Sub.nil _ | assumption | refine Sub.both ?_ ?_ | refine Sub.cons_of (by simp only [subs, n2, n3, h1, m]) ?_ | exact Sub.left _ _ | refine Sub.app (by simp only [subs, n2, n3, h1, m]) ?_ | refine Sub.cons (by simp only [subs, n2, n3, h1, m]) ?_)
 have g1 : hget M0 j1 = some (blk (cGate d v1 v2 v3) 26) := by rw [hM0]; simp only [mem, m, ne_eq, not_false_eq_true]
 have g2 : hget M0 j2 = some (blk (cGate zGate (.slice none 0 0) (.slice none 0 0) (.slice none 0 0)) 34) := by rw [hM0]; simp only [mem, m, ne_eq, not_false_eq_true]
 have g3 : hget M0 j3 = some (blk (cGate d0 (.slice none 0 0) (.slice none 0 0) (.slice none 0 0)) 34) := by rw [hM0]; simp only [mem]
 rw [<- hM0]
 have cl1 : hcel M0 j1 3 = some v1 := qH g1 rfl
 try simp only [wk, seval, zB, cl1]
 refine toRecordS_c (r.1.sub sM0 fun _ _ q => nRecord.sub sM0 q) (by omega) hx.recs fun M1 w1 S1 t1 u1 f1 => ?_
 have g1_1' := t1 _ _ g1
 have g2_1' := t1 _ _ g2
 have g3_1' := t1 _ _ g3
 obtain ⟨N1, hN1⟩ : ∃ N1, N1 = hupd M1 j3 (blk (cGate d0 w1 (.slice none 0 0) (.slice none 0 0)) 34) := ⟨_, rfl⟩
 have wt1 : qT M1 j3 3 [w1] = some N1 := by
  rw [hN1]; exact zH g3_1' (by show 3 + 1 <= 6; omega)
 have on1 := u1.one
 have vcw1 := vc1 on1
 have g3_1 : hget N1 j3 = some (blk (cGate d0 w1 (.slice none 0 0) (.slice none 0 0)) 34) := by rw [hN1]; exact qN g3_1'
 have g1_1 : hget N1 j1 = some (blk (cGate d v1 v2 v3) 26) := by rw [hN1, qG m.2.1]; exact g1_1'
 have g2_1 : hget N1 j2 = some (blk (cGate zGate (.slice none 0 0) (.slice none 0 0) (.slice none 0 0)) 34) := by rw [hN1, qG m.2.2.1]; exact g2_1'
 have fr1 : ∀ x, x ≠ j3 -> hget N1 x = hget M1 x := fun x e => by rw [hN1, qG e]
 have sN1 : Tk.Sub h N1 := fun x o e => by
  rw [fr1 x (fun c => by subst c; rw [n3.2.2] at e; cases e)]; exact t1 _ _ (sM0 _ _ e)
 simp only [wk, seval, zB, wt1, on1, vcw1]
 have cl2 : hcel N1 j1 4 = some v2 := qH g1_1 rfl
 try simp only [wk, seval, zB, cl2]
 refine toLiveS_c (r.2.1.sub sN1 fun _ _ q => nLive.sub sN1 q) (by omega) hx.live fun M2 w2 S2 t2 u2 f2 => ?_
 have g1_2' := t2 _ _ g1_1
 have g2_2' := t2 _ _ g2_1
 have g3_2' := t2 _ _ g3_1
 obtain ⟨N2, hN2⟩ : ∃ N2, N2 = hupd M2 j3 (blk (cGate d0 w1 w2 (.slice none 0 0)) 34) := ⟨_, rfl⟩
 have wt2 : qT M2 j3 4 [w2] = some N2 := by
  rw [hN2]; exact zH g3_2' (by show 4 + 1 <= 6; omega)
 have on2 := u2.one
 have vcw2 := vc1 on2
 have g3_2 : hget N2 j3 = some (blk (cGate d0 w1 w2 (.slice none 0 0)) 34) := by rw [hN2]; exact qN g3_2'
 have g1_2 : hget N2 j1 = some (blk (cGate d v1 v2 v3) 26) := by rw [hN2, qG m.2.1]; exact g1_2'
 have g2_2 : hget N2 j2 = some (blk (cGate zGate (.slice none 0 0) (.slice none 0 0) (.slice none 0 0)) 34) := by rw [hN2, qG m.2.2.1]; exact g2_2'
 have fr2 : ∀ x, x ≠ j3 -> hget N2 x = hget M2 x := fun x e => by rw [hN2, qG e]
 have sN2 : Tk.Sub h N2 := fun x o e => by
  rw [fr2 x (fun c => by subst c; rw [n3.2.2] at e; cases e)]; exact t2 _ _ (sN1 _ _ e)
 simp only [wk, seval, zB, wt2, on2, vcw2]
 have cl3 : hcel N2 j1 5 = some v3 := qH g1_2 rfl
 try simp only [wk, seval, zB, cl3]
 refine toWayS_d (r.2.2.sub sN2) (by omega) fun M3 w3 S3 t3 u3 f3 => ?_
 have g1_3' := t3 _ _ g1_2
 have g2_3' := t3 _ _ g2_2
 have g3_3' := t3 _ _ g3_2
 obtain ⟨N3, hN3⟩ : ∃ N3, N3 = hupd M3 j3 (blk (cGate d0 w1 w2 w3) 34) := ⟨_, rfl⟩
 have wt3 : qT M3 j3 5 [w3] = some N3 := by
  rw [hN3]; exact zH g3_3' (by show 5 + 1 <= 6; omega)
 have on3 := u3.one
 have vcw3 := vc1 on3
 have g3_3 : hget N3 j3 = some (blk (cGate d0 w1 w2 w3) 34) := by rw [hN3]; exact qN g3_3'
 have g1_3 : hget N3 j1 = some (blk (cGate d v1 v2 v3) 26) := by rw [hN3, qG m.2.1]; exact g1_3'
 have g2_3 : hget N3 j2 = some (blk (cGate zGate (.slice none 0 0) (.slice none 0 0) (.slice none 0 0)) 34) := by rw [hN3, qG m.2.2.1]; exact g2_3'
 have fr3 : ∀ x, x ≠ j3 -> hget N3 x = hget M3 x := fun x e => by rw [hN3, qG e]
 have sN3 : Tk.Sub h N3 := fun x o e => by
  rw [fr3 x (fun c => by subst c; rw [n3.2.2] at e; cases e)]; exact t3 _ _ (sN2 _ _ e)
 simp only [wk, seval, zB, wt3, on3, vcw3]
 have rd3 : qQ N3 j3 0 6 = some (cGate d0 w1 w2 w3) := qU g3_3 rfl
 obtain ⟨Z3, hZ3⟩ : ∃ Z3, Z3 = hupd N3 j2 (blk (cGate d0 w1 w2 w3) 34) := ⟨_, rfl⟩
 have wtz : qT N3 j2 0 (cGate d0 w1 w2 w3) = some Z3 := by
  rw [hZ3]; exact zH g2_3 (by show 0 + 6 <= 6; omega)
 have hone : (cGate d0 w1 w2 w3).all vone = true := by simp only [cGate, List.all_cons, List.all_nil, on1, on2, on3]; rfl
 simp only [wk, seval, zB, rd3, wtz, hone]
 have rdz : qQ Z3 j2 0 6 = some (cGate d0 w1 w2 w3) := qU (by rw [hZ3]; exact qN g2_3) rfl
 simp only [wk, seval, zB, rdz]
 have frz : ∀ x, x ≠ j2 -> hget Z3 x = hget N3 x := fun x e => by rw [hZ3, qG e]
 have ne1 : ∀ x, S1 x -> x ≠ j2 /\ x ≠ j3 := fun x q => ⟨fun e => (by have := f1 x q; rw [e, g2] at this; cases this), fun e => (by have := f1 x q; rw [e, g3] at this; cases this)⟩
 have ne2 : ∀ x, S2 x -> x ≠ j2 /\ x ≠ j3 := fun x q => ⟨fun e => (by have := f2 x q; rw [e, g2_1] at this; cases this), fun e => (by have := f2 x q; rw [e, g3_1] at this; cases this)⟩
 have ne3 : ∀ x, S3 x -> x ≠ j2 /\ x ≠ j3 := fun x q => ⟨fun e => (by have := f3 x q; rw [e, g2_2] at this; cases this), fun e => (by have := f3 x q; rw [e, g3_2] at this; cases this)⟩
 have k1 : ∀ x, S1 x -> hget N1 x ≠ none := fun x q => by rw [fr1 x (ne1 x q).2]; exact u1.in WRecord.in q
 have k1' : ∀ x, S1 x -> hget N2 x ≠ none := fun x q => by rw [fr2 x (ne1 x q).2, Sub.eq t2 (k1 x q)]; exact k1 x q
 have k2 : ∀ x, S2 x -> hget N2 x ≠ none := fun x q => by rw [fr2 x (ne2 x q).2]; exact u2.in WLive.in q
 have d12 : ∀ x, S1 x -> ¬ S2 x := fun x q q2 => k1 x q (f2 x q2)
 have d13 : ∀ x, S1 x -> ¬ S3 x := fun x q q2 => k1' x q (f3 x q2)
 have d23 : ∀ x, S2 x -> ¬ S3 x := fun x q q2 => k2 x q (f3 x q2)
 rw [same]
 refine dP.of (k Z3 w1 w2 w3 (fun x => S1 x ∨ S2 x ∨ S3 x) (fun x o e => by rw [frz x (fun c => by subst c; rw [n2.2] at e; cases e)]; exact sN3 x o e)
  ⟨S1, S2, S3, u1.frame WRecord.fr fun x q => by rw [frz x (ne1 x q).1, fr3 x (ne1 x q).2, Sub.eq t3 (k1' x q), fr2 x (ne1 x q).2, Sub.eq t2 (k1 x q), fr1 x (ne1 x q).2],
   u2.frame WLive.fr fun x q => by rw [frz x (ne2 x q).1, fr3 x (ne2 x q).2, Sub.eq t3 (k2 x q), fr2 x (ne2 x q).2], u3.frame fun x q => by rw [frz x (ne3 x q).1, fr3 x (ne3 x q).2], d12, d13, d23, fun _ => Iff.rfl⟩ ?_)
 rintro x (q | q | q)
 ·exact sM0.none' (f1 x q)
 ·exact sN1.none' (f2 x q)
 ·exact sN2.none' (f3 x q)
end Go.Proofs.YtgbapakcfmgahaaGreatDoor
end

section
set_option maxRecDepth 20000
attribute [local irreducible] Go.Tk.vc Go.Tk.vops Go.Tk.vdr Go.Tk.vop Go.Tk.vfl Go.Tk.HCalls
namespace Go.Tk
open Go
def mapN (n : Nat) : List Int := (List.range n).map fun (i : Nat) => (i : Int).tmod 3
theorem mapN_more (n : Nat) : mapN (n + 1) = mapN n ++ [(n : Int).tmod 3] := by simp [mapN, List.range_succ]
theorem mapN_set {i : Nat} (h : i < 8) : (mapN i ++ List.replicate (8 - i) 0).set i ((i % 3 : Nat) : Int) = mapN (i + 1) ++ List.replicate (8 - (i + 1)) 0 := by
 rw [List.set_append_right _ _ (by simp [mapN]), mapN_more]
 obtain ⟨n, hn⟩ : ∃ n, 8 - i = n + 1 := ⟨8 - i - 1, by omega⟩
 have : 8 - (i + 1) = n := by omega
 rw [hn, this, List.replicate_succ]
 simp [mapN]
 rfl
theorem mapN_len (n : Nat) : (mapN n).length = n := by simp [mapN]
theorem map0_eq : map0 = ⟨1, mapN 8⟩ := rfl
end Go.Tk
namespace Go.Proofs.YtgbapakcfmgahaaGreatDoor
open Go Go.Tk
theorem specMapStart_c {h : H} {R : Ending -> H -> Prop} (k : ∀ ow g, oLs 3 eI 1 ow map0.owners g -> Dj g h -> R (.returned (.agg (cMap map0 ow).toArray)) (g ++ h)) : HCalls Tryz.prog 121 #[] h R := by
 refine qB (args := []) Tryz.func121 ir121 ?_
 have zm := zMap_eq
 simp only [wk, seval, zm]
 refine qA (o := blk (cMap zMap (.slice none 0 0)) 102) fun j0 hj0 => ?_
 simp only [wk, seval, wMap, zm]
 refine qA (o := blk (cMap zMap (.slice none 0 0)) 102) fun j1 hj1 => ?_
 have n1 := hj1
 simp only [subs] at n1
 have e1 : ¬ j0 = j1 := fun e => n1.1 e.symm
 have s01 : ∀ v : Value, Tk.Sub h ((j1, blk (cMap ⟨1, []⟩ v) 102) :: (j0, blk (cMap zMap (.slice none 0 0)) 102) :: h) := fun v => by (repeat' first | exact Sub.refl _ | exact Sub.nil _ | assumption | refine Sub.both ?_ ?_ | refine Sub.cons_of (by simp only [subs, n1, hj0]) ?_ | exact Sub.left _ _ | refine Sub.app (by simp only [subs, n1, hj0]) ?_ | refine Sub.cons (by simp only [subs, n1, hj0]) ?_)
 have zb : ∀ v : Value, [Value.int .i64 1, v] = cMap ⟨1, []⟩ v := fun _ => rfl
 simp only [wk, seval, wMap, zm, zb, e1]
 refine vc_loopS (g0 := ([] ++ ((j1, blk (cMap ⟨1, []⟩ (.slice none 0 0)) 102) :: (j0, blk (cMap zMap (.slice none 0 0)) 102) :: h))) [2] (fun n vs h' => ∃ (i : Nat) (v' : Value) (G : H), vs = [.int .i64 i] /\ h' = G ++ ((j1, blk (cMap ⟨1, []⟩ v') 102) :: (j0, blk (cMap zMap (.slice none 0 0)) 102) :: h) /\
   Dj G ((j1, blk (cMap ⟨1, []⟩ (.slice none 0 0)) 102) :: (j0, blk (cMap zMap (.slice none 0 0)) 102) :: h) /\ oLs 3 eI 1 v' (mapN i) G /\ i <= 8 /\ n = 8 - i) 8 rfl (Sub.refl _)
  ⟨0, .slice none 0 0, [], rfl, rfl, Dj.nil _, oLs_nil, by omega, rfl⟩ ?_
 rintro n f h' ⟨i, v', G, hv, rfl, dG, oG, hi, rfl⟩
 simp only [lm4] at hv
 have nG := dG
 simp only [subs] at nG
 simp only [wk, seval, wr, hv, wMap, nG, apps]
 refine qF (fun c => ?_) fun c => ?_
 ·rw [show (i : Int).tmod 3 = ((i % 3 : Nat) : Int) from rfl]
  refine qA (o := blk (fl eI [((i % 3 : Nat) : Int)]) 3) fun j5 hj5 => ?_
  have n5 := hj5
  simp only [subs] at n5
  have e51 : ¬ j1 = j5 := fun e => n5.2.1 e.symm
  simp only [wk, seval, wMap, nG, apps, e51]
  refine app_leaf (g := G) (h := (j1, blk (cMap ⟨1, []⟩ v') 102) :: (j0, blk (cMap zMap (.slice none 0 0)) 102) :: h) zC eI_one tInts iInt (Sub.cons hj5 (Sub.refl _)) (by simp only [subs, nG]) oG (rI_lit (e := 3) [((i % 3 : Nat) : Int)]) (by rw [mapN_len]; simp; omega) (by rw [mapN_len]; simp; omega) fun v2 g2 o2 d2 => ?_
  have n2 := d2
  simp only [subs] at n2
  have ov := rdS.one o2.rd
  have vc2 := vc1 ov
  simp only [wk, seval, wMap, n2, apps, ov, vc2]
  simp (disch := omega) only [wk, seval, qI]
  refine ⟨8 - (i + 1), by omega, _, .refl _, i + 1, v2, g2, by simp, rfl, by simp only [subs, n2], by rw [mapN_more]; exact o2, by omega, rfl⟩
 ·have : i = 8 := by omega
  subst this
  simp only [wk, seval, wMap, nG, n1, e1, apps]
  exact ⟨wMap.2.2.2.2.2.1 _ _ (rdS.one oG.rd), _, by (repeat' first | exact Sub.refl _ | exact Sub.nil _ | assumption | refine Sub.both ?_ ?_ | refine Sub.cons_of (by simp only [subs, nG, n1, hj0]) ?_ | exact Sub.left _ _ | refine Sub.app (by simp only [subs, nG, n1, hj0]) ?_ | refine Sub.cons (by simp only [subs, nG, n1, hj0]) ?_), k v' G (by rw [map0_eq]; exact oG) (by simp only [nG])⟩
theorem cloneInts_c {h : H} {v : Value} {l : List Int} (r : rInts h v l) (hl : l.length <= 1099511627776) {R : Ending -> H -> Prop} (k : ∀ v' g, oLs 3 eI 1 v' l g -> Dj g h -> R (.returned v') (g ++ h)) :
  HCalls Tryz.prog 134 #[v] h R := clone_l Tryz.func134 ir134 eI_one tInts iInt r (by omega) (by omega) k
theorem specMapOk_c {h : H} {d : DMap} {ow : Value} (r : rInts h ow d.owners) (hl : d.owners.length <= 1099511627776) {R : Ending -> H -> Prop} (k : Asks R (mapP d) h) : HCalls Tryz.prog 146 #[.agg (cMap d ow).toArray] h R := by
 refine qB (args := [.agg (cMap d ow).toArray]) Tryz.func146 ir146 ?_
 simp only [wk, seval, wMap]
 refine qA (o := blk (cMap d ow) 102) fun j hj => ?_
 have s1 := Sub.cons (o := blk (cMap d ow) 102) hj (Sub.refl h)
 have r1 := r.sub s1
 simp only [wk, seval, wMap]
 refine l6In_c fun b1 hb1 => ?_
 simp only [wk, seval, wMap, r1.len]
 cases b1 with
 | false =>
  simp only [wk, seval, wMap]
  exact k.dno s1 fun p => zG hb1 rfl p.1
 | true =>
  simp only [wk, seval, wMap, r1.len]
  refine zK (fun c => ?_) fun c => ?_
  ·exact k.dno s1 fun p => c (by rw [p.2.1]; rfl)
  ·have hl8 : d.owners.length = 8 := by omega
   refine qS [3] (fun n vs h' => ∃ i : Nat, vs = [.int .i64 i] /\ h' = (j, blk (cMap d ow) 102) :: h /\ i <= d.owners.length /\ n = d.owners.length - i /\ allP zO (d.owners.take i)) d.owners.length rfl ⟨0, rfl, rfl, by omega, by omega, allP_zero _ _⟩ ?_
   rintro n f h' ⟨i, hv, rfl, hi, rfl, ht⟩
   simp only [lm4] at hv
   simp only [wk, seval, wr, hv, wMap, r1.len]
   refine qF (fun c1 => ?_) fun c1 => ?_
   ·refine zJ (i := i) zC r1 rfl (by omega) fun b1 o1 e1 => ?_
    simp only [wk, seval, zW e1]
    refine l6In_c fun b hb => ?_
    simp (disch := omega) only [wk, seval, qI]
    refine ite_f (fun e => k.dno s1 fun p => allP_not (by omega) (zG hb e) p.2.2) fun e => ?_
    exact ⟨d.owners.length - (i + 1), by omega, _, .refl _, i + 1, by simp, rfl, by omega, rfl, allP_more (by omega) ht (hb.1 e)⟩
   ·exact ⟨h, s1, k.yes ⟨hb1.1 rfl, hl8, allP_done (by omega) ht⟩⟩
theorem implMapOk_c {h : H} {d : DMap} {ow : Value} (r : rInts h ow d.owners) (hl : d.owners.length <= 1099511627776) {R : Ending -> H -> Prop} (k : Asks R (mapP d) h) : HCalls Tryz.prog 151 #[.agg (cMap d ow).toArray] h R := by
 refine qB (args := [.agg (cMap d ow).toArray]) Tryz.func151 ir151 ?_
 simp only [wk, seval, wMap]
 refine qA (o := blk (cMap d ow) 102) fun j hj => ?_
 have s1 := Sub.cons (o := blk (cMap d ow) 102) hj (Sub.refl h)
 have r1 := r.sub s1
 simp only [wk, seval, wMap]
 refine within_c fun b1 hb1 => ?_
 cases b1 with
 | false =>
  simp only [wk, seval, wMap]
  exact k.dno s1 fun p => zG hb1 rfl p.1
 | true =>
  simp only [wk, seval, wMap, r1.len]
  refine zK (fun c => ?_) fun c => ?_
  ·exact k.dno s1 fun p => c (by rw [p.2.1]; rfl)
  ·have hl8 : d.owners.length = 8 := by omega
   refine qS [18] (fun n vs h' => ∃ i : Nat, vs = [.int .i64 i] /\ h' = (j, blk (cMap d ow) 102) :: h /\ i <= d.owners.length /\ n = d.owners.length - i /\ allP zO (d.owners.take i)) d.owners.length rfl ⟨0, rfl, rfl, by omega, by omega, allP_zero _ _⟩ ?_
   rintro n f h' ⟨i, hv, rfl, hi, rfl, ht⟩
   simp only [lm4] at hv
   simp only [wk, seval, wr, hv, wMap, r1.len]
   refine qF (fun c1 => ?_) fun c1 => ?_
   ·refine zJ (i := i) zC r1 rfl (by omega) fun b1 o1 e1 => ?_
    simp only [wk, seval, zW e1]
    refine isHouse_c fun b hb => ?_
    simp (disch := omega) only [wk, seval, qI]
    refine ite_f (fun e => k.dno s1 fun p => allP_not (by omega) (zG hb e) p.2.2) fun e => ?_
    exact ⟨d.owners.length - (i + 1), by omega, _, .refl _, i + 1, by simp, rfl, by omega, rfl, allP_more (by omega) ht (hb.1 e)⟩
   ·exact ⟨h, s1, k.yes ⟨hb1.1 rfl, hl8, allP_done (by omega) ht⟩⟩
theorem l2Copy_c {h : H} {d : DMap} {ow : Value} (r : rInts h ow d.owners) (hl : d.owners.length <= 1099511627776) {R : Ending -> H -> Prop} (k : ∀ v g, oLs 3 eI 1 v d.owners g -> Dj g h -> R (.returned (.agg (cMap d v).toArray)) (g ++ h)) :
  HCalls Tryz.prog 147 #[.agg (cMap d ow).toArray] h R := by
 refine qB (args := [.agg (cMap d ow).toArray]) Tryz.func147 ir147 ?_
 have zm := zMap_eq
 simp only [wk, seval, wMap, zm]
 refine qA (o := blk (cMap d ow) 102) fun j hj => ?_
 simp only [wk, seval, wMap, zm]
 refine qA (o := blk (cMap zMap (.slice none 0 0)) 102) fun j2 hj2 => ?_
 have n2 := hj2
 simp only [subs] at n2
 have e2 : ¬ j = j2 := fun e => n2.1 e.symm
 simp only [wk, seval, wMap, zm, e2]
 refine qY _ (Sub.refl _) ?_
 simp only [wk, seval, wMap, zm, e2]
 refine qA (o := blk (fl eI []) 3) fun j5 hj5 => ?_
 have s5 := Sub_new (o := blk (fl eI []) 3) hj5
 simp only [wk, seval, wMap, zm, e2, s5]
 refine app_leaf (g := [(j5, blk (fl eI []) 3)]) (h := (j2, blk (cMap zMap (.slice none 0 0)) 102) :: (j, blk (cMap d ow) 102) :: h) (l := []) zC eI_one tInts iInt (Sub.refl _) (Dj.one hj5) (oLs_new zC) (r.sub (by (repeat' first | exact Sub.refl _ | exact Sub.nil _ | assumption | refine Sub.both ?_ ?_ | refine Sub.cons_of (by simp only [subs, n2, hj, e2, hj5]) ?_ | exact Sub.left _ _ | refine Sub.app (by simp only [subs, n2, hj, e2, hj5]) ?_ | refine Sub.cons (by simp only [subs, n2, hj, e2, hj5]) ?_))) (by simp; omega) (by simp; omega) fun v2 g2 o2 d2 => ?_
 have m2 := d2
 simp only [subs] at m2
 have ov := rdS.one o2.rd
 have vc2 := vc1 ov
 simp only [wk, seval, Sub.right d2, apps, m2, wMap, zm, e2, ov, vc2]
 have zb : ∀ v : Value, [Value.int .i64 d.version, v] = cMap d v := fun _ => rfl
 exact ⟨g2 ++ h, by (repeat' first | exact Sub.refl _ | exact Sub.nil _ | assumption | refine Sub.both ?_ ?_ | refine Sub.cons_of (by simp only [subs, m2, n2, hj, e2]) ?_ | exact Sub.left _ _ | refine Sub.app (by simp only [subs, m2, n2, hj, e2]) ?_ | refine Sub.cons (by simp only [subs, m2, n2, hj, e2]) ?_), k v2 g2 (by simpa using o2) (by simp only [m2])⟩
theorem mapMove_bad {m : DMap} {slot to : Int} (h : ¬ mapP m) : mapMove m slot to = (zMap, 9) := by unfold mapMove; rw [if_pos h]
theorem mapMove_off {m : DMap} {slot to : Int} (h : mapP m) (x : ¬ slotP slot ∨ ¬ zO to) : mapMove m slot to = (m, 9) := by unfold mapMove; rw [if_neg (fun c => c h), if_pos x]
theorem mapMove_over {m : DMap} {slot to : Int} (h : mapP m) (x : slotP slot) (y : zO to) (z : 99 <= m.version) : mapMove m slot to = (m, 2) := by
 unfold mapMove; rw [if_neg (fun c => c h), if_neg (fun c => c.elim (· x) (· y)), if_pos z]
theorem mapMove_same {m : DMap} {slot to : Int} (h : mapP m) (x : slotP slot) (y : zO to) (z : ¬ 99 <= m.version) (w : m.owners.getD slot.toNat 0 = to) : mapMove m slot to = (m, 3) := by
 unfold mapMove; rw [if_neg (fun c => c h), if_neg (fun c => c.elim (· x) (· y)), if_neg z, if_pos w]
theorem mapMove_done {m : DMap} {slot to : Int} (h : mapP m) (x : slotP slot) (y : zO to) (z : ¬ 99 <= m.version) (w : ¬ m.owners.getD slot.toNat 0 = to) : mapMove m slot to = (⟨m.version + 1, m.owners.set slot.toNat to⟩, 0) := by
 unfold mapMove; rw [if_neg (fun c => c h), if_neg (fun c => c.elim (· x) (· y)), if_neg z, if_neg w]
theorem specMapMove_c {h : H} {d : DMap} {ow : Value} {slot to : Int} (r : rInts h ow d.owners) (hl : d.owners.length <= 1099511627776) {R : Ending -> H -> Prop}
  (k : ∀ v g, oLs 3 eI 1 v (mapMove d slot to).1.owners g -> Dj g h -> R (.returned (.tuple #[.agg (cMap (mapMove d slot to).1 v).toArray, .int .i64 (mapMove d slot to).2])) (g ++ h)) :
  HCalls Tryz.prog 122 #[.agg (cMap d ow).toArray, .int .i64 slot, .int .i64 to] h R := by
 refine qB (args := [.agg (cMap d ow).toArray, .int .i64 slot, .int .i64 to]) Tryz.func122 ir122 ?_
 have zm := zMap_eq
 simp only [wk, seval, wMap, zm]
 refine qA (o := blk (cMap d ow) 102) fun j hj => ?_
 simp only [wk, seval, wMap, zm]
 refine qA (o := blk (cMap zMap (.slice none 0 0)) 102) fun j2 hj2 => ?_
 have n2 := hj2
 simp only [subs] at n2
 have e2 : ¬ j = j2 := fun e => n2.1 e.symm
 have r2 : ∀ x, rInts ((j2, x) :: (j, blk (cMap d ow) 102) :: h) ow d.owners := fun x => r.sub (by (repeat' first | exact Sub.refl _ | exact Sub.nil _ | assumption | refine Sub.both ?_ ?_ | refine Sub.cons_of (by simp only [subs, n2, hj, e2]) ?_ | exact Sub.left _ _ | refine Sub.app (by simp only [subs, n2, hj, e2]) ?_ | refine Sub.cons (by simp only [subs, n2, hj, e2]) ?_))
 simp only [wk, seval, wMap, zm, e2]
 refine specMapOk_c (r2 _) hl fun b1 hb1 => ?_
 simp only [wk, seval, wMap, zm, e2]
 refine ite_f (fun e => ?_) fun e => ?_
 ·have hno := zG hb1 e
  refine ⟨h, by (repeat' first | exact Sub.refl _ | exact Sub.nil _ | assumption | refine Sub.both ?_ ?_ | refine Sub.cons_of (by simp only [subs, n2, hj, e2]) ?_ | exact Sub.left _ _ | refine Sub.app (by simp only [subs, n2, hj, e2]) ?_ | refine Sub.cons (by simp only [subs, n2, hj, e2]) ?_), ?_⟩
  have := k (.slice none 0 0) [] (by rw [mapMove_bad hno]; exact oLs_nil) (Dj.nil _)
  rw [mapMove_bad hno] at this
  exact this
 ·have hok := hb1.1 e
  refine l2Copy_c (r2 _) hl fun v4 g4 o4 d4 => ?_
  have n4 := d4
  simp only [subs] at n4
  simp only [wk, seval, wMap, zm, e2, n4, apps]
  refine qA (o := blk (cMap zMap (.slice none 0 0)) 102) fun j8 hj8 => ?_
  have n8 := hj8
  simp only [subs] at n8
  have e8 : (¬ j = j8 /\ ¬ j2 = j8) := ⟨fun e => n8.2.2.1 e.symm, fun e => n8.2.1 e.symm⟩
  have ov := rdS.one o4.rd
  have av := wMap.2.2.2.2.2.1 d v4 ov
  simp only [wk, seval, wMap, zm, e2, n4, apps, av]
  have fin : ∀ w : Int, mapMove d slot to = (d, w) -> dP R (.returned (.tuple #[.agg (cMap d v4).toArray, .int .i64 w])) ((j8, blk (cMap d v4) 102) :: (g4 ++ (j2, blk (cMap d v4) 102) :: (j, blk (cMap d ow) 102) :: h)) := fun w hw => by
   refine ⟨g4 ++ h, by (repeat' first | exact Sub.refl _ | exact Sub.nil _ | assumption | refine Sub.both ?_ ?_ | refine Sub.cons_of (by simp only [subs, n8, e8, n4, n2, hj, e2]) ?_ | exact Sub.left _ _ | refine Sub.app (by simp only [subs, n8, e8, n4, n2, hj, e2]) ?_ | refine Sub.cons (by simp only [subs, n8, e8, n4, n2, hj, e2]) ?_), ?_⟩
   have := k v4 g4 (by rw [hw]; exact o4) (by simp only [n4])
   rw [hw] at this
   exact this
  refine l6In_c fun b2 hb2 => ?_
  cases b2 with
  | false =>
   simp only [wk, seval, wMap, zm, e2, n4, e8, apps, av]
   exact fin 9 (mapMove_off hok (.inl (zG hb2 rfl)))
  | true =>
   simp only [wk, seval, wMap, zm, e2, n4, e8, apps, av]
   refine l6In_c fun b3 hb3 => ?_
   simp only [wk, seval, wMap, zm, e2, n4, e8, apps, av]
   have hsl : slotP slot := hb2.1 rfl
   refine ite_f (fun e3 => fin 9 (mapMove_off hok (.inr (zG hb3 e3)))) fun e3 => ?_
   have hto := hb3.1 e3
   refine ite_ge (fun c4 => fin 2 (mapMove_over hok hsl hto c4)) fun c4 => ?_
   have hnv : ¬ 99 <= d.version := by omega
   have hl8 := hok.2.1
   have hs7 : 0 <= slot /\ slot <= 7 := hsl
   have hsn : slot.toNat < d.owners.length := by omega
   have hg : d.owners.getD slot.toNat 0 = d.owners[slot.toNat] := by rw [List.getD_eq_getElem?_getD, List.getElem?_eq_getElem hsn]; rfl
   have r8 : rInts ((j8, blk (cMap d v4) 102) :: (g4 ++ (j2, blk (cMap zMap (.slice none 0 0)) 102) :: (j, blk (cMap d ow) 102) :: h)) ow d.owners := r.sub (by (repeat' first | exact Sub.refl _ | exact Sub.nil _ | assumption | refine Sub.both ?_ ?_ | refine Sub.cons_of (by simp only [subs, n8, e8, n4, n2, hj, e2]) ?_ | exact Sub.left _ _ | refine Sub.app (by simp only [subs, n8, e8, n4, n2, hj, e2]) ?_ | refine Sub.cons (by simp only [subs, n8, e8, n4, n2, hj, e2]) ?_))
   refine zJ (i := slot.toNat) zC r8 (by omega) hsn fun b5 o5 e5 => ?_
   simp only [wk, seval, zW e5]
   refine qZ (fun c6 => ?_) fun c6 => ?_
   ·simp only [wk, seval, wMap, zm, e2, n4, e8, apps, av]
    exact fin 3 (mapMove_same hok hsl hto hnv (by rw [hg]; exact c6))
   ·simp only [wk, seval, wMap, zm, e2, n4, e8, apps, av]
    refine own_idx (i := slot.toNat) zC o4 (by omega) hsn fun b cap sp hv' hc hs hg4 => ?_
    subst hg4
    have nb := n4
    simp only [subs] at nb n8
    have eb : ¬ b = j8 := fun e => n8.1.1 e.symm
    simp only [wk, seval, nb, n8, eb]
    rw [hK_map]
    refine st_own (i := slot.toNat) (a' := to) (off := 0) zC (by omega) hsn rfl (by omega) rfl ?_
    have hw : IntKind.i64.wrap (d.version + 1) = d.version + 1 := qI _ (by have := hok.1.1; omega)
    have hjb := nb
    simp only [wk, seval, wMap, zm, e2, nb, n8, e8, eb, av, hw]
    have eb2 : ¬ b = j2 /\ ¬ b = j := ⟨fun e => nb.1.1 e.symm, fun e => nb.2.1.1 e.symm⟩
    have hmm := mapMove_done hok hsl hto hnv (by rw [hg]; exact c6)
    refine ⟨wMap.2.2.2.2.2.1 _ _ ov, [(b, blk (fl eI (d.owners.set slot.toNat to) ++ sp) 3)] ++ h, by (repeat' first | exact Sub.refl _ | exact Sub.nil _ | assumption | refine Sub.both ?_ ?_ | refine Sub.cons_of (by simp only [subs, n8, e8, nb, n2, hj, e2, eb, eb2]) ?_ | exact Sub.left _ _ | refine Sub.app (by simp only [subs, n8, e8, nb, n2, hj, e2, eb, eb2]) ?_ | refine Sub.cons (by simp only [subs, n8, e8, nb, n2, hj, e2, eb, eb2]) ?_), ?_⟩
    have := k v4 [(b, blk (fl eI (d.owners.set slot.toNat to) ++ sp) 3)] (by rw [hmm]; exact own_set zC hv' hc hs) (Dj.one nb.2.2)
    rw [hmm] at this
    exact this
theorem tOwn : Tryz.prog.underlying 184 = some (.array 8 3) := by kernel_rfl
theorem iInt' : ∃ i, Tryz.prog.info? 3 = some i := ⟨_, iInt.choose_spec.choose_spec.1⟩
theorem implMapStart_c {h : H} {R : Ending -> H -> Prop} (k : ∀ ow g, oLs 3 eI 1 ow map0.owners g -> Dj g h -> R (.returned (.agg (cMap map0 ow).toArray)) (g ++ h)) : HCalls Tryz.prog 110 #[] h R := by
 refine qB (args := []) Tryz.func110 ir110 ?_
 have zm := zMap_eq
 simp only [wk, seval, zm]
 refine qA (o := blk (cMap zMap (.slice none 0 0)) 102) fun j0 hj0 => ?_
 simp only [wk, seval, wMap, zm]
 refine qA (o := blk (fl eI (mapN 0 ++ List.replicate (8 - 0) 0)) 184) fun j1 hj1 => ?_
 have n1 := hj1
 simp only [subs] at n1
 have e1 : ¬ j0 = j1 := fun e => n1.1 e.symm
 simp only [wk, seval, wMap, zm, e1]
 refine qS [3] (fun n vs h' => ∃ i : Nat, vs = [.int .i64 i] /\ h' = (j1, blk (fl eI (mapN i ++ List.replicate (8 - i) 0)) 184) :: (j0, blk (cMap zMap (.slice none 0 0)) 102) :: h /\ i <= 8 /\ n = 8 - i) 8 rfl ⟨0, rfl, rfl, by omega, rfl⟩ ?_
 rintro n f h' ⟨i, hv, rfl, hi, rfl⟩
 simp only [lm4] at hv
 simp only [wk, seval, wr, hv, wMap]
 refine qF (fun c => ?_) fun c => ?_
 ·rw [show (i : Int).tmod 3 = ((i % 3 : Nat) : Int) from rfl]
  refine ⟨⟨by omega, by omega⟩, ?_⟩
  refine st_row (i := i) (a' := ((i % 3 : Nat) : Int)) (off := 0) zC (by omega) (by rw [List.length_append, mapN_len, List.length_replicate]; omega) rfl (by omega) rfl ?_
  simp (disch := omega) only [wk, seval, qI]
  refine ⟨8 - (i + 1), by omega, _, .refl _, i + 1, by simp, ?_, by omega, rfl⟩
  rw [mapN_set (by omega)]
 ·have : i = 8 := by omega
  subst this
  refine raw_all (b := j1) (o := 0) (by simp only [wk, seval]) tOwn iInt'.choose_spec ?_
  simp only [wk, seval]
  refine cloneInts_c (l := mapN 8) ?_ (by rw [mapN_len]; omega) fun v2 g2 o2 d2 => ?_
  ·exact (oLs_new (e := 184) (j := j1) (l := mapN 8) zC).rd.sub (by (repeat' first | exact Sub.refl _ | exact Sub.nil _ | assumption | refine Sub.both ?_ ?_ | refine Sub.cons_of (by simp only [subs, n1]) ?_ | exact Sub.left _ _ | refine Sub.app (by simp only [subs, n1]) ?_ | refine Sub.cons (by simp only [subs, n1]) ?_))
  ·have m2 := d2
   simp only [subs] at m2
   have ov := rdS.one o2.rd
   have vc2 := vc1 ov
   simp only [wk, seval, wMap, m2, apps, ov, vc2, e1]
   exact ⟨g2 ++ h, by (repeat' first | exact Sub.refl _ | exact Sub.nil _ | assumption | refine Sub.both ?_ ?_ | refine Sub.cons_of (by simp only [subs, m2, n1, hj0]) ?_ | exact Sub.left _ _ | refine Sub.app (by simp only [subs, m2, n1, hj0]) ?_ | refine Sub.cons (by simp only [subs, m2, n1, hj0]) ?_), k v2 g2 (by rw [map0_eq]; exact o2) (by simp only [m2])⟩
theorem implMapMove_c {h : H} {d : DMap} {ow : Value} {slot to : Int} (r : rInts h ow d.owners) (hl : d.owners.length <= 1099511627776) {R : Ending -> H -> Prop}
  (k : ∀ v g, oLs 3 eI 1 v (mapMove d slot to).1.owners g -> Dj g h -> R (.returned (.tuple #[.agg (cMap (mapMove d slot to).1 v).toArray, .int .i64 (mapMove d slot to).2])) (g ++ h)) :
  HCalls Tryz.prog 138 #[.agg (cMap d ow).toArray, .int .i64 slot, .int .i64 to] h R := by
 refine qB (args := [.agg (cMap d ow).toArray, .int .i64 slot, .int .i64 to]) Tryz.func138 ir138 ?_
 have zm := zMap_eq
 simp only [wk, seval, wMap, zm]
 refine qA (o := blk (cMap d ow) 102) fun j hj => ?_
 simp only [wk, seval, wMap, zm]
 refine qA (o := blk (cMap zMap (.slice none 0 0)) 102) fun j2 hj2 => ?_
 have n2 := hj2
 simp only [subs] at n2
 have e2 : ¬ j = j2 := fun e => n2.1 e.symm
 have r2 : ∀ x, rInts ((j2, x) :: (j, blk (cMap d ow) 102) :: h) ow d.owners := fun x => r.sub (by (repeat' first | exact Sub.refl _ | exact Sub.nil _ | assumption | refine Sub.both ?_ ?_ | refine Sub.cons_of (by simp only [subs, n2, hj, e2]) ?_ | exact Sub.left _ _ | refine Sub.app (by simp only [subs, n2, hj, e2]) ?_ | refine Sub.cons (by simp only [subs, n2, hj, e2]) ?_))
 simp only [wk, seval, wMap, zm, e2]
 refine implMapOk_c (r2 _) hl fun b1 hb1 => ?_
 simp only [wk, seval, wMap, zm, e2]
 refine ite_f (fun e => ?_) fun e => ?_
 ·have hno := zG hb1 e
  refine ⟨h, by (repeat' first | exact Sub.refl _ | exact Sub.nil _ | assumption | refine Sub.both ?_ ?_ | refine Sub.cons_of (by simp only [subs, n2, hj, e2]) ?_ | exact Sub.left _ _ | refine Sub.app (by simp only [subs, n2, hj, e2]) ?_ | refine Sub.cons (by simp only [subs, n2, hj, e2]) ?_), ?_⟩
  have := k (.slice none 0 0) [] (by rw [mapMove_bad hno]; exact oLs_nil) (Dj.nil _)
  rw [mapMove_bad hno] at this
  exact this
 ·have hok := hb1.1 e
  have hl8 := hok.2.1
  obtain ⟨b0, o0, cap, hv0, hcap, rd⟩ : ∃ b o cap, ow = .slice (some ⟨b, o, none⟩) 8 cap /\ 8 <= cap /\ qQ h b o 8 = some (fl eI d.owners) := by
   obtain ⟨hlen, ⟨_, h0⟩ | ⟨b, o, cap, hv, hc, e⟩⟩ := r
   ·omega
   ·rw [hl8] at hv hc e
    exact ⟨b, o, cap, hv, hc, e⟩
  refine raw_arr (b := b0) (o := o0) (len := 8) (cap := cap) (by simp only [wk, seval, hv0]) tOwn (Nat.le_refl _) ?_
  have rd2 : qQ ((j2, blk (cMap zMap (.slice none 0 0)) 102) :: (j, blk (cMap d ow) 102) :: h) b0 o0 8 = some (fl eI d.owners) := hread_sub (by (repeat' first | exact Sub.refl _ | exact Sub.nil _ | assumption | refine Sub.both ?_ ?_ | refine Sub.cons_of (by simp only [subs, n2, hj, e2]) ?_ | exact Sub.left _ _ | refine Sub.app (by simp only [subs, n2, hj, e2]) ?_ | refine Sub.cons (by simp only [subs, n2, hj, e2]) ?_)) rd
  simp only [wk, seval, rd2]
  have hlen : (fl eI d.owners).length = 8 := by rw [fl_len zC, hl8]
  have hone := eI_one d.owners
  obtain ⟨Z, hZ, hl0⟩ : ∃ Z : List Value, [Value.int .i64 0, Value.int .i64 0, Value.int .i64 0, Value.int .i64 0, Value.int .i64 0, Value.int .i64 0, Value.int .i64 0, Value.int .i64 0] = Z /\ Z.length = 8 := ⟨_, rfl, rfl⟩
  have hsp : qJ Z 0 (fl eI d.owners) = fl eI d.owners := by
   rw [splice_eq _ _ _ (by omega), hlen, List.take_zero, List.drop_eq_nil_of_le (by omega)]
   simp
  simp only [hZ]
  refine qA (o := blk Z 184) fun j8 hj8 => ?_
  have n8 := hj8
  simp only [subs] at n8
  have e8 : ¬ j2 = j8 /\ ¬ j = j8 := ⟨fun e => n8.1 e.symm, fun e => n8.2.1 e.symm⟩
  simp only [wk, seval, hlen, hone, hsp, hl0]
  obtain ⟨rest, hrest⟩ : ∃ rest, rest = (j8, blk (fl eI d.owners) 184) :: (j2, blk (cMap zMap (.slice none 0 0)) 102) :: (j, blk (cMap d ow) 102) :: h := ⟨_, rfl⟩
  rw [<- hrest]
  have hver : hcel rest j 0 = some (.int .i64 d.version) := by rw [hrest]; simp only [wk, seval, e8, e2, wMap]
  have hrow : rInts rest (.slice (some ⟨j8, 0, none⟩) 8 8) d.owners := by
   have := (oLs_new (e := 184) (j := j8) (l := d.owners) zC).rd.sub (h := rest) (by rw [hrest]; (repeat' first | exact Sub.refl _ | exact Sub.nil _ | assumption | refine Sub.both ?_ ?_ | refine Sub.cons_of (by simp only [subs, n8]) ?_ | exact Sub.left _ _ | refine Sub.app (by simp only [subs, n8]) ?_ | refine Sub.cons (by simp only [subs, n8]) ?_))
   rw [hl8] at this; exact this
  refine vc_anyR mG [aV (.pointer (some ⟨j, 0, none⟩)), aV (.int .i64 d.version), aV (.slice (some ⟨j8, 0, none⟩) 8 8), aS rest 3 eI 1 d.owners, fun g v => ∃ w, v = .agg (cMap d w).toArray /\ aS rest 3 eI 1 d.owners g w, aB rest (blk (cMap zMap (.slice none 0 0)) 102)] rest ?_ (Sub.refl _) rfl fun ρ hi ho hc => ?_
  ·repeat' first | exact fun _ h => absurd h List.not_mem_nil | refine List.forall_mem_cons.2 ⟨?_, ?_⟩ | exact aMono_V _ | exact aMono_S _ _ _ _ _ | exact aMono_B _ _ | exact fun g g' v s ⟨w, a, b⟩ => ⟨w, a, aMono_S _ _ _ _ _ g g' w s b⟩
  simp only [anysR, andr, maps, lists, plain, Nat.reduceAdd]
  refine ⟨aF_fld fun f g _ _ => ⟨j, 0, ho f 3 rfl, rfl⟩, aF_load fun f g hs hd => ⟨j, 0, _, (hi f 18 rfl).trans hd, zT hs hver, rfl⟩, aF_raw_all tOwn iInt'.choose_spec fun f g _ _ => ⟨ho f 8 rfl, rfl⟩,
   aF_call (vs := [.slice (some ⟨j8, 0, none⟩) 8 8]) fun f g hs hd => ⟨by simp only [List.map_cons, List.map_nil, (hi f 20 rfl).trans hd], fun h hg => cloneInts_c (hrow.sub (hs.trans hg)) (by omega) fun v' G o d => ⟨v', rfl, G ++ h, Sub.refl _, hg.trans (Sub.right d), G, o, Sub.left _ _, d.sub (.refl _) (hs.trans hg)⟩⟩,
   aF_build fun f g hs hd => ?b, aF_alloc, ?last⟩
  case b =>
   obtain ⟨h1, G, o, s1, d1⟩ := hd
   refine ⟨cMap d (f 21), ?_, f 21, rfl, G, o, s1, d1⟩
   have hv2 : qV (ρ f (.tmp 21)) = [f 21] := by rw [hi f 21 rfl]; exact vc1 (rdS.one o.rd)
   simp only [maps, (hi f 19 rfl).trans h1, hv2]
   rfl
  intro m2 f2 h2 g2 hm hs2 hd
  obtain ⟨-, -, -, -, ⟨w, ew, G, oG, sG, dG⟩, j9, e9, h9, n9⟩ := hd
  obtain ⟨b, cap9, sp, hw, hcap9, hsz, hG⟩ : ∃ b cap sp, w = .slice (some ⟨b, 0, none⟩) d.owners.length cap /\ d.owners.length <= cap /\ (fl eI d.owners ++ sp).length = cap * 1 /\ G = [(b, blk (fl eI d.owners ++ sp) 3)] := by
   obtain ⟨hl', ⟨_, h0, _⟩ | ⟨b, cap, sp, a, b', c, e⟩⟩ := oG
   ·omega
   ·exact ⟨b, cap, sp, a, b', c, e⟩
  have nG : hget G j9 = none := by
   rw [hG, qX]
   split
   ·rename_i c
    have c : j9 = b := c
    subst c
    have h1 := sG _ _ (show hget G j9 = some _ by rw [hG]; exact qL _ _ _)
    have := h9.symm.trans h1
    injection this with this
    exact absurd (blk_ty this) (by decide)
   ·rfl
  refine ⟨(j9, blk (cMap zMap (.slice none 0 0)) 102) :: (G ++ rest), Sub.cons_of (hm _ _ h9) (Sub.both (sG.trans hm) (hs2.trans hm)), ?_⟩
  have ov := rdS.one oG.rd
  have av := wMap.2.2.2.2.2.1 d w ov
  subst hrest
  have m9 := n9
  have mG' := dG
  simp only [subs] at m9 mG'
  have e9' : ¬ j = j9 /\ ¬ j2 = j9 /\ ¬ j8 = j9 := ⟨fun e => m9.2.2.1 e.symm, fun e => m9.2.1 e.symm, fun e => m9.1 e.symm⟩
  simp only [wk, seval, wr, hi f2 9 rfl, hi f2 22 rfl, ew, e9, wMap, av]
  have fin : ∀ x : Int, mapMove d slot to = (d, x) -> dP R (.returned (.tuple #[.agg (cMap d w).toArray, .int .i64 x])) ((j9, blk (cMap d w) 102) :: (G ++ (j8, blk (fl eI d.owners) 184) :: (j2, blk (cMap d w) 102) :: (j, blk (cMap d ow) 102) :: h)) := fun x hx => by
   refine ⟨G ++ h, by (repeat' first | exact Sub.refl _ | exact Sub.nil _ | assumption | refine Sub.both ?_ ?_ | refine Sub.cons_of (by simp only [subs, m9, mG', n8, e8, n2, hj, e2, nG]) ?_ | exact Sub.left _ _ | refine Sub.app (by simp only [subs, m9, mG', n8, e8, n2, hj, e2, nG]) ?_ | refine Sub.cons (by simp only [subs, m9, mG', n8, e8, n2, hj, e2, nG]) ?_), ?_⟩
   have := k w G (by rw [hx]; exact oG) (by simp only [mG'])
   rw [hx] at this
   exact this
  refine isSlot_c fun b2 hb2 => ?_
  cases b2 with
  | false =>
   simp only [wk, seval, wMap, zm, e2, e8, e9', mG', apps, av]
   exact fin 9 (mapMove_off hok (.inl (zG hb2 rfl)))
  | true =>
   have hsl : slotP slot := hb2.1 rfl
   have hs7 : 0 <= slot /\ slot <= 7 := hsl
   simp only [wk, seval, wMap, zm, e2, e8, e9', mG', apps, av]
   refine isHouse_c fun b3 hb3 => ?_
   simp only [wk, seval, wMap, zm, e2, e8, e9', mG', apps, av]
   refine ite_f (fun e3 => fin 9 (mapMove_off hok (.inr (zG hb3 e3)))) fun e3 => ?_
   have hto := hb3.1 e3
   refine qZ (fun c4 => fin 2 (mapMove_over hok hsl hto (by omega))) fun c4 => ?_
   have hnv : ¬ 99 <= d.version := by have := hok.1.2; omega
   have hsn : slot.toNat < d.owners.length := by omega
   have hg : d.owners.getD slot.toNat 0 = d.owners[slot.toNat] := by rw [List.getD_eq_getElem?_getD, List.getElem?_eq_getElem hsn]; rfl
   refine ⟨⟨by omega, by omega⟩, ?_⟩
   simp only [wk, seval, flI_at hsn]
   refine qZ (fun c6 => ?_) fun c6 => ?_
   ·simp only [wk, seval, wMap, zm, e2, e8, e9', mG', apps, av]
    exact fin 3 (mapMove_same hok hsl hto hnv (by rw [hg]; exact c6))
   ·simp only [wk, seval, wMap, zm, e2, e8, e9', mG', apps, av]
    refine ⟨⟨by omega, by omega⟩, ?_⟩
    rw [hK_map, hK_map]
    refine st_row (i := slot.toNat) (a' := to) (off := 0) zC (by omega) hsn rfl (by omega) rfl ?_
    simp only [wk, seval, wMap, zm, e2, e8, e9', mG', apps, av]
    have hw1 : IntKind.i64.wrap (d.version + 1) = d.version + 1 := qI _ (by have := hok.1.1; omega)
    have hl9 : (d.owners.set slot.toNat to).length = 8 := by rw [List.length_set]; exact hl8
    refine qY _ (Sub.refl _) ?_
    simp only [wk, seval, wMap, zm, e2, e8, e9', mG', apps, av, hw1]
    refine raw_all (b := j8) (o := 0) (by simp only [wk, seval]) tOwn iInt'.choose_spec ?_
    simp only [wk, seval, Sub.refl]
    have row5 : rInts ((j9, blk (cMap d w) 102) :: (G ++ (j8, blk (fl eI (d.owners.set slot.toNat to)) 184) :: (j2, blk (cMap zMap (.slice none 0 0)) 102) :: (j, blk (cMap d ow) 102) :: h)) (.slice (some ⟨j8, 0, none⟩) 8 8) (d.owners.set slot.toNat to) := by
     have := (oLs_new (e := 184) (j := j8) (l := d.owners.set slot.toNat to) zC).rd.sub (h := (j9, blk (cMap d w) 102) :: (G ++ (j8, blk (fl eI (d.owners.set slot.toNat to)) 184) :: (j2, blk (cMap zMap (.slice none 0 0)) 102) :: (j, blk (cMap d ow) 102) :: h)) (by (repeat' first | exact Sub.refl _ | exact Sub.nil _ | assumption | refine Sub.both ?_ ?_ | refine Sub.cons_of (by simp only [subs, m9, mG', n8, e8, n2, e2, nG, e9']) ?_ | exact Sub.left _ _ | refine Sub.app (by simp only [subs, m9, mG', n8, e8, n2, e2, nG, e9']) ?_ | refine Sub.cons (by simp only [subs, m9, mG', n8, e8, n2, e2, nG, e9']) ?_))
     rw [hl9] at this; exact this
    refine cloneInts_c row5 (by omega) fun v5 g5 o5 d5 => ?_
    have m5 := d5
    simp only [subs] at m5
    have ov5 := rdS.one o5.rd
    have av5 := wMap.2.2.2.2.2.1 ⟨d.version + 1, []⟩ v5 ov5
    have vc5 := vc1 ov5
    simp only [wk, seval, wMap, zm, e2, e8, e9', mG', m5, apps, av, ov5, vc5, Sub.right d5]
    have hmm := mapMove_done hok hsl hto hnv (by rw [hg]; exact c6)
    refine ⟨g5 ++ h, by (repeat' first | exact Sub.refl _ | exact Sub.nil _ | assumption | refine Sub.both ?_ ?_ | refine Sub.cons_of (by simp only [subs, m9, m5, mG', n8, e8, n2, hj, e2, nG, e9']) ?_ | exact Sub.left _ _ | refine Sub.app (by simp only [subs, m9, m5, mG', n8, e8, n2, hj, e2, nG, e9']) ?_ | refine Sub.cons (by simp only [subs, m9, m5, mG', n8, e8, n2, hj, e2, nG, e9']) ?_), ?_⟩
    have := k v5 g5 (by rw [hmm]; exact o5) (by simp only [m5])
    rw [hmm] at this
    exact this
end Go.Proofs.YtgbapakcfmgahaaGreatDoor
end

section
set_option maxRecDepth 20000
attribute [local irreducible] Go.Tk.vc Go.Tk.vops Go.Tk.vdr Go.Tk.vop Go.Tk.vfl Go.Tk.HCalls
namespace Go.Proofs.YtgbapakcfmgahaaGreatDoor
open Go Go.Tk
theorem valsOk_c {h : H} {v : Value} {l : List Int} (r : rInts h v l) (hl : l.length <= 1099511627776) {R : Ending -> H -> Prop} (k : Asks R (valsP l) h) : HCalls Tryz.prog 97 #[v] h R := by
 refine qB (args := [v]) Tryz.func97 ir97 ?_
 simp only [wk, seval, r.len]
 refine qS [7] (fun n vs h' => ∃ i : Nat, vs = [.int .i64 i] /\ h' = h /\ i <= l.length /\ n = l.length - i /\ allP valP (l.take i)) l.length rfl ⟨0, rfl, rfl, by omega, by omega, allP_zero _ _⟩ ?_
 rintro n f h' ⟨i, hv, rfl, hi, rfl, ht⟩
 simp only [lm4] at hv
 simp only [wk, seval, wr, hv, r.len]
 refine qF (fun c1 => ?_) fun c1 => ?_
 ·refine zJ (i := i) zC r rfl (by omega) fun b1 o1 e1 => ?_
  simp only [wk, seval, zW e1]
  refine isVal_c fun b hb => ?_
  simp only [wk, seval]
  refine ite_f (fun e => .of (k.no fun p => allP_not (by omega) (zG hb e) p.2)) fun e => ?_
  simp (disch := omega) only [qI]
  exact ⟨l.length - (i + 1), by omega, h', .refl _, i + 1, by simp, rfl, by omega, rfl, allP_more (by omega) ht (hb.1 e)⟩
 ·have := allP_done (by omega) ht
  exact .of (k _ (by simp [valsP, this]; omega))
theorem l3Vals_c {h : H} {v : Value} {l : List Int} (r : rInts h v l) (hl : l.length <= 1099511627776) {R : Ending -> H -> Prop} (k : Asks R (valsP l) h) : HCalls Tryz.prog 83 #[v] h R := by
 refine qB (args := [v]) Tryz.func83 ir83 ?_
 simp only [wk, seval, r.len]
 refine qF (fun c1 => .of (k.no fun p => ?_)) fun c1 => ?_
 ·have := p.1; omega
 refine qS [3] (fun n vs h' => ∃ i : Nat, vs = [.int .i64 i] /\ h' = h /\ i <= l.length /\ n = l.length - i /\ allP valP (l.take i)) l.length rfl ⟨0, rfl, rfl, by omega, by omega, allP_zero _ _⟩ ?_
 rintro n f h' ⟨i, hv, rfl, hi, rfl, ht⟩
 simp only [lm4] at hv
 simp only [wk, seval, wr, hv, r.len]
 refine qF (fun c1 => ?_) fun c1 => ?_
 ·refine zJ (i := i) zC r rfl (by omega) fun b1 o1 e1 => ?_
  simp only [wk, seval, zW e1]
  refine l1Val_c fun b hb => ?_
  simp only [wk, seval]
  refine ite_f (fun e => .of (k.no fun p => allP_not (by omega) (zG hb e) p.2)) fun e => ?_
  simp (disch := omega) only [qI]
  exact ⟨l.length - (i + 1), by omega, h', .refl _, i + 1, by simp, rfl, by omega, rfl, allP_more (by omega) ht (hb.1 e)⟩
 ·exact .of (k.yes ⟨by omega, allP_done (by omega) ht⟩)
theorem rising_c {g : FuncId} {P : Int -> Prop} (hg : callOk Tryz.prog g = true) (hc : ∀ {a : Int} {h : H} {R : Ending -> H -> Prop}, Asks R (P a) h -> HCalls Tryz.prog g #[.int .i64 a] h R)
  {h : H} {v : Value} {l : List Int} (r : rInts h v l) (hl : l.length <= 1099511627776) {R : Ending -> H -> Prop} (k : Asks R (allP P l /\ risP id l) h) : HCalls Tryz.prog 99 #[v, .func (.func g) #[] #[]] h R := by
 refine qB (args := [v, .func (.func g) #[] #[]]) Tryz.func99 ir99 ?_
 simp only [wk, seval, r.len]
 refine qS [9] (fun n vs h' => ∃ i : Nat, vs = [.int .i64 i] /\ h' = h /\ i <= l.length /\ n = l.length - i /\ allP P (l.take i) /\ risU id l i) l.length rfl ⟨0, rfl, rfl, by omega, by omega, allP_zero _ _, risU_zero _ _⟩ ?_
 rintro n f h' ⟨i, hv, rfl, hi, rfl, ht, hu⟩
 simp only [lm4] at hv
 simp only [wk, seval, wr, hv, r.len]
 refine qF (fun c1 => ?_) fun c1 => ?_
 ·refine zJ (i := i) zC r rfl (by omega) fun b1 o1 e1 => ?_
  simp only [wk, seval, zW e1]
  refine ⟨hg, hc fun b hb => ?_⟩
  simp (disch := omega) only [wk, seval, qI]
  refine ite_f (fun e => .of (k.no fun p => allP_not (by omega) (zG hb e) p.1)) fun e => ?_
  refine qF (fun c2 => ?_) fun c2 => ?_
  ·refine zJ (i := i - 1) zC r (by omega) (by omega) fun b2 o2 e2 => ?_
   simp (disch := omega) only [wk, seval, zW e2, qI]
   refine ite_ge (fun c3 => .of (k.no fun p => risU_not (i := i) (by omega) (by omega) (fun x => ?_) p.2)) fun c3 => ?_
   ·simp only [id] at x; omega
   ·exact ⟨l.length - (i + 1), by omega, h', .refl _, i + 1, by simp, rfl, by omega, rfl, allP_more (by omega) ht (hb.1 e), risU_more (by omega) (by omega) hu c3⟩
  ·exact ⟨l.length - (i + 1), by omega, h', .refl _, i + 1, by simp, rfl, by omega, rfl, allP_more (by omega) ht (hb.1 e), risU_one (by omega) hu⟩
 ·exact .of (k.yes ⟨allP_done (by omega) ht, risU_done (by omega) hu⟩)
theorem pair_cells {h : H} {b o : Nat} {p : Int × Int} (e : qQ h b o 2 = some (eP p)) : hcel h b o = some (.int .i64 p.1) /\ hcel h b (o + 1) = some (.int .i64 p.2) := ⟨qW e 0 rfl, qW e 1 rfl⟩
theorem pairsOk_c {h : H} {v : Value} {l : List (Int × Int)} (r : rPairs h v l) (hl : l.length <= 1099511627776) {R : Ending -> H -> Prop} (k : Asks R (pairsP l) h) : HCalls Tryz.prog 98 #[v] h R := by
 refine qB (args := [v]) Tryz.func98 ir98 ?_
 simp only [wk, seval, r.len]
 refine qF (fun c0 => .of (k.no fun p => ?_)) fun c0 => ?_
 ·have := p.1; omega
 refine qS [10] (fun n vs h' => ∃ i : Nat, vs = [.int .i64 i] /\ h' = h /\ i <= l.length /\ n = l.length - i /\ allP pairP (l.take i) /\ risU (·.1) l i) l.length rfl ⟨0, rfl, rfl, by omega, by omega, allP_zero _ _, risU_zero _ _⟩ ?_
 rintro n f h' ⟨i, hv, rfl, hi, rfl, ht, hu⟩
 simp only [lm4] at hv
 simp only [wk, seval, wr, hv, r.len]
 refine qF (fun c1 => ?_) fun c1 => ?_
 ·refine zJ (i := i) eP_len r rfl (by omega) fun b1 o1 e1 => ?_
  simp only [wk, seval, e1]
  refine qA fun j hj => ?_
  have sj := fun o => Sub.cons (o := o) hj (Sub.refl h')
  have hi2 : i < l.length := by omega
  generalize hx : l[i] = x at *
  have zp : [Value.int .i64 0, .int .i64 0] = eP (0, 0) := rfl
  simp only [zp, wk, seval, wPair]
  refine qY _ (Sub.refl _) ?_
  simp only [wk, seval, wPair]
  refine isKey_c fun b hb => ?_
  simp (disch := omega) only [wk, seval, wPair, qI]
  refine ite_f (fun e => ⟨h', sj _, k.no fun p => allP_not hi2 (fun y => zG hb e (by rw [hx] at y; exact y.1)) p.2.1⟩) fun e => ?_
  refine isVal_c fun b2 hb2 => ?_
  simp (disch := omega) only [wk, seval, wPair, qI]
  refine ite_f (fun e => ⟨h', sj _, k.no fun p => allP_not hi2 (fun y => zG hb2 e (by rw [hx] at y; exact y.2)) p.2.1⟩) fun e' => ?_
  have hok : pairP l[i] := by rw [hx]; exact ⟨hb.1 e, hb2.1 e'⟩
  refine qF (fun c2 => ?_) fun c2 => ?_
  ·refine zJ (i := i - 1) eP_len (r.sub (sj (blk (eP x) 132))) (by omega) (by omega) fun b2 o2 e2 => ?_
   simp (disch := omega) only [wk, seval, wPair, (pair_cells e2).1, qI]
   refine ite_ge (fun c3 => ⟨h', sj _, k.no fun p => risU_not (i := i) hi2 (by omega) (fun y => ?_) p.2.2⟩) fun c3 => ?_
   ·simp only [hx] at y; omega
   ·exact ⟨l.length - (i + 1), by omega, h', sj _, i + 1, by simp, rfl, by omega, rfl, allP_more (by omega) ht hok, risU_more (by omega) (by omega) hu (by simp only [hx]; exact c3)⟩
  ·exact ⟨l.length - (i + 1), by omega, h', sj _, i + 1, by simp, rfl, by omega, rfl, allP_more (by omega) ht hok, risU_one (by omega) hu⟩
 ·exact .of (k.yes ⟨by omega, allP_done (by omega) ht, risU_done (by omega) hu⟩)
theorem l1Pairs_c {h : H} {v : Value} {l : List (Int × Int)} (r : rPairs h v l) (hl : l.length <= 1099511627776) {R : Ending -> H -> Prop} (k : Asks R (pairsP l) h) : HCalls Tryz.prog 84 #[v] h R := by
 refine qB (args := [v]) Tryz.func84 ir84 ?_
 simp only [wk, seval, r.len]
 refine qF (fun c0 => .of (k.no fun p => ?_)) fun c0 => ?_
 ·have := p.1; omega
 refine qS [3] (fun n vs h' => ∃ i : Nat, vs = [.int .i64 i] /\ h' = h /\ i <= l.length /\ n = l.length - i /\ allP pairP (l.take i) /\ risU (·.1) l i) l.length rfl ⟨0, rfl, rfl, by omega, by omega, allP_zero _ _, risU_zero _ _⟩ ?_
 rintro n f h' ⟨i, hv, rfl, hi, rfl, ht, hu⟩
 simp only [lm4] at hv
 simp only [wk, seval, wr, hv, r.len]
 refine qF (fun c1 => ?_) fun c1 => ?_
 ·refine qY _ (Sub.refl _) ?_
  have hi2 : i < l.length := by omega
  simp only [wk, seval]
  refine zJ (i := i) eP_len r rfl hi2 fun b1 o1 e1 => ?_
  simp only [wk, seval, (pair_cells e1).1]
  refine l6In_c fun b hb => ?_
  simp (disch := omega) only [wk, seval, qI]
  refine ite_f (fun e => .of (k.no fun p => allP_not hi2 (fun y => zG hb e y.1) p.2.1)) fun e => ?_
  refine zJ (i := i) eP_len r rfl hi2 fun b2 o2 e2 => ?_
  simp only [wk, seval, (pair_cells e2).2]
  refine l1Val_c fun b2 hb2 => ?_
  simp (disch := omega) only [wk, seval, qI]
  refine ite_f (fun e => .of (k.no fun p => allP_not hi2 (fun y => zG hb2 e y.2) p.2.1)) fun e' => ?_
  have hok : pairP l[i] := ⟨hb.1 e, hb2.1 e'⟩
  refine qF (fun c2 => ?_) fun c2 => ?_
  ·refine zJ (i := i - 1) eP_len r (by omega) (by omega) fun b3 o3 e3 => ?_
   simp (disch := omega) only [wk, seval, (pair_cells e3).1, qI]
   refine zJ (i := i) eP_len r rfl (by omega) fun b4 o4 e4 => ?_
   simp (disch := omega) only [wk, seval, (pair_cells e4).1, qI]
   refine ite_ge (fun c3 => .of (k.no fun p => risU_not (i := i) hi2 (by omega) (fun y => ?_) p.2.2)) fun c3 => ?_
   ·omega
   ·exact ⟨l.length - (i + 1), by omega, h', .refl _, i + 1, by simp, rfl, by omega, rfl, allP_more (by omega) ht hok, risU_more (by omega) (by omega) hu c3⟩
  ·exact ⟨l.length - (i + 1), by omega, h', .refl _, i + 1, by simp, rfl, by omega, rfl, allP_more (by omega) ht hok, risU_one (by omega) hu⟩
 ·exact .of (k.yes ⟨by omega, allP_done (by omega) ht, risU_done (by omega) hu⟩)
end Go.Proofs.YtgbapakcfmgahaaGreatDoor
end

section
set_option maxRecDepth 20000
attribute [local irreducible] Go.Tk.vc Go.Tk.vops Go.Tk.vdr Go.Tk.vop Go.Tk.vfl Go.Tk.HCalls
namespace Go.Tk
open Go
theorem idx1 (s : List UInt8) (c : UInt8) : Lib.indexB ⟨s.toArray⟩ ⟨#[c]⟩ = Lib.indexByte s c := Lib.index_one s c
theorem split_lib (c : UInt8) : ∀ (n : Nat) (s : List UInt8), s.length <= n -> (Lib.splitB ⟨#[c]⟩ 0 (Lib.countB ⟨s.toArray⟩ ⟨#[c]⟩) ⟨s.toArray⟩).map (fun b => b.data.toList) = splitB c s := by
 intro n
 induction n with
 | zero =>
  intro s hs
  have : s = [] := List.length_eq_zero_iff.1 (by omega)
  subst this
  have hm : Lib.indexB ⟨([] : List UInt8).toArray⟩ ⟨#[c]⟩ = -1 := by rw [idx1]; rfl
  rw [Lib.splitB_miss _ _ _ _ hm]
  rfl
 | succ n ih =>
  intro s hs
  obtain ⟨a, b, f, hc, hi⟩ := index_cut c s
  rw [<- idx1] at hi
  cases f with
  | false =>
   rw [if_neg (by decide)] at hi
   rw [Lib.splitB_miss _ _ _ _ hi]
   obtain ⟨h1, ⟨h, _⟩ | ⟨_, h2, _⟩⟩ := hc
   ·cases h
   ·subst h2
    rw [splitB_none h1]; rfl
  | true =>
   rw [if_pos rfl] at hi
   obtain ⟨h1, ⟨_, h2⟩ | ⟨h, _⟩⟩ := hc
   ·have e1 : ((⟨s.toArray⟩ : ByteArray).extract (a.length + (⟨#[c]⟩ : ByteArray).size) (⟨s.toArray⟩ : ByteArray).size) = ⟨b.toArray⟩ := by
     apply ByteArray.ext
     rw [ByteArray.data_extract]
     apply Array.ext'
     rw [Array.toList_extract]
     show (s.drop (a.length + 1)).take (s.length - (a.length + 1)) = b
     have e3 : s.drop (a.length + 1) = b := by rw [h2]; simp
     rw [e3, h2]
     exact List.take_of_length_le (by simp only [List.length_append, List.length_cons]; omega)
    have e2 : ((⟨s.toArray⟩ : ByteArray).extract 0 (a.length + 0)).data.toList = a := by
     rw [ByteArray.data_extract, Array.toList_extract]
     show (s.drop 0).take (a.length + 0 - 0) = a
     rw [h2]; simp
    rw [Lib.countB_hit ⟨s.toArray⟩ ⟨#[c]⟩ a.length (Nat.le_refl 1) hi, Nat.add_comm, Lib.splitB_hit _ _ _ _ _ hi, e1, List.map_cons, e2, ih b (by rw [h2, List.length_append, List.length_cons] at hs; omega), h2, splitB_app b h1]
   ·cases h
theorem fl_eT : ∀ l : List (List UInt8), fl eT l = l.map fun t => .string ⟨t.toArray⟩ := by
 intro l
 induction l with
 | nil => rfl
 | cons a l ih => rw [fl_cons, ih]; rfl
end Go.Tk
namespace Go.Proofs.YtgbapakcfmgahaaGreatDoor
open Go Go.Tk Go.RowKit
def MxL (h : H) : Prop := ∃ c e f m, hget h 0 = some (.cells c e f) /\ c[0]? = some (.int .i64 m)
theorem MxL.sub {g h : H} (k : MxL g) (s : Tk.Sub g h) : MxL h := by
 obtain ⟨c, e, f, m, h1, h2⟩ := k
 exact ⟨c, e, f, m, s _ _ h1, h2⟩
theorem mxl_of {w : World} (h : w.ShapedOpen Tryz.prog) : MxL (full w) := by
 obtain ⟨m, hm⟩ := Go.Proofs.cell_of_shapedOpen_int (g := 0) (k := .i64) (zero := #[.int .i64 0]) (t := 3) h (of_decide_eq_true (by kernel_rfl)) (by kernel_rfl) rfl (by kernel_rfl) (by kernel_rfl) Tryz.underlying3
 obtain ⟨b, off, c, e, f, h1, h2, h3⟩ := cell_plain hm
 cases h1
 exact ⟨c, e, f, m, by rw [hget_full]; exact h2, by simpa using h3⟩
theorem split_c {h : H} {s : List UInt8} {c : UInt8} (gm : MxL h) (hs : s.length <= 4194304) {R : Ending -> H -> Prop} (k : ∀ v g, oLs 9 eT 1 v (splitB c s) g -> Dj g h -> R (.returned v) (g ++ h)) :
  HCalls Tryz.prog 153 #[.string ⟨s.toArray⟩, .string ⟨#[c]⟩] h R := by
 refine .of_calls fun w sa => ?_
 obtain ⟨cs, e, f, m, h1, h2⟩ := gm
 have hc : w.cell? ⟨0, 0, none⟩ = some (.int .i64 m) := by
  have := sa _ _ h1
  simp only [World.cell?, this, Option.isSome_none, Bool.false_eq_true, if_false, h2]
 have hz : (⟨s.toArray⟩ : ByteArray).size = s.length := rfl
 refine (Tryz.strings_Split ⟨s.toArray⟩ ⟨#[c]⟩ m w (by rw [hz]; omega) hc (Nat.le_refl 1)).mono ?_
 rintro e' w' ⟨rfl, hw⟩
 have hl := split_lib c s.length s (Nat.le_refl _)
 have hv : ((Lib.splitB ⟨#[c]⟩ 0 (Lib.countB ⟨s.toArray⟩ ⟨#[c]⟩) ⟨s.toArray⟩).map Value.string) = fl eT (splitB c s) := by
  rw [fl_eT, <- hl, List.map_map]
  apply List.map_congr_left
  intro x _
  rfl
 have hn : Lib.countB ⟨s.toArray⟩ ⟨#[c]⟩ + 1 = (splitB c s).length := by
  rw [<- Lib.splitB_all ⟨#[c]⟩ (Nat.le_refl 1) 0 _ ⟨s.toArray⟩ rfl, <- hl, List.length_map]
 rw [hv] at hw
 rw [hn]
 have hnew : hget h w.heap.size = none := by
  cases e : hget h w.heap.size with
  | none => rfl
  | some o => exact absurd (sa.lt (by rw [e]; simp)) (by omega)
 have := k (.slice (some ⟨w.heap.size, 0, none⟩) (splitB c s).length (splitB c s).length) [(w.heap.size, blk (fl eT (splitB c s)) 9)] (oLs_new eT_len) (by simp only [subs, hnew])
 exact ⟨_, this, Pst.push sa (blk (fl eT (splitB c s)) 9) hw⟩
end Go.Proofs.YtgbapakcfmgahaaGreatDoor
end

section
set_option maxRecDepth 20000
attribute [local irreducible] Go.Tk.vc Go.Tk.vops Go.Tk.vdr Go.Tk.vop Go.Tk.vfl Go.Tk.HCalls
namespace Go.Proofs.YtgbapakcfmgahaaGreatDoor
open Go Go.Tk Go.RowKit
theorem index_of_c {h : H} {v : Value} {l : List (List UInt8)} {s : List UInt8} (r : rLs h eT 1 v l) (hl : l.length <= 1048576) {R : Ending -> H -> Prop} (k : ∀ n : Int, (∀ i (hi : i < l.length), l[i] = s -> (∀ j (hj : j < i), l[j] ≠ s) -> n = (i : Int)) -> ((∀ x ∈ l, x ≠ s) -> n = -1) -> (-1 <= n /\ n < l.length) -> R (.returned (.int .i64 n)) h) :
  HCalls Tryz.prog 154 #[v, .string ⟨s.toArray⟩] h R := by
 refine qB (args := [v, .string ⟨s.toArray⟩]) Tryz.func154 ir154 ?_
 simp only [wk, seval, r.len]
 refine qS [8] (fun n vs h' => ∃ (i : Nat), vs = [.int .i64 i] /\ h' = h /\ (∀ x ∈ l.take i, x ≠ s) /\ i <= l.length /\ n = l.length - i) l.length rfl
  ⟨0, rfl, rfl, by simp, by omega, rfl⟩ ?_
 rintro n f h' ⟨i, hv, rfl, hn, hi, rfl⟩
 simp only [lm4] at hv
 simp only [wk, seval, wr, hv, r.len]
 refine qF (fun c => ?_) fun c => ?_
 ·have hi2 : i < l.length := by omega
  refine zJ (i := i) eT_len r rfl hi2 fun b1 o1 e1 => ?_
  have e1' : qQ h' b1 o1 1 = some [.string ⟨(l[i]).toArray⟩] := e1
  simp only [wk, seval, zW e1', strBin, str_inj]
  refine qZ (fun ce => ?_) fun ce => ?_
  ·refine .of (k i (fun j hj he hf => ?_) (fun hx => absurd ce.symm (hx _ (List.getElem_mem hi2))) (by omega))
   rcases Nat.lt_trichotomy i j with x | x | x
   ·exact absurd ce.symm (hf i x)
   ·rw [x]
   ·exact absurd he (hn _ (by rw [List.mem_take_iff_getElem]; exact ⟨j, by omega, rfl⟩))
  ·simp (disch := omega) only [wk, seval, qI]
   refine ⟨l.length - (i + 1), by omega, h', .refl _, i + 1, by simp, rfl, fun x hx => ?_, by omega, rfl⟩
   rw [List.take_succ_eq_append_getElem hi2] at hx
   rcases List.mem_append.1 hx with hx | hx
   ·exact hn x hx
   ·rw [List.mem_singleton] at hx
    rw [hx]; exact fun e => ce e.symm
 ·have hi2 : i = l.length := by omega
  subst hi2
  rw [List.take_length] at hn
  exact .of (k (-1) (fun i hi he _ => absurd he (hn _ (List.getElem_mem hi))) (fun _ => rfl) (by omega))
end Go.Proofs.YtgbapakcfmgahaaGreatDoor
end

section
set_option maxRecDepth 20000
attribute [local irreducible] Go.Tk.vc Go.Tk.vops Go.Tk.vdr Go.Tk.vop Go.Tk.vfl Go.Tk.HCalls
namespace Go.Proofs.YtgbapakcfmgahaaGreatDoor
open Go Go.Tk
theorem zM (s : DStatement) : (qM s).length = 3 := rfl
theorem dealOk_c {h : H} {v : Value} {l : List DStatement} (r : rLs h qM 3 v l) (hl : l.length <= 1099511627776) {R : Ending -> H -> Prop} (k : Asks R (dealP l) h) : HCalls Tryz.prog 149 #[v] h R := by
 refine qB (args := [v]) Tryz.func149 ir149 ?_
 have zs := zStatement_eq
 simp only [wk, seval, r.len, zs]
 refine qF (fun c => .of (k.no fun p => by have := p.1; omega)) fun c0 => ?_
 refine qF (fun c => .of (k.no fun p => by have := p.2.1; omega)) fun c1 => ?_
 refine vc_loopS [3] (fun n vs h' => ∃ i : Nat, vs = [.int .i64 i] /\ h' = h /\ i <= l.length /\ n = l.length - i /\ allP stP (l.take i)) l.length rfl (Sub.refl _) ⟨0, rfl, rfl, by omega, by omega, allP_zero _ _⟩ ?_
 rintro n f h' ⟨i, hv, rfl, hi, rfl, ht⟩
 simp only [lm4] at hv
 simp only [wk, seval, wr, hv, r.len, zs]
 refine qF (fun c2 => ?_) fun c2 => ?_
 ·refine zJ (i := i) zM r rfl (by omega) fun b1 o1 e1 => ?_
  simp only [wk, seval, e1, zs]
  refine qA fun j hj => ?_
  have hi2 : i < l.length := by omega
  obtain ⟨s, hs⟩ : ∃ s, s = l[i] := ⟨_, rfl⟩
  have sj := fun o => Sub.cons (o := o) hj (Sub.refl h')
  simp only [wk, seval, qP, zs]
  have no : ¬ stP l[i] -> ∀ o, dP R (.returned (.bool false)) ((j, o) :: h') := fun hn o => ⟨h', sj o, k.no fun p => hn (p.2.2 _ (List.getElem_mem hi2))⟩
  refine l6In_c fun b hb => ?_
  simp only [wk, seval, qP]
  refine ite_f (fun e => no (fun p => zG hb e p.1) _) fun e1 => ?_
  refine l6In_c fun b2 hb2 => ?_
  simp only [wk, seval, qP]
  refine ite_f (fun e => no (fun p => zG hb2 e p.2.1) _) fun e2 => ?_
  refine l1Val_c fun b3 hb3 => ?_
  simp only [wk, seval, qP]
  refine ite_f (fun e => no (fun p => zG hb3 e p.2.2.1) _) fun e3 => ?_
  have go : stP l[i] -> ∀ o, ∃ m, m < l.length - i /\ ∃ g, Tk.Sub g ((j, o) :: h') /\ ∃ i' : Nat, [Value.int IntKind.i64 (IntKind.i64.wrap ((i : Int) + 1))] = [Value.int IntKind.i64 i'] /\ g = h' /\ i' <= l.length /\ m = l.length - i' /\ allP stP (l.take i') := fun p o =>
   ⟨l.length - (i + 1), by omega, h', sj o, i + 1, by simp (disch := omega) only [qI]; simp, rfl, by omega, rfl, allP_more (by omega) ht p⟩
  refine qZ (fun e4 => ?_) fun e4 => ?_
  ·refine qZ (fun e5 => no (fun p => e5 (p.2.2.2 e4)) _) fun e5 => ?_
   exact go ⟨hb.1 e1, hb2.1 e2, hb3.1 e3, fun _ => Classical.not_not.1 e5⟩ _
  ·exact go ⟨hb.1 e1, hb2.1 e2, hb3.1 e3, fun x => absurd x e4⟩ _
 ·exact .of (k.yes ⟨by omega, by omega, allP_done (by omega) ht⟩)
theorem opName_at {n : Int} (h : 1 <= n /\ n <= 4) : (fl eT [[], [103, 101, 116, 32], [112, 117, 116, 32], [97, 100, 100, 32], [110, 101, 101, 100, 32]])[n.toNat]? = some (.string ⟨(opName n).toArray⟩) := by
 have : n = 1 ∨ n = 2 ∨ n = 3 ∨ n = 4 := by omega
 rcases this with rfl | rfl | rfl | rfl <;> rfl
def dealT (l : List DStatement) (t : List UInt8) : Prop := (dealP l /\ t = zD l) ∨ (¬ dealP l /\ t = [])
theorem dealWrite_c {h : H} {v : Value} {l : List DStatement} (r : rLs h qM 3 v l) (hl : l.length <= 1099511627776) {R : Ending -> H -> Prop} (k : ∀ t, dealT l t -> R (.returned (.string ⟨t.toArray⟩)) h) : HCalls Tryz.prog 125 #[v] h R := by
 refine qB (args := [v]) Tryz.func125 ir125 ?_
 have zs := zStatement_eq
 simp only [wk, seval, str, r.len, zs]
 refine dealOk_c r hl fun b hb => ?_
 simp only [wk, seval]
 refine ite_f (fun e => .of (k [] (.inr ⟨zG hb e, rfl⟩))) fun e => ?_
 have dp := hb.1 e
 have hl6 := dp.2.1
 refine vc_loopS [3, 4] (fun n vs h' => ∃ i : Nat, vs = [.string ⟨(zD (l.take i)).toArray⟩, .int .i64 i] /\ h' = h /\ i <= l.length /\ n = l.length - i) l.length rfl (Sub.refl _) ⟨0, by simp [zD], rfl, by omega, by omega⟩ ?_
 rintro n f h' ⟨i, hv, rfl, hi, rfl⟩
 simp only [lm4] at hv
 simp only [wk, seval, wr, hv.1, hv.2, r.len, zs]
 refine qF (fun c2 => ?_) fun c2 => ?_
 ·refine zJ (i := i) zM r rfl (by omega) fun b1 o1 e1 => ?_
  simp only [wk, seval, e1, zs]
  refine qA fun j hj => ?_
  have hi2 : i < l.length := by omega
  have sj := fun o => Sub.cons (o := o) hj (Sub.refl h')
  have st : stP l[i] := dp.2.2 _ (List.getElem_mem hi2)
  have hlen := dealText_len (l := l.take i) fun x hx => dp.2.2 x (List.mem_of_mem_take hx)
  rw [List.length_take] at hlen
  have hon := opName_len l[i].do_
  have hdk := decI_len (i := l[i].key) (by have := st.2.1; simp only [inP] at this; omega)
  have hdn := decI_len (i := l[i].num) (by have := st.2.2.1; simp only [valP, inP] at this; omega)
  have hdo := st.1
  simp only [inP] at hdo
  simp only [wk, seval, qP, zs]
  refine qY _ (Sub.refl _) ?_
  simp only [wk, seval, qP]
  refine pcall_intro (.string ⟨(decI l[i].key).toArray⟩) (fun R r => l6Dec_c (by unfold i64P; have := st.2.1; simp only [inP] at this; omega) r) ?_
  simp only [wk, seval, str]
  refine qA (o := blk (fl eT [[], [103, 101, 116, 32], [112, 117, 116, 32], [97, 100, 100, 32], [110, 101, 101, 100, 32]]) 9) fun j2 hj2 => ?_
  have sj2 := Sub_new (o := blk (fl eT [[], [103, 101, 116, 32], [112, 117, 116, 32], [97, 100, 100, 32], [110, 101, 101, 100, 32]]) 9) hj2
  simp only [wk, seval, sj2]
  refine ⟨⟨by omega, by omega⟩, ?_⟩
  rw [opName_at hdo]
  have z1 : (zD (l.take i)).length + (opName l[i].do_).length <= 9223372036854775807 := by omega
  have z2 : (zD (l.take i) ++ opName l[i].do_).length + (decI l[i].key).length <= 9223372036854775807 := by rw [List.length_append]; omega
  have n2 := fresh hj2
  simp only [wk, seval, sj2, str_add _ _ z1, str_add _ _ z2, qP, n2.1, n2.2.1]
  have go : ∀ t, t = zD (l.take i) ++ stText l[i] -> ∀ m, Tk.Sub h' m -> ∃ m', m' < l.length - i /\ ∃ g, Tk.Sub g m /\ ∃ i' : Nat, [Value.string ⟨t.toArray⟩, Value.int IntKind.i64 (IntKind.i64.wrap ((i : Int) + 1))] = [Value.string ⟨(zD (l.take i')).toArray⟩, Value.int IntKind.i64 i'] /\ g = h' /\ i' <= l.length /\ m' = l.length - i' := fun t ht m hm =>
   ⟨l.length - (i + 1), by omega, h', hm, i + 1, by
    simp (disch := omega) only [qI]
    rw [ht, take_app_one hi2, dealText_app, dealText_one]; simp, rfl, by omega, rfl⟩
  have sM : Tk.Sub h' ((j2, blk (fl eT [[], [103, 101, 116, 32], [112, 117, 116, 32], [97, 100, 100, 32], [110, 101, 101, 100, 32]]) 9) :: (j, blk (qM l[i]) 146) :: h') := Sub.cons hj2 (sj _)
  obtain ⟨A, hA⟩ : ∃ A, A = zD (l.take i) ++ opName l[i].do_ ++ decI l[i].key := ⟨_, rfl⟩
  have hAl : A.length <= 400 := by rw [hA]; simp only [List.length_append]; omega
  rw [<- hA]
  refine qZ (fun c3 => ?_) fun c3 => ?_
  ·have z3 : A.length + ([32] : List UInt8).length <= 9223372036854775807 := by simp only [List.length_cons, List.length_nil]; omega
   simp only [wk, seval, str_add _ _ z3, qP, n2.1, n2.2.1]
   refine l1Int_c (by have := st.2.2.1; simp only [valP, inP] at this; omega) ?_
   have z4 : (A ++ [32]).length + (decI l[i].num).length <= 9223372036854775807 := by simp only [List.length_append, List.length_cons, List.length_nil]; omega
   have z5 : (A ++ [32] ++ decI l[i].num).length + ([59] : List UInt8).length <= 9223372036854775807 := by simp only [List.length_append, List.length_cons, List.length_nil]; omega
   simp only [wk, seval, str_add _ _ z4, str_add _ _ z5]
   refine go _ ?_ _ sM
   rw [hA, stText, if_neg c3]; simp
  ·have z5 : A.length + ([59] : List UInt8).length <= 9223372036854775807 := by simp only [List.length_cons, List.length_nil]; omega
   simp only [wk, seval, str_add _ _ z5]
   refine go _ ?_ _ sM
   rw [hA, stText, if_pos (Classical.not_not.1 c3)]; simp
 ·rw [List.take_of_length_le (by omega)]
  exact .of (k _ (.inl ⟨dp, rfl⟩))
end Go.Proofs.YtgbapakcfmgahaaGreatDoor
end
