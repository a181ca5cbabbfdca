/- Parts of the proof. -/
import Derived.Test.YtjioiemhgbkbfaaGreatDoorK155
import Derived.Test.YtjioiemhgbkbfaaGreatDoorK1511
import Derived.Test.YtjioiemhgbkbfaaGreatDoorK156
import Derived.Test.YtjioiemhgbkbfaaGreatDoorK1510
set_option maxHeartbeats 4000000
set_option maxRecDepth 100000
set_option linter.unusedVariables false
set_option linter.unusedSimpArgs false
set_option linter.defProp false
attribute [local irreducible] Go.Tk.vc Go.Tk.vops Go.Tk.vdr Go.Tk.vop Go.Tk.vfl Go.Tk.HCalls
section
namespace Go.Proofs.YtjioiemhgbkbfaaGreatDoor
open Go Go.Tk
theorem zII {h : H} {x y : Int × Int} {R : Ending -> H -> Prop} (k : R (.returned (.bool (decide (x = y)))) h) : HCalls Tryz.prog 159 #[.agg (eP x).toArray, .agg (eP y).toArray] h R := by
 refine qD lite (args := [.agg (eP x).toArray, .agg (eP y).toArray]) Tryz.func159 ?_
 conv => arg 2; cbv
 simp only [wK, seval, jK]
 refine qC fun j1 h1 => ?_
 simp only [wK, seval, jK]
 refine qC fun j2 h2 => ?_
 have n := wW h2
 simp only [wK, seval, jK, n.1, n.2.1]
 refine zG (fun d => ⟨h, Sub.cons h2 (Sub.cons h1 (Sub.refl h)), kF k (fun e => d (by rw [e]))⟩) fun d0 => ?_
 refine zG (fun d => ⟨h, Sub.cons h2 (Sub.cons h1 (Sub.refl h)), kF k (fun e => d (by rw [e]))⟩) fun d1 => ?_
 exact ⟨h, Sub.cons h2 (Sub.cons h1 (Sub.refl h)), kT k (Prod.ext d0 d1)⟩
theorem qCF {h : H} {a b : Value} {la lb : List (Int × Int)} (ra : rPairs h a la) (rb : rPairs h b lb) (ha : la.length <= 1099511627776) {R : Ending -> H -> Prop} (k : R (.returned (.bool (decide (la = lb)))) h) :
  HCalls Tryz.prog 120 #[a, b] h R := by
 refine qD lite (args := [a, b]) Tryz.func120 ?_
 conv => arg 2; cbv
 simp only [wK, seval, ra.len, rb.len]
 split
 ·rename_i c
  exact .of (kF k fun e => c (by rw [e]))
 ·rename_i c
  have hl : la.length = lb.length := by omega
  refine qP [5] (fun n vs h' => ∃ i : Nat, vs = [.int .i64 i] /\ h' = h /\ i <= la.length /\ n = la.length - i /\ la.take i = lb.take i) la.length rfl ⟨0, rfl, rfl, by omega, by omega, by simp⟩ ?_
  rintro n f h' ⟨i, hv, rfl, hi, rfl, ht⟩
  simp only [lm4] at hv
  simp only [wK, seval, wr, hv, ra.len, rb.len]
  split
  ·rename_i c1
   refine zC h' (Sub.refl _) ?_
   simp only [wK, seval]
   refine zS (i := i) xB ra rfl (by omega) fun b1 o1 e1 => ?_
   simp only [wK, seval, e1]
   refine zS (i := i) xB rb rfl (by omega) fun b2 o2 e2 => ?_
   simp only [wK, seval, e2]
   refine zII ?_
   simp only [wK, seval]
   refine zG (fun d => .of (kF k (kP _ _ d))) fun d => ?_
   simp (disch := omega) only [qK]
   exact ⟨la.length - (i + 1), by omega, h', .refl _, i + 1, by simp, rfl, by omega, rfl, xL _ _ ht d⟩
  ·rename_i c1
   exact .of (kT k (wD (by omega) hl ht))
theorem jM {h : H} {v : Value} {l : List Int} {left : Int} (r : rIn h eI 1 v l) (hl : 0 <= left /\ left <= 1048576) (hb : l.length <= 9223372036854775807) {R : Ending -> H -> Prop} (k : ∀ x, (0 <= x -> x = left - l.length) -> x <= 1048576 -> R (.returned (.int .i64 x)) h) : HCalls Tryz.prog 83 #[v, .int .i64 left] h R := by
 refine qD lite (args := [v, .int .i64 left]) Tryz.func83 ?_
 conv => arg 2; cbv
 rw [qR]
 simp (disch := omega) only [wK, seval, r.len, qK]
 refine qF (fun c => .of (k _ (fun q => by omega) (by omega))) fun c => .of (k _ (fun _ => rfl) (by omega))
theorem qBV {h : H} {v : Value} {l : List (Int × Int)} {left : Int} (r : rIn h eP 2 v l) (hl : 0 <= left /\ left <= 1048576) (hb : l.length <= 9223372036854775807) {R : Ending -> H -> Prop} (k : ∀ x, (0 <= x -> x = left - l.length) -> x <= 1048576 -> R (.returned (.int .i64 x)) h) : HCalls Tryz.prog 84 #[v, .int .i64 left] h R := by
 refine qD lite (args := [v, .int .i64 left]) Tryz.func84 ?_
 conv => arg 2; cbv
 rw [qR]
 simp (disch := omega) only [wK, seval, r.len, qK]
 refine qF (fun c => .of (k _ (fun q => by omega) (by omega))) fun c => .of (k _ (fun _ => rfl) (by omega))
theorem zEY {h : H} {p : Int × Int} {R : Ending -> H -> Prop} (k : R (.returned (.agg (eP p).toArray)) h) : HCalls Tryz.prog 142 #[.agg (eP p).toArray] h R := by
 refine qD lite (args := [.agg (eP p).toArray]) Tryz.func142 ?_
 conv => arg 2; cbv
 rw [qR]
 have zp : [Value.int .i64 0, .int .i64 0] = eP (0, 0) := rfl
 simp only [wK, seval, zp, jK]
 refine qC fun j1 h1 => ?_
 simp only [wK, seval, zp, jK]
 refine qC fun j2 h2 => ?_
 simp only [wK, seval, zp, jK]
 refine qC fun j3 h3 => ?_
 have n2 := wW h2
 have n3 := wW h3
 simp only [subs] at h2 h3
 have e31 : ¬ j1 = j3 := fun e => h3.2.1 e.symm
 have e32 : ¬ j2 = j3 := fun e => h3.1 e.symm
 have e21 : ¬ j1 = j2 := fun e => h2.1 e.symm
 simp only [wK, seval, zp, jK, e31, e32, e21, h3, h2]
 refine ⟨h, ?_, k⟩
 (repeat' first | exact Sub.refl _ | exact Sub.nil _ | assumption | refine Sub.both ?_ ?_ | refine Sub.cons_of (by simp only [subs, h1, h2, h3, e31, e32, e21]) ?_ | exact Sub.left _ _ | refine Sub.app (by simp only [subs, h1, h2, h3, e31, e32, e21]) ?_ | refine Sub.cons (by simp only [subs, h1, h2, h3, e31, e32, e21]) ?_)
theorem zFB {h : H} {a : Value} {l : List Int} (r : rIn h eI 1 a l) (hl : l.length <= 1048576) {R : Ending -> H -> Prop} (k : ∀ v g, oLs 3 eI 1 v l g -> Dj g h -> R (.returned v) (g ++ h)) : HCalls Tryz.prog 103 #[a] h R := by
 refine qD lite (args := [a]) Tryz.func103 ?_
 conv => arg 2; cbv
 simp only [wK, seval, r.len, str]
 refine ⟨⟨by omega, by omega, by omega, by omega⟩, qC fun j hj => ?_⟩
 rw [zI]
 simp only [wK, seval]
 have hr : (List.replicate l.length (0 : Int)).length = l.length := by simp
 have o0 : oLs 3 eI 1 (.slice (some ⟨j, 0, none⟩) l.length l.length) (List.replicate l.length (0 : Int)) [(j, blk (fl eI (List.replicate l.length (0 : Int))) 3)] := by
  have := xU (e := 3) yM (j := j) (l := List.replicate l.length (0 : Int))
  rw [hr] at this; exact this
 obtain ⟨V, hV⟩ : ∃ V, V = Value.slice (some ⟨j, 0, none⟩) l.length l.length := ⟨_, rfl⟩
 rw [<- hV] at o0 ⊢
 refine qP [4] (fun n vs h' => ∃ (i : Nat) (g' : H), vs = [.int .i64 i] /\ h' = g' ++ h /\ Dj g' h /\ oLs 3 eI 1 V (l.take i ++ (List.replicate l.length (0 : Int)).drop i) g' /\ i <= l.length /\ n = l.length - i) l.length rfl
  ⟨0, _, rfl, rfl, Dj.one hj, by simpa using o0, by omega, rfl⟩ ?_
 rintro n f h' ⟨i, g', hv, rfl, dj', o', hi, rfl⟩
 simp only [lm4] at hv
 simp only [wK, seval, wr, hv, r.len]
 refine qF (fun c1 => ?_) fun c1 => ?_
 ·have hi2 : i < l.length := by omega
  refine qOT (i := i) yM (r.sub (Sub.right dj')) rfl hi2 fun b1 o1 e1 => ?_
  have f1 := yR e1
  simp only [wK, seval, f1]
  refine qHH (i := i) yM o' rfl (by simp; omega) fun b cap sp hv' hc hs hg => ?_
  subst hg
  simp only [wK, seval]
  refine qID (i := i) (a' := l[i]'hi2) (off := 0) yM (by omega) (by simp; omega) rfl (by omega) rfl ?_
  simp only [wK, seval]
  simp (disch := omega) only [qK]
  refine ⟨l.length - (i + 1), by omega, _, .refl _, i + 1, _, by simp, rfl, Dj.one dj'.one', ?_, by omega, rfl⟩
  rw [<- xZ (by omega) hr]
  exact qHG yM hv' hc hs
 ·have hi' : i = l.length := by omega
  subst hi'
  have o2 : oLs 3 eI 1 V l g' := by simpa using o'
  exact .of (k _ g' o2 dj')
theorem zAC {h : H} {a : Value} {l : List (Int × Int)} (r : rIn h eP 2 a l) (hl : l.length <= 1048576) {R : Ending -> H -> Prop} (k : ∀ v g, oLs 175 eP 2 v l g -> Dj g h -> R (.returned v) (g ++ h)) : HCalls Tryz.prog 104 #[a] h R := by
 refine qD lite (args := [a]) Tryz.func104 ?_
 conv => arg 2; cbv
 rw [qR]
 have zp : [Value.int .i64 0, .int .i64 0] = eP (0, 0) := rfl
 simp only [wK, seval, r.len, str, zp]
 refine ⟨⟨by omega, by omega, by omega, by omega⟩, qC fun j hj => ?_⟩
 rw [qHD (enc := eP) (a := ((0 : Int), (0 : Int))) rfl]
 simp only [wK, seval]
 have hr : (List.replicate l.length ((0 : Int), (0 : Int))).length = l.length := by simp
 have o0 : oLs 175 eP 2 (.slice (some ⟨j, 0, none⟩) l.length l.length) (List.replicate l.length ((0 : Int), (0 : Int))) [(j, blk (fl eP (List.replicate l.length ((0 : Int), (0 : Int)))) 175)] := by
  have := xU (e := 175) xB (j := j) (l := List.replicate l.length ((0 : Int), (0 : Int)))
  rw [hr] at this; exact this
 obtain ⟨V, hV⟩ : ∃ V, V = Value.slice (some ⟨j, 0, none⟩) l.length l.length := ⟨_, rfl⟩
 rw [<- hV] at o0 ⊢
 refine qP [4] (fun n vs h' => ∃ (i : Nat) (g' : H), vs = [.int .i64 i] /\ h' = g' ++ h /\ Dj g' h /\ oLs 175 eP 2 V (l.take i ++ (List.replicate l.length ((0 : Int), (0 : Int))).drop i) g' /\ i <= l.length /\ n = l.length - i) l.length rfl
  ⟨0, _, rfl, rfl, Dj.one hj, by simpa using o0, by omega, rfl⟩ ?_
 rintro n f h' ⟨i, g', hv, rfl, dj', o', hi, rfl⟩
 simp only [lm4] at hv
 simp only [wK, seval, wr, hv, r.len]
 refine qF (fun c1 => ?_) fun c1 => ?_
 ·have hi2 : i < l.length := by omega
  refine qOT (i := i) xB (r.sub (Sub.right dj')) rfl hi2 fun b1 o1 e1 => ?_
  simp only [wK, seval, e1, jK]
  refine zEY ?_
  simp only [wK, seval, jK]
  refine qHH (i := i) xB o' rfl (by simp; omega) fun b cap sp hv' hc hs hg => ?_
  subst hg
  simp only [wK, seval, jK]
  refine qID (i := i) (a' := l[i]'hi2) (off := 0) xB (by omega) (by simp; omega) rfl (by omega) rfl ?_
  simp only [wK, seval]
  simp (disch := omega) only [qK]
  refine ⟨l.length - (i + 1), by omega, _, .refl _, i + 1, _, by simp, rfl, Dj.one dj'.one', ?_, by omega, rfl⟩
  rw [<- xZ (by omega) hr]
  exact qHG xB hv' hc hs
 ·have hi' : i = l.length := by omega
  subst hi'
  have o2 : oLs 175 eP 2 V l g' := by simpa using o'
  exact .of (k _ g' o2 dj')
def WRecord (M : H) (cs : List Value) (d : DRecord) (S : Nat -> Prop) : Prop := ∃ v p S1 S2, cs = qL d v p /\ dL 3 eI 1 M v d.vals S1 /\ dL 175 eP 2 M p d.pairs S2 /\ sU S S1 S2
theorem WRecord.fr : dFr WRecord := by
 rintro M M' cs d S hx ⟨v, p, S1, S2, e, w1, w2, su⟩
 exact ⟨v, p, S1, S2, e, w1.frame fun x q => hx x ((su.2 x).2 (.inl q)), w2.frame fun x q => hx x ((su.2 x).2 (.inr q)), su⟩
theorem WRecord.rd : ∀ M cs a S, WRecord M cs a S -> rRecord M cs a := by
 rintro M cs d S ⟨v, p, S1, S2, e, w1, w2, su⟩
 exact ⟨v, p, e, w1.rd, w2.rd⟩
theorem WRecord.in : ∀ M cs a S i, WRecord M cs a S -> S i -> hget M i ≠ none := by
 rintro M cs d S i ⟨v, p, S1, S2, e, w1, w2, su⟩ hi
 rcases (su.2 i).1 hi with q | q
 ·exact w1.in q
 ·exact w2.in q
def WTold (M : H) (cs : List Value) (d : DTold) (S : Nat -> Prop) : Prop := ∃ p, cs = yB d p /\ dL 175 eP 2 M p d.pairs S
theorem WTold.fr : dFr WTold := by
 rintro M M' cs d S hx ⟨p, e, w1⟩
 exact ⟨p, e, w1.frame hx⟩
theorem WTold.rd : ∀ M cs a S, WTold M cs a S -> rTold M cs a := by
 rintro M cs d S ⟨p, e, w1⟩
 exact ⟨p, e, w1.rd⟩
theorem WTold.in : ∀ M cs a S i, WTold M cs a S -> S i -> hget M i ≠ none := by
 rintro M cs d S i ⟨p, e, w1⟩ hi
 exact w1.in hi
def WLive (M : H) (cs : List Value) (d : DLive) (S : Nat -> Prop) : Prop := ∃ v p S1 S2, cs = zJ d v p /\ dL 3 eI 1 M v d.locked S1 /\ dR 159 WTold 2 M p d.told S2 /\ sU S S1 S2
theorem WLive.fr : dFr WLive := by
 rintro M M' cs d S hx ⟨v, p, S1, S2, e, w1, w2, su⟩
 exact ⟨v, p, S1, S2, e, w1.frame fun x q => hx x ((su.2 x).2 (.inl q)), w2.frame WTold.fr fun x q => hx x ((su.2 x).2 (.inr q)), su⟩
theorem WLive.rd : ∀ M cs a S, WLive M cs a S -> rLive M cs a := by
 rintro M cs d S ⟨v, p, S1, S2, e, w1, w2, su⟩
 exact ⟨v, p, e, w1.rd, w2.rd WTold.rd⟩
theorem WLive.in : ∀ M cs a S i, WLive M cs a S -> S i -> hget M i ≠ none := by
 rintro M cs d S i ⟨v, p, S1, S2, e, w1, w2, su⟩ hi
 rcases (su.2 i).1 hi with q | q
 ·exact w1.in q
 ·exact w2.in WTold.in q
def WGate (M : H) (d : DGate) (lg lv wy : Value) (S : Nat -> Prop) : Prop := ∃ S1 S2 S3, dR 106 WRecord 11 M lg d.log S1 /\ dR 103 WLive 12 M lv d.lives S2 /\ dL 161 cWay 2 M wy d.ways S3 /\
 (∀ i, S1 i -> ¬ S2 i) /\ (∀ i, S1 i -> ¬ S3 i) /\ (∀ i, S2 i -> ¬ S3 i) /\ ∀ i, S i ↔ S1 i ∨ S2 i ∨ S3 i
theorem WGate.frame {M M' : H} {d : DGate} {lg lv wy : Value} {S : Nat -> Prop} (w : WGate M d lg lv wy S) (hx : ∀ i, S i -> hget M' i = hget M i) : WGate M' d lg lv wy S := by
 obtain ⟨S1, S2, S3, w1, w2, w3, d1, d2, d3, su⟩ := w
 exact ⟨S1, S2, S3, w1.frame WRecord.fr fun x q => hx x ((su x).2 (.inl q)), w2.frame WLive.fr fun x q => hx x ((su x).2 (.inr (.inl q))), w3.frame fun x q => hx x ((su x).2 (.inr (.inr q))), d1, d2, d3, su⟩
theorem WGate.rd {M : H} {d : DGate} {lg lv wy : Value} {S : Nat -> Prop} (w : WGate M d lg lv wy S) : sGate M d lg lv wy := by
 obtain ⟨S1, S2, S3, w1, w2, w3, d1, d2, d3, su⟩ := w
 exact ⟨w1.rd WRecord.rd, w2.rd WLive.rd, w3.rd⟩
theorem WGate.in {M : H} {d : DGate} {lg lv wy : Value} {S : Nat -> Prop} (w : WGate M d lg lv wy S) {i : Nat} (h : S i) : hget M i ≠ none := by
 obtain ⟨S1, S2, S3, w1, w2, w3, d1, d2, d3, su⟩ := w
 rcases (su i).1 h with q | q | q
 ·exact w1.in WRecord.in q
 ·exact w2.in WLive.in q
 ·exact w3.in q
end Go.Proofs.YtjioiemhgbkbfaaGreatDoor
end

section
namespace Go.Proofs.YtjioiemhgbkbfaaGreatDoor
open Go Go.Tk
end Go.Proofs.YtjioiemhgbkbfaaGreatDoor
end

section
namespace Go.Proofs.YtjioiemhgbkbfaaGreatDoor
open Go Go.Tk
end Go.Proofs.YtjioiemhgbkbfaaGreatDoor
end

section
namespace Go.Proofs.YtjioiemhgbkbfaaGreatDoor
open Go Go.Tk
end Go.Proofs.YtjioiemhgbkbfaaGreatDoor
end

section
namespace Go.Proofs.YtjioiemhgbkbfaaGreatDoor
open Go Go.Tk
end Go.Proofs.YtjioiemhgbkbfaaGreatDoor
end

section
namespace Go.Proofs.YtjioiemhgbkbfaaGreatDoor
open Go Go.Tk
theorem qWE {h : H} {x y : DRecord} {v1 v2 w1 w2 : Value} (rx : sRecord h x v1 v2) (ry : sRecord h y w1 w2) (hx : bRecord x) {R : Ending -> H -> Prop} (k : R (.returned (.bool (decide (x = y)))) h) :
  HCalls Tryz.prog 113 #[.agg (qL x v1 v2).toArray, .agg (qL y w1 w2).toArray] h R := by
 refine qD lite (args := [.agg (qL x v1 v2).toArray, .agg (qL y w1 w2).toArray]) Tryz.func113 ?_
 conv => arg 2; cbv
 simp only [wK, seval, wRecord]
 refine qC fun j1 h1 => ?_
 simp only [wK, seval, wRecord]
 refine qC fun j2 h2 => ?_
 have n := wW h2
 have sb := fun o => Sub.cons (o := o) h2 (Sub.cons h1 (Sub.refl h))
 simp only [wK, seval, wRecord, zA, n.1, n.2.1]
 refine zG (fun d => ⟨h, Sub.cons h2 (Sub.cons h1 (Sub.refl h)), kF k (fun e => d (by rw [e]))⟩) fun d0 => ?_
 refine zG (fun d => ⟨h, Sub.cons h2 (Sub.cons h1 (Sub.refl h)), kF k (fun e => d (by rw [e]))⟩) fun d1 => ?_
 refine qEU (x := x.call) (y := y.call) ?_
 simp only [wK, seval, wRecord, zA, n.1, n.2.1]
 refine zG (fun d => ⟨h, Sub.cons h2 (Sub.cons h1 (Sub.refl h)), kF k (fun e => d (by rw [e]))⟩) fun d2 => ?_
 refine zG (fun d => ⟨h, Sub.cons h2 (Sub.cons h1 (Sub.refl h)), kF k (fun e => d (by rw [e]))⟩) fun d3 => ?_
 refine jT (rx.1.sub (sb _)) (ry.1.sub (sb _)) (by have := hx.v; unfold lim at this; omega) ?_
 simp only [wK, seval, wRecord, zA, n.1, n.2.1]
 refine zG (fun d => ⟨h, Sub.cons h2 (Sub.cons h1 (Sub.refl h)), kF k (fun e => d (by rw [e]))⟩) fun d4 => ?_
 refine qCF (rx.2.sub (sb _)) (ry.2.sub (sb _)) (by have := hx.p; unfold lim at this; omega) ?_
 simp only [wK, seval, wRecord, zA, n.1, n.2.1]
 refine zG (fun d => ⟨h, Sub.cons h2 (Sub.cons h1 (Sub.refl h)), kF k (fun e => d (by rw [e]))⟩) fun d5 => ?_
 refine ⟨h, Sub.cons h2 (Sub.cons h1 (Sub.refl h)), kT k ?_⟩
 cases x; cases y; simp_all
theorem qSG {h : H} {a b : Value} {la lb : List DRecord} (ra : rRs h (rRecord h) 11 a la) (rb : rRs h (rRecord h) 11 b lb) (hb : ∀ x ∈ la, bRecord x) (ha : la.length <= 1099511627776) {R : Ending -> H -> Prop} (k : R (.returned (.bool (decide (la = lb)))) h) :
  HCalls Tryz.prog 67 #[a, b] h R := by
 refine qD lite (args := [a, b]) Tryz.func67 ?_
 conv => arg 2; cbv
 simp only [wK, seval, ra.len, rb.len]
 split
 ·rename_i c
  exact .of (kF k fun e => c (by rw [e]))
 ·rename_i c
  have hl : la.length = lb.length := by omega
  refine qP [5] (fun n vs h' => ∃ i : Nat, vs = [.int .i64 i] /\ h' = h /\ i <= la.length /\ n = la.length - i /\ la.take i = lb.take i) la.length rfl ⟨0, rfl, rfl, by omega, by omega, by simp⟩ ?_
  rintro n f h' ⟨i, hv, rfl, hi, rfl, ht⟩
  simp only [lm4] at hv
  simp only [wK, seval, wr, hv, ra.len, rb.len]
  split
  ·rename_i c1
   have hia : i < la.length := by omega
   have hib : i < lb.length := by omega
   obtain ⟨b1, o1, cs1, hx1, e1, v1, v2, rfl, s1⟩ := zU ra hia
   obtain ⟨b2, o2, cs2, hx2, e2, w1, w2, rfl, s2⟩ := zU rb hib
   refine zC h' (Sub.refl _) ?_
   simp only [wK, seval, hx1, hx2, e1, e2, Sub.refl h']
   refine qWE s1 s2 (hb _ (List.getElem_mem hia)) ?_
   simp only [wK, seval, Sub.refl h']
   refine zG (fun d => .of (kF k (kP hia hib d))) fun d => ?_
   simp (disch := omega) only [qK]
   exact ⟨la.length - (i + 1), by omega, h', .refl _, i + 1, by simp, rfl, by omega, rfl, xL hia hib ht d⟩
  ·rename_i c1
   exact .of (kT k (wD (by omega) hl ht))
theorem zIG {h : H} {x y : DTold} {v1 w1 : Value} (rx : sTold h x v1) (ry : sTold h y w1) (hx : qGV x) {R : Ending -> H -> Prop} (k : R (.returned (.bool (decide (x = y)))) h) :
  HCalls Tryz.prog 180 #[.agg (yB x v1).toArray, .agg (yB y w1).toArray] h R := by
 refine qD lite (args := [.agg (yB x v1).toArray, .agg (yB y w1).toArray]) Tryz.func180 ?_
 conv => arg 2; cbv
 simp only [wK, seval, wTold]
 refine qC fun j1 h1 => ?_
 simp only [wK, seval, wTold]
 refine qC fun j2 h2 => ?_
 have n := wW h2
 have sb := fun o => Sub.cons (o := o) h2 (Sub.cons h1 (Sub.refl h))
 simp only [wK, seval, wTold, zA, n.1, n.2.1]
 refine zG (fun d => ⟨h, Sub.cons h2 (Sub.cons h1 (Sub.refl h)), kF k (fun e => d (by rw [e]))⟩) fun d0 => ?_
 refine qCF (rx.sub (sb _)) (ry.sub (sb _)) (by have := hx; unfold qGV lim at this; omega) ?_
 simp only [wK, seval, wTold, zA, n.1, n.2.1]
 refine zG (fun d => ⟨h, Sub.cons h2 (Sub.cons h1 (Sub.refl h)), kF k (fun e => d (by rw [e]))⟩) fun d1 => ?_
 refine ⟨h, Sub.cons h2 (Sub.cons h1 (Sub.refl h)), kT k ?_⟩
 cases x; cases y; simp_all
theorem zCI {h : H} {a b : Value} {la lb : List DTold} (ra : rRs h (rTold h) 2 a la) (rb : rRs h (rTold h) 2 b lb) (hb : ∀ x ∈ la, qGV x) (ha : la.length <= 1099511627776) {R : Ending -> H -> Prop} (k : R (.returned (.bool (decide (la = lb)))) h) :
  HCalls Tryz.prog 155 #[a, b] h R := by
 refine qD lite (args := [a, b]) Tryz.func155 ?_
 conv => arg 2; cbv
 simp only [wK, seval, ra.len, rb.len]
 split
 ·rename_i c
  exact .of (kF k fun e => c (by rw [e]))
 ·rename_i c
  have hl : la.length = lb.length := by omega
  refine qP [5] (fun n vs h' => ∃ i : Nat, vs = [.int .i64 i] /\ h' = h /\ i <= la.length /\ n = la.length - i /\ la.take i = lb.take i) la.length rfl ⟨0, rfl, rfl, by omega, by omega, by simp⟩ ?_
  rintro n f h' ⟨i, hv, rfl, hi, rfl, ht⟩
  simp only [lm4] at hv
  simp only [wK, seval, wr, hv, ra.len, rb.len]
  split
  ·rename_i c1
   have hia : i < la.length := by omega
   have hib : i < lb.length := by omega
   obtain ⟨b1, o1, cs1, hx1, e1, v1, rfl, s1⟩ := zU ra hia
   obtain ⟨b2, o2, cs2, hx2, e2, w1, rfl, s2⟩ := zU rb hib
   refine zC h' (Sub.refl _) ?_
   simp only [wK, seval, hx1, hx2, e1, e2, Sub.refl h']
   refine zIG s1 s2 (hb _ (List.getElem_mem hia)) ?_
   simp only [wK, seval, Sub.refl h']
   refine zG (fun d => .of (kF k (kP hia hib d))) fun d => ?_
   simp (disch := omega) only [qK]
   exact ⟨la.length - (i + 1), by omega, h', .refl _, i + 1, by simp, rfl, by omega, rfl, xL hia hib ht d⟩
  ·rename_i c1
   exact .of (kT k (wD (by omega) hl ht))
theorem zIK {h : H} {x y : DLive} {v1 v2 w1 w2 : Value} (rx : sLive h x v1 v2) (ry : sLive h y w1 w2) (hx : bLive x) {R : Ending -> H -> Prop} (k : R (.returned (.bool (decide (x = y)))) h) :
  HCalls Tryz.prog 114 #[.agg (zJ x v1 v2).toArray, .agg (zJ y w1 w2).toArray] h R := by
 refine qD lite (args := [.agg (zJ x v1 v2).toArray, .agg (zJ y w1 w2).toArray]) Tryz.func114 ?_
 conv => arg 2; cbv
 simp only [wK, seval, wLive]
 refine qC fun j1 h1 => ?_
 simp only [wK, seval, wLive]
 refine qC fun j2 h2 => ?_
 have n := wW h2
 have sb := fun o => Sub.cons (o := o) h2 (Sub.cons h1 (Sub.refl h))
 simp only [wK, seval, wLive, zA, n.1, n.2.1]
 refine zG (fun d => ⟨h, Sub.cons h2 (Sub.cons h1 (Sub.refl h)), kF k (fun e => d (by rw [e]))⟩) fun d0 => ?_
 refine zG (fun d => ⟨h, Sub.cons h2 (Sub.cons h1 (Sub.refl h)), kF k (fun e => d (by rw [e]))⟩) fun d1 => ?_
 refine zG (fun d => ⟨h, Sub.cons h2 (Sub.cons h1 (Sub.refl h)), kF k (fun e => d (by rw [e]))⟩) fun d2 => ?_
 refine zG (fun d => ⟨h, Sub.cons h2 (Sub.cons h1 (Sub.refl h)), kF k (fun e => d (by rw [e]))⟩) fun d3 => ?_
 refine qEU (x := x.call) (y := y.call) ?_
 simp only [wK, seval, wLive, zA, n.1, n.2.1]
 refine zG (fun d => ⟨h, Sub.cons h2 (Sub.cons h1 (Sub.refl h)), kF k (fun e => d (by rw [e]))⟩) fun d4 => ?_
 refine jT (rx.1.sub (sb _)) (ry.1.sub (sb _)) (by have := hx.l; unfold lim at this; omega) ?_
 simp only [wK, seval, wLive, zA, n.1, n.2.1]
 refine zG (fun d => ⟨h, Sub.cons h2 (Sub.cons h1 (Sub.refl h)), kF k (fun e => d (by rw [e]))⟩) fun d5 => ?_
 refine zCI (rx.2.sub (sb _) fun c a q => rTold.sub (sb _) q) (ry.2.sub (sb _) fun c a q => rTold.sub (sb _) q) hx.ts (by have := hx.t; unfold lim at this; omega) ?_
 simp only [wK, seval, wLive, zA, n.1, n.2.1]
 refine zG (fun d => ⟨h, Sub.cons h2 (Sub.cons h1 (Sub.refl h)), kF k (fun e => d (by rw [e]))⟩) fun d6 => ?_
 refine ⟨h, Sub.cons h2 (Sub.cons h1 (Sub.refl h)), kT k ?_⟩
 cases x; cases y; simp_all
theorem zCK {h : H} {a b : Value} {la lb : List DLive} (ra : rRs h (rLive h) 12 a la) (rb : rRs h (rLive h) 12 b lb) (hb : ∀ x ∈ la, bLive x) (ha : la.length <= 1099511627776) {R : Ending -> H -> Prop} (k : R (.returned (.bool (decide (la = lb)))) h) :
  HCalls Tryz.prog 68 #[a, b] h R := by
 refine qD lite (args := [a, b]) Tryz.func68 ?_
 conv => arg 2; cbv
 simp only [wK, seval, ra.len, rb.len]
 split
 ·rename_i c
  exact .of (kF k fun e => c (by rw [e]))
 ·rename_i c
  have hl : la.length = lb.length := by omega
  refine qP [5] (fun n vs h' => ∃ i : Nat, vs = [.int .i64 i] /\ h' = h /\ i <= la.length /\ n = la.length - i /\ la.take i = lb.take i) la.length rfl ⟨0, rfl, rfl, by omega, by omega, by simp⟩ ?_
  rintro n f h' ⟨i, hv, rfl, hi, rfl, ht⟩
  simp only [lm4] at hv
  simp only [wK, seval, wr, hv, ra.len, rb.len]
  split
  ·rename_i c1
   have hia : i < la.length := by omega
   have hib : i < lb.length := by omega
   obtain ⟨b1, o1, cs1, hx1, e1, v1, v2, rfl, s1⟩ := zU ra hia
   obtain ⟨b2, o2, cs2, hx2, e2, w1, w2, rfl, s2⟩ := zU rb hib
   refine zC h' (Sub.refl _) ?_
   simp only [wK, seval, hx1, hx2, e1, e2, Sub.refl h']
   refine zIK s1 s2 (hb _ (List.getElem_mem hia)) ?_
   simp only [wK, seval, Sub.refl h']
   refine zG (fun d => .of (kF k (kP hia hib d))) fun d => ?_
   simp (disch := omega) only [qK]
   exact ⟨la.length - (i + 1), by omega, h', .refl _, i + 1, by simp, rfl, by omega, rfl, xL hia hib ht d⟩
  ·rename_i c1
   exact .of (kT k (wD (by omega) hl ht))
theorem qBW {h : H} {c : DCall} {left : Int} (hl : 0 <= left /\ left <= 1048576) (ht : c.text.length <= 9223372036854775807) {R : Ending -> H -> Prop}
  (k : ∀ x : Int, (0 <= x -> x = left - c.text.length) -> x <= 1048576 -> R (.returned (.int .i64 x)) h) : HCalls Tryz.prog 85 #[.agg (zW c).toArray, .int .i64 left] h R := by
 refine qD lite (args := [.agg (zW c).toArray, .int .i64 left]) Tryz.func85 ?_
 conv => arg 2; cbv
 simp only [wK, seval, zA]
 refine qC fun j hj => ?_
 simp (disch := omega) only [wK, seval, zA, qK]
 refine qF (fun c => ⟨h, Sub.cons hj (Sub.refl h), k (-1) (by omega) (by omega)⟩) fun c => ?_
 exact ⟨h, Sub.cons hj (Sub.refl h), k _ (fun _ => by omega) (by omega)⟩
def nRecord (h : H) (cs : List Value) (d : DRecord) : Prop := ∃ v1 v2, cs = qL d v1 v2 /\ rIn h eI 1 v1 d.vals /\ rIn h eP 2 v2 d.pairs
theorem nRecord.sub {g h : H} (s : Tk.Sub g h) {cs : List Value} {d : DRecord} (r : nRecord g cs d) : nRecord h cs d := by
 obtain ⟨v1, v2, e, r1, r2⟩ := r
 exact ⟨v1, v2, e, rIn.sub s r1, rIn.sub s r2⟩
def qDN (d : DRecord) : Prop := d.call.text.length <= 9223372036854775807 /\ d.vals.length <= 9223372036854775807 /\ d.pairs.length <= 9223372036854775807
def nTold (h : H) (cs : List Value) (d : DTold) : Prop := ∃ v1, cs = yB d v1 /\ rIn h eP 2 v1 d.pairs
theorem nTold.sub {g h : H} (s : Tk.Sub g h) {cs : List Value} {d : DTold} (r : nTold g cs d) : nTold h cs d := by
 obtain ⟨v1, e, r1⟩ := r
 exact ⟨v1, e, rIn.sub s r1⟩
def qLN (d : DTold) : Prop := d.pairs.length <= 9223372036854775807
def nLive (h : H) (cs : List Value) (d : DLive) : Prop := ∃ v1 v2, cs = zJ d v1 v2 /\ rIn h eI 1 v1 d.locked /\ rIRs h (nTold h) 2 v2 d.told
theorem nLive.sub {g h : H} (s : Tk.Sub g h) {cs : List Value} {d : DLive} (r : nLive g cs d) : nLive h cs d := by
 obtain ⟨v1, v2, e, r1, r2⟩ := r
 exact ⟨v1, v2, e, rIn.sub s r1, rIRs.sub s (fun _ _ q => nTold.sub s q) r2⟩
def qPZ (d : DLive) : Prop := d.call.text.length <= 9223372036854775807 /\ d.locked.length <= 9223372036854775807 /\ d.told.length <= 9223372036854775807 /\ ∀ t ∈ d.told, qLN t
theorem qUG {h : H} {d : DRecord} {v1 v2 : Value} {left : Int} (r1 : rIn h eI 1 v1 d.vals) (r2 : rIn h eP 2 v2 d.pairs) (hl : 0 <= left /\ left <= 1048576) (hu : qDN d) {R : Ending -> H -> Prop} (k : ∀ x, (0 <= x -> x = left - qDT d) -> x <= 1048576 -> R (.returned (.int .i64 x)) h) :
  HCalls Tryz.prog 78 #[.agg (qL d v1 v2).toArray, .int .i64 left] h R := by
 refine qD lite (args := [.agg (qL d v1 v2).toArray, .int .i64 left]) Tryz.func78 ?_
 conv => arg 2; cbv
 rw [qR]
 unfold qDN at hu
 unfold qDT at k
 simp only [wK, seval, wRecord]
 refine qC fun j hj => ?_
 have sb := fun o => Sub.cons (o := o) hj (Sub.refl h)
 simp (disch := omega) only [wK, seval, wRecord, zA]
 refine qBW ⟨by omega, by omega⟩ (by have := hu.1; omega) fun x0 a0 b0 => ?_
 simp (disch := omega) only [wK, seval, wRecord, zA]
 refine qF (fun c => ⟨h, sb _, k _ (fun q => absurd q (by omega)) (by omega)⟩) fun c0 => ?_
 have a0' := a0 (by omega)
 try simp (disch := omega) only [wK, seval, wRecord, zA]
 refine jM (r1.sub (sb _)) ⟨by omega, by omega⟩ (by have := hu.2.1; omega) fun x1 a1 b1 => ?_
 simp (disch := omega) only [wK, seval, wRecord, zA]
 refine qF (fun c => ⟨h, sb _, k _ (fun q => absurd q (by omega)) (by omega)⟩) fun c1 => ?_
 have a1' := a1 (by omega)
 try simp (disch := omega) only [wK, seval, wRecord, zA]
 refine qBV (r2.sub (sb _)) ⟨by omega, by omega⟩ (by have := hu.2.2; omega) fun x2 a2 b2 => ?_
 simp (disch := omega) only [wK, seval, wRecord, zA]
 refine qF (fun c => ⟨h, sb _, k _ (fun q => absurd q (by omega)) (by omega)⟩) fun c2 => ?_
 have a2' := a2 (by omega)
 try simp (disch := omega) only [wK, seval, wRecord, zA]
 exact ⟨h, sb _, k _ (fun _ => by omega) (by omega)⟩
theorem qQC {h : H} {v : Value} {l : List DRecord} {left : Int} (r : rIRs h (nRecord h) 11 v l) (hl : 0 <= left /\ left <= 1048576) (hb : l.length <= 9223372036854775807) (hu : ∀ d ∈ l, qDN d) {R : Ending -> H -> Prop} (k : ∀ x, (0 <= x -> x = left - (l.length + sumL qDT l : Nat)) -> x <= 1048576 -> R (.returned (.int .i64 x)) h) :
  HCalls Tryz.prog 33 #[v, .int .i64 left] h R := by
 refine qD lite (args := [v, .int .i64 left]) Tryz.func33 ?_
 conv => arg 2; cbv
 rw [qR]
 simp (disch := omega) only [wK, seval, r.len, qK]
 refine qF (fun c => .of (k _ (fun q => absurd q (by omega)) (by omega))) fun c => ?_
 refine qP [5, 1] (fun n vs h' => ∃ (i : Nat) (x : Int), vs = [.int .i64 i, .int .i64 x] /\ h' = h /\ i <= l.length /\ n = l.length - i /\ 0 <= x /\ x = left - l.length - sumL qDT (l.take i)) l.length rfl ⟨0, _, rfl, rfl, by omega, rfl, by omega, by simp [sumL]⟩ ?_
 rintro n f h' ⟨i, x, hv, rfl, hi, rfl, hx0, hx1⟩
 simp only [lm4] at hv
 simp only [wK, seval, wr, hv.1, hv.2, r.len]
 refine qF (fun c1 => ?_) fun c1 => ?_
 ·have hi2 : i < l.length := by omega
  have hsum := vE qDT hi2
  obtain ⟨b1, o1, cs1, hx2, e1, v1, v2, rfl, q1, q2⟩ := r.at hi2
  simp only [wK, seval, hx2, e1]
  refine qUG q1 q2 ⟨hx0, by omega⟩ (hu _ (List.getElem_mem hi2)) fun y hy1 hy2 => ?_
  simp only [wK, seval]
  refine qF (fun c => .of (k _ (fun q => absurd q (by omega)) (by omega))) fun c3 => ?_
  have := hy1 (by omega)
  simp (disch := omega) only [wK, seval, qK]
  exact ⟨l.length - (i + 1), by omega, h', .refl _, i + 1, y, by simp, rfl, by omega, rfl, by omega, by omega⟩
 ·have hi' : i = l.length := by omega
  subst hi'
  rw [List.take_length] at *
  exact .of (k _ (fun _ => by omega) (by omega))
theorem zFL {h : H} {d : DTold} {v1 : Value} {left : Int} (r1 : rIn h eP 2 v1 d.pairs) (hl : 0 <= left /\ left <= 1048576) (hu : qLN d) {R : Ending -> H -> Prop} (k : ∀ x, (0 <= x -> x = left - qAA d) -> x <= 1048576 -> R (.returned (.int .i64 x)) h) :
  HCalls Tryz.prog 166 #[.agg (yB d v1).toArray, .int .i64 left] h R := by
 refine qD lite (args := [.agg (yB d v1).toArray, .int .i64 left]) Tryz.func166 ?_
 conv => arg 2; cbv
 rw [qR]
 unfold qLN at hu
 unfold qAA at k
 simp only [wK, seval, wTold]
 refine qC fun j hj => ?_
 have sb := fun o => Sub.cons (o := o) hj (Sub.refl h)
 simp (disch := omega) only [wK, seval, wTold, zA]
 refine qBV (r1.sub (sb _)) ⟨by omega, by omega⟩ (by have := hu; omega) fun x0 a0 b0 => ?_
 simp (disch := omega) only [wK, seval, wTold, zA]
 refine qF (fun c => ⟨h, sb _, k _ (fun q => absurd q (by omega)) (by omega)⟩) fun c0 => ?_
 have a0' := a0 (by omega)
 try simp (disch := omega) only [wK, seval, wTold, zA]
 exact ⟨h, sb _, k _ (fun _ => by omega) (by omega)⟩
theorem zAK {h : H} {v : Value} {l : List DTold} {left : Int} (r : rIRs h (nTold h) 2 v l) (hl : 0 <= left /\ left <= 1048576) (hb : l.length <= 9223372036854775807) (hu : ∀ d ∈ l, qLN d) {R : Ending -> H -> Prop} (k : ∀ x, (0 <= x -> x = left - (l.length + sumL qAA l : Nat)) -> x <= 1048576 -> R (.returned (.int .i64 x)) h) :
  HCalls Tryz.prog 129 #[v, .int .i64 left] h R := by
 refine qD lite (args := [v, .int .i64 left]) Tryz.func129 ?_
 conv => arg 2; cbv
 rw [qR]
 simp (disch := omega) only [wK, seval, r.len, qK]
 refine qF (fun c => .of (k _ (fun q => absurd q (by omega)) (by omega))) fun c => ?_
 refine qP [5, 1] (fun n vs h' => ∃ (i : Nat) (x : Int), vs = [.int .i64 i, .int .i64 x] /\ h' = h /\ i <= l.length /\ n = l.length - i /\ 0 <= x /\ x = left - l.length - sumL qAA (l.take i)) l.length rfl ⟨0, _, rfl, rfl, by omega, rfl, by omega, by simp [sumL]⟩ ?_
 rintro n f h' ⟨i, x, hv, rfl, hi, rfl, hx0, hx1⟩
 simp only [lm4] at hv
 simp only [wK, seval, wr, hv.1, hv.2, r.len]
 refine qF (fun c1 => ?_) fun c1 => ?_
 ·have hi2 : i < l.length := by omega
  have hsum := vE qAA hi2
  obtain ⟨b1, o1, cs1, hx2, e1, v1, rfl, q1⟩ := r.at hi2
  simp only [wK, seval, hx2, e1]
  refine zFL q1 ⟨hx0, by omega⟩ (hu _ (List.getElem_mem hi2)) fun y hy1 hy2 => ?_
  simp only [wK, seval]
  refine qF (fun c => .of (k _ (fun q => absurd q (by omega)) (by omega))) fun c3 => ?_
  have := hy1 (by omega)
  simp (disch := omega) only [wK, seval, qK]
  exact ⟨l.length - (i + 1), by omega, h', .refl _, i + 1, y, by simp, rfl, by omega, rfl, by omega, by omega⟩
 ·have hi' : i = l.length := by omega
  subst hi'
  rw [List.take_length] at *
  exact .of (k _ (fun _ => by omega) (by omega))
theorem zFO {h : H} {d : DLive} {v1 v2 : Value} {left : Int} (r1 : rIn h eI 1 v1 d.locked) (r2 : rIRs h (nTold h) 2 v2 d.told) (hl : 0 <= left /\ left <= 1048576) (hu : qPZ d) {R : Ending -> H -> Prop} (k : ∀ x, (0 <= x -> x = left - qAB d) -> x <= 1048576 -> R (.returned (.int .i64 x)) h) :
  HCalls Tryz.prog 79 #[.agg (zJ d v1 v2).toArray, .int .i64 left] h R := by
 refine qD lite (args := [.agg (zJ d v1 v2).toArray, .int .i64 left]) Tryz.func79 ?_
 conv => arg 2; cbv
 rw [qR]
 unfold qPZ at hu
 unfold qAB at k
 simp only [wK, seval, wLive]
 refine qC fun j hj => ?_
 have sb := fun o => Sub.cons (o := o) hj (Sub.refl h)
 simp (disch := omega) only [wK, seval, wLive, zA]
 refine qBW ⟨by omega, by omega⟩ (by have := hu.1; omega) fun x0 a0 b0 => ?_
 simp (disch := omega) only [wK, seval, wLive, zA]
 refine qF (fun c => ⟨h, sb _, k _ (fun q => absurd q (by omega)) (by omega)⟩) fun c0 => ?_
 have a0' := a0 (by omega)
 try simp (disch := omega) only [wK, seval, wLive, zA]
 refine jM (r1.sub (sb _)) ⟨by omega, by omega⟩ (by have := hu.2.1; omega) fun x1 a1 b1 => ?_
 simp (disch := omega) only [wK, seval, wLive, zA]
 refine qF (fun c => ⟨h, sb _, k _ (fun q => absurd q (by omega)) (by omega)⟩) fun c1 => ?_
 have a1' := a1 (by omega)
 try simp (disch := omega) only [wK, seval, wLive, zA]
 refine zAK (r2.sub (sb _) fun _ _ q => nTold.sub (sb _) q) ⟨by omega, by omega⟩ (by have := hu.2.2.1; omega) hu.2.2.2 fun x2 a2 b2 => ?_
 simp (disch := omega) only [wK, seval, wLive, zA]
 refine qF (fun c => ⟨h, sb _, k _ (fun q => absurd q (by omega)) (by omega)⟩) fun c2 => ?_
 have a2' := a2 (by omega)
 try simp (disch := omega) only [wK, seval, wLive, zA]
 exact ⟨h, sb _, k _ (fun _ => by omega) (by omega)⟩
theorem zAM {h : H} {v : Value} {l : List DLive} {left : Int} (r : rIRs h (nLive h) 12 v l) (hl : 0 <= left /\ left <= 1048576) (hb : l.length <= 9223372036854775807) (hu : ∀ d ∈ l, qPZ d) {R : Ending -> H -> Prop} (k : ∀ x, (0 <= x -> x = left - (l.length + sumL qAB l : Nat)) -> x <= 1048576 -> R (.returned (.int .i64 x)) h) :
  HCalls Tryz.prog 34 #[v, .int .i64 left] h R := by
 refine qD lite (args := [v, .int .i64 left]) Tryz.func34 ?_
 conv => arg 2; cbv
 rw [qR]
 simp (disch := omega) only [wK, seval, r.len, qK]
 refine qF (fun c => .of (k _ (fun q => absurd q (by omega)) (by omega))) fun c => ?_
 refine qP [5, 1] (fun n vs h' => ∃ (i : Nat) (x : Int), vs = [.int .i64 i, .int .i64 x] /\ h' = h /\ i <= l.length /\ n = l.length - i /\ 0 <= x /\ x = left - l.length - sumL qAB (l.take i)) l.length rfl ⟨0, _, rfl, rfl, by omega, rfl, by omega, by simp [sumL]⟩ ?_
 rintro n f h' ⟨i, x, hv, rfl, hi, rfl, hx0, hx1⟩
 simp only [lm4] at hv
 simp only [wK, seval, wr, hv.1, hv.2, r.len]
 refine qF (fun c1 => ?_) fun c1 => ?_
 ·have hi2 : i < l.length := by omega
  have hsum := vE qAB hi2
  obtain ⟨b1, o1, cs1, hx2, e1, v1, v2, rfl, q1, q2⟩ := r.at hi2
  simp only [wK, seval, hx2, e1]
  refine zFO q1 q2 ⟨hx0, by omega⟩ (hu _ (List.getElem_mem hi2)) fun y hy1 hy2 => ?_
  simp only [wK, seval]
  refine qF (fun c => .of (k _ (fun q => absurd q (by omega)) (by omega))) fun c3 => ?_
  have := hy1 (by omega)
  simp (disch := omega) only [wK, seval, qK]
  exact ⟨l.length - (i + 1), by omega, h', .refl _, i + 1, y, by simp, rfl, by omega, rfl, by omega, by omega⟩
 ·have hi' : i = l.length := by omega
  subst hi'
  rw [List.take_length] at *
  exact .of (k _ (fun _ => by omega) (by omega))
theorem jL {h : H} {a : Value} {l : List Int} (r : rIn h eI 1 a l) (hl : l.length <= 1048576) {R : Ending -> H -> Prop} (k : ∀ M' v S, Tk.Sub h M' -> dL 3 eI 1 M' v l S -> (∀ x, S x -> hget h x = none) -> R (.returned v) M') : HCalls Tryz.prog 103 #[a] h R :=
 zFB r hl fun v g o d => k _ v _ (Sub.right d) (dL.of (h := h) o (Sub.left _ _)) fun x q => d x q
theorem qBU {h : H} {a : Value} {l : List (Int × Int)} (r : rIn h eP 2 a l) (hl : l.length <= 1048576) {R : Ending -> H -> Prop} (k : ∀ M' v S, Tk.Sub h M' -> dL 175 eP 2 M' v l S -> (∀ x, S x -> hget h x = none) -> R (.returned v) M') : HCalls Tryz.prog 104 #[a] h R :=
 zAC r hl fun v g o d => k _ v _ (Sub.right d) (dL.of (h := h) o (Sub.left _ _)) fun x q => d x q
theorem qUB {h : H} {d : DRecord} {v1 v2 : Value} (r1 : rIn h eI 1 v1 d.vals) (r2 : rIn h eP 2 v2 d.pairs) (hx : bRecord d) {R : Ending -> H -> Prop}
  (k : ∀ M' w1 w2 S, Tk.Sub h M' -> WRecord M' (qL d w1 w2) d S -> (∀ x, S x -> hget h x = none) -> R (.returned (.agg (qL d w1 w2).toArray)) M') : HCalls Tryz.prog 97 #[.agg (qL d v1 v2).toArray] h R := by
 refine qD lite (args := [.agg (qL d v1 v2).toArray]) Tryz.func97 ?_
 conv => arg 2; cbv
 rw [qR]
 have z1 := uD
 try simp only [str] at z1
 simp only [wK, seval, wRecord, str, z1]
 refine qC fun j1 h1 => ?_
 simp only [wK, seval, wRecord]
 refine qC fun j2 h2 => ?_
 simp only [wK, seval, wRecord]
 refine qC fun j3 h3 => ?_
 have n2 := h2
 have n3 := h3
 simp only [subs] at n2 n3
 have m : j1 ≠ j2 /\ j1 ≠ j3 /\ j2 ≠ j3 /\ j2 ≠ j1 /\ j3 ≠ j1 /\ j3 ≠ j2 := by refine ⟨?_, ?_, ?_, ?_, ?_, ?_⟩ <;> simp_all [Ne, eq_comm]
 try simp only [wK, seval, wRecord, zA, z1, m]
 refine qDO ?_
 try simp only [wK, seval, wRecord, zA, z1, m]
 obtain ⟨M0, hM0⟩ : ∃ M0, M0 = (j3, blk (qL ⟨d.stamp, d.try_, d.call, d.code, zRecord.vals, zRecord.pairs⟩ (.slice none 0 0) (.slice none 0 0)) 106) :: (j2, blk (qL zRecord (.slice none 0 0) (.slice none 0 0)) 106) :: (j1, blk (qL d v1 v2) 147) :: h := ⟨_, rfl⟩
 have sM0 : Tk.Sub h M0 := by rw [hM0]; (repeat' first | exact Sub.refl _ | exact Sub.nil _ | assumption | refine Sub.both ?_ ?_ | refine Sub.cons_of (by simp only [subs, n2, n3, h1, m]) ?_ | exact Sub.left _ _ | refine Sub.app (by simp only [subs, n2, n3, h1, m]) ?_ | refine Sub.cons (by simp only [subs, n2, n3, h1, m]) ?_)
 have g1 : hget M0 j1 = some (blk (qL d v1 v2) 147) := by rw [hM0]; simp only [mem, m, ne_eq, not_false_eq_true]
 have g2 : hget M0 j2 = some (blk (qL zRecord (.slice none 0 0) (.slice none 0 0)) 106) := by rw [hM0]; simp only [mem, m, ne_eq, not_false_eq_true]
 have g3 : hget M0 j3 = some (blk (qL ⟨d.stamp, d.try_, d.call, d.code, zRecord.vals, zRecord.pairs⟩ (.slice none 0 0) (.slice none 0 0)) 106) := by rw [hM0]; simp only [mem]
 rw [<- hM0]
 have cl1 : hcel M0 j1 9 = some v1 := qE g1 rfl
 try simp only [wK, seval, wRecord, cl1]
 refine jL (r1.sub sM0) (by have := hx.v; unfold lim at this; omega) fun M1 w1 S1 t1 u1 f1 => ?_
 have g1_1' : hget M1 j1 = some (blk (qL d v1 v2) 147) := t1 _ _ g1
 have g2_1' : hget M1 j2 = some (blk (qL zRecord (.slice none 0 0) (.slice none 0 0)) 106) := t1 _ _ g2
 have g3_1' := t1 _ _ g3
 obtain ⟨N1, hN1⟩ : ∃ N1, N1 = hupd M1 j3 (blk (qL ⟨d.stamp, d.try_, d.call, d.code, zRecord.vals, zRecord.pairs⟩ w1 (.slice none 0 0)) 106) := ⟨_, rfl⟩
 have wt1 : zQ M1 j3 9 [w1] = some N1 := by
  rw [hN1]; exact yI g3_1' (by show 9 + 1 <= 11; omega)
 have on1 := u1.one
 have vcw1 := vc1 on1
 have g3_1 : hget N1 j3 = some (blk (qL ⟨d.stamp, d.try_, d.call, d.code, zRecord.vals, zRecord.pairs⟩ w1 (.slice none 0 0)) 106) := by rw [hN1]; exact zH g3_1'
 have g1_1 : hget N1 j1 = some (blk (qL d v1 v2) 147) := by rw [hN1, qS m.2.1]; exact g1_1'
 have g2_1 : hget N1 j2 = some (blk (qL zRecord (.slice none 0 0) (.slice none 0 0)) 106) := by rw [hN1, qS m.2.2.1]; exact g2_1'
 have fr1 : ∀ x, x ≠ j3 -> hget N1 x = hget M1 x := fun x e => by rw [hN1, qS e]
 have sN1 : Tk.Sub h N1 := fun x o e => by
  rw [fr1 x (fun c => by subst c; rw [n3.2.2] at e; cases e)]; exact t1 _ _ (sM0 _ _ e)
 simp only [wK, seval, wRecord, wt1, on1, vcw1]
 have cl2 : hcel N1 j1 10 = some v2 := qE g1_1 rfl
 try simp only [wK, seval, wRecord, cl2]
 refine qBU (r2.sub sN1) (by have := hx.p; unfold lim at this; omega) fun M2 w2 S2 t2 u2 f2 => ?_
 have g1_2' : hget M2 j1 = some (blk (qL d v1 v2) 147) := t2 _ _ g1_1
 have g2_2' : hget M2 j2 = some (blk (qL zRecord (.slice none 0 0) (.slice none 0 0)) 106) := t2 _ _ g2_1
 have g3_2' := t2 _ _ g3_1
 obtain ⟨N2, hN2⟩ : ∃ N2, N2 = hupd M2 j3 (blk (qL ⟨d.stamp, d.try_, d.call, d.code, zRecord.vals, zRecord.pairs⟩ w1 w2) 106) := ⟨_, rfl⟩
 have wt2 : zQ M2 j3 10 [w2] = some N2 := by
  rw [hN2]; exact yI g3_2' (by show 10 + 1 <= 11; omega)
 have on2 := u2.one
 have vcw2 := vc1 on2
 have g3_2 : hget N2 j3 = some (blk (qL ⟨d.stamp, d.try_, d.call, d.code, zRecord.vals, zRecord.pairs⟩ w1 w2) 106) := by rw [hN2]; exact zH g3_2'
 have g1_2 : hget N2 j1 = some (blk (qL d v1 v2) 147) := by rw [hN2, qS m.2.1]; exact g1_2'
 have g2_2 : hget N2 j2 = some (blk (qL zRecord (.slice none 0 0) (.slice none 0 0)) 106) := by rw [hN2, qS m.2.2.1]; exact g2_2'
 have fr2 : ∀ x, x ≠ j3 -> hget N2 x = hget M2 x := fun x e => by rw [hN2, qS e]
 have sN2 : Tk.Sub h N2 := fun x o e => by
  rw [fr2 x (fun c => by subst c; rw [n3.2.2] at e; cases e)]; exact t2 _ _ (sN1 _ _ e)
 simp only [wK, seval, wRecord, wt2, on2, vcw2]
 have rd3 : qV N2 j3 0 11 = some (qL ⟨d.stamp, d.try_, d.call, d.code, zRecord.vals, zRecord.pairs⟩ w1 w2) := zD g3_2 rfl
 obtain ⟨Z3, hZ3⟩ : ∃ Z3, Z3 = hupd N2 j2 (blk (qL ⟨d.stamp, d.try_, d.call, d.code, zRecord.vals, zRecord.pairs⟩ w1 w2) 106) := ⟨_, rfl⟩
 have wtz : zQ N2 j2 0 (qL ⟨d.stamp, d.try_, d.call, d.code, zRecord.vals, zRecord.pairs⟩ w1 w2) = some Z3 := by
  rw [hZ3]; exact yI g2_2 (by show 0 + 11 <= 11; omega)
 have hone : (qL ⟨d.stamp, d.try_, d.call, d.code, zRecord.vals, zRecord.pairs⟩ w1 w2).all vone = true := by simp only [qL, List.all_cons, List.all_nil, on1, on2]; rfl
 simp only [wK, seval, wRecord, rd3, wtz, hone]
 have rdz : qV Z3 j2 0 11 = some (qL ⟨d.stamp, d.try_, d.call, d.code, zRecord.vals, zRecord.pairs⟩ w1 w2) := zD (by rw [hZ3]; exact zH g2_2) rfl
 simp only [wK, seval, wRecord, rdz]
 have frz : ∀ x, x ≠ j2 -> hget Z3 x = hget N2 x := fun x e => by rw [hZ3, qS e]
 have ne1 : ∀ x, S1 x -> x ≠ j2 /\ x ≠ j3 := fun x q => ⟨fun e => (by have := f1 x q; rw [e, g2] at this; cases this), fun e => (by have := f1 x q; rw [e, g3] at this; cases this)⟩
 have ne2 : ∀ x, S2 x -> x ≠ j2 /\ x ≠ j3 := fun x q => ⟨fun e => (by have := f2 x q; rw [e, g2_1] at this; cases this), fun e => (by have := f2 x q; rw [e, g3_1] at this; cases this)⟩
 have d12 : ∀ x, S1 x -> ¬ S2 x := fun x q q2 => by
  have := f2 x q2
  rw [fr1 x (ne1 x q).2] at this
  exact u1.in q this
 refine dP.of (k Z3 w1 w2 (fun x => S1 x ∨ S2 x) (fun x o e => by rw [frz x (fun c => by subst c; rw [n2.2] at e; cases e)]; exact sN2 x o e) ⟨w1, w2, S1, S2, rfl, (u1.frame fun x q => by rw [frz x (ne1 x q).1, fr2 x (ne1 x q).2, Sub.eq t2 (by rw [fr1 x (ne1 x q).2]; exact u1.in q), fr1 x (ne1 x q).2]), (u2.frame fun x q => by rw [frz x (ne2 x q).1, fr2 x (ne2 x q).2]), d12, fun _ => Iff.rfl⟩ ?_)
 rintro x (q | q)
 ·exact sM0.none' (f1 x q)
 ·exact sN1.none' (f2 x q)
theorem qQA {h : H} {a : Value} {l : List DRecord} (r : rIRs h (nRecord h) 11 a l) (hl : l.length <= 1048576) (hb : ∀ d ∈ l, bRecord d) {R : Ending -> H -> Prop} (k : ∀ M' v S, Tk.Sub h M' -> dR 106 WRecord 11 M' v l S -> (∀ x, S x -> hget h x = none) -> R (.returned v) M') :
  HCalls Tryz.prog 54 #[a] h R := by
 refine qD lite (args := [a]) Tryz.func54 ?_
 conv => arg 2; cbv
 rw [qR]
 have z1 := uD
 try simp only [str] at z1
 simp only [wK, seval, r.len, str, z1]
 refine ⟨⟨by omega, by omega, by omega, by omega⟩, qC fun j hj => ?_⟩
 simp only [wK, seval]
 obtain ⟨V, hV⟩ : ∃ V, V = Value.slice (some ⟨j, 0, none⟩) l.length l.length := ⟨_, rfl⟩
 obtain ⟨M0, hM0⟩ : ∃ M0, M0 = (j, blk (zrep (qL zRecord (.slice none 0 0) (.slice none 0 0)) l.length) 106) :: h := ⟨_, rfl⟩
 have D0 : dRb 106 WRecord 11 M0 (List.replicate l.length zRecord) (fun x => x = j) j (List.replicate l.length (qL zRecord (.slice none 0 0) (.slice none 0 0))) [] (fun _ _ => False) := by
  refine ⟨by rw [hM0, List.append_nil]; exact qG _ _ _, by simp, fun c hc => by rw [List.eq_of_mem_replicate hc]; rfl, fun i h1 h2 => ?_, fun _ _ q => q, fun _ _ _ _ _ _ q => q.elim, fun x => by simp⟩
  simp only [List.getElem_replicate]
  exact ⟨_, _, _, _, rfl, dL.nil, dL.nil, fun _ q => q.elim, fun _ => by simp⟩
 have d0 : dR 106 WRecord 11 M0 V (l.take 0 ++ (List.replicate l.length zRecord).drop 0) (fun x => x = j) := by
  have hr : (List.replicate l.length zRecord).length = l.length := by simp
  refine .inr ⟨j, l.length, List.replicate l.length (qL zRecord (.slice none 0 0) (.slice none 0 0)), [], fun _ _ => False, by simp only [List.take_zero, List.nil_append, List.drop_zero, hr]; exact hV, by simp, ?_, D0⟩
  rw [List.append_nil, wE (sz := 11) (fun c hc => by rw [List.eq_of_mem_replicate hc]; rfl)]; simp
 rw [<- hV, <- hM0]
 refine qP [4] (fun n vs M' => ∃ (i : Nat) (S : Nat -> Prop), vs = [.int .i64 i] /\ Tk.Sub h M' /\ dR 106 WRecord 11 M' V (l.take i ++ (List.replicate l.length zRecord).drop i) S /\ (∀ x, S x -> hget h x = none) /\ i <= l.length /\ n = l.length - i) l.length rfl
  ⟨0, _, rfl, by rw [hM0]; exact Sub.cons hj (Sub.refl _), d0, fun x e => e ▸ hj, by omega, rfl⟩ ?_
 rintro n f M' ⟨i, S, hv, sM, hd, hfr, hi, rfl⟩
 simp only [lm4] at hv
 simp only [wK, seval, wr, hv, r.len]
 refine qF (fun c1 => ?_) fun c1 => ?_
 ·have hi2 : i < l.length := by omega
  obtain ⟨b1, o1, cs1, hx1, e1, v1, v2, rfl, q1, q2⟩ := (r.sub sM fun _ _ q => nRecord.sub sM q).at hi2
  simp only [wK, seval, hx1, e1]
  refine qUB q1 q2 (hb _ (List.getElem_mem hi2)) fun M2 w1 w2 T s2 wn fn => ?_
  have hsame : ∀ x, S x -> hget M2 x = hget M' x := fun x q => Sub.eq s2 (hd.in WRecord.in q)
  have hdj : ∀ x, T x -> ¬ S x := fun x q q2 => hd.in WRecord.in q2 (fn x q)
  have hd2 := hd.frame WRecord.fr hsame
  rcases hd2 with ⟨_, e0, _⟩ | ⟨b, cap, css, sp, Ss, hv0, hc, hs, D⟩
  ·have := congrArg List.length e0
   rw [List.length_append, List.length_take, List.length_drop, List.length_replicate] at this
   simp at this; omega
  have hset := xZ hi2 (by simp : (List.replicate l.length zRecord).length = l.length)
  have hll : (l.take i ++ (List.replicate l.length zRecord).drop i).length = l.length := by rw [List.length_append, List.length_take, List.length_drop, List.length_replicate]; omega
  have hiL : i < (l.take i ++ (List.replicate l.length zRecord).drop i).length := by omega
  obtain ⟨A, B, hAB, hA, hset2⟩ := D.split hiL
  have hx := jC (sz := 11) hv0 hiL
  have hget0 : hget M2 b = some (blk (A ++ (css[i]'(by rw [D.len]; exact hiL) ++ B)) 106) := by rw [D.get, hAB]
  have hcl : (css[i]'(by rw [D.len]; exact hiL)).length = 11 := D.sz _ (List.getElem_mem _)
  have wt : zQ M2 b (i * 11) (qL l[i] w1 w2) = some (slot M2 b 106 A B (qL l[i] w1 w2)) := by
   have := uZ (j := 0) (e := 106) (B := B) (vs := qL l[i] w1 w2) hget0 hA (by rw [hcl]; exact Nat.le_refl _)
   rw [vG hget0] at this
   have h2 := yW (x := qL l[i] w1 w2) (y := css[i]'(by rw [D.len]; exact hiL)) (by rw [hcl]; rfl)
   rw [h2] at this
   exact this
  have hone : (qL l[i] w1 w2).all vone = true := by
   obtain ⟨_, _, _, _, e, p1, p2, _⟩ := wn
   rw [e]
   simp only [qL, List.all_cons, List.all_nil, p1.one, p2.one]; rfl
  simp only [wK, seval, hx, wt, hone, wRecord]
  simp (disch := omega) only [wK, seval, qK]
  have fb : ∀ x, x ≠ b -> hget (slot M2 b 106 A B (qL l[i] w1 w2)) x = hget M2 x := fun x e => jA e
  have hbS : S b := (D.dom b).2 (.inl rfl)
  refine ⟨l.length - (i + 1), by omega, _, .refl _, i + 1, (fun x => x = b ∨ ∃ j, j < ((l.take i ++ (List.replicate l.length zRecord).drop i).set i l[i]).length /\ (if j = i then T else Ss j) x), by simp, fun x o e => ?_, .inr ⟨b, cap, css.set i (qL l[i] w1 w2), sp, (fun j => if j = i then T else Ss j), ?_, ?_, ?_, ?_⟩, ?_, by omega, rfl⟩
  ·rw [fb x (fun c => by subst c; rw [hfr _ hbS] at e; cases e)]; exact s2 _ _ (sM _ _ e)
  ·rw [<- hset, List.length_set]; exact hv0
  ·rw [<- hset, List.length_set]; exact hc
  ·rw [hset2 _ rfl, <- hs, hAB]; simp only [List.length_append, hcl]; rfl
  ·rw [<- hset]
   exact D.grow WRecord.fr hiL rfl (by rw [hset2 _ rfl]; exact vL hget0) (WRecord.fr _ _ _ _ _ (fun x q => fb x fun e => hdj x q (e ▸ hbS)) wn) hdj fun x _ e => fb x e
  ·rintro x (e | ⟨j, hj, q⟩)
   ·exact e ▸ hfr _ hbS
   ·by_cases e : j = i
    ·rw [if_pos e] at q; exact sM.none' (fn x q)
    ·rw [if_neg e] at q
     rw [List.length_set] at hj
     exact hfr x ((D.dom x).2 (.inr ⟨j, hj, q⟩))
 ·have hi' : i = l.length := by omega
  subst hi'
  rw [List.take_length, List.drop_of_length_le (by simp), List.append_nil] at hd
  exact .of (k M' V S sM hd hfr)
theorem zEW {h : H} {d : DTold} {v1 : Value} (r1 : rIn h eP 2 v1 d.pairs) (hx : qGV d) {R : Ending -> H -> Prop}
  (k : ∀ M' w1 S, Tk.Sub h M' -> WTold M' (yB d w1) d S -> (∀ x, S x -> hget h x = none) -> R (.returned (.agg (yB d w1).toArray)) M') : HCalls Tryz.prog 171 #[.agg (yB d v1).toArray] h R := by
 refine qD lite (args := [.agg (yB d v1).toArray]) Tryz.func171 ?_
 conv => arg 2; cbv
 rw [qR]
 have z1 := qHR
 try simp only [str] at z1
 simp only [wK, seval, wTold, str, z1]
 refine qC fun j1 h1 => ?_
 simp only [wK, seval, wTold]
 refine qC fun j2 h2 => ?_
 simp only [wK, seval, wTold]
 refine qC fun j3 h3 => ?_
 have n2 := h2
 have n3 := h3
 simp only [subs] at n2 n3
 have m : j1 ≠ j2 /\ j1 ≠ j3 /\ j2 ≠ j3 /\ j2 ≠ j1 /\ j3 ≠ j1 /\ j3 ≠ j2 := by refine ⟨?_, ?_, ?_, ?_, ?_, ?_⟩ <;> simp_all [Ne, eq_comm]
 try simp only [wK, seval, wTold, zA, z1, m]
 obtain ⟨M0, hM0⟩ : ∃ M0, M0 = (j3, blk (yB ⟨d.house, zTold.pairs⟩ (.slice none 0 0)) 159) :: (j2, blk (yB zTold (.slice none 0 0)) 159) :: (j1, blk (yB d v1) 262) :: h := ⟨_, rfl⟩
 have sM0 : Tk.Sub h M0 := by rw [hM0]; (repeat' first | exact Sub.refl _ | exact Sub.nil _ | assumption | refine Sub.both ?_ ?_ | refine Sub.cons_of (by simp only [subs, n2, n3, h1, m]) ?_ | exact Sub.left _ _ | refine Sub.app (by simp only [subs, n2, n3, h1, m]) ?_ | refine Sub.cons (by simp only [subs, n2, n3, h1, m]) ?_)
 have g1 : hget M0 j1 = some (blk (yB d v1) 262) := by rw [hM0]; simp only [mem, m, ne_eq, not_false_eq_true]
 have g2 : hget M0 j2 = some (blk (yB zTold (.slice none 0 0)) 159) := by rw [hM0]; simp only [mem, m, ne_eq, not_false_eq_true]
 have g3 : hget M0 j3 = some (blk (yB ⟨d.house, zTold.pairs⟩ (.slice none 0 0)) 159) := by rw [hM0]; simp only [mem]
 rw [<- hM0]
 have cl1 : hcel M0 j1 1 = some v1 := qE g1 rfl
 try simp only [wK, seval, wTold, cl1]
 refine qBU (r1.sub sM0) (by have := hx; unfold qGV lim at this; omega) fun M1 w1 S1 t1 u1 f1 => ?_
 have g1_1' : hget M1 j1 = some (blk (yB d v1) 262) := t1 _ _ g1
 have g2_1' : hget M1 j2 = some (blk (yB zTold (.slice none 0 0)) 159) := t1 _ _ g2
 have g3_1' := t1 _ _ g3
 obtain ⟨N1, hN1⟩ : ∃ N1, N1 = hupd M1 j3 (blk (yB ⟨d.house, zTold.pairs⟩ w1) 159) := ⟨_, rfl⟩
 have wt1 : zQ M1 j3 1 [w1] = some N1 := by
  rw [hN1]; exact yI g3_1' (by show 1 + 1 <= 2; omega)
 have on1 := u1.one
 have vcw1 := vc1 on1
 have g3_1 : hget N1 j3 = some (blk (yB ⟨d.house, zTold.pairs⟩ w1) 159) := by rw [hN1]; exact zH g3_1'
 have g1_1 : hget N1 j1 = some (blk (yB d v1) 262) := by rw [hN1, qS m.2.1]; exact g1_1'
 have g2_1 : hget N1 j2 = some (blk (yB zTold (.slice none 0 0)) 159) := by rw [hN1, qS m.2.2.1]; exact g2_1'
 have fr1 : ∀ x, x ≠ j3 -> hget N1 x = hget M1 x := fun x e => by rw [hN1, qS e]
 have sN1 : Tk.Sub h N1 := fun x o e => by
  rw [fr1 x (fun c => by subst c; rw [n3.2.2] at e; cases e)]; exact t1 _ _ (sM0 _ _ e)
 simp only [wK, seval, wTold, wt1, on1, vcw1]
 have rd3 : qV N1 j3 0 2 = some (yB ⟨d.house, zTold.pairs⟩ w1) := zD g3_1 rfl
 obtain ⟨Z3, hZ3⟩ : ∃ Z3, Z3 = hupd N1 j2 (blk (yB ⟨d.house, zTold.pairs⟩ w1) 159) := ⟨_, rfl⟩
 have wtz : zQ N1 j2 0 (yB ⟨d.house, zTold.pairs⟩ w1) = some Z3 := by
  rw [hZ3]; exact yI g2_1 (by show 0 + 2 <= 2; omega)
 have hone : (yB ⟨d.house, zTold.pairs⟩ w1).all vone = true := by simp only [yB, List.all_cons, List.all_nil, on1]; rfl
 simp only [wK, seval, wTold, rd3, wtz, hone]
 have rdz : qV Z3 j2 0 2 = some (yB ⟨d.house, zTold.pairs⟩ w1) := zD (by rw [hZ3]; exact zH g2_1) rfl
 simp only [wK, seval, wTold, rdz]
 have frz : ∀ x, x ≠ j2 -> hget Z3 x = hget N1 x := fun x e => by rw [hZ3, qS e]
 have ne1 : ∀ x, S1 x -> x ≠ j2 /\ x ≠ j3 := fun x q => ⟨fun e => (by have := f1 x q; rw [e, g2] at this; cases this), fun e => (by have := f1 x q; rw [e, g3] at this; cases this)⟩
 exact dP.of (k Z3 w1 S1 (fun x o e => by rw [frz x (fun c => by subst c; rw [n2.2] at e; cases e)]; exact sN1 x o e) ⟨w1, rfl, (u1.frame fun x q => by rw [frz x (ne1 x q).1, fr1 x (ne1 x q).2])⟩ fun x q => sM0.none' (f1 x q))
theorem zAB {h : H} {a : Value} {l : List DTold} (r : rIRs h (nTold h) 2 a l) (hl : l.length <= 1048576) (hb : ∀ d ∈ l, qGV d) {R : Ending -> H -> Prop} (k : ∀ M' v S, Tk.Sub h M' -> dR 159 WTold 2 M' v l S -> (∀ x, S x -> hget h x = none) -> R (.returned v) M') :
  HCalls Tryz.prog 138 #[a] h R := by
 refine qD lite (args := [a]) Tryz.func138 ?_
 conv => arg 2; cbv
 rw [qR]
 have z1 := qHR
 try simp only [str] at z1
 simp only [wK, seval, r.len, str, z1]
 refine ⟨⟨by omega, by omega, by omega, by omega⟩, qC fun j hj => ?_⟩
 simp only [wK, seval]
 obtain ⟨V, hV⟩ : ∃ V, V = Value.slice (some ⟨j, 0, none⟩) l.length l.length := ⟨_, rfl⟩
 obtain ⟨M0, hM0⟩ : ∃ M0, M0 = (j, blk (zrep (yB zTold (.slice none 0 0)) l.length) 159) :: h := ⟨_, rfl⟩
 have D0 : dRb 159 WTold 2 M0 (List.replicate l.length zTold) (fun x => x = j) j (List.replicate l.length (yB zTold (.slice none 0 0))) [] (fun _ _ => False) := by
  refine ⟨by rw [hM0, List.append_nil]; exact qG _ _ _, by simp, fun c hc => by rw [List.eq_of_mem_replicate hc]; rfl, fun i h1 h2 => ?_, fun _ _ q => q, fun _ _ _ _ _ _ q => q.elim, fun x => by simp⟩
  simp only [List.getElem_replicate]
  exact ⟨_, rfl, dL.nil⟩
 have d0 : dR 159 WTold 2 M0 V (l.take 0 ++ (List.replicate l.length zTold).drop 0) (fun x => x = j) := by
  have hr : (List.replicate l.length zTold).length = l.length := by simp
  refine .inr ⟨j, l.length, List.replicate l.length (yB zTold (.slice none 0 0)), [], fun _ _ => False, by simp only [List.take_zero, List.nil_append, List.drop_zero, hr]; exact hV, by simp, ?_, D0⟩
  rw [List.append_nil, wE (sz := 2) (fun c hc => by rw [List.eq_of_mem_replicate hc]; rfl)]; simp
 rw [<- hV, <- hM0]
 refine qP [4] (fun n vs M' => ∃ (i : Nat) (S : Nat -> Prop), vs = [.int .i64 i] /\ Tk.Sub h M' /\ dR 159 WTold 2 M' V (l.take i ++ (List.replicate l.length zTold).drop i) S /\ (∀ x, S x -> hget h x = none) /\ i <= l.length /\ n = l.length - i) l.length rfl
  ⟨0, _, rfl, by rw [hM0]; exact Sub.cons hj (Sub.refl _), d0, fun x e => e ▸ hj, by omega, rfl⟩ ?_
 rintro n f M' ⟨i, S, hv, sM, hd, hfr, hi, rfl⟩
 simp only [lm4] at hv
 simp only [wK, seval, wr, hv, r.len]
 refine qF (fun c1 => ?_) fun c1 => ?_
 ·have hi2 : i < l.length := by omega
  obtain ⟨b1, o1, cs1, hx1, e1, v1, rfl, q1⟩ := (r.sub sM fun _ _ q => nTold.sub sM q).at hi2
  simp only [wK, seval, hx1, e1]
  refine zEW q1 (hb _ (List.getElem_mem hi2)) fun M2 w1 T s2 wn fn => ?_
  have hsame : ∀ x, S x -> hget M2 x = hget M' x := fun x q => Sub.eq s2 (hd.in WTold.in q)
  have hdj : ∀ x, T x -> ¬ S x := fun x q q2 => hd.in WTold.in q2 (fn x q)
  have hd2 := hd.frame WTold.fr hsame
  rcases hd2 with ⟨_, e0, _⟩ | ⟨b, cap, css, sp, Ss, hv0, hc, hs, D⟩
  ·have := congrArg List.length e0
   rw [List.length_append, List.length_take, List.length_drop, List.length_replicate] at this
   simp at this; omega
  have hset := xZ hi2 (by simp : (List.replicate l.length zTold).length = l.length)
  have hll : (l.take i ++ (List.replicate l.length zTold).drop i).length = l.length := by rw [List.length_append, List.length_take, List.length_drop, List.length_replicate]; omega
  have hiL : i < (l.take i ++ (List.replicate l.length zTold).drop i).length := by omega
  obtain ⟨A, B, hAB, hA, hset2⟩ := D.split hiL
  have hx := jC (sz := 2) hv0 hiL
  have hget0 : hget M2 b = some (blk (A ++ (css[i]'(by rw [D.len]; exact hiL) ++ B)) 159) := by rw [D.get, hAB]
  have hcl : (css[i]'(by rw [D.len]; exact hiL)).length = 2 := D.sz _ (List.getElem_mem _)
  have wt : zQ M2 b (i * 2) (yB l[i] w1) = some (slot M2 b 159 A B (yB l[i] w1)) := by
   have := uZ (j := 0) (e := 159) (B := B) (vs := yB l[i] w1) hget0 hA (by rw [hcl]; exact Nat.le_refl _)
   rw [vG hget0] at this
   have h2 := yW (x := yB l[i] w1) (y := css[i]'(by rw [D.len]; exact hiL)) (by rw [hcl]; rfl)
   rw [h2] at this
   exact this
  have hone : (yB l[i] w1).all vone = true := by
   obtain ⟨_, e, p1⟩ := wn
   rw [e]
   simp only [yB, List.all_cons, List.all_nil, p1.one]; rfl
  simp only [wK, seval, hx, wt, hone, wTold]
  simp (disch := omega) only [wK, seval, qK]
  have fb : ∀ x, x ≠ b -> hget (slot M2 b 159 A B (yB l[i] w1)) x = hget M2 x := fun x e => jA e
  have hbS : S b := (D.dom b).2 (.inl rfl)
  refine ⟨l.length - (i + 1), by omega, _, .refl _, i + 1, (fun x => x = b ∨ ∃ j, j < ((l.take i ++ (List.replicate l.length zTold).drop i).set i l[i]).length /\ (if j = i then T else Ss j) x), by simp, fun x o e => ?_, .inr ⟨b, cap, css.set i (yB l[i] w1), sp, (fun j => if j = i then T else Ss j), ?_, ?_, ?_, ?_⟩, ?_, by omega, rfl⟩
  ·rw [fb x (fun c => by subst c; rw [hfr _ hbS] at e; cases e)]; exact s2 _ _ (sM _ _ e)
  ·rw [<- hset, List.length_set]; exact hv0
  ·rw [<- hset, List.length_set]; exact hc
  ·rw [hset2 _ rfl, <- hs, hAB]; simp only [List.length_append, hcl]; rfl
  ·rw [<- hset]
   exact D.grow WTold.fr hiL rfl (by rw [hset2 _ rfl]; exact vL hget0) (WTold.fr _ _ _ _ _ (fun x q => fb x fun e => hdj x q (e ▸ hbS)) wn) hdj fun x _ e => fb x e
  ·rintro x (e | ⟨j, hj, q⟩)
   ·exact e ▸ hfr _ hbS
   ·by_cases e : j = i
    ·rw [if_pos e] at q; exact sM.none' (fn x q)
    ·rw [if_neg e] at q
     rw [List.length_set] at hj
     exact hfr x ((D.dom x).2 (.inr ⟨j, hj, q⟩))
 ·have hi' : i = l.length := by omega
  subst hi'
  rw [List.take_length, List.drop_of_length_le (by simp), List.append_nil] at hd
  exact .of (k M' V S sM hd hfr)
theorem zFA {h : H} {d : DLive} {v1 v2 : Value} (r1 : rIn h eI 1 v1 d.locked) (r2 : rIRs h (nTold h) 2 v2 d.told) (hx : bLive d) {R : Ending -> H -> Prop}
  (k : ∀ M' w1 w2 S, Tk.Sub h M' -> WLive M' (zJ d w1 w2) d S -> (∀ x, S x -> hget h x = none) -> R (.returned (.agg (zJ d w1 w2).toArray)) M') : HCalls Tryz.prog 98 #[.agg (zJ d v1 v2).toArray] h R := by
 refine qD lite (args := [.agg (zJ d v1 v2).toArray]) Tryz.func98 ?_
 conv => arg 2; cbv
 rw [qR]
 have z1 := qDG
 try simp only [str] at z1
 simp only [wK, seval, wLive, str, z1]
 refine qC fun j1 h1 => ?_
 simp only [wK, seval, wLive]
 refine qC fun j2 h2 => ?_
 simp only [wK, seval, wLive]
 refine qC fun j3 h3 => ?_
 have n2 := h2
 have n3 := h3
 simp only [subs] at n2 n3
 have m : j1 ≠ j2 /\ j1 ≠ j3 /\ j2 ≠ j3 /\ j2 ≠ j1 /\ j3 ≠ j1 /\ j3 ≠ j2 := by refine ⟨?_, ?_, ?_, ?_, ?_, ?_⟩ <;> simp_all [Ne, eq_comm]
 try simp only [wK, seval, wLive, zA, z1, m]
 refine qDO ?_
 try simp only [wK, seval, wLive, zA, z1, m]
 obtain ⟨M0, hM0⟩ : ∃ M0, M0 = (j3, blk (zJ ⟨d.stamp, d.try_, d.version, d.phase, d.call, zLive.locked, zLive.told⟩ (.slice none 0 0) (.slice none 0 0)) 103) :: (j2, blk (zJ zLive (.slice none 0 0) (.slice none 0 0)) 103) :: (j1, blk (zJ d v1 v2) 151) :: h := ⟨_, rfl⟩
 have sM0 : Tk.Sub h M0 := by rw [hM0]; (repeat' first | exact Sub.refl _ | exact Sub.nil _ | assumption | refine Sub.both ?_ ?_ | refine Sub.cons_of (by simp only [subs, n2, n3, h1, m]) ?_ | exact Sub.left _ _ | refine Sub.app (by simp only [subs, n2, n3, h1, m]) ?_ | refine Sub.cons (by simp only [subs, n2, n3, h1, m]) ?_)
 have g1 : hget M0 j1 = some (blk (zJ d v1 v2) 151) := by rw [hM0]; simp only [mem, m, ne_eq, not_false_eq_true]
 have g2 : hget M0 j2 = some (blk (zJ zLive (.slice none 0 0) (.slice none 0 0)) 103) := by rw [hM0]; simp only [mem, m, ne_eq, not_false_eq_true]
 have g3 : hget M0 j3 = some (blk (zJ ⟨d.stamp, d.try_, d.version, d.phase, d.call, zLive.locked, zLive.told⟩ (.slice none 0 0) (.slice none 0 0)) 103) := by rw [hM0]; simp only [mem]
 rw [<- hM0]
 have cl1 : hcel M0 j1 10 = some v1 := qE g1 rfl
 try simp only [wK, seval, wLive, cl1]
 refine jL (r1.sub sM0) (by have := hx.l; unfold lim at this; omega) fun M1 w1 S1 t1 u1 f1 => ?_
 have g1_1' : hget M1 j1 = some (blk (zJ d v1 v2) 151) := t1 _ _ g1
 have g2_1' : hget M1 j2 = some (blk (zJ zLive (.slice none 0 0) (.slice none 0 0)) 103) := t1 _ _ g2
 have g3_1' := t1 _ _ g3
 obtain ⟨N1, hN1⟩ : ∃ N1, N1 = hupd M1 j3 (blk (zJ ⟨d.stamp, d.try_, d.version, d.phase, d.call, zLive.locked, zLive.told⟩ w1 (.slice none 0 0)) 103) := ⟨_, rfl⟩
 have wt1 : zQ M1 j3 10 [w1] = some N1 := by
  rw [hN1]; exact yI g3_1' (by show 10 + 1 <= 12; omega)
 have on1 := u1.one
 have vcw1 := vc1 on1
 have g3_1 : hget N1 j3 = some (blk (zJ ⟨d.stamp, d.try_, d.version, d.phase, d.call, zLive.locked, zLive.told⟩ w1 (.slice none 0 0)) 103) := by rw [hN1]; exact zH g3_1'
 have g1_1 : hget N1 j1 = some (blk (zJ d v1 v2) 151) := by rw [hN1, qS m.2.1]; exact g1_1'
 have g2_1 : hget N1 j2 = some (blk (zJ zLive (.slice none 0 0) (.slice none 0 0)) 103) := by rw [hN1, qS m.2.2.1]; exact g2_1'
 have fr1 : ∀ x, x ≠ j3 -> hget N1 x = hget M1 x := fun x e => by rw [hN1, qS e]
 have sN1 : Tk.Sub h N1 := fun x o e => by
  rw [fr1 x (fun c => by subst c; rw [n3.2.2] at e; cases e)]; exact t1 _ _ (sM0 _ _ e)
 simp only [wK, seval, wLive, wt1, on1, vcw1]
 have cl2 : hcel N1 j1 11 = some v2 := qE g1_1 rfl
 try simp only [wK, seval, wLive, cl2]
 refine zAB (r2.sub sN1 fun _ _ q => nTold.sub sN1 q) (by have := hx.t; unfold lim at this; omega) hx.ts fun M2 w2 S2 t2 u2 f2 => ?_
 have g1_2' : hget M2 j1 = some (blk (zJ d v1 v2) 151) := t2 _ _ g1_1
 have g2_2' : hget M2 j2 = some (blk (zJ zLive (.slice none 0 0) (.slice none 0 0)) 103) := t2 _ _ g2_1
 have g3_2' := t2 _ _ g3_1
 obtain ⟨N2, hN2⟩ : ∃ N2, N2 = hupd M2 j3 (blk (zJ ⟨d.stamp, d.try_, d.version, d.phase, d.call, zLive.locked, zLive.told⟩ w1 w2) 103) := ⟨_, rfl⟩
 have wt2 : zQ M2 j3 11 [w2] = some N2 := by
  rw [hN2]; exact yI g3_2' (by show 11 + 1 <= 12; omega)
 have on2 := u2.one
 have vcw2 := vc1 on2
 have g3_2 : hget N2 j3 = some (blk (zJ ⟨d.stamp, d.try_, d.version, d.phase, d.call, zLive.locked, zLive.told⟩ w1 w2) 103) := by rw [hN2]; exact zH g3_2'
 have g1_2 : hget N2 j1 = some (blk (zJ d v1 v2) 151) := by rw [hN2, qS m.2.1]; exact g1_2'
 have g2_2 : hget N2 j2 = some (blk (zJ zLive (.slice none 0 0) (.slice none 0 0)) 103) := by rw [hN2, qS m.2.2.1]; exact g2_2'
 have fr2 : ∀ x, x ≠ j3 -> hget N2 x = hget M2 x := fun x e => by rw [hN2, qS e]
 have sN2 : Tk.Sub h N2 := fun x o e => by
  rw [fr2 x (fun c => by subst c; rw [n3.2.2] at e; cases e)]; exact t2 _ _ (sN1 _ _ e)
 simp only [wK, seval, wLive, wt2, on2, vcw2]
 have rd3 : qV N2 j3 0 12 = some (zJ ⟨d.stamp, d.try_, d.version, d.phase, d.call, zLive.locked, zLive.told⟩ w1 w2) := zD g3_2 rfl
 obtain ⟨Z3, hZ3⟩ : ∃ Z3, Z3 = hupd N2 j2 (blk (zJ ⟨d.stamp, d.try_, d.version, d.phase, d.call, zLive.locked, zLive.told⟩ w1 w2) 103) := ⟨_, rfl⟩
 have wtz : zQ N2 j2 0 (zJ ⟨d.stamp, d.try_, d.version, d.phase, d.call, zLive.locked, zLive.told⟩ w1 w2) = some Z3 := by
  rw [hZ3]; exact yI g2_2 (by show 0 + 12 <= 12; omega)
 have hone : (zJ ⟨d.stamp, d.try_, d.version, d.phase, d.call, zLive.locked, zLive.told⟩ w1 w2).all vone = true := by simp only [zJ, List.all_cons, List.all_nil, on1, on2]; rfl
 simp only [wK, seval, wLive, rd3, wtz, hone]
 have rdz : qV Z3 j2 0 12 = some (zJ ⟨d.stamp, d.try_, d.version, d.phase, d.call, zLive.locked, zLive.told⟩ w1 w2) := zD (by rw [hZ3]; exact zH g2_2) rfl
 simp only [wK, seval, wLive, rdz]
 have frz : ∀ x, x ≠ j2 -> hget Z3 x = hget N2 x := fun x e => by rw [hZ3, qS e]
 have ne1 : ∀ x, S1 x -> x ≠ j2 /\ x ≠ j3 := fun x q => ⟨fun e => (by have := f1 x q; rw [e, g2] at this; cases this), fun e => (by have := f1 x q; rw [e, g3] at this; cases this)⟩
 have ne2 : ∀ x, S2 x -> x ≠ j2 /\ x ≠ j3 := fun x q => ⟨fun e => (by have := f2 x q; rw [e, g2_1] at this; cases this), fun e => (by have := f2 x q; rw [e, g3_1] at this; cases this)⟩
 have d12 : ∀ x, S1 x -> ¬ S2 x := fun x q q2 => by
  have := f2 x q2
  rw [fr1 x (ne1 x q).2] at this
  exact u1.in q this
 refine dP.of (k Z3 w1 w2 (fun x => S1 x ∨ S2 x) (fun x o e => by rw [frz x (fun c => by subst c; rw [n2.2] at e; cases e)]; exact sN2 x o e) ⟨w1, w2, S1, S2, rfl, (u1.frame fun x q => by rw [frz x (ne1 x q).1, fr2 x (ne1 x q).2, Sub.eq t2 (by rw [fr1 x (ne1 x q).2]; exact u1.in q), fr1 x (ne1 x q).2]), (u2.frame WTold.fr fun x q => by rw [frz x (ne2 x q).1, fr2 x (ne2 x q).2]), d12, fun _ => Iff.rfl⟩ ?_)
 rintro x (q | q)
 ·exact sM0.none' (f1 x q)
 ·exact sN1.none' (f2 x q)
theorem zAE {h : H} {a : Value} {l : List DLive} (r : rIRs h (nLive h) 12 a l) (hl : l.length <= 1048576) (hb : ∀ d ∈ l, bLive d) {R : Ending -> H -> Prop} (k : ∀ M' v S, Tk.Sub h M' -> dR 103 WLive 12 M' v l S -> (∀ x, S x -> hget h x = none) -> R (.returned v) M') :
  HCalls Tryz.prog 55 #[a] h R := by
 refine qD lite (args := [a]) Tryz.func55 ?_
 conv => arg 2; cbv
 rw [qR]
 have z1 := qDG
 try simp only [str] at z1
 simp only [wK, seval, r.len, str, z1]
 refine ⟨⟨by omega, by omega, by omega, by omega⟩, qC fun j hj => ?_⟩
 simp only [wK, seval]
 obtain ⟨V, hV⟩ : ∃ V, V = Value.slice (some ⟨j, 0, none⟩) l.length l.length := ⟨_, rfl⟩
 obtain ⟨M0, hM0⟩ : ∃ M0, M0 = (j, blk (zrep (zJ zLive (.slice none 0 0) (.slice none 0 0)) l.length) 103) :: h := ⟨_, rfl⟩
 have D0 : dRb 103 WLive 12 M0 (List.replicate l.length zLive) (fun x => x = j) j (List.replicate l.length (zJ zLive (.slice none 0 0) (.slice none 0 0))) [] (fun _ _ => False) := by
  refine ⟨by rw [hM0, List.append_nil]; exact qG _ _ _, by simp, fun c hc => by rw [List.eq_of_mem_replicate hc]; rfl, fun i h1 h2 => ?_, fun _ _ q => q, fun _ _ _ _ _ _ q => q.elim, fun x => by simp⟩
  simp only [List.getElem_replicate]
  exact ⟨_, _, _, _, rfl, dL.nil, dR.nil, fun _ q => q.elim, fun _ => by simp⟩
 have d0 : dR 103 WLive 12 M0 V (l.take 0 ++ (List.replicate l.length zLive).drop 0) (fun x => x = j) := by
  have hr : (List.replicate l.length zLive).length = l.length := by simp
  refine .inr ⟨j, l.length, List.replicate l.length (zJ zLive (.slice none 0 0) (.slice none 0 0)), [], fun _ _ => False, by simp only [List.take_zero, List.nil_append, List.drop_zero, hr]; exact hV, by simp, ?_, D0⟩
  rw [List.append_nil, wE (sz := 12) (fun c hc => by rw [List.eq_of_mem_replicate hc]; rfl)]; simp
 rw [<- hV, <- hM0]
 refine qP [4] (fun n vs M' => ∃ (i : Nat) (S : Nat -> Prop), vs = [.int .i64 i] /\ Tk.Sub h M' /\ dR 103 WLive 12 M' V (l.take i ++ (List.replicate l.length zLive).drop i) S /\ (∀ x, S x -> hget h x = none) /\ i <= l.length /\ n = l.length - i) l.length rfl
  ⟨0, _, rfl, by rw [hM0]; exact Sub.cons hj (Sub.refl _), d0, fun x e => e ▸ hj, by omega, rfl⟩ ?_
 rintro n f M' ⟨i, S, hv, sM, hd, hfr, hi, rfl⟩
 simp only [lm4] at hv
 simp only [wK, seval, wr, hv, r.len]
 refine qF (fun c1 => ?_) fun c1 => ?_
 ·have hi2 : i < l.length := by omega
  obtain ⟨b1, o1, cs1, hx1, e1, v1, v2, rfl, q1, q2⟩ := (r.sub sM fun _ _ q => nLive.sub sM q).at hi2
  simp only [wK, seval, hx1, e1]
  refine zFA q1 q2 (hb _ (List.getElem_mem hi2)) fun M2 w1 w2 T s2 wn fn => ?_
  have hsame : ∀ x, S x -> hget M2 x = hget M' x := fun x q => Sub.eq s2 (hd.in WLive.in q)
  have hdj : ∀ x, T x -> ¬ S x := fun x q q2 => hd.in WLive.in q2 (fn x q)
  have hd2 := hd.frame WLive.fr hsame
  rcases hd2 with ⟨_, e0, _⟩ | ⟨b, cap, css, sp, Ss, hv0, hc, hs, D⟩
  ·have := congrArg List.length e0
   rw [List.length_append, List.length_take, List.length_drop, List.length_replicate] at this
   simp at this; omega
  have hset := xZ hi2 (by simp : (List.replicate l.length zLive).length = l.length)
  have hll : (l.take i ++ (List.replicate l.length zLive).drop i).length = l.length := by rw [List.length_append, List.length_take, List.length_drop, List.length_replicate]; omega
  have hiL : i < (l.take i ++ (List.replicate l.length zLive).drop i).length := by omega
  obtain ⟨A, B, hAB, hA, hset2⟩ := D.split hiL
  have hx := jC (sz := 12) hv0 hiL
  have hget0 : hget M2 b = some (blk (A ++ (css[i]'(by rw [D.len]; exact hiL) ++ B)) 103) := by rw [D.get, hAB]
  have hcl : (css[i]'(by rw [D.len]; exact hiL)).length = 12 := D.sz _ (List.getElem_mem _)
  have wt : zQ M2 b (i * 12) (zJ l[i] w1 w2) = some (slot M2 b 103 A B (zJ l[i] w1 w2)) := by
   have := uZ (j := 0) (e := 103) (B := B) (vs := zJ l[i] w1 w2) hget0 hA (by rw [hcl]; exact Nat.le_refl _)
   rw [vG hget0] at this
   have h2 := yW (x := zJ l[i] w1 w2) (y := css[i]'(by rw [D.len]; exact hiL)) (by rw [hcl]; rfl)
   rw [h2] at this
   exact this
  have hone : (zJ l[i] w1 w2).all vone = true := by
   obtain ⟨_, _, _, _, e, p1, p2, _⟩ := wn
   rw [e]
   simp only [zJ, List.all_cons, List.all_nil, p1.one, p2.one]; rfl
  simp only [wK, seval, hx, wt, hone, wLive]
  simp (disch := omega) only [wK, seval, qK]
  have fb : ∀ x, x ≠ b -> hget (slot M2 b 103 A B (zJ l[i] w1 w2)) x = hget M2 x := fun x e => jA e
  have hbS : S b := (D.dom b).2 (.inl rfl)
  refine ⟨l.length - (i + 1), by omega, _, .refl _, i + 1, (fun x => x = b ∨ ∃ j, j < ((l.take i ++ (List.replicate l.length zLive).drop i).set i l[i]).length /\ (if j = i then T else Ss j) x), by simp, fun x o e => ?_, .inr ⟨b, cap, css.set i (zJ l[i] w1 w2), sp, (fun j => if j = i then T else Ss j), ?_, ?_, ?_, ?_⟩, ?_, by omega, rfl⟩
  ·rw [fb x (fun c => by subst c; rw [hfr _ hbS] at e; cases e)]; exact s2 _ _ (sM _ _ e)
  ·rw [<- hset, List.length_set]; exact hv0
  ·rw [<- hset, List.length_set]; exact hc
  ·rw [hset2 _ rfl, <- hs, hAB]; simp only [List.length_append, hcl]; rfl
  ·rw [<- hset]
   exact D.grow WLive.fr hiL rfl (by rw [hset2 _ rfl]; exact vL hget0) (WLive.fr _ _ _ _ _ (fun x q => fb x fun e => hdj x q (e ▸ hbS)) wn) hdj fun x _ e => fb x e
  ·rintro x (e | ⟨j, hj, q⟩)
   ·exact e ▸ hfr _ hbS
   ·by_cases e : j = i
    ·rw [if_pos e] at q; exact sM.none' (fn x q)
    ·rw [if_neg e] at q
     rw [List.length_set] at hj
     exact hfr x ((D.dom x).2 (.inr ⟨j, hj, q⟩))
 ·have hi' : i = l.length := by omega
  subst hi'
  rw [List.take_length, List.drop_of_length_le (by simp), List.append_nil] at hd
  exact .of (k M' V S sM hd hfr)
end Go.Proofs.YtjioiemhgbkbfaaGreatDoor
end

section
namespace Go.Tk
open Go
end Go.Tk
namespace Go.Proofs.YtjioiemhgbkbfaaGreatDoor
open Go Go.Tk
end Go.Proofs.YtjioiemhgbkbfaaGreatDoor
end

section
namespace Go.Tk
open Go
theorem qDD (e : DWay) : (cWay e).length = 2 := rfl
end Go.Tk
namespace Go.Proofs.YtjioiemhgbkbfaaGreatDoor
open Go Go.Tk
theorem eqWay_c {h : H} {x y : DWay} {R : Ending -> H -> Prop} (k : R (.returned (.bool (decide (x = y)))) h) : HCalls Tryz.prog 115 #[.agg (cWay x).toArray, .agg (cWay y).toArray] h R := by
 refine qD lite (args := [.agg (cWay x).toArray, .agg (cWay y).toArray]) Tryz.func115 ?_
 conv => arg 2; cbv
 simp only [wK, seval, wWay]
 refine qC fun j1 h1 => ?_
 simp only [wK, seval, wWay]
 refine qC fun j2 h2 => ?_
 have n := wW h2
 simp only [wK, seval, wWay, n.1, n.2.1, xP, uI]
 refine zG (fun d => ⟨h, Sub.cons h2 (Sub.cons h1 (Sub.refl h)), kF k (fun e => d (by rw [e]))⟩) fun d0 => ?_
 refine zG (fun d => ⟨h, Sub.cons h2 (Sub.cons h1 (Sub.refl h)), kF k (fun e => d (by rw [e]))⟩) fun d1 => ?_
 refine ⟨h, Sub.cons h2 (Sub.cons h1 (Sub.refl h)), kT k ?_⟩
 cases x; cases y; simp_all
theorem zIF {h : H} {a b : Value} {la lb : List DWay} (ra : rLs h cWay 2 a la) (rb : rLs h cWay 2 b lb) (ha : la.length <= 1099511627776) {R : Ending -> H -> Prop} (k : R (.returned (.bool (decide (la = lb)))) h) :
  HCalls Tryz.prog 69 #[a, b] h R := by
 refine qD lite (args := [a, b]) Tryz.func69 ?_
 conv => arg 2; cbv
 simp only [wK, seval, ra.len, rb.len]
 split
 ·rename_i c
  exact .of (kF k fun e => c (by rw [e]))
 ·rename_i c
  have hl : la.length = lb.length := by omega
  refine qP [5] (fun n vs h' => ∃ i : Nat, vs = [.int .i64 i] /\ h' = h /\ i <= la.length /\ n = la.length - i /\ la.take i = lb.take i) la.length rfl ⟨0, rfl, rfl, by omega, by omega, by simp⟩ ?_
  rintro n f h' ⟨i, hv, rfl, hi, rfl, ht⟩
  simp only [lm4] at hv
  simp only [wK, seval, wr, hv, ra.len, rb.len]
  split
  ·rename_i c1
   refine zC h' (Sub.refl _) ?_
   simp only [wK, seval]
   refine zS (i := i) qDD ra rfl (by omega) fun b1 o1 e1 => ?_
   simp only [wK, seval, e1]
   refine zS (i := i) qDD rb rfl (by omega) fun b2 o2 e2 => ?_
   simp only [wK, seval, e2]
   refine eqWay_c ?_
   simp only [wK, seval]
   refine zG (fun d => .of (kF k (kP _ _ d))) fun d => ?_
   simp (disch := omega) only [qK]
   exact ⟨la.length - (i + 1), by omega, h', .refl _, i + 1, by simp, rfl, by omega, rfl, xL _ _ ht d⟩
  ·rename_i c1
   exact .of (kT k (wD (by omega) hl ht))
theorem zFK {h : H} {v : Value} {l : List DWay} {left : Int} (r : rIn h cWay 2 v l) (hl : 0 <= left /\ left <= 1048576) (hb : l.length <= 9223372036854775807) {R : Ending -> H -> Prop} (k : ∀ x, (0 <= x -> x = left - l.length) -> x <= 1048576 -> R (.returned (.int .i64 x)) h) : HCalls Tryz.prog 35 #[v, .int .i64 left] h R := by
 refine qD lite (args := [v, .int .i64 left]) Tryz.func35 ?_
 conv => arg 2; cbv
 rw [qR]
 simp (disch := omega) only [wK, seval, r.len, qK]
 refine qF (fun c => .of (k _ (fun q => by omega) (by omega))) fun c => .of (k _ (fun _ => rfl) (by omega))
theorem toWay_c {h : H} {p : DWay} {R : Ending -> H -> Prop} (k : R (.returned (.agg (cWay p).toArray)) h) : HCalls Tryz.prog 99 #[.agg (cWay p).toArray] h R := by
 refine qD lite (args := [.agg (cWay p).toArray]) Tryz.func99 ?_
 conv => arg 2; cbv
 rw [qR]
 have zp := qHE
 simp only [wK, seval, zp, wWay]
 refine qC fun j1 h1 => ?_
 simp only [wK, seval, zp, wWay]
 refine qC fun j2 h2 => ?_
 simp only [wK, seval, zp, wWay]
 refine qC fun j3 h3 => ?_
 have n2 := wW h2
 have n3 := wW h3
 simp only [subs] at h2 h3
 have e31 : ¬ j1 = j3 := fun e => h3.2.1 e.symm
 have e32 : ¬ j2 = j3 := fun e => h3.1 e.symm
 have e21 : ¬ j1 = j2 := fun e => h2.1 e.symm
 simp only [wK, seval, zp, wWay, e31, e32, e21, h3, h2]
 refine ⟨h, ?_, k⟩
 (repeat' first | exact Sub.refl _ | exact Sub.nil _ | assumption | refine Sub.both ?_ ?_ | refine Sub.cons_of (by simp only [subs, h1, h2, h3, e31, e32, e21]) ?_ | exact Sub.left _ _ | refine Sub.app (by simp only [subs, h1, h2, h3, e31, e32, e21]) ?_ | refine Sub.cons (by simp only [subs, h1, h2, h3, e31, e32, e21]) ?_)
theorem zEV {h : H} {a : Value} {l : List DWay} (r : rIn h cWay 2 a l) (hl : l.length <= 1048576) {R : Ending -> H -> Prop} (k : ∀ v g, oLs 161 cWay 2 v l g -> Dj g h -> R (.returned v) (g ++ h)) : HCalls Tryz.prog 56 #[a] h R := by
 refine qD lite (args := [a]) Tryz.func56 ?_
 conv => arg 2; cbv
 rw [qR]
 have zp := qHE
 simp only [wK, seval, r.len, str, zp]
 refine ⟨⟨by omega, by omega, by omega, by omega⟩, qC fun j hj => ?_⟩
 rw [qHD (enc := cWay) (a := zWay) rfl]
 simp only [wK, seval]
 have hr : (List.replicate l.length zWay).length = l.length := by simp
 have o0 : oLs 161 cWay 2 (.slice (some ⟨j, 0, none⟩) l.length l.length) (List.replicate l.length zWay) [(j, blk (fl cWay (List.replicate l.length zWay)) 161)] := by
  have := xU (e := 161) qDD (j := j) (l := List.replicate l.length zWay)
  rw [hr] at this; exact this
 obtain ⟨V, hV⟩ : ∃ V, V = Value.slice (some ⟨j, 0, none⟩) l.length l.length := ⟨_, rfl⟩
 rw [<- hV] at o0 ⊢
 refine qP [4] (fun n vs h' => ∃ (i : Nat) (g' : H), vs = [.int .i64 i] /\ h' = g' ++ h /\ Dj g' h /\ oLs 161 cWay 2 V (l.take i ++ (List.replicate l.length zWay).drop i) g' /\ i <= l.length /\ n = l.length - i) l.length rfl
  ⟨0, _, rfl, rfl, Dj.one hj, by simpa using o0, by omega, rfl⟩ ?_
 rintro n f h' ⟨i, g', hv, rfl, dj', o', hi, rfl⟩
 simp only [lm4] at hv
 simp only [wK, seval, wr, hv, r.len]
 refine qF (fun c1 => ?_) fun c1 => ?_
 ·have hi2 : i < l.length := by omega
  refine qOT (i := i) qDD (r.sub (Sub.right dj')) rfl hi2 fun b1 o1 e1 => ?_
  simp only [wK, seval, e1, wWay]
  refine toWay_c ?_
  simp only [wK, seval, wWay]
  refine qHH (i := i) qDD o' rfl (by simp; omega) fun b cap sp hv' hc hs hg => ?_
  subst hg
  simp only [wK, seval, wWay]
  refine qID (i := i) (a' := l[i]'hi2) (off := 0) qDD (by omega) (by simp; omega) rfl (by omega) rfl ?_
  simp only [wK, seval]
  simp (disch := omega) only [qK]
  refine ⟨l.length - (i + 1), by omega, _, .refl _, i + 1, _, by simp, rfl, Dj.one dj'.one', ?_, by omega, rfl⟩
  rw [<- xZ (by omega) hr]
  exact qHG qDD hv' hc hs
 ·have hi' : i = l.length := by omega
  subst hi'
  have o2 : oLs 161 cWay 2 V l g' := by simpa using o'
  exact .of (k _ g' o2 dj')
end Go.Proofs.YtjioiemhgbkbfaaGreatDoor
end
