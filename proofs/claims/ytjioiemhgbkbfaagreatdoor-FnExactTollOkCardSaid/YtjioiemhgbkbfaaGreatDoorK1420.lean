/- Parts of the proof. -/
import Derived.Test.YtjioiemhgbkbfaaGreatDoorK145
import Derived.Test.YtjioiemhgbkbfaaGreatDoorK1418
import Derived.Test.YtjioiemhgbkbfaaGreatDoorK1419
import Derived.Test.YtjioiemhgbkbfaaGreatDoorK1413
set_option maxHeartbeats 4000000
set_option maxRecDepth 100000
set_option linter.unusedVariables false
set_option linter.unusedSimpArgs false
set_option linter.defProp false
attribute [local irreducible] Go.Tk.vc Go.Tk.vops Go.Tk.vdr Go.Tk.vop Go.Tk.vfl Go.Tk.HCalls
section
namespace Go.Tk
open Go
def wP (rp re : Nat) (ov vv : Value) (ks : List Bool) : List Value := .map (some rp) :: .map (some re) :: ov :: (ks.map Value.bool ++ [vv])
section
variable {rp re : Nat} {ov vv : Value} {ks : List Bool}
theorem uH (h : ks.length = 8) : (wP rp re ov vv ks).length = 12 := by simp [wP, h]
theorem qJP (h : ks.length = 8) : (wP rp re ov vv ks)[11]? = some vv := by
 unfold wP
 rw [show (11 : Nat) = 8 + 1 + 1 + 1 from rfl]
 simp only [List.getElem?_cons_succ]
 rw [List.getElem?_append_right (by simp [h])]
 simp [h]
theorem zIN (ov' : Value) : qI (wP rp re ov vv ks) 2 [ov'] = wP rp re ov' vv ks := by rw [qCT]; rfl
theorem qJQ (h : ks.length = 8) (vv' : Value) : qI (wP rp re ov vv ks) 11 [vv'] = wP rp re ov vv' ks := by
 rw [qCT]
 unfold wP
 rw [show (11 : Nat) = 8 + 1 + 1 + 1 from rfl]
 simp only [List.set_cons_succ]
 rw [List.set_append, if_neg (by simp [h])]
 simp [h]
theorem qJR {n : Nat} (h : ks.length = 8) (hn : n < 8) (b : Bool) : qI (wP rp re ov vv ks) (3 + n) [.bool b] = wP rp re ov vv (ks.set n b) := by
 rw [qCT, Nat.add_comm]
 unfold wP
 rw [show n + 3 = n + 1 + 1 + 1 from rfl]
 simp only [List.set_cons_succ]
 rw [List.set_append, if_pos (by simp [h]; omega), List.map_set]
end
structure KS where
 rp : Nat
 re : Nat
 ov : Value
 vv : Value
 pm : List ((Int × Int) × Value)
 em : List ((Int × Int) × Value)
 So : Nat -> Prop
 Sv : Nat -> Prop
structure KQ (h M : H) (jk : Nat) (k : KS) (kb : List Bool) (ol vl : List (Int × Int)) : Prop where
 sub : Tk.Sub h M
 len : kb.length = 8
 get : hget M jk = some (blk (wP k.rp k.re k.ov k.vv kb) 210)
 gp : ∃ es c, hget M k.rp = some (.map es c) /\ mapO eTwo es k.pm
 ge : ∃ es c, hget M k.re = some (.map es c) /\ mapO eTwo es k.em
 od : dL 212 eP 2 M k.ov ol k.So
 vl : dL 175 eP 2 M k.vv vl k.Sv
 nj : hget h jk = none
 np : hget h k.rp = none
 ne : hget h k.re = none
 jp : jk ≠ k.rp
 je : jk ≠ k.re
 pe : k.rp ≠ k.re
 fo : ∀ x, k.So x -> hget h x = none /\ x ≠ jk /\ x ≠ k.rp /\ x ≠ k.re
 fv : ∀ x, k.Sv x -> hget h x = none /\ x ≠ jk /\ x ≠ k.rp /\ x ≠ k.re
 dj : ∀ x, k.So x -> ¬ k.Sv x
section
variable {h M N : H} {jk : Nat} {k : KS} {kb kb' : List Bool} {ol ol' vl vl' : List (Int × Int)}
theorem KQ.move (q : KQ h M jk k kb ol vl) (s : Tk.Sub h N) (e : ∀ x, hget M x ≠ none -> (x = jk ∨ x = k.rp ∨ x = k.re ∨ k.So x ∨ k.Sv x) -> hget N x = hget M x) : KQ h N jk k kb ol vl where
 sub := s
 len := q.len
 get := by rw [e _ (by rw [q.get]; simp) (.inl rfl)]; exact q.get
 gp := by
  obtain ⟨es, c, g, m⟩ := q.gp
  exact ⟨es, c, by rw [e _ (by rw [g]; simp) (.inr (.inl rfl))]; exact g, m⟩
 ge := by
  obtain ⟨es, c, g, m⟩ := q.ge
  exact ⟨es, c, by rw [e _ (by rw [g]; simp) (.inr (.inr (.inl rfl)))]; exact g, m⟩
 od := q.od.frame fun x hx => e x (q.od.in hx) (.inr (.inr (.inr (.inl hx))))
 vl := q.vl.frame fun x hx => e x (q.vl.in hx) (.inr (.inr (.inr (.inr hx))))
 nj := q.nj
 np := q.np
 ne := q.ne
 jp := q.jp
 je := q.je
 pe := q.pe
 fo := q.fo
 fv := q.fv
 dj := q.dj
theorem KQ.up (q : KQ h M jk k kb ol vl) (s : Tk.Sub M N) : KQ h N jk k kb ol vl := q.move (q.sub.trans s) fun x hx _ => Sub.eq s hx
theorem KQ.putP {es' : Array MapEntry} {c' : Nat} {pm' : List ((Int × Int) × Value)} (q : KQ h M jk k kb ol vl) (g : hget N k.rp = some (.map es' c')) (e : ∀ x, x ≠ k.rp -> hget N x = hget M x) (m : mapO eTwo es' pm') : KQ h N jk { k with pm := pm' } kb ol vl where
 sub := fun x o hx => by rw [e x (fun c => by rw [c, q.np] at hx; cases hx)]; exact q.sub x o hx
 len := q.len
 get := by rw [e _ q.jp]; exact q.get
 gp := ⟨es', c', g, m⟩
 ge := by
  obtain ⟨es, c, g, m⟩ := q.ge
  exact ⟨es, c, by rw [e _ (Ne.symm q.pe)]; exact g, m⟩
 od := q.od.frame fun x hx => e x (q.fo x hx).2.2.1
 vl := q.vl.frame fun x hx => e x (q.fv x hx).2.2.1
 nj := q.nj
 np := q.np
 ne := q.ne
 jp := q.jp
 je := q.je
 pe := q.pe
 fo := q.fo
 fv := q.fv
 dj := q.dj
theorem KQ.putE {es' : Array MapEntry} {c' : Nat} {em' : List ((Int × Int) × Value)} (q : KQ h M jk k kb ol vl) (g : hget N k.re = some (.map es' c')) (e : ∀ x, x ≠ k.re -> hget N x = hget M x) (m : mapO eTwo es' em') : KQ h N jk { k with em := em' } kb ol vl where
 sub := fun x o hx => by rw [e x (fun c => by rw [c, q.ne] at hx; cases hx)]; exact q.sub x o hx
 len := q.len
 get := by rw [e _ q.je]; exact q.get
 ge := ⟨es', c', g, m⟩
 gp := by
  obtain ⟨es, c, g, m⟩ := q.gp
  exact ⟨es, c, by rw [e _ q.pe]; exact g, m⟩
 od := q.od.frame fun x hx => e x (q.fo x hx).2.2.2
 vl := q.vl.frame fun x hx => e x (q.fv x hx).2.2.2
 nj := q.nj
 np := q.np
 ne := q.ne
 jp := q.jp
 je := q.je
 pe := q.pe
 fo := q.fo
 fv := q.fv
 dj := q.dj
theorem KQ.box {ov' vv' : Value} {So' Sv' : Nat -> Prop} (q : KQ h M jk k kb ol vl) (hl : kb'.length = 8) (g : hget N jk = some (blk (wP k.rp k.re ov' vv' kb') 210)) (e : ∀ x, x ≠ jk -> hget N x = hget M x) (od' : dL 212 eP 2 M ov' ol' So') (vl2 : dL 175 eP 2 M vv' vl' Sv')
  (fo' : ∀ x, So' x -> hget h x = none /\ x ≠ jk /\ x ≠ k.rp /\ x ≠ k.re) (fv' : ∀ x, Sv' x -> hget h x = none /\ x ≠ jk /\ x ≠ k.rp /\ x ≠ k.re) (dj' : ∀ x, So' x -> ¬ Sv' x) : KQ h N jk { k with ov := ov', vv := vv', So := So', Sv := Sv' } kb' ol' vl' where
 sub := fun x o hx => by rw [e x (fun c => by rw [c, q.nj] at hx; cases hx)]; exact q.sub x o hx
 len := hl
 get := g
 gp := by
  obtain ⟨es, c, g, m⟩ := q.gp
  exact ⟨es, c, by rw [e _ (Ne.symm q.jp)]; exact g, m⟩
 ge := by
  obtain ⟨es, c, g, m⟩ := q.ge
  exact ⟨es, c, by rw [e _ (Ne.symm q.je)]; exact g, m⟩
 od := od'.frame fun x hx => e x (fo' x hx).2.1
 vl := vl2.frame fun x hx => e x (fv' x hx).2.1
 nj := q.nj
 np := q.np
 ne := q.ne
 jp := q.jp
 je := q.je
 pe := q.pe
 fo := fo'
 fv := fv'
 dj := dj'
theorem KQ.app {Z M5 : H} {w5 : Value} {S5 : Nat -> Prop} (q : KQ h M jk k kb ol vl) (d5 : dL 212 eP 2 M5 w5 ol' S5) (k5 : ∀ x, hget M x ≠ none -> ¬ k.So x -> hget M5 x = hget M x) (f5 : ∀ x, S5 x -> k.So x ∨ hget M x = none)
  (gZ : hget Z jk = some (blk (wP k.rp k.re w5 k.vv kb) 210)) (fZ : ∀ x, x ≠ jk -> hget Z x = hget M5 x) : KQ h Z jk { k with ov := w5, So := S5 } kb ol' vl := by
 obtain ⟨es, c, gp, mp⟩ := q.gp
 obtain ⟨es2, c2, ge, me⟩ := q.ge
 have fo5 : ∀ x, S5 x -> hget h x = none /\ x ≠ jk /\ x ≠ k.rp /\ x ≠ k.re := fun x hx => by
  rcases f5 x hx with e | e
  ·exact q.fo x e
  ·exact ⟨q.sub.none' e, fun c => (by rw [c, q.get] at e; cases e), fun c => (by rw [c, gp] at e; cases e), fun c => (by rw [c, ge] at e; cases e)⟩
 exact {
  sub := fun x o hx => by
   have n1 : x ≠ jk := fun c => by rw [c, q.nj] at hx; cases hx
   have hM := q.sub x o hx
   rw [fZ x n1, k5 x (by rw [hM]; simp) (fun c => by rw [(q.fo x c).1] at hx; cases hx)]; exact hM
  len := q.len
  get := gZ
  gp := ⟨es, c, by rw [fZ _ (Ne.symm q.jp), k5 _ (by rw [gp]; simp) (fun c => (q.fo _ c).2.2.1 rfl)]; exact gp, mp⟩
  ge := ⟨es2, c2, by rw [fZ _ (Ne.symm q.je), k5 _ (by rw [ge]; simp) (fun c => (q.fo _ c).2.2.2 rfl)]; exact ge, me⟩
  od := d5.frame fun x hx => fZ x (fo5 x hx).2.1
  vl := q.vl.frame fun x hx => by rw [fZ x (q.fv x hx).2.1, k5 x (q.vl.in hx) (fun c => q.dj x c hx)]
  nj := q.nj
  np := q.np
  ne := q.ne
  jp := q.jp
  je := q.je
  pe := q.pe
  fo := fo5
  fv := q.fv
  dj := fun x hx hv => by
   rcases f5 x hx with e | e
   ·exact q.dj x e hv
   ·exact q.vl.in hv e }
theorem KQ.val {Z M1 : H} {b : Value} {S' : Nat -> Prop} (q : KQ h M jk k kb ol vl) (s : Tk.Sub M M1) (d : dL 175 eP 2 M1 b vl' S') (f : ∀ x, S' x -> hget M x = none)
  (gZ : hget Z jk = some (blk (wP k.rp k.re k.ov b kb) 210)) (fZ : ∀ x, x ≠ jk -> hget Z x = hget M1 x) : KQ h Z jk { k with vv := b, Sv := S' } kb ol vl' := by
 obtain ⟨es, c, gp, mp⟩ := q.gp
 obtain ⟨es2, c2, ge, me⟩ := q.ge
 have q1 := q.up s
 exact q1.box q1.len gZ fZ q1.od d q1.fo (fun x hx => ⟨q.sub.none' (f x hx), fun c => (by have := f x hx; rw [c, q.get] at this; cases this), fun c => (by have := f x hx; rw [c, gp] at this; cases this), fun c => (by have := f x hx; rw [c, ge] at this; cases this)⟩) fun x h1 h2 => q.od.in h1 (f x h2)
theorem KQ.kept {Z : H} (q : KQ h M jk k kb ol vl) (hl : kb'.length = 8) (gZ : hget Z jk = some (blk (wP k.rp k.re k.ov k.vv kb') 210)) (fZ : ∀ x, x ≠ jk -> hget Z x = hget M x) : KQ h Z jk k kb' ol vl :=
 q.box hl gZ fZ q.od q.vl q.fo q.fv q.dj
end
structure KW (h M : H) (jk : Nat) (id : Int) (log : List DRec) (k : KS) : Prop where
 q : KQ h M jk k (uP (wG id log).1) (wS log) (wG id log).2
 pr : qLO h k.pm log
 en : endM k.em log
 lg : logP log
 vs : (wG id log).2.length <= 32
section
variable {h M N : H} {jk : Nat} {id : Int} {log : List DRec} {k : KS}
theorem KW.up (w : KW h M jk id log k) (s : Tk.Sub M N) : KW h N jk id log k := ⟨w.q.up s, w.pr, w.en, w.lg, w.vs⟩
theorem KW.look (w : KW h M jk id log k) (s t : Int) : ∃ d x y b, (mget k.pm (s, t)).getD (.agg (cRec zRec (.slice none 0 0) (.slice none 0 0)).toArray) = .agg (cRec d x y).toArray /\ (mget k.pm (s, t)).isSome = b /\ sRec h d x y /\ ((b = true /\ yI log s t = some d) ∨ (b = false /\ yI log s t = none)) := by
 have p := w.pr s t
 cases e : yI log s t with
 | none =>
  rw [e] at p
  rw [p]
  exact ⟨zRec, _, _, false, rfl, rfl, ⟨(dL.nil (e := 0)).rd, (dL.nil (e := 0)).rd⟩, .inr ⟨rfl, rfl⟩⟩
 | some d =>
  rw [e] at p
  obtain ⟨x, y, g, sr⟩ := p
  rw [g]
  exact ⟨d, x, y, true, rfl, rfl, sr, .inl ⟨rfl, rfl⟩⟩
theorem KW.ends (w : KW h M jk id log k) (s t : Int) : ∃ n b, (mget k.em (s, t)).getD (.int .i64 0) = .int .i64 n /\ (mget k.em (s, t)).isSome = b /\ b = vS log s t /\ (decide (n = 0) = !b) := by
 have p := w.en s t
 rw [qEP]
 cases e : qBL log s t with
 | none =>
  rw [e] at p
  rw [p]
  exact ⟨0, false, rfl, rfl, rfl, rfl⟩
 | some n =>
  rw [e] at p
  rw [p]
  exact ⟨n, true, rfl, rfl, rfl, by simp [qVW w.lg e]⟩
end
theorem qFF {log : List DRec} (h : logP log) {s t : Int} {p : DRec} (e : yI log s t = some p) : qMN p.stamp p.try_ p.what p.slots := by
 obtain ⟨hm, hk, _, _⟩ := qIF e
 obtain ⟨i, hi, rfl⟩ := List.getElem_of_mem hm
 rcases (h.2 i hi).1 with c | c
 ·exact c.2.1
 ·exact absurd hk c.1
end Go.Tk
namespace Go.Proofs.YtjioiemhgbkbfaaGreatDoor
open Go Go.Tk
theorem keyA : KeyT Tryz.prog 212 eTwo := keyS2 Tryz.underlying212 (it := 3) (by kernel_rfl) rfl rfl rfl rfl (by decide) (by decide) (by kernel_rfl)
theorem qDL : Tryz.prog.underlying 205 = some (.map 212 137) := by kernel_rfl
theorem qGY : Tryz.prog.underlying 206 = some (.map 212 3) := by kernel_rfl
theorem qWU : ∃ i, Tryz.prog.info? 137 = some i /\ i.zero = some (.agg (cRec zRec (.slice none 0 0) (.slice none 0 0)).toArray) := by
 obtain ⟨i, hi⟩ := Option.isSome_iff_exists.1 (show (Tryz.prog.info? 137).isSome = true by kernel_rfl)
 have : (Tryz.prog.info? 137).bind (·.zero) = some (.agg (cRec zRec (.slice none 0 0) (.slice none 0 0)).toArray) := by kernel_rfl
 rw [hi] at this
 exact ⟨i, hi, this⟩
theorem zEndI : ∃ i, Tryz.prog.info? 3 = some i /\ i.zero = some (.int .i64 0) := by
 obtain ⟨i, hi⟩ := Option.isSome_iff_exists.1 (show (Tryz.prog.info? 3).isSome = true by kernel_rfl)
 have : (Tryz.prog.info? 3).bind (·.zero) = some (.int .i64 0) := by kernel_rfl
 rw [hi] at this
 exact ⟨i, hi, this⟩
theorem vX {h : H} {d : DRec} {a b : Value} (r : sRec h d a b) : (cRec d a b).all vone = true := by
 simp only [cRec, List.all_cons, List.all_nil, rdS.one r.1, rdS.one r.2]; rfl
theorem jT {h : H} {d : DRec} {a b : Value} {R : Ending -> H -> Prop} (k : R (.returned (eTwo (d.stamp, d.try_))) h) : HCalls Tryz.prog 270 #[.agg (cRec d a b).toArray] h R := by
 refine qD lite (args := [.agg (cRec d a b).toArray]) Tryz.func270 ?_
 conv => arg 2; cbv
 simp only [wK, seval, wRec]
 refine qC (o := blk (cRec d a b) 137) fun j1 h1 => ?_
 simp only [wK, seval, wRec]
 refine qC (o := blk [.int .i64 0, .int .i64 0] 212) fun j2 h2 => ?_
 have n2 := wU h2
 simp only [wK, seval, wRec, n2.1, n2.2.1]
 exact ⟨h, (Sub.cons h1 (Sub.refl _)).trans (Sub.cons h2 (Sub.refl _)), k⟩
end Go.Proofs.YtjioiemhgbkbfaaGreatDoor
end

section
namespace Go.Tk
open Go
theorem zAD {l : List Int} (h : qHX l) : l.length <= 8 := by
 have key : ∀ (i : Nat) (hi : i < l.length), (i : Int) <= l[i] := by
  intro i
  induction i with
  | zero => intro hi; exact (h.1 _ (List.getElem_mem hi)).1
  | succ i ih =>
   intro hi
   have a := ih (by omega)
   have b : id l[i] < id l[i + 1] := h.2 i hi
   simp only [id] at b
   omega
 rcases Nat.eq_zero_or_pos l.length with e | e
 ·omega
 ·have a := key (l.length - 1) (by omega)
  have b : l[l.length - 1] <= 7 := (h.1 _ (List.getElem_mem (by omega))).2
  omega
end Go.Tk
namespace Go.Proofs.YtjioiemhgbkbfaaGreatDoor
open Go Go.Tk
theorem qUJ {h M : H} {jk : Nat} {id : Int} {log : List DRec} {ks : KS} {r : DRec} {v1 v2 : Value} (w : KW h M jk id log ks) (sr : sRec M r v1 v2) (hb : bRec r) {R : Ending -> H -> Prop}
  (k : Asks R (qMN r.stamp r.try_ r.what r.slots /\ r.pairs = [] /\ yI log r.stamp r.try_ = none) M) : HCalls Tryz.prog 269 #[.agg (cRec r v1 v2).toArray, .pointer (some ⟨jk, 0, none⟩)] M R := by
 refine qD lite (args := [.agg (cRec r v1 v2).toArray, .pointer (some ⟨jk, 0, none⟩)]) Tryz.func269 ?_
 conv => arg 2; cbv
 rw [qR]
 have zr := vV
 have one := vX sr
 have bs := hb.s
 have bp := hb.p
 unfold lim at bs bp
 simp only [wK, seval, wRec, zr]
 refine qC (o := blk (cRec r v1 v2) 280) fun j2 h2 => ?_
 obtain ⟨A, hA⟩ : ∃ A, A = (j2, blk (cRec r v1 v2) 280) :: M := ⟨_, rfl⟩
 have sA : Tk.Sub M A := by rw [hA]; exact Sub.cons h2 (Sub.refl _)
 have gA : hget A j2 = some (blk (cRec r v1 v2) 280) := by rw [hA]; exact qJ _ _ _
 have r2 : qT A j2 0 6 = some (cRec r v1 v2) := zH gA rfl
 rw [<- hA]
 simp only [wK, seval, wRec, zr, r2]
 refine qC (o := blk (cRec zRec (.slice none 0 0) (.slice none 0 0)) 137) fun j5 h5 => ?_
 simp only [wK, seval, wRec, one]
 obtain ⟨B, hB⟩ : ∃ B, B = (j5, blk (cRec r v1 v2) 137) :: A := ⟨_, rfl⟩
 have sAB : Tk.Sub A B := by rw [hB]; exact Sub.cons h5 (Sub.refl _)
 have gB : hget B j5 = some (blk (cRec r v1 v2) 137) := by rw [hB]; exact qJ _ _ _
 have sB : Tk.Sub M B := sA.trans sAB
 have r5 : qT B j5 0 6 = some (cRec r v1 v2) := zH gB rfl
 have wB := w.up sB
 have ck0 : hcel B jk 0 = some (.map (some ks.rp)) := qE wB.q.get rfl
 obtain ⟨es, c, gp, mp⟩ := wB.q.gp
 obtain ⟨i0, hi0, hz0⟩ := qWU
 obtain ⟨d, x, y, b, hV, hbb, sd, hd⟩ := w.look r.stamp r.try_
 have oned := vX sd
 have shh := Sub.refl B
 rw [<- hB]
 refine zC B (Sub.refl _) ?_
 simp only [wK, seval, ck0, r5, qFB]
 refine uN (eTwo (r.stamp, r.try_)) (fun R k => jT k) ?_
 simp only [wK, seval, qFB]
 refine qCU (.tuple #[.agg (cRec d x y).toArray, .bool b]) (fun K X q => ?_) ?_
 ·simp only [wK, seval]
  exact qAZ keyA qDL hi0 hz0 (k := (r.stamp, r.try_)) (by simp only [wK, seval]) (by simp only [wK, seval]) gp mp hV hbb q
 simp only [wK, seval, shh, zr]
 refine qC (o := blk (cRec zRec (.slice none 0 0) (.slice none 0 0)) 137) fun j6 h6 => ?_
 have s6 : Tk.Sub B ((j6, blk (cRec zRec (.slice none 0 0) (.slice none 0 0)) 137) :: B) := Sub.cons h6 (Sub.refl _)
 simp only [wK, seval, wRec, oned, s6]
 obtain ⟨C, hC⟩ : ∃ C, C = (j6, blk (cRec d x y) 137) :: B := ⟨_, rfl⟩
 have sBC : Tk.Sub B C := by rw [hC]; exact Sub.cons h6 (Sub.refl _)
 have sC : Tk.Sub M C := sB.trans sBC
 have gC := sBC _ _ gB
 have d1 : hcel C j5 1 = some (.int .i64 r.stamp) := qE gC rfl
 have d2 : hcel C j5 2 = some (.int .i64 r.try_) := qE gC rfl
 have d3 : hcel C j5 3 = some (.int .i64 r.what) := qE gC rfl
 have d4 : hcel C j5 4 = some v1 := qE gC rfl
 have d5 : hcel C j5 5 = some v2 := qE gC rfl
 try rw [<- hC]
 rcases hd with ⟨rfl, hp⟩ | ⟨rfl, hp⟩
 ·simp only [wK, seval, Bool.not_true]
  exact k.dno sC fun q => by rw [q.2.2] at hp; cases hp
 have vw1 := vc1 (rdS.one sr.1)
 simp only [wK, seval, Bool.not_false, d1, d2, d3, d4, vw1]
 refine qRX (d := ⟨r.stamp, r.try_, r.what, r.slots⟩) (v := v1) (rLs.sub sC sr.1) (by show r.slots.length <= _; omega) fun q1 k1 => ?_
 cases q1 with
 | false => simp only [wK, seval]; exact k.dno sC fun q => zA k1 rfl q.1
 | true =>
 have lp := rLs.sub sC sr.2
 simp only [wK, seval, d5, lp.len]
 by_cases e0 : (r.pairs.length : Int) = 0
 ·simp only [wK, seval, e0, decide_true]
  exact k.dyes sC ⟨k1.1 rfl, List.eq_nil_of_length_eq_zero (by omega), hp⟩
 ·simp only [wK, seval, e0, decide_false]
  exact k.dno sC fun q => e0 (by rw [q.2.1]; rfl)
theorem qMM {h M : H} {jk : Nat} {id : Int} {log : List DRec} {ks : KS} {r : DRec} {v1 v2 : Value} (w : KW h M jk id log ks) (sr : sRec M r v1 v2) (hb : bRec r) {R : Ending -> H -> Prop}
  (k : Asks R (r.what = 0 /\ r.slots = [] /\ xH r.pairs /\ vS log r.stamp r.try_ = false /\ ∃ p, yI log r.stamp r.try_ = some p /\ r.pairs.all (yW p.slots) = true) M) : HCalls Tryz.prog 275 #[.pointer (some ⟨jk, 0, none⟩), .agg (cRec r v1 v2).toArray] M R := by
 refine qD lite (args := [.pointer (some ⟨jk, 0, none⟩), .agg (cRec r v1 v2).toArray]) Tryz.func275 ?_
 conv => arg 2; cbv
 rw [qR]
 have zr := vV
 have one := vX sr
 have bs := hb.s
 have bp := hb.p
 unfold lim at bs bp
 simp only [wK, seval, wRec, zr]
 refine qC (o := blk (cRec r v1 v2) 137) fun j3 h3 => ?_
 obtain ⟨B, hB⟩ : ∃ B, B = (j3, blk (cRec r v1 v2) 137) :: M := ⟨_, rfl⟩
 have sB : Tk.Sub M B := by rw [hB]; exact Sub.cons h3 (Sub.refl _)
 have gB : hget B j3 = some (blk (cRec r v1 v2) 137) := by rw [hB]; exact qJ _ _ _
 have r3 : qT B j3 0 6 = some (cRec r v1 v2) := zH gB rfl
 have wB := w.up sB
 have ck0 : hcel B jk 0 = some (.map (some ks.rp)) := qE wB.q.get rfl
 obtain ⟨es, c, gp, mp⟩ := wB.q.gp
 obtain ⟨i0, hi0, hz0⟩ := qWU
 obtain ⟨i1, hi1, hz1⟩ := zEndI
 obtain ⟨d, x, y, b, hV, hbb, sd, hd⟩ := w.look r.stamp r.try_
 obtain ⟨n, eb, hN, hnb, hen, _⟩ := w.ends r.stamp r.try_
 have oned := vX sd
 have shh := Sub.refl B
 rw [<- hB]
 try simp only [wK, seval, wRec, zr]
 refine zC B (Sub.refl _) ?_
 simp only [wK, seval, ck0, r3, qFB]
 refine uN (eTwo (r.stamp, r.try_)) (fun R k => jT k) ?_
 simp only [wK, seval, qFB]
 refine qCU (.tuple #[.agg (cRec d x y).toArray, .bool b]) (fun K X q => ?_) ?_
 ·simp only [wK, seval]
  exact qAZ keyA qDL hi0 hz0 (k := (r.stamp, r.try_)) (by simp only [wK, seval]) (by simp only [wK, seval]) gp mp hV hbb q
 simp only [wK, seval, shh, zr]
 refine qC (o := blk (cRec zRec (.slice none 0 0) (.slice none 0 0)) 137) fun j5 h5 => ?_
 have s5 : Tk.Sub B ((j5, blk (cRec zRec (.slice none 0 0) (.slice none 0 0)) 137) :: B) := Sub.cons h5 (Sub.refl _)
 simp only [wK, seval, wRec, oned, s5]
 obtain ⟨C, hC⟩ : ∃ C, C = (j5, blk (cRec d x y) 137) :: B := ⟨_, rfl⟩
 have sBC : Tk.Sub B C := by rw [hC]; exact Sub.cons h5 (Sub.refl _)
 have sC : Tk.Sub M C := sB.trans sBC
 have gC := sBC _ _ gB
 have gC5 : hget C j5 = some (blk (cRec d x y) 137) := by rw [hC]; exact qJ _ _ _
 have r3C : qT C j3 0 6 = some (cRec r v1 v2) := zH gC rfl
 have d3 : hcel C j3 3 = some (.int .i64 r.what) := qE gC rfl
 have d4 : hcel C j3 4 = some v1 := qE gC rfl
 have d5 : hcel C j3 5 = some v2 := qE gC rfl
 have e4 : hcel C j5 4 = some x := qE gC5 rfl
 have wC := w.up sC
 have ck1 : hcel C jk 1 = some (.map (some ks.re)) := qE wC.q.get rfl
 obtain ⟨es2, c2, ge, me⟩ := wC.q.ge
 have shC := Sub.refl C
 try rw [<- hC]
 refine zC C (Sub.refl _) ?_
 simp only [wK, seval, ck1, r3C, shC]
 refine jT ?_
 simp only [wK, seval, shC]
 refine qAZ keyA qGY hi1 hz1 (k := (r.stamp, r.try_)) (by simp only [wK, seval]) (by simp only [wK, seval]) ge me hN hnb ?_
 simp only [wK, seval, shC]
 have l4 := rLs.sub sC sr.1
 rcases hd with ⟨rfl, hp⟩ | ⟨rfl, hp⟩
 ·have hdin := qFF w.lg hp
  cases eb with
  | true =>
   simp only [wK, seval, Bool.not_true]
   exact k.dno sC fun q => by rw [q.2.2.2.1] at hen; cases hen
  | false =>
  simp only [wK, seval, Bool.not_false, d3]
  by_cases e3 : r.what = 0
  ·simp only [wK, seval, e3, decide_true, d4, l4.len]
   by_cases e5 : (r.slots.length : Int) = 0
   ·simp only [wK, seval, e5, decide_true, d5]
    refine jB (rLs.sub sC sr.2) (by omega) fun q1 k1 => ?_
    cases q1 with
    | false => simp only [wK, seval]; exact k.dno sC fun q => zA k1 rfl q.2.2.1
    | true =>
    simp only [wK, seval, d5, e4]
    have hsl : d.slots.length <= 8 := zAD hdin.2.2.2.2.1
    refine qCW (rLs.sub sC sr.2) (rLs.sub (w.q.sub.trans sC) sd.1) (by omega) (by omega) fun M' b' S' s' d' f' => ?_
    have l6 := d'.rd
    have hall : ((r.pairs.filter fun p => !yW d.slots p).length : Int) = 0 ↔ r.pairs.all (yW d.slots) = true := by
     rw [List.all_eq_true]
     constructor
     ·intro e p hp
      have : (r.pairs.filter fun p => !yW d.slots p) = [] := List.eq_nil_of_length_eq_zero (by omega)
      rw [List.filter_eq_nil_iff] at this
      simpa using this p hp
     ·intro e
      have : (r.pairs.filter fun p => !yW d.slots p) = [] := by
       rw [List.filter_eq_nil_iff]
       intro p hp
       simp [e p hp]
      rw [this]; rfl
    have sM' : Tk.Sub M M' := sC.trans s'
    simp only [wK, seval, l6.len]
    by_cases e6 : ((r.pairs.filter fun p => !yW d.slots p).length : Int) = 0
    ·simp only [wK, seval, e6, decide_true]
     exact k.dyes sM' ⟨e3, List.eq_nil_of_length_eq_zero (by omega), k1.1 rfl, hen.symm, d, hp, hall.1 e6⟩
    ·simp only [wK, seval, e6, decide_false]
     exact k.dno sM' fun q => e6 (hall.2 (by
      obtain ⟨p, hp2, ha⟩ := q.2.2.2.2
      rw [hp] at hp2; cases hp2
      exact ha))
   ·simp only [wK, seval, e5, decide_false]
    exact k.dno sC fun q => e5 (by rw [q.2.1]; rfl)
  ·simp only [wK, seval, e3, decide_false]
   exact k.dno sC fun q => e3 q.1
 ·simp only [wK, seval]
  exact k.dno sC fun q => by
   obtain ⟨p, hp2, _⟩ := q.2.2.2.2
   rw [hp] at hp2; cases hp2
theorem qVZ {h M : H} {jk : Nat} {id : Int} {log : List DRec} {ks : KS} {r : DRec} {v1 v2 : Value} (w : KW h M jk id log ks) (sr : sRec M r v1 v2) (hb : bRec r) {R : Ending -> H -> Prop}
  (k : Asks R (r.what = 0 /\ r.slots = [] /\ xH r.pairs /\ vS log r.stamp r.try_ = false /\ ∃ p, yI log r.stamp r.try_ = some p /\ r.pairs.all (yW p.slots) = true) M) : HCalls Tryz.prog 272 #[.agg (cRec r v1 v2).toArray, .pointer (some ⟨jk, 0, none⟩)] M R := by
 refine qD lite (args := [.agg (cRec r v1 v2).toArray, .pointer (some ⟨jk, 0, none⟩)]) Tryz.func272 ?_
 conv => arg 2; cbv
 simp only [wK, seval, wRec]
 refine qC (o := blk (cRec r v1 v2) 281) fun j2 h2 => ?_
 obtain ⟨A, hA⟩ : ∃ A, A = (j2, blk (cRec r v1 v2) 281) :: M := ⟨_, rfl⟩
 have sA : Tk.Sub M A := by rw [hA]; exact Sub.cons h2 (Sub.refl _)
 have r2 : qT A j2 0 6 = some (cRec r v1 v2) := zH (by rw [hA]; exact qJ _ _ _) rfl
 rw [<- hA]
 simp only [wK, seval, wRec, r2]
 refine qMM (w.up sA) (sRec.sub sA sr) hb fun q1 k1 => ?_
 simp only [wK, seval]
 exact ⟨M, sA, k q1 k1⟩
theorem qMZ {h M : H} {jk : Nat} {id : Int} {log : List DRec} {ks : KS} {r : DRec} {v1 v2 : Value} (w : KW h M jk id log ks) (sr : sRec M r v1 v2) (hb : bRec r) {R : Ending -> H -> Prop}
  (k : Asks R ((r.what = 0 /\ r.slots = [] /\ xH r.pairs /\ vS log r.stamp r.try_ = false /\ ∃ p, yI log r.stamp r.try_ = some p /\ r.pairs.all (yW p.slots) = true) /\ r.pairs = []) M) : HCalls Tryz.prog 282 #[.agg (cRec r v1 v2).toArray, .pointer (some ⟨jk, 0, none⟩)] M R := by
 refine qD lite (args := [.agg (cRec r v1 v2).toArray, .pointer (some ⟨jk, 0, none⟩)]) Tryz.func282 ?_
 conv => arg 2; cbv
 simp only [wK, seval, wRec]
 refine qC (o := blk (cRec r v1 v2) 282) fun j2 h2 => ?_
 obtain ⟨A, hA⟩ : ∃ A, A = (j2, blk (cRec r v1 v2) 282) :: M := ⟨_, rfl⟩
 have sA : Tk.Sub M A := by rw [hA]; exact Sub.cons h2 (Sub.refl _)
 have gA : hget A j2 = some (blk (cRec r v1 v2) 282) := by rw [hA]; exact qJ _ _ _
 have r2 : qT A j2 0 6 = some (cRec r v1 v2) := zH gA rfl
 have c5 : hcel A j2 5 = some v2 := qE gA rfl
 have l5 := rLs.sub sA sr.2
 rw [<- hA]
 simp only [wK, seval, wRec, r2]
 refine qMM (w.up sA) (sRec.sub sA sr) hb fun q1 k1 => ?_
 cases q1 with
 | false => simp only [wK, seval]; exact k.dno sA fun q => zA k1 rfl q.1
 | true =>
 simp only [wK, seval, c5, l5.len]
 by_cases e5 : (r.pairs.length : Int) = 0
 ·simp only [wK, seval, e5, decide_true]
  exact k.dyes sA ⟨k1.1 rfl, List.eq_nil_of_length_eq_zero (by omega)⟩
 ·simp only [wK, seval, e5, decide_false]
  exact k.dno sA fun q => e5 (by rw [q.2]; rfl)
end Go.Proofs.YtjioiemhgbkbfaaGreatDoor
end

section
namespace Go.Tk
open Go
theorem qXD (l m : List (Int × Int)) : (jK l m).length <= 32 := by rw [<- qNS]; exact zFO l m
theorem qIM {log : List DRec} {r : DRec} (h : logP log) (f : vP log r) (hl : log.length < 400) : logP (log ++ [r]) := logP.snoc.2 ⟨hl, h, f⟩
end Go.Tk
namespace Go.Proofs.YtjioiemhgbkbfaaGreatDoor
open Go Go.Tk
theorem qZU : Tryz.prog.underlying 207 = some (.slice 212) := by kernel_rfl
theorem zHA : vB Tryz.prog 212 2 16 := vY (by kernel_rfl)
theorem qQB {h M : H} {jk : Nat} {id : Int} {log : List DRec} {ks : KS} {r : DRec} {v1 v2 : Value} (w : KW h M jk id log ks) (sr : sRec h r v1 v2) (hk : r.kind = 1) (hf : vP log r) (hl : log.length < 400) {R : Ending -> H -> Prop}
  (k : ∀ M' ks', KW h M' jk id (log ++ [r]) ks' -> R (.returned (.tuple #[])) M') : HCalls Tryz.prog 268 #[.agg (cRec r v1 v2).toArray, .pointer (some ⟨jk, 0, none⟩)] M R := by
 refine qD lite (args := [.agg (cRec r v1 v2).toArray, .pointer (some ⟨jk, 0, none⟩)]) Tryz.func268 ?_
 conv => arg 2; cbv
 rw [qR]
 have hlog := qIM w.lg hf hl
 have hks : wG id (log ++ [r]) = wG id log := qIX hlog (by omega)
 have hol := qUK log
 have hor : wS (log ++ [r]) = wS log ++ [(r.stamp, r.try_)] := by rw [qBB, if_pos hk]; rfl
 simp only [wK, seval, wRec]
 refine qC (o := blk (cRec r v1 v2) 280) fun j2 h2 => ?_
 obtain ⟨A, hA⟩ : ∃ A, A = (j2, blk (cRec r v1 v2) 280) :: M := ⟨_, rfl⟩
 have sA : Tk.Sub M A := by rw [hA]; exact Sub.cons h2 (Sub.refl _)
 have gA : hget A j2 = some (blk (cRec r v1 v2) 280) := by rw [hA]; exact qJ _ _ _
 have r2 : qT A j2 0 6 = some (cRec r v1 v2) := zH gA rfl
 have wA := w.up sA
 have ck0 : hcel A jk 0 = some (.map (some ks.rp)) := qE wA.q.get rfl
 obtain ⟨es, c, gp, mp⟩ := wA.q.gp
 have shh := Sub.refl A
 rw [<- hA]
 try simp only [wK, seval, wRec]
 refine zC A (Sub.refl _) ?_
 simp only [wK, seval, ck0, r2]
 refine jT ?_
 simp only [wK, seval, shh]
 refine qAD keyA qDL (k := (r.stamp, r.try_)) (v := .agg (cRec r v1 v2).toArray) (by simp only [wK, seval]) (by simp only [wK, seval]) (by simp only [wK, seval]) gp mp fun es' c' mp' => ?_
 obtain ⟨N, hN⟩ : ∃ N, N = hupd A ks.rp (.map es' c') := ⟨_, rfl⟩
 have fN : ∀ y, y ≠ ks.rp -> hget N y = hget A y := fun y q => by rw [hN, qU q]
 have gN : hget N ks.rp = some (.map es' c') := by rw [hN]; exact zK gp
 have qN := wA.q.putP gN fN mp'
 have n2p : j2 ≠ ks.rp := fun e => by rw [e, gp] at gA; cases gA
 have gN2 : hget N j2 = some (blk (cRec r v1 v2) 280) := by rw [fN _ n2p]; exact gA
 have r2N : qT N j2 0 6 = some (cRec r v1 v2) := zH gN2 rfl
 rw [<- hN]
 simp only [wK, seval]
 have sk := qHB qN.get
 have ck2 : hcel [(jk, blk (wP ks.rp ks.re ks.ov ks.vv (uP (wG id log).1)) 210)] jk 2 = some ks.ov := qE (qJ _ _ _) rfl
 refine zC _ sk ?_
 simp only [wK, seval, ck2, r2N, sk]
 refine jT ?_
 simp only [wK, seval, sk, eTwo]
 refine qC (o := blk (fl eP [(r.stamp, r.try_)]) 212) fun j7 h7 => ?_
 obtain ⟨B, hB⟩ : ∃ B, B = (j7, blk (fl eP [(r.stamp, r.try_)]) 212) :: N := ⟨_, rfl⟩
 have sB : Tk.Sub N B := by rw [hB]; exact Sub.cons h7 (Sub.refl _)
 have r7 : rLs B eP 2 (.slice (some ⟨j7, 0, none⟩) 1 1) [(r.stamp, r.try_)] := by rw [hB]; exact (xU (e := 212) (j := j7) (l := [(r.stamp, r.try_)]) xA).rd.sub (Sub.cons2 (Sub.nil _))
 have skB := sk.trans sB
 have eB : (j7, blk [.int .i64 r.stamp, .int .i64 r.try_] 212) :: N = B := hB.symm
 have qB := qN.up sB
 first | rw [<- hB] | rw [eB]
 simp only [wK, seval, skB]
 refine qFT xA qON qZU zHA qB.od r7 (by rw [List.length_singleton]; omega) (by rw [List.length_singleton]; omega) fun M5 w5 S5 d5 k5 f5 => ?_
 have gk5 : hget M5 jk = some (blk (wP ks.rp ks.re ks.ov ks.vv (uP (wG id log).1)) 210) := by
  rw [k5 jk (by rw [qB.get]; simp) (fun q => (qB.fo jk q).2.1 rfl)]; exact qB.get
 have sk5 := qHB gk5
 obtain ⟨Z, wZ, gZ, fZ⟩ := qBO (vs := [w5]) (o := 2) gk5 (by rw [uH (yL _)]; show 2 + 1 <= 12; omega) (zIN w5)
 have on5 := d5.one
 have vc5 := vc1 on5
 simp only [wK, seval, sk5, on5, vc5, wZ]
 have qZ := qB.app d5 k5 f5 gZ fZ
 refine .of (k Z { ks with pm := mput ks.pm (r.stamp, r.try_) (.agg (cRec r v1 v2).toArray), ov := w5, So := S5 } ⟨?_, qUI w.pr hk (hf.2.1 hk) sr, qVX w.en hk, hlog, by rw [hks]; exact w.vs⟩)
 rw [hks, hor]
 exact qZ
theorem qKB {h M : H} {jk : Nat} {id : Int} {log : List DRec} {ks : KS} {r : DRec} {v1 v2 : Value} (w : KW h M jk id log ks) (hk : r.kind = 3) (hf : vP log r) (hl : log.length < 400) {R : Ending -> H -> Prop}
  (k : ∀ M' ks', KW h M' jk id (log ++ [r]) ks' -> R (.returned (.tuple #[])) M') : HCalls Tryz.prog 281 #[.agg (cRec r v1 v2).toArray, .pointer (some ⟨jk, 0, none⟩)] M R := by
 refine qD lite (args := [.agg (cRec r v1 v2).toArray, .pointer (some ⟨jk, 0, none⟩)]) Tryz.func281 ?_
 conv => arg 2; cbv
 rw [qR]
 have hlog := qIM w.lg hf hl
 have hks : wG id (log ++ [r]) = wG id log := qIX hlog (by omega)
 have hor : wS (log ++ [r]) = wS log := by rw [qBB, if_neg (by omega), List.append_nil]
 simp only [wK, seval, wRec]
 refine qC (o := blk (cRec r v1 v2) 282) fun j2 h2 => ?_
 obtain ⟨A, hA⟩ : ∃ A, A = (j2, blk (cRec r v1 v2) 282) :: M := ⟨_, rfl⟩
 have sA : Tk.Sub M A := by rw [hA]; exact Sub.cons h2 (Sub.refl _)
 have gA : hget A j2 = some (blk (cRec r v1 v2) 282) := by rw [hA]; exact qJ _ _ _
 have r2 : qT A j2 0 6 = some (cRec r v1 v2) := zH gA rfl
 have wA := w.up sA
 have ck1 : hcel A jk 1 = some (.map (some ks.re)) := qE wA.q.get rfl
 obtain ⟨es, c, ge, me⟩ := wA.q.ge
 have shh := Sub.refl A
 rw [<- hA]
 try simp only [wK, seval, wRec]
 refine zC A (Sub.refl _) ?_
 simp only [wK, seval, ck1, r2, shh]
 refine jT ?_
 simp only [wK, seval, shh]
 refine qAD keyA qGY (k := (r.stamp, r.try_)) (v := .int .i64 3) (by simp only [wK, seval]) (by simp only [wK, seval]) (by simp only [wK, seval]) ge me fun es' c' me' => ?_
 obtain ⟨N, hN⟩ : ∃ N, N = hupd A ks.re (.map es' c') := ⟨_, rfl⟩
 have fN : ∀ y, y ≠ ks.re -> hget N y = hget A y := fun y q => by rw [hN, qU q]
 have gN : hget N ks.re = some (.map es' c') := by rw [hN]; exact zK ge
 have qN := wA.q.putE gN fN me'
 rw [<- hN]
 simp only [wK, seval]
 refine .of (k N { ks with em := mput ks.em (r.stamp, r.try_) (.int .i64 3) } ⟨?_, qGE w.pr (by omega), ?_, hlog, by rw [hks]; exact w.vs⟩)
 ·rw [hks, hor]; exact qN
 ·have := qML w.en (r := r) (by omega) (hf.2.2 (by omega)).1
  rw [hk] at this
  exact this
end Go.Proofs.YtjioiemhgbkbfaaGreatDoor
end

section
namespace Go.Tk
open Go
theorem qKM {log : List DRec} {st : Kept × List (Int × Int)} {r d : DRec} (hk : r.kind = 2) (hp : yI log r.stamp r.try_ = some d) : vN log st r =
  if d.what = 2 then (setK st.1 (d.slots.headD 0) false, qFH st.2 (d.slots.headD 0)) else if d.what = 3 then (setK st.1 (d.slots.headD 0) true, jK (qFH st.2 (d.slots.headD 0)) r.pairs) else (st.1, jK st.2 r.pairs) := by
 unfold vN
 rw [if_neg (by omega), hp]
end Go.Tk
namespace Go.Proofs.YtjioiemhgbkbfaaGreatDoor
open Go Go.Tk
theorem qRW {h M : H} {jk : Nat} {id : Int} {log : List DRec} {ks : KS} {r : DRec} {v1 v2 : Value} (w : KW h M jk id log ks) (sr : sRec h r v1 v2) (hb : bRec r) (hk : r.kind = 2) (hf : vP log r) (hl : log.length < 400) {R : Ending -> H -> Prop}
  (k : ∀ M' ks', KW h M' jk id (log ++ [r]) ks' -> R (.returned (.tuple #[])) M') : HCalls Tryz.prog 271 #[.agg (cRec r v1 v2).toArray, .pointer (some ⟨jk, 0, none⟩)] M R := by
 refine yM (args := [.agg (cRec r v1 v2).toArray, .pointer (some ⟨jk, 0, none⟩)]) Tryz.func271 ir271 ?_
 have hlog := qIM w.lg hf hl
 have bp := hb.p
 unfold lim at bp
 obtain ⟨hne, d, hp, hall⟩ := hf.2.2 (by omega)
 have hks : wG id (log ++ [r]) = vN log (wG id log) r := qIW hlog
 rw [qKM hk hp] at hks
 have hor : wS (log ++ [r]) = wS log := by rw [qBB, if_neg (by omega), List.append_nil]
 have hdin := qFF w.lg hp
 have zr := vV
 obtain ⟨i0, hi0, hz0⟩ := qWU
 obtain ⟨d', x, y, b, hV, hbb, sd, hd⟩ := w.look r.stamp r.try_
 rcases hd with ⟨rfl, hp2⟩ | ⟨_, hp2⟩
 rotate_left
 ·rw [hp] at hp2; cases hp2
 rw [hp] at hp2
 obtain rfl := Option.some.inj hp2
 have oned := vX sd
 simp only [wK, seval, wRec]
 refine qC (o := blk (cRec r v1 v2) 281) fun j2 h2 => ?_
 obtain ⟨A, hA⟩ : ∃ A, A = (j2, blk (cRec r v1 v2) 281) :: M := ⟨_, rfl⟩
 have sA : Tk.Sub M A := by rw [hA]; exact Sub.cons h2 (Sub.refl _)
 have gA : hget A j2 = some (blk (cRec r v1 v2) 281) := by rw [hA]; exact qJ _ _ _
 have r2 : qT A j2 0 6 = some (cRec r v1 v2) := zH gA rfl
 have wA := w.up sA
 have ck0 : hcel A jk 0 = some (.map (some ks.rp)) := qE wA.q.get rfl
 obtain ⟨es, c, gp, mp⟩ := wA.q.gp
 have shh := Sub.refl A
 rw [<- hA]
 try simp only [wK, seval, wRec]
 refine zC A (Sub.refl _) ?_
 simp only [wK, seval, ck0, r2, qFB]
 refine uN (eTwo (r.stamp, r.try_)) (fun R k => jT k) ?_
 simp only [wK, seval, qFB]
 refine qCU (.agg (cRec d x y).toArray) (fun K X q => ?_) ?_
 ·simp only [wK, seval]
  exact uE keyA qDL hi0 hz0 (k := (r.stamp, r.try_)) (by simp only [wK, seval]) (by simp only [wK, seval]) gp mp hV q
 simp only [wK, seval, shh, zr]
 refine qC (o := blk (cRec zRec (.slice none 0 0) (.slice none 0 0)) 137) fun j4 h4 => ?_
 have s4 : Tk.Sub A ((j4, blk (cRec zRec (.slice none 0 0) (.slice none 0 0)) 137) :: A) := Sub.cons h4 (Sub.refl _)
 simp only [wK, seval, wRec, oned, s4]
 obtain ⟨B, hB⟩ : ∃ B, B = (j4, blk (cRec d x y) 137) :: A := ⟨_, rfl⟩
 have sAB : Tk.Sub A B := by rw [hB]; exact Sub.cons h4 (Sub.refl _)
 have gB4 : hget B j4 = some (blk (cRec d x y) 137) := by rw [hB]; exact qJ _ _ _
 have gB2 := sAB _ _ gA
 have r2B : qT B j2 0 6 = some (cRec r v1 v2) := zH gB2 rfl
 have wB := wA.up sAB
 have ck1 : hcel B jk 1 = some (.map (some ks.re)) := qE wB.q.get rfl
 obtain ⟨es2, c2, ge, me⟩ := wB.q.ge
 have shB := Sub.refl B
 try rw [<- hB]
 refine zC B (Sub.refl _) ?_
 simp only [wK, seval, ck1, r2B, shB]
 refine jT ?_
 simp only [wK, seval, shB]
 refine qAD keyA qGY (k := (r.stamp, r.try_)) (v := .int .i64 2) (by simp only [wK, seval]) (by simp only [wK, seval]) (by simp only [wK, seval]) ge me fun es' c' me' => ?_
 obtain ⟨N, hN⟩ : ∃ N, N = hupd B ks.re (.map es' c') := ⟨_, rfl⟩
 have fN : ∀ y, y ≠ ks.re -> hget N y = hget B y := fun y q => by rw [hN, qU q]
 have gN : hget N ks.re = some (.map es' c') := by rw [hN]; exact zK ge
 have qN := wB.q.putE gN fN me'
 have n4 : j4 ≠ ks.re := fun e => by rw [e, ge] at gB4; cases gB4
 have n2 : j2 ≠ ks.re := fun e => by rw [e, ge] at gB2; cases gB2
 have g4N : hget N j4 = some (blk (cRec d x y) 137) := (fN _ n4).trans gB4
 have g2N : hget N j2 = some (blk (cRec r v1 v2) 281) := (fN _ n2).trans gB2
 have c43 : hcel N j4 3 = some (.int .i64 d.what) := qE g4N rfl
 have rx : rInts N x d.slots := rLs.sub qN.sub sd.1
 have hen : endM (mput ks.em (r.stamp, r.try_) (.int .i64 2)) (log ++ [r]) := by
  have := qML w.en (r := r) (by omega) hne
  rw [hk] at this
  exact this
 have hpr := qGE w.pr (r := r) (by omega)
 have vs := w.vs
 have shN := Sub.refl N
 rw [<- hN]
 simp only [wK, seval, c43]
 by_cases w1 : d.what = 1
 ·rw [if_neg (by omega), if_neg (by omega)] at hks
  have c25 : hcel N j2 5 = some v2 := qE g2N rfl
  have ckv : hcel N jk 11 = some ks.vv := qE qN.get (qJP (yL _))
  simp only [wK, seval, w1, decide_true]
  refine zC N (Sub.refl _) ?_
  simp only [wK, seval, ckv, c25, shN]
  refine qIH qN.vl.rd (rLs.sub qN.sub sr.2) (by omega) (by omega) fun M' b S s' d' f' => ?_
  have ob := d'.one
  have vb := vc1 ob
  have gk := s' _ _ qN.get
  obtain ⟨Z, wZ, gZ, fZ⟩ := qBO (vs := [b]) (o := 11) gk (by rw [uH (yL _)]; show 11 + 1 <= 12; omega) (qJQ (yL _) b)
  simp only [wK, seval, s', ob, vb, wZ]
  have qZ := qN.val s' d' f' gZ fZ
  refine .of (k Z { ks with em := mput ks.em (r.stamp, r.try_) (.int .i64 2), vv := b, Sv := S } ⟨?_, hpr, hen, hlog, by rw [hks]; exact qXD _ _⟩)
  rw [hks, hor]
  rw [qNS] at qZ
  exact qZ
 ·simp only [wK, seval, w1, decide_false]
  by_cases w2 : d.what = 2
  ·rw [if_pos w2] at hks
   simp only [wK, seval, w2, decide_true]
   have hs1 : d.slots.length = 1 := by
    rcases hdin.2.2.2.2.2 with q | q
    ·omega
    ·exact q
   obtain ⟨s0, hs0⟩ : ∃ s0, d.slots = [s0] := by
    match hds : d.slots, hs1 with
    | [s0], _ => exact ⟨s0, rfl⟩
   have hin0 : 0 <= s0 /\ s0 <= 7 := hdin.2.2.2.2.1.1 s0 (by rw [hs0]; simp)
   obtain ⟨nn, hnn⟩ : ∃ nn : Nat, s0 = (nn : Int) := ⟨s0.toNat, by omega⟩
   have etn : s0.toNat = nn := by omega
   obtain ⟨bx, ox, hx, ex⟩ := yT (i := 0) (enc := eI) (sz := 1) yJ rx (by rw [hs0]; simp)
   have fx : hcel N bx ox = some (.int .i64 s0) := by
    have := zJ ex 0 rfl
    simpa [hs0] using this
   have hx0 : ∀ (kd : IntKind) (f : Value -> Prop), vH x (.int kd 0) 1 f = f (.pointer (some ⟨bx, ox, none⟩)) := hx
   have c44 : hcel N j4 4 = some x := qE g4N rfl
   refine zC N (Sub.refl _) ?_
   simp only [wK, seval, c44, hx0, fx, shN]
   refine ⟨⟨by omega, by omega⟩, ?_⟩
   obtain ⟨Z, wZ, gZ, fZ⟩ := qBO (vs := [.bool false]) (o := 3 + nn) qN.get (by rw [uH (yL _)]; show 3 + nn + 1 <= 12; omega) (qJR (yL _) (by omega) false)
   simp (disch := omega) only [wK, seval, etn, Nat.mul_one, wZ, shN]
   have hset : (uP (wG id log).1).set nn false = uP (setK (wG id log).1 s0 false) := by rw [<- etn]; exact qLZ _ hin0 false
   rw [hset] at gZ
   have qZ := qN.kept (yL _) gZ fZ
   have jk4 : j4 ≠ jk := fun e => by rw [e, qN.get] at g4N; exact absurd (qOV (Option.some.inj g4N)) (by decide)
   have jk2 : j2 ≠ jk := fun e => by rw [e, qN.get] at g2N; exact absurd (qOV (Option.some.inj g2N)) (by decide)
   have c44Z : hcel Z j4 4 = some x := qE ((fZ _ jk4).trans g4N) rfl
   have c25Z : hcel Z j2 5 = some v2 := qE ((fZ _ jk2).trans g2N) rfl
   have ckvZ : hcel Z jk 11 = some ks.vv := qE qZ.get (qJP (yL _))
   have rxZ : rInts Z x [s0] := by rw [<- hs0]; exact rLs.sub qZ.sub sd.1
   have rpZ : rPairs Z v2 r.pairs := rLs.sub qZ.sub sr.2
   have shZ := Sub.refl Z
   refine zC Z (Sub.refl _) ?_
   simp only [wK, seval, ckvZ, c44Z, shZ]
   refine qCW qZ.vl.rd rxZ (by simp) (by omega) fun M' b S s' d' f' => ?_
   have ob := d'.one
   have vb := vc1 ob
   have gk := s' _ _ qZ.get
   obtain ⟨Y, wY, gY, fY⟩ := qBO (vs := [b]) (o := 11) gk (by rw [uH (yL _)]; show 11 + 1 <= 12; omega) (qJQ (yL _) b)
   simp only [wK, seval, s', ob, vb, wY]
   have qY := qZ.val s' d' f' gY fY
   have hh : d.slots.headD 0 = s0 := by rw [hs0]; rfl
   rw [hh] at hks
   refine .of (k Y { ks with em := mput ks.em (r.stamp, r.try_) (.int .i64 2), vv := b, Sv := S } ⟨?_, hpr, hen, hlog, by rw [hks]; exact Nat.le_trans (List.length_filter_le _ _) vs⟩)
   rw [hks, hor]
   rw [qQH] at qY
   exact qY
  ·have w3 : d.what = 3 := by have := hdin.2.2.1; unfold inP at this; omega
   rw [if_neg w2, if_pos w3] at hks
   simp only [wK, seval, w3, decide_true, decide_false, Int.reduceEq]
   have hs1 : d.slots.length = 1 := by
    rcases hdin.2.2.2.2.2 with q | q
    ·omega
    ·exact q
   obtain ⟨s0, hs0⟩ : ∃ s0, d.slots = [s0] := by
    match hds : d.slots, hs1 with
    | [s0], _ => exact ⟨s0, rfl⟩
   have hin0 : 0 <= s0 /\ s0 <= 7 := hdin.2.2.2.2.1.1 s0 (by rw [hs0]; simp)
   obtain ⟨nn, hnn⟩ : ∃ nn : Nat, s0 = (nn : Int) := ⟨s0.toNat, by omega⟩
   have etn : s0.toNat = nn := by omega
   obtain ⟨bx, ox, hx, ex⟩ := yT (i := 0) (enc := eI) (sz := 1) yJ rx (by rw [hs0]; simp)
   have fx : hcel N bx ox = some (.int .i64 s0) := by
    have := zJ ex 0 rfl
    simpa [hs0] using this
   have hx0 : ∀ (kd : IntKind) (f : Value -> Prop), vH x (.int kd 0) 1 f = f (.pointer (some ⟨bx, ox, none⟩)) := hx
   have c44 : hcel N j4 4 = some x := qE g4N rfl
   refine zC N (Sub.refl _) ?_
   simp only [wK, seval, c44, hx0, fx, shN]
   refine ⟨⟨by omega, by omega⟩, ?_⟩
   obtain ⟨Z, wZ, gZ, fZ⟩ := qBO (vs := [.bool true]) (o := 3 + nn) qN.get (by rw [uH (yL _)]; show 3 + nn + 1 <= 12; omega) (qJR (yL _) (by omega) true)
   simp (disch := omega) only [wK, seval, etn, Nat.mul_one, wZ, shN]
   have hset : (uP (wG id log).1).set nn true = uP (setK (wG id log).1 s0 true) := by rw [<- etn]; exact qLZ _ hin0 true
   rw [hset] at gZ
   have qZ := qN.kept (yL _) gZ fZ
   have jk4 : j4 ≠ jk := fun e => by rw [e, qN.get] at g4N; exact absurd (qOV (Option.some.inj g4N)) (by decide)
   have jk2 : j2 ≠ jk := fun e => by rw [e, qN.get] at g2N; exact absurd (qOV (Option.some.inj g2N)) (by decide)
   have c44Z : hcel Z j4 4 = some x := qE ((fZ _ jk4).trans g4N) rfl
   have c25Z : hcel Z j2 5 = some v2 := qE ((fZ _ jk2).trans g2N) rfl
   have ckvZ : hcel Z jk 11 = some ks.vv := qE qZ.get (qJP (yL _))
   have rxZ : rInts Z x [s0] := by rw [<- hs0]; exact rLs.sub qZ.sub sd.1
   have rpZ : rPairs Z v2 r.pairs := rLs.sub qZ.sub sr.2
   have shZ := Sub.refl Z
   refine zC Z (Sub.refl _) ?_
   simp only [wK, seval, ckvZ, c44Z, c25Z, shZ]
   refine qCW qZ.vl.rd rxZ (by simp) (by omega) fun M0 b0 S0 s0' d0 f0 => ?_
   simp only [wK, seval, s0']
   have hlf : ((wG id log).2.filter fun p => !yW [s0] p).length <= 32 := Nat.le_trans (List.length_filter_le _ _) vs
   refine qIH d0.rd (rLs.sub s0' rpZ) (by omega) (by omega) fun M' b S s' d' f' => ?_
   have ob := d'.one
   have vb := vc1 ob
   have sZ' := s0'.trans s'
   have gk := sZ' _ _ qZ.get
   obtain ⟨Y, wY, gY, fY⟩ := qBO (vs := [b]) (o := 11) gk (by rw [uH (yL _)]; show 11 + 1 <= 12; omega) (qJQ (yL _) b)
   simp only [wK, seval, sZ', ob, vb, wY]
   have qY := qZ.val sZ' d' (fun x q => s0'.none' (f' x q)) gY fY
   have hh : d.slots.headD 0 = s0 := by rw [hs0]; rfl
   rw [hh] at hks
   refine .of (k Y { ks with em := mput ks.em (r.stamp, r.try_) (.int .i64 2), vv := b, Sv := S } ⟨?_, hpr, hen, hlog, by rw [hks]; exact qXD _ _⟩)
   rw [hks, hor]
   rw [qQH, qNS] at qY
   exact qY
end Go.Proofs.YtjioiemhgbkbfaaGreatDoor
end

section
namespace Go.Tk
open Go
theorem zBR {log : List DRec} {r : DRec} (hk : r.kind = 1) : vP log r ↔ (qMN r.stamp r.try_ r.what r.slots /\ r.pairs = [] /\ yI log r.stamp r.try_ = none) := by
 unfold vP recP
 constructor
 ·rintro ⟨a, b, _⟩
  rcases a with a | a
  ·exact ⟨a.2.1, a.2.2, b hk⟩
  ·exact absurd hk a.1
 ·rintro ⟨a, b, c⟩
  exact ⟨.inl ⟨hk, a, b⟩, fun _ => c, fun n => absurd hk n⟩
theorem qMI {log : List DRec} {r : DRec} (hl : logP log) (hk : r.kind = 2 ∨ r.kind = 3) : vP log r ↔ ((r.what = 0 /\ r.slots = [] /\ xH r.pairs /\ vS log r.stamp r.try_ = false /\ ∃ p, yI log r.stamp r.try_ = some p /\ r.pairs.all (yW p.slots) = true) /\ (r.kind = 3 -> r.pairs = [])) := by
 have hn : r.kind ≠ 1 := by omega
 unfold vP recP
 constructor
 ·rintro ⟨a, _, c⟩
  obtain ⟨c1, c2⟩ := c hn
  rcases a with a | a
  ·exact absurd a.1 hn
  ·refine ⟨⟨a.2.2.2.2.1, a.2.2.2.2.2.1, a.2.2.2.2.2.2, c1, c2⟩, fun h3 => ?_⟩
   rcases a.2.1 with q | q
   ·omega
   ·exact q.2
 ·rintro ⟨⟨a1, a2, a3, a4, p, hp, ha⟩, b⟩
  have hd := qFF hl hp
  obtain ⟨_, _, e1, e2⟩ := qIF hp
  rw [e1, e2] at hd
  refine ⟨.inr ⟨hn, ?_, hd.1, hd.2.1, a1, a2, a3⟩, fun c => absurd c hn, fun _ => ⟨a4, p, hp, ha⟩⟩
  rcases hk with q | q
  ·exact .inl q
  ·exact .inr ⟨q, b q⟩
theorem qJG {log : List DRec} {r : DRec} (h : vP log r) : r.kind = 1 ∨ r.kind = 2 ∨ r.kind = 3 := by
 rcases h.1 with a | a
 ·exact .inl a.1
 ·rcases a.2.1 with q | q
  ·exact .inr (.inl q)
  ·exact .inr (.inr q.1)
def qBF (id : Int) (i : Nat) : List Bool := (List.range 8).map fun (j : Nat) => decide (j < i) && qCR id (j : Int)
theorem jD (id : Int) (i : Nat) : (qBF id i).length = 8 := by simp [qBF]
theorem qUY (id : Int) : qBF id 0 = [false, false, false, false, false, false, false, false] := by simp [qBF, List.range, List.range.loop]
theorem qLY (id : Int) (i : Nat) {j : Nat} (h : j < 8) : (qBF id i)[j]? = some (decide (j < i) && qCR id (j : Int)) := by
 unfold qBF
 rw [List.getElem?_map, List.getElem?_range h]; rfl
theorem qUZ (id : Int) {i : Nat} (h : i < 8) : (qBF id i).set i (qCR id (i : Int)) = qBF id (i + 1) := by
 apply List.ext_getElem?
 intro j
 rcases Nat.lt_or_ge j 8 with h8 | h8
 ·rw [qLY _ _ h8]
  by_cases e : i = j
  ·subst e
   rw [List.getElem?_set_self (by rw [jD]; omega)]
   simp
  ·rw [List.getElem?_set_ne e, qLY _ _ h8]
   by_cases c : j < i
   ·simp [c, show j < i + 1 by omega]
   ·simp [c, show ¬ j < i + 1 by omega]
 ·rw [List.getElem?_eq_none (by rw [List.length_set, jD]; exact h8), List.getElem?_eq_none (by rw [jD]; exact h8)]
theorem qVA (id : Int) : qBF id 8 = uP (qCR id) := by
 unfold qBF uP
 refine List.map_congr_left fun j hj => ?_
 have := List.mem_range.1 hj
 simp [this]
end Go.Tk
namespace Go.Proofs.YtjioiemhgbkbfaaGreatDoor
open Go Go.Tk
def entV (r : DRec) (v1 v2 : Value) : Value := if r.kind = 1 then .iface 280 (.agg (cRec r v1 v2).toArray) else if r.kind = 2 then .iface 281 (.agg (cRec r v1 v2).toArray) else .iface 282 (.agg (cRec r v1 v2).toArray)
theorem zCA {h : H} {r : DRec} {v1 v2 : Value} {R : Ending -> H -> Prop} (k1 : (r.kind = 1 ∨ r.kind = 2 ∨ r.kind = 3) -> R (.returned (.tuple #[entV r v1 v2, .bool true])) h) (k2 : ¬ (r.kind = 1 ∨ r.kind = 2 ∨ r.kind = 3) -> R (.returned (.tuple #[.nilIface, .bool false])) h) :
  HCalls Tryz.prog 161 #[.agg (cRec r v1 v2).toArray] h R := by
 refine qD lite (args := [.agg (cRec r v1 v2).toArray]) Tryz.func161 ?_
 conv => arg 2; cbv
 rw [qR]
 have zr := vV
 unfold entV at k1
 simp only [wK, seval, wRec, zr]
 refine qC (o := blk (cRec r v1 v2) 137) fun j1 h1 => ?_
 obtain ⟨A, hA⟩ : ∃ A, A = (j1, blk (cRec r v1 v2) 137) :: h := ⟨_, rfl⟩
 have sA : Tk.Sub h A := by rw [hA]; exact Sub.cons h1 (Sub.refl _)
 have gA : hget A j1 = some (blk (cRec r v1 v2) 137) := by rw [hA]; exact qJ _ _ _
 have r1 : qT A j1 0 6 = some (cRec r v1 v2) := zH gA rfl
 have c0 : hcel A j1 0 = some (.int .i64 r.kind) := qE gA rfl
 rw [<- hA]
 try simp only [wK, seval, wRec, zr, c0]
 by_cases e1 : r.kind = 1
 ·have := k1 (.inl e1)
  rw [if_pos e1] at this
  simp only [wK, seval, e1, decide_true, r1, wRec, zr]
  exact ⟨h, sA, this⟩
 simp only [wK, seval, e1, decide_false]
 by_cases e2 : r.kind = 2
 ·have := k1 (.inr (.inl e2))
  rw [if_neg e1, if_pos e2] at this
  simp only [wK, seval, e2, decide_true, r1, wRec, zr]
  exact ⟨h, sA, this⟩
 simp only [wK, seval, e2, decide_false]
 by_cases e3 : r.kind = 3
 ·have := k1 (.inr (.inr e3))
  rw [if_neg e1, if_neg e2] at this
  simp only [wK, seval, e3, decide_true, r1, wRec, zr]
  exact ⟨h, sA, this⟩
 simp only [wK, seval, e3, decide_false]
 exact ⟨h, sA, k2 fun q => by omega⟩
theorem zHH {h M : H} {jk : Nat} {id : Int} {log : List DRec} {ks : KS} {r : DRec} {v1 v2 : Value} (w : KW h M jk id log ks) (sr : sRec M r v1 v2) (hb : bRec r) (hk : r.kind = 1 ∨ r.kind = 2 ∨ r.kind = 3) {R : Ending -> H -> Prop} (k : Asks R (vP log r) M) :
  invK Tryz.prog (entV r v1 v2) "loop.example/turnpike/impl.fits" [.pointer (some ⟨jk, 0, none⟩)] M R := by
 unfold entV
 by_cases e1 : r.kind = 1
 ·rw [if_pos e1]
  refine ⟨269, .agg (cRec r v1 v2).toArray, by kernel_rfl, by kernel_rfl, qUJ w sr hb fun b hb2 => k b (hb2.trans (zBR e1).symm)⟩
 ·rw [if_neg e1]
  by_cases e2 : r.kind = 2
  ·rw [if_pos e2]
   refine ⟨272, .agg (cRec r v1 v2).toArray, by kernel_rfl, by kernel_rfl, qVZ w sr hb fun b hb2 => k b (hb2.trans ?_)⟩
   rw [qMI w.lg (.inl e2)]
   exact ⟨fun q => ⟨q, fun c => by omega⟩, fun q => q.1⟩
  ·rw [if_neg e2]
   have e3 : r.kind = 3 := by omega
   refine ⟨282, .agg (cRec r v1 v2).toArray, by kernel_rfl, by kernel_rfl, qMZ w sr hb fun b hb2 => k b (hb2.trans ?_)⟩
   rw [qMI w.lg (.inr e3)]
   exact ⟨fun q => ⟨q.1, fun _ => q.2⟩, fun q => ⟨q.1, q.2 e3⟩⟩
theorem zCQ {h M : H} {jk : Nat} {id : Int} {log : List DRec} {ks : KS} {r : DRec} {v1 v2 : Value} (w : KW h M jk id log ks) (sr : sRec h r v1 v2) (hb : bRec r) (hf : vP log r) (hl : log.length < 400) {R : Ending -> H -> Prop} (k : ∀ M' ks', KW h M' jk id (log ++ [r]) ks' -> R (.returned (.tuple #[])) M') :
  invK Tryz.prog (entV r v1 v2) "loop.example/turnpike/impl.apply" [.pointer (some ⟨jk, 0, none⟩)] M R := by
 have hk := qJG hf
 unfold entV
 by_cases e1 : r.kind = 1
 ·rw [if_pos e1]
  exact ⟨268, .agg (cRec r v1 v2).toArray, by kernel_rfl, by kernel_rfl, qQB w sr e1 hf hl k⟩
 ·rw [if_neg e1]
  by_cases e2 : r.kind = 2
  ·rw [if_pos e2]
   exact ⟨271, .agg (cRec r v1 v2).toArray, by kernel_rfl, by kernel_rfl, qRW w sr hb e2 hf hl k⟩
  ·rw [if_neg e2]
   have e3 : r.kind = 3 := by omega
   exact ⟨281, .agg (cRec r v1 v2).toArray, by kernel_rfl, by kernel_rfl, qKB w e3 hf hl k⟩
end Go.Proofs.YtjioiemhgbkbfaaGreatDoor
end

section
namespace Go.Proofs.YtjioiemhgbkbfaaGreatDoor
open Go Go.Tk
theorem qRE {h : H} {v : Value} {id : Int} {log : List DRec} (r : rRs h (rRec h) 6 v log) (hb : ∀ x ∈ log, bRec x) (hl : log.length <= 1048576) {R : Ending -> H -> Prop}
  (k : ∀ M' jk ok, Tk.Sub h M' -> (ok = true ↔ logP log) -> (ok = true -> ∃ ks, KW h M' jk id log ks) -> R (.returned (.tuple #[.pointer (some ⟨jk, 0, none⟩), .bool ok])) M') :
  HCalls Tryz.prog 122 #[.int .i64 id, v] h R := by
 refine qD lite (args := [.int .i64 id, v]) Tryz.func122 ?_
 conv => arg 2; cbv
 rw [qR]
 have zr := vV
 simp only [wK, seval]
 refine qID fun rp hp => ?_
 simp only [wK, seval]
 refine qID fun re he => ?_
 have hre : hget h re = none /\ rp ≠ re := by
  rw [zM] at he
  split at he
  ·cases he
  ·rename_i c; exact ⟨he, fun e => c e.symm⟩
 simp only [wK, seval]
 refine qC (o := blk (wP rp re (.slice none 0 0) (.slice none 0 0) [false, false, false, false, false, false, false, false]) 210) fun jk hj => ?_
 have hjk : hget h jk = none /\ jk ≠ rp /\ jk ≠ re := by
  rw [zM] at hj
  split at hj
  ·cases hj
  ·rename_i c
   rw [zM] at hj
   split at hj
   ·cases hj
   ·rename_i c2; exact ⟨hj, c2, c⟩
 obtain ⟨A, hA⟩ : ∃ A, A = (jk, blk (wP rp re (.slice none 0 0) (.slice none 0 0) [false, false, false, false, false, false, false, false]) 210) :: (re, Obj.map #[] 0) :: (rp, Obj.map #[] 0) :: h := ⟨_, rfl⟩
 have sA : Tk.Sub h A := by rw [hA]; exact (Sub.cons hp (Sub.refl _)).trans ((Sub.cons he (Sub.refl _)).trans (Sub.cons hj (Sub.refl _)))
 have gA : hget A jk = some (blk (wP rp re (.slice none 0 0) (.slice none 0 0) [false, false, false, false, false, false, false, false]) 210) := by rw [hA]; exact qJ _ _ _
 have gre : hget A re = some (.map #[] 0) := by rw [hA, xL _ _ _ (Ne.symm hjk.2.2)]; exact qJ _ _ _
 have grp : hget A rp = some (.map #[] 0) := by rw [hA, xL _ _ _ (Ne.symm hjk.2.1), xL _ _ _ hre.2]; exact qJ _ _ _
 have qA : KQ h A jk ⟨rp, re, .slice none 0 0, .slice none 0 0, [], [], fun _ => False, fun _ => False⟩ [false, false, false, false, false, false, false, false] [] [] :=
  ⟨sA, rfl, gA, ⟨#[], 0, grp, rfl⟩, ⟨#[], 0, gre, rfl⟩, dL.nil, dL.nil, hjk.1, hp, hre.1, hjk.2.1, hjk.2.2, hre.2, fun _ q => q.elim, fun _ q => q.elim, fun _ q => q.elim⟩
 have eA : (jk, blk [.map (some rp), .map (some re), .slice none 0 0, .bool false, .bool false, .bool false, .bool false, .bool false, .bool false, .bool false, .bool false, .slice none 0 0] 210) :: (re, Obj.map #[] 0) :: (rp, Obj.map #[] 0) :: h = A := hA.symm
 first | rw [<- hA] | rw [eA]
 rw [<- qUY id] at qA
 simp only [wK, seval, r.len]
 refine qF (fun e => .of (k A jk false sA ⟨fun c => (by cases c), fun c => by have := c.1; omega⟩ fun c => by cases c)) fun e400 => ?_
 try simp only [wK, seval]
 refine qJA fun ow g o d => ?_
 obtain ⟨M, hM⟩ : ∃ M, M = g ++ A := ⟨_, rfl⟩
 have sM : Tk.Sub A M := by rw [hM]; exact Sub.right d
 have sgM : Tk.Sub g M := by rw [hM]; exact Sub.left _ _
 have ro : rInts M ow map0.owners := o.rd.sub sgM
 have gjk : hget g jk = none := Classical.byContradiction fun c => by have := d jk c; rw [gA] at this; cases this
 have l8 : map0.owners.length = 8 := by simp [map0]
 have own : ∀ (i : Nat) (hi : i < map0.owners.length), map0.owners[i] = (i : Int).tmod 3 := fun i hi => by simp [map0]
 have qM := qA.up sM
 rw [<- hM]
 simp only [wK, seval, wMap, ro.len, l8]
 refine qP [24] (fun n vs M' => ∃ i : Nat, vs = [.int .i64 i] /\ Tk.Sub g M' /\ KQ h M' jk ⟨rp, re, .slice none 0 0, .slice none 0 0, [], [], fun _ => False, fun _ => False⟩ (qBF id i) [] [] /\ i <= 8 /\ n = 8 - i) 8 rfl ⟨0, rfl, sgM, qM, by omega, rfl⟩ ?_
 rintro n f M1 ⟨i, hv, sg1, q1, hi, rfl⟩
 simp only [lm4] at hv
 simp only [wK, seval, wr, hv]
 refine qF (fun c => ?_) fun c => ?_
 ·have hi2 : i < map0.owners.length := by omega
  obtain ⟨bx, ox, hx, ex⟩ := yT (enc := eI) (sz := 1) yJ (o.rd.sub sg1) hi2
  rw [own i hi2] at ex
  have fx : hcel M1 bx ox = some (.int .i64 ((i : Int).tmod 3)) := zJ ex 0 rfl
  have hmo := qUZ id (i := i) (by omega)
  unfold qCR at hmo
  obtain ⟨bv, hbv⟩ : ∃ bv, bv = decide ((i : Int).tmod 3 = id) := ⟨_, rfl⟩
  rw [<- hbv] at hmo
  obtain ⟨Z, wZ, gZ, fZ⟩ := qBO (vs := [.bool bv]) (o := 3 + i) q1.get (by rw [uH (jD _ _)]; show 3 + i + 1 <= 12; omega) (qJR (jD _ _) (by omega) bv)
  rw [hmo] at gZ
  have qZ := q1.kept (jD _ _) gZ fZ
  have rZ : Tk.Sub g Z := fun y z e => by
   have n1 : y ≠ jk := fun c => by rw [c, gjk] at e; cases e
   rw [fZ y n1]; exact sg1 _ _ e
  simp only [wK, seval, hx, fx, <- hbv]
  refine ⟨⟨by omega, by omega⟩, ?_⟩
  simp (disch := omega) only [wK, seval, Int.toNat_natCast, Nat.mul_one, wZ, qK]
  exact ⟨8 - (i + 1), by omega, Z, .refl _, i + 1, by simp, rZ, qZ, by omega, rfl⟩
 have hi8 : i = 8 := by omega
 rw [hi8, qVA] at q1
 have w0 : KW h M1 jk id [] ⟨rp, re, .slice none 0 0, .slice none 0 0, [], [], fun _ => False, fun _ => False⟩ := ⟨q1, zAN h, zIA, logP.nil, by simp [wG, qIY]⟩
 simp only [wK, seval, r.len]
 refine qP [40] (fun n vs M' => ∃ (i : Nat) (ks : KS), vs = [.int .i64 i] /\ KW h M' jk id (log.take i) ks /\ i <= log.length /\ n = log.length - i) log.length rfl ⟨0, _, rfl, by simpa using w0, by omega, rfl⟩ ?_
 rintro n f2 M2 ⟨i2, ks, hv2, w2, hi2, rfl⟩
 simp only [lm4] at hv2
 simp only [wK, seval, wr, hv2]
 refine qF (fun c => ?_) fun c => ?_
 ·have hi3 : i2 < log.length := by omega
  obtain ⟨b1, o1, cs, hx, e1, va, vb, rfl, sr⟩ := zX r hi3
  obtain ⟨x, hxx⟩ : ∃ x, x = log[i2] := ⟨_, rfl⟩
  have bx : bRec x := hxx ▸ hb _ (List.getElem_mem hi3)
  have htk : log.take (i2 + 1) = log.take i2 ++ [x] := by rw [hxx]; exact yK hi3
  have hlen : (log.take i2).length = i2 := by rw [List.length_take]; omega
  rw [<- hxx] at e1 sr
  have one := vX sr
  have e1M := kO w2.q.sub e1
  simp only [wK, seval, hx, e1M, zr, wRec]
  refine qC (o := blk (cRec zRec (.slice none 0 0) (.slice none 0 0)) 137) fun j10 h10 => ?_
  try simp only [wK, seval, zr, wRec, one]
  obtain ⟨B, hB⟩ : ∃ B, B = (j10, blk (cRec x va vb) 137) :: M2 := ⟨_, rfl⟩
  have sB : Tk.Sub M2 B := by rw [hB]; exact Sub.cons h10 (Sub.refl _)
  have gB : hget B j10 = some (blk (cRec x va vb) 137) := by rw [hB]; exact qJ _ _ _
  have rd : qT B j10 0 6 = some (cRec x va vb) := zH gB rfl
  have wB := w2.up sB
  have no : ¬ vP (log.take i2) x -> ¬ logP log := fun e y => e (by have := y.2 i2 hi3; rw [<- hxx] at this; exact this)
  rw [<- hB]
  try simp only [wK, seval, rd]
  refine zCA (fun hk => ?_) fun hk => ?_
  ·simp only [wK, seval]
   refine zHH wB (sRec.sub wB.q.sub sr) bx hk fun q1 k1 => ?_
   cases q1 with
   | false =>
    simp only [wK, seval]
    exact .of (k B jk false wB.q.sub ⟨fun c => (by cases c), fun c => absurd c (no (zA k1 rfl))⟩ fun c => by cases c)
   | true =>
    simp only [wK, seval]
    refine zCQ wB sr bx (k1.1 rfl) (by omega) fun M' ks' w' => ?_
    simp (disch := omega) only [wK, seval, qK]
    exact ⟨log.length - (i2 + 1), by omega, M', .refl _, i2 + 1, ks', by simp, by rw [htk]; exact w', by omega, rfl⟩
  ·simp only [wK, seval]
   exact .of (k B jk false wB.q.sub ⟨fun c => (by cases c), fun c => absurd c (no fun q => hk (qJG q))⟩ fun c => by cases c)
 ·have hi3 : i2 = log.length := by omega
  rw [hi3, List.take_length] at w2
  try simp only [wK, seval]
  exact .of (k M2 jk true w2.q.sub ⟨fun _ => w2.lg, fun _ => rfl⟩ fun _ => ⟨ks, w2⟩)
theorem openK_c {h M : H} {jk : Nat} {id : Int} {log : List DRec} {ks : KS} (w : KW h M jk id log ks) {R : Ending -> H -> Prop} (k : ∀ M' v, Tk.Sub M M' -> rRs M' (rRec M') 6 v (qCI log) -> R (.returned v) M') :
  HCalls Tryz.prog 76 #[.pointer (some ⟨jk, 0, none⟩)] M R := by
 refine qD lite (args := [.pointer (some ⟨jk, 0, none⟩)]) Tryz.func76 ?_
 conv => arg 2; cbv
 rw [qR]
 have zr := vV
 have ck2 : hcel M jk 2 = some ks.ov := qE w.q.get rfl
 have ro := w.q.od.rd
 have ll : (wS log).length = (prs log).length := by unfold wS prs; rw [List.length_map]
 have l4 : (prs log).length <= 400 := Nat.le_trans (List.length_filter_le _ _) w.lg.1
 obtain ⟨L, hL⟩ : ∃ L, L = prs log := ⟨_, rfl⟩
 obtain ⟨P, hP⟩ : ∃ P : DRec -> Bool, P = fun r => !vS log r.stamp r.try_ := ⟨_, rfl⟩
 rw [zAQ, <- hL, <- hP] at k
 rw [<- hL] at ll l4
 obtain ⟨i0, hi0, hz0⟩ := qWU
 obtain ⟨i1, hi1, hz1⟩ := zEndI
 simp only [wK, seval, ck2, ro.len]
 refine qP [11, 3] (fun n vs M' => ∃ (i : Nat) (v : Value) (G : H), vs = [.int .i64 i, v] /\ M' = G ++ M /\ Dj G M /\ oRs 137 (rRec h) 6 v ((L.take i).filter P) G /\ i <= L.length /\ n = L.length - i) L.length rfl ⟨0, _, [], rfl, rfl, Dj.nil _, oRs.nil _ _ _, by omega, rfl⟩ ?_
 rintro n f M' ⟨i, v, G, hv, rfl, dG, oG, hi, rfl⟩
 simp only [lm4] at hv
 simp only [wK, seval, wr, hv.1, hv.2]
 refine qF (fun c => ?_) fun c => ?_
 ·have hi2 : i < L.length := by omega
  obtain ⟨x, hxx⟩ : ∃ x, x = L[i] := ⟨_, rfl⟩
  have hio : i < (wS log).length := by omega
  have hat : (wS log)[i] = (x.stamp, x.try_) := by
   have : wS log = L.map kOf := by rw [hL]; rfl
   simp only [this, List.getElem_map, hxx]; rfl
  have hpx : yI log x.stamp x.try_ = some x := zFP w.lg x (by rw [hxx, <- hL]; exact List.getElem_mem hi2)
  have hmo := jX (p := P) hi2
  have hle := vZ P L i
  rw [<- hxx] at hmo
  have sG : Tk.Sub M (G ++ M) := Sub.right dG
  obtain ⟨bx, ox, hx, ex⟩ := yT (enc := eP) (sz := 2) xA (ro.sub sG) hio
  rw [hat] at ex
  unfold eP at ex
  simp only [wK, seval, hx, ex]
  refine qC (o := blk [.int .i64 0, .int .i64 0] 212) fun j5 h5 => ?_
  try simp only [wK, seval]
  obtain ⟨B, hB⟩ : ∃ B, B = (j5, blk [.int .i64 x.stamp, .int .i64 x.try_] 212) :: (G ++ M) := ⟨_, rfl⟩
  have sB0 : Tk.Sub (G ++ M) B := by rw [hB]; exact Sub.cons h5 (Sub.refl _)
  have sB : Tk.Sub M B := sG.trans sB0
  have gB : hget B j5 = some (blk [.int .i64 x.stamp, .int .i64 x.try_] 212) := by rw [hB]; exact qJ _ _ _
  have r5 : qT B j5 0 2 = some [.int .i64 x.stamp, .int .i64 x.try_] := zH gB rfl
  have wB := w.up sB
  have ck0 : hcel B jk 0 = some (.map (some ks.rp)) := qE wB.q.get rfl
  have ck1 : hcel B jk 1 = some (.map (some ks.re)) := qE wB.q.get rfl
  obtain ⟨es, c1, gp, mp⟩ := wB.q.gp
  obtain ⟨es2, c2, ge, me⟩ := wB.q.ge
  obtain ⟨d, va, vb, b, hV, hbb, sd, hd⟩ := w.look x.stamp x.try_
  obtain ⟨nn, eb, hN, hnb, hen, hz⟩ := w.ends x.stamp x.try_
  rcases hd with ⟨rfl, hp2⟩ | ⟨_, hp2⟩
  rotate_left
  ·rw [hpx] at hp2; cases hp2
  rw [hpx] at hp2
  obtain rfl := Option.some.inj hp2
  have oned := vX sd
  have shB := Sub.refl B
  have hPx : P x = !eb := by rw [hP, hen]
  rw [<- hB]
  try simp only [wK, seval]
  refine zC B (Sub.refl _) ?_
  simp only [wK, seval, ck1, r5, shB]
  refine uE keyA qGY hi1 hz1 (k := (x.stamp, x.try_)) (by simp only [wK, seval]) (by simp only [wK, seval]; rfl) ge me hN ?_
  simp only [wK, seval, shB, hz]
  cases eb with
  | true =>
   simp (disch := omega) only [wK, seval, Bool.not_true, qK]
   exact ⟨L.length - (i + 1), by omega, G ++ M, sB0, i + 1, v, G, by simp, rfl, dG, by rw [hmo, hPx]; simpa using oG, by omega, rfl⟩
  | false =>
   simp only [wK, seval, Bool.not_false]
   have sk := qHB wB.q.get
   have ck0s : hcel [(jk, blk (wP ks.rp ks.re ks.ov ks.vv (uP (wG id log).1)) 210)] jk 0 = some (.map (some ks.rp)) := qE (qJ _ _ _) rfl
   refine zC _ sk ?_
   simp only [wK, seval, ck0s, r5, sk]
   refine uE keyA qDL hi0 hz0 (k := (x.stamp, x.try_)) (by simp only [wK, seval]) (by simp only [wK, seval]; rfl) gp mp hV ?_
   simp only [wK, seval, sk, zr, wRec]
   refine qC (o := blk (cRec x va vb) 137) fun j9 h9 => ?_
   obtain ⟨C, hC⟩ : ∃ C, C = (j9, blk (cRec x va vb) 137) :: B := ⟨_, rfl⟩
   have sC : Tk.Sub B C := by rw [hC]; exact Sub.cons h9 (Sub.refl _)
   have gC : hget C j9 = some (blk (cRec x va vb) 137) := by rw [hC]; exact qJ _ _ _
   have skC := sk.trans sC
   rw [<- hC]
   simp only [wK, seval, skC, wRec]
   refine zIW (g := G) (h := M) (rel := rRec h) (fun c a q => by obtain ⟨a1, a2, rfl, s⟩ := q; exact vX s) tRecs iRec (sB0.trans sC) dG oG (qXB gC rfl ⟨_, _, rfl, sd⟩) (by simp; omega) (by simp; omega) fun v5 G5 o5 d5 => ?_
   have sk5 : Tk.Sub [(jk, blk (wP ks.rp ks.re ks.ov ks.vv (uP (wG id log).1)) 210)] (G5 ++ M) := (qHB w.q.get).trans (Sub.right d5)
   simp (disch := omega) only [wK, seval, sk5, qK]
   exact ⟨L.length - (i + 1), by omega, _, .refl _, i + 1, v5, G5, by simp, rfl, d5, by rw [hmo, hPx]; exact o5, by omega, rfl⟩
 ·have hi2 : i = L.length := by omega
  rw [hi2, List.take_length] at oG
  try simp only [wK, seval]
  have sG : Tk.Sub M (G ++ M) := Sub.right dG
  exact .of (k (G ++ M) v sG ((oG.rd.subH (Sub.left _ _)).relImp fun _ _ q => rRec.sub (w.q.sub.trans sG) q))
def qBC (log : List DRec) (r : DRec) : Bool := decide (r.kind = 1) && !vS log r.stamp r.try_
theorem qQA {M : H} {cs : List Value} {d : DRec} (r : rRec M cs d) : cs.all vone = true := by
 obtain ⟨a, b, rfl, s⟩ := r
 simp only [cRec, List.all_cons, List.all_nil, rdS.one s.1, rdS.one s.2]; rfl
theorem zBD {h : H} {d : DHouse} {lg lk wk : Value} (r : sHouse h d lg lk wk) (hb : bHouse d) {R : Ending -> H -> Prop} (k : ∀ M' v, Tk.Sub h M' -> rRs M' (rRec M') 6 v (qCI d.log) -> R (.returned v) M') :
  HCalls Tryz.prog 30 #[.agg (zB d lg lk wk).toArray] h R := by
 refine qD lite (args := [.agg (zB d lg lk wk).toArray]) Tryz.func30 ?_
 conv => arg 2; cbv
 rw [qR]
 have bl := hb.log
 unfold lim at bl
 simp only [wK, seval, yG]
 refine qC (o := blk (zB d lg lk wk) 59) fun j1 h1 => ?_
 obtain ⟨A, hA⟩ : ∃ A, A = (j1, blk (zB d lg lk wk) 59) :: h := ⟨_, rfl⟩
 have sA : Tk.Sub h A := by rw [hA]; exact Sub.cons h1 (Sub.refl _)
 have gA : hget A j1 = some (blk (zB d lg lk wk) 59) := by rw [hA]; exact qJ _ _ _
 have rl := (r.1.subH sA).relImp fun _ _ x => rRec.sub sA x
 rw [<- hA]
 simp only [wK, seval]
 refine qC (o := blk [] 137) fun j6 h6 => ?_
 simp only [wK, seval]
 refine qP [3, 4] (fun n vs h' => ∃ (i : Nat) (v : Value) (G B : H), vs = [v, .int .i64 i] /\ h' = G ++ B /\ Dj G B /\ Tk.Sub A B /\ oRs 137 (rRec B) 6 v ((d.log.take i).filter (qBC d.log)) G /\ i <= d.log.length /\ n = d.log.length - i) d.log.length rfl
  ⟨0, _, [(j6, blk [] 137)], A, rfl, rfl, Dj.one h6, Sub.refl _, zFT, by omega, rfl⟩ ?_
 rintro n f h' ⟨i, v, G, B, hv, hGB, dG, sB, oG, hi, rfl⟩
 simp only [lm4] at hv
 have sG : Tk.Sub G h' := by rw [hGB]; exact Sub.left _ _
 have sBh : Tk.Sub B h' := by rw [hGB]; exact Sub.right dG
 have sAh := sB.trans sBh
 have c12 : hcel h' j1 2 = some lg := qE (sAh _ _ gA) rfl
 simp only [wK, seval, wr, hv.1, hv.2, c12, rl.len]
 refine qF (fun c => ?_) fun c => ?_
 ·have hi2 : i < d.log.length := by omega
  have hmo := jX (p := qBC d.log) hi2
  have hfl := vZ (qBC d.log) d.log i
  obtain ⟨b1, o1, cs, hx, e1, va, vb, rfl, sr⟩ := zX rl hi2
  obtain ⟨x, hxx⟩ : ∃ x, x = d.log[i] := ⟨_, rfl⟩
  have hbx : bRec x := hxx ▸ hb.recs _ (List.getElem_mem hi2)
  have bs := hbx.s
  unfold lim at bs
  rw [<- hxx] at e1 sr hmo
  have e1 := kO sAh e1
  have hone : (cRec x va vb).all vone = true := qQA ⟨_, _, rfl, sr⟩
  have zr := vV
  simp only [wK, seval, c12, hx, e1, zr, wRec]
  refine qC (o := blk (cRec zRec (.slice none 0 0) (.slice none 0 0)) 137) fun j5 h5 => ?_
  try simp only [wK, seval, zr, wRec, hone]
  obtain ⟨N, hN⟩ : ∃ N, N = (j5, blk (cRec x va vb) 137) :: h' := ⟨_, rfl⟩
  have sN : Tk.Sub h' N := by rw [hN]; exact Sub.cons h5 (Sub.refl _)
  have gN : hget N j5 = some (blk (cRec x va vb) 137) := by rw [hN]; exact qJ _ _ _
  have c50 : hcel N j5 0 = some (.int .i64 x.kind) := qE gN rfl
  have c51 : hcel N j5 1 = some (.int .i64 x.stamp) := qE gN rfl
  have c52 : hcel N j5 2 = some (.int .i64 x.try_) := qE gN rfl
  have c54 : hcel N j5 4 = some va := qE gN rfl
  have c12N : hcel N j1 2 = some lg := qE (sN _ _ (sAh _ _ gA)) rfl
  have skip : qBC d.log x = false -> ∃ m, m < d.log.length - i /\ ∃ gg, Tk.Sub gg N /\ ∃ (i' : Nat) (v' : Value) (G B : H), [v, Value.int IntKind.i64 ((i : Int) + 1)] = [v', .int .i64 i'] /\ gg = G ++ B /\ Dj G B /\ Tk.Sub A B /\ oRs 137 (rRec B) 6 v' ((d.log.take i').filter (qBC d.log)) G /\ i' <= d.log.length /\ m = d.log.length - i' := fun e =>
   ⟨d.log.length - (i + 1), by omega, h', sN, i + 1, v, G, B, by simp, hGB, dG, sB, by rw [hmo, e, if_neg (by simp), List.append_nil]; exact oG, by omega, rfl⟩
  rw [<- hN]
  try simp only [wK, seval, c50]
  by_cases k1 : x.kind = 1
  ·simp only [wK, seval, k1, decide_true, c12N, c51, c52]
   refine qIT ((rl.subH (sAh.trans sN)).relImp fun _ _ q => rRec.sub (sAh.trans sN) q) bl (fun he q => ?_) (fun he => ?_)
   ·have hq0 : ¬ ((q : Int) < 0) := by omega
    simp (disch := omega) only [wK, seval, hq0, decide_false, qK]
    exact skip (by unfold qBC; rw [he]; simp)
   ·have hop : qBC d.log x = true := by unfold qBC; rw [he]; simp [k1]
    simp only [wK, seval]
    refine qC (o := blk [] 3) fun j32 h32 => ?_
    obtain ⟨N1, hN1⟩ : ∃ N1, N1 = (j32, blk [] 3) :: N := ⟨_, rfl⟩
    have sN1 : Tk.Sub N N1 := by rw [hN1]; exact Sub.cons h32 (Sub.refl _)
    have g32 : hget N1 j32 = some (blk [] 3) := by rw [hN1]; exact qJ _ _ _
    have c54' : hcel N1 j5 4 = some va := yE sN1 c54
    rw [<- hN1]
    simp only [wK, seval, c54']
    refine zCR qFP tInts iInt g32 (rLs.sub (sAh.trans (sN.trans sN1)) sr.1) (by omega) (by omega) fun M2 w S2 s2 d2 f2 => ?_
    have on2 := d2.one
    have vc2 := vc1 on2
    obtain ⟨N3, wN3, gN3, fN3⟩ := bst (vs := [w]) (cs' := cRec x w vb) (o := 4) (s2 _ _ (sN1 _ _ gN)) (by show 4 + 1 <= 6; omega) rfl
    have rd5 : qT N3 j5 0 6 = some (cRec x w vb) := zH gN3 rfl
    have one5 : (cRec x w vb).all vone = true := by simp only [cRec, List.all_cons, List.all_nil, on2, rdS.one sr.2]; rfl
    simp only [wK, seval, wRec, on2, vc2, wN3, rd5, one5]
    refine qC (o := blk (cRec x w vb) 137) fun j39 h39 => ?_
    obtain ⟨N4, hN4⟩ : ∃ N4, N4 = (j39, blk (cRec x w vb) 137) :: N3 := ⟨_, rfl⟩
    have sN4 : Tk.Sub N3 N4 := by rw [hN4]; exact Sub.cons h39 (Sub.refl _)
    have g39 : hget N4 j39 = some (blk (cRec x w vb) 137) := by rw [hN4]; exact qJ _ _ _
    have sh3 : Tk.Sub h' N3 := fun y o e => by rw [fN3 y (fun q => by rw [q, h5] at e; cases e)]; exact s2 _ _ (sN1 _ _ (sN _ _ e))
    have sh4 : Tk.Sub h' N4 := sh3.trans sN4
    have sG4 : Tk.Sub G N4 := sG.trans sh4
    obtain ⟨B', hB'⟩ : ∃ B', B' = hdel N4 G := ⟨_, rfl⟩
    have inB : ∀ y o, hget G y = none -> hget N4 y = some o -> hget B' y = some o := fun y o a e => by rw [hB', qCA, a]; exact e
    have sBB' : Tk.Sub B B' := fun y o e => inB y o (Classical.byContradiction fun q => by rw [dG y q] at e; cases e) (sh4 _ _ (sBh _ _ e))
    have hin2 : ∀ y, S2 y -> hget G y = none /\ y ≠ j5 := fun y q => by
     rcases f2 y q with c | c
     ·rw [c]
      exact ⟨(sG.trans sN).none' h32, fun e => by rw [e, gN] at h32; cases h32⟩
     ·exact ⟨(sG.trans (sN.trans sN1)).none' c, fun e => by rw [e, sN1 _ _ gN] at c; cases c⟩
    have d4 : dL 3 eI 1 B' w x.slots S2 := d2.frame fun y q => by
     cases e : hget M2 y with
     | none => exact absurd e (d2.in q)
     | some o => exact inB y o (hin2 y q).1 (sN4 _ _ (by rw [fN3 y (hin2 y q).2]; exact e))
    have relx : rRec B' (cRec x w vb) x := ⟨_, _, rfl, d4.rd, rLs.sub (sB.trans sBB') sr.2⟩
    rw [<- hN4]
    simp only [wK, seval]
    refine zIW (g := G) (h := B') (rel := rRec B') (fun c a q => qQA q) tRecs iRec (by rw [hB']; exact qSX sG4) (by rw [hB']; exact qYM _ _) (oG.relImp fun _ _ q => rRec.sub sBB' q) (qXB g39 rfl relx) (by simp; omega) (by simp; omega) fun v5 G5 o5 d5 => ?_
    simp (disch := omega) only [wK, seval, qK]
    exact ⟨d.log.length - (i + 1), by omega, _, .refl _, i + 1, v5, G5, B', by simp, rfl, d5, sB.trans sBB', by rw [hmo, hop, if_pos rfl]; exact o5, by omega, rfl⟩
  ·simp (disch := omega) only [wK, seval, k1, decide_false, qK]
   exact skip (by unfold qBC; simp [k1])
 ·have hi2 : i = d.log.length := by omega
  rw [hi2, List.take_length] at oG
  try simp only [wK, seval]
  have s : Tk.Sub h h' := sA.trans sAh
  exact .of (k h' v s (((oG.rd).subH sG).relImp fun _ _ q => rRec.sub sBh q))
theorem zBE {h : H} {d : DHouse} {lg lk wk : Value} (r : sHouse h d lg lk wk) (hb : bHouse d) (hlog : logP d.log) (h8 : d.locks.length = 8) {R : Ending -> H -> Prop} (k : Asks R (qMJ d) h) :
  HCalls Tryz.prog 48 #[.agg (zB d lg lk wk).toArray] h R := by
 refine qD lite (args := [.agg (zB d lg lk wk).toArray]) Tryz.func48 ?_
 conv => arg 2; cbv
 simp only [wK, seval, yG]
 refine qC (o := blk (zB d lg lk wk) 59) fun j1 h1 => ?_
 obtain ⟨A, hA⟩ : ∃ A, A = (j1, blk (zB d lg lk wk) 59) :: h := ⟨_, rfl⟩
 have sA : Tk.Sub h A := by rw [hA]; exact Sub.cons h1 (Sub.refl _)
 have gA : hget A j1 = some (blk (zB d lg lk wk) 59) := by rw [hA]; exact qJ _ _ _
 have rd1 : qT A j1 0 6 = some (zB d lg lk wk) := zH gA rfl
 rw [<- hA]
 simp only [wK, seval, rd1]
 refine zBD (r.sub sA) hb fun M v sM ro => ?_
 have rd1M : qT M j1 0 6 = some (zB d lg lk wk) := kO sM rd1
 have rM := r.sub (sA.trans sM)
 have sMM := Sub.refl M
 have ol : (qCI d.log).length <= 400 := Nat.le_trans (List.length_filter_le _ _) hlog.1
 obtain ⟨L, hL⟩ : ∃ L, L = qCI d.log := ⟨_, rfl⟩
 have hin : ∀ x ∈ L, ∀ s ∈ x.slots, 0 <= s /\ s <= 7 := hL ▸ qQJ hlog
 have hbL : ∀ x ∈ L, bRec x := fun x q => hb.recs _ (List.mem_filter.1 (show x ∈ d.log.filter (qBC d.log) from by rw [hL] at q; exact q)).1
 have hfp : qMJ d ↔ ∀ x ∈ L, jO d.locks x.stamp x.try_ x.slots true = true := by rw [hL]; exact Iff.rfl
 rw [<- hL] at ro ol
 simp only [wK, seval]
 refine qP [4] (fun n vs h' => ∃ i : Nat, vs = [.int .i64 i] /\ h' = M /\ i <= L.length /\ n = L.length - i /\ ∀ x ∈ L.take i, jO d.locks x.stamp x.try_ x.slots true = true) L.length rfl ⟨0, rfl, rfl, by omega, by omega, by simp⟩ ?_
 rintro n f h' ⟨i, hv, rfl, hi, rfl, ht⟩
 simp only [lm4] at hv
 simp only [wK, seval, wr, hv, ro.len]
 refine qF (fun c => ?_) fun c => ?_
 ·have hi2 : i < L.length := by omega
  obtain ⟨b1, o1, cs, hx, e1, va, vb, rfl, sr⟩ := zX ro hi2
  have bs := (hbL _ (List.getElem_mem hi2)).s
  unfold lim at bs
  have f1 : hcel h' b1 (o1 + 1) = some (.int .i64 L[i].stamp) := zJ e1 1 rfl
  have f2 : hcel h' b1 (o1 + 2) = some (.int .i64 L[i].try_) := zJ e1 2 rfl
  have f4 : hcel h' b1 (o1 + 4) = some va := zJ e1 4 rfl
  refine zC h' (Sub.refl _) ?_
  simp only [wK, seval, rd1M, hx, f1, f2, f4, sMM]
  refine qUX rM h8 hb.lock sr.1 (hin _ (List.getElem_mem hi2)) (by omega) ?_
  obtain ⟨q, hq⟩ : ∃ q, q = jO d.locks L[i].stamp L[i].try_ L[i].slots true := ⟨_, rfl⟩
  rw [<- hq]
  cases q with
  | false =>
   simp only [wK, seval, sMM]
   exact k.dno (sA.trans sM) fun x => by have := hfp.1 x _ (List.getElem_mem hi2); rw [<- hq] at this; cases this
  | true =>
   simp (disch := omega) only [wK, seval, sMM, qK]
   refine ⟨L.length - (i + 1), by omega, h', .refl _, i + 1, by simp, rfl, by omega, rfl, fun x hx => ?_⟩
   rw [yK hi2] at hx
   rcases List.mem_append.1 hx with hx | hx
   ·exact ht x hx
   ·rw [List.mem_singleton.1 hx]; exact hq.symm
 ·have hi2 : i = L.length := by omega
  rw [hi2, List.take_length] at ht
  try simp only [wK, seval]
  exact k.dyes (sA.trans sM) (hfp.2 ht)
def qXK (d : DHouse) (l : DLock) (i : Nat) : Prop := qIN l /\ l.slot = (i : Int) /\ (d.up = false -> qGM l)
theorem qKI {h : H} {d : DHouse} {lg lk wk : Value} (r : sHouse h d lg lk wk) (hb : bHouse d) {R : Ending -> H -> Prop} (k : Asks R (wT d) h) :
  HCalls Tryz.prog 19 #[.agg (zB d lg lk wk).toArray] h R := by
 refine yM (args := [.agg (zB d lg lk wk).toArray]) Tryz.func19 ir19 ?_
 have bl := hb.log
 have bw := hb.works
 have bk := hb.locks
 unfold lim at bl bw bk
 simp only [wK, seval, yG]
 refine qC (o := blk (zB d lg lk wk) 59) fun j1 h1 => ?_
 obtain ⟨M, hM⟩ : ∃ M, M = (j1, blk (zB d lg lk wk) 59) :: h := ⟨_, rfl⟩
 have sM : Tk.Sub h M := by rw [hM]; exact Sub.cons h1 (Sub.refl _)
 have gM : hget M j1 = some (blk (zB d lg lk wk) 59) := by rw [hM]; exact qJ _ _ _
 have c0 : hcel M j1 0 = some (.int .i64 d.id) := qE gM rfl
 have c1 : hcel M j1 1 = some (.bool d.up) := qE gM rfl
 have c2 : hcel M j1 2 = some lg := qE gM rfl
 have c3 : hcel M j1 3 = some (.int .i64 d.forced) := qE gM rfl
 have c4 : hcel M j1 4 = some lk := qE gM rfl
 have c5 : hcel M j1 5 = some wk := qE gM rfl
 have rd1 : qT M j1 0 6 = some (zB d lg lk wk) := zH gM rfl
 have rM := r.sub sM
 have sMM := Sub.refl M
 rw [<- hM]
 try simp only [wK, seval, c0]
 refine jN fun q1 k1 => ?_
 cases q1 with
 | false =>
  simp only [wK, seval]
  exact k.dno sM fun x => zA k1 rfl x.1
 | true =>
 simp only [wK, seval, c2]
 refine qUW rM.1 hb.recs bl fun q2 k2 => ?_
 cases q2 with
 | false =>
  simp only [wK, seval]
  exact k.dno sM fun x => zA k2 rfl x.2.1
 | true =>
 simp only [wK, seval, c2, c3, rM.1.len]
 refine zY fun q3 k3 => ?_
 cases q3 with
 | false =>
  simp only [wK, seval]
  exact k.dno sM fun x => zA k3 rfl x.2.2.1
 | true =>
 simp only [wK, seval, c5]
 refine qNX rM.2.2 hb.work bw fun q4 k4 => ?_
 cases q4 with
 | false =>
  simp only [wK, seval]
  exact k.dno sM fun x => zA k4 rfl x.2.2.2.1
 | true =>
 simp only [wK, seval, c4, rM.2.1.len]
 refine zF (fun e => k.dno sM fun x => e (by have := x.2.2.2.2.1; omega)) fun h8 => ?_
 refine qP [3] (fun n vs h' => ∃ i : Nat, vs = [.int .i64 i] /\ h' = M /\ i <= d.locks.length /\ n = d.locks.length - i /\ ∀ j (hj : j < d.locks.length), j < i -> qXK d d.locks[j] j) d.locks.length rfl ⟨0, rfl, rfl, by omega, by omega, fun j hj hn => absurd hn (Nat.not_lt_zero _)⟩ ?_
 rintro n f h' ⟨i, hv, rfl, hi, rfl, ht⟩
 simp only [lm4] at hv
 simp only [wK, seval, wr, hv, c4, rM.2.1.len]
 refine qF (fun c => ?_) fun c => ?_
 ·have hi2 : i < d.locks.length := by omega
  obtain ⟨b1, o1, cs, hx, e1, va, vb, rfl, sr⟩ := zX rM.2.1 hi2
  obtain ⟨l, hl⟩ : ∃ l, l = d.locks[i] := ⟨_, rfl⟩
  have hbl : bLock l := hl ▸ hb.lock _ (List.getElem_mem hi2)
  have b3 := hbl.h
  have b4 := hbl.w
  unfold lim at b3 b4
  rw [<- hl] at e1 sr
  have f0 : hcel h' b1 o1 = some (.int .i64 l.slot) := zJ e1 0 rfl
  have f1 : hcel h' b1 (o1 + 1) = some va := zJ e1 1 rfl
  have f2 : hcel h' b1 (o1 + 2) = some vb := zJ e1 2 rfl
  have no : ¬ qXK d l i -> ¬ wT d := fun e x => e (by have := x.2.2.2.2.2.1 i hi2; rw [<- hl] at this; exact this)
  have next : qXK d l i -> ∃ m, m < d.locks.length - i /\ ∃ gg, Tk.Sub gg h' /\ ∃ i' : Nat, [Value.int IntKind.i64 ((i : Int) + 1)] = [.int .i64 i'] /\ gg = h' /\ i' <= d.locks.length /\ m = d.locks.length - i' /\ ∀ j (hj : j < d.locks.length), j < i' -> qXK d d.locks[j] j := fun e =>
   ⟨d.locks.length - (i + 1), by omega, h', .refl _, i + 1, by simp, rfl, by omega, rfl, fun j hj hn => by
    by_cases ej : j = i
    ·subst ej; rw [<- hl]; exact e
    ·exact ht j hj (by omega)⟩
  refine zC h' (Sub.refl _) ?_
  simp only [wK, seval, c4, hx, e1, sMM]
  refine zGH sr (by omega) (by omega) fun q5 k5 => ?_
  cases q5 with
  | false =>
   simp only [wK, seval, sMM]
   exact k.dno sM (no fun x => zA k5 rfl x.1)
  | true =>
  simp only [wK, seval, c4, hx, f0, sMM]
  by_cases es : l.slot = (i : Int)
  ·obtain ⟨u, hu⟩ : ∃ u, u = d.up := ⟨_, rfl⟩
   rw [<- hu] at c1
   simp only [wK, seval, es, decide_true, Bool.not_true, c1, sMM]
   cases u with
   | true =>
    simp (disch := omega) only [wK, seval, sMM, qK]
    exact next ⟨k5.1 rfl, es, fun e => by rw [<- hu] at e; cases e⟩
   | false =>
    simp (disch := omega) only [wK, seval, c4, hx, f1, f2, sr.1.len, sr.2.len, sMM, qK]
    refine qF (fun c9 => ?_) fun c9 => ?_
    ·exact k.dno sM (no fun x => by have := x.2.2 hu.symm; unfold qGM at this; omega)
    ·exact next ⟨k5.1 rfl, es, fun e => by unfold qGM; omega⟩
  ·simp only [wK, seval, es, decide_false, Bool.not_false, sMM]
   exact k.dno sM (no fun x => es x.2.1)
 ·have hi2 : i = d.locks.length := by omega
  obtain ⟨u, hu⟩ : ∃ u, u = d.up := ⟨_, rfl⟩
  rw [<- hu] at c1
  have base : (d.up = false /\ d.works = []) ∨ (d.up = true /\ qMJ d) -> wT d := fun e => ⟨k1.1 rfl, k2.1 rfl, k3.1 rfl, k4.1 rfl, by omega, fun j hj => ht j hj (by omega), e⟩
  simp only [wK, seval, c1]
  cases u with
  | false =>
   simp only [wK, seval, c5, rM.2.2.len]
   by_cases e : (d.works.length : Int) = 0
   ·simp only [wK, seval, e, decide_true]
    exact k.dyes sM (base (.inl ⟨hu.symm, List.eq_nil_of_length_eq_zero (by omega)⟩))
   ·simp only [wK, seval, e, decide_false, c1]
    exact k.dno sM fun x => by
     rcases x.2.2.2.2.2.2 with y | y
     ·exact e (by rw [y.2]; rfl)
     ·rw [<- hu] at y; cases y.1
  | true =>
   simp only [wK, seval, c1, rd1]
   refine zBE rM hb (k2.1 rfl) (by omega) fun q6 k6 => ?_
   cases q6 with
   | false =>
    simp only [wK, seval]
    exact k.dno sM fun x => by
     rcases x.2.2.2.2.2.2 with y | y
     ·rw [<- hu] at y; cases y.1
     ·exact zA k6 rfl y.2
   | true =>
    simp only [wK, seval]
    exact k.dyes sM (base (.inr ⟨hu.symm, k6.1 rfl⟩))
end Go.Proofs.YtjioiemhgbkbfaaGreatDoor
end
