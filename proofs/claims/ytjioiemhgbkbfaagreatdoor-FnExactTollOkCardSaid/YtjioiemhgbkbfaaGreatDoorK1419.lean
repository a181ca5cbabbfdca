/- Parts of the proof. -/
import Derived.Test.YtjioiemhgbkbfaaGreatDoorK145
import Derived.Test.YtjioiemhgbkbfaaGreatDoorK1418
import Derived.Test.YtjioiemhgbkbfaaGreatDoorK1416
import Derived.Test.YtjioiemhgbkbfaaGreatDoorK1413
import Derived.Test.YtjioiemhgbkbfaaGreatDoorK149
import Derived.Test.YtjioiemhgbkbfaaGreatDoorK1410
set_option maxHeartbeats 4000000
set_option maxRecDepth 100000
set_option linter.unusedVariables false
set_option linter.unusedSimpArgs false
set_option linter.defProp false
attribute [local irreducible] Go.Tk.vc Go.Tk.vops Go.Tk.vdr Go.Tk.vop Go.Tk.vfl Go.Tk.HCalls
section
namespace Go.Proofs.YtjioiemhgbkbfaaGreatDoor
open Go Go.Tk
theorem qGI {h : H} {x : DHold} {R : Ending -> H -> Prop} (k : Asks R (qAQ x) h) : HCalls Tryz.prog 93 #[.agg (zD x).toArray] h R := by
 refine qD lite (args := [.agg (zD x).toArray]) Tryz.func93 ?_
 conv => arg 2; cbv
 simp only [wK, seval, yV]
 refine qC (o := blk (zD x) 171) fun j hj => ?_
 have s1 := Sub.cons (o := blk (zD x) 171) hj (Sub.refl h)
 simp only [wK, seval, yV]
 refine zY fun b1 hb1 => ?_
 simp only [wK, seval, yV]
 cases b1 with
 | false =>
  simp only [wK, seval, yV]
  exact k.dno s1 fun p => zA hb1 rfl p.1
 | true =>
  simp only [wK, seval, yV]
  refine zY fun b2 hb2 => ?_
  simp only [wK, seval, yV]
  exact ⟨h, s1, k _ (by rw [hb2]; exact ⟨fun p => ⟨hb1.1 rfl, p⟩, fun p => p.2⟩)⟩
theorem zBF {h : H} {x y : DHold} {R : Ending -> H -> Prop} (k : R (.returned (.bool (vM x y))) h) : HCalls Tryz.prog 94 #[.agg (zD x).toArray, .agg (zD y).toArray] h R := by
 refine qD lite (args := [.agg (zD x).toArray, .agg (zD y).toArray]) Tryz.func94 ?_
 conv => arg 2; cbv
 simp only [wK, seval, yV]
 refine qC (o := blk (zD x) 171) fun j hj => ?_
 simp only [wK, seval, yV]
 refine qC (o := blk (zD y) 171) fun j2 hj2 => ?_
 obtain ⟨A, hA⟩ : ∃ A, A = (j2, blk (zD y) 171) :: (j, blk (zD x) 171) :: h := ⟨_, rfl⟩
 have n2 := hj2
 simp only [subs] at n2
 have sA : Tk.Sub h A := by rw [hA]; exact Sub.cons hj2 (Sub.cons hj (Sub.refl _))
 have g2 : hget A j2 = some (blk (zD y) 171) := by rw [hA]; exact qJ _ _ _
 have g1 : hget A j = some (blk (zD x) 171) := by rw [hA, xL _ _ _ (fun e => n2.1 e.symm)]; exact qJ _ _ _
 have c10 : hcel A j 0 = some (.int .i64 x.stamp) := qE g1 rfl
 have c12 : hcel A j 2 = some (.bool x.share) := qE g1 rfl
 have c20 : hcel A j2 0 = some (.int .i64 y.stamp) := qE g2 rfl
 have c22 : hcel A j2 2 = some (.bool y.share) := qE g2 rfl
 rw [<- hA]
 have sAA := Sub.refl A
 unfold vM at k
 try refine zC A (Sub.refl A) ?_
 simp only [wK, seval, yV, c10, c20, sAA]
 by_cases d : x.stamp = y.stamp
 ·have e : (decide (x.stamp ≠ y.stamp) && !(x.share && y.share)) = false := by simp [d]
  rw [e] at k
  simp only [wK, seval, d, decide_true, Bool.not_true, c12, c22, sAA]
  exact ⟨h, sA, k⟩
 ·have e : (decide (x.stamp ≠ y.stamp) && !(x.share && y.share)) = !(x.share && y.share) := by simp [d]
  rw [e] at k
  cases e1 : x.share <;> cases e2 : y.share <;> rw [e1, e2] at k <;> rw [e1] at c12 <;> rw [e2] at c22 <;> simp only [wK, seval, d, decide_false, Bool.not_false, c12, c22, sAA] <;> exact ⟨h, sA, k⟩
theorem l11At_c {h : H} {v : Value} {l : List DHold} {s : Int} (r : rLs h zD 4 v l) (hl : l.length <= 1099511627776) {R : Ending -> H -> Prop} (k1 : ∀ i (hi : i < l.length), yY l s = some l[i] -> R (.returned (.int .i64 (i : Nat))) h) (k2 : yY l s = none -> R (.returned (.int .i64 (-1))) h) :
  HCalls Tryz.prog 137 #[v, .int .i64 s] h R := by
 refine qD lite (args := [v, .int .i64 s]) Tryz.func137 ?_
 conv => arg 2; cbv
 simp only [wK, seval]
 refine qP [5] (fun n vs h' => ∃ i : Nat, vs = [.int .i64 i] /\ h' = h /\ i <= l.length /\ n = l.length - i /\ yY (l.take i) s = none) l.length rfl ⟨0, rfl, rfl, by omega, by omega, by simp [yY]⟩ ?_
 rintro n f h' ⟨i, hv, rfl, hi, rfl, ht⟩
 simp only [lm4] at hv
 simp only [wK, seval, wr, hv, r.len]
 refine qF (fun c => ?_) fun c => ?_
 ·have hi2 : i < l.length := by omega
  obtain ⟨b1, o1, hx, e1⟩ := yT (enc := zD) (sz := 4) yC r hi2
  have f1 : hcel h' b1 o1 = some (.int .i64 l[i].stamp) := zJ e1 0 rfl
  simp only [wK, seval, hx, f1]
  by_cases c1 : l[i].stamp = s
  ·simp only [wK, seval, c1, decide_true]
   exact .of (k1 i hi2 (qFN hi2 ht (by simpa using c1)))
  ·simp only [wK, seval, c1, decide_false]
   simp (disch := omega) only [wK, seval, qK]
   exact ⟨l.length - (i + 1), by omega, h', .refl _, i + 1, by simp, rfl, by omega, rfl, qBI hi2 ht (by simpa using c1)⟩
 ·have hi2 : i = l.length := by omega
  subst hi2
  rw [List.take_length] at ht
  try simp only [wK, seval]
  exact .of (k2 ht)
end Go.Proofs.YtjioiemhgbkbfaaGreatDoor
end

section
namespace Go.Tk
open Go
theorem qJC {l : List DHold} {i : Nat} (hi : i < l.length) (h : qMF l i) (h1 : qAQ l[i]) (h2 : ∀ (h0 : 0 < i), (l[i - 1]'(by omega)).stamp < l[i].stamp /\ vM (l[0]'(by omega)) l[i] = false) : qMF l (i + 1) := by
 obtain ⟨a, b, c⟩ := h
 refine ⟨fun x hx => ?_, fun j hj hn => ?_, fun j hj h0 hn => ?_⟩
 ·rw [yK hi] at hx
  rcases List.mem_append.1 hx with hx | hx
  ·exact a x hx
  ·rw [List.mem_singleton.1 hx]; exact h1
 ·by_cases e : j + 1 = i
  ·subst e; exact (h2 (by omega)).1
  ·exact b j hj (by omega)
 ·by_cases e : j = i
  ·subst e; exact (h2 h0).2
  ·exact c j hj h0 (by omega)
def qLD (held l : List DHold) (i : Nat) : Prop := (∀ x ∈ l.take i, qAQ x /\ x.firm = false /\ ∀ a ∈ held, a.stamp ≠ x.stamp) /\ risU (·.stamp) l i
theorem qTD (held l : List DHold) : qLD held l 0 := ⟨by simp, xC _ _⟩
theorem qTE {held l : List DHold} {i : Nat} (hi : i < l.length) (h : qLD held l i) (h1 : qAQ l[i] /\ l[i].firm = false /\ ∀ a ∈ held, a.stamp ≠ l[i].stamp) (h2 : ∀ (h0 : 0 < i), (l[i - 1]'(by omega)).stamp < l[i].stamp) : qLD held l (i + 1) := by
 obtain ⟨a, b⟩ := h
 refine ⟨fun x hx => ?_, fun j hj hn => ?_⟩
 ·rw [yK hi] at hx
  rcases List.mem_append.1 hx with hx | hx
  ·exact a x hx
  ·rw [List.mem_singleton.1 hx]; exact h1
 ·by_cases e : j + 1 = i
  ·subst e; exact h2 (by omega)
  ·exact b j hj (by omega)
theorem zGG {d : DLock} (h1 : qHY d.slot) (h2 : d.held.length + d.waits.length <= 16) (h3 : qMF d.held d.held.length) (h4 : qLD d.held d.waits d.waits.length) : qIN d := by
 obtain ⟨a, b, c⟩ := zBL h3
 obtain ⟨e, f⟩ := h4
 rw [List.take_length] at e
 exact ⟨h1, h2, a, b, c, fun x hx => (e x hx).1, fun i hi => f i hi (by omega), fun x hx => (e x hx).2.1, fun x hx => (e x hx).2.2⟩
end Go.Tk
namespace Go.Proofs.YtjioiemhgbkbfaaGreatDoor
open Go Go.Tk
theorem zGH {h : H} {d : DLock} {v p : Value} (r : sLock h d v p) (b1 : d.held.length <= 1048576) (b2 : d.waits.length <= 1048576) {R : Ending -> H -> Prop} (k : Asks R (qIN d) h) : HCalls Tryz.prog 47 #[.agg (zP d v p).toArray] h R := by
 refine yM (args := [.agg (zP d v p).toArray]) Tryz.func47 ir47 ?_
 simp only [wK, seval, xN]
 refine qC (o := blk (zP d v p) 81) fun j1 h1 => ?_
 obtain ⟨M, hM⟩ : ∃ M, M = (j1, blk (zP d v p) 81) :: h := ⟨_, rfl⟩
 have sM : Tk.Sub h M := by rw [hM]; exact Sub.cons h1 (Sub.refl _)
 have gM : hget M j1 = some (blk (zP d v p) 81) := by rw [hM]; exact qJ _ _ _
 have c0 : hcel M j1 0 = some (.int .i64 d.slot) := qE gM rfl
 have c1 : hcel M j1 1 = some v := qE gM rfl
 have c2 : hcel M j1 2 = some p := qE gM rfl
 have rv : rLs M zD 4 v d.held := r.1.sub sM
 have rp : rLs M zD 4 p d.waits := r.2.sub sM
 have sMM := Sub.refl M
 rw [<- hM]
 simp only [wK, seval, c0]
 refine zY fun q1 hq1 => ?_
 cases q1 with
 | false =>
  simp only [wK, seval]
  exact k.dno sM fun x => zA hq1 rfl x.1
 | true =>
 simp (disch := omega) only [wK, seval, c1, c2, rv.len, rp.len, qK]
 refine qF (fun e => k.dno sM fun x => by have := x.2.1; omega) fun e16 => ?_
 refine qP [3] (fun n vs h' => ∃ i : Nat, vs = [.int .i64 i] /\ h' = M /\ i <= d.held.length /\ n = d.held.length - i /\ qMF d.held i) d.held.length rfl ⟨0, rfl, rfl, by omega, rfl, qVM _⟩ ?_
 rintro n f h' ⟨i, hv, rfl, hi, rfl, hu⟩
 simp only [lm4] at hv
 simp only [wK, seval, wr, hv, c1, rv.len]
 refine qF (fun q => ?_) fun q => ?_
 ·have hi2 : i < d.held.length := by omega
  obtain ⟨ba, oa, hxa, ea⟩ := yT (enc := zD) (sz := 4) yC rv hi2
  have fa : hcel h' ba oa = some (.int .i64 d.held[i].stamp) := zJ ea 0 rfl
  refine zC h' (Sub.refl _) ?_
  simp only [wK, seval, c1, hxa, ea, sMM]
  refine qGI fun q2 hq2 => ?_
  cases q2 with
  | false =>
   simp only [wK, seval, sMM]
   exact k.dno sM fun x => zA hq2 rfl (x.2.2.1 _ (List.getElem_mem hi2))
  | true =>
  have hh := hq2.1 rfl
  simp only [wK, seval, sMM]
  refine qF (fun q3 => ?_) fun q3 => ?_
  ·have hi1 : i - 1 < d.held.length := by omega
   have ecast : ((i - 1 : Nat) : Int) = (i : Int) - 1 := by omega
   obtain ⟨bb, ob, hxb, eb⟩ := yT (enc := zD) (sz := 4) yC rv hi1
   rw [ecast] at hxb
   have fb : hcel h' bb ob = some (.int .i64 d.held[i - 1].stamp) := zJ eb 0 rfl
   obtain ⟨bz, oz, hxz, ez⟩ := yT (enc := zD) (sz := 4) yC rv (i := 0) (by omega)
   have hxz : ∀ (kd : IntKind) (F : Value -> Prop), vH v (.int kd 0) 4 F = F (.pointer (some ⟨bz, oz, none⟩)) := hxz
   simp (disch := omega) only [wK, seval, c1, hxa, hxb, fa, fb, qK, sMM]
   refine yZ (fun q4 => ?_) fun q4 => ?_
   ·exact k.dno sM fun x => by
     have := x.2.2.2.1 (i - 1) (by omega)
     have e2 : i - 1 + 1 = i := by omega
     simp only [e2] at this
     omega
   ·simp only [wK, seval, c1, hxz, ez, hxa, ea, sMM]
    refine zBF ?_
    obtain ⟨mb, hmb⟩ : ∃ mb, mb = vM (d.held[0]'(by omega)) d.held[i] := ⟨_, rfl⟩
    rw [<- hmb]
    cases mb with
    | true =>
     simp only [wK, seval, sMM]
     exact k.dno sM fun x => by have := x.2.2.2.2.1 _ (List.getElem_mem (by omega : 0 < d.held.length)) _ (List.getElem_mem hi2); rw [<- hmb] at this; cases this
    | false =>
     simp (disch := omega) only [wK, seval, sMM, qK]
     exact ⟨d.held.length - (i + 1), by omega, h', .refl _, i + 1, by simp, rfl, by omega, rfl, qJC hi2 hu hh fun _ => ⟨by omega, hmb.symm⟩⟩
  ·simp (disch := omega) only [wK, seval, sMM, qK]
   exact ⟨d.held.length - (i + 1), by omega, h', .refl _, i + 1, by simp, rfl, by omega, rfl, qJC hi2 hu hh fun h0 => by omega⟩
 ·have hi3 : i = d.held.length := by omega
  rw [hi3] at hu
  refine qP [4] (fun n vs h2 => ∃ i : Nat, vs = [.int .i64 i] /\ h2 = h' /\ i <= d.waits.length /\ n = d.waits.length - i /\ qLD d.held d.waits i) d.waits.length rfl ⟨0, rfl, rfl, by omega, rfl, qTD _ _⟩ ?_
  rintro n f2 h2 ⟨i, hv2, rfl, hi2', rfl, hw⟩
  simp only [lm4] at hv2
  simp only [wK, seval, wr, hv2, c2, rp.len]
  refine qF (fun q => ?_) fun q => ?_
  ·have hi2 : i < d.waits.length := by omega
   obtain ⟨ba, oa, hxa, ea⟩ := yT (enc := zD) (sz := 4) yC rp hi2
   have fa : hcel h2 ba oa = some (.int .i64 d.waits[i].stamp) := zJ ea 0 rfl
   have fa3 : hcel h2 ba (oa + 3) = some (.bool d.waits[i].firm) := zJ ea 3 rfl
   refine zC h2 (Sub.refl _) ?_
   simp only [wK, seval, c2, hxa, ea, sMM]
   refine qGI fun q2 hq2 => ?_
   cases q2 with
   | false =>
    simp only [wK, seval, sMM]
    exact k.dno sM fun x => zA hq2 rfl (x.2.2.2.2.2.1 _ (List.getElem_mem hi2))
   | true =>
   have hh := hq2.1 rfl
   simp only [wK, seval, sMM, c2, hxa, fa3]
   obtain ⟨fm, hfm⟩ : ∃ fm, fm = d.waits[i].firm := ⟨_, rfl⟩
   rw [<- hfm]
   cases fm with
   | true =>
    simp only [wK, seval, sMM]
    exact k.dno sM fun x => by have := x.2.2.2.2.2.2.2.1 _ (List.getElem_mem hi2); rw [<- hfm] at this; cases this
   | false =>
   simp only [wK, seval, sMM]
   have inner : (∀ (h0 : 0 < i), (d.waits[i - 1]'(by omega)).stamp < d.waits[i].stamp) -> (∀ a ∈ d.held, a.stamp ≠ d.waits[i].stamp) -> qLD d.held d.waits (i + 1) := fun a b => qTE hi2 hw ⟨hh, hfm.symm, b⟩ a
   refine qF (fun q3 => ?_) fun q3 => ?_
   ·have hi1 : i - 1 < d.waits.length := by omega
    have ecast : ((i - 1 : Nat) : Int) = (i : Int) - 1 := by omega
    obtain ⟨bb, ob, hxb, eb⟩ := yT (enc := zD) (sz := 4) yC rp hi1
    rw [ecast] at hxb
    have fb : hcel h2 bb ob = some (.int .i64 d.waits[i - 1].stamp) := zJ eb 0 rfl
    simp (disch := omega) only [wK, seval, c2, hxa, hxb, fa, fb, qK, sMM]
    refine yZ (fun q4 => ?_) fun q4 => ?_
    ·exact k.dno sM fun x => by
      have := x.2.2.2.2.2.2.1 (i - 1) (by omega)
      have e2 : i - 1 + 1 = i := by omega
      simp only [e2] at this
      omega
    ·have hstep : ∀ (h0 : 0 < i), (d.waits[i - 1]'(by omega)).stamp < d.waits[i].stamp := fun _ => q4
     try simp only [wK, seval, sMM]
     refine qP [5] (fun n vs h3 => ∃ q : Nat, vs = [.int .i64 q] /\ h3 = h2 /\ q <= d.held.length /\ n = d.held.length - q /\ ∀ a ∈ d.held.take q, a.stamp ≠ d.waits[i].stamp) d.held.length rfl ⟨0, rfl, rfl, by omega, rfl, by simp⟩ ?_
     rintro n3 f3 h3 ⟨q5, hv3, rfl, hq5, rfl, hne⟩
     simp only [lm4] at hv3
     simp only [wK, seval, wr, hv3, c1, rv.len]
     refine qF (fun q6 => ?_) fun q6 => ?_
     ·have hq6 : q5 < d.held.length := by omega
      obtain ⟨bk, ok, hxk, ek⟩ := yT (enc := zD) (sz := 4) yC rv hq6
      have fk : hcel h3 bk ok = some (.int .i64 d.held[q5].stamp) := zJ ek 0 rfl
      refine zC h3 (Sub.refl _) ?_
      simp only [wK, seval, c1, hxk, fk, c2, hxa, fa, sMM]
      refine zU (fun e => ?_) fun e => ?_
      ·exact k.dno sM fun x => x.2.2.2.2.2.2.2.2 _ (List.getElem_mem hi2) _ (List.getElem_mem hq6) e
      ·simp (disch := omega) only [wK, seval, qK]
       refine ⟨d.held.length - (q5 + 1), by omega, h3, .refl _, q5 + 1, by simp, rfl, by omega, rfl, fun a ha => ?_⟩
       rw [yK hq6] at ha
       rcases List.mem_append.1 ha with ha | ha
       ·exact hne a ha
       ·rw [List.mem_singleton.1 ha]; exact e
     ·have hq7 : q5 = d.held.length := by omega
      rw [hq7, List.take_length] at hne
      simp (disch := omega) only [wK, seval, qK]
      exact ⟨d.waits.length - (i + 1), by omega, h3, .refl _, i + 1, by simp, rfl, by omega, rfl, inner hstep hne⟩
   ·have hstep : ∀ (h0 : 0 < i), (d.waits[i - 1]'(by omega)).stamp < d.waits[i].stamp := fun h0 => by omega
    try simp only [wK, seval, sMM]
    refine qP [5] (fun n vs h3 => ∃ q : Nat, vs = [.int .i64 q] /\ h3 = h2 /\ q <= d.held.length /\ n = d.held.length - q /\ ∀ a ∈ d.held.take q, a.stamp ≠ d.waits[i].stamp) d.held.length rfl ⟨0, rfl, rfl, by omega, rfl, by simp⟩ ?_
    rintro n3 f3 h3 ⟨q5, hv3, rfl, hq5, rfl, hne⟩
    simp only [lm4] at hv3
    simp only [wK, seval, wr, hv3, c1, rv.len]
    refine qF (fun q6 => ?_) fun q6 => ?_
    ·have hq6 : q5 < d.held.length := by omega
     obtain ⟨bk, ok, hxk, ek⟩ := yT (enc := zD) (sz := 4) yC rv hq6
     have fk : hcel h3 bk ok = some (.int .i64 d.held[q5].stamp) := zJ ek 0 rfl
     refine zC h3 (Sub.refl _) ?_
     simp only [wK, seval, c1, hxk, fk, c2, hxa, fa, sMM]
     refine zU (fun e => ?_) fun e => ?_
     ·exact k.dno sM fun x => x.2.2.2.2.2.2.2.2 _ (List.getElem_mem hi2) _ (List.getElem_mem hq6) e
     ·simp (disch := omega) only [wK, seval, qK]
      refine ⟨d.held.length - (q5 + 1), by omega, h3, .refl _, q5 + 1, by simp, rfl, by omega, rfl, fun a ha => ?_⟩
      rw [yK hq6] at ha
      rcases List.mem_append.1 ha with ha | ha
      ·exact hne a ha
      ·rw [List.mem_singleton.1 ha]; exact e
    ·have hq7 : q5 = d.held.length := by omega
     rw [hq7, List.take_length] at hne
     simp (disch := omega) only [wK, seval, qK]
     exact ⟨d.waits.length - (i + 1), by omega, h3, .refl _, i + 1, by simp, rfl, by omega, rfl, inner hstep hne⟩
  ·have hi4 : i = d.waits.length := by omega
   rw [hi4] at hw
   try simp only [wK, seval]
   exact k.dyes sM (zGG (hq1.1 rfl) (by omega) hu hw)
end Go.Proofs.YtjioiemhgbkbfaaGreatDoor
end

section
namespace Go.Tk
open Go
theorem byStamp_some {l : List DHold} {s : Int} : (yY l s).isSome = true ↔ ∃ a ∈ l, a.stamp = s := by
 unfold yY
 rw [List.find?_isSome]
 simp
theorem qKW {l : List DHold} {s : Int} (h : (yY l s).isSome = false) : ∀ a ∈ l, a.stamp ≠ s := fun a ha e => by
 have := byStamp_some.2 ⟨a, ha, e⟩
 rw [h] at this; cases this
end Go.Tk
namespace Go.Proofs.YtjioiemhgbkbfaaGreatDoor
open Go Go.Tk
theorem zHC {h : H} {x : DHold} {R : Ending -> H -> Prop} (k : Asks R (qAQ x) h) : HCalls Tryz.prog 197 #[.agg (zD x).toArray] h R := by
 refine qD lite (args := [.agg (zD x).toArray]) Tryz.func197 ?_
 conv => arg 2; cbv
 simp only [wK, seval, yV]
 refine qC (o := blk (zD x) 171) fun j hj => ?_
 have s1 := Sub.cons (o := blk (zD x) 171) hj (Sub.refl h)
 simp only [wK, seval, yV]
 refine uF fun b1 hb1 => ?_
 cases b1 with
 | false =>
  simp only [wK, seval, yV]
  exact k.dno s1 fun p => zA hb1 rfl p.1
 | true =>
  simp only [wK, seval, yV]
  refine uF fun b2 hb2 => ?_
  simp only [wK, seval, yV]
  exact ⟨h, s1, k _ (by rw [hb2]; exact ⟨fun p => ⟨hb1.1 rfl, p⟩, fun p => p.2⟩)⟩
theorem meets_c {h : H} {x y : DHold} {R : Ending -> H -> Prop} (k : R (.returned (.bool (vM x y))) h) : HCalls Tryz.prog 184 #[.agg (zD x).toArray, .agg (zD y).toArray] h R := by
 refine qD lite (args := [.agg (zD x).toArray, .agg (zD y).toArray]) Tryz.func184 ?_
 conv => arg 2; cbv
 simp only [wK, seval, yV]
 refine qC (o := blk (zD x) 171) fun j hj => ?_
 simp only [wK, seval, yV]
 refine qC (o := blk (zD y) 171) fun j2 hj2 => ?_
 obtain ⟨A, hA⟩ : ∃ A, A = (j2, blk (zD y) 171) :: (j, blk (zD x) 171) :: h := ⟨_, rfl⟩
 have n2 := hj2
 simp only [subs] at n2
 have sA : Tk.Sub h A := by rw [hA]; exact Sub.cons hj2 (Sub.cons hj (Sub.refl _))
 have g2 : hget A j2 = some (blk (zD y) 171) := by rw [hA]; exact qJ _ _ _
 have g1 : hget A j = some (blk (zD x) 171) := by rw [hA, xL _ _ _ (fun e => n2.1 e.symm)]; exact qJ _ _ _
 have c10 : hcel A j 0 = some (.int .i64 x.stamp) := qE g1 rfl
 have c12 : hcel A j 2 = some (.bool x.share) := qE g1 rfl
 have c20 : hcel A j2 0 = some (.int .i64 y.stamp) := qE g2 rfl
 have c22 : hcel A j2 2 = some (.bool y.share) := qE g2 rfl
 rw [<- hA]
 unfold vM at k
 simp only [wK, seval, yV, c10, c20]
 by_cases d : x.stamp = y.stamp
 ·have e : (decide (x.stamp ≠ y.stamp) && !(x.share && y.share)) = false := by simp [d]
  rw [e] at k
  simp only [wK, seval, d, decide_true, Bool.not_true, c12, c22]
  exact ⟨h, sA, k⟩
 ·have e : (decide (x.stamp ≠ y.stamp) && !(x.share && y.share)) = !(x.share && y.share) := by simp [d]
  rw [e] at k
  cases e1 : x.share <;> cases e2 : y.share <;> rw [e1, e2] at k <;> rw [e1] at c12 <;> rw [e2] at c22 <;> simp only [wK, seval, d, decide_false, Bool.not_false, c12, c22] <;> exact ⟨h, sA, k⟩
def qFI (x : DHold) : Value := .func (.func 184) #[.agg (zD x).toArray] #[]
theorem qRG {h : H} {v : Value} {l : List DHold} {x : DHold} (r : rLs h zD 4 v l) (hl : l.length <= 1048576) {R : Ending -> H -> Prop} (k1 : l.any (vM x) = true -> ∀ n : Nat, R (.returned (.int .i64 n)) h) (k2 : l.any (vM x) = false -> R (.returned (.int .i64 (-1))) h) :
  HCalls Tryz.prog 198 #[v, qFI x] h R := by
 refine qD lite (args := [v, qFI x]) Tryz.func198 ?_
 conv => arg 2; cbv
 simp only [wK, seval, r.len]
 refine qP [8] (fun n vs h' => ∃ i : Nat, vs = [.int .i64 i] /\ h' = h /\ i <= l.length /\ n = l.length - i /\ (l.take i).any (vM x) = false) l.length rfl ⟨0, rfl, rfl, by omega, by omega, by simp⟩ ?_
 rintro n f h' ⟨i, hv, rfl, hi, rfl, ht⟩
 simp only [lm4] at hv
 simp only [wK, seval, wr, hv, r.len]
 refine qF (fun c => ?_) fun c => ?_
 ·have hi2 : i < l.length := by omega
  obtain ⟨b, o, hx, e⟩ := yT (enc := zD) (sz := 4) yC r hi2
  simp only [wK, seval, hx, e, qFI]
  refine ⟨by kernel_rfl, meets_c ?_⟩
  obtain ⟨q, hq⟩ : ∃ q, q = vM x l[i] := ⟨_, rfl⟩
  rw [<- hq]
  cases q with
  | true =>
   simp only [wK, seval]
   exact .of (k1 (List.any_eq_true.2 ⟨l[i], List.getElem_mem hi2, hq.symm⟩) i)
  | false =>
   simp (disch := omega) only [wK, seval, qK]
   exact ⟨l.length - (i + 1), by omega, h', .refl _, i + 1, by simp, rfl, by omega, rfl, by rw [qSV hi2, ht, <- hq]; rfl⟩
 ·have hi2 : i = l.length := by omega
  rw [hi2, List.take_length] at ht
  try simp only [wK, seval]
  exact .of (k2 ht)
theorem qJK {h : H} {v : Value} {l : List DHold} {x : DHold} (r : rLs h zD 4 v l) (hl : l.length <= 1048576) {R : Ending -> H -> Prop} (k : R (.returned (.bool (l.any (vM x)))) h) :
  HCalls Tryz.prog 183 #[v, qFI x] h R := by
 refine qD lite (args := [v, qFI x]) Tryz.func183 ?_
 conv => arg 2; cbv
 rw [qR]
 obtain ⟨F, hF⟩ : ∃ F, F = qFI x := ⟨_, rfl⟩
 rw [<- hF]
 simp only [wK, seval]
 rw [hF]
 refine qRG r hl (fun e n => ?_) fun e => ?_
 ·rw [e] at k
  have e2 : decide (0 <= (n : Int)) = true := by simp
  simp only [wK, seval, e2]
  exact .of k
 ·rw [e] at k
  simp only [wK, seval]
  exact .of k
theorem qME {h : H} {v : Value} {l : List DHold} (r : rLs h zD 4 v l) (hl : l.length <= 1048576) {R : Ending -> H -> Prop} (k : Asks R (allP qAQ l /\ risP (·.stamp) l) h) : HCalls Tryz.prog 182 #[v] h R := by
 refine qD lite (args := [v]) Tryz.func182 ?_
 conv => arg 2; cbv
 simp only [wK, seval, r.len]
 refine qP [7] (fun n vs h' => ∃ i : Nat, vs = [.int .i64 i] /\ h' = h /\ i <= l.length /\ n = l.length - i /\ allP qAQ (l.take i) /\ risU (·.stamp) l i) l.length rfl ⟨0, rfl, rfl, by omega, by omega, xD _ _, xC _ _⟩ ?_
 rintro n f h' ⟨i, hv, rfl, hi, rfl, ht, hu⟩
 simp only [lm4] at hv
 simp only [wK, seval, wr, hv, r.len]
 refine qF (fun c => ?_) fun c => ?_
 ·have hi2 : i < l.length := by omega
  obtain ⟨ba, oa, hxa, ea⟩ := yT (enc := zD) (sz := 4) yC r hi2
  obtain ⟨x, hxx⟩ : ∃ x, x = l[i] := ⟨_, rfl⟩
  rw [<- hxx] at ea
  have zh := qDD
  simp only [wK, seval, hxa, ea, zh, yV]
  refine qC (o := blk (zD qCG) 171) fun j4 h4 => ?_
  try simp only [wK, seval, zh, yV]
  obtain ⟨B, hB⟩ : ∃ B, B = (j4, blk (zD x) 171) :: h' := ⟨_, rfl⟩
  have sB : Tk.Sub h' B := by rw [hB]; exact Sub.cons h4 (Sub.refl _)
  have gB : hget B j4 = some (blk (zD x) 171) := by rw [hB]; exact qJ _ _ _
  have rd : qT B j4 0 4 = some (zD x) := zH gB rfl
  have c40 : hcel B j4 0 = some (.int .i64 x.stamp) := qE gB rfl
  have sBB := Sub.refl B
  rw [<- hB]
  refine zC B (Sub.refl _) ?_
  simp only [wK, seval, rd, sBB]
  refine zHC fun q2 hq2 => ?_
  cases q2 with
  | false =>
   simp only [wK, seval, sBB]
   exact k.dno sB fun y => zA hq2 rfl (by have := y.1 _ (List.getElem_mem hi2); rw [<- hxx] at this; exact this)
  | true =>
  have hh : qAQ l[i] := hxx ▸ hq2.1 rfl
  simp only [wK, seval, sBB]
  refine qF (fun q3 => ?_) fun q3 => ?_
  ·have ecast : ((i - 1 : Nat) : Int) = (i : Int) - 1 := by omega
   obtain ⟨bb, ob, hxb, eb⟩ := yT (enc := zD) (sz := 4) yC r (i := i - 1) (by omega)
   rw [ecast] at hxb
   have fb : hcel B bb ob = some (.int .i64 l[i - 1].stamp) := yE sB (zJ eb 0 rfl)
   simp (disch := omega) only [wK, seval, hxb, fb, c40, qK, sBB]
   refine yZ (fun q4 => ?_) fun q4 => ?_
   ·exact k.dno sB fun y => by
     have := y.2 (i - 1) (by omega)
     have e2 : i - 1 + 1 = i := by omega
     simp only [e2, <- hxx] at this
     omega
   ·exact ⟨l.length - (i + 1), by omega, h', sB, i + 1, by simp, rfl, by omega, rfl, yH hi2 ht hh, xR hi2 (by omega) hu (by rw [<- hxx]; exact q4)⟩
  ·simp (disch := omega) only [wK, seval, sBB, qK]
   exact ⟨l.length - (i + 1), by omega, h', sB, i + 1, by simp, rfl, by omega, rfl, yH hi2 ht hh, wE (by omega) hu⟩
 ·try simp only [wK, seval]
  exact .of (k.yes ⟨xM (by omega) ht, xS (by omega) hu⟩)
theorem qOF {h : H} {d : DLock} {v p : Value} (r : sLock h d v p) (b1 : d.held.length <= 1048576) (b2 : d.waits.length <= 1048576) {R : Ending -> H -> Prop} (k : Asks R (qIN d) h) : HCalls Tryz.prog 163 #[.agg (zP d v p).toArray] h R := by
 refine qD lite (args := [.agg (zP d v p).toArray]) Tryz.func163 ?_
 conv => arg 2; cbv
 simp only [wK, seval, xN]
 refine qC (o := blk (zP d v p) 81) fun j1 h1 => ?_
 obtain ⟨M, hM⟩ : ∃ M, M = (j1, blk (zP d v p) 81) :: h := ⟨_, rfl⟩
 have sM : Tk.Sub h M := by rw [hM]; exact Sub.cons h1 (Sub.refl _)
 have gM : hget M j1 = some (blk (zP d v p) 81) := by rw [hM]; exact qJ _ _ _
 have c0 : hcel M j1 0 = some (.int .i64 d.slot) := qE gM rfl
 have c1 : hcel M j1 1 = some v := qE gM rfl
 have c2 : hcel M j1 2 = some p := qE gM rfl
 have rv : rLs M zD 4 v d.held := r.1.sub sM
 have rp : rLs M zD 4 p d.waits := r.2.sub sM
 rw [<- hM]
 try simp only [wK, seval, c0]
 refine qED fun q1 hq1 => ?_
 cases q1 with
 | false =>
  simp only [wK, seval]
  exact k.dno sM fun x => zA hq1 rfl x.1
 | true =>
 simp (disch := omega) only [wK, seval, c1, c2, rv.len, rp.len, qK]
 refine qF (fun e => k.dno sM fun x => by have := x.2.1; omega) fun e16 => ?_
 try simp only [wK, seval, c1]
 refine qME rv b1 fun q2 hq2 => ?_
 cases q2 with
 | false =>
  simp only [wK, seval]
  exact k.dno sM fun x => zA hq2 rfl ⟨x.2.2.1, x.2.2.2.1⟩
 | true =>
 simp only [wK, seval, c2]
 refine qME rp b2 fun q3 hq3 => ?_
 cases q3 with
 | false =>
  simp only [wK, seval]
  exact k.dno sM fun x => zA hq3 rfl ⟨x.2.2.2.2.2.1, x.2.2.2.2.2.2.1⟩
 | true =>
 have hheld := hq2.1 rfl
 have hwait := hq3.1 rfl
 have zh := qDD
 simp only [wK, seval, c1, rv.len]
 refine qP [38] (fun n vs h' => ∃ i : Nat, vs = [.int .i64 i] /\ h' = M /\ i <= d.held.length /\ n = d.held.length - i /\ ∀ x ∈ d.held.take i, d.held.any (vM x) = false) d.held.length rfl ⟨0, rfl, rfl, by omega, by omega, by simp⟩ ?_
 rintro n f h' ⟨i, hv, rfl, hi, rfl, hm⟩
 simp only [lm4] at hv
 simp only [wK, seval, wr, hv]
 refine qF (fun q => ?_) fun q => ?_
 ·have hi2 : i < d.held.length := by omega
  obtain ⟨ba, oa, hxa, ea⟩ := yT (enc := zD) (sz := 4) yC rv hi2
  obtain ⟨x, hxx⟩ : ∃ x, x = d.held[i] := ⟨_, rfl⟩
  rw [<- hxx] at ea
  simp only [wK, seval, hxa, ea, zh, yV]
  refine qC (o := blk (zD qCG) 171) fun j4 h4 => ?_
  try simp only [wK, seval, zh, yV]
  obtain ⟨B, hB⟩ : ∃ B, B = (j4, blk (zD x) 171) :: h' := ⟨_, rfl⟩
  have sB : Tk.Sub h' B := by rw [hB]; exact Sub.cons h4 (Sub.refl _)
  have gB : hget B j4 = some (blk (zD x) 171) := by rw [hB]; exact qJ _ _ _
  have rd : qT B j4 0 4 = some (zD x) := zH gB rfl
  have c1B := yE sB c1
  rw [<- hB]
  simp only [wK, seval, c1B, rd]
  refine qJK (x := x) (rLs.sub sB rv) b1 ?_
  obtain ⟨mb, hmb⟩ : ∃ mb, mb = d.held.any (vM x) := ⟨_, rfl⟩
  rw [<- hmb]
  cases mb with
  | true =>
   simp only [wK, seval]
   exact k.dno (sM.trans sB) fun y => by
    obtain ⟨z, hz, e⟩ := List.any_eq_true.1 hmb.symm
    have := y.2.2.2.2.1 x (hxx ▸ List.getElem_mem hi2) z hz
    rw [this] at e; cases e
  | false =>
   simp (disch := omega) only [wK, seval, qK]
   refine ⟨d.held.length - (i + 1), by omega, h', sB, i + 1, by simp, rfl, by omega, rfl, fun z hz => ?_⟩
   rw [yK hi2] at hz
   rcases List.mem_append.1 hz with hz | hz
   ·exact hm z hz
   ·rw [List.mem_singleton.1 hz, <- hxx]; exact hmb.symm
 ·have hi3 : i = d.held.length := by omega
  rw [hi3, List.take_length] at hm
  have hmeet : ∀ a ∈ d.held, ∀ b ∈ d.held, vM a b = false := fun a ha b hb => by simpa using List.any_eq_false.1 (hm a ha) b hb
  simp only [wK, seval, c2, rp.len]
  refine qP [51] (fun n vs h2 => ∃ i : Nat, vs = [.int .i64 i] /\ h2 = h' /\ i <= d.waits.length /\ n = d.waits.length - i /\ ∀ x ∈ d.waits.take i, x.firm = false /\ ∀ a ∈ d.held, a.stamp ≠ x.stamp) d.waits.length rfl ⟨0, rfl, rfl, by omega, by omega, by simp⟩ ?_
  rintro n f2 h2 ⟨i, hv2, rfl, hi2', rfl, hw⟩
  simp only [lm4] at hv2
  simp only [wK, seval, wr, hv2]
  refine qF (fun q => ?_) fun q => ?_
  ·have hi2 : i < d.waits.length := by omega
   obtain ⟨ba, oa, hxa, ea⟩ := yT (enc := zD) (sz := 4) yC rp hi2
   obtain ⟨x, hxx⟩ : ∃ x, x = d.waits[i] := ⟨_, rfl⟩
   have hxm : x ∈ d.waits := hxx ▸ List.getElem_mem hi2
   rw [<- hxx] at ea
   simp only [wK, seval, hxa, ea, zh, yV]
   refine qC (o := blk (zD qCG) 171) fun j6 h6 => ?_
   try simp only [wK, seval, zh, yV]
   obtain ⟨B, hB⟩ : ∃ B, B = (j6, blk (zD x) 171) :: h2 := ⟨_, rfl⟩
   have sB : Tk.Sub h2 B := by rw [hB]; exact Sub.cons h6 (Sub.refl _)
   have gB : hget B j6 = some (blk (zD x) 171) := by rw [hB]; exact qJ _ _ _
   have c60 : hcel B j6 0 = some (.int .i64 x.stamp) := qE gB rfl
   have c63 : hcel B j6 3 = some (.bool x.firm) := qE gB rfl
   have c1B := yE sB c1
   rw [<- hB]
   simp only [wK, seval, c1B, c60]
   refine qGF (s := x.stamp) (rLs.sub sB rv) (by omega) hheld.2 fun pp hpl hpp => ?_
   obtain ⟨hs, hhs⟩ : ∃ hs, hs = (yY d.held x.stamp).isSome := ⟨_, rfl⟩
   rw [<- hhs]
   cases hs with
   | true =>
    simp only [wK, seval]
    exact k.dno (sM.trans sB) fun y => by
     obtain ⟨a, ha, e⟩ := byStamp_some.1 hhs.symm
     exact y.2.2.2.2.2.2.2.2 x hxm a ha e
   | false =>
    obtain ⟨fm, hfm⟩ : ∃ fm, fm = x.firm := ⟨_, rfl⟩
    rw [<- hfm] at c63
    simp only [wK, seval, c63]
    cases fm with
    | true =>
     simp only [wK, seval]
     exact k.dno (sM.trans sB) fun y => by have := y.2.2.2.2.2.2.2.1 x hxm; rw [<- hfm] at this; cases this
    | false =>
     simp (disch := omega) only [wK, seval, qK]
     refine ⟨d.waits.length - (i + 1), by omega, h2, sB, i + 1, by simp, rfl, by omega, rfl, fun z hz => ?_⟩
     rw [yK hi2] at hz
     rcases List.mem_append.1 hz with hz | hz
     ·exact hw z hz
     ·rw [List.mem_singleton.1 hz, <- hxx]; exact ⟨hfm.symm, qKW hhs.symm⟩
  ·have hi4 : i = d.waits.length := by omega
   rw [hi4, List.take_length] at hw
   try simp only [wK, seval]
   exact k.dyes sM ⟨hq1.1 rfl, by omega, hheld.1, hheld.2, hmeet, hwait.1, hwait.2, fun x hx => (hw x hx).1, fun x hx => (hw x hx).2⟩
end Go.Proofs.YtjioiemhgbkbfaaGreatDoor
end

section
namespace Go.Proofs.YtjioiemhgbkbfaaGreatDoor
open Go Go.Tk
theorem l21In_c {h : H} {v : Value} {l : List Int} {a : Int} (r : rInts h v l) (hl : l.length <= 1048576) {R : Ending -> H -> Prop} (k : R (.returned (.bool (l.contains a))) h) : HCalls Tryz.prog 135 #[v, .int .i64 a] h R := by
 refine qD lite (args := [v, .int .i64 a]) Tryz.func135 ?_
 conv => arg 2; cbv
 simp only [wK, seval]
 refine qP [5] (fun n vs h' => ∃ i : Nat, vs = [.int .i64 i] /\ h' = h /\ (l.take i).contains a = false /\ i <= l.length /\ n = l.length - i) l.length rfl ⟨0, rfl, rfl, rfl, by omega, rfl⟩ ?_
 rintro n f h' ⟨i, hv, rfl, hn, hi, rfl⟩
 simp only [lm4] at hv
 simp only [wK, seval, wr, hv, r.len]
 refine qF (fun c1 => ?_) fun c1 => ?_
 ·have hi2 : i < l.length := by omega
  obtain ⟨b, o, hx, e⟩ := yT (enc := eI) (sz := 1) (fun _ => rfl) r hi2
  have e0 : hcel h' b o = some (.int .i64 l[i]) := zJ e 0 rfl
  simp only [wK, seval, hx, e0]
  by_cases d1 : l[i] = a
  ·have : l.contains a = true := by rw [List.contains_iff_mem, <- d1]; exact List.getElem_mem hi2
   rw [this] at k
   simp only [wK, seval, d1, decide_true]
   exact .of k
  ·simp only [wK, seval, d1, decide_false]
   simp (disch := omega) only [wK, seval, qK]
   refine ⟨l.length - (i + 1), by omega, h', .refl _, i + 1, by simp, rfl, ?_, by omega, rfl⟩
   rw [List.take_succ_eq_append_getElem hi2, <- Bool.not_eq_true, List.contains_iff_mem]
   rw [<- Bool.not_eq_true, List.contains_iff_mem] at hn
   simp only [List.mem_append, List.mem_singleton]
   rintro (q | q)
   ·exact hn q
   ·exact d1 q.symm
 ·have hi3 : i = l.length := by omega
  rw [hi3, List.take_length] at hn
  rw [hn] at k
  try simp only [wK, seval]
  exact .of k
end Go.Proofs.YtjioiemhgbkbfaaGreatDoor
end

section
namespace Go.Tk
open Go
theorem zAW {l : List DRec} {i : Nat} (hi : i < l.length) (h : ∀ j (hj : j < l.length), j < i -> vP (l.take j) l[j]) (x : vP (l.take i) l[i]) : ∀ j (hj : j < l.length), j < i + 1 -> vP (l.take j) l[j] := by
 intro j hj hn
 by_cases e : j = i
 ·subst e; exact x
 ·exact h j hj (by omega)
end Go.Tk
namespace Go.Proofs.YtjioiemhgbkbfaaGreatDoor
open Go Go.Tk
theorem qLW {h : H} {st tr wh : Int} {v : Value} {sl : List Int} (r : rInts h v sl) (hl : sl.length <= 1099511627776) {R : Ending -> H -> Prop} (k : Asks R (qMN st tr wh sl) h) : HCalls Tryz.prog 92 #[.int .i64 st, .int .i64 tr, .int .i64 wh, v] h R := by
 refine qD lite (args := [.int .i64 st, .int .i64 tr, .int .i64 wh, v]) Tryz.func92 ?_
 conv => arg 2; cbv
 simp only [wK, seval]
 refine zY fun q1 h1 => ?_
 cases q1 with
 | false => simp only [wK, seval]; exact .of (k.no fun p => zA h1 rfl p.1)
 | true =>
 simp only [wK, seval]
 refine zY fun q2 h2 => ?_
 cases q2 with
 | false => simp only [wK, seval]; exact .of (k.no fun p => zA h2 rfl p.2.1)
 | true =>
 simp only [wK, seval]
 refine zY fun q3 h3 => ?_
 cases q3 with
 | false => simp only [wK, seval]; exact .of (k.no fun p => zA h3 rfl p.2.2.1)
 | true =>
 simp only [wK, seval, r.len]
 by_cases c1 : (sl.length : Int) < 1
 ·simp only [wK, seval, c1, decide_true]
  exact .of (k.no fun p => p.2.2.2.1 (List.eq_nil_of_length_eq_zero (by omega)))
 ·simp only [wK, seval, c1, decide_false]
  have hne : sl ≠ [] := fun e => by rw [e] at c1; simp at c1
  refine qIU r hl fun q4 h4 => ?_
  cases q4 with
  | false => simp only [wK, seval]; exact .of (k.no fun p => zA h4 rfl p.2.2.2.2.1)
  | true =>
  simp only [wK, seval]
  by_cases w1 : wh = 1
  ·simp only [wK, seval, w1, decide_true]
   exact .of (k.yes ⟨h1.1 rfl, h2.1 rfl, h3.1 rfl, hne, h4.1 rfl, .inl w1⟩)
  ·simp only [wK, seval, w1, decide_false, r.len]
   by_cases w2 : (sl.length : Int) = 1
   ·simp only [wK, seval, w2, decide_true]
    exact .of (k.yes ⟨h1.1 rfl, h2.1 rfl, h3.1 rfl, hne, h4.1 rfl, .inr (by omega)⟩)
   ·simp only [wK, seval, w2, decide_false]
    exact .of (k.no fun p => p.2.2.2.2.2.elim w1 (fun c => w2 (by omega)))
theorem qUV {h : H} {d : DRec} {v p : Value} (r : sRec h d v p) (b1 : d.slots.length <= 1099511627776) (b2 : d.pairs.length <= 1099511627776) {R : Ending -> H -> Prop} (k : Asks R (recP d) h) : HCalls Tryz.prog 89 #[.agg (cRec d v p).toArray] h R := by
 refine qD lite (args := [.agg (cRec d v p).toArray]) Tryz.func89 ?_
 conv => arg 2; cbv
 simp only [wK, seval, wRec]
 refine qC (o := blk (cRec d v p) 137) fun j1 h1 => ?_
 obtain ⟨M, hM⟩ : ∃ M, M = (j1, blk (cRec d v p) 137) :: h := ⟨_, rfl⟩
 have sM : Tk.Sub h M := by rw [hM]; exact Sub.cons h1 (Sub.refl _)
 have gM : hget M j1 = some (blk (cRec d v p) 137) := by rw [hM]; exact qJ _ _ _
 have c0 : hcel M j1 0 = some (.int .i64 d.kind) := qE gM rfl
 have c1 : hcel M j1 1 = some (.int .i64 d.stamp) := qE gM rfl
 have c2 : hcel M j1 2 = some (.int .i64 d.try_) := qE gM rfl
 have c3 : hcel M j1 3 = some (.int .i64 d.what) := qE gM rfl
 have c4 : hcel M j1 4 = some v := qE gM rfl
 have c5 : hcel M j1 5 = some p := qE gM rfl
 have r1 := rLs.sub sM r.1
 have r2 := rLs.sub sM r.2
 have nil2 : (d.pairs.length : Int) = 0 ↔ d.pairs = [] := ⟨fun e => List.eq_nil_of_length_eq_zero (by omega), fun e => by rw [e]; rfl⟩
 have nil1 : (d.slots.length : Int) = 0 ↔ d.slots = [] := ⟨fun e => List.eq_nil_of_length_eq_zero (by omega), fun e => by rw [e]; rfl⟩
 rw [<- hM]
 simp only [wK, seval, c0]
 by_cases k1 : d.kind = 1
 ·simp only [wK, seval, k1, decide_true, c1, c2, c3, c4]
  refine qLW r1 b1 fun q hq => ?_
  cases q with
  | false =>
   simp only [wK, seval]
   exact k.dno sM fun x => by
    rcases x with x | x
    ·exact zA hq rfl x.2.1
    ·exact x.1 k1
  | true =>
   simp only [wK, seval, c5, r2.len]
   by_cases e : (d.pairs.length : Int) = 0
   ·simp only [wK, seval, e, decide_true]
    exact k.dyes sM (.inl ⟨k1, hq.1 rfl, nil2.1 e⟩)
   ·simp only [wK, seval, e, decide_false]
    exact k.dno sM fun x => by
     rcases x with x | x
     ·exact e (nil2.2 x.2.2)
     ·exact x.1 k1
 ·simp only [wK, seval, k1, decide_false, c0]
  have no : ¬ ((d.kind = 2 ∨ (d.kind = 3 /\ d.pairs = [])) /\ vQ d.stamp /\ vQ d.try_ /\ d.what = 0 /\ d.slots = [] /\ xH d.pairs) -> ¬ recP d := fun c x => by
   rcases x with x | x
   ·exact k1 x.1
   ·exact c x.2
  by_cases k2 : d.kind = 2
  ·simp only [wK, seval, k2, decide_true, c1]
   have good : d.kind = 2 ∨ (d.kind = 3 /\ d.pairs = []) := .inl k2
   refine zY fun q1 h1 => ?_
   cases q1 with
   | false =>
    simp only [wK, seval]
    exact k.dno sM (no fun x => zA h1 rfl x.2.1)
   | true =>
   simp only [wK, seval, c2]
   refine zY fun q2 h2 => ?_
   cases q2 with
   | false =>
    simp only [wK, seval]
    exact k.dno sM (no fun x => zA h2 rfl x.2.2.1)
   | true =>
   simp only [wK, seval, c3]
   by_cases e3 : d.what = 0
   ·simp only [wK, seval, e3, decide_true, c4, r1.len]
    by_cases e4 : (d.slots.length : Int) = 0
    ·simp only [wK, seval, e4, decide_true, c5]
     refine kN r2 b2 fun q5 h5 => ?_
     cases q5 with
     | false =>
      simp only [wK, seval]
      exact k.dno sM (no fun x => zA h5 rfl x.2.2.2.2.2)
     | true =>
      simp only [wK, seval]
      exact k.dyes sM (.inr ⟨k1, good, h1.1 rfl, h2.1 rfl, e3, nil1.1 e4, h5.1 rfl⟩)
    ·simp only [wK, seval, e4, decide_false]
     exact k.dno sM (no fun x => e4 (nil1.2 x.2.2.2.2.1))
   ·simp only [wK, seval, e3, decide_false]
    exact k.dno sM (no fun x => e3 x.2.2.2.1)
  ·simp only [wK, seval, k2, decide_false, c0]
   by_cases k3 : d.kind = 3
   ·simp only [wK, seval, k3, decide_true, c5, r2.len]
    by_cases e : (d.pairs.length : Int) = 0
    ·simp only [wK, seval, e, decide_true, c1]
     have good : d.kind = 2 ∨ (d.kind = 3 /\ d.pairs = []) := .inr ⟨k3, nil2.1 e⟩
     refine zY fun q1 h1 => ?_
     cases q1 with
     | false =>
      simp only [wK, seval]
      exact k.dno sM (no fun x => zA h1 rfl x.2.1)
     | true =>
     simp only [wK, seval, c2]
     refine zY fun q2 h2 => ?_
     cases q2 with
     | false =>
      simp only [wK, seval]
      exact k.dno sM (no fun x => zA h2 rfl x.2.2.1)
     | true =>
     simp only [wK, seval, c3]
     by_cases e3 : d.what = 0
     ·simp only [wK, seval, e3, decide_true, c4, r1.len]
      by_cases e4 : (d.slots.length : Int) = 0
      ·simp only [wK, seval, e4, decide_true, c5]
       refine kN r2 b2 fun q5 h5 => ?_
       cases q5 with
       | false =>
        simp only [wK, seval]
        exact k.dno sM (no fun x => zA h5 rfl x.2.2.2.2.2)
       | true =>
        simp only [wK, seval]
        exact k.dyes sM (.inr ⟨k1, good, h1.1 rfl, h2.1 rfl, e3, nil1.1 e4, h5.1 rfl⟩)
      ·simp only [wK, seval, e4, decide_false]
       exact k.dno sM (no fun x => e4 (nil1.2 x.2.2.2.2.1))
     ·simp only [wK, seval, e3, decide_false]
      exact k.dno sM (no fun x => e3 x.2.2.2.1)
    ·simp only [wK, seval, e, decide_false]
     exact k.dno sM (no fun x => x.1.elim k2 fun y => e (nil2.2 y.2))
   ·simp only [wK, seval, k3, decide_false]
    exact k.dno sM (no fun x => x.1.elim k2 fun y => k3 y.1)
theorem qKL {h : H} {v : Value} {l : List DRec} {s t : Int} (r : rRs h (rRec h) 6 v l) (hl : l.length <= 1048576) {R : Ending -> H -> Prop} (k1 : ∀ n (hn : n < l.length), yI l s t = some l[n] -> R (.returned (.int .i64 (n : Nat))) h) (k2 : yI l s t = none -> R (.returned (.int .i64 (-1))) h) :
  HCalls Tryz.prog 90 #[v, .int .i64 s, .int .i64 t] h R := by
 refine qD lite (args := [v, .int .i64 s, .int .i64 t]) Tryz.func90 ?_
 conv => arg 2; cbv
 simp only [wK, seval]
 refine qP [7] (fun n vs h' => ∃ i : Nat, vs = [.int .i64 i] /\ h' = h /\ i <= l.length /\ n = l.length - i /\ yI (l.take i) s t = none) l.length rfl ⟨0, rfl, rfl, by omega, by omega, by simp [yI]⟩ ?_
 rintro n f h' ⟨i, hv, rfl, hi, rfl, ht⟩
 simp only [lm4] at hv
 simp only [wK, seval, wr, hv, r.len]
 refine qF (fun c => ?_) fun c => ?_
 ·have hi2 : i < l.length := by omega
  obtain ⟨b1, o1, cs, hx, e1, va, vb, rfl, sr⟩ := zX r hi2
  have f0 : hcel h' b1 o1 = some (.int .i64 l[i].kind) := zJ e1 0 rfl
  have f1 : hcel h' b1 (o1 + 1) = some (.int .i64 l[i].stamp) := zJ e1 1 rfl
  have f2 : hcel h' b1 (o1 + 2) = some (.int .i64 l[i].try_) := zJ e1 2 rfl
  have next : uL s t l[i] = false -> ∃ m, m < l.length - i /\ ∃ gg, Tk.Sub gg h' /\ ∃ i' : Nat, [Value.int IntKind.i64 ((i : Int) + 1)] = [.int .i64 i'] /\ gg = h' /\ i' <= l.length /\ m = l.length - i' /\ yI (l.take i') s t = none := fun e =>
   ⟨l.length - (i + 1), by omega, h', .refl _, i + 1, by simp, rfl, by omega, rfl, qBI hi2 ht e⟩
  simp only [wK, seval, hx, f0]
  by_cases c0 : l[i].kind = 1
  ·by_cases c1 : l[i].stamp = s
   ·by_cases c2 : l[i].try_ = t
    ·simp only [wK, seval, c0, c1, c2, decide_true, hx, f1, f2]
     exact .of (k1 i hi2 (qFN hi2 ht (by unfold uL; simp [c0, c1, c2])))
    ·simp only [wK, seval, c0, c1, c2, decide_true, decide_false, hx, f1, f2]
     simp (disch := omega) only [wK, seval, qK]
     exact next (by unfold uL; simp [c2])
   ·simp only [wK, seval, c0, c1, decide_true, decide_false, hx, f1]
    simp (disch := omega) only [wK, seval, qK]
    exact next (by unfold uL; simp [c1])
  ·simp only [wK, seval, c0, decide_false]
   simp (disch := omega) only [wK, seval, qK]
   exact next (by unfold uL; simp [c0])
 ·have hi2 : i = l.length := by omega
  subst hi2
  rw [List.take_length] at ht
  try simp only [wK, seval]
  exact .of (k2 ht)
theorem qIT {h : H} {v : Value} {l : List DRec} {s t : Int} (r : rRs h (rRec h) 6 v l) (hl : l.length <= 1048576) {R : Ending -> H -> Prop} (k1 : vS l s t = true -> ∀ n : Nat, R (.returned (.int .i64 n)) h) (k2 : vS l s t = false -> R (.returned (.int .i64 (-1))) h) :
  HCalls Tryz.prog 73 #[v, .int .i64 s, .int .i64 t] h R := by
 refine qD lite (args := [v, .int .i64 s, .int .i64 t]) Tryz.func73 ?_
 conv => arg 2; cbv
 simp only [wK, seval]
 refine qP [7] (fun n vs h' => ∃ i : Nat, vs = [.int .i64 i] /\ h' = h /\ i <= l.length /\ n = l.length - i /\ (l.take i).any (endB s t) = false) l.length rfl ⟨0, rfl, rfl, by omega, by omega, by simp⟩ ?_
 rintro n f h' ⟨i, hv, rfl, hi, rfl, ht⟩
 simp only [lm4] at hv
 simp only [wK, seval, wr, hv, r.len]
 refine qF (fun c => ?_) fun c => ?_
 ·have hi2 : i < l.length := by omega
  obtain ⟨b1, o1, cs, hx, e1, va, vb, rfl, sr⟩ := zX r hi2
  have f0 : hcel h' b1 o1 = some (.int .i64 l[i].kind) := zJ e1 0 rfl
  have f1 : hcel h' b1 (o1 + 1) = some (.int .i64 l[i].stamp) := zJ e1 1 rfl
  have f2 : hcel h' b1 (o1 + 2) = some (.int .i64 l[i].try_) := zJ e1 2 rfl
  have next : endB s t l[i] = false -> ∃ m, m < l.length - i /\ ∃ gg, Tk.Sub gg h' /\ ∃ i' : Nat, [Value.int IntKind.i64 ((i : Int) + 1)] = [.int .i64 i'] /\ gg = h' /\ i' <= l.length /\ m = l.length - i' /\ (l.take i').any (endB s t) = false := fun e =>
   ⟨l.length - (i + 1), by omega, h', .refl _, i + 1, by simp, rfl, by omega, rfl, by rw [qSV hi2, ht, e]; rfl⟩
  simp only [wK, seval, hx, f0]
  by_cases c0 : l[i].kind = 1
  ·simp only [wK, seval, c0, decide_true, Bool.not_true]
   simp (disch := omega) only [wK, seval, qK]
   exact next (by unfold endB; simp [c0])
  ·by_cases c1 : l[i].stamp = s
   ·by_cases c2 : l[i].try_ = t
    ·simp only [wK, seval, c0, c1, c2, decide_true, decide_false, Bool.not_false, hx, f1, f2]
     exact .of (k1 (List.any_eq_true.2 ⟨l[i], List.getElem_mem hi2, by unfold endB; simp [c0, c1, c2]⟩) i)
    ·simp only [wK, seval, c0, c1, c2, decide_true, decide_false, Bool.not_false, hx, f1, f2]
     simp (disch := omega) only [wK, seval, qK]
     exact next (by unfold endB; simp [c2])
   ·simp only [wK, seval, c0, c1, decide_true, decide_false, Bool.not_false, hx, f1]
    simp (disch := omega) only [wK, seval, qK]
    exact next (by unfold endB; simp [c1])
 ·have hi2 : i = l.length := by omega
  subst hi2
  rw [List.take_length] at ht
  try simp only [wK, seval]
  exact .of (k2 ht)
theorem qRC {h : H} {v w : Value} {l : List (Int × Int)} {sl : List Int} (r : rPairs h v l) (rw' : rInts h w sl) (hl : l.length <= 1048576) (hs : sl.length <= 1048576) {R : Ending -> H -> Prop} (k : R (.returned (.bool (l.all (yW sl)))) h) :
  HCalls Tryz.prog 91 #[v, w] h R := by
 refine qD lite (args := [v, w]) Tryz.func91 ?_
 conv => arg 2; cbv
 simp only [wK, seval]
 refine qP [5] (fun n vs h' => ∃ i : Nat, vs = [.int .i64 i] /\ h' = h /\ i <= l.length /\ n = l.length - i /\ (l.take i).all (yW sl) = true) l.length rfl ⟨0, rfl, rfl, by omega, by omega, by simp⟩ ?_
 rintro n f h' ⟨i, hv, rfl, hi, rfl, ht⟩
 simp only [lm4] at hv
 simp only [wK, seval, wr, hv, r.len]
 refine qF (fun c => ?_) fun c => ?_
 ·have hi2 : i < l.length := by omega
  obtain ⟨b1, o1, hx, e1⟩ := yT (enc := eP) (sz := 2) xA r hi2
  have f0 : hcel h' b1 o1 = some (.int .i64 l[i].1) := zJ e1 0 rfl
  simp only [wK, seval, hx, f0]
  refine qKH ?_
  simp only [wK, seval]
  refine l21In_c rw' hs ?_
  obtain ⟨q, hq⟩ : ∃ q, q = sl.contains (uC l[i].1) := ⟨_, rfl⟩
  rw [<- hq]
  cases q with
  | false =>
   simp only [wK, seval]
   have : l.all (yW sl) = false := List.all_eq_false.2 ⟨l[i], List.getElem_mem hi2, by unfold yW; rw [<- hq]; simp⟩
   rw [this] at k
   exact .of k
  | true =>
   simp (disch := omega) only [wK, seval, qK]
   exact ⟨l.length - (i + 1), by omega, h', .refl _, i + 1, by simp, rfl, by omega, rfl, by rw [qJV hi2, ht]; unfold yW; rw [<- hq]; rfl⟩
 ·have hi2 : i = l.length := by omega
  subst hi2
  rw [List.take_length] at ht
  rw [ht] at k
  try simp only [wK, seval]
  exact .of k
end Go.Proofs.YtjioiemhgbkbfaaGreatDoor
end

section
namespace Go.Tk
open Go
theorem zAE {l : List Int} (h : qHX l) : ∀ s ∈ l, 0 <= s /\ s <= 7 := fun s hs => h.1 s hs
theorem qQJ {log : List DRec} (h : logP log) : ∀ r ∈ qCI log, ∀ s ∈ r.slots, 0 <= s /\ s <= 7 := by
 intro r hr
 unfold qCI at hr
 obtain ⟨h1, h2⟩ := List.mem_filter.1 hr
 obtain ⟨i, hi, rfl⟩ := List.getElem_of_mem h1
 have hf := h.2 i hi
 simp only [Bool.and_eq_true, decide_eq_true_eq] at h2
 rcases hf.1 with x | x
 ·exact zAE x.2.1.2.2.2.2.1
 ·exact absurd h2.1 x.1
end Go.Tk
namespace Go.Proofs.YtjioiemhgbkbfaaGreatDoor
open Go Go.Tk
theorem qUW {h : H} {v : Value} {l : List DRec} (r : rRs h (rRec h) 6 v l) (hb : ∀ x ∈ l, bRec x) (hl : l.length <= 1048576) {R : Ending -> H -> Prop} (k : Asks R (logP l) h) : HCalls Tryz.prog 45 #[v] h R := by
 refine yM (args := [v]) Tryz.func45 ir45 ?_
 simp only [wK, seval, r.len]
 refine qF (fun e => .of (k.no fun x => by have := x.1; omega)) fun e400 => ?_
 refine qP [3] (fun n vs h' => ∃ i : Nat, vs = [.int .i64 i] /\ h' = h /\ i <= l.length /\ n = l.length - i /\ ∀ j (hj : j < l.length), j < i -> vP (l.take j) l[j]) l.length rfl ⟨0, rfl, rfl, by omega, rfl, fun j hj hn => absurd hn (Nat.not_lt_zero _)⟩ ?_
 rintro n f h' ⟨i, hv, rfl, hi, rfl, ht⟩
 simp only [lm4] at hv
 simp only [wK, seval, wr, hv, r.len]
 refine qF (fun c => ?_) fun c => ?_
 ·have hi2 : i < l.length := by omega
  have hc2 : (i : Int) <= l.length := by omega
  obtain ⟨b1, o1, cs, hx, e1, va, vb, rfl, sr⟩ := zX r hi2
  obtain ⟨d, hd⟩ : ∃ d, d = l[i] := ⟨_, rfl⟩
  have hbd : bRec d := hd ▸ hb _ (List.getElem_mem hi2)
  have bs := hbd.s
  have bp := hbd.p
  unfold lim at bs bp
  rw [<- hd] at e1 sr
  have hone : (cRec d va vb).all vone = true := by simp only [cRec, List.all_cons, List.all_nil, rdS.one sr.1, rdS.one sr.2]; rfl
  have zr := vV
  simp only [wK, seval, hx, e1, zr, wRec]
  refine qC (o := blk (cRec zRec (.slice none 0 0) (.slice none 0 0)) 137) fun j4 h4 => ?_
  try simp only [wK, seval, zr, wRec, hone]
  obtain ⟨B, hB⟩ : ∃ B, B = (j4, blk (cRec d va vb) 137) :: h' := ⟨_, rfl⟩
  have sB : Tk.Sub h' B := by rw [hB]; exact Sub.cons h4 (Sub.refl _)
  have gB : hget B j4 = some (blk (cRec d va vb) 137) := by rw [hB]; exact qJ _ _ _
  have rd4 : qT B j4 0 6 = some (cRec d va vb) := zH gB rfl
  have c40 : hcel B j4 0 = some (.int .i64 d.kind) := qE gB rfl
  have c41 : hcel B j4 1 = some (.int .i64 d.stamp) := qE gB rfl
  have c42 : hcel B j4 2 = some (.int .i64 d.try_) := qE gB rfl
  have c45 : hcel B j4 5 = some vb := qE gB rfl
  have rB := (r.subH sB).relImp fun _ _ x => rRec.sub sB x
  have srB : sRec B d va vb := sRec.sub sB sr
  have sBB := Sub.refl B
  have nofit : ¬ vP (l.take i) d -> ¬ logP l := fun c x => c (by rw [hd]; exact x.2 i hi2)
  have next : vP (l.take i) d -> ∃ m, m < l.length - i /\ ∃ gg, Tk.Sub gg B /\ ∃ i' : Nat, [Value.int IntKind.i64 ((i : Int) + 1)] = [.int .i64 i'] /\ gg = h' /\ i' <= l.length /\ m = l.length - i' /\ ∀ j (hj : j < l.length), j < i' -> vP (l.take j) l[j] := fun e =>
   ⟨l.length - (i + 1), by omega, h', sB, i + 1, by simp, rfl, by omega, rfl, zAW hi2 ht (by rw [<- hd]; exact e)⟩
  rw [<- hB]
  try simp only [wK, seval, rd4]
  refine qUV srB (by omega) (by omega) fun q hq => ?_
  cases q with
  | false =>
   simp only [wK, seval]
   exact k.dno sB (nofit fun x => zA hq rfl x.1)
  | true =>
  have hrec := hq.1 rfl
  simp only [wK, seval]
  refine zC B (Sub.refl _) ?_
  simp only [wK, seval, c41, c42, sBB]
  refine kZ rB (by omega) hc2 fun v2 r2 => ?_
  rw [Int.toNat_natCast] at r2
  simp only [wK, seval, c41, c42, sBB]
  have tl : (l.take i).length <= 1048576 := by rw [List.length_take]; omega
  refine qKL r2 tl (fun n hn hp => ?_) (fun hp => ?_)
  ·simp only [wK, seval, sBB, c40]
   by_cases k1 : d.kind = 1
   ·simp only [wK, seval, k1, decide_true]
    refine yZ (fun _ => ?_) fun c => absurd c (by omega)
    exact k.dno sB (nofit fun x => by rw [x.2.1 k1] at hp; cases hp)
   ·have hn0 : ¬ ((n : Int) < 0) := by omega
    have hnl : n < l.length := by rw [List.length_take] at hn; omega
    have hpn : yI (l.take i) d.stamp d.try_ = some l[n] := by rw [hp, List.getElem_take]
    obtain ⟨b2, o2, cs2, hx2, e2, va2, vb2, rfl, sr2⟩ := zX rB hnl
    have hb2 := hb _ (List.getElem_mem hnl)
    have bs2 := hb2.s
    unfold lim at bs2
    have f4 : hcel B b2 (o2 + 4) = some va2 := zJ e2 4 rfl
    simp only [wK, seval, k1, decide_false]
    refine zC B (Sub.refl _) ?_
    simp only [wK, seval, hn0, decide_false, c41, c42, sBB]
    refine kZ rB (by omega) hc2 fun v3 r3 => ?_
    rw [Int.toNat_natCast] at r3
    simp only [wK, seval, c41, c42, sBB]
    refine qIT r3 tl (fun he m => ?_) (fun he => ?_)
    ·have hm0 : (0 : Int) <= (m : Int) := by omega
     simp only [wK, seval, hm0, decide_true, sBB]
     exact k.dno sB (nofit fun x => by rw [(x.2.2 k1).1] at he; cases he)
    ·simp only [wK, seval, sBB, c45, hx2, f4]
     refine qRC srB.2 sr2.1 (by omega) (by omega) ?_
     obtain ⟨q, hq⟩ : ∃ q, q = d.pairs.all (yW l[n].slots) := ⟨_, rfl⟩
     rw [<- hq]
     cases q with
     | false =>
      simp only [wK, seval, sBB]
      exact k.dno sB (nofit fun x => by
       obtain ⟨p, hp2, ha⟩ := (x.2.2 k1).2
       rw [hpn] at hp2
       cases hp2
       rw [<- hq] at ha; cases ha)
     | true =>
      simp (disch := omega) only [wK, seval, sBB, qK]
      exact next ⟨hrec, fun c => absurd c k1, fun _ => ⟨he, _, hpn, hq.symm⟩⟩
  ·simp only [wK, seval, sBB, c40]
   by_cases k1 : d.kind = 1
   ·simp (disch := omega) only [wK, seval, k1, decide_true, qK]
    exact next ⟨hrec, fun _ => hp, fun c => absurd k1 c⟩
   ·simp only [wK, seval, k1, decide_false]
    refine zC B (Sub.refl _) ?_
    simp only [wK, seval, sBB]
    exact k.dno sB (nofit fun x => by
     obtain ⟨p, hp2, ha⟩ := (x.2.2 k1).2
     rw [hp] at hp2; cases hp2)
 ·have hi2 : i = l.length := by omega
  try simp only [wK, seval]
  exact .of (k.yes ⟨by omega, fun j hj => ht j hj (by omega)⟩)
theorem qNX {h : H} {v : Value} {l : List DWork} (r : rRs h (rWork h) 4 v l) (hb : ∀ x ∈ l, kR x) (hl : l.length <= 1048576) {R : Ending -> H -> Prop} (k : Asks R (qTC l) h) : HCalls Tryz.prog 46 #[v] h R := by
 refine yM (args := [v]) Tryz.func46 ir46 ?_
 simp only [wK, seval, r.len]
 refine qF (fun e => .of (k.no fun x => by have := x.1; omega)) fun e12 => ?_
 refine qP [3] (fun n vs h' => ∃ i : Nat, vs = [.int .i64 i] /\ h' = h /\ i <= l.length /\ n = l.length - i /\ allP qKY (l.take i) /\ risU (·.stamp) l i) l.length rfl ⟨0, rfl, rfl, by omega, by omega, xD _ _, xC _ _⟩ ?_
 rintro n f h' ⟨i, hv, rfl, hi, rfl, ht, hu⟩
 simp only [lm4] at hv
 simp only [wK, seval, wr, hv, r.len]
 refine qF (fun c => ?_) fun c => ?_
 ·have hi2 : i < l.length := by omega
  obtain ⟨b1, o1, cs, hx, e1, va, rfl, sr⟩ := zX r hi2
  have bs := hb _ (List.getElem_mem hi2)
  unfold kR lim at bs
  have f0 : hcel h' b1 o1 = some (.int .i64 l[i].stamp) := zJ e1 0 rfl
  have f1 : hcel h' b1 (o1 + 1) = some (.int .i64 l[i].try_) := zJ e1 1 rfl
  have f2 : hcel h' b1 (o1 + 2) = some (.int .i64 l[i].what) := zJ e1 2 rfl
  have f3 : hcel h' b1 (o1 + 3) = some va := zJ e1 3 rfl
  have shh := Sub.refl h'
  refine zC h' (Sub.refl _) ?_
  simp only [wK, seval, hx, f0, f1, f2, f3, shh]
  refine qLW sr (by omega) fun q hq => ?_
  cases q with
  | false =>
   simp only [wK, seval, shh]
   exact .of (k.no fun x => zA hq rfl (x.2.1 _ (List.getElem_mem hi2)))
  | true =>
  have hw : qKY l[i] := hq.1 rfl
  simp only [wK, seval, shh]
  refine qF (fun q3 => ?_) fun q3 => ?_
  ·have ecast : ((i - 1 : Nat) : Int) = (i : Int) - 1 := by omega
   obtain ⟨b2, o2, cs2, hx2, e2, va2, rfl, sr2⟩ := zX r (i := i - 1) (by omega)
   rw [ecast] at hx2
   have g0 : hcel h' b2 o2 = some (.int .i64 l[i - 1].stamp) := zJ e2 0 rfl
   simp (disch := omega) only [wK, seval, hx, hx2, f0, g0, qK, shh]
   refine yZ (fun q4 => ?_) fun q4 => ?_
   ·exact .of (k.no fun x => vL (k := (·.stamp)) (i := i) hi2 (by omega) (fun y => by have : l[i - 1].stamp < l[i].stamp := y; omega) x.2.2)
   ·exact ⟨l.length - (i + 1), by omega, h', .refl _, i + 1, by simp, rfl, by omega, rfl, yH hi2 ht hw, xR hi2 (by omega) hu q4⟩
  ·simp (disch := omega) only [wK, seval, qK, shh]
   exact ⟨l.length - (i + 1), by omega, h', .refl _, i + 1, by simp, rfl, by omega, rfl, yH hi2 ht hw, wE (by omega) hu⟩
 ·try simp only [wK, seval]
  exact .of (k.yes ⟨by omega, xM (by omega) ht, xS (by omega) hu⟩)
theorem qUX {h : H} {d : DHouse} {lg lk wk v : Value} {st tr : Int} {sl : List Int} {fm : Bool} (r : sHouse h d lg lk wk) (h8 : d.locks.length = 8) (hbk : ∀ x ∈ d.locks, bLock x) (rs : rInts h v sl) (hs : ∀ s ∈ sl, 0 <= s /\ s <= 7) (hl : sl.length <= 1048576) {R : Ending -> H -> Prop} (k : R (.returned (.bool (jO d.locks st tr sl fm))) h) :
  HCalls Tryz.prog 95 #[.agg (zB d lg lk wk).toArray, .int .i64 st, .int .i64 tr, v, .bool fm] h R := by
 refine qD lite (args := [.agg (zB d lg lk wk).toArray, .int .i64 st, .int .i64 tr, v, .bool fm]) Tryz.func95 ?_
 conv => arg 2; cbv
 simp only [wK, seval, yG]
 refine qC (o := blk (zB d lg lk wk) 59) fun j5 h5 => ?_
 obtain ⟨M, hM⟩ : ∃ M, M = (j5, blk (zB d lg lk wk) 59) :: h := ⟨_, rfl⟩
 have sM : Tk.Sub h M := by rw [hM]; exact Sub.cons h5 (Sub.refl _)
 have gM : hget M j5 = some (blk (zB d lg lk wk) 59) := by rw [hM]; exact qJ _ _ _
 have c54 : hcel M j5 4 = some lk := qE gM rfl
 have rM := r.sub sM
 have rsM : rInts M v sl := rs.sub sM
 obtain ⟨P, hP⟩ : ∃ P : Int -> Bool, P = fun s => match yY (qCY d.locks s) st with
  | some x => decide (x.try_ = tr) && (!fm || x.firm)
  | none => false := ⟨_, rfl⟩
 have hall : jO d.locks st tr sl fm = sl.all P := by rw [hP]; rfl
 rw [hall] at k
 rw [<- hM]
 simp only [wK, seval]
 refine qP [11] (fun n vs h' => ∃ i : Nat, vs = [.int .i64 i] /\ h' = M /\ i <= sl.length /\ n = sl.length - i /\ (sl.take i).all P = true) sl.length rfl ⟨0, rfl, rfl, by omega, by omega, by simp⟩ ?_
 rintro n f h' ⟨i, hv, rfl, hi, rfl, ht⟩
 simp only [lm4] at hv
 simp only [wK, seval, wr, hv, rsM.len]
 refine qF (fun c => ?_) fun c => ?_
 ·have hi2 : i < sl.length := by omega
  obtain ⟨bx, ox, hx, ex⟩ := yT (enc := eI) (sz := 1) yJ rsM hi2
  have hin := hs _ (List.getElem_mem hi2)
  obtain ⟨nn, hnn⟩ : ∃ nn : Nat, sl[i] = (nn : Int) := ⟨sl[i].toNat, by omega⟩
  have fx : hcel h' bx ox = some (.int .i64 nn) := by rw [<- hnn]; exact zJ ex 0 rfl
  have hn8 : nn < d.locks.length := by omega
  obtain ⟨b1, o1, cs, hx1, e1, va, vb, rfl, sr⟩ := zX rM.2.1 hn8
  have hbl := (hbk _ (List.getElem_mem hn8)).h
  unfold lim at hbl
  have zl := qAT
  have hone : (zP d.locks[nn] va vb).all vone = true := by simp only [zP, List.all_cons, List.all_nil, rdS.one sr.1, rdS.one sr.2]; rfl
  have hat : qCY d.locks sl[i] = d.locks[nn].held := by unfold qCY; rw [hnn, Int.toNat_natCast, List.getElem?_eq_getElem hn8]; rfl
  have no : P sl[i] = false -> dP R (.returned (.bool false)) h' := fun e => by
   have : sl.all P = false := List.all_eq_false.2 ⟨sl[i], List.getElem_mem hi2, by rw [e]; simp⟩
   rw [this] at k
   exact ⟨h, sM, k⟩
  have shh := Sub.refl h'
  refine zC h' (Sub.refl _) ?_
  simp only [wK, seval, c54, hx, fx, hx1, e1, zl, xN, shh]
  refine qC (o := blk (zP zLock (.slice none 0 0) (.slice none 0 0)) 81) fun j12 h12 => ?_
  have sN0 := Sub.cons (o := blk (zP zLock (.slice none 0 0) (.slice none 0 0)) 81) h12 (Sub.refl h')
  try simp only [wK, seval, zl, xN, hone, sN0]
  obtain ⟨N, hN⟩ : ∃ N, N = (j12, blk (zP d.locks[nn] va vb) 81) :: h' := ⟨_, rfl⟩
  have sN : Tk.Sub h' N := by rw [hN]; exact Sub.cons h12 (Sub.refl _)
  have gN : hget N j12 = some (blk (zP d.locks[nn] va vb) 81) := by rw [hN]; exact qJ _ _ _
  have c121 : hcel N j12 1 = some va := qE gN rfl
  have srN : rLs N zD 4 va d.locks[nn].held := rLs.sub sN sr.1
  have noN : P sl[i] = false -> dP R (.returned (.bool false)) N := fun e => by
   obtain ⟨g, s, x⟩ := no e
   exact ⟨g, s.trans sN, x⟩
  have next : P sl[i] = true -> ∃ m, m < sl.length - i /\ ∃ gg, Tk.Sub gg N /\ ∃ i' : Nat, [Value.int IntKind.i64 ((i : Int) + 1)] = [.int .i64 i'] /\ gg = h' /\ i' <= sl.length /\ m = sl.length - i' /\ (sl.take i').all P = true := fun e =>
   ⟨sl.length - (i + 1), by omega, h', sN, i + 1, by simp, rfl, by omega, rfl, by rw [qJV hi2, ht, e]; rfl⟩
  rw [<- hN]
  try simp only [wK, seval, c121]
  refine l11At_c srN (by omega) (fun q hq hp => ?_) (fun hp => ?_)
  ·have hq0 : ¬ ((q : Int) < 0) := by omega
   obtain ⟨b3, o3, hx3, e3⟩ := yT (enc := zD) (sz := 4) yC srN hq
   obtain ⟨X, hX⟩ : ∃ X, X = d.locks[nn].held[q] := ⟨_, rfl⟩
   rw [<- hX] at e3 hp
   have g1 : hcel N b3 (o3 + 1) = some (.int .i64 X.try_) := zJ e3 1 rfl
   have g3 : hcel N b3 (o3 + 3) = some (.bool X.firm) := zJ e3 3 rfl
   have hPv : P sl[i] = (decide (X.try_ = tr) && (!fm || X.firm)) := by rw [hP]; simp only [hat, hp]
   simp only [wK, seval, hq0, decide_false, c121, hx3, g1]
   by_cases c1 : X.try_ = tr
   ·cases fm with
    | false =>
     simp (disch := omega) only [wK, seval, c1, decide_true, Bool.not_true, qK]
     exact next (by rw [hPv]; simp [c1])
    | true =>
     obtain ⟨xf, hxf⟩ : ∃ xf, xf = X.firm := ⟨_, rfl⟩
     rw [<- hxf] at g3 hPv
     simp only [wK, seval, c1, decide_true, Bool.not_true, c121, hx3, g3]
     cases xf with
     | false =>
      simp only [wK, seval]
      exact noN (by rw [hPv]; simp)
     | true =>
      simp (disch := omega) only [wK, seval, qK]
      exact next (by rw [hPv]; simp [c1])
   ·simp only [wK, seval, c1, decide_false, Bool.not_false]
    exact noN (by rw [hPv]; simp [c1])
  ·simp only [wK, seval]
   exact noN (by rw [hP]; simp only [hat, hp])
 ·have hi2 : i = sl.length := by omega
  rw [hi2, List.take_length] at ht
  rw [ht] at k
  try simp only [wK, seval]
  exact ⟨h, sM, k⟩
end Go.Proofs.YtjioiemhgbkbfaaGreatDoor
end

section
namespace Go.Proofs.YtjioiemhgbkbfaaGreatDoor
open Go Go.Tk
theorem qRX {h : H} {d : DWork} {v : Value} (r : sWork h d v) (hb : d.slots.length <= 1099511627776) {R : Ending -> H -> Prop} (k : Asks R (qKY d) h) : HCalls Tryz.prog 162 #[.agg (zT d v).toArray] h R := by
 refine qD lite (args := [.agg (zT d v).toArray]) Tryz.func162 ?_
 conv => arg 2; cbv
 simp only [wK, seval, vT]
 refine qC (o := blk (zT d v) 168) fun j1 h1 => ?_
 obtain ⟨M, hM⟩ : ∃ M, M = (j1, blk (zT d v) 168) :: h := ⟨_, rfl⟩
 have sM : Tk.Sub h M := by rw [hM]; exact Sub.cons h1 (Sub.refl _)
 have gM : hget M j1 = some (blk (zT d v) 168) := by rw [hM]; exact qJ _ _ _
 have c0 : hcel M j1 0 = some (.int .i64 d.stamp) := qE gM rfl
 have c1 : hcel M j1 1 = some (.int .i64 d.try_) := qE gM rfl
 have c2 : hcel M j1 2 = some (.int .i64 d.what) := qE gM rfl
 have c3 : hcel M j1 3 = some v := qE gM rfl
 have rM : rInts M v d.slots := rLs.sub sM r
 rw [<- hM]
 try simp only [wK, seval, c0]
 refine uF fun q1 k1 => ?_
 cases q1 with
 | false => simp only [wK, seval]; exact k.dno sM fun x => zA k1 rfl x.1
 | true =>
 simp only [wK, seval, c1]
 refine uF fun q2 k2 => ?_
 cases q2 with
 | false => simp only [wK, seval]; exact k.dno sM fun x => zA k2 rfl x.2.1
 | true =>
 simp only [wK, seval, c2]
 refine yN fun q3 k3 => ?_
 cases q3 with
 | false => simp only [wK, seval]; exact k.dno sM fun x => zA k3 rfl x.2.2.1
 | true =>
 simp only [wK, seval, c3]
 refine qIC (P := qHY) (by kernel_rfl) (fun kk => qED kk) rM hb fun q4 k4 => ?_
 cases q4 with
 | false => simp only [wK, seval]; exact k.dno sM fun x => zA k4 rfl x.2.2.2.2.1
 | true =>
 simp only [wK, seval, c3, rM.len]
 by_cases e0 : 0 < (d.slots.length : Int)
 ·have hne : d.slots ≠ [] := fun e => by rw [e] at e0; simp at e0
  simp only [wK, seval, e0, decide_true, c2]
  by_cases w1 : d.what = 1
  ·simp only [wK, seval, w1, decide_true]
   exact k.dyes sM ⟨k1.1 rfl, k2.1 rfl, k3.1 rfl, hne, k4.1 rfl, .inl w1⟩
  ·simp only [wK, seval, w1, decide_false, c3, rM.len]
   by_cases w2 : (d.slots.length : Int) = 1
   ·simp only [wK, seval, w2, decide_true]
    exact k.dyes sM ⟨k1.1 rfl, k2.1 rfl, k3.1 rfl, hne, k4.1 rfl, .inr (by omega)⟩
   ·simp only [wK, seval, w2, decide_false]
    exact k.dno sM fun p => p.2.2.2.2.2.elim w1 (fun c => w2 (by omega))
 ·simp only [wK, seval, e0, decide_false]
  exact k.dno sM fun x => x.2.2.2.1 (List.eq_nil_of_length_eq_zero (by omega))
theorem qYO {h : H} {v : Value} {l : List DWork} (r : rRs h (rWork h) 4 v l) (hb : ∀ x ∈ l, kR x) (hl : l.length <= 1048576) {R : Ending -> H -> Prop} (k : Asks R (qTC l) h) : HCalls Tryz.prog 124 #[v] h R := by
 refine qD lite (args := [v]) Tryz.func124 ?_
 conv => arg 2; cbv
 simp only [wK, seval, r.len]
 refine qP [7] (fun n vs h' => ∃ i : Nat, vs = [.int .i64 i] /\ h' = h /\ i <= l.length /\ n = l.length - i /\ allP qKY (l.take i) /\ risU (·.stamp) l i) l.length rfl ⟨0, rfl, rfl, by omega, by omega, xD _ _, xC _ _⟩ ?_
 rintro n f h' ⟨i, hv, rfl, hi, rfl, ht, hu⟩
 simp only [lm4] at hv
 simp only [wK, seval, wr, hv, r.len]
 refine qF (fun c => ?_) fun c => ?_
 ·have hi2 : i < l.length := by omega
  obtain ⟨b1, o1, cs, hx, e1, va, rfl, sr⟩ := zX r hi2
  obtain ⟨x, hxx⟩ : ∃ x, x = l[i] := ⟨_, rfl⟩
  have bs : kR x := hxx ▸ hb _ (List.getElem_mem hi2)
  unfold kR lim at bs
  rw [<- hxx] at e1 sr
  have zh := qHI
  have hone : (zT x va).all vone = true := by simp only [zT, List.all_cons, List.all_nil, rdS.one sr]; rfl
  simp only [wK, seval, hx, e1, zh, vT]
  refine qC (o := blk (zT zWork (.slice none 0 0)) 168) fun j4 h4 => ?_
  try simp only [wK, seval, zh, vT, hone]
  obtain ⟨B, hB⟩ : ∃ B, B = (j4, blk (zT x va) 168) :: h' := ⟨_, rfl⟩
  have sB : Tk.Sub h' B := by rw [hB]; exact Sub.cons h4 (Sub.refl _)
  have gB : hget B j4 = some (blk (zT x va) 168) := by rw [hB]; exact qJ _ _ _
  have rd : qT B j4 0 4 = some (zT x va) := zH gB rfl
  have c40 : hcel B j4 0 = some (.int .i64 x.stamp) := qE gB rfl
  have sBB := Sub.refl B
  rw [<- hB]
  refine zC B (Sub.refl _) ?_
  simp only [wK, seval, rd, sBB]
  refine qRX (sWork.sub sB sr) (by omega) fun q2 hq2 => ?_
  cases q2 with
  | false =>
   simp only [wK, seval, sBB]
   exact k.dno sB fun y => zA hq2 rfl (by have := y.2.1 _ (List.getElem_mem hi2); rw [<- hxx] at this; exact this)
  | true =>
  have hh : qKY l[i] := hxx ▸ hq2.1 rfl
  simp only [wK, seval, sBB]
  refine qF (fun q3 => ?_) fun q3 => ?_
  ·have ecast : ((i - 1 : Nat) : Int) = (i : Int) - 1 := by omega
   obtain ⟨bb, ob, csb, hxb, eb, vb, rfl, sb⟩ := zX r (i := i - 1) (by omega)
   rw [ecast] at hxb
   have fb : hcel B bb ob = some (.int .i64 l[i - 1].stamp) := yE sB (zJ eb 0 rfl)
   simp (disch := omega) only [wK, seval, hxb, fb, c40, qK, sBB]
   refine yZ (fun q4 => ?_) fun q4 => ?_
   ·exact k.dno sB fun y => by
     have := y.2.2 (i - 1) (by omega)
     have e2 : i - 1 + 1 = i := by omega
     simp only [e2, <- hxx] at this
     omega
   ·exact ⟨l.length - (i + 1), by omega, h', sB, i + 1, by simp, rfl, by omega, rfl, yH hi2 ht hh, xR hi2 (by omega) hu (by rw [<- hxx]; exact q4)⟩
  ·simp (disch := omega) only [wK, seval, sBB, qK]
   exact ⟨l.length - (i + 1), by omega, h', sB, i + 1, by simp, rfl, by omega, rfl, yH hi2 ht hh, wE (by omega) hu⟩
 ·try simp only [wK, seval, r.len]
  by_cases e12 : (l.length : Int) <= 12
  ·simp only [wK, seval, e12, decide_true]
   exact .of (k.yes ⟨by omega, xM (by omega) ht, xS (by omega) hu⟩)
  ·simp only [wK, seval, e12, decide_false]
   exact .of (k.no fun y => e12 (by have := y.1; omega))
theorem zAX {h : H} {v : Value} {l : List DLock} (r : rRs h (rLock h) 3 v l) (hb : ∀ x ∈ l, bLock x) (hl : l.length <= 1048576) {R : Ending -> H -> Prop} (k : Asks R (l.length = 8 /\ ∀ i (hi : i < l.length), qIN l[i] /\ l[i].slot = (i : Int)) h) : HCalls Tryz.prog 125 #[v] h R := by
 refine qD lite (args := [v]) Tryz.func125 ?_
 conv => arg 2; cbv
 simp only [wK, seval, r.len]
 refine qP [7] (fun n vs h' => ∃ i : Nat, vs = [.int .i64 i] /\ h' = h /\ i <= l.length /\ n = l.length - i /\ ∀ j (hj : j < l.length), j < i -> qIN l[j] /\ l[j].slot = (j : Int)) l.length rfl ⟨0, rfl, rfl, by omega, by omega, fun j hj hn => absurd hn (Nat.not_lt_zero _)⟩ ?_
 rintro n f h' ⟨i, hv, rfl, hi, rfl, ht⟩
 simp only [lm4] at hv
 simp only [wK, seval, wr, hv, r.len]
 refine qF (fun c => ?_) fun c => ?_
 ·have hi2 : i < l.length := by omega
  obtain ⟨b1, o1, cs, hx, e1, va, vb, rfl, sr⟩ := zX r hi2
  obtain ⟨x, hxx⟩ : ∃ x, x = l[i] := ⟨_, rfl⟩
  have bs : bLock x := hxx ▸ hb _ (List.getElem_mem hi2)
  have b3 := bs.h
  have b4 := bs.w
  unfold lim at b3 b4
  rw [<- hxx] at e1 sr
  have zh := qAT
  have hone : (zP x va vb).all vone = true := by simp only [zP, List.all_cons, List.all_nil, rdS.one sr.1, rdS.one sr.2]; rfl
  simp only [wK, seval, hx, e1, zh, xN]
  refine qC (o := blk (zP zLock (.slice none 0 0) (.slice none 0 0)) 81) fun j4 h4 => ?_
  try simp only [wK, seval, zh, xN, hone]
  obtain ⟨B, hB⟩ : ∃ B, B = (j4, blk (zP x va vb) 81) :: h' := ⟨_, rfl⟩
  have sB : Tk.Sub h' B := by rw [hB]; exact Sub.cons h4 (Sub.refl _)
  have gB : hget B j4 = some (blk (zP x va vb) 81) := by rw [hB]; exact qJ _ _ _
  have rd : qT B j4 0 3 = some (zP x va vb) := zH gB rfl
  have c40 : hcel B j4 0 = some (.int .i64 x.slot) := qE gB rfl
  rw [<- hB]
  try simp only [wK, seval, c40]
  refine zF (fun es => ?_) fun es => ?_
  ·exact k.dno sB fun y => es (by have := (y.2 i hi2).2; rw [<- hxx] at this; exact this)
  ·try simp only [wK, seval, rd]
   refine qOF (sLock.sub sB sr) (by omega) (by omega) fun q2 hq2 => ?_
   cases q2 with
   | false =>
    simp only [wK, seval]
    exact k.dno sB fun y => zA hq2 rfl (by have := (y.2 i hi2).1; rw [<- hxx] at this; exact this)
   | true =>
    simp (disch := omega) only [wK, seval, qK]
    refine ⟨l.length - (i + 1), by omega, h', sB, i + 1, by simp, rfl, by omega, rfl, fun j hj hn => ?_⟩
    by_cases ej : j = i
    ·subst ej; rw [<- hxx]; exact ⟨hq2.1 rfl, es⟩
    ·exact ht j hj (by omega)
 ·try simp only [wK, seval, r.len]
  by_cases e8 : (l.length : Int) = 8
  ·simp only [wK, seval, e8, decide_true]
   exact .of (k.yes ⟨by omega, fun j hj => ht j hj (by omega)⟩)
  ·simp only [wK, seval, e8, decide_false]
   exact .of (k.no fun y => e8 (by have := y.1; omega))
theorem qQN {h : H} {v : Value} {l : List DLock} (r : rRs h (rLock h) 3 v l) (hb : ∀ x ∈ l, bLock x) (hl : l.length <= 1048576) {R : Ending -> H -> Prop} (k : Asks R (∀ x ∈ l, qGM x) h) : HCalls Tryz.prog 32 #[v] h R := by
 refine qD lite (args := [v]) Tryz.func32 ?_
 conv => arg 2; cbv
 simp only [wK, seval, r.len]
 refine qP [7] (fun n vs h' => ∃ i : Nat, vs = [.int .i64 i] /\ h' = h /\ i <= l.length /\ n = l.length - i /\ ∀ x ∈ l.take i, qGM x) l.length rfl ⟨0, rfl, rfl, by omega, by omega, by simp⟩ ?_
 rintro n f h' ⟨i, hv, rfl, hi, rfl, ht⟩
 simp only [lm4] at hv
 simp only [wK, seval, wr, hv, r.len]
 refine qF (fun c => ?_) fun c => ?_
 ·have hi2 : i < l.length := by omega
  obtain ⟨b1, o1, cs, hx, e1, va, vb, rfl, sr⟩ := zX r hi2
  obtain ⟨x, hxx⟩ : ∃ x, x = l[i] := ⟨_, rfl⟩
  have bs : bLock x := hxx ▸ hb _ (List.getElem_mem hi2)
  have b3 := bs.h
  have b4 := bs.w
  unfold lim at b3 b4
  rw [<- hxx] at e1 sr
  have zh := qAT
  have hone : (zP x va vb).all vone = true := by simp only [zP, List.all_cons, List.all_nil, rdS.one sr.1, rdS.one sr.2]; rfl
  simp only [wK, seval, hx, e1, zh, xN]
  refine qC (o := blk (zP zLock (.slice none 0 0) (.slice none 0 0)) 81) fun j4 h4 => ?_
  try simp only [wK, seval, zh, xN, hone]
  obtain ⟨B, hB⟩ : ∃ B, B = (j4, blk (zP x va vb) 81) :: h' := ⟨_, rfl⟩
  have sB : Tk.Sub h' B := by rw [hB]; exact Sub.cons h4 (Sub.refl _)
  have gB : hget B j4 = some (blk (zP x va vb) 81) := by rw [hB]; exact qJ _ _ _
  have c41 : hcel B j4 1 = some va := qE gB rfl
  have c42 : hcel B j4 2 = some vb := qE gB rfl
  have l1 : rLs B zD 4 va x.held := rLs.sub sB sr.1
  have l2 : rLs B zD 4 vb x.waits := rLs.sub sB sr.2
  rw [<- hB]
  simp (disch := omega) only [wK, seval, c41, c42, l1.len, l2.len, qK]
  refine qF (fun es => ?_) fun es => ?_
  ·exact k.dno sB fun y => by
    have := y x (hxx ▸ List.getElem_mem hi2)
    unfold qGM at this; omega
  ·refine ⟨l.length - (i + 1), by omega, h', sB, i + 1, by simp, rfl, by omega, rfl, fun z hz => ?_⟩
   rw [yK hi2] at hz
   rcases List.mem_append.1 hz with hz | hz
   ·exact ht z hz
   ·rw [List.mem_singleton.1 hz, <- hxx]; unfold qGM; omega
 ·have hi2 : i = l.length := by omega
  rw [hi2, List.take_length] at ht
  try simp only [wK, seval]
  exact .of (k.yes ht)
theorem qVK {h : H} {lk v : Value} {locks : List DLock} {x : DHold} {sl : List Int} (r : rRs h (rLock h) 3 lk locks) (h8 : locks.length = 8) (hbk : ∀ x ∈ locks, bLock x) (hris : ∀ x ∈ locks, risP (·.stamp) x.held) (rs : rInts h v sl) (hs : ∀ s ∈ sl, 0 <= s /\ s <= 7) (hl : sl.length <= 1048576)
  {R : Ending -> H -> Prop} (k : R (.returned (.bool (jO locks x.stamp x.try_ sl x.firm))) h) : HCalls Tryz.prog 126 #[lk, v, .agg (zD x).toArray] h R := by
 refine yM (args := [lk, v, .agg (zD x).toArray]) Tryz.func126 ir126 ?_
 simp only [wK, seval, yV]
 refine qC (o := blk (zD x) 171) fun j5 h5 => ?_
 obtain ⟨M, hM⟩ : ∃ M, M = (j5, blk (zD x) 171) :: h := ⟨_, rfl⟩
 have sM : Tk.Sub h M := by rw [hM]; exact Sub.cons h5 (Sub.refl _)
 have gM : hget M j5 = some (blk (zD x) 171) := by rw [hM]; exact qJ _ _ _
 have c50 : hcel M j5 0 = some (.int .i64 x.stamp) := qE gM rfl
 have c51 : hcel M j5 1 = some (.int .i64 x.try_) := qE gM rfl
 have c53 : hcel M j5 3 = some (.bool x.firm) := qE gM rfl
 have rM := (r.subH sM).relImp fun _ _ q => rLock.sub sM q
 have rsM : rInts M v sl := rs.sub sM
 obtain ⟨P, hP⟩ : ∃ P : Int -> Bool, P = fun s => match yY (qCY locks s) x.stamp with
  | some y => decide (y.try_ = x.try_) && (!x.firm || y.firm)
  | none => false := ⟨_, rfl⟩
 have hall : jO locks x.stamp x.try_ sl x.firm = sl.all P := by rw [hP]; rfl
 rw [hall] at k
 rw [<- hM]
 simp only [wK, seval, rsM.len]
 refine qP [14] (fun n vs h' => ∃ i : Nat, vs = [.int .i64 i] /\ h' = M /\ i <= sl.length /\ n = sl.length - i /\ (sl.take i).all P = true) sl.length rfl ⟨0, rfl, rfl, by omega, by omega, by simp⟩ ?_
 rintro n f h' ⟨i, hv, rfl, hi, rfl, ht⟩
 simp only [lm4] at hv
 simp only [wK, seval, wr, hv, rsM.len]
 refine qF (fun c => ?_) fun c => ?_
 ·have hi2 : i < sl.length := by omega
  obtain ⟨bx, ox, hx, ex⟩ := yT (enc := eI) (sz := 1) yJ rsM hi2
  have hin := hs _ (List.getElem_mem hi2)
  obtain ⟨nn, hnn⟩ : ∃ nn : Nat, sl[i] = (nn : Int) := ⟨sl[i].toNat, by omega⟩
  have fx : hcel h' bx ox = some (.int .i64 nn) := by rw [<- hnn]; exact zJ ex 0 rfl
  have hn8 : nn < locks.length := by omega
  obtain ⟨b1, o1, cs, hx1, e1, va, vb, rfl, sr⟩ := zX rM hn8
  have hbl := (hbk _ (List.getElem_mem hn8)).h
  have hrl := hris _ (List.getElem_mem hn8)
  unfold lim at hbl
  have f1 : hcel h' b1 (o1 + 1) = some va := zJ e1 1 rfl
  have hat : qCY locks sl[i] = locks[nn].held := by unfold qCY; rw [hnn, Int.toNat_natCast, List.getElem?_eq_getElem hn8]; rfl
  have no : P sl[i] = false -> dP R (.returned (.bool false)) h' := fun e => by
   have : sl.all P = false := List.all_eq_false.2 ⟨sl[i], List.getElem_mem hi2, by rw [e]; simp⟩
   rw [this] at k
   exact ⟨h, sM, k⟩
  have next : P sl[i] = true -> ∃ m, m < sl.length - i /\ ∃ gg, Tk.Sub gg h' /\ ∃ i' : Nat, [Value.int IntKind.i64 ((i : Int) + 1)] = [.int .i64 i'] /\ gg = h' /\ i' <= sl.length /\ m = sl.length - i' /\ (sl.take i').all P = true := fun e =>
   ⟨sl.length - (i + 1), by omega, h', .refl _, i + 1, by simp, rfl, by omega, rfl, by rw [qJV hi2, ht, e]; rfl⟩
  have shh := Sub.refl h'
  simp only [wK, seval, hx, fx, hx1, f1, c50]
  refine qGF (s := x.stamp) sr.1 (by omega) hrl fun pp hpl hpp => ?_
  simp only [wK, seval]
  refine zC h' (Sub.refl _) ?_
  cases hby : yY locks[nn].held x.stamp with
  | none =>
   simp only [wK, seval, Option.isSome_none, Bool.not_false, shh]
   exact no (by rw [hP]; simp only [hat, hby])
  | some X =>
   obtain ⟨hp, hpx⟩ := hpp X hby
   obtain ⟨b3, o3, hx3, e3⟩ := yT (enc := zD) (sz := 4) yC sr.1 hp
   rw [hpx] at e3
   have g1 : hcel h' b3 (o3 + 1) = some (.int .i64 X.try_) := zJ e3 1 rfl
   have g3 : hcel h' b3 (o3 + 3) = some (.bool X.firm) := zJ e3 3 rfl
   have hPv : P sl[i] = (decide (X.try_ = x.try_) && (!x.firm || X.firm)) := by rw [hP]; simp only [hat, hby]
   simp only [wK, seval, Option.isSome_some, Bool.not_true, hx3, g1, c51, shh]
   by_cases ct : X.try_ = x.try_
   ·obtain ⟨fm, hfm⟩ : ∃ fm, fm = x.firm := ⟨_, rfl⟩
    obtain ⟨xf, hxf⟩ : ∃ xf, xf = X.firm := ⟨_, rfl⟩
    rw [<- hfm] at c53 hPv
    rw [<- hxf] at g3 hPv
    cases fm with
    | false =>
     simp (disch := omega) only [wK, seval, ct, decide_true, Bool.not_true, c53, shh, qK]
     exact next (by rw [hPv]; simp [ct])
    | true =>
     simp only [wK, seval, ct, decide_true, Bool.not_true, c53, hx3, g3, shh]
     cases xf with
     | false =>
      simp only [wK, seval, shh]
      exact no (by rw [hPv]; simp)
     | true =>
      simp (disch := omega) only [wK, seval, shh, qK]
      exact next (by rw [hPv]; simp [ct])
   ·simp only [wK, seval, ct, decide_false, Bool.not_false, shh]
    exact no (by rw [hPv]; simp [ct])
 ·have hi2 : i = sl.length := by omega
  rw [hi2, List.take_length] at ht
  rw [ht] at k
  try simp only [wK, seval]
  exact ⟨h, sM, k⟩
end Go.Proofs.YtjioiemhgbkbfaaGreatDoor
end
