/- Parts of the proof. -/
import Derived.Test.YtjioiemhgbkbfaaGreatDoorK155
import Derived.Test.YtjioiemhgbkbfaaGreatDoorK1514
import Derived.Test.YtjioiemhgbkbfaaGreatDoorK1516
import Derived.Test.YtjioiemhgbkbfaaGreatDoorK1518
import Derived.Test.YtjioiemhgbkbfaaGreatDoorK1513
import Derived.Test.YtjioiemhgbkbfaaGreatDoorK159
import Derived.Test.YtjioiemhgbkbfaaGreatDoorK1510
set_option maxHeartbeats 4000000
set_option maxRecDepth 100000
set_option linter.unusedVariables false
set_option linter.unusedSimpArgs false
set_option linter.defProp false
attribute [local irreducible] Go.Tk.vc Go.Tk.vops Go.Tk.vdr Go.Tk.vop Go.Tk.vfl Go.Tk.HCalls
section
namespace Go.Tk
open Go
theorem qWS {l : List DHold} {s : Int} {i : Nat} (hr : risP (·.stamp) l) (hi : i < l.length) (h : l[i].stamp = s) : yZ l s = some l[i] := by
 unfold yZ
 rw [List.find?_eq_some_iff_getElem]
 refine ⟨by simpa using h, i, hi, rfl, fun j hj => ?_⟩
 have := jB hr i j hi hj
 have : l[j].stamp ≠ s := by have h2 : l[j].stamp < l[i].stamp := this; omega
 simpa using this
theorem qKA {l : List DHold} {s : Int} (h : ∀ i (hi : i < l.length), l[i].stamp ≠ s) : yZ l s = none := by
 unfold yZ
 rw [List.find?_eq_none]
 intro x hx
 obtain ⟨i, hi, rfl⟩ := List.getElem_of_mem hx
 simpa using h i hi
end Go.Tk
namespace Go.Proofs.YtjioiemhgbkbfaaGreatDoor
open Go Go.Tk
theorem qRY {h : H} {d : DHold} {R : Ending -> H -> Prop} (k : R (.returned (.int .i64 d.stamp)) h) : HCalls Tryz.prog 165 #[.agg (zE d).toArray] h R := by
 refine qD lite (args := [.agg (zE d).toArray]) Tryz.func165 ?_
 conv => arg 2; cbv
 simp only [wK, seval, yV]
 refine qC (o := blk (zE d) 171) fun j hj => ?_
 simp only [wK, seval, yV]
 exact ⟨h, Sub.cons hj (Sub.refl h), k⟩
theorem qEC {h : H} {d : DHold} {s : Int} {j : Nat} (hj5 : hcel h j 0 = some (.func (.func 165) #[] #[])) {R : Ending -> H -> Prop} (k : R (.returned (.int .i64 (cmpI d.stamp s))) h) :
  HCalls Tryz.prog 186 #[.agg (zE d).toArray, .int .i64 s, .pointer (some ⟨j, 0, none⟩)] h R := by
 refine qD lite (args := [.agg (zE d).toArray, .int .i64 s, .pointer (some ⟨j, 0, none⟩)]) Tryz.func186 ?_
 conv => arg 2; cbv
 simp only [wK, seval, yV]
 refine qC (o := blk (zE d) 171) fun j3 hj3 => ?_
 have hj5' : hcel ((j3, blk (zE d) 171) :: h) j 0 = some (.func (.func 165) #[] #[]) := yA (Sub.cons hj3 (Sub.refl h)) hj5
 simp only [wK, seval, yV, hj5']
 refine ⟨by kernel_rfl, qRY ?_⟩
 simp only [wK, seval, yV]
 refine qFX ?_
 simp only [wK, seval]
 exact ⟨h, Sub.cons hj3 (Sub.refl h), k⟩
theorem qOB {h : H} {v : Value} {l : List DHold} {s : Int} {j : Nat} (r : rLs h zE 4 v l) (hl : l.length <= 1099511627776) (hr : risP (·.stamp) l) (hj5 : hcel h j 0 = some (.func (.func 165) #[] #[])) {R : Ending -> H -> Prop}
  (k : ∀ p : Nat, p <= l.length -> (∀ x, yZ l s = some x -> ∃ hp : p < l.length, l[p] = x) -> R (.returned (.tuple #[.int .i64 p, .bool (yZ l s).isSome])) h) :
  HCalls Tryz.prog 185 #[v, .int .i64 s, .func (.func 186) #[] #[.pointer (some ⟨j, 0, none⟩)]] h R := by
 refine qD lite (args := [v, .int .i64 s, .func (.func 186) #[] #[.pointer (some ⟨j, 0, none⟩)]]) Tryz.func185 ?_
 conv => arg 2; cbv
 simp only [wK, seval, r.len]
 refine qP [9, 10] (fun n vs h' => ∃ i q : Nat, vs = [.int .i64 i, .int .i64 q] /\ h' = h /\ i <= q /\ q <= l.length /\ n = q - i /\ (∀ p (hp : p < l.length), p < i -> l[p].stamp < s) /\ (∀ p (hp : p < l.length), q <= p -> s <= l[p].stamp)) l.length rfl
  ⟨0, l.length, rfl, rfl, by omega, by omega, rfl, fun p hp h => absurd h (Nat.not_lt_zero _), fun p hp h => by omega⟩ ?_
 rintro n f h' ⟨i, q, hv, rfl, hiq, hq, rfl, hlo, hhi⟩
 simp only [lm4] at hv
 simp only [wK, seval, wr, hv.1, hv.2, r.len]
 refine qF (fun c => ?_) fun c => ?_
 ·have hm : (i + q) / 2 < l.length := by omega
  have hw : IntKind.i64.wrap ((i : Int) + q) = (i : Int) + q := qK _ ⟨by omega, by omega⟩
  have hs := shr1 i q (by omega)
  obtain ⟨b, o, hx, e⟩ := yU (enc := zE) (sz := 4) yE r hm
  simp only [wK, seval, hw, hs, hx, e]
  refine ⟨by kernel_rfl, qEC hj5 ?_⟩
  simp only [wK, seval]
  refine qF (fun c2 => ?_) fun c2 => ?_
  ·have h2 := cmpI_lt.1 c2
   simp (disch := omega) only [wK, seval, qK]
   refine ⟨q - ((i + q) / 2 + 1), by omega, _, .refl _, (i + q) / 2 + 1, q, by simp, rfl, by omega, hq, rfl, fun p hp hpi => ?_, hhi⟩
   by_cases e : p = (i + q) / 2
   ·subst e; exact h2
   ·have := jB hr ((i + q) / 2) p hm (by omega)
    have : l[p].stamp < l[(i + q) / 2].stamp := this
    omega
  ·have h2 : ¬ l[(i + q) / 2].stamp < s := fun x => by have := cmpI_lt.2 x; omega
   refine ⟨(i + q) / 2 - i, by omega, _, .refl _, i, (i + q) / 2, rfl, rfl, by omega, by omega, rfl, hlo, fun p hp hpi => ?_⟩
   by_cases e : p = (i + q) / 2
   ·subst e; omega
   ·have := jB hr p ((i + q) / 2) hp (by omega)
    have : l[(i + q) / 2].stamp < l[p].stamp := this
    omega
 ·have hiq2 : i = q := by omega
  subst hiq2
  refine qF (fun c2 => ?_) fun c2 => ?_
  ·have hi2 : i < l.length := by omega
   obtain ⟨b, o, hx, e⟩ := yU (enc := zE) (sz := 4) yE r hi2
   simp only [wK, seval, hx, e]
   refine ⟨by kernel_rfl, qEC hj5 ?_⟩
   simp only [wK, seval]
   by_cases hne : l[i].stamp = s
   ·have hby := qWS hr hi2 hne
    have := k i hq fun x e => by rw [hby] at e; cases e; exact ⟨hi2, rfl⟩
    rw [hby] at this
    simp only [cmpI_eq.2 hne]
    exact .of this
   have hno : yZ l s = none := qKA fun p hp => by
    by_cases e : p = i
    ·subst e; exact hne
    ·by_cases e2 : p < i
     ·have := hlo p hp e2; omega
     ·have := jB hr p i hp (by omega)
      have : l[i].stamp < l[p].stamp := this
      have := hhi i hi2 (by omega)
      omega
   have := k i hq fun x e => by rw [hno] at e; cases e
   rw [hno] at this
   have c0 : ¬ cmpI l[i].stamp s = 0 := fun c => hne (cmpI_eq.1 c)
   simp only [c0, decide_false]
   exact .of this
  ·try simp only [wK, seval]
   have hno : yZ l s = none := qKA fun p hp => by
    have := hlo p hp (by omega)
    omega
   have := k i hq fun x e => by rw [hno] at e; cases e
   rw [hno] at this
   exact .of this
theorem qGK {h : H} {v : Value} {l : List DHold} {s : Int} (r : rLs h zE 4 v l) (hl : l.length <= 1099511627776) (hr : risP (·.stamp) l) {R : Ending -> H -> Prop}
  (k : ∀ p : Nat, p <= l.length -> (∀ x, yZ l s = some x -> ∃ hp : p < l.length, l[p] = x) -> R (.returned (.tuple #[.int .i64 p, .bool (yZ l s).isSome])) h) :
  HCalls Tryz.prog 164 #[v, .int .i64 s, .func (.func 165) #[] #[]] h R := by
 refine qD lite (args := [v, .int .i64 s, .func (.func 165) #[] #[]]) Tryz.func164 ?_
 conv => arg 2; cbv
 simp only [wK, seval]
 refine qC fun j hj => ?_
 simp only [wK, seval]
 refine qOB (rLs.sub (Sub.cons hj (Sub.refl h)) r) hl hr (by simp only [wK, seval]) fun p h1 h2 => ?_
 simp only [wK, seval]
 exact ⟨h, Sub.cons hj (Sub.refl h), k p h1 h2⟩
end Go.Proofs.YtjioiemhgbkbfaaGreatDoor
end

section
namespace Go.Proofs.YtjioiemhgbkbfaaGreatDoor
open Go Go.Tk
theorem qGO {h : H} {x : DHold} {R : Ending -> H -> Prop} (k : Asks R (qAU x) h) : HCalls Tryz.prog 93 #[.agg (zE x).toArray] h R := by
 refine qD lite (args := [.agg (zE x).toArray]) Tryz.func93 ?_
 conv => arg 2; cbv
 simp only [wK, seval, yV]
 refine qC (o := blk (zE x) 171) fun j hj => ?_
 have s1 := Sub.cons (o := blk (zE x) 171) hj (Sub.refl h)
 simp only [wK, seval, yV]
 refine zY fun b1 hb1 => ?_
 simp only [wK, seval, yV]
 cases b1 with
 | false =>
  simp only [wK, seval, yV]
  exact k.dno s1 fun p => qW hb1 rfl p.1
 | true =>
  simp only [wK, seval, yV]
  refine zY fun b2 hb2 => ?_
  simp only [wK, seval, yV]
  exact ⟨h, s1, k _ (by rw [hb2]; exact ⟨fun p => ⟨hb1.1 rfl, p⟩, fun p => p.2⟩)⟩
theorem zBR {h : H} {x y : DHold} {R : Ending -> H -> Prop} (k : R (.returned (.bool (vN x y))) h) : HCalls Tryz.prog 94 #[.agg (zE x).toArray, .agg (zE y).toArray] h R := by
 refine qD lite (args := [.agg (zE x).toArray, .agg (zE y).toArray]) Tryz.func94 ?_
 conv => arg 2; cbv
 simp only [wK, seval, yV]
 refine qC (o := blk (zE x) 171) fun j hj => ?_
 simp only [wK, seval, yV]
 refine qC (o := blk (zE y) 171) fun j2 hj2 => ?_
 obtain ⟨A, hA⟩ : ∃ A, A = (j2, blk (zE y) 171) :: (j, blk (zE x) 171) :: h := ⟨_, rfl⟩
 have n2 := hj2
 simp only [subs] at n2
 have sA : Tk.Sub h A := by rw [hA]; exact Sub.cons hj2 (Sub.cons hj (Sub.refl _))
 have g2 : hget A j2 = some (blk (zE y) 171) := by rw [hA]; exact qG _ _ _
 have g1 : hget A j = some (blk (zE x) 171) := by rw [hA, xE _ _ _ (fun e => n2.1 e.symm)]; exact qG _ _ _
 have c10 : hcel A j 0 = some (.int .i64 x.stamp) := qE g1 rfl
 have c12 : hcel A j 2 = some (.bool x.share) := qE g1 rfl
 have c20 : hcel A j2 0 = some (.int .i64 y.stamp) := qE g2 rfl
 have c22 : hcel A j2 2 = some (.bool y.share) := qE g2 rfl
 rw [<- hA]
 have sAA := Sub.refl A
 unfold vN at k
 try refine zC A (Sub.refl A) ?_
 simp only [wK, seval, yV, c10, c20, sAA]
 by_cases d : x.stamp = y.stamp
 ·have e : (decide (x.stamp ≠ y.stamp) && !(x.share && y.share)) = false := by simp [d]
  rw [e] at k
  simp only [wK, seval, d, decide_true, Bool.not_true, c12, c22, sAA]
  exact ⟨h, sA, k⟩
 ·have e : (decide (x.stamp ≠ y.stamp) && !(x.share && y.share)) = !(x.share && y.share) := by simp [d]
  rw [e] at k
  cases e1 : x.share <;> cases e2 : y.share <;> rw [e1, e2] at k <;> rw [e1] at c12 <;> rw [e2] at c22 <;> simp only [wK, seval, d, decide_false, Bool.not_false, c12, c22, sAA] <;> exact ⟨h, sA, k⟩
theorem l11At_c {h : H} {v : Value} {l : List DHold} {s : Int} (r : rLs h zE 4 v l) (hl : l.length <= 1099511627776) {R : Ending -> H -> Prop} (k1 : ∀ i (hi : i < l.length), yZ l s = some l[i] -> R (.returned (.int .i64 (i : Nat))) h) (k2 : yZ l s = none -> R (.returned (.int .i64 (-1))) h) :
  HCalls Tryz.prog 137 #[v, .int .i64 s] h R := by
 refine qD lite (args := [v, .int .i64 s]) Tryz.func137 ?_
 conv => arg 2; cbv
 simp only [wK, seval]
 refine qP [5] (fun n vs h' => ∃ i : Nat, vs = [.int .i64 i] /\ h' = h /\ i <= l.length /\ n = l.length - i /\ yZ (l.take i) s = none) l.length rfl ⟨0, rfl, rfl, by omega, by omega, by simp [yZ]⟩ ?_
 rintro n f h' ⟨i, hv, rfl, hi, rfl, ht⟩
 simp only [lm4] at hv
 simp only [wK, seval, wr, hv, r.len]
 refine qF (fun c => ?_) fun c => ?_
 ·have hi2 : i < l.length := by omega
  obtain ⟨b1, o1, hx, e1⟩ := yU (enc := zE) (sz := 4) yE r hi2
  have f1 : hcel h' b1 o1 = some (.int .i64 l[i].stamp) := zK e1 0 rfl
  simp only [wK, seval, hx, f1]
  by_cases c1 : l[i].stamp = s
  ·simp only [wK, seval, c1, decide_true]
   exact .of (k1 i hi2 (qFS hi2 ht (by simpa using c1)))
  ·simp only [wK, seval, c1, decide_false]
   simp (disch := omega) only [wK, seval, qK]
   exact ⟨l.length - (i + 1), by omega, h', .refl _, i + 1, by simp, rfl, by omega, rfl, qBM hi2 ht (by simpa using c1)⟩
 ·have hi2 : i = l.length := by omega
  subst hi2
  rw [List.take_length] at ht
  try simp only [wK, seval]
  exact .of (k2 ht)
end Go.Proofs.YtjioiemhgbkbfaaGreatDoor
end

section
namespace Go.Tk
open Go
theorem qJJ {l : List DHold} {i : Nat} (hi : i < l.length) (h : qMO l i) (h1 : qAU l[i]) (h2 : ∀ (h0 : 0 < i), (l[i - 1]'(by omega)).stamp < l[i].stamp /\ vN (l[0]'(by omega)) l[i] = false) : qMO l (i + 1) := by
 obtain ⟨a, b, c⟩ := h
 refine ⟨fun x hx => ?_, fun j hj hn => ?_, fun j hj h0 hn => ?_⟩
 ·rw [yH hi] at hx
  rcases List.mem_append.1 hx with hx | hx
  ·exact a x hx
  ·rw [List.mem_singleton.1 hx]; exact h1
 ·by_cases e : j + 1 = i
  ·subst e; exact (h2 (by omega)).1
  ·exact b j hj (by omega)
 ·by_cases e : j = i
  ·subst e; exact (h2 h0).2
  ·exact c j hj h0 (by omega)
def qLL (held l : List DHold) (i : Nat) : Prop := (∀ x ∈ l.take i, qAU x /\ x.firm = false /\ ∀ a ∈ held, a.stamp ≠ x.stamp) /\ risU (·.stamp) l i
theorem qTO (held l : List DHold) : qLL held l 0 := ⟨by simp, xD _ _⟩
theorem qTP {held l : List DHold} {i : Nat} (hi : i < l.length) (h : qLL held l i) (h1 : qAU l[i] /\ l[i].firm = false /\ ∀ a ∈ held, a.stamp ≠ l[i].stamp) (h2 : ∀ (h0 : 0 < i), (l[i - 1]'(by omega)).stamp < l[i].stamp) : qLL held l (i + 1) := by
 obtain ⟨a, b⟩ := h
 refine ⟨fun x hx => ?_, fun j hj hn => ?_⟩
 ·rw [yH hi] at hx
  rcases List.mem_append.1 hx with hx | hx
  ·exact a x hx
  ·rw [List.mem_singleton.1 hx]; exact h1
 ·by_cases e : j + 1 = i
  ·subst e; exact h2 (by omega)
  ·exact b j hj (by omega)
theorem zGW {d : DLock} (h1 : qIG d.slot) (h2 : d.held.length + d.waits.length <= 16) (h3 : qMO d.held d.held.length) (h4 : qLL d.held d.waits d.waits.length) : qIV d := by
 obtain ⟨a, b, c⟩ := zBX h3
 obtain ⟨e, f⟩ := h4
 rw [List.take_length] at e
 exact ⟨h1, h2, a, b, c, fun x hx => (e x hx).1, fun i hi => f i hi (by omega), fun x hx => (e x hx).2.1, fun x hx => (e x hx).2.2⟩
end Go.Tk
namespace Go.Proofs.YtjioiemhgbkbfaaGreatDoor
open Go Go.Tk
theorem zGX {h : H} {d : DLock} {v p : Value} (r : sLock h d v p) (b1 : d.held.length <= 1048576) (b2 : d.waits.length <= 1048576) {R : Ending -> H -> Prop} (k : Asks R (qIV d) h) : HCalls Tryz.prog 47 #[.agg (zP d v p).toArray] h R := by
 refine yK (args := [.agg (zP d v p).toArray]) Tryz.func47 ir47 ?_
 simp only [wK, seval, xN]
 refine qC (o := blk (zP d v p) 81) fun j1 h1 => ?_
 obtain ⟨M, hM⟩ : ∃ M, M = (j1, blk (zP d v p) 81) :: h := ⟨_, rfl⟩
 have sM : Tk.Sub h M := by rw [hM]; exact Sub.cons h1 (Sub.refl _)
 have gM : hget M j1 = some (blk (zP d v p) 81) := by rw [hM]; exact qG _ _ _
 have c0 : hcel M j1 0 = some (.int .i64 d.slot) := qE gM rfl
 have c1 : hcel M j1 1 = some v := qE gM rfl
 have c2 : hcel M j1 2 = some p := qE gM rfl
 have rv : rLs M zE 4 v d.held := r.1.sub sM
 have rp : rLs M zE 4 p d.waits := r.2.sub sM
 have sMM := Sub.refl M
 rw [<- hM]
 simp only [wK, seval, c0]
 refine zY fun q1 hq1 => ?_
 cases q1 with
 | false =>
  simp only [wK, seval]
  exact k.dno sM fun x => qW hq1 rfl x.1
 | true =>
 simp (disch := omega) only [wK, seval, c1, c2, rv.len, rp.len, qK]
 refine qF (fun e => k.dno sM fun x => by have := x.2.1; omega) fun e16 => ?_
 refine qP [3] (fun n vs h' => ∃ i : Nat, vs = [.int .i64 i] /\ h' = M /\ i <= d.held.length /\ n = d.held.length - i /\ qMO d.held i) d.held.length rfl ⟨0, rfl, rfl, by omega, rfl, qVX _⟩ ?_
 rintro n f h' ⟨i, hv, rfl, hi, rfl, hu⟩
 simp only [lm4] at hv
 simp only [wK, seval, wr, hv, c1, rv.len]
 refine qF (fun q => ?_) fun q => ?_
 ·have hi2 : i < d.held.length := by omega
  obtain ⟨ba, oa, hxa, ea⟩ := yU (enc := zE) (sz := 4) yE rv hi2
  have fa : hcel h' ba oa = some (.int .i64 d.held[i].stamp) := zK ea 0 rfl
  refine zC h' (Sub.refl _) ?_
  simp only [wK, seval, c1, hxa, ea, sMM]
  refine qGO fun q2 hq2 => ?_
  cases q2 with
  | false =>
   simp only [wK, seval, sMM]
   exact k.dno sM fun x => qW hq2 rfl (x.2.2.1 _ (List.getElem_mem hi2))
  | true =>
  have hh := hq2.1 rfl
  simp only [wK, seval, sMM]
  refine qF (fun q3 => ?_) fun q3 => ?_
  ·have hi1 : i - 1 < d.held.length := by omega
   have ecast : ((i - 1 : Nat) : Int) = (i : Int) - 1 := by omega
   obtain ⟨bb, ob, hxb, eb⟩ := yU (enc := zE) (sz := 4) yE rv hi1
   rw [ecast] at hxb
   have fb : hcel h' bb ob = some (.int .i64 d.held[i - 1].stamp) := zK eb 0 rfl
   obtain ⟨bz, oz, hxz, ez⟩ := yU (enc := zE) (sz := 4) yE rv (i := 0) (by omega)
   have hxz : ∀ (kd : IntKind) (F : Value -> Prop), vI v (.int kd 0) 4 F = F (.pointer (some ⟨bz, oz, none⟩)) := hxz
   simp (disch := omega) only [wK, seval, c1, hxa, hxb, fa, fb, qK, sMM]
   refine xA (fun q4 => ?_) fun q4 => ?_
   ·exact k.dno sM fun x => by
     have := x.2.2.2.1 (i - 1) (by omega)
     have e2 : i - 1 + 1 = i := by omega
     simp only [e2] at this
     omega
   ·simp only [wK, seval, c1, hxz, ez, hxa, ea, sMM]
    refine zBR ?_
    obtain ⟨mb, hmb⟩ : ∃ mb, mb = vN (d.held[0]'(by omega)) d.held[i] := ⟨_, rfl⟩
    rw [<- hmb]
    cases mb with
    | true =>
     simp only [wK, seval, sMM]
     exact k.dno sM fun x => by have := x.2.2.2.2.1 _ (List.getElem_mem (by omega : 0 < d.held.length)) _ (List.getElem_mem hi2); rw [<- hmb] at this; cases this
    | false =>
     simp (disch := omega) only [wK, seval, sMM, qK]
     exact ⟨d.held.length - (i + 1), by omega, h', .refl _, i + 1, by simp, rfl, by omega, rfl, qJJ hi2 hu hh fun _ => ⟨by omega, hmb.symm⟩⟩
  ·simp (disch := omega) only [wK, seval, sMM, qK]
   exact ⟨d.held.length - (i + 1), by omega, h', .refl _, i + 1, by simp, rfl, by omega, rfl, qJJ hi2 hu hh fun h0 => by omega⟩
 ·have hi3 : i = d.held.length := by omega
  rw [hi3] at hu
  refine qP [4] (fun n vs h2 => ∃ i : Nat, vs = [.int .i64 i] /\ h2 = h' /\ i <= d.waits.length /\ n = d.waits.length - i /\ qLL d.held d.waits i) d.waits.length rfl ⟨0, rfl, rfl, by omega, rfl, qTO _ _⟩ ?_
  rintro n f2 h2 ⟨i, hv2, rfl, hi2', rfl, hw⟩
  simp only [lm4] at hv2
  simp only [wK, seval, wr, hv2, c2, rp.len]
  refine qF (fun q => ?_) fun q => ?_
  ·have hi2 : i < d.waits.length := by omega
   obtain ⟨ba, oa, hxa, ea⟩ := yU (enc := zE) (sz := 4) yE rp hi2
   have fa : hcel h2 ba oa = some (.int .i64 d.waits[i].stamp) := zK ea 0 rfl
   have fa3 : hcel h2 ba (oa + 3) = some (.bool d.waits[i].firm) := zK ea 3 rfl
   refine zC h2 (Sub.refl _) ?_
   simp only [wK, seval, c2, hxa, ea, sMM]
   refine qGO fun q2 hq2 => ?_
   cases q2 with
   | false =>
    simp only [wK, seval, sMM]
    exact k.dno sM fun x => qW hq2 rfl (x.2.2.2.2.2.1 _ (List.getElem_mem hi2))
   | true =>
   have hh := hq2.1 rfl
   simp only [wK, seval, sMM, c2, hxa, fa3]
   obtain ⟨fm, hfm⟩ : ∃ fm, fm = d.waits[i].firm := ⟨_, rfl⟩
   rw [<- hfm]
   cases fm with
   | true =>
    simp only [wK, seval, sMM]
    exact k.dno sM fun x => by have := x.2.2.2.2.2.2.2.1 _ (List.getElem_mem hi2); rw [<- hfm] at this; cases this
   | false =>
   simp only [wK, seval, sMM]
   have inner : (∀ (h0 : 0 < i), (d.waits[i - 1]'(by omega)).stamp < d.waits[i].stamp) -> (∀ a ∈ d.held, a.stamp ≠ d.waits[i].stamp) -> qLL d.held d.waits (i + 1) := fun a b => qTP hi2 hw ⟨hh, hfm.symm, b⟩ a
   refine qF (fun q3 => ?_) fun q3 => ?_
   ·have hi1 : i - 1 < d.waits.length := by omega
    have ecast : ((i - 1 : Nat) : Int) = (i : Int) - 1 := by omega
    obtain ⟨bb, ob, hxb, eb⟩ := yU (enc := zE) (sz := 4) yE rp hi1
    rw [ecast] at hxb
    have fb : hcel h2 bb ob = some (.int .i64 d.waits[i - 1].stamp) := zK eb 0 rfl
    simp (disch := omega) only [wK, seval, c2, hxa, hxb, fa, fb, qK, sMM]
    refine xA (fun q4 => ?_) fun q4 => ?_
    ·exact k.dno sM fun x => by
      have := x.2.2.2.2.2.2.1 (i - 1) (by omega)
      have e2 : i - 1 + 1 = i := by omega
      simp only [e2] at this
      omega
    ·have hstep : ∀ (h0 : 0 < i), (d.waits[i - 1]'(by omega)).stamp < d.waits[i].stamp := fun _ => q4
     try simp only [wK, seval, sMM]
     refine qP [5] (fun n vs h3 => ∃ q : Nat, vs = [.int .i64 q] /\ h3 = h2 /\ q <= d.held.length /\ n = d.held.length - q /\ ∀ a ∈ d.held.take q, a.stamp ≠ d.waits[i].stamp) d.held.length rfl ⟨0, rfl, rfl, by omega, rfl, by simp⟩ ?_
     rintro n3 f3 h3 ⟨q5, hv3, rfl, hq5, rfl, hne⟩
     simp only [lm4] at hv3
     simp only [wK, seval, wr, hv3, c1, rv.len]
     refine qF (fun q6 => ?_) fun q6 => ?_
     ·have hq6 : q5 < d.held.length := by omega
      obtain ⟨bk, ok, hxk, ek⟩ := yU (enc := zE) (sz := 4) yE rv hq6
      have fk : hcel h3 bk ok = some (.int .i64 d.held[q5].stamp) := zK ek 0 rfl
      refine zC h3 (Sub.refl _) ?_
      simp only [wK, seval, c1, hxk, fk, c2, hxa, fa, sMM]
      refine zV (fun e => ?_) fun e => ?_
      ·exact k.dno sM fun x => x.2.2.2.2.2.2.2.2 _ (List.getElem_mem hi2) _ (List.getElem_mem hq6) e
      ·simp (disch := omega) only [wK, seval, qK]
       refine ⟨d.held.length - (q5 + 1), by omega, h3, .refl _, q5 + 1, by simp, rfl, by omega, rfl, fun a ha => ?_⟩
       rw [yH hq6] at ha
       rcases List.mem_append.1 ha with ha | ha
       ·exact hne a ha
       ·rw [List.mem_singleton.1 ha]; exact e
     ·have hq7 : q5 = d.held.length := by omega
      rw [hq7, List.take_length] at hne
      simp (disch := omega) only [wK, seval, qK]
      exact ⟨d.waits.length - (i + 1), by omega, h3, .refl _, i + 1, by simp, rfl, by omega, rfl, inner hstep hne⟩
   ·have hstep : ∀ (h0 : 0 < i), (d.waits[i - 1]'(by omega)).stamp < d.waits[i].stamp := fun h0 => by omega
    try simp only [wK, seval, sMM]
    refine qP [5] (fun n vs h3 => ∃ q : Nat, vs = [.int .i64 q] /\ h3 = h2 /\ q <= d.held.length /\ n = d.held.length - q /\ ∀ a ∈ d.held.take q, a.stamp ≠ d.waits[i].stamp) d.held.length rfl ⟨0, rfl, rfl, by omega, rfl, by simp⟩ ?_
    rintro n3 f3 h3 ⟨q5, hv3, rfl, hq5, rfl, hne⟩
    simp only [lm4] at hv3
    simp only [wK, seval, wr, hv3, c1, rv.len]
    refine qF (fun q6 => ?_) fun q6 => ?_
    ·have hq6 : q5 < d.held.length := by omega
     obtain ⟨bk, ok, hxk, ek⟩ := yU (enc := zE) (sz := 4) yE rv hq6
     have fk : hcel h3 bk ok = some (.int .i64 d.held[q5].stamp) := zK ek 0 rfl
     refine zC h3 (Sub.refl _) ?_
     simp only [wK, seval, c1, hxk, fk, c2, hxa, fa, sMM]
     refine zV (fun e => ?_) fun e => ?_
     ·exact k.dno sM fun x => x.2.2.2.2.2.2.2.2 _ (List.getElem_mem hi2) _ (List.getElem_mem hq6) e
     ·simp (disch := omega) only [wK, seval, qK]
      refine ⟨d.held.length - (q5 + 1), by omega, h3, .refl _, q5 + 1, by simp, rfl, by omega, rfl, fun a ha => ?_⟩
      rw [yH hq6] at ha
      rcases List.mem_append.1 ha with ha | ha
      ·exact hne a ha
      ·rw [List.mem_singleton.1 ha]; exact e
    ·have hq7 : q5 = d.held.length := by omega
     rw [hq7, List.take_length] at hne
     simp (disch := omega) only [wK, seval, qK]
     exact ⟨d.waits.length - (i + 1), by omega, h3, .refl _, i + 1, by simp, rfl, by omega, rfl, inner hstep hne⟩
  ·have hi4 : i = d.waits.length := by omega
   rw [hi4] at hw
   try simp only [wK, seval]
   exact k.dyes sM (zGW (hq1.1 rfl) (by omega) hu hw)
end Go.Proofs.YtjioiemhgbkbfaaGreatDoor
end

section
namespace Go.Tk
open Go
theorem byStamp_some {l : List DHold} {s : Int} : (yZ l s).isSome = true ↔ ∃ a ∈ l, a.stamp = s := by
 unfold yZ
 rw [List.find?_isSome]
 simp
theorem qLE {l : List DHold} {s : Int} (h : (yZ l s).isSome = false) : ∀ a ∈ l, a.stamp ≠ s := fun a ha e => by
 have := byStamp_some.2 ⟨a, ha, e⟩
 rw [h] at this; cases this
end Go.Tk
namespace Go.Proofs.YtjioiemhgbkbfaaGreatDoor
open Go Go.Tk
theorem zHR {h : H} {x : DHold} {R : Ending -> H -> Prop} (k : Asks R (qAU x) h) : HCalls Tryz.prog 197 #[.agg (zE x).toArray] h R := by
 refine qD lite (args := [.agg (zE x).toArray]) Tryz.func197 ?_
 conv => arg 2; cbv
 simp only [wK, seval, yV]
 refine qC (o := blk (zE x) 171) fun j hj => ?_
 have s1 := Sub.cons (o := blk (zE x) 171) hj (Sub.refl h)
 simp only [wK, seval, yV]
 refine uF fun b1 hb1 => ?_
 cases b1 with
 | false =>
  simp only [wK, seval, yV]
  exact k.dno s1 fun p => qW hb1 rfl p.1
 | true =>
  simp only [wK, seval, yV]
  refine uF fun b2 hb2 => ?_
  simp only [wK, seval, yV]
  exact ⟨h, s1, k _ (by rw [hb2]; exact ⟨fun p => ⟨hb1.1 rfl, p⟩, fun p => p.2⟩)⟩
theorem meets_c {h : H} {x y : DHold} {R : Ending -> H -> Prop} (k : R (.returned (.bool (vN x y))) h) : HCalls Tryz.prog 184 #[.agg (zE x).toArray, .agg (zE y).toArray] h R := by
 refine qD lite (args := [.agg (zE x).toArray, .agg (zE y).toArray]) Tryz.func184 ?_
 conv => arg 2; cbv
 simp only [wK, seval, yV]
 refine qC (o := blk (zE x) 171) fun j hj => ?_
 simp only [wK, seval, yV]
 refine qC (o := blk (zE y) 171) fun j2 hj2 => ?_
 obtain ⟨A, hA⟩ : ∃ A, A = (j2, blk (zE y) 171) :: (j, blk (zE x) 171) :: h := ⟨_, rfl⟩
 have n2 := hj2
 simp only [subs] at n2
 have sA : Tk.Sub h A := by rw [hA]; exact Sub.cons hj2 (Sub.cons hj (Sub.refl _))
 have g2 : hget A j2 = some (blk (zE y) 171) := by rw [hA]; exact qG _ _ _
 have g1 : hget A j = some (blk (zE x) 171) := by rw [hA, xE _ _ _ (fun e => n2.1 e.symm)]; exact qG _ _ _
 have c10 : hcel A j 0 = some (.int .i64 x.stamp) := qE g1 rfl
 have c12 : hcel A j 2 = some (.bool x.share) := qE g1 rfl
 have c20 : hcel A j2 0 = some (.int .i64 y.stamp) := qE g2 rfl
 have c22 : hcel A j2 2 = some (.bool y.share) := qE g2 rfl
 rw [<- hA]
 unfold vN at k
 simp only [wK, seval, yV, c10, c20]
 by_cases d : x.stamp = y.stamp
 ·have e : (decide (x.stamp ≠ y.stamp) && !(x.share && y.share)) = false := by simp [d]
  rw [e] at k
  simp only [wK, seval, d, decide_true, Bool.not_true, c12, c22]
  exact ⟨h, sA, k⟩
 ·have e : (decide (x.stamp ≠ y.stamp) && !(x.share && y.share)) = !(x.share && y.share) := by simp [d]
  rw [e] at k
  cases e1 : x.share <;> cases e2 : y.share <;> rw [e1, e2] at k <;> rw [e1] at c12 <;> rw [e2] at c22 <;> simp only [wK, seval, d, decide_false, Bool.not_false, c12, c22] <;> exact ⟨h, sA, k⟩
def qFN (x : DHold) : Value := .func (.func 184) #[.agg (zE x).toArray] #[]
theorem qRQ {h : H} {v : Value} {l : List DHold} {x : DHold} (r : rLs h zE 4 v l) (hl : l.length <= 1048576) {R : Ending -> H -> Prop} (k1 : l.any (vN x) = true -> ∀ n : Nat, R (.returned (.int .i64 n)) h) (k2 : l.any (vN x) = false -> R (.returned (.int .i64 (-1))) h) :
  HCalls Tryz.prog 198 #[v, qFN x] h R := by
 refine qD lite (args := [v, qFN x]) Tryz.func198 ?_
 conv => arg 2; cbv
 simp only [wK, seval, r.len]
 refine qP [8] (fun n vs h' => ∃ i : Nat, vs = [.int .i64 i] /\ h' = h /\ i <= l.length /\ n = l.length - i /\ (l.take i).any (vN x) = false) l.length rfl ⟨0, rfl, rfl, by omega, by omega, by simp⟩ ?_
 rintro n f h' ⟨i, hv, rfl, hi, rfl, ht⟩
 simp only [lm4] at hv
 simp only [wK, seval, wr, hv, r.len]
 refine qF (fun c => ?_) fun c => ?_
 ·have hi2 : i < l.length := by omega
  obtain ⟨b, o, hx, e⟩ := yU (enc := zE) (sz := 4) yE r hi2
  simp only [wK, seval, hx, e, qFN]
  refine ⟨by kernel_rfl, meets_c ?_⟩
  obtain ⟨q, hq⟩ : ∃ q, q = vN x l[i] := ⟨_, rfl⟩
  rw [<- hq]
  cases q with
  | true =>
   simp only [wK, seval]
   exact .of (k1 (List.any_eq_true.2 ⟨l[i], List.getElem_mem hi2, hq.symm⟩) i)
  | false =>
   simp (disch := omega) only [wK, seval, qK]
   exact ⟨l.length - (i + 1), by omega, h', .refl _, i + 1, by simp, rfl, by omega, rfl, by rw [qTH hi2, ht, <- hq]; rfl⟩
 ·have hi2 : i = l.length := by omega
  rw [hi2, List.take_length] at ht
  try simp only [wK, seval]
  exact .of (k2 ht)
theorem qJS {h : H} {v : Value} {l : List DHold} {x : DHold} (r : rLs h zE 4 v l) (hl : l.length <= 1048576) {R : Ending -> H -> Prop} (k : R (.returned (.bool (l.any (vN x)))) h) :
  HCalls Tryz.prog 183 #[v, qFN x] h R := by
 refine qD lite (args := [v, qFN x]) Tryz.func183 ?_
 conv => arg 2; cbv
 rw [qR]
 obtain ⟨F, hF⟩ : ∃ F, F = qFN x := ⟨_, rfl⟩
 rw [<- hF]
 simp only [wK, seval]
 rw [hF]
 refine qRQ r hl (fun e n => ?_) fun e => ?_
 ·rw [e] at k
  have e2 : decide (0 <= (n : Int)) = true := by simp
  simp only [wK, seval, e2]
  exact .of k
 ·rw [e] at k
  simp only [wK, seval]
  exact .of k
theorem qMN {h : H} {v : Value} {l : List DHold} (r : rLs h zE 4 v l) (hl : l.length <= 1048576) {R : Ending -> H -> Prop} (k : Asks R (allP qAU l /\ risP (·.stamp) l) h) : HCalls Tryz.prog 182 #[v] h R := by
 refine qD lite (args := [v]) Tryz.func182 ?_
 conv => arg 2; cbv
 simp only [wK, seval, r.len]
 refine qP [7] (fun n vs h' => ∃ i : Nat, vs = [.int .i64 i] /\ h' = h /\ i <= l.length /\ n = l.length - i /\ allP qAU (l.take i) /\ risU (·.stamp) l i) l.length rfl ⟨0, rfl, rfl, by omega, by omega, xF _ _, xD _ _⟩ ?_
 rintro n f h' ⟨i, hv, rfl, hi, rfl, ht, hu⟩
 simp only [lm4] at hv
 simp only [wK, seval, wr, hv, r.len]
 refine qF (fun c => ?_) fun c => ?_
 ·have hi2 : i < l.length := by omega
  obtain ⟨ba, oa, hxa, ea⟩ := yU (enc := zE) (sz := 4) yE r hi2
  obtain ⟨x, hxx⟩ : ∃ x, x = l[i] := ⟨_, rfl⟩
  rw [<- hxx] at ea
  have zh := qDH
  simp only [wK, seval, hxa, ea, zh, yV]
  refine qC (o := blk (zE qCJ) 171) fun j4 h4 => ?_
  try simp only [wK, seval, zh, yV]
  obtain ⟨B, hB⟩ : ∃ B, B = (j4, blk (zE x) 171) :: h' := ⟨_, rfl⟩
  have sB : Tk.Sub h' B := by rw [hB]; exact Sub.cons h4 (Sub.refl _)
  have gB : hget B j4 = some (blk (zE x) 171) := by rw [hB]; exact qG _ _ _
  have rd : qV B j4 0 4 = some (zE x) := zD gB rfl
  have c40 : hcel B j4 0 = some (.int .i64 x.stamp) := qE gB rfl
  have sBB := Sub.refl B
  rw [<- hB]
  refine zC B (Sub.refl _) ?_
  simp only [wK, seval, rd, sBB]
  refine zHR fun q2 hq2 => ?_
  cases q2 with
  | false =>
   simp only [wK, seval, sBB]
   exact k.dno sB fun y => qW hq2 rfl (by have := y.1 _ (List.getElem_mem hi2); rw [<- hxx] at this; exact this)
  | true =>
  have hh : qAU l[i] := hxx ▸ hq2.1 rfl
  simp only [wK, seval, sBB]
  refine qF (fun q3 => ?_) fun q3 => ?_
  ·have ecast : ((i - 1 : Nat) : Int) = (i : Int) - 1 := by omega
   obtain ⟨bb, ob, hxb, eb⟩ := yU (enc := zE) (sz := 4) yE r (i := i - 1) (by omega)
   rw [ecast] at hxb
   have fb : hcel B bb ob = some (.int .i64 l[i - 1].stamp) := yA sB (zK eb 0 rfl)
   simp (disch := omega) only [wK, seval, hxb, fb, c40, qK, sBB]
   refine xA (fun q4 => ?_) fun q4 => ?_
   ·exact k.dno sB fun y => by
     have := y.2 (i - 1) (by omega)
     have e2 : i - 1 + 1 = i := by omega
     simp only [e2, <- hxx] at this
     omega
   ·exact ⟨l.length - (i + 1), by omega, h', sB, i + 1, by simp, rfl, by omega, rfl, yJ hi2 ht hh, xR hi2 (by omega) hu (by rw [<- hxx]; exact q4)⟩
  ·simp (disch := omega) only [wK, seval, sBB, qK]
   exact ⟨l.length - (i + 1), by omega, h', sB, i + 1, by simp, rfl, by omega, rfl, yJ hi2 ht hh, wG (by omega) hu⟩
 ·try simp only [wK, seval]
  exact .of (k.yes ⟨xM (by omega) ht, xS (by omega) hu⟩)
theorem qOR {h : H} {d : DLock} {v p : Value} (r : sLock h d v p) (b1 : d.held.length <= 1048576) (b2 : d.waits.length <= 1048576) {R : Ending -> H -> Prop} (k : Asks R (qIV d) h) : HCalls Tryz.prog 163 #[.agg (zP d v p).toArray] h R := by
 refine qD lite (args := [.agg (zP d v p).toArray]) Tryz.func163 ?_
 conv => arg 2; cbv
 simp only [wK, seval, xN]
 refine qC (o := blk (zP d v p) 81) fun j1 h1 => ?_
 obtain ⟨M, hM⟩ : ∃ M, M = (j1, blk (zP d v p) 81) :: h := ⟨_, rfl⟩
 have sM : Tk.Sub h M := by rw [hM]; exact Sub.cons h1 (Sub.refl _)
 have gM : hget M j1 = some (blk (zP d v p) 81) := by rw [hM]; exact qG _ _ _
 have c0 : hcel M j1 0 = some (.int .i64 d.slot) := qE gM rfl
 have c1 : hcel M j1 1 = some v := qE gM rfl
 have c2 : hcel M j1 2 = some p := qE gM rfl
 have rv : rLs M zE 4 v d.held := r.1.sub sM
 have rp : rLs M zE 4 p d.waits := r.2.sub sM
 rw [<- hM]
 try simp only [wK, seval, c0]
 refine qEI fun q1 hq1 => ?_
 cases q1 with
 | false =>
  simp only [wK, seval]
  exact k.dno sM fun x => qW hq1 rfl x.1
 | true =>
 simp (disch := omega) only [wK, seval, c1, c2, rv.len, rp.len, qK]
 refine qF (fun e => k.dno sM fun x => by have := x.2.1; omega) fun e16 => ?_
 try simp only [wK, seval, c1]
 refine qMN rv b1 fun q2 hq2 => ?_
 cases q2 with
 | false =>
  simp only [wK, seval]
  exact k.dno sM fun x => qW hq2 rfl ⟨x.2.2.1, x.2.2.2.1⟩
 | true =>
 simp only [wK, seval, c2]
 refine qMN rp b2 fun q3 hq3 => ?_
 cases q3 with
 | false =>
  simp only [wK, seval]
  exact k.dno sM fun x => qW hq3 rfl ⟨x.2.2.2.2.2.1, x.2.2.2.2.2.2.1⟩
 | true =>
 have hheld := hq2.1 rfl
 have hwait := hq3.1 rfl
 have zh := qDH
 simp only [wK, seval, c1, rv.len]
 refine qP [38] (fun n vs h' => ∃ i : Nat, vs = [.int .i64 i] /\ h' = M /\ i <= d.held.length /\ n = d.held.length - i /\ ∀ x ∈ d.held.take i, d.held.any (vN x) = false) d.held.length rfl ⟨0, rfl, rfl, by omega, by omega, by simp⟩ ?_
 rintro n f h' ⟨i, hv, rfl, hi, rfl, hm⟩
 simp only [lm4] at hv
 simp only [wK, seval, wr, hv]
 refine qF (fun q => ?_) fun q => ?_
 ·have hi2 : i < d.held.length := by omega
  obtain ⟨ba, oa, hxa, ea⟩ := yU (enc := zE) (sz := 4) yE rv hi2
  obtain ⟨x, hxx⟩ : ∃ x, x = d.held[i] := ⟨_, rfl⟩
  rw [<- hxx] at ea
  simp only [wK, seval, hxa, ea, zh, yV]
  refine qC (o := blk (zE qCJ) 171) fun j4 h4 => ?_
  try simp only [wK, seval, zh, yV]
  obtain ⟨B, hB⟩ : ∃ B, B = (j4, blk (zE x) 171) :: h' := ⟨_, rfl⟩
  have sB : Tk.Sub h' B := by rw [hB]; exact Sub.cons h4 (Sub.refl _)
  have gB : hget B j4 = some (blk (zE x) 171) := by rw [hB]; exact qG _ _ _
  have rd : qV B j4 0 4 = some (zE x) := zD gB rfl
  have c1B := yA sB c1
  rw [<- hB]
  simp only [wK, seval, c1B, rd]
  refine qJS (x := x) (rLs.sub sB rv) b1 ?_
  obtain ⟨mb, hmb⟩ : ∃ mb, mb = d.held.any (vN x) := ⟨_, rfl⟩
  rw [<- hmb]
  cases mb with
  | true =>
   simp only [wK, seval]
   exact k.dno (sM.trans sB) fun y => by
    obtain ⟨z, hz, e⟩ := List.any_eq_true.1 hmb.symm
    have := y.2.2.2.2.1 x (hxx ▸ List.getElem_mem hi2) z hz
    rw [this] at e; cases e
  | false =>
   simp (disch := omega) only [wK, seval, qK]
   refine ⟨d.held.length - (i + 1), by omega, h', sB, i + 1, by simp, rfl, by omega, rfl, fun z hz => ?_⟩
   rw [yH hi2] at hz
   rcases List.mem_append.1 hz with hz | hz
   ·exact hm z hz
   ·rw [List.mem_singleton.1 hz, <- hxx]; exact hmb.symm
 ·have hi3 : i = d.held.length := by omega
  rw [hi3, List.take_length] at hm
  have hmeet : ∀ a ∈ d.held, ∀ b ∈ d.held, vN a b = false := fun a ha b hb => by simpa using List.any_eq_false.1 (hm a ha) b hb
  simp only [wK, seval, c2, rp.len]
  refine qP [51] (fun n vs h2 => ∃ i : Nat, vs = [.int .i64 i] /\ h2 = h' /\ i <= d.waits.length /\ n = d.waits.length - i /\ ∀ x ∈ d.waits.take i, x.firm = false /\ ∀ a ∈ d.held, a.stamp ≠ x.stamp) d.waits.length rfl ⟨0, rfl, rfl, by omega, by omega, by simp⟩ ?_
  rintro n f2 h2 ⟨i, hv2, rfl, hi2', rfl, hw⟩
  simp only [lm4] at hv2
  simp only [wK, seval, wr, hv2]
  refine qF (fun q => ?_) fun q => ?_
  ·have hi2 : i < d.waits.length := by omega
   obtain ⟨ba, oa, hxa, ea⟩ := yU (enc := zE) (sz := 4) yE rp hi2
   obtain ⟨x, hxx⟩ : ∃ x, x = d.waits[i] := ⟨_, rfl⟩
   have hxm : x ∈ d.waits := hxx ▸ List.getElem_mem hi2
   rw [<- hxx] at ea
   simp only [wK, seval, hxa, ea, zh, yV]
   refine qC (o := blk (zE qCJ) 171) fun j6 h6 => ?_
   try simp only [wK, seval, zh, yV]
   obtain ⟨B, hB⟩ : ∃ B, B = (j6, blk (zE x) 171) :: h2 := ⟨_, rfl⟩
   have sB : Tk.Sub h2 B := by rw [hB]; exact Sub.cons h6 (Sub.refl _)
   have gB : hget B j6 = some (blk (zE x) 171) := by rw [hB]; exact qG _ _ _
   have c60 : hcel B j6 0 = some (.int .i64 x.stamp) := qE gB rfl
   have c63 : hcel B j6 3 = some (.bool x.firm) := qE gB rfl
   have c1B := yA sB c1
   rw [<- hB]
   simp only [wK, seval, c1B, c60]
   refine qGK (s := x.stamp) (rLs.sub sB rv) (by omega) hheld.2 fun pp hpl hpp => ?_
   obtain ⟨hs, hhs⟩ : ∃ hs, hs = (yZ d.held x.stamp).isSome := ⟨_, rfl⟩
   rw [<- hhs]
   cases hs with
   | true =>
    simp only [wK, seval]
    exact k.dno (sM.trans sB) fun y => by
     obtain ⟨a, ha, e⟩ := byStamp_some.1 hhs.symm
     exact y.2.2.2.2.2.2.2.2 x hxm a ha e
   | false =>
    obtain ⟨fm, hfm⟩ : ∃ fm, fm = x.firm := ⟨_, rfl⟩
    rw [<- hfm] at c63
    simp only [wK, seval, c63]
    cases fm with
    | true =>
     simp only [wK, seval]
     exact k.dno (sM.trans sB) fun y => by have := y.2.2.2.2.2.2.2.1 x hxm; rw [<- hfm] at this; cases this
    | false =>
     simp (disch := omega) only [wK, seval, qK]
     refine ⟨d.waits.length - (i + 1), by omega, h2, sB, i + 1, by simp, rfl, by omega, rfl, fun z hz => ?_⟩
     rw [yH hi2] at hz
     rcases List.mem_append.1 hz with hz | hz
     ·exact hw z hz
     ·rw [List.mem_singleton.1 hz, <- hxx]; exact ⟨hfm.symm, qLE hhs.symm⟩
  ·have hi4 : i = d.waits.length := by omega
   rw [hi4, List.take_length] at hw
   try simp only [wK, seval]
   exact k.dyes sM ⟨hq1.1 rfl, by omega, hheld.1, hheld.2, hmeet, hwait.1, hwait.2, fun x hx => (hw x hx).1, fun x hx => (hw x hx).2⟩
end Go.Proofs.YtjioiemhgbkbfaaGreatDoor
end

section
namespace Go.Proofs.YtjioiemhgbkbfaaGreatDoor
open Go Go.Tk
theorem l21In_c {h : H} {v : Value} {l : List Int} {a : Int} (r : rInts h v l) (hl : l.length <= 1048576) {R : Ending -> H -> Prop} (k : R (.returned (.bool (l.contains a))) h) : HCalls Tryz.prog 135 #[v, .int .i64 a] h R := by
 refine qD lite (args := [v, .int .i64 a]) Tryz.func135 ?_
 conv => arg 2; cbv
 simp only [wK, seval]
 refine qP [5] (fun n vs h' => ∃ i : Nat, vs = [.int .i64 i] /\ h' = h /\ (l.take i).contains a = false /\ i <= l.length /\ n = l.length - i) l.length rfl ⟨0, rfl, rfl, rfl, by omega, rfl⟩ ?_
 rintro n f h' ⟨i, hv, rfl, hn, hi, rfl⟩
 simp only [lm4] at hv
 simp only [wK, seval, wr, hv, r.len]
 refine qF (fun c1 => ?_) fun c1 => ?_
 ·have hi2 : i < l.length := by omega
  obtain ⟨b, o, hx, e⟩ := yU (enc := eI) (sz := 1) (fun _ => rfl) r hi2
  have e0 : hcel h' b o = some (.int .i64 l[i]) := zK e 0 rfl
  simp only [wK, seval, hx, e0]
  by_cases d1 : l[i] = a
  ·have : l.contains a = true := by rw [List.contains_iff_mem, <- d1]; exact List.getElem_mem hi2
   rw [this] at k
   simp only [wK, seval, d1, decide_true]
   exact .of k
  ·simp only [wK, seval, d1, decide_false]
   simp (disch := omega) only [wK, seval, qK]
   refine ⟨l.length - (i + 1), by omega, h', .refl _, i + 1, by simp, rfl, ?_, by omega, rfl⟩
   rw [List.take_succ_eq_append_getElem hi2, <- Bool.not_eq_true, List.contains_iff_mem]
   rw [<- Bool.not_eq_true, List.contains_iff_mem] at hn
   simp only [List.mem_append, List.mem_singleton]
   rintro (q | q)
   ·exact hn q
   ·exact d1 q.symm
 ·have hi3 : i = l.length := by omega
  rw [hi3, List.take_length] at hn
  rw [hn] at k
  try simp only [wK, seval]
  exact .of k
end Go.Proofs.YtjioiemhgbkbfaaGreatDoor
end

section
namespace Go.Tk
open Go
theorem zBJ {l : List DRec} {i : Nat} (hi : i < l.length) (h : ∀ j (hj : j < l.length), j < i -> vQ (l.take j) l[j]) (x : vQ (l.take i) l[i]) : ∀ j (hj : j < l.length), j < i + 1 -> vQ (l.take j) l[j] := by
 intro j hj hn
 by_cases e : j = i
 ·subst e; exact x
 ·exact h j hj (by omega)
end Go.Tk
namespace Go.Proofs.YtjioiemhgbkbfaaGreatDoor
open Go Go.Tk
theorem qMF {h : H} {st tr wh : Int} {v : Value} {sl : List Int} (r : rInts h v sl) (hl : sl.length <= 1099511627776) {R : Ending -> H -> Prop} (k : Asks R (qMW st tr wh sl) h) : HCalls Tryz.prog 92 #[.int .i64 st, .int .i64 tr, .int .i64 wh, v] h R := by
 refine qD lite (args := [.int .i64 st, .int .i64 tr, .int .i64 wh, v]) Tryz.func92 ?_
 conv => arg 2; cbv
 simp only [wK, seval]
 refine zY fun q1 h1 => ?_
 cases q1 with
 | false => simp only [wK, seval]; exact .of (k.no fun p => qW h1 rfl p.1)
 | true =>
 simp only [wK, seval]
 refine zY fun q2 h2 => ?_
 cases q2 with
 | false => simp only [wK, seval]; exact .of (k.no fun p => qW h2 rfl p.2.1)
 | true =>
 simp only [wK, seval]
 refine zY fun q3 h3 => ?_
 cases q3 with
 | false => simp only [wK, seval]; exact .of (k.no fun p => qW h3 rfl p.2.2.1)
 | true =>
 simp only [wK, seval, r.len]
 by_cases c1 : (sl.length : Int) < 1
 ·simp only [wK, seval, c1, decide_true]
  exact .of (k.no fun p => p.2.2.2.1 (List.eq_nil_of_length_eq_zero (by omega)))
 ·simp only [wK, seval, c1, decide_false]
  have hne : sl ≠ [] := fun e => by rw [e] at c1; simp at c1
  refine qJC r hl fun q4 h4 => ?_
  cases q4 with
  | false => simp only [wK, seval]; exact .of (k.no fun p => qW h4 rfl p.2.2.2.2.1)
  | true =>
  simp only [wK, seval]
  by_cases w1 : wh = 1
  ·simp only [wK, seval, w1, decide_true]
   exact .of (k.yes ⟨h1.1 rfl, h2.1 rfl, h3.1 rfl, hne, h4.1 rfl, .inl w1⟩)
  ·simp only [wK, seval, w1, decide_false, r.len]
   by_cases w2 : (sl.length : Int) = 1
   ·simp only [wK, seval, w2, decide_true]
    exact .of (k.yes ⟨h1.1 rfl, h2.1 rfl, h3.1 rfl, hne, h4.1 rfl, .inr (by omega)⟩)
   ·simp only [wK, seval, w2, decide_false]
    exact .of (k.no fun p => p.2.2.2.2.2.elim w1 (fun c => w2 (by omega)))
theorem qVG {h : H} {d : DRec} {v p : Value} (r : sRec h d v p) (b1 : d.slots.length <= 1099511627776) (b2 : d.pairs.length <= 1099511627776) {R : Ending -> H -> Prop} (k : Asks R (recP d) h) : HCalls Tryz.prog 89 #[.agg (cRec d v p).toArray] h R := by
 refine qD lite (args := [.agg (cRec d v p).toArray]) Tryz.func89 ?_
 conv => arg 2; cbv
 simp only [wK, seval, wRec]
 refine qC (o := blk (cRec d v p) 137) fun j1 h1 => ?_
 obtain ⟨M, hM⟩ : ∃ M, M = (j1, blk (cRec d v p) 137) :: h := ⟨_, rfl⟩
 have sM : Tk.Sub h M := by rw [hM]; exact Sub.cons h1 (Sub.refl _)
 have gM : hget M j1 = some (blk (cRec d v p) 137) := by rw [hM]; exact qG _ _ _
 have c0 : hcel M j1 0 = some (.int .i64 d.kind) := qE gM rfl
 have c1 : hcel M j1 1 = some (.int .i64 d.stamp) := qE gM rfl
 have c2 : hcel M j1 2 = some (.int .i64 d.try_) := qE gM rfl
 have c3 : hcel M j1 3 = some (.int .i64 d.what) := qE gM rfl
 have c4 : hcel M j1 4 = some v := qE gM rfl
 have c5 : hcel M j1 5 = some p := qE gM rfl
 have r1 := rLs.sub sM r.1
 have r2 := rLs.sub sM r.2
 have nil2 : (d.pairs.length : Int) = 0 ↔ d.pairs = [] := ⟨fun e => List.eq_nil_of_length_eq_zero (by omega), fun e => by rw [e]; rfl⟩
 have nil1 : (d.slots.length : Int) = 0 ↔ d.slots = [] := ⟨fun e => List.eq_nil_of_length_eq_zero (by omega), fun e => by rw [e]; rfl⟩
 rw [<- hM]
 simp only [wK, seval, c0]
 by_cases k1 : d.kind = 1
 ·simp only [wK, seval, k1, decide_true, c1, c2, c3, c4]
  refine qMF r1 b1 fun q hq => ?_
  cases q with
  | false =>
   simp only [wK, seval]
   exact k.dno sM fun x => by
    rcases x with x | x
    ·exact qW hq rfl x.2.1
    ·exact x.1 k1
  | true =>
   simp only [wK, seval, c5, r2.len]
   by_cases e : (d.pairs.length : Int) = 0
   ·simp only [wK, seval, e, decide_true]
    exact k.dyes sM (.inl ⟨k1, hq.1 rfl, nil2.1 e⟩)
   ·simp only [wK, seval, e, decide_false]
    exact k.dno sM fun x => by
     rcases x with x | x
     ·exact e (nil2.2 x.2.2)
     ·exact x.1 k1
 ·simp only [wK, seval, k1, decide_false, c0]
  have no : ¬ ((d.kind = 2 ∨ (d.kind = 3 /\ d.pairs = [])) /\ vS d.stamp /\ vS d.try_ /\ d.what = 0 /\ d.slots = [] /\ xI d.pairs) -> ¬ recP d := fun c x => by
   rcases x with x | x
   ·exact k1 x.1
   ·exact c x.2
  by_cases k2 : d.kind = 2
  ·simp only [wK, seval, k2, decide_true, c1]
   have good : d.kind = 2 ∨ (d.kind = 3 /\ d.pairs = []) := .inl k2
   refine zY fun q1 h1 => ?_
   cases q1 with
   | false =>
    simp only [wK, seval]
    exact k.dno sM (no fun x => qW h1 rfl x.2.1)
   | true =>
   simp only [wK, seval, c2]
   refine zY fun q2 h2 => ?_
   cases q2 with
   | false =>
    simp only [wK, seval]
    exact k.dno sM (no fun x => qW h2 rfl x.2.2.1)
   | true =>
   simp only [wK, seval, c3]
   by_cases e3 : d.what = 0
   ·simp only [wK, seval, e3, decide_true, c4, r1.len]
    by_cases e4 : (d.slots.length : Int) = 0
    ·simp only [wK, seval, e4, decide_true, c5]
     refine kR r2 b2 fun q5 h5 => ?_
     cases q5 with
     | false =>
      simp only [wK, seval]
      exact k.dno sM (no fun x => qW h5 rfl x.2.2.2.2.2)
     | true =>
      simp only [wK, seval]
      exact k.dyes sM (.inr ⟨k1, good, h1.1 rfl, h2.1 rfl, e3, nil1.1 e4, h5.1 rfl⟩)
    ·simp only [wK, seval, e4, decide_false]
     exact k.dno sM (no fun x => e4 (nil1.2 x.2.2.2.2.1))
   ·simp only [wK, seval, e3, decide_false]
    exact k.dno sM (no fun x => e3 x.2.2.2.1)
  ·simp only [wK, seval, k2, decide_false, c0]
   by_cases k3 : d.kind = 3
   ·simp only [wK, seval, k3, decide_true, c5, r2.len]
    by_cases e : (d.pairs.length : Int) = 0
    ·simp only [wK, seval, e, decide_true, c1]
     have good : d.kind = 2 ∨ (d.kind = 3 /\ d.pairs = []) := .inr ⟨k3, nil2.1 e⟩
     refine zY fun q1 h1 => ?_
     cases q1 with
     | false =>
      simp only [wK, seval]
      exact k.dno sM (no fun x => qW h1 rfl x.2.1)
     | true =>
     simp only [wK, seval, c2]
     refine zY fun q2 h2 => ?_
     cases q2 with
     | false =>
      simp only [wK, seval]
      exact k.dno sM (no fun x => qW h2 rfl x.2.2.1)
     | true =>
     simp only [wK, seval, c3]
     by_cases e3 : d.what = 0
     ·simp only [wK, seval, e3, decide_true, c4, r1.len]
      by_cases e4 : (d.slots.length : Int) = 0
      ·simp only [wK, seval, e4, decide_true, c5]
       refine kR r2 b2 fun q5 h5 => ?_
       cases q5 with
       | false =>
        simp only [wK, seval]
        exact k.dno sM (no fun x => qW h5 rfl x.2.2.2.2.2)
       | true =>
        simp only [wK, seval]
        exact k.dyes sM (.inr ⟨k1, good, h1.1 rfl, h2.1 rfl, e3, nil1.1 e4, h5.1 rfl⟩)
      ·simp only [wK, seval, e4, decide_false]
       exact k.dno sM (no fun x => e4 (nil1.2 x.2.2.2.2.1))
     ·simp only [wK, seval, e3, decide_false]
      exact k.dno sM (no fun x => e3 x.2.2.2.1)
    ·simp only [wK, seval, e, decide_false]
     exact k.dno sM (no fun x => x.1.elim k2 fun y => e (nil2.2 y.2))
   ·simp only [wK, seval, k3, decide_false]
    exact k.dno sM (no fun x => x.1.elim k2 fun y => k3 y.1)
theorem qKU {h : H} {v : Value} {l : List DRec} {s t : Int} (r : rRs h (rRec h) 6 v l) (hl : l.length <= 1048576) {R : Ending -> H -> Prop} (k1 : ∀ n (hn : n < l.length), yL l s t = some l[n] -> R (.returned (.int .i64 (n : Nat))) h) (k2 : yL l s t = none -> R (.returned (.int .i64 (-1))) h) :
  HCalls Tryz.prog 90 #[v, .int .i64 s, .int .i64 t] h R := by
 refine qD lite (args := [v, .int .i64 s, .int .i64 t]) Tryz.func90 ?_
 conv => arg 2; cbv
 simp only [wK, seval]
 refine qP [7] (fun n vs h' => ∃ i : Nat, vs = [.int .i64 i] /\ h' = h /\ i <= l.length /\ n = l.length - i /\ yL (l.take i) s t = none) l.length rfl ⟨0, rfl, rfl, by omega, by omega, by simp [yL]⟩ ?_
 rintro n f h' ⟨i, hv, rfl, hi, rfl, ht⟩
 simp only [lm4] at hv
 simp only [wK, seval, wr, hv, r.len]
 refine qF (fun c => ?_) fun c => ?_
 ·have hi2 : i < l.length := by omega
  obtain ⟨b1, o1, cs, hx, e1, va, vb, rfl, sr⟩ := zU r hi2
  have f0 : hcel h' b1 o1 = some (.int .i64 l[i].kind) := zK e1 0 rfl
  have f1 : hcel h' b1 (o1 + 1) = some (.int .i64 l[i].stamp) := zK e1 1 rfl
  have f2 : hcel h' b1 (o1 + 2) = some (.int .i64 l[i].try_) := zK e1 2 rfl
  have next : uL s t l[i] = false -> ∃ m, m < l.length - i /\ ∃ gg, Tk.Sub gg h' /\ ∃ i' : Nat, [Value.int IntKind.i64 ((i : Int) + 1)] = [.int .i64 i'] /\ gg = h' /\ i' <= l.length /\ m = l.length - i' /\ yL (l.take i') s t = none := fun e =>
   ⟨l.length - (i + 1), by omega, h', .refl _, i + 1, by simp, rfl, by omega, rfl, qBM hi2 ht e⟩
  simp only [wK, seval, hx, f0]
  by_cases c0 : l[i].kind = 1
  ·by_cases c1 : l[i].stamp = s
   ·by_cases c2 : l[i].try_ = t
    ·simp only [wK, seval, c0, c1, c2, decide_true, hx, f1, f2]
     exact .of (k1 i hi2 (qFS hi2 ht (by unfold uL; simp [c0, c1, c2])))
    ·simp only [wK, seval, c0, c1, c2, decide_true, decide_false, hx, f1, f2]
     simp (disch := omega) only [wK, seval, qK]
     exact next (by unfold uL; simp [c2])
   ·simp only [wK, seval, c0, c1, decide_true, decide_false, hx, f1]
    simp (disch := omega) only [wK, seval, qK]
    exact next (by unfold uL; simp [c1])
  ·simp only [wK, seval, c0, decide_false]
   simp (disch := omega) only [wK, seval, qK]
   exact next (by unfold uL; simp [c0])
 ·have hi2 : i = l.length := by omega
  subst hi2
  rw [List.take_length] at ht
  try simp only [wK, seval]
  exact .of (k2 ht)
theorem qJB {h : H} {v : Value} {l : List DRec} {s t : Int} (r : rRs h (rRec h) 6 v l) (hl : l.length <= 1048576) {R : Ending -> H -> Prop} (k1 : vU l s t = true -> ∀ n : Nat, R (.returned (.int .i64 n)) h) (k2 : vU l s t = false -> R (.returned (.int .i64 (-1))) h) :
  HCalls Tryz.prog 73 #[v, .int .i64 s, .int .i64 t] h R := by
 refine qD lite (args := [v, .int .i64 s, .int .i64 t]) Tryz.func73 ?_
 conv => arg 2; cbv
 simp only [wK, seval]
 refine qP [7] (fun n vs h' => ∃ i : Nat, vs = [.int .i64 i] /\ h' = h /\ i <= l.length /\ n = l.length - i /\ (l.take i).any (endB s t) = false) l.length rfl ⟨0, rfl, rfl, by omega, by omega, by simp⟩ ?_
 rintro n f h' ⟨i, hv, rfl, hi, rfl, ht⟩
 simp only [lm4] at hv
 simp only [wK, seval, wr, hv, r.len]
 refine qF (fun c => ?_) fun c => ?_
 ·have hi2 : i < l.length := by omega
  obtain ⟨b1, o1, cs, hx, e1, va, vb, rfl, sr⟩ := zU r hi2
  have f0 : hcel h' b1 o1 = some (.int .i64 l[i].kind) := zK e1 0 rfl
  have f1 : hcel h' b1 (o1 + 1) = some (.int .i64 l[i].stamp) := zK e1 1 rfl
  have f2 : hcel h' b1 (o1 + 2) = some (.int .i64 l[i].try_) := zK e1 2 rfl
  have next : endB s t l[i] = false -> ∃ m, m < l.length - i /\ ∃ gg, Tk.Sub gg h' /\ ∃ i' : Nat, [Value.int IntKind.i64 ((i : Int) + 1)] = [.int .i64 i'] /\ gg = h' /\ i' <= l.length /\ m = l.length - i' /\ (l.take i').any (endB s t) = false := fun e =>
   ⟨l.length - (i + 1), by omega, h', .refl _, i + 1, by simp, rfl, by omega, rfl, by rw [qTH hi2, ht, e]; rfl⟩
  simp only [wK, seval, hx, f0]
  by_cases c0 : l[i].kind = 1
  ·simp only [wK, seval, c0, decide_true, Bool.not_true]
   simp (disch := omega) only [wK, seval, qK]
   exact next (by unfold endB; simp [c0])
  ·by_cases c1 : l[i].stamp = s
   ·by_cases c2 : l[i].try_ = t
    ·simp only [wK, seval, c0, c1, c2, decide_true, decide_false, Bool.not_false, hx, f1, f2]
     exact .of (k1 (List.any_eq_true.2 ⟨l[i], List.getElem_mem hi2, by unfold endB; simp [c0, c1, c2]⟩) i)
    ·simp only [wK, seval, c0, c1, c2, decide_true, decide_false, Bool.not_false, hx, f1, f2]
     simp (disch := omega) only [wK, seval, qK]
     exact next (by unfold endB; simp [c2])
   ·simp only [wK, seval, c0, c1, decide_true, decide_false, Bool.not_false, hx, f1]
    simp (disch := omega) only [wK, seval, qK]
    exact next (by unfold endB; simp [c1])
 ·have hi2 : i = l.length := by omega
  subst hi2
  rw [List.take_length] at ht
  try simp only [wK, seval]
  exact .of (k2 ht)
theorem qRM {h : H} {v w : Value} {l : List (Int × Int)} {sl : List Int} (r : rPairs h v l) (rw' : rInts h w sl) (hl : l.length <= 1048576) (hs : sl.length <= 1048576) {R : Ending -> H -> Prop} (k : R (.returned (.bool (l.all (yX sl)))) h) :
  HCalls Tryz.prog 91 #[v, w] h R := by
 refine qD lite (args := [v, w]) Tryz.func91 ?_
 conv => arg 2; cbv
 simp only [wK, seval]
 refine qP [5] (fun n vs h' => ∃ i : Nat, vs = [.int .i64 i] /\ h' = h /\ i <= l.length /\ n = l.length - i /\ (l.take i).all (yX sl) = true) l.length rfl ⟨0, rfl, rfl, by omega, by omega, by simp⟩ ?_
 rintro n f h' ⟨i, hv, rfl, hi, rfl, ht⟩
 simp only [lm4] at hv
 simp only [wK, seval, wr, hv, r.len]
 refine qF (fun c => ?_) fun c => ?_
 ·have hi2 : i < l.length := by omega
  obtain ⟨b1, o1, hx, e1⟩ := yU (enc := eP) (sz := 2) xB r hi2
  have f0 : hcel h' b1 o1 = some (.int .i64 l[i].1) := zK e1 0 rfl
  simp only [wK, seval, hx, f0]
  refine qKQ ?_
  simp only [wK, seval]
  refine l21In_c rw' hs ?_
  obtain ⟨q, hq⟩ : ∃ q, q = sl.contains (uC l[i].1) := ⟨_, rfl⟩
  rw [<- hq]
  cases q with
  | false =>
   simp only [wK, seval]
   have : l.all (yX sl) = false := List.all_eq_false.2 ⟨l[i], List.getElem_mem hi2, by unfold yX; rw [<- hq]; simp⟩
   rw [this] at k
   exact .of k
  | true =>
   simp (disch := omega) only [wK, seval, qK]
   exact ⟨l.length - (i + 1), by omega, h', .refl _, i + 1, by simp, rfl, by omega, rfl, by rw [qKD hi2, ht]; unfold yX; rw [<- hq]; rfl⟩
 ·have hi2 : i = l.length := by omega
  subst hi2
  rw [List.take_length] at ht
  rw [ht] at k
  try simp only [wK, seval]
  exact .of k
end Go.Proofs.YtjioiemhgbkbfaaGreatDoor
end

section
namespace Go.Tk
open Go
theorem zAR {l : List Int} (h : qIF l) : ∀ s ∈ l, 0 <= s /\ s <= 7 := fun s hs => h.1 s hs
theorem qQU {log : List DRec} (h : logP log) : ∀ r ∈ uY log, ∀ s ∈ r.slots, 0 <= s /\ s <= 7 := by
 intro r hr
 unfold uY at hr
 obtain ⟨h1, h2⟩ := List.mem_filter.1 hr
 obtain ⟨i, hi, rfl⟩ := List.getElem_of_mem h1
 have hf := h.2 i hi
 simp only [Bool.and_eq_true, decide_eq_true_eq] at h2
 rcases hf.1 with x | x
 ·exact zAR x.2.1.2.2.2.2.1
 ·exact absurd h2.1 x.1
end Go.Tk
namespace Go.Proofs.YtjioiemhgbkbfaaGreatDoor
open Go Go.Tk
theorem qVH {h : H} {v : Value} {l : List DRec} (r : rRs h (rRec h) 6 v l) (hb : ∀ x ∈ l, bRec x) (hl : l.length <= 1048576) {R : Ending -> H -> Prop} (k : Asks R (logP l) h) : HCalls Tryz.prog 45 #[v] h R := by
 refine yK (args := [v]) Tryz.func45 ir45 ?_
 simp only [wK, seval, r.len]
 refine qF (fun e => .of (k.no fun x => by have := x.1; omega)) fun e400 => ?_
 refine qP [3] (fun n vs h' => ∃ i : Nat, vs = [.int .i64 i] /\ h' = h /\ i <= l.length /\ n = l.length - i /\ ∀ j (hj : j < l.length), j < i -> vQ (l.take j) l[j]) l.length rfl ⟨0, rfl, rfl, by omega, rfl, fun j hj hn => absurd hn (Nat.not_lt_zero _)⟩ ?_
 rintro n f h' ⟨i, hv, rfl, hi, rfl, ht⟩
 simp only [lm4] at hv
 simp only [wK, seval, wr, hv, r.len]
 refine qF (fun c => ?_) fun c => ?_
 ·have hi2 : i < l.length := by omega
  have hc2 : (i : Int) <= l.length := by omega
  obtain ⟨b1, o1, cs, hx, e1, va, vb, rfl, sr⟩ := zU r hi2
  obtain ⟨d, hd⟩ : ∃ d, d = l[i] := ⟨_, rfl⟩
  have hbd : bRec d := hd ▸ hb _ (List.getElem_mem hi2)
  have bs := hbd.s
  have bp := hbd.p
  unfold lim at bs bp
  rw [<- hd] at e1 sr
  have hone : (cRec d va vb).all vone = true := by simp only [cRec, List.all_cons, List.all_nil, rdS.one sr.1, rdS.one sr.2]; rfl
  have zr := vR
  simp only [wK, seval, hx, e1, zr, wRec]
  refine qC (o := blk (cRec zRec (.slice none 0 0) (.slice none 0 0)) 137) fun j4 h4 => ?_
  try simp only [wK, seval, zr, wRec, hone]
  obtain ⟨B, hB⟩ : ∃ B, B = (j4, blk (cRec d va vb) 137) :: h' := ⟨_, rfl⟩
  have sB : Tk.Sub h' B := by rw [hB]; exact Sub.cons h4 (Sub.refl _)
  have gB : hget B j4 = some (blk (cRec d va vb) 137) := by rw [hB]; exact qG _ _ _
  have rd4 : qV B j4 0 6 = some (cRec d va vb) := zD gB rfl
  have c40 : hcel B j4 0 = some (.int .i64 d.kind) := qE gB rfl
  have c41 : hcel B j4 1 = some (.int .i64 d.stamp) := qE gB rfl
  have c42 : hcel B j4 2 = some (.int .i64 d.try_) := qE gB rfl
  have c45 : hcel B j4 5 = some vb := qE gB rfl
  have rB := (r.subH sB).relImp fun _ _ x => rRec.sub sB x
  have srB : sRec B d va vb := sRec.sub sB sr
  have sBB := Sub.refl B
  have nofit : ¬ vQ (l.take i) d -> ¬ logP l := fun c x => c (by rw [hd]; exact x.2 i hi2)
  have next : vQ (l.take i) d -> ∃ m, m < l.length - i /\ ∃ gg, Tk.Sub gg B /\ ∃ i' : Nat, [Value.int IntKind.i64 ((i : Int) + 1)] = [.int .i64 i'] /\ gg = h' /\ i' <= l.length /\ m = l.length - i' /\ ∀ j (hj : j < l.length), j < i' -> vQ (l.take j) l[j] := fun e =>
   ⟨l.length - (i + 1), by omega, h', sB, i + 1, by simp, rfl, by omega, rfl, zBJ hi2 ht (by rw [<- hd]; exact e)⟩
  rw [<- hB]
  try simp only [wK, seval, rd4]
  refine qVG srB (by omega) (by omega) fun q hq => ?_
  cases q with
  | false =>
   simp only [wK, seval]
   exact k.dno sB (nofit fun x => qW hq rfl x.1)
  | true =>
  have hrec := hq.1 rfl
  simp only [wK, seval]
  refine zC B (Sub.refl _) ?_
  simp only [wK, seval, c41, c42, sBB]
  refine qAD rB (by omega) hc2 fun v2 r2 => ?_
  rw [Int.toNat_natCast] at r2
  simp only [wK, seval, c41, c42, sBB]
  have tl : (l.take i).length <= 1048576 := by rw [List.length_take]; omega
  refine qKU r2 tl (fun n hn hp => ?_) (fun hp => ?_)
  ·simp only [wK, seval, sBB, c40]
   by_cases k1 : d.kind = 1
   ·simp only [wK, seval, k1, decide_true]
    refine xA (fun _ => ?_) fun c => absurd c (by omega)
    exact k.dno sB (nofit fun x => by rw [x.2.1 k1] at hp; cases hp)
   ·have hn0 : ¬ ((n : Int) < 0) := by omega
    have hnl : n < l.length := by rw [List.length_take] at hn; omega
    have hpn : yL (l.take i) d.stamp d.try_ = some l[n] := by rw [hp, List.getElem_take]
    obtain ⟨b2, o2, cs2, hx2, e2, va2, vb2, rfl, sr2⟩ := zU rB hnl
    have hb2 := hb _ (List.getElem_mem hnl)
    have bs2 := hb2.s
    unfold lim at bs2
    have f4 : hcel B b2 (o2 + 4) = some va2 := zK e2 4 rfl
    simp only [wK, seval, k1, decide_false]
    refine zC B (Sub.refl _) ?_
    simp only [wK, seval, hn0, decide_false, c41, c42, sBB]
    refine qAD rB (by omega) hc2 fun v3 r3 => ?_
    rw [Int.toNat_natCast] at r3
    simp only [wK, seval, c41, c42, sBB]
    refine qJB r3 tl (fun he m => ?_) (fun he => ?_)
    ·have hm0 : (0 : Int) <= (m : Int) := by omega
     simp only [wK, seval, hm0, decide_true, sBB]
     exact k.dno sB (nofit fun x => by rw [(x.2.2 k1).1] at he; cases he)
    ·simp only [wK, seval, sBB, c45, hx2, f4]
     refine qRM srB.2 sr2.1 (by omega) (by omega) ?_
     obtain ⟨q, hq⟩ : ∃ q, q = d.pairs.all (yX l[n].slots) := ⟨_, rfl⟩
     rw [<- hq]
     cases q with
     | false =>
      simp only [wK, seval, sBB]
      exact k.dno sB (nofit fun x => by
       obtain ⟨p, hp2, ha⟩ := (x.2.2 k1).2
       rw [hpn] at hp2
       cases hp2
       rw [<- hq] at ha; cases ha)
     | true =>
      simp (disch := omega) only [wK, seval, sBB, qK]
      exact next ⟨hrec, fun c => absurd c k1, fun _ => ⟨he, _, hpn, hq.symm⟩⟩
  ·simp only [wK, seval, sBB, c40]
   by_cases k1 : d.kind = 1
   ·simp (disch := omega) only [wK, seval, k1, decide_true, qK]
    exact next ⟨hrec, fun _ => hp, fun c => absurd k1 c⟩
   ·simp only [wK, seval, k1, decide_false]
    refine zC B (Sub.refl _) ?_
    simp only [wK, seval, sBB]
    exact k.dno sB (nofit fun x => by
     obtain ⟨p, hp2, ha⟩ := (x.2.2 k1).2
     rw [hp] at hp2; cases hp2)
 ·have hi2 : i = l.length := by omega
  try simp only [wK, seval]
  exact .of (k.yes ⟨by omega, fun j hj => ht j hj (by omega)⟩)
theorem qOJ {h : H} {v : Value} {l : List DWork} (r : rRs h (rWork h) 4 v l) (hb : ∀ x ∈ l, kW x) (hl : l.length <= 1048576) {R : Ending -> H -> Prop} (k : Asks R (qTN l) h) : HCalls Tryz.prog 46 #[v] h R := by
 refine yK (args := [v]) Tryz.func46 ir46 ?_
 simp only [wK, seval, r.len]
 refine qF (fun e => .of (k.no fun x => by have := x.1; omega)) fun e12 => ?_
 refine qP [3] (fun n vs h' => ∃ i : Nat, vs = [.int .i64 i] /\ h' = h /\ i <= l.length /\ n = l.length - i /\ allP qLG (l.take i) /\ risU (·.stamp) l i) l.length rfl ⟨0, rfl, rfl, by omega, by omega, xF _ _, xD _ _⟩ ?_
 rintro n f h' ⟨i, hv, rfl, hi, rfl, ht, hu⟩
 simp only [lm4] at hv
 simp only [wK, seval, wr, hv, r.len]
 refine qF (fun c => ?_) fun c => ?_
 ·have hi2 : i < l.length := by omega
  obtain ⟨b1, o1, cs, hx, e1, va, rfl, sr⟩ := zU r hi2
  have bs := hb _ (List.getElem_mem hi2)
  unfold kW lim at bs
  have f0 : hcel h' b1 o1 = some (.int .i64 l[i].stamp) := zK e1 0 rfl
  have f1 : hcel h' b1 (o1 + 1) = some (.int .i64 l[i].try_) := zK e1 1 rfl
  have f2 : hcel h' b1 (o1 + 2) = some (.int .i64 l[i].what) := zK e1 2 rfl
  have f3 : hcel h' b1 (o1 + 3) = some va := zK e1 3 rfl
  have shh := Sub.refl h'
  refine zC h' (Sub.refl _) ?_
  simp only [wK, seval, hx, f0, f1, f2, f3, shh]
  refine qMF sr (by omega) fun q hq => ?_
  cases q with
  | false =>
   simp only [wK, seval, shh]
   exact .of (k.no fun x => qW hq rfl (x.2.1 _ (List.getElem_mem hi2)))
  | true =>
  have hw : qLG l[i] := hq.1 rfl
  simp only [wK, seval, shh]
  refine qF (fun q3 => ?_) fun q3 => ?_
  ·have ecast : ((i - 1 : Nat) : Int) = (i : Int) - 1 := by omega
   obtain ⟨b2, o2, cs2, hx2, e2, va2, rfl, sr2⟩ := zU r (i := i - 1) (by omega)
   rw [ecast] at hx2
   have g0 : hcel h' b2 o2 = some (.int .i64 l[i - 1].stamp) := zK e2 0 rfl
   simp (disch := omega) only [wK, seval, hx, hx2, f0, g0, qK, shh]
   refine xA (fun q4 => ?_) fun q4 => ?_
   ·exact .of (k.no fun x => vM (k := (·.stamp)) (i := i) hi2 (by omega) (fun y => by have : l[i - 1].stamp < l[i].stamp := y; omega) x.2.2)
   ·exact ⟨l.length - (i + 1), by omega, h', .refl _, i + 1, by simp, rfl, by omega, rfl, yJ hi2 ht hw, xR hi2 (by omega) hu q4⟩
  ·simp (disch := omega) only [wK, seval, qK, shh]
   exact ⟨l.length - (i + 1), by omega, h', .refl _, i + 1, by simp, rfl, by omega, rfl, yJ hi2 ht hw, wG (by omega) hu⟩
 ·try simp only [wK, seval]
  exact .of (k.yes ⟨by omega, xM (by omega) ht, xS (by omega) hu⟩)
theorem qVI {h : H} {d : DHouse} {lg lk wk v : Value} {st tr : Int} {sl : List Int} {fm : Bool} (r : sHouse h d lg lk wk) (h8 : d.locks.length = 8) (hbk : ∀ x ∈ d.locks, bLock x) (rs : rInts h v sl) (hs : ∀ s ∈ sl, 0 <= s /\ s <= 7) (hl : sl.length <= 1048576) {R : Ending -> H -> Prop} (k : R (.returned (.bool (jS d.locks st tr sl fm))) h) :
  HCalls Tryz.prog 95 #[.agg (qT d lg lk wk).toArray, .int .i64 st, .int .i64 tr, v, .bool fm] h R := by
 refine qD lite (args := [.agg (qT d lg lk wk).toArray, .int .i64 st, .int .i64 tr, v, .bool fm]) Tryz.func95 ?_
 conv => arg 2; cbv
 simp only [wK, seval, yC]
 refine qC (o := blk (qT d lg lk wk) 59) fun j5 h5 => ?_
 obtain ⟨M, hM⟩ : ∃ M, M = (j5, blk (qT d lg lk wk) 59) :: h := ⟨_, rfl⟩
 have sM : Tk.Sub h M := by rw [hM]; exact Sub.cons h5 (Sub.refl _)
 have gM : hget M j5 = some (blk (qT d lg lk wk) 59) := by rw [hM]; exact qG _ _ _
 have c54 : hcel M j5 4 = some lk := qE gM rfl
 have rM := r.sub sM
 have rsM : rInts M v sl := rs.sub sM
 obtain ⟨P, hP⟩ : ∃ P : Int -> Bool, P = fun s => match yZ (qDB d.locks s) st with
  | some x => decide (x.try_ = tr) && (!fm || x.firm)
  | none => false := ⟨_, rfl⟩
 have hall : jS d.locks st tr sl fm = sl.all P := by rw [hP]; rfl
 rw [hall] at k
 rw [<- hM]
 simp only [wK, seval]
 refine qP [11] (fun n vs h' => ∃ i : Nat, vs = [.int .i64 i] /\ h' = M /\ i <= sl.length /\ n = sl.length - i /\ (sl.take i).all P = true) sl.length rfl ⟨0, rfl, rfl, by omega, by omega, by simp⟩ ?_
 rintro n f h' ⟨i, hv, rfl, hi, rfl, ht⟩
 simp only [lm4] at hv
 simp only [wK, seval, wr, hv, rsM.len]
 refine qF (fun c => ?_) fun c => ?_
 ·have hi2 : i < sl.length := by omega
  obtain ⟨bx, ox, hx, ex⟩ := yU (enc := eI) (sz := 1) yM rsM hi2
  have hin := hs _ (List.getElem_mem hi2)
  obtain ⟨nn, hnn⟩ : ∃ nn : Nat, sl[i] = (nn : Int) := ⟨sl[i].toNat, by omega⟩
  have fx : hcel h' bx ox = some (.int .i64 nn) := by rw [<- hnn]; exact zK ex 0 rfl
  have hn8 : nn < d.locks.length := by omega
  obtain ⟨b1, o1, cs, hx1, e1, va, vb, rfl, sr⟩ := zU rM.2.1 hn8
  have hbl := (hbk _ (List.getElem_mem hn8)).h
  unfold lim at hbl
  have zl := qAY
  have hone : (zP d.locks[nn] va vb).all vone = true := by simp only [zP, List.all_cons, List.all_nil, rdS.one sr.1, rdS.one sr.2]; rfl
  have hat : qDB d.locks sl[i] = d.locks[nn].held := by unfold qDB; rw [hnn, Int.toNat_natCast, List.getElem?_eq_getElem hn8]; rfl
  have no : P sl[i] = false -> dP R (.returned (.bool false)) h' := fun e => by
   have : sl.all P = false := List.all_eq_false.2 ⟨sl[i], List.getElem_mem hi2, by rw [e]; simp⟩
   rw [this] at k
   exact ⟨h, sM, k⟩
  have shh := Sub.refl h'
  refine zC h' (Sub.refl _) ?_
  simp only [wK, seval, c54, hx, fx, hx1, e1, zl, xN, shh]
  refine qC (o := blk (zP zLock (.slice none 0 0) (.slice none 0 0)) 81) fun j12 h12 => ?_
  have sN0 := Sub.cons (o := blk (zP zLock (.slice none 0 0) (.slice none 0 0)) 81) h12 (Sub.refl h')
  try simp only [wK, seval, zl, xN, hone, sN0]
  obtain ⟨N, hN⟩ : ∃ N, N = (j12, blk (zP d.locks[nn] va vb) 81) :: h' := ⟨_, rfl⟩
  have sN : Tk.Sub h' N := by rw [hN]; exact Sub.cons h12 (Sub.refl _)
  have gN : hget N j12 = some (blk (zP d.locks[nn] va vb) 81) := by rw [hN]; exact qG _ _ _
  have c121 : hcel N j12 1 = some va := qE gN rfl
  have srN : rLs N zE 4 va d.locks[nn].held := rLs.sub sN sr.1
  have noN : P sl[i] = false -> dP R (.returned (.bool false)) N := fun e => by
   obtain ⟨g, s, x⟩ := no e
   exact ⟨g, s.trans sN, x⟩
  have next : P sl[i] = true -> ∃ m, m < sl.length - i /\ ∃ gg, Tk.Sub gg N /\ ∃ i' : Nat, [Value.int IntKind.i64 ((i : Int) + 1)] = [.int .i64 i'] /\ gg = h' /\ i' <= sl.length /\ m = sl.length - i' /\ (sl.take i').all P = true := fun e =>
   ⟨sl.length - (i + 1), by omega, h', sN, i + 1, by simp, rfl, by omega, rfl, by rw [qKD hi2, ht, e]; rfl⟩
  rw [<- hN]
  try simp only [wK, seval, c121]
  refine l11At_c srN (by omega) (fun q hq hp => ?_) (fun hp => ?_)
  ·have hq0 : ¬ ((q : Int) < 0) := by omega
   obtain ⟨b3, o3, hx3, e3⟩ := yU (enc := zE) (sz := 4) yE srN hq
   obtain ⟨X, hX⟩ : ∃ X, X = d.locks[nn].held[q] := ⟨_, rfl⟩
   rw [<- hX] at e3 hp
   have g1 : hcel N b3 (o3 + 1) = some (.int .i64 X.try_) := zK e3 1 rfl
   have g3 : hcel N b3 (o3 + 3) = some (.bool X.firm) := zK e3 3 rfl
   have hPv : P sl[i] = (decide (X.try_ = tr) && (!fm || X.firm)) := by rw [hP]; simp only [hat, hp]
   simp only [wK, seval, hq0, decide_false, c121, hx3, g1]
   by_cases c1 : X.try_ = tr
   ·cases fm with
    | false =>
     simp (disch := omega) only [wK, seval, c1, decide_true, Bool.not_true, qK]
     exact next (by rw [hPv]; simp [c1])
    | true =>
     obtain ⟨xf, hxf⟩ : ∃ xf, xf = X.firm := ⟨_, rfl⟩
     rw [<- hxf] at g3 hPv
     simp only [wK, seval, c1, decide_true, Bool.not_true, c121, hx3, g3]
     cases xf with
     | false =>
      simp only [wK, seval]
      exact noN (by rw [hPv]; simp)
     | true =>
      simp (disch := omega) only [wK, seval, qK]
      exact next (by rw [hPv]; simp [c1])
   ·simp only [wK, seval, c1, decide_false, Bool.not_false]
    exact noN (by rw [hPv]; simp [c1])
  ·simp only [wK, seval]
   exact noN (by rw [hP]; simp only [hat, hp])
 ·have hi2 : i = sl.length := by omega
  rw [hi2, List.take_length] at ht
  rw [ht] at k
  try simp only [wK, seval]
  exact ⟨h, sM, k⟩
end Go.Proofs.YtjioiemhgbkbfaaGreatDoor
end
