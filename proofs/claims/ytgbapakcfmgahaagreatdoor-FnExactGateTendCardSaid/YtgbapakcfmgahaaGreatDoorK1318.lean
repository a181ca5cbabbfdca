/- Parts of the proof, put together: Y6, Y8, Y9, A34, Z1, A35, Z2. -/
import Derived.Test.YtgbapakcfmgahaaGreatDoorK1317
import Derived.Test.YtgbapakcfmgahaaGreatDoorK1314
import Derived.Test.YtgbapakcfmgahaaGreatDoorK1313
import Derived.Test.YtgbapakcfmgahaaGreatDoorK135
set_option linter.unusedVariables false
set_option linter.unusedSimpArgs false
set_option linter.defProp false
section
set_option maxRecDepth 20000
attribute [local irreducible] Go.Tk.vc Go.Tk.vops Go.Tk.vdr Go.Tk.vop Go.Tk.vfl Go.Tk.HCalls
namespace Go.Tk
open Go
def liveI (l : List DLive) (s : Int) : Int := match l.findIdx? fun x => decide (x.stamp = s) with
 | some i => i
 | none => -1
theorem findIdx_no' {α : Type} {p : α -> Bool} {l : List α} (h : ∀ x ∈ l, p x = false) : l.findIdx? p = none := by
 rw [List.findIdx?_eq_none_iff]; exact h
theorem findIdx_at' {α : Type} {p : α -> Bool} {l : List α} {i : Nat} (hi : i < l.length) (h : ∀ x ∈ l.take i, p x = false) (hp : p l[i] = true) : l.findIdx? p = some i := by
 rw [List.findIdx?_eq_some_iff_getElem]
 refine ⟨hi, hp, fun j hj => ?_⟩
 have : l[j] ∈ l.take i := by
  rw [List.mem_take_iff_getElem]
  exact ⟨j, by omega, rfl⟩
 rw [h _ this]; simp
theorem none_more' {α : Type} {p : α -> Bool} {l : List α} {i : Nat} (hi : i < l.length) (h : ∀ x ∈ l.take i, p x = false) (hp : p l[i] = false) : ∀ x ∈ l.take (i + 1), p x = false := by
 intro x hx
 rw [List.take_succ_eq_append_getElem hi] at hx
 rcases List.mem_append.1 hx with hx | hx
 ·exact h x hx
 ·rw [List.mem_singleton.1 hx]; exact hp
theorem liveI_at (l : List DLive) (s : Int) : (liveI l s = -1 /\ liveOf l s = none) ∨ ∃ i, ∃ (hi : i < l.length), liveI l s = i /\ liveOf l s = some l[i] := by
 unfold liveI liveOf
 induction l with
 | nil => exact .inl ⟨rfl, rfl⟩
 | cons x l ih =>
  rw [List.findIdx?_cons, List.find?_cons]
  by_cases c : x.stamp = s
  ·exact .inr ⟨0, by simp, by simp [c], by simp [c]⟩
  ·rcases ih with ⟨h1, h2⟩ | ⟨i, hi, h1, h2⟩
   ·refine .inl ⟨?_, by simp [c, h2]⟩
    cases e : l.findIdx? (fun x => decide (x.stamp = s)) with
    | none => simp [c, e]
    | some k => rw [e] at h1; simp only at h1; omega
   ·refine .inr ⟨i + 1, by simpa using hi, ?_, by simp [c, h2]⟩
    cases e : l.findIdx? (fun x => decide (x.stamp = s)) with
    | none => rw [e] at h1; simp only at h1; omega
    | some k => rw [e] at h1; simp only at h1; simp [c, e]; omega
end Go.Tk
namespace Go.Proofs.YtgbapakcfmgahaaGreatDoor
open Go Go.Tk
theorem l22Live_c {h : H} {v : Value} {l : List DLive} {s : Int} (r : rRs h (rLive h) 12 v l) (hl : l.length <= 1099511627776) {R : Ending -> H -> Prop} (k : R (.returned (.int .i64 (liveI l s))) h) : HCalls Tryz.prog 86 #[v, .int .i64 s] h R := by
 refine qB (args := [v, .int .i64 s]) Tryz.func86 ir86 ?_
 simp only [wk, seval, r.len]
 refine qS [5] (fun n vs h' => ∃ i : Nat, vs = [.int .i64 i] /\ h' = h /\ i <= l.length /\ n = l.length - i /\ ∀ x ∈ l.take i, decide (x.stamp = s) = false) l.length rfl ⟨0, rfl, rfl, by omega, by omega, by simp⟩ ?_
 rintro n f h' ⟨i, hv, rfl, hi, rfl, ht⟩
 simp only [lm4] at hv
 simp only [wk, seval, wr, hv, r.len]
 refine qF (fun c => ?_) fun c => ?_
 ·have hi2 : i < l.length := by omega
  obtain ⟨b, o, cs, hx, e, a1, a2, rfl, sr⟩ := zU r hi2
  have f1 : hcel h' b o = some (.int .i64 l[i].stamp) := by have := qW e 0 rfl; rw [Nat.add_zero] at this; exact this
  simp only [wk, seval, hx, f1]
  refine qZ (fun c1 => ?_) fun c1 => ?_
  ·refine .of ?_
   rw [liveI, findIdx_at' hi2 ht (by simpa using c1)] at k
   exact k
  ·simp (disch := omega) only [qI]
   exact ⟨l.length - (i + 1), by omega, h', .refl _, i + 1, by simp, rfl, by omega, rfl, fun x hx => by simpa using none_more' (p := fun x => decide (x.stamp = s)) hi2 ht (by simpa using c1) x hx⟩
 ·have hi2 : i = l.length := by omega
  subst hi2
  rw [List.take_length] at ht
  rw [liveI, findIdx_no' ht] at k
  exact .of k
theorem l22Used_c {h : H} {v : Value} {l : List DWay} {s : Int} (r : rLs h cWay 2 v l) (hl : l.length <= 1099511627776) {R : Ending -> H -> Prop} (k : R (.returned (.int .i64 (usedN l s))) h) : HCalls Tryz.prog 87 #[v, .int .i64 s] h R := by
 refine qB (args := [v, .int .i64 s]) Tryz.func87 ir87 ?_
 simp only [wk, seval, r.len]
 refine qS [6, 5] (fun n vs h' => ∃ i : Nat, vs = [.int .i64 i, .int .i64 (usedN (l.take i) s)] /\ h' = h /\ i <= l.length /\ n = l.length - i) l.length rfl ⟨0, rfl, rfl, by omega, by omega⟩ ?_
 rintro n f h' ⟨i, hv, rfl, hi, rfl⟩
 simp only [lm4] at hv
 simp only [wk, seval, wr, hv.1, hv.2, r.len]
 refine qF (fun c => ?_) fun c => ?_
 ·have hi2 : i < l.length := by omega
  obtain ⟨b, o, hx, e⟩ := ls_at (enc := cWay) (sz := 2) (fun _ => rfl) r hi2
  have f1 : hcel h' b o = some (.int .i64 l[i].house) := by have := qW e 0 rfl; rw [Nat.add_zero] at this; exact this
  have hu : usedN (l.take i) s <= i := Nat.le_trans List.countP_le_length (by rw [List.length_take]; omega)
  have hm : usedN (l.take (i + 1)) s = usedN (l.take i) s + if l[i].house = s then 1 else 0 := by
   unfold usedN
   rw [List.take_succ_eq_append_getElem hi2, List.countP_append, List.countP_singleton]
   simp only [decide_eq_true_eq]
  simp only [wk, seval, hx, f1]
  refine qZ (fun c1 => ?_) fun c1 => ?_
  ·rw [if_pos c1] at hm
   simp (disch := omega) only [wk, seval, qI]
   exact ⟨l.length - (i + 1), by omega, h', .refl _, i + 1, by rw [hm]; simp, rfl, by omega, rfl⟩
  ·rw [if_neg c1] at hm
   simp (disch := omega) only [wk, seval, qI]
   exact ⟨l.length - (i + 1), by omega, h', .refl _, i + 1, by rw [hm]; simp, rfl, by omega, rfl⟩
 ·have hi2 : i = l.length := by omega
  subst hi2
  rw [List.take_length] at *
  exact .of k
theorem l22WaysOk_c {h : H} {g : DGate} {lg lv wy : Value} (r : sGate h g lg lv wy) (hb : bGate g) {R : Ending -> H -> Prop} (k : Asks R (waysP g.lives g.ways) h) : HCalls Tryz.prog 50 #[.agg (cGate g lg lv wy).toArray] h R := by
 refine qB (args := [.agg (cGate g lg lv wy).toArray]) Tryz.func50 ir50 ?_
 have b1 := hb.lives; have b2 := hb.ways
 unfold lim at b1 b2
 simp only [wk, seval, zB]
 refine qA (o := blk (cGate g lg lv wy) 34) fun j hj => ?_
 have s1 := Sub.cons (o := blk (cGate g lg lv wy) 34) hj (Sub.refl h)
 have r1 := r.sub s1
 obtain ⟨M, hM⟩ : ∃ M, M = (j, blk (cGate g lg lv wy) 34) :: h := ⟨_, rfl⟩
 have f4 : hcel M j 4 = some lv := by rw [hM]; simp only [wk, seval, zB]
 have f5 : hcel M j 5 = some wy := by rw [hM]; simp only [wk, seval, zB]
 have zw := zWay_eq
 rw [<- hM] at r1 s1
 simp only [wk, seval, zB, <- hM]
 refine qS [3] (fun n vs h' => ∃ i : Nat, vs = [.int .i64 i] /\ h' = M /\ i <= g.ways.length /\ n = g.ways.length - i /\ (∀ w ∈ g.ways.take i, zO w.house /\ (∃ x, liveOf g.lives w.stamp = some x /\ x.phase ≠ 0) /\ usedN g.ways w.house <= 2) /\ ∀ q (hq : q + 1 < g.ways.length), q + 1 < i -> wayLt (g.ways[q]'(by omega)) g.ways[q + 1]) g.ways.length rfl ⟨0, rfl, rfl, by omega, by omega, by simp, by simp⟩ ?_
 rintro n f h' ⟨i, hv, rfl, hi, rfl, hall, hlt⟩
 simp only [lm4] at hv
 simp only [wk, seval, wr, hv, f5, r1.2.2.len]
 refine qF (fun c => ?_) fun c => ?_
 ·have hi2 : i < g.ways.length := by omega
  obtain ⟨b, o, hx, e⟩ := ls_at (enc := cWay) (sz := 2) (fun _ => rfl) r1.2.2 hi2
  simp only [wk, seval, hx, e, f5, wWay, zw]
  refine qA (o := blk (cWay zWay) 108) fun j4 hj4 => ?_
  obtain ⟨B, hB⟩ : ∃ B, B = (j4, blk (cWay g.ways[i]) 108) :: h' := ⟨_, rfl⟩
  have sB : Tk.Sub h' B := by rw [hB]; exact Sub.cons hj4 (Sub.refl _)
  have f4' := zT sB f4
  have f5' := zT sB f5
  have w0 : hcel B j4 0 = some (.int .i64 g.ways[i].house) := by rw [hB]; simp only [wk, seval, wWay]
  have w1 : hcel B j4 1 = some (.int .i64 g.ways[i].stamp) := by rw [hB]; simp only [wk, seval, wWay]
  have rl := r1.2.1.subH sB
  have rw' := r1.2.2.sub sB
  simp only [wk, seval, hx, e, f5, wWay, zw, <- hB, f4', f5', w0, w1]
  have no : ¬ (zO g.ways[i].house /\ (∃ x, liveOf g.lives g.ways[i].stamp = some x /\ x.phase ≠ 0) /\ usedN g.ways g.ways[i].house <= 2) -> ¬ waysP g.lives g.ways := fun q p => q (p.1 _ (List.getElem_mem hi2))
  have s2 := s1.trans sB
  refine l22Live_c (rl.relImp fun _ _ x => rLive.sub sB x) (by omega) ?_
  simp only [wk, seval, f4', f5', w0, w1]
  refine l12House_c fun u hu => ?_
  cases u with
  | false =>
   simp only [wk, seval, f4', f5', w0, w1]
   exact k.dno s2 (no fun q => zG hu rfl q.1)
  | true =>
  simp only [wk, seval, f4', f5', w0, w1]
  rcases liveI_at g.lives g.ways[i].stamp with ⟨h1, h2⟩ | ⟨p, hp, h1, h2⟩
  ·simp only [wk, seval, h1, f4', f5', w0, w1]
   exact k.dno s2 (no fun q => by obtain ⟨_, ⟨x, hx, _⟩, _⟩ := q; rw [h2] at hx; cases hx)
  ·obtain ⟨b6, o6, cs6, hx6, e6, a61, a62, rfl, sr6⟩ := zU rl hp
   have f6 : hcel B b6 (o6 + 3) = some (.int .i64 g.lives[p].phase) := qW e6 3 rfl
   have hp0 : ¬ (p : Int) < 0 := by omega
   simp only [wk, seval, h1, hp0, hx6, f6, f4', f5', w0, w1]
   have hlx : ∀ x, liveOf g.lives g.ways[i].stamp = some x -> x = g.lives[p] := fun x hx => by rw [h2] at hx; cases hx; rfl
   refine qZ (fun c7 => k.dno s2 (no fun q => by obtain ⟨_, ⟨x, hx, hx2⟩, _⟩ := q; exact hx2 (by rw [hlx x hx]; exact c7))) fun c7 => ?_
   refine l22Used_c rw' (by omega) ?_
   have hu7 : usedN g.ways g.ways[i].house <= g.ways.length := List.countP_le_length
   simp only [wk, seval, f4', f5', w0, w1]
   refine qF (fun c8 => k.dno s2 (no fun q => by have := q.2.2; omega)) fun c8 => ?_
   have good : zO g.ways[i].house /\ (∃ x, liveOf g.lives g.ways[i].stamp = some x /\ x.phase ≠ 0) /\ usedN g.ways g.ways[i].house <= 2 := ⟨hu.1 rfl, ⟨_, h2, c7⟩, by omega⟩
   have next : (∀ (hq : 0 < i), wayLt (g.ways[i - 1]'(by omega)) g.ways[i]) -> ∃ m, m < g.ways.length - i /\ ∃ gg, Tk.Sub gg B /\ ∃ i' : Nat, [Value.int .i64 ((i : Int) + 1)] = [Value.int .i64 i'] /\ gg = h' /\ i' <= g.ways.length /\ m = g.ways.length - i' /\ (∀ w ∈ g.ways.take i', zO w.house /\ (∃ x, liveOf g.lives w.stamp = some x /\ x.phase ≠ 0) /\ usedN g.ways w.house <= 2) /\ ∀ q (hq : q + 1 < g.ways.length), q + 1 < i' -> wayLt (g.ways[q]'(by omega)) g.ways[q + 1] := fun hw =>
    ⟨g.ways.length - (i + 1), by omega, h', sB, i + 1, by simp, rfl, by omega, rfl, fun w hw2 => by
     rw [List.take_succ_eq_append_getElem hi2] at hw2
     rcases List.mem_append.1 hw2 with hw2 | hw2
     ·exact hall w hw2
     ·rw [List.mem_singleton.1 hw2]; exact good, fun q hq hq2 => by
     by_cases e : q + 1 = i
     ·subst e; exact hw (by omega)
     ·exact hlt q hq (by omega)⟩
   refine qY _ (Sub.refl _) ?_
   simp only [wk, seval, f4', f5', w0, w1, Sub.refl B]
   refine qF (fun g1 => ?_) fun g1 => ?_
   ·have hi3 : i - 1 < g.ways.length := by omega
    obtain ⟨b3, o3, hx3, e3⟩ := ls_at (enc := cWay) (sz := 2) (fun _ => rfl) rw' hi3
    have y0 : hcel B b3 o3 = some (.int .i64 g.ways[i - 1].house) := by have := qW e3 0 rfl; rw [Nat.add_zero] at this; exact this
    have y1 : hcel B b3 (o3 + 1) = some (.int .i64 g.ways[i - 1].stamp) := qW e3 1 rfl
    have hw3 : IntKind.i64.wrap ((i : Int) - 1) = ((i - 1 : Nat) : Int) := by rw [qI _ ⟨by omega, by omega⟩]; omega
    simp only [wk, seval, hx3, y0, y1, hw3, f4', f5', w0, w1, Sub.refl B]
    have bad : ¬ wayLt g.ways[i - 1] g.ways[i] -> ¬ waysP g.lives g.ways := fun q p => q (by
     have e : i - 1 + 1 = i := by omega
     have := p.2 (i - 1) (by omega)
     simpa only [e] using this)
    refine qF (fun g2 => k.dno s2 (bad fun q => by unfold wayLt at q; omega)) fun g2 => ?_
    refine qZ (fun g3 => ?_) fun g3 => ?_
    ·refine ite_ge (fun g4 => k.dno s2 (bad fun q => by unfold wayLt at q; omega)) fun g4 => ?_
     simp (disch := omega) only [wk, seval, qI, Sub.refl B]
     exact next fun _ => .inr ⟨g3, g4⟩
    ·simp (disch := omega) only [wk, seval, qI, Sub.refl B]
     exact next fun _ => .inl (by omega)
   ·simp (disch := omega) only [wk, seval, qI, Sub.refl B]
    exact next fun hq => absurd hq (by omega)
 ·exact k.dyes s1 (⟨by rw [List.take_of_length_le (by omega)] at hall; exact hall, fun q hq => hlt q hq (by omega)⟩)
end Go.Proofs.YtgbapakcfmgahaaGreatDoor
end

section
set_option maxRecDepth 20000
attribute [local irreducible] Go.Tk.vc Go.Tk.vops Go.Tk.vdr Go.Tk.vop Go.Tk.vfl Go.Tk.HCalls
namespace Go.Tk
open Go
def cmpI (a b : Int) : Int := if a < b then -1 else if b < a then 1 else 0
theorem cmpI_lt {a b : Int} : cmpI a b < 0 ↔ a < b := by unfold cmpI; split <;> (try split) <;> omega
theorem cmpI_eq {a b : Int} : cmpI a b = 0 ↔ a = b := by unfold cmpI; split <;> (try split) <;> omega
def codeP1 (n : Int) : Prop := inP 0 9 n
theorem risP_lt {α : Type} {k : α -> Int} {l : List α} (h : risP k l) : ∀ j i (hj : j < l.length) (hi : i < j), k (l[i]'(by omega)) < k l[j] := by
 intro j
 induction j with
 | zero => intro i _ h; omega
 | succ j ih =>
  intro i hj hi
  have := h j hj
  by_cases e : i = j
  ·subst e; exact this
  ·exact Int.lt_trans (ih i (by omega) (by omega)) this
theorem shr1 (a b : Nat) (h : a + b <= 4611686018427387904) : IntKind.i64.wrap ((IntKind.u64.wrap ((a : Int) + b)).fdiv (2 ^ (min 1 IntKind.u64.bits))) = ((a + b) / 2 : Nat) := by
 have e1 : IntKind.u64.wrap ((a : Int) + b) = ((a + b : Nat) : Int) := by
  show ((a : Int) + b) % (2 ^ 64 : Nat) = _
  rw [show ((2 ^ 64 : Nat) : Int) = 18446744073709551616 from rfl]; omega
 rw [e1]
 have e2 : (2 : Int) ^ (min 1 IntKind.u64.bits) = 2 := rfl
 rw [e2]
 have e3 : ((a + b : Nat) : Int).fdiv 2 = (((a + b) / 2 : Nat) : Int) := by
  rw [Int.fdiv_eq_ediv_of_nonneg _ (by omega)]; omega
 rw [e3, qI _ ⟨by omega, by omega⟩]
def liveQ (x : DLive) : Prop := stampP1 x.try_ /\ inP 1 99 x.version /\ inP 0 2 x.phase /\ callOkP x.call /\ (allP zO x.locked /\ risP id x.locked) /\ toldP x.told /\ (x.phase = 0 -> x.locked = []) /\ (x.phase ≠ 2 -> x.told = [])
theorem liveQ_P {x : DLive} {nx : Int} : liveP x nx ↔ inP 1 (nx - 1) x.stamp /\ liveQ x := by
 unfold liveP liveQ
 constructor
 ·rintro ⟨h1, h2, h3, h4, h5, h6, h7, h8, h9, h10⟩
  have := h4.1; have := h4.2
  exact ⟨h1, h2, h3, h4, h5, ⟨h9, h10⟩, h8, fun e => h7 (by omega), fun e => h6 (by omega)⟩
 ·rintro ⟨h1, h2, h3, h4, h5, ⟨h9, h10⟩, h8, h7, h6⟩
  have := h4.1; have := h4.2
  exact ⟨h1, h2, h3, h4, h5, fun e => h6 (by omega), fun e => h7 (by omega), h8, h9, h10⟩
theorem liveOf_at {l : List DLive} {s : Int} {i : Nat} (hr : risP (·.stamp) l) (hi : i < l.length) (h : l[i].stamp = s) : liveOf l s = some l[i] := by
 unfold liveOf
 rw [List.find?_eq_some_iff_getElem]
 refine ⟨by simpa using h, i, hi, rfl, fun j hj => ?_⟩
 have := risP_lt hr i j hi hj
 have : l[j].stamp ≠ s := by have h2 : l[j].stamp < l[i].stamp := this; omega
 simpa using this
theorem liveOf_no {l : List DLive} {s : Int} (h : ∀ i (hi : i < l.length), l[i].stamp ≠ s) : liveOf l s = none := by
 unfold liveOf
 rw [List.find?_eq_none]
 intro x hx
 obtain ⟨i, hi, rfl⟩ := List.getElem_of_mem hx
 simpa using h i hi
end Go.Tk
namespace Go.Proofs.YtgbapakcfmgahaaGreatDoor
open Go Go.Tk
theorem isStamp_c {a : Int} {h : H} {R : Ending -> H -> Prop} (k : Asks R (stampP1 a) h) : HCalls Tryz.prog 58 #[.int .i64 a] h R := by
 refine qB (args := [.int .i64 a]) Tryz.func58 ir58 ?_
 simp only [wk, seval]
 refine within_c fun b hb => ?_
 simp only [wk, seval]
 exact .of (k b hb)
theorem isCode_c {a : Int} {h : H} {R : Ending -> H -> Prop} (k : Asks R (codeP1 a) h) : HCalls Tryz.prog 96 #[.int .i64 a] h R := by
 refine qB (args := [.int .i64 a]) Tryz.func96 ir96 ?_
 simp only [wk, seval]
 refine within_c fun b hb => ?_
 simp only [wk, seval]
 exact .of (k b hb)
theorem isNaN_c {a : Int} {h : H} {R : Ending -> H -> Prop} (k : R (.returned (.bool false)) h) : HCalls Tryz.prog 109 #[.int .i64 a] h R := by
 refine qB (args := [.int .i64 a]) Tryz.func109 ir109 ?_
 simp only [wk, seval]
 refine .of ?_
 have : (!decide (a = a)) = false := by simp
 first | exact k | (simp only [this]; exact k)
theorem compare_c {a b : Int} {h : H} {R : Ending -> H -> Prop} (k : R (.returned (.int .i64 (cmpI a b))) h) : HCalls Tryz.prog 65 #[.int .i64 a, .int .i64 b] h R := by
 refine qB (args := [.int .i64 a, .int .i64 b]) Tryz.func65 ir65 ?_
 simp only [wk, seval]
 refine isNaN_c ?_
 simp only [wk, seval]
 refine isNaN_c ?_
 simp only [wk, seval]
 unfold cmpI at k
 refine qF (fun c => ?_) fun c => ?_
 ·rw [if_pos c] at k; exact .of k
 ·rw [if_neg (by omega)] at k
  refine qF (fun c2 => ?_) fun c2 => ?_
  ·rw [if_pos c2] at k; exact .of k
  ·rw [if_neg (by omega)] at k; exact .of k
theorem compareS_c {h : H} {v w : Value} {a0 a1 b0 b1 : Int} (r : rInts h v [a0, a1]) (r2 : rInts h w [b0, b1]) {R : Ending -> H -> Prop} (k : R (.returned (.int .i64 (if a0 = b0 then cmpI a1 b1 else cmpI a0 b0))) h) :
  HCalls Tryz.prog 101 #[v, w] h R := by
 refine qB (args := [v, w]) Tryz.func101 ir101 ?_
 simp only [wk, seval, r.len]
 refine qS [11] (fun n vs h' => ∃ i : Nat, vs = [.int .i64 i] /\ h' = h /\ i <= 2 /\ n = 2 - i /\ (0 < i -> a0 = b0) /\ (1 < i -> a1 = b1)) 2 rfl ⟨0, rfl, rfl, by omega, rfl, by omega, by omega⟩ ?_
 rintro n f h' ⟨i, hv, rfl, hi, rfl, h0, h1⟩
 simp only [lm4] at hv
 simp only [wk, seval, wr, hv, r.len, r2.len]
 refine qF (fun c => ?_) fun c => ?_
 ·obtain ⟨b, o, hx, e⟩ := ls_at (enc := eI) (sz := 1) zC r (i := i) (by simp; omega)
  obtain ⟨b', o', hx', e'⟩ := ls_at (enc := eI) (sz := 1) zC r2 (i := i) (by simp; omega)
  have f1 := zW e
  have f2 := zW e'
  simp only [wk, seval, hx, f1, r2.len]
  refine ite_ge (fun c2 => absurd c2 (by simp at c ⊢; omega)) fun c2 => ?_
  simp only [wk, seval, hx', f2]
  refine compare_c ?_
  simp only [wk, seval]
  have hcase : i = 0 ∨ i = 1 := by omega
  rcases hcase with rfl | rfl
  ·have e1 : ([a0, a1] : List Int)[0] = a0 := rfl
   have e2 : ([b0, b1] : List Int)[0] = b0 := rfl
   simp only [e1, e2]
   refine zK (fun c3 => ?_) fun c3 => ?_
   ·rw [if_neg (fun e => c3 (cmpI_eq.2 e))] at k; exact .of k
   ·simp (disch := omega) only [wk, seval, qI]
    exact ⟨1, by omega, _, .refl _, 1, rfl, rfl, by omega, rfl, fun _ => cmpI_eq.1 c3, by omega⟩
  ·have e1 : ([a0, a1] : List Int)[1] = a1 := rfl
   have e2 : ([b0, b1] : List Int)[1] = b1 := rfl
   simp only [e1, e2]
   refine zK (fun c3 => ?_) fun c3 => ?_
   ·rw [if_pos (h0 (by omega))] at k; exact .of k
   ·simp (disch := omega) only [wk, seval, qI]
    exact ⟨0, by omega, _, .refl _, 2, rfl, rfl, by omega, rfl, fun _ => h0 (by omega), fun _ => cmpI_eq.1 c3⟩
 ·have hi2 : i = 2 := by
   (try simp at c); omega
  subst hi2
  rw [if_pos (h0 (by omega)), cmpI_eq.2 (h1 (by omega))] at k
  try simp only [wk, seval, r2.len]
  try simp only [List.length_cons, List.length_nil, wk, seval]
  exact .of k
theorem liveStamp_c {h : H} {d : DLive} {a b : Value} {R : Ending -> H -> Prop} (k : R (.returned (.int .i64 d.stamp)) h) : HCalls Tryz.prog 103 #[.agg (qE d a b).toArray] h R := by
 refine qB (args := [.agg (qE d a b).toArray]) Tryz.func103 ir103 ?_
 simp only [wk, seval, wLive]
 refine qA (o := blk (qE d a b) 50) fun j hj => ?_
 simp only [wk, seval, wLive]
 exact ⟨h, Sub.cons hj (Sub.refl h), k⟩
theorem placeLive1_c {h : H} {d : DLive} {a b : Value} {s : Int} {j : Nat} (hj5 : hcel h j 0 = some (.func (.func 103) #[] #[])) {R : Ending -> H -> Prop} (k : R (.returned (.int .i64 (cmpI d.stamp s))) h) :
  HCalls Tryz.prog 133 #[.agg (qE d a b).toArray, .int .i64 s, .pointer (some ⟨j, 0, none⟩)] h R := by
 refine qB (args := [.agg (qE d a b).toArray, .int .i64 s, .pointer (some ⟨j, 0, none⟩)]) Tryz.func133 ir133 ?_
 simp only [wk, seval, wLive]
 refine qA (o := blk (qE d a b) 50) fun j3 hj3 => ?_
 have hj5' : hcel ((j3, blk (qE d a b) 50) :: h) j 0 = some (.func (.func 103) #[] #[]) := zT (Sub.cons hj3 (Sub.refl h)) hj5
 simp only [wk, seval, wLive, hj5']
 refine ⟨by kernel_rfl, liveStamp_c ?_⟩
 simp only [wk, seval, wLive]
 refine compare_c ?_
 simp only [wk, seval]
 exact ⟨h, Sub.cons hj3 (Sub.refl h), k⟩
theorem searchLive_c {h : H} {v : Value} {l : List DLive} {s : Int} {j : Nat} (r : rRs h (rLive h) 12 v l) (hl : l.length <= 1099511627776) (hr : risP (·.stamp) l) (hj5 : hcel h j 0 = some (.func (.func 103) #[] #[])) {R : Ending -> H -> Prop}
  (k : ∀ (p : Nat) (has : Bool), p <= l.length -> (has = true -> ∃ hp : p < l.length, liveOf l s = some l[p]) -> (has = false -> liveOf l s = none) -> R (.returned (.tuple #[.int .i64 p, .bool has])) h) :
  HCalls Tryz.prog 132 #[v, .int .i64 s, .func (.func 133) #[] #[.pointer (some ⟨j, 0, none⟩)]] h R := by
 refine qB (args := [v, .int .i64 s, .func (.func 133) #[] #[.pointer (some ⟨j, 0, none⟩)]]) Tryz.func132 ir132 ?_
 simp only [wk, seval, r.len]
 refine qS [9, 10] (fun n vs h' => ∃ i q : Nat, vs = [.int .i64 i, .int .i64 q] /\ h' = h /\ i <= q /\ q <= l.length /\ n = q - i /\ (∀ p (hp : p < l.length), p < i -> l[p].stamp < s) /\ (∀ p (hp : p < l.length), q <= p -> s <= l[p].stamp)) l.length rfl
  ⟨0, l.length, rfl, rfl, by omega, by omega, rfl, fun p hp h => absurd h (Nat.not_lt_zero _), fun p hp h => by omega⟩ ?_
 rintro n f h' ⟨i, q, hv, rfl, hiq, hq, rfl, hlo, hhi⟩
 simp only [lm4] at hv
 simp only [wk, seval, wr, hv.1, hv.2, r.len]
 refine qF (fun c => ?_) fun c => ?_
 ·have hm : (i + q) / 2 < l.length := by omega
  have hw : IntKind.i64.wrap ((i : Int) + q) = (i : Int) + q := qI _ ⟨by omega, by omega⟩
  have hs := shr1 i q (by omega)
  obtain ⟨b, o, cs, hx, e, a1, a2, rfl, sr⟩ := zU r hm
  simp only [wk, seval, hw, hs, hx, e]
  refine ⟨by kernel_rfl, placeLive1_c hj5 ?_⟩
  simp only [wk, seval]
  refine qF (fun c2 => ?_) fun c2 => ?_
  ·have h2 := cmpI_lt.1 c2
   simp (disch := omega) only [wk, seval, qI]
   refine ⟨q - ((i + q) / 2 + 1), by omega, _, .refl _, (i + q) / 2 + 1, q, by simp, rfl, by omega, hq, rfl, fun p hp hpi => ?_, hhi⟩
   by_cases e : p = (i + q) / 2
   ·subst e; exact h2
   ·have := risP_lt hr ((i + q) / 2) p hm (by omega)
    have : l[p].stamp < l[(i + q) / 2].stamp := this
    omega
  ·have h2 : ¬ l[(i + q) / 2].stamp < s := fun x => by have := cmpI_lt.2 x; omega
   refine ⟨(i + q) / 2 - i, by omega, _, .refl _, i, (i + q) / 2, rfl, rfl, by omega, by omega, rfl, hlo, fun p hp hpi => ?_⟩
   by_cases e : p = (i + q) / 2
   ·subst e; omega
   ·have := risP_lt hr p ((i + q) / 2) hp (by omega)
    have : l[(i + q) / 2].stamp < l[p].stamp := this
    omega
 ·have hiq2 : i = q := by omega
  subst hiq2
  refine qF (fun c2 => ?_) fun c2 => ?_
  ·have hi2 : i < l.length := by omega
   obtain ⟨b, o, cs, hx, e, a1, a2, rfl, sr⟩ := zU r hi2
   simp only [wk, seval, hx, e]
   refine ⟨by kernel_rfl, placeLive1_c hj5 ?_⟩
   simp only [wk, seval]
   refine .of (k i _ hq (fun hb => ⟨hi2, liveOf_at hr hi2 (cmpI_eq.1 (by simpa using hb))⟩) fun hb => liveOf_no fun p hp => ?_)
   have hne : ¬ l[i].stamp = s := fun x => by rw [cmpI_eq.2 x] at hb; simp at hb
   by_cases e : p = i
   ·subst e; exact hne
   ·by_cases e2 : p < i
    ·have := hlo p hp e2; omega
    ·have := risP_lt hr p i hp (by omega)
     have : l[i].stamp < l[p].stamp := this
     have := hhi i hi2 (by omega)
     omega
  ·try simp only [wk, seval]
   refine .of (k i false hq (fun hb => by cases hb) fun _ => liveOf_no fun p hp => ?_)
   have := hlo p hp (by omega)
   omega
theorem placeLive_c {h : H} {v : Value} {l : List DLive} {s : Int} (r : rRs h (rLive h) 12 v l) (hl : l.length <= 1099511627776) (hr : risP (·.stamp) l) {R : Ending -> H -> Prop}
  (k : ∀ (p : Nat) (has : Bool), p <= l.length -> (has = true -> ∃ hp : p < l.length, liveOf l s = some l[p]) -> (has = false -> liveOf l s = none) -> R (.returned (.tuple #[.int .i64 p, .bool has])) h) :
  HCalls Tryz.prog 102 #[v, .int .i64 s, .func (.func 103) #[] #[]] h R := by
 refine qB (args := [v, .int .i64 s, .func (.func 103) #[] #[]]) Tryz.func102 ir102 ?_
 simp only [wk, seval]
 refine qA fun j hj => ?_
 simp only [wk, seval]
 refine searchLive_c ((r.subH (Sub.cons hj (Sub.refl h))).relImp fun _ _ x => rLive.sub (Sub.cons hj (Sub.refl h)) x) hl hr (by simp only [wk, seval]) fun p has h1 h2 h3 => ?_
 simp only [wk, seval]
 exact ⟨h, Sub.cons hj (Sub.refl h), k p has h1 h2 h3⟩
end Go.Proofs.YtgbapakcfmgahaaGreatDoor
end

section
set_option maxRecDepth 20000
attribute [local irreducible] Go.Tk.vc Go.Tk.vops Go.Tk.vdr Go.Tk.vop Go.Tk.vfl Go.Tk.HCalls
namespace Go.Proofs.YtgbapakcfmgahaaGreatDoor
open Go Go.Tk
set_option maxHeartbeats 2000000 in
theorem liveOk_c {h : H} {x : DLive} {lk tl : Value} (gl : Gl h) (gm : MxL h) (r : sLive h x lk tl) (hb : bLive x) {R : Ending -> H -> Prop} (k : Asks R (liveQ x) h) :
  HCalls Tryz.prog 60 #[.agg (qE x lk tl).toArray] h R := by
 refine qB (args := [.agg (qE x lk tl).toArray]) Tryz.func60 ir60 ?_
 have b1 := hb.l; have b2 := hb.t; have b3 := hb.c
 unfold bCall at b3
 unfold lim at b1 b2 b3
 simp only [wk, seval, wLive]
 refine qA (o := blk (qE x lk tl) 50) fun j hj => ?_
 have s1 := Sub.cons (o := blk (qE x lk tl) 50) hj (Sub.refl h)
 have r1 := r.sub s1
 obtain ⟨M, hM⟩ : ∃ M, M = (j, blk (qE x lk tl) 50) :: h := ⟨_, rfl⟩
 have hMj : hget M j = some (blk (qE x lk tl) 50) := by rw [hM]; exact qL _ _ _
 have f1 : hcel M j 1 = some (.int .i64 x.try_) := qH hMj rfl
 have f2 : hcel M j 2 = some (.int .i64 x.version) := qH hMj rfl
 have f3 : hcel M j 3 = some (.int .i64 x.phase) := qH hMj rfl
 have f4 : qQ M j 4 6 = some (zL x.call) := by rw [hM]; simp only [wk, seval, wLive]
 have f10 : hcel M j 10 = some lk := qH hMj rfl
 have f11 : hcel M j 11 = some tl := qH hMj rfl
 rw [<- hM] at r1 s1 ⊢
 simp only [wk, seval, wLive, f1, f2, f3, f4, f10, f11]
 refine isStamp_c fun q1 hq1 => ?_
 cases q1 with
 | false =>
  simp only [wk, seval, wLive, f1, f2, f3, f4, f10, f11]
  exact k.dno s1 fun p => zG hq1 rfl p.1
 | true =>
 simp only [wk, seval, wLive, f1, f2, f3, f4, f10, f11]
 refine within_c fun q2 hq2 => ?_
 cases q2 with
 | false =>
  simp only [wk, seval, wLive, f1, f2, f3, f4, f10, f11]
  exact k.dno s1 fun p => zG hq2 rfl p.2.1
 | true =>
 simp only [wk, seval, wLive, f1, f2, f3, f4, f10, f11]
 refine within_c fun q3 hq3 => ?_
 cases q3 with
 | false =>
  simp only [wk, seval, wLive, f1, f2, f3, f4, f10, f11]
  exact k.dno s1 fun p => zG hq3 rfl p.2.2.1
 | true =>
 simp only [wk, seval, wLive, f1, f2, f3, f4, f10, f11]
 refine implCallOk_c (gl.sub s1) (gm.sub s1) (by omega) fun q4 hq4 => ?_
 cases q4 with
 | false =>
  simp only [wk, seval, wLive, f1, f2, f3, f4, f10, f11]
  exact k.dno s1 fun p => zG hq4 rfl p.2.2.2.1
 | true =>
 simp only [wk, seval, wLive, f1, f2, f3, f4, f10, f11]
 refine rising_c (g := 100) (P := zO) (by kernel_rfl) (fun {a h R} k => isHouse_c k) r1.1 (by omega) fun q5 hq5 => ?_
 cases q5 with
 | false =>
  simp only [wk, seval, wLive, f1, f2, f3, f4, f10, f11]
  exact k.dno s1 fun p => zG hq5 rfl p.2.2.2.2.1
 | true =>
 simp only [wk, seval, wLive, f1, f2, f3, f4, f10, f11, r1.2.len]
 refine qS [36] (fun n vs h' => ∃ i : Nat, vs = [.int .i64 i] /\ h' = M /\ i <= x.told.length /\ n = x.told.length - i /\ (∀ t ∈ x.told.take i, zO t.house /\ pairsP t.pairs) /\ risU (·.house) x.told i) x.told.length rfl ⟨0, rfl, rfl, by omega, rfl, fun t ht => by simp at ht, risU_zero _ _⟩ ?_
 rintro n f h' ⟨i, hv, rfl, hi, rfl, hall, hris⟩
 simp only [lm4] at hv
 simp only [wk, seval, wr, hv]
 refine qF (fun d1 => ?_) fun d1 => ?_
 ·have hi2 : i < x.told.length := by omega
  obtain ⟨b, o, cs, hx, e, pv, rfl, sp⟩ := zU r1.2 hi2
  have zt := zTold_eq
  have hone := wTold.2.2.2.2.2.1 x.told[i] pv (rdS.one sp)
  simp only [wk, seval, hx, e, zt, wTold]
  refine qA (o := blk (zA zTold (.slice none 0 0)) 54) fun j4 hj4 => ?_
  simp only [wk, seval, zt, wTold, hone]
  obtain ⟨B, hB⟩ : ∃ B, B = (j4, blk (zA x.told[i] pv) 54) :: h' := ⟨_, rfl⟩
  have sB : Tk.Sub h' B := by rw [hB]; exact Sub.cons hj4 (Sub.refl _)
  have g11 := zT sB f11
  have l0 : hcel B j4 0 = some (.int .i64 x.told[i].house) := by rw [hB]; simp only [wk, seval, wTold]
  have l1 : hcel B j4 1 = some pv := by rw [hB]; simp only [wk, seval, wTold]
  have rt : rRs B (rTold h') 2 tl x.told := r1.2.subH sB
  have s2 := s1.trans sB
  have sBB := Sub.refl B
  rw [<- hB]
  have bt : x.told[i].pairs.length <= 1048576 := hb.ts _ (List.getElem_mem hi2)
  have no : ¬ (zO x.told[i].house /\ pairsP x.told[i].pairs) -> ¬ liveQ x := fun g p => g (p.2.2.2.2.2.1.1 _ (List.getElem_mem hi2))
  refine qY _ (Sub.refl _) ?_
  simp only [wk, seval, g11, l0, l1, sBB]
  refine isHouse_c fun u1 hu1 => ?_
  cases u1 with
  | false =>
   simp only [wk, seval, g11, l0, l1, sBB]
   exact k.dno s2 (no fun g => zG hu1 rfl g.1)
  | true =>
  simp only [wk, seval, g11, l0, l1, sBB]
  refine pairsOk_c (rLs.sub sB sp) (by omega) fun u2 hu2 => ?_
  cases u2 with
  | false =>
   simp only [wk, seval, g11, l0, l1, sBB]
   exact k.dno s2 (no fun g => zG hu2 rfl g.2)
  | true =>
  simp only [wk, seval, g11, l0, l1, sBB]
  refine qF (fun g1 => ?_) fun g1 => ?_
  ·have hi3 : i - 1 < x.told.length := by omega
   obtain ⟨b3, o3, cs3, hx3, e3, pv3, rfl, sp3⟩ := zU rt hi3
   have y0 : hcel B b3 o3 = some (.int .i64 x.told[i - 1].house) := by have := qW e3 0 rfl; rw [Nat.add_zero] at this; exact this
   have hw3 : IntKind.i64.wrap ((i : Int) - 1) = ((i - 1 : Nat) : Int) := by rw [qI _ ⟨by omega, by omega⟩]; omega
   simp only [wk, seval, hx3, y0, hw3, g11, l0, l1, sBB]
   refine ite_ge (fun g2 => k.dno s2 fun p => risU_not (k := (·.house)) hi2 (by omega) (by show ¬ x.told[i - 1].house < x.told[i].house; omega) p.2.2.2.2.2.1.2) fun g2 => ?_
   have hris2 := risU_more hi2 (by omega) hris g2
   simp (disch := omega) only [wk, seval, qI, sBB]
   exact ⟨x.told.length - (i + 1), by omega, _, sB, i + 1, by simp, rfl, by omega, rfl, fun t ht => (by
    rw [List.take_succ_eq_append_getElem hi2] at ht
    rcases List.mem_append.1 ht with ht | ht
    ·exact hall t ht
    ·rw [List.mem_singleton.1 ht]; exact ⟨hu1.1 rfl, hu2.1 rfl⟩), hris2⟩
  ·have hris2 : risU (·.house) x.told (i + 1) := risU_one (by omega) hris
   simp (disch := omega) only [wk, seval, qI, sBB]
   exact ⟨x.told.length - (i + 1), by omega, _, sB, i + 1, by simp, rfl, by omega, rfl, fun t ht => (by
    rw [List.take_succ_eq_append_getElem hi2] at ht
    rcases List.mem_append.1 ht with ht | ht
    ·exact hall t ht
    ·rw [List.mem_singleton.1 ht]; exact ⟨hu1.1 rfl, hu2.1 rfl⟩), hris2⟩
 ·have ht : toldP x.told := ⟨by rw [List.take_of_length_le (by omega)] at hall; exact hall, risU_done (by omega) hris⟩
  have fin : ((x.phase = 0 -> x.locked = []) /\ (x.phase ≠ 2 -> x.told = [])) -> liveQ x := fun g => ⟨hq1.1 rfl, hq2.1 rfl, hq3.1 rfl, hq4.1 rfl, hq5.1 rfl, ht, g.1, g.2⟩
  simp only [wk, seval, f3, f10, f11, r1.1.len, r1.2.len]
  have two : (x.phase = 0 -> x.locked = []) -> Asks R (liveQ x) h -> dP R (if x.phase = 2 then Ending.returned (Value.bool true) else Ending.returned (Value.bool (decide ((x.told.length : Int) = 0)))) h' := fun e0 k => by
   split
   ·rename_i e2; exact k.dyes s1 (fin ⟨e0, fun e => absurd e2 e⟩)
   ·rename_i e2
    have : ((x.told.length : Int) = 0) ↔ liveQ x := ⟨fun e => fin ⟨e0, fun _ => List.eq_nil_of_length_eq_zero (by omega)⟩, fun q => by rw [q.2.2.2.2.2.2.2 e2]; rfl⟩
    exact ⟨h, s1, k _ (by simpa using this)⟩
  have two' := fun e0 => two e0 k
  split
  ·rename_i e1
   have := two' fun e => absurd e e1
   split at this <;> split <;> first | exact this | contradiction
  ·rename_i e1
   split
   ·rename_i e3
    have := two' fun e => List.eq_nil_of_length_eq_zero (by omega)
    split at this <;> split <;> first | exact this | contradiction
   ·rename_i e3
    refine k.dno s1 fun q => e3 ?_
    rw [q.2.2.2.2.2.2.1 (Classical.not_not.1 e1)]; rfl
end Go.Proofs.YtgbapakcfmgahaaGreatDoor
end

section
set_option maxRecDepth 20000
attribute [local irreducible] Go.Tk.vc Go.Tk.vops Go.Tk.vdr Go.Tk.vop Go.Tk.vfl Go.Tk.HCalls
namespace Go.Tk
open Go
section
variable {P : Program} {κ : Type} [DecidableEq κ] {enc : κ -> Value} {kt et t ty : TypeId} {i : TypeInfo} {z : Value} {ρ : Operand -> Value} {h : H} {K : Value -> H -> Prop} {X : List PanicEntry -> H -> Prop} {x y w : Operand} {r : Nat} {es : Array MapEntry} {c : Nat} {m : List (κ × Value)}
theorem raw_make (k : ∀ r, hget h r = none -> K (.map (some r)) ((r, .map #[] 0) :: h)) : rawK P (.makeMap t none) ty ρ h K X := by
 unfold rawK
 simp only [execOp, mkO, wrap_v, Option.map_none, Instr.makeMap, newObj, qD, qR]
 intro j hj
 exact k j hj
theorem raw_lookup (Kt : KeyT P kt enc) (ht : P.underlying t = some (.map kt et)) (hi : P.info? et = some i) (hz : i.zero = some z) (hx : ρ x = .map (some r)) {k : κ} (hk : ρ y = enc k) (hr : hget h r = some (.map es c)) (hm : mapO enc es m) {v : Value} (hv : (mget m k).getD z = v)
  (q : K v h) : rawK P (.lookup t x y false) ty ρ h K X := by
 unfold rawK
 simp only [execOp, mkO, wrap_v, hx, hk]
 exact SH_lookup Kt ht hi hz hr hm k (by rw [hv]; exact q)
theorem raw_update (Kt : KeyT P kt enc) (ht : P.underlying t = some (.map kt et)) (hx : ρ x = .map (some r)) {k : κ} (hk : ρ y = enc k) {v : Value} (hw : ρ w = v) (hr : hget h r = some (.map es c)) (hm : mapO enc es m)
  (q : ∀ es' c', mapO enc es' (mput m k v) -> K undef (hupd h r (.map es' c'))) : rawK P (.mapUpdate t x y w) ty ρ h K X := by
 unfold rawK
 simp only [execOp, mkO, wrap_u, hx, hk, hw]
 exact SH_mapUpdate Kt ht hr hm k v q
end
def lastN (log : List DRecord) (s : Int) : Int := match lastOf log s with
 | some r => r.call.number
 | none => 0
def lastA (log : List DRecord) : List Int := [lastN log 0, lastN log 1, lastN log 2]
theorem lastA_at (log : List DRecord) {s : Int} (h : 0 <= s /\ s <= 2) (hi : s.toNat < (lastA log).length) : (lastA log)[s.toNat] = lastN log s := by
 have : s = 0 ∨ s = 1 ∨ s = 2 := by omega
 rcases this with rfl | rfl | rfl <;> rfl
theorem lastN_app (log : List DRecord) (r : DRecord) (s : Int) : lastN (log ++ [r]) s = if r.call.session = s then r.call.number else lastN log s := by
 unfold lastN lastOf
 rw [List.reverse_append]
 simp only [List.reverse_cons, List.reverse_nil, List.nil_append, List.singleton_append, List.find?_cons]
 by_cases c : r.call.session = s
 ·simp [c]
 ·simp [c]
theorem lastA_app (log : List DRecord) (r : DRecord) (h : 0 <= r.call.session /\ r.call.session <= 2) : (lastA log).set r.call.session.toNat r.call.number = lastA (log ++ [r]) := by
 have : r.call.session = 0 ∨ r.call.session = 1 ∨ r.call.session = 2 := by omega
 unfold lastA
 simp only [lastN_app]
 rcases this with e | e | e <;> simp [e]
theorem lastN_lt {log : List DRecord} {s n : Int} (hn : 1 <= n) : lastN log s < n ↔ ∀ x, lastOf log s = some x -> x.call.number < n := by
 unfold lastN
 cases e : lastOf log s with
 | none => simp; omega
 | some r => simp
def stampM (m : List (Int × Value)) (log : List DRecord) : Prop := ∀ s, mget m s = if log.any (fun x => decide (x.stamp = s)) = true then some (.int .i64 1) else none
theorem stampM_nil : stampM [] [] := fun s => rfl
theorem stampM_app {m : List (Int × Value)} {log : List DRecord} {r : DRecord} (h : stampM m log) : stampM (mput m r.stamp (.int .i64 1)) (log ++ [r]) := fun s => by
 rw [mget_put, h s, List.any_append]
 by_cases c : r.stamp = s
 ·simp [c]
 ·simp [c]
theorem stampM_get {m : List (Int × Value)} {log : List DRecord} (h : stampM m log) (s : Int) : ((mget m s).getD (.int .i64 0) = .int .i64 1 /\ ∃ x ∈ log, x.stamp = s) ∨ ((mget m s).getD (.int .i64 0) = .int .i64 0 /\ ∀ x ∈ log, x.stamp ≠ s) := by
 rw [h s]
 cases e : log.any (fun x => decide (x.stamp = s)) with
 | true =>
  refine .inl ⟨rfl, ?_⟩
  obtain ⟨x, hx, h2⟩ := List.any_eq_true.1 e
  exact ⟨x, hx, by simpa using h2⟩
 | false =>
  refine .inr ⟨rfl, fun x hx c => ?_⟩
  have := List.any_eq_false.1 e x hx
  simp [c] at this
end Go.Tk
end

section
set_option maxRecDepth 20000
attribute [local irreducible] Go.Tk.vc Go.Tk.vops Go.Tk.vdr Go.Tk.vop Go.Tk.vfl Go.Tk.HCalls
namespace Go.Proofs.YtgbapakcfmgahaaGreatDoor
open Go Go.Tk
theorem tIntD : Tryz.prog.underlying 3 = some (.int .i64) := by kernel_rfl
theorem tMapII : Tryz.prog.underlying 112 = some (.map 3 3) := by kernel_rfl
theorem keyII : KeyT Tryz.prog 3 (Value.int .i64) := keyInt tIntD
theorem iInt0 : ∃ i, Tryz.prog.info? 3 = some i /\ i.zero = some (.int .i64 0) := by
 obtain ⟨i, hi⟩ := Option.isSome_iff_exists.1 (show (Tryz.prog.info? 3).isSome = true by kernel_rfl)
 have : (Tryz.prog.info? 3).bind (·.zero) = some (.int .i64 0) := by kernel_rfl
 rw [hi] at this
 exact ⟨i, hi, this⟩
set_option maxHeartbeats 2000000 in
theorem gateLogOk_c {h : H} {g : DGate} {lg lv wy : Value} (gl : Gl h) (gm : MxL h) (r : rRs h (rRecord h) 11 lg g.log) (hb : allP bRecord g.log) (hl : g.log.length <= 1048576) (hn : inP 1 9999 g.next) {R : Ending -> H -> Prop}
  (kno : ¬ glogP g.log g.next -> ∀ v L h', L.length = 3 -> Tk.Sub h h' -> R (.returned (.tuple #[v, .agg (fl eI L).toArray, .bool false])) h')
  (kyes : glogP g.log g.next -> ∀ r es c m h', Tk.Sub h h' -> hget h' r = some (.map es c) -> mapO (Value.int .i64) es m -> stampM m g.log -> R (.returned (.tuple #[.map (some r), .agg (fl eI (lastA g.log)).toArray, .bool true])) h') :
  HCalls Tryz.prog 59 #[.agg (cGate g lg lv wy).toArray] h R := by
 refine qB (args := [.agg (cGate g lg lv wy).toArray]) Tryz.func59 ir59 ?_
 simp only [wk, seval, zB]
 refine qA (o := blk (cGate g lg lv wy) 34) fun j1 h1 => ?_
 simp only [wk, seval, zB]
 have z3 : [Value.int .i64 0, .int .i64 0, .int .i64 0] = fl eI [0, 0, 0] := rfl
 simp only [z3]
 refine qA (o := blk (fl eI [0, 0, 0]) 113) fun j3 h3 => ?_
 simp only [wk, seval, zB]
 refine raw_make fun rr hr => ?_
 simp only [wk, seval, zB, z3]
 refine qA (o := blk (fl eI [0, 0, 0]) 113) fun j6 h6 => ?_
 have n3 := h3
 have nr := hr
 have n6 := h6
 simp only [subs] at n3 nr n6
 obtain ⟨B, hB⟩ : ∃ B, B = (j1, blk (cGate g lg lv wy) 34) :: h := ⟨_, rfl⟩
 have sB : Tk.Sub h B := by rw [hB]; exact Sub.cons h1 (Sub.refl _)
 have gB : hget B j1 = some (blk (cGate g lg lv wy) 34) := by rw [hB]; exact qL _ _ _
 have nB3 : hget B j3 = none := by rw [hB]; simp only [subs, n3]
 have nBr : hget B rr = none := by rw [hB]; simp only [subs, nr]
 have nB6 : hget B j6 = none := by rw [hB]; simp only [subs, n6]
 obtain ⟨i0, hi0, hz0⟩ := iInt0
 obtain ⟨M, hM⟩ : ∃ M, M = (j6, blk (fl eI [0, 0, 0]) 113) :: (rr, Obj.map #[] 0) :: (j3, blk (fl eI [0, 0, 0]) 113) :: B := ⟨_, rfl⟩
 have m6 : hget M j6 = some (blk (fl eI (lastA [])) 113) := by rw [hM]; exact qL _ _ _
 have mr : hget M rr = some (.map #[] 0) := by rw [hM, zN _ _ _ (fun e => n6.1 e.symm)]; exact qL _ _ _
 have m3 : hget M j3 = some (blk (fl eI [0, 0, 0]) 113) := by rw [hM, zN _ _ _ (fun e => n6.2.1 e.symm), zN _ _ _ (fun e => nr.1 e.symm)]; exact qL _ _ _
 have sM : Tk.Sub B M := by rw [hM]; exact Sub.cons (by simp only [subs, nB6, n6]) (Sub.cons (by simp only [subs, nBr, nr]) (Sub.cons nB3 (Sub.refl _)))
 have jne : j3 ≠ j6 /\ j3 ≠ rr /\ rr ≠ j6 := ⟨fun e => n6.2.1 e.symm, fun e => nr.1 e.symm, fun e => n6.1 e.symm⟩
 have hc3 : ∀ {N : H}, Tk.Sub B N -> hcel N j1 3 = some lg := fun s => qH (s _ _ gB) rfl
 have hc2 : ∀ {N : H}, Tk.Sub B N -> hcel N j1 2 = some (.int .i64 g.next) := fun s => qH (s _ _ gB) rfl
 have hlen3 : ∀ L : List Int, L.length = 3 -> (fl eI L).length = 3 := fun L h => by rw [fl_len zC, h]
 have ret3 : ∀ (N : H) (L : List Int), L.length = 3 -> hget N j3 = some (blk (fl eI [0, 0, 0]) 113) -> qT N j3 0 (fl eI L) = some (hupd N j3 (blk (fl eI L) 113)) /\ qQ (hupd N j3 (blk (fl eI L) 113)) j3 0 3 = some (fl eI L) := fun N L hL hN => by
  have h3 := hlen3 L hL
  have hw := zH (j := 0) (vs := fl eI L) hN (by rw [h3]; exact Nat.le_refl _)
  rw [splice_all (by rw [h3]; rfl)] at hw
  exact ⟨hw, qU (qN hN) h3⟩
 have sub3 : ∀ (N : H) (o : Obj), Tk.Sub B N -> Tk.Sub B (hupd N j3 o) := fun N o s => Sub.wr s nB3
 rw [<- hB, <- hM]
 simp only [wk, seval, hc3 sM, r.len]
 refine qF (fun c0 => ?_) fun c0 => ?_
 ·have rd6 : qQ M j6 0 3 = some (fl eI (lastA [])) := qU m6 rfl
  obtain ⟨w1, w2⟩ := ret3 M (lastA []) rfl m3
  refine qY _ (Sub.refl _) ?_
  have hl3 := hlen3 (lastA []) rfl
  have ho3 := eI_one (lastA [])
  simp only [wk, seval, rd6, hl3, ho3, w1, w2, Sub.refl M]
  refine .of (kno (fun q => ?_) _ (lastA []) _ rfl (sB.trans (sub3 _ _ sM)))
  have := q.1; omega
 ·refine qS [19] (fun n vs M' => ∃ (i : Nat) (es : Array MapEntry) (c : Nat) (m : List (Int × Value)), vs = [.int .i64 i] /\ Tk.Sub B M' /\ hget M' j3 = some (blk (fl eI [0, 0, 0]) 113) /\ hget M' rr = some (.map es c) /\ hget M' j6 = some (blk (fl eI (lastA (g.log.take i))) 113) /\ mapO (Value.int .i64) es m /\ stampM m (g.log.take i) /\ i <= g.log.length /\ n = g.log.length - i /\ ∀ q (hq : q < g.log.length), q < i -> recordP (g.log.take q) g.next g.log[q]) g.log.length rfl
   ⟨0, _, _, [], rfl, sM, m3, mr, by simpa using m6, rfl, by simpa using stampM_nil, by omega, rfl, fun q _ hq => absurd hq (Nat.not_lt_zero _)⟩ ?_
  rintro n f M' ⟨i, es, c, m, hv, sM', m3', mr', m6', hmo, hst, hi, rfl, hok⟩
  simp only [lm4] at hv
  simp only [wk, seval, wr, hv]
  have hL3 : (lastA (g.log.take i)).length = 3 := rfl
  have hl3 := hlen3 (lastA (g.log.take i)) rfl
  have ho3 := eI_one (lastA (g.log.take i))
  refine qF (fun c1 => ?_) fun c1 => ?_
  ·have hi2 : i < g.log.length := by omega
   have zr := zRecord_eq
   obtain ⟨b, o, cs, hx, e, a1, a2, rfl, sr⟩ := zU (r.subH (sB.trans sM')) hi2
   have hone := wRecord.2.2.2.2.2.2.2.2.2.2.2.2.2.2.1 g.log[i] a1 a2 (rdS.one sr.1) (rdS.one sr.2)
   simp only [wk, seval, hx, e, zr, wRecord]
   refine qA (o := blk (qC zRecord (.slice none 0 0) (.slice none 0 0)) 97) fun j8 hj8 => ?_
   simp only [wk, seval, zr, wRecord, hone]
   obtain ⟨N, hN⟩ : ∃ N, N = (j8, blk (qC g.log[i] a1 a2) 97) :: M' := ⟨_, rfl⟩
   have sN : Tk.Sub M' N := by rw [hN]; exact Sub.cons hj8 (Sub.refl _)
   have gN : hget N j8 = some (blk (qC g.log[i] a1 a2) 97) := by rw [hN]; exact qL _ _ _
   have p0 : hcel N j8 0 = some (.int .i64 g.log[i].stamp) := qH gN rfl
   have p1 : hcel N j8 1 = some (.int .i64 g.log[i].try_) := qH gN rfl
   have p2 : hcel N j8 2 = some (.int .i64 g.log[i].call.session) := qH gN rfl
   have p3 : hcel N j8 3 = some (.int .i64 g.log[i].call.number) := qH gN rfl
   have p26 : qQ N j8 2 6 = some (zL g.log[i].call) := by rw [hN]; simp only [wk, seval, wRecord]
   have p8 : hcel N j8 8 = some (.int .i64 g.log[i].code) := qH gN rfl
   have p9 : hcel N j8 9 = some a1 := qH gN rfl
   have p10 : hcel N j8 10 = some a2 := qH gN rfl
   have pn := hc2 (sM'.trans sN)
   have m6N := sN _ _ m6'
   have m3N := sN _ _ m3'
   have mrN := sN _ _ mr'
   have rd6 : qQ N j6 0 3 = some (fl eI (lastA (g.log.take i))) := qU m6N rfl
   obtain ⟨w1, w2⟩ := ret3 N (lastA (g.log.take i)) rfl m3N
   have sNN := Sub.refl N
   have bb := hb _ (List.getElem_mem hi2)
   have bv := bb.v; have bp := bb.p; have bc := bb.c
   unfold bCall at bc
   unfold lim at bv bp bc
   have hnx : IntKind.i64.wrap (g.next - 1) = g.next - 1 := qI _ (by have := hn.1; have := hn.2; omega)
   have bad : ¬ recordP (g.log.take i) g.next g.log[i] -> ¬ glogP g.log g.next := fun q p => q (p.2 i hi2)
   have no : ¬ recordP (g.log.take i) g.next g.log[i] -> dP R (.returned (.tuple #[.map (some rr), .agg (fl eI (lastA (g.log.take i))).toArray, .bool false])) (hupd N j3 (blk (fl eI (lastA (g.log.take i))) 113)) := fun q => .of (kno (bad q) _ _ _ rfl (sB.trans (sub3 _ _ (sM'.trans sN))))
   rw [<- hN]
   refine qY _ (Sub.refl _) ?_
   simp only [wk, seval, p0, p1, p2, p3, p26, p8, p9, p10, pn, sNN, hnx]
   refine raw_lookup keyII tMapII hi0 hz0 (k := g.log[i].stamp) (by simp only [wk, seval]) (by simp only [wk, seval]) mrN hmo rfl ?_
   rcases stampM_get hst g.log[i].stamp with ⟨hg, x, hxm, hxs⟩ | ⟨hg, hnos⟩
   ·simp only [wk, seval, hg, p0, p1, p2, p3, p26, p8, p9, p10, pn, sNN, hnx]
    refine qY _ (Sub.refl _) ?_
    simp only [wk, seval, rd6, hl3, ho3, w1, w2, sNN]
    exact no fun p => p.2.2.2.2.2.2.1 x hxm hxs
   ·simp only [wk, seval, hg, p0, p1, p2, p3, p26, p8, p9, p10, pn, sNN, hnx]
    refine within_c fun q1 hq1 => ?_
    cases q1 with
    | false =>
     simp only [wk, seval, p0, p1, p2, p3, p26, p8, p9, p10, pn, sNN, hnx]
     refine qY _ (Sub.refl _) ?_
     simp only [wk, seval, rd6, hl3, ho3, w1, w2, sNN]
     exact no fun p => zG hq1 rfl p.1
    | true =>
    simp only [wk, seval, p0, p1, p2, p3, p26, p8, p9, p10, pn, sNN, hnx]
    refine isStamp_c fun q2 hq2 => ?_
    cases q2 with
    | false =>
     simp only [wk, seval, p0, p1, p2, p3, p26, p8, p9, p10, pn, sNN, hnx]
     refine qY _ (Sub.refl _) ?_
     simp only [wk, seval, rd6, hl3, ho3, w1, w2, sNN]
     exact no fun p => zG hq2 rfl p.2.1
    | true =>
    simp only [wk, seval, p0, p1, p2, p3, p26, p8, p9, p10, pn, sNN, hnx]
    refine implCallOk_c (gl.sub (sB.trans (sM'.trans sN))) (gm.sub (sB.trans (sM'.trans sN))) (by omega) fun q3 hq3 => ?_
    cases q3 with
    | false =>
     simp only [wk, seval, p0, p1, p2, p3, p26, p8, p9, p10, pn, sNN, hnx]
     refine qY _ (Sub.refl _) ?_
     simp only [wk, seval, rd6, hl3, ho3, w1, w2, sNN]
     exact no fun p => zG hq3 rfl p.2.2.1
    | true =>
    simp only [wk, seval, p0, p1, p2, p3, p26, p8, p9, p10, pn, sNN, hnx]
    have hfm := (hq3.1 rfl).1
    have hse : 0 <= g.log[i].call.session /\ g.log[i].call.session <= 2 := hfm.1
    have hnu : 1 <= g.log[i].call.number := hfm.2.1.1
    have hsl : g.log[i].call.session.toNat < (lastA (g.log.take i)).length := by show _ < 3; omega
    have pl : hcel N j6 g.log[i].call.session.toNat = some (.int .i64 (lastN (g.log.take i) g.log[i].call.session)) := by
     rw [<- lastA_at _ hse hsl]; exact qH m6N (flI_at hsl)
    refine ⟨⟨by omega, by omega⟩, ?_⟩
    simp only [wk, seval, pl, p0, p1, p2, p3, p26, p8, p9, p10, pn, sNN, hnx]
    refine ite_ge (fun c4 => ?_) fun c4 => ?_
    ·try simp only [wk, seval, p0, p1, p2, p3, p26, p8, p9, p10, pn, sNN, hnx]
     refine qY _ (Sub.refl _) ?_
     simp only [wk, seval, rd6, hl3, ho3, w1, w2, sNN]
     exact no fun p => by have := (lastN_lt hnu).2 p.2.2.2.2.2.2.2; omega
    have hlt := (lastN_lt (log := g.log.take i) (s := g.log[i].call.session) hnu).1 (by omega)
    try simp only [wk, seval, p0, p1, p2, p3, p26, p8, p9, p10, pn, sNN, hnx]
    refine isCode_c fun q5 hq5 => ?_
    cases q5 with
    | false =>
     simp only [wk, seval, p0, p1, p2, p3, p26, p8, p9, p10, pn, sNN, hnx]
     refine qY _ (Sub.refl _) ?_
     simp only [wk, seval, rd6, hl3, ho3, w1, w2, sNN]
     exact no fun p => zG hq5 rfl p.2.2.2.1
    | true =>
    simp only [wk, seval, p0, p1, p2, p3, p26, p8, p9, p10, pn, sNN, hnx]
    refine valsOk_c (sr.1.sub (sB.trans (sM'.trans sN))) (by omega) fun q6 hq6 => ?_
    cases q6 with
    | false =>
     simp only [wk, seval, p0, p1, p2, p3, p26, p8, p9, p10, pn, sNN, hnx]
     refine qY _ (Sub.refl _) ?_
     simp only [wk, seval, rd6, hl3, ho3, w1, w2, sNN]
     exact no fun p => zG hq6 rfl p.2.2.2.2.1
    | true =>
    simp only [wk, seval, p0, p1, p2, p3, p26, p8, p9, p10, pn, sNN, hnx]
    refine pairsOk_c (sr.2.sub (sB.trans (sM'.trans sN))) (by omega) fun q7 hq7 => ?_
    cases q7 with
    | false =>
     simp only [wk, seval, p0, p1, p2, p3, p26, p8, p9, p10, pn, sNN, hnx]
     refine qY _ (Sub.refl _) ?_
     simp only [wk, seval, rd6, hl3, ho3, w1, w2, sNN]
     exact no fun p => zG hq7 rfl p.2.2.2.2.2.1
    | true =>
    simp only [wk, seval, p0, p1, p2, p3, p26, p8, p9, p10, pn, sNN, hnx]
    refine raw_update keyII tMapII (k := g.log[i].stamp) (v := .int .i64 1) (by simp only [wk, seval]) (by simp only [wk, seval]) (by simp only [wk, seval]) mrN hmo fun es' c' hmo' => ?_
    have j8r : j8 ≠ rr := fun e => by rw [e, mr'] at hj8; cases hj8
    have j86 : j8 ≠ j6 := fun e => by rw [e, m6'] at hj8; cases hj8
    have j83 : j8 ≠ j3 := fun e => by rw [e, m3'] at hj8; cases hj8
    obtain ⟨N2, hN2⟩ : ∃ N2, N2 = hupd N rr (.map es' c') := ⟨_, rfl⟩
    have gN2 : hget N2 j8 = some (blk (qC g.log[i] a1 a2) 97) := by rw [hN2, qG j8r]; exact gN
    have p2' : hcel N2 j8 2 = some (.int .i64 g.log[i].call.session) := qH gN2 rfl
    have p3' : hcel N2 j8 3 = some (.int .i64 g.log[i].call.number) := qH gN2 rfl
    have m6N2 : hget N2 j6 = some (blk (fl eI (lastA (g.log.take i))) 113) := by rw [hN2, qG (Ne.symm jne.2.2)]; exact m6N
    have htk : g.log.take (i + 1) = g.log.take i ++ [g.log[i]] := List.take_succ_eq_append_getElem hi2
    obtain ⟨N3, hN3⟩ : ∃ N3, N3 = hupd N2 j6 (blk (fl eI (lastA (g.log.take (i + 1)))) 113) := ⟨_, rfl⟩
    have wt6 : qT N2 j6 g.log[i].call.session.toNat [.int .i64 g.log[i].call.number] = some N3 := by
     rw [zH (j := g.log[i].call.session.toNat) (vs := [.int .i64 g.log[i].call.number]) m6N2 (by rw [hl3]; simp only [List.length_singleton]; omega), hN3, htk, <- lastA_app _ _ hse]
     have : g.log[i].call.session = 0 ∨ g.log[i].call.session = 1 ∨ g.log[i].call.session = 2 := by omega
     rcases this with e | e | e <;> rw [e] <;> rfl
    rw [<- hN2]
    simp only [wk, seval, p2', p3']
    refine ⟨⟨by omega, by omega⟩, ?_⟩
    simp only [wk, seval, wt6]
    simp (disch := omega) only [wk, seval, qI]
    refine ⟨g.log.length - (i + 1), by omega, N3, .refl _, i + 1, es', c', mput m g.log[i].stamp (.int .i64 1), by simp, ?_, ?_, ?_, ?_, hmo', by rw [htk]; exact stampM_app hst, by omega, rfl, fun q hq hqi => ?_⟩
    ·rw [hN3, hN2]; exact Sub.wr (Sub.wr (sM'.trans sN) nBr) nB6
    ·rw [hN3, qG jne.1, hN2, qG jne.2.1]; exact m3N
    ·rw [hN3, qG jne.2.2, hN2]; exact qN mrN
    ·rw [hN3]; exact qN m6N2
    ·by_cases e : q = i
     ·subst e
      exact ⟨hq1.1 rfl, hq2.1 rfl, hq3.1 rfl, hq5.1 rfl, hq6.1 rfl, hq7.1 rfl, hnos, hlt⟩
     ·exact hok q hq (by omega)
  ·have hil : i = g.log.length := by omega
   subst hil
   rw [List.take_length] at *
   have rd6 : qQ M' j6 0 3 = some (fl eI (lastA g.log)) := qU m6' rfl
   obtain ⟨w1, w2⟩ := ret3 M' (lastA g.log) rfl m3'
   refine qY _ (Sub.refl _) ?_
   simp only [wk, seval, rd6, hl3, ho3, w1, w2, Sub.refl M']
   exact .of (kyes ⟨by omega, fun q hq => hok q hq hq⟩ rr es c m _ (sB.trans (sub3 _ _ sM')) (by rw [qG (Ne.symm jne.2.1)]; exact mr') hmo hst)
end Go.Proofs.YtgbapakcfmgahaaGreatDoor
end

section
namespace Go.Tk
open Go
section
variable {P : Program} {rest : H} {ρ : (Nat -> Value) -> Operand -> Value} {D : H -> (Nat -> Value) -> Prop} {q : H -> Value -> Prop}
theorem aF_on {t : Nat} {w : Bool} {i : I} (k : ∀ f g, D g f -> ρ f (.tmp t) = .bool w) (s : stA P mG q rest ρ D i) : stG P mG q rest ρ D (some (t, w)) i := fun m f h g hm hs hd => by
 have : wantR (ρ f) (some (t, w)) = true := by simp only [wantR, k f g hd, isB, beq_self_eq_true]
 rw [if_pos this]
 exact s m f h g hm hs hd
theorem aF_off {t : Nat} {w : Bool} {i : I} (k : ∀ f g, D g f -> ρ f (.tmp t) = .bool (!w)) (hq : ∀ g, q g undef) : stG P mG q rest ρ D (some (t, w)) i := fun m f h g hm hs hd => by
 have : wantR (ρ f) (some (t, w)) = false := by simp only [wantR, k f g hd, isB]; cases w <;> rfl
 rw [if_neg (by rw [this]; simp)]
 exact ⟨g, hm, Sub.refl _, hq g⟩
theorem aF_bin {op : BinOp} {t : TypeId} {x y : Operand} (k : ∀ f g, Sub rest g -> D g f -> ∃ (a b : Int) (v : Value), ρ f x = .int .i64 a /\ ρ f y = .int .i64 b /\ intBin op .i64 a b = some v /\ q g v) : stA P mG q rest ρ D (.bin op t x y) := fun m f h g hm hs hd => by
 obtain ⟨a, b, v, e1, e2, hv, hq⟩ := k f g hs hd
 show vop _ _ _ _ _ _
 unfold vop
 simp only [e1, e2, hv]
 exact ⟨.inl trivial, g, hm, Sub.refl _, hq⟩
theorem aF_idx {x i : Operand} {sz : Nat} {V : Value} {n : Int} {p : Value} (hx : ∀ (kd : IntKind) (F : Value -> Prop), idxSK V (.int kd n) sz F = F p) (k : ∀ f g, Sub rest g -> D g f -> ρ f x = V /\ ρ f i = .int .i64 n /\ q g p) : stA P mG q rest ρ D (.idxS x i sz) := fun m f h g hm hs hd => by
 obtain ⟨e1, e2, hq⟩ := k f g hs hd
 show vop _ _ _ _ _ _
 rw [vop_idxS, e1, e2, hx]
 exact ⟨g, hm, Sub.refl _, hq⟩
theorem aF_row {α : Type} {enc : α -> List Value} {sz : Nat} (he : ∀ a, (enc a).length = sz) {e n : Nat} {z : List Value} {L : List α} {ps : List (Nat × Nat × Operand)} (hn : L.length = n) (k : ∀ f g, Sub rest g -> D g f -> fillL (zrep z n) (ps.map fun p => (p.1, p.2.1, qV (ρ f p.2.2))) = some (fl enc L)) :
  stA P mG (aS rest e enc sz L) rest ρ D (.bslice e z n ps) := fun m f h g hm hs hd => by
 have hf := k f g hs hd
 show vop _ _ _ _ _ _
 unfold vop
 simp only [hf]
 intro j hj
 have hjg : hget g j = none := Sub.none' hm hj
 refine ⟨(j, blk (fl enc L) e) :: g, Sub.cons2 hm, Sub.cons hjg (Sub.refl _), [(j, blk (fl enc L) e)], ?_, Sub.cons2 (Sub.nil _), Dj.one (hs.none' hjg)⟩
 have := oLs_new (e := e) (j := j) (l := L) he
 rw [hn] at this; exact this
theorem aF_call2 {F : FuncId} {xs : List Operand} (k : ∀ f g, Sub rest g -> D g f -> ∀ h, Sub g h -> HCalls P F (xs.map (ρ f)).toArray h fun e h' => ∃ v, e = .returned v /\ ∃ g', Sub g' h' /\ Sub g g' /\ q g' v) : stA P mG q rest ρ D (.call F xs) := fun m f h g hm hs hd => by
 show HCalls P F (xs.map (ρ f)).toArray h _
 refine HCalls.mono (k f g hs hd h hm) fun e h' hx => ?_
 obtain ⟨v, rfl, g', s1, s2, hq⟩ := hx
 exact ⟨g', s1, s2, hq⟩
end
theorem usedN_more {l : List DWay} {i : Nat} (h : i < l.length) (s : Int) : usedN (l.take (i + 1)) s = usedN (l.take i) s + if l[i].house = s then 1 else 0 := by
 unfold usedN
 rw [List.take_succ_eq_append_getElem h, List.countP_append, List.countP_singleton]
 simp only [decide_eq_true_eq]
theorem usedN_take (l : List DWay) (i : Nat) (s : Int) : usedN (l.take i) s <= usedN l s := by
 unfold usedN
 have := List.countP_append (p := fun w : DWay => decide (w.house = s)) (l₁ := l.take i) (l₂ := l.drop i)
 rw [List.take_append_drop] at this; omega
def cntA (l : List DWay) : List Int := [(usedN l 0 : Int), (usedN l 1 : Int), (usedN l 2 : Int)]
theorem cntA_at (l : List DWay) {s : Int} (h : 0 <= s /\ s <= 2) (hi : s.toNat < (cntA l).length) : (cntA l)[s.toNat] = (usedN l s : Int) := by
 have : s = 0 ∨ s = 1 ∨ s = 2 := by omega
 rcases this with rfl | rfl | rfl <;> rfl
theorem cntA_more {l : List DWay} {i : Nat} (hi : i < l.length) (h : 0 <= l[i].house /\ l[i].house <= 2) : (cntA (l.take i)).set l[i].house.toNat ((usedN (l.take i) l[i].house : Int) + 1) = cntA (l.take (i + 1)) := by
 have : l[i].house = 0 ∨ l[i].house = 1 ∨ l[i].house = 2 := by omega
 unfold cntA
 simp only [usedN_more hi]
 rcases this with e | e | e <;> simp [e]
end Go.Tk
end

section
set_option maxRecDepth 20000
attribute [local irreducible] Go.Tk.vc Go.Tk.vops Go.Tk.vdr Go.Tk.vop Go.Tk.vfl Go.Tk.HCalls
namespace Go.Proofs.YtgbapakcfmgahaaGreatDoor
open Go Go.Tk
set_option maxHeartbeats 4000000 in
theorem waysOk_c {h : H} {g : DGate} {lg lv wy : Value} (r : sGate h g lg lv wy) (b1 : g.lives.length <= 1048576) (b2 : g.ways.length <= 1048576) (hris : risP (·.stamp) g.lives) {R : Ending -> H -> Prop} (k : Asks R (waysP g.lives g.ways) h) :
  HCalls Tryz.prog 61 #[.agg (cGate g lg lv wy).toArray] h R := by
 refine qB (args := [.agg (cGate g lg lv wy).toArray]) Tryz.func61 ir61 ?_
 simp only [wk, seval, zB]
 refine qA (o := blk (cGate g lg lv wy) 34) fun j1 h1 => ?_
 simp only [wk, seval, zB]
 have z3 : [Value.int .i64 0, .int .i64 0, .int .i64 0] = fl eI (cntA []) := rfl
 simp only [z3]
 refine qA (o := blk (fl eI (cntA [])) 113) fun j3 h3 => ?_
 obtain ⟨B, hB⟩ : ∃ B, B = (j1, blk (cGate g lg lv wy) 34) :: h := ⟨_, rfl⟩
 have sB : Tk.Sub h B := by rw [hB]; exact Sub.cons h1 (Sub.refl _)
 have gB : hget B j1 = some (blk (cGate g lg lv wy) 34) := by rw [hB]; exact qL _ _ _
 rw [<- hB] at h3 ⊢
 have nB3 := h3
 obtain ⟨M, hM⟩ : ∃ M, M = (j3, blk (fl eI (cntA [])) 113) :: B := ⟨_, rfl⟩
 have m3 : hget M j3 = some (blk (fl eI (cntA [])) 113) := by rw [hM]; exact qL _ _ _
 have sM : Tk.Sub B M := by rw [hM]; exact Sub.cons nB3 (Sub.refl _)
 have hc5 : ∀ {N : H}, Tk.Sub B N -> hcel N j1 5 = some wy := fun s => qH (s _ _ gB) rfl
 have zw := zWay_eq
 rw [<- hM]
 simp only [wk, seval, hc5 sM, r.2.2.len]
 refine qS [11] (fun n vs M' => ∃ (i : Nat), vs = [.int .i64 i] /\ Tk.Sub B M' /\ hget M' j3 = some (blk (fl eI (cntA (g.ways.take i))) 113) /\ i <= g.ways.length /\ n = g.ways.length - i /\ (∀ w ∈ g.ways.take i, zO w.house /\ (∃ x, liveOf g.lives w.stamp = some x /\ x.phase ≠ 0)) /\ (∀ s, usedN (g.ways.take i) s <= 2) /\
   ∀ q (hq : q + 1 < g.ways.length), q + 1 < i -> wayLt (g.ways[q]'(by omega)) g.ways[q + 1]) g.ways.length rfl
  ⟨0, rfl, sM, by simpa using m3, by omega, rfl, by simp, fun s => by simp [usedN], by simp⟩ ?_
 rintro n f M' ⟨i, hv, sM', m3', hi, rfl, hall, hcnt, hlt⟩
 simp only [lm4] at hv
 simp only [wk, seval, wr, hv]
 refine qF (fun c1 => ?_) fun c1 => ?_
 ·have hi2 : i < g.ways.length := by omega
  have rw' := r.2.2.sub (sB.trans sM')
  obtain ⟨b, o, hx, e⟩ := ls_at (enc := cWay) (sz := 2) (fun _ => rfl) rw' hi2
  simp only [wk, seval, hx, e, wWay, zw]
  refine qA (o := blk (cWay zWay) 108) fun j5 hj5 => ?_
  obtain ⟨N, hN⟩ : ∃ N, N = (j5, blk (cWay g.ways[i]) 108) :: M' := ⟨_, rfl⟩
  have sN : Tk.Sub M' N := by rw [hN]; exact Sub.cons hj5 (Sub.refl _)
  have gN : hget N j5 = some (blk (cWay g.ways[i]) 108) := by rw [hN]; exact qL _ _ _
  have w0N : hcel N j5 0 = some (.int .i64 g.ways[i].house) := qH gN rfl
  have w1N : hcel N j5 1 = some (.int .i64 g.ways[i].stamp) := qH gN rfl
  have m3N := sN _ _ m3'
  have rN := rw'.sub sN
  have c5N := hc5 (sM'.trans sN)
  have s0 : Tk.Sub h N := sB.trans (sM'.trans sN)
  simp only [wk, seval, wWay, zw, <- hN, w0N]
  refine isHouse_c fun q1 hq1 => ?_
  cases q1 with
  | false =>
   simp only [wk, seval]
   exact k.dno s0 fun p => zG hq1 rfl (p.1 _ (List.getElem_mem hi2)).1
  | true =>
  simp only [wk, seval]
  by_cases hi0 : i = 0
  ·have hord : ∀ (hq : 0 < i), wayLt (g.ways[i - 1]'(by omega)) g.ways[i] := fun hq => absurd hq (by omega)
   refine vc_anyR mG [aV (.int .i64 i), aV (.bool false), aV (.bool false)] N ?_ (Sub.refl _) rfl fun ρ hi' ho hc => ?_
   ·repeat' first | exact fun _ h => absurd h List.not_mem_nil | refine List.forall_mem_cons.2 ⟨?_, ?_⟩ | exact aMono_V _
   simp only [anysR, andr, maps, lists, plain, Nat.reduceAdd]
   refine ⟨aF_mov fun f g _ _ => ho f 4 rfl, aF_bin fun f g _ hd => ⟨i, 0, .bool false, (hi' f 20 rfl).trans hd, hc f _, by simp [intBin, hi0], rfl⟩, aF_mov fun f g _ hd => (hi' f 21 rfl).trans hd,
    aF_off (fun f g hd => (hi' f 22 rfl).trans (by first | exact hd | exact hd.2 | exact hd.2.2 | exact hd.2.2.1)) fun _ => trivial,
    aF_off (fun f g hd => (hi' f 22 rfl).trans (by first | exact hd | exact hd.2 | exact hd.2.2 | exact hd.2.2.1)) fun _ => trivial,
    aF_off (fun f g hd => (hi' f 22 rfl).trans (by first | exact hd | exact hd.2 | exact hd.2.2 | exact hd.2.2.1)) fun _ => trivial,
    aF_off (fun f g hd => (hi' f 22 rfl).trans (by first | exact hd | exact hd.2 | exact hd.2.2 | exact hd.2.2.1)) fun _ => trivial,
    aF_off (fun f g hd => (hi' f 22 rfl).trans (by first | exact hd | exact hd.2 | exact hd.2.2 | exact hd.2.2.1)) fun _ => trivial,
    aF_off (fun f g hd => (hi' f 22 rfl).trans (by first | exact hd | exact hd.2 | exact hd.2.2 | exact hd.2.2.1)) fun _ => trivial,
    aF_off (fun f g hd => (hi' f 22 rfl).trans (by first | exact hd | exact hd.2 | exact hd.2.2 | exact hd.2.2.1)) fun _ => trivial,
    aF_off (fun f g hd => (hi' f 22 rfl).trans (by first | exact hd | exact hd.2 | exact hd.2.2 | exact hd.2.2.1)) fun _ => trivial,
    aF_off (fun f g hd => (hi' f 22 rfl).trans (by first | exact hd | exact hd.2 | exact hd.2.2 | exact hd.2.2.1)) fun _ => trivial,
    aF_off (fun f g hd => (hi' f 22 rfl).trans (by first | exact hd | exact hd.2 | exact hd.2.2 | exact hd.2.2.1)) fun _ => trivial,
    aF_off (fun f g hd => (hi' f 22 rfl).trans (by first | exact hd | exact hd.2 | exact hd.2.2 | exact hd.2.2.1)) fun _ => trivial,
    aF_off (fun f g hd => (hi' f 22 rfl).trans (by first | exact hd | exact hd.2 | exact hd.2.2 | exact hd.2.2.1)) fun _ => trivial,
    aF_off (fun f g hd => (hi' f 22 rfl).trans (by first | exact hd | exact hd.2 | exact hd.2.2 | exact hd.2.2.1)) fun _ => trivial,
    aF_off (fun f g hd => (hi' f 22 rfl).trans (by first | exact hd | exact hd.2 | exact hd.2.2 | exact hd.2.2.1)) fun _ => trivial,
    aF_off (fun f g hd => (hi' f 22 rfl).trans (by first | exact hd | exact hd.2 | exact hd.2.2 | exact hd.2.2.1)) fun _ => trivial,
    aF_off (fun f g hd => (hi' f 22 rfl).trans (by first | exact hd | exact hd.2 | exact hd.2.2 | exact hd.2.2.1)) fun _ => trivial,
    aF_off (fun f g hd => (hi' f 22 rfl).trans (by first | exact hd | exact hd.2 | exact hd.2.2 | exact hd.2.2.1)) fun _ => trivial,
    aF_off (fun f g hd => (hi' f 22 rfl).trans (by first | exact hd | exact hd.2 | exact hd.2.2 | exact hd.2.2.1)) fun _ => trivial,
    aF_off (fun f g hd => (hi' f 22 rfl).trans (by first | exact hd | exact hd.2 | exact hd.2.2 | exact hd.2.2.1)) fun _ => trivial,
    aF_off (fun f g hd => (hi' f 22 rfl).trans (by first | exact hd | exact hd.2 | exact hd.2.2 | exact hd.2.2.1)) fun _ => trivial,
    aF_off (fun f g hd => (hi' f 22 rfl).trans (by first | exact hd | exact hd.2 | exact hd.2.2 | exact hd.2.2.1)) fun _ => trivial,
    aF_off (fun f g hd => (hi' f 22 rfl).trans (by first | exact hd | exact hd.2 | exact hd.2.2 | exact hd.2.2.1)) fun _ => trivial, ?_⟩
   intro m2 f2 h2 g2 hm hs2 hd
   have e22 := (hi' f2 22 rfl).trans hd.2.2.1
   refine ⟨N, hs2.trans hm, ?_⟩
   have e22' : f2 22 = .bool false := hd.2.2.1
   have hcf := hc f2 (.bool false)
   simp only [wk, seval, wr, e22, e22', hcf]
   try simp only [wk, seval, w0N]
   have hh : 0 <= g.ways[i].house /\ g.ways[i].house <= 2 := hq1.1 rfl
   have hcl : g.ways[i].house.toNat < (cntA (g.ways.take i)).length := by show _ < 3; omega
   have pl : hcel N j3 g.ways[i].house.toNat = some (.int .i64 (usedN (g.ways.take i) g.ways[i].house)) := by
    rw [<- cntA_at _ hh hcl]; exact qH m3N (flI_at hcl)
   have hus : usedN (g.ways.take i) g.ways[i].house <= i := Nat.le_trans List.countP_le_length (by rw [List.length_take]; omega)
   refine ⟨⟨by omega, by omega⟩, ?_⟩
   simp (disch := omega) only [wk, seval, pl, qI]
   refine ⟨⟨by omega, by omega⟩, ?_⟩
   obtain ⟨N2, hN2⟩ : ∃ N2, N2 = hupd N j3 (blk (fl eI (cntA (g.ways.take (i + 1)))) 113) := ⟨_, rfl⟩
   have wt : qT N j3 g.ways[i].house.toNat [.int .i64 ((usedN (g.ways.take i) g.ways[i].house : Int) + 1)] = some N2 := by
    rw [zH (j := g.ways[i].house.toNat) (vs := [.int .i64 ((usedN (g.ways.take i) g.ways[i].house : Int) + 1)]) m3N (by rw [fl_len zC]; show _ <= 3 * 1; simp only [List.length_singleton]; omega), hN2, <- cntA_more hi2 hh]
    have : g.ways[i].house = 0 ∨ g.ways[i].house = 1 ∨ g.ways[i].house = 2 := by omega
    rcases this with e | e | e <;> rw [e] <;> rfl
   have j53 : j5 ≠ j3 := fun e => by rw [e, m3'] at hj5; cases hj5
   have sBN2 : Tk.Sub B N2 := by rw [hN2]; exact Sub.wr (sM'.trans sN) nB3
   have gN2 : hget N2 j5 = some (blk (cWay g.ways[i]) 108) := by rw [hN2, qG j53]; exact gN
   have x0 : hcel N2 j5 0 = some (.int .i64 g.ways[i].house) := qH gN2 rfl
   have x1 : hcel N2 j5 1 = some (.int .i64 g.ways[i].stamp) := qH gN2 rfl
   have x4 : hcel N2 j1 4 = some lv := qH (sBN2 _ _ gB) rfl
   have m3N2 : hget N2 j3 = some (blk (fl eI (cntA (g.ways.take (i + 1)))) 113) := by rw [hN2]; exact qN m3N
   have hcl2 : g.ways[i].house.toNat < (cntA (g.ways.take (i + 1))).length := by show _ < 3; omega
   have pl2 : hcel N2 j3 g.ways[i].house.toNat = some (.int .i64 (usedN (g.ways.take (i + 1)) g.ways[i].house)) := by
    rw [<- cntA_at _ hh hcl2]; exact qH m3N2 (flI_at hcl2)
   have sh2 : Tk.Sub h N2 := sB.trans sBN2
   simp only [wk, seval, wt, x4, x1]
   refine placeLive_c ((r.2.1.subH sh2).relImp fun _ _ x => rLive.sub sh2 x) (by omega) hris fun p has hp hyes hnos => ?_
   simp only [wk, seval, x4]
   have no : ¬ (zO g.ways[i].house /\ (∃ x, liveOf g.lives g.ways[i].stamp = some x /\ x.phase ≠ 0) /\ usedN g.ways g.ways[i].house <= 2) -> ¬ waysP g.lives g.ways := fun q p => q (p.1 _ (List.getElem_mem hi2))
   cases has with
   | false =>
    simp only [wk, seval]
    exact k.dno sh2 (no fun q => by obtain ⟨_, ⟨y, hy, _⟩, _⟩ := q; rw [hnos rfl] at hy; cases hy)
   | true =>
   obtain ⟨hp2, hlo⟩ := hyes rfl
   obtain ⟨bq, oq, csq, hxq, eq, a1q, a2q, rfl, srq⟩ := zU (r.2.1.subH sh2) hp2
   have yq : hcel N2 bq (oq + 3) = some (.int .i64 g.lives[p].phase) := qW eq 3 rfl
   simp only [wk, seval, hxq, yq, x4, reduceCtorEq]
   refine qZ (fun c5 => ?_) fun c5 => ?_
   ·try simp only [wk, seval]
    exact k.dno sh2 (no fun q => by obtain ⟨_, ⟨y, hy, hy2⟩, _⟩ := q; rw [hlo] at hy; cases hy; exact hy2 c5)
   try simp only [wk, seval, x0]
   refine ⟨⟨by omega, by omega⟩, ?_⟩
   simp only [wk, seval, pl2]
   have hut := usedN_take g.ways (i + 1) g.ways[i].house
   refine qF (fun c6 => ?_) fun c6 => ?_
   ·exact k.dno sh2 (no fun q => by have := q.2.2; omega)
   have hus2 := usedN_more hi2
   simp (disch := omega) only [wk, seval, qI]
   refine ⟨g.ways.length - (i + 1), by omega, N2, .refl _, i + 1, by simp, sBN2, m3N2, by omega, rfl, fun w hw => ?_, fun s => ?_, fun q hq hq2 => ?_⟩
   ·rw [List.take_succ_eq_append_getElem hi2] at hw
    rcases List.mem_append.1 hw with hw | hw
    ·exact hall w hw
    ·rw [List.mem_singleton.1 hw]; exact ⟨hh, _, hlo, c5⟩
   ·by_cases e : g.ways[i].house = s
    ·subst e; omega
    ·have := hus2 s
     rw [if_neg e] at this
     have := hcnt s
     omega
   ·by_cases e : q + 1 = i
    ·subst e; exact hord (by omega)
    ·exact hlt q hq (by omega)
  ·have hi3 : i - 1 < g.ways.length := by omega
   obtain ⟨b3, o3, hx3, e3⟩ := ls_at (enc := cWay) (sz := 2) (fun _ => rfl) rN hi3
   have y0 : hcel N b3 o3 = some (.int .i64 g.ways[i - 1].house) := by have := qW e3 0 rfl; rw [Nat.add_zero] at this; exact this
   have y1 : hcel N b3 (o3 + 1) = some (.int .i64 g.ways[i - 1].stamp) := qW e3 1 rfl
   have hw3 : IntKind.i64.wrap ((i : Int) - 1) = ((i - 1 : Nat) : Int) := by rw [qI _ ⟨by omega, by omega⟩]; omega
   obtain ⟨C, hC⟩ : ∃ C : Int, C = if g.ways[i - 1].house = g.ways[i].house then cmpI g.ways[i - 1].stamp g.ways[i].stamp else cmpI g.ways[i - 1].house g.ways[i].house := ⟨_, rfl⟩
   have hCl : C < 0 ↔ wayLt g.ways[i - 1] g.ways[i] := by
    rw [hC]; unfold wayLt
    split
    ·rename_i e; rw [cmpI_lt]; omega
    ·rename_i e; rw [cmpI_lt]; omega
   refine vc_anyR mG [aV (.int .i64 i), aV (.bool true), aV (.bool true), aV (.pointer (some ⟨j1, 5, none⟩)), aV wy, aV (.int .i64 i), aV (.int .i64 ((i - 1 : Nat) : Int)), aV (.pointer (some ⟨b3, o3, none⟩)), aV (.pointer (some ⟨b3, o3, none⟩)), aV (.int .i64 g.ways[i - 1].house), aV (.pointer (some ⟨j1, 5, none⟩)), aV wy, aV (.int .i64 i), aV (.int .i64 ((i - 1 : Nat) : Int)), aV (.pointer (some ⟨b3, o3, none⟩)), aV (.pointer (some ⟨b3, o3 + 1, none⟩)), aV (.int .i64 g.ways[i - 1].stamp), aS N 3 eI 1 [g.ways[i - 1].house, g.ways[i - 1].stamp], aV (.pointer (some ⟨j5, 0, none⟩)), aV (.int .i64 g.ways[i].house), aV (.pointer (some ⟨j5, 1, none⟩)), aV (.int .i64 g.ways[i].stamp), aS N 3 eI 1 [g.ways[i].house, g.ways[i].stamp], aV (.int .i64 C), aV (.bool (decide (0 <= C)))] N ?_ (Sub.refl _) rfl fun ρ hi' ho hc => ?_
   ·repeat' first | exact fun _ h => absurd h List.not_mem_nil | refine List.forall_mem_cons.2 ⟨?_, ?_⟩ | exact aMono_V _ | exact aMono_S _ _ _ _ _
   simp only [anysR, andr, maps, lists, plain, Nat.reduceAdd]
   refine ⟨aF_mov fun f g _ _ => ho f 4 rfl,
    aF_bin fun f g _ hd => ⟨i, 0, .bool true, (hi' f 20 rfl).trans hd, hc f _, by simp [intBin]; omega, rfl⟩,
    aF_mov fun f g _ hd => (hi' f 21 rfl).trans hd,
    aF_on (fun f g hd => (hi' f 22 rfl).trans (by first | exact hd | exact hd.2 | exact hd.2.2 | exact hd.2.2.1)) (aF_fld fun f g _ _ => ⟨j1, 0, ho f 1 rfl, rfl⟩),
    aF_on (fun f g hd => (hi' f 22 rfl).trans (by first | exact hd | exact hd.2 | exact hd.2.2 | exact hd.2.2.1)) (aF_load fun f g hs hd => ⟨j1, 5, _, (hi' f 23 rfl).trans hd.1, zT hs c5N, rfl⟩),
    aF_on (fun f g hd => (hi' f 22 rfl).trans (by first | exact hd | exact hd.2 | exact hd.2.2 | exact hd.2.2.1)) (aF_mov fun f g _ _ => ho f 4 rfl),
    aF_on (fun f g hd => (hi' f 22 rfl).trans (by first | exact hd | exact hd.2 | exact hd.2.2 | exact hd.2.2.1)) (aF_bin fun f g _ hd => ⟨i, 1, _, (hi' f 25 rfl).trans hd.1, hc f _, rfl, congrArg (Value.int .i64) hw3⟩),
    aF_on (fun f g hd => (hi' f 22 rfl).trans (by first | exact hd | exact hd.2 | exact hd.2.2 | exact hd.2.2.1)) (aF_idx (n := ((i - 1 : Nat) : Int)) hx3 fun f g _ hd => ⟨(hi' f 24 rfl).trans hd.1, (hi' f 26 rfl).trans hd.2.1, rfl⟩),
    aF_on (fun f g hd => (hi' f 22 rfl).trans (by first | exact hd | exact hd.2 | exact hd.2.2 | exact hd.2.2.1)) (aF_fld fun f g _ hd => ⟨b3, o3, (hi' f 27 rfl).trans hd.1, rfl⟩),
    aF_on (fun f g hd => (hi' f 22 rfl).trans (by first | exact hd | exact hd.2 | exact hd.2.2 | exact hd.2.2.1)) (aF_load fun f g hs hd => ⟨b3, o3, _, (hi' f 28 rfl).trans hd.1, zT hs y0, rfl⟩),
    aF_on (fun f g hd => (hi' f 22 rfl).trans (by first | exact hd | exact hd.2 | exact hd.2.2 | exact hd.2.2.1)) (aF_fld fun f g _ _ => ⟨j1, 0, ho f 1 rfl, rfl⟩),
    aF_on (fun f g hd => (hi' f 22 rfl).trans (by first | exact hd | exact hd.2 | exact hd.2.2 | exact hd.2.2.1)) (aF_load fun f g hs hd => ⟨j1, 5, _, (hi' f 30 rfl).trans hd.1, zT hs c5N, rfl⟩),
    aF_on (fun f g hd => (hi' f 22 rfl).trans (by first | exact hd | exact hd.2 | exact hd.2.2 | exact hd.2.2.1)) (aF_mov fun f g _ _ => ho f 4 rfl),
    aF_on (fun f g hd => (hi' f 22 rfl).trans (by first | exact hd | exact hd.2 | exact hd.2.2 | exact hd.2.2.1)) (aF_bin fun f g _ hd => ⟨i, 1, _, (hi' f 32 rfl).trans hd.1, hc f _, rfl, congrArg (Value.int .i64) hw3⟩),
    aF_on (fun f g hd => (hi' f 22 rfl).trans (by first | exact hd | exact hd.2 | exact hd.2.2 | exact hd.2.2.1)) (aF_idx (n := ((i - 1 : Nat) : Int)) hx3 fun f g _ hd => ⟨(hi' f 31 rfl).trans hd.1, (hi' f 33 rfl).trans hd.2.1, rfl⟩),
    aF_on (fun f g hd => (hi' f 22 rfl).trans (by first | exact hd | exact hd.2 | exact hd.2.2 | exact hd.2.2.1)) (aF_fld fun f g _ hd => ⟨b3, o3, (hi' f 34 rfl).trans hd.1, rfl⟩),
    aF_on (fun f g hd => (hi' f 22 rfl).trans (by first | exact hd | exact hd.2 | exact hd.2.2 | exact hd.2.2.1)) (aF_load fun f g hs hd => ⟨b3, o3 + 1, _, (hi' f 35 rfl).trans hd.1, zT hs y1, rfl⟩),
    aF_on (fun f g hd => (hi' f 22 rfl).trans (by first | exact hd | exact hd.2 | exact hd.2.2 | exact hd.2.2.1)) (aF_row (n := 2) zC rfl fun f g _ hd => (by simp only [maps, (hi' f 29 rfl).trans hd.1, (hi' f 36 rfl).trans hd.2.1]; rfl)),
    aF_on (fun f g hd => (hi' f 22 rfl).trans (by first | exact hd | exact hd.2 | exact hd.2.2 | exact hd.2.2.1)) (aF_fld fun f g _ _ => ⟨j5, 0, ho f 5 rfl, rfl⟩),
    aF_on (fun f g hd => (hi' f 22 rfl).trans (by first | exact hd | exact hd.2 | exact hd.2.2 | exact hd.2.2.1)) (aF_load fun f g hs hd => ⟨j5, 0, _, (hi' f 38 rfl).trans hd.1, zT hs w0N, rfl⟩),
    aF_on (fun f g hd => (hi' f 22 rfl).trans (by first | exact hd | exact hd.2 | exact hd.2.2 | exact hd.2.2.1)) (aF_fld fun f g _ _ => ⟨j5, 0, ho f 5 rfl, rfl⟩),
    aF_on (fun f g hd => (hi' f 22 rfl).trans (by first | exact hd | exact hd.2 | exact hd.2.2 | exact hd.2.2.1)) (aF_load fun f g hs hd => ⟨j5, 1, _, (hi' f 40 rfl).trans hd.1, zT hs w1N, rfl⟩),
    aF_on (fun f g hd => (hi' f 22 rfl).trans (by first | exact hd | exact hd.2 | exact hd.2.2 | exact hd.2.2.1)) (aF_row (n := 2) zC rfl fun f g _ hd => (by simp only [maps, (hi' f 39 rfl).trans hd.1, (hi' f 41 rfl).trans hd.2.1]; rfl)),
    aF_on (fun f g hd => (hi' f 22 rfl).trans (by first | exact hd | exact hd.2 | exact hd.2.2 | exact hd.2.2.1)) (aF_call2 fun f g hs hd h hg => (by obtain ⟨G1, a1, s1, _⟩ := hd.1; obtain ⟨G2, a2, s2, _⟩ := hd.2.1; simp only [maps, hi' f 37 rfl, hi' f 42 rfl]; exact compareS_c (a1.rd.sub (s1.trans hg)) (a2.rd.sub (s2.trans hg)) ⟨_, rfl, g, hg, Sub.refl _, congrArg (Value.int .i64) hC.symm⟩)),
    aF_on (fun f g hd => (hi' f 22 rfl).trans (by first | exact hd | exact hd.2 | exact hd.2.2 | exact hd.2.2.1)) (aF_bin fun f g _ hd => ⟨C, 0, _, (hi' f 43 rfl).trans hd.1, hc f _, rfl, by simp only [aV, ge_iff_le]⟩), ?_⟩
   intro m2 f2 h2 g2 hm hs2 hd
   have e22' : f2 22 = .bool true := hd.2.2.1
   have e44' : f2 44 = .bool (decide (0 <= C)) := hd.2.2.2.2.2.2.2.2.2.2.2.2.2.2.2.2.2.2.2.2.2.2.2.2
   have e22 := (hi' f2 22 rfl).trans e22'
   have e44 := (hi' f2 44 rfl).trans e44'
   refine ⟨N, hs2.trans hm, ?_⟩
   simp only [wk, seval, wr, e22, e22', e44, e44']
   refine qZ (fun c9 => ?_) fun c9 => ?_
   ·try simp only [wk, seval]
    refine k.dno s0 fun p => ?_
    have e : i - 1 + 1 = i := by omega
    have := p.2 (i - 1) (by omega)
    simp only [e] at this
    have := hCl.2 this
    omega
   ·have hord : ∀ (hq : 0 < i), wayLt (g.ways[i - 1]'(by omega)) g.ways[i] := fun _ => hCl.1 (by omega)
    try simp only [wk, seval]
    try simp only [wk, seval, w0N]
    have hh : 0 <= g.ways[i].house /\ g.ways[i].house <= 2 := hq1.1 rfl
    have hcl : g.ways[i].house.toNat < (cntA (g.ways.take i)).length := by show _ < 3; omega
    have pl : hcel N j3 g.ways[i].house.toNat = some (.int .i64 (usedN (g.ways.take i) g.ways[i].house)) := by
     rw [<- cntA_at _ hh hcl]; exact qH m3N (flI_at hcl)
    have hus : usedN (g.ways.take i) g.ways[i].house <= i := Nat.le_trans List.countP_le_length (by rw [List.length_take]; omega)
    refine ⟨⟨by omega, by omega⟩, ?_⟩
    simp (disch := omega) only [wk, seval, pl, qI]
    refine ⟨⟨by omega, by omega⟩, ?_⟩
    obtain ⟨N2, hN2⟩ : ∃ N2, N2 = hupd N j3 (blk (fl eI (cntA (g.ways.take (i + 1)))) 113) := ⟨_, rfl⟩
    have wt : qT N j3 g.ways[i].house.toNat [.int .i64 ((usedN (g.ways.take i) g.ways[i].house : Int) + 1)] = some N2 := by
     rw [zH (j := g.ways[i].house.toNat) (vs := [.int .i64 ((usedN (g.ways.take i) g.ways[i].house : Int) + 1)]) m3N (by rw [fl_len zC]; show _ <= 3 * 1; simp only [List.length_singleton]; omega), hN2, <- cntA_more hi2 hh]
     have : g.ways[i].house = 0 ∨ g.ways[i].house = 1 ∨ g.ways[i].house = 2 := by omega
     rcases this with e | e | e <;> rw [e] <;> rfl
    have j53 : j5 ≠ j3 := fun e => by rw [e, m3'] at hj5; cases hj5
    have sBN2 : Tk.Sub B N2 := by rw [hN2]; exact Sub.wr (sM'.trans sN) nB3
    have gN2 : hget N2 j5 = some (blk (cWay g.ways[i]) 108) := by rw [hN2, qG j53]; exact gN
    have x0 : hcel N2 j5 0 = some (.int .i64 g.ways[i].house) := qH gN2 rfl
    have x1 : hcel N2 j5 1 = some (.int .i64 g.ways[i].stamp) := qH gN2 rfl
    have x4 : hcel N2 j1 4 = some lv := qH (sBN2 _ _ gB) rfl
    have m3N2 : hget N2 j3 = some (blk (fl eI (cntA (g.ways.take (i + 1)))) 113) := by rw [hN2]; exact qN m3N
    have hcl2 : g.ways[i].house.toNat < (cntA (g.ways.take (i + 1))).length := by show _ < 3; omega
    have pl2 : hcel N2 j3 g.ways[i].house.toNat = some (.int .i64 (usedN (g.ways.take (i + 1)) g.ways[i].house)) := by
     rw [<- cntA_at _ hh hcl2]; exact qH m3N2 (flI_at hcl2)
    have sh2 : Tk.Sub h N2 := sB.trans sBN2
    simp only [wk, seval, wt, x4, x1]
    refine placeLive_c ((r.2.1.subH sh2).relImp fun _ _ x => rLive.sub sh2 x) (by omega) hris fun p has hp hyes hnos => ?_
    simp only [wk, seval, x4]
    have no : ¬ (zO g.ways[i].house /\ (∃ x, liveOf g.lives g.ways[i].stamp = some x /\ x.phase ≠ 0) /\ usedN g.ways g.ways[i].house <= 2) -> ¬ waysP g.lives g.ways := fun q p => q (p.1 _ (List.getElem_mem hi2))
    cases has with
    | false =>
     simp only [wk, seval]
     exact k.dno sh2 (no fun q => by obtain ⟨_, ⟨y, hy, _⟩, _⟩ := q; rw [hnos rfl] at hy; cases hy)
    | true =>
    obtain ⟨hp2, hlo⟩ := hyes rfl
    obtain ⟨bq, oq, csq, hxq, eq, a1q, a2q, rfl, srq⟩ := zU (r.2.1.subH sh2) hp2
    have yq : hcel N2 bq (oq + 3) = some (.int .i64 g.lives[p].phase) := qW eq 3 rfl
    simp only [wk, seval, hxq, yq, x4, reduceCtorEq]
    refine qZ (fun c5 => ?_) fun c5 => ?_
    ·try simp only [wk, seval]
     exact k.dno sh2 (no fun q => by obtain ⟨_, ⟨y, hy, hy2⟩, _⟩ := q; rw [hlo] at hy; cases hy; exact hy2 c5)
    try simp only [wk, seval, x0]
    refine ⟨⟨by omega, by omega⟩, ?_⟩
    simp only [wk, seval, pl2]
    have hut := usedN_take g.ways (i + 1) g.ways[i].house
    refine qF (fun c6 => ?_) fun c6 => ?_
    ·exact k.dno sh2 (no fun q => by have := q.2.2; omega)
    have hus2 := usedN_more hi2
    simp (disch := omega) only [wk, seval, qI]
    refine ⟨g.ways.length - (i + 1), by omega, N2, .refl _, i + 1, by simp, sBN2, m3N2, by omega, rfl, fun w hw => ?_, fun s => ?_, fun q hq hq2 => ?_⟩
    ·rw [List.take_succ_eq_append_getElem hi2] at hw
     rcases List.mem_append.1 hw with hw | hw
     ·exact hall w hw
     ·rw [List.mem_singleton.1 hw]; exact ⟨hh, _, hlo, c5⟩
    ·by_cases e : g.ways[i].house = s
     ·subst e; omega
     ·have := hus2 s
      rw [if_neg e] at this
      have := hcnt s
      omega
    ·by_cases e : q + 1 = i
     ·subst e; exact hord (by omega)
     ·exact hlt q hq (by omega)
 ·refine k.dyes (sB.trans sM') ⟨fun w hw => ?_, fun q hq => hlt q hq (by omega)⟩
  rw [List.take_of_length_le (by omega)] at hall
  have := hcnt w.house
  rw [List.take_of_length_le (by omega)] at this
  exact ⟨(hall w hw).1, (hall w hw).2, this⟩
end Go.Proofs.YtgbapakcfmgahaaGreatDoor
end
