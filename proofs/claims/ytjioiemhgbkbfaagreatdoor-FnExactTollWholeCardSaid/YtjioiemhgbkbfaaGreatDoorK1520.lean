/- Parts of the proof. -/
import Derived.Test.YtjioiemhgbkbfaaGreatDoorK155
import Derived.Test.YtjioiemhgbkbfaaGreatDoorK1519
import Derived.Test.YtjioiemhgbkbfaaGreatDoorK1518
import Derived.Test.YtjioiemhgbkbfaaGreatDoorK1513
set_option maxHeartbeats 4000000
set_option maxRecDepth 100000
set_option linter.unusedVariables false
set_option linter.unusedSimpArgs false
set_option linter.defProp false
attribute [local irreducible] Go.Tk.vc Go.Tk.vops Go.Tk.vdr Go.Tk.vop Go.Tk.vfl Go.Tk.HCalls
section
namespace Go.Proofs.YtjioiemhgbkbfaaGreatDoor
open Go Go.Tk
theorem qSI {h : H} {d : DWork} {v : Value} (r : sWork h d v) (hb : d.slots.length <= 1099511627776) {R : Ending -> H -> Prop} (k : Asks R (qLG d) h) : HCalls Tryz.prog 162 #[.agg (zT d v).toArray] h R := by
 refine qD lite (args := [.agg (zT d v).toArray]) Tryz.func162 ?_
 conv => arg 2; cbv
 simp only [wK, seval, vV]
 refine qC (o := blk (zT d v) 168) fun j1 h1 => ?_
 obtain ⟨M, hM⟩ : ∃ M, M = (j1, blk (zT d v) 168) :: h := ⟨_, rfl⟩
 have sM : Tk.Sub h M := by rw [hM]; exact Sub.cons h1 (Sub.refl _)
 have gM : hget M j1 = some (blk (zT d v) 168) := by rw [hM]; exact qG _ _ _
 have c0 : hcel M j1 0 = some (.int .i64 d.stamp) := qE gM rfl
 have c1 : hcel M j1 1 = some (.int .i64 d.try_) := qE gM rfl
 have c2 : hcel M j1 2 = some (.int .i64 d.what) := qE gM rfl
 have c3 : hcel M j1 3 = some v := qE gM rfl
 have rM : rInts M v d.slots := rLs.sub sM r
 rw [<- hM]
 try simp only [wK, seval, c0]
 refine uF fun q1 k1 => ?_
 cases q1 with
 | false => simp only [wK, seval]; exact k.dno sM fun x => qW k1 rfl x.1
 | true =>
 simp only [wK, seval, c1]
 refine uF fun q2 k2 => ?_
 cases q2 with
 | false => simp only [wK, seval]; exact k.dno sM fun x => qW k2 rfl x.2.1
 | true =>
 simp only [wK, seval, c2]
 refine yO fun q3 k3 => ?_
 cases q3 with
 | false => simp only [wK, seval]; exact k.dno sM fun x => qW k3 rfl x.2.2.1
 | true =>
 simp only [wK, seval, c3]
 refine qIK (P := qIG) (by kernel_rfl) (fun kk => qEI kk) rM hb fun q4 k4 => ?_
 cases q4 with
 | false => simp only [wK, seval]; exact k.dno sM fun x => qW k4 rfl x.2.2.2.2.1
 | true =>
 simp only [wK, seval, c3, rM.len]
 by_cases e0 : 0 < (d.slots.length : Int)
 ·have hne : d.slots ≠ [] := fun e => by rw [e] at e0; simp at e0
  simp only [wK, seval, e0, decide_true, c2]
  by_cases w1 : d.what = 1
  ·simp only [wK, seval, w1, decide_true]
   exact k.dyes sM ⟨k1.1 rfl, k2.1 rfl, k3.1 rfl, hne, k4.1 rfl, .inl w1⟩
  ·simp only [wK, seval, w1, decide_false, c3, rM.len]
   by_cases w2 : (d.slots.length : Int) = 1
   ·simp only [wK, seval, w2, decide_true]
    exact k.dyes sM ⟨k1.1 rfl, k2.1 rfl, k3.1 rfl, hne, k4.1 rfl, .inr (by omega)⟩
   ·simp only [wK, seval, w2, decide_false]
    exact k.dno sM fun p => p.2.2.2.2.2.elim w1 (fun c => w2 (by omega))
 ·simp only [wK, seval, e0, decide_false]
  exact k.dno sM fun x => x.2.2.2.1 (List.eq_nil_of_length_eq_zero (by omega))
theorem qZB {h : H} {v : Value} {l : List DWork} (r : rRs h (rWork h) 4 v l) (hb : ∀ x ∈ l, kW x) (hl : l.length <= 1048576) {R : Ending -> H -> Prop} (k : Asks R (qTN l) h) : HCalls Tryz.prog 124 #[v] h R := by
 refine qD lite (args := [v]) Tryz.func124 ?_
 conv => arg 2; cbv
 simp only [wK, seval, r.len]
 refine qP [7] (fun n vs h' => ∃ i : Nat, vs = [.int .i64 i] /\ h' = h /\ i <= l.length /\ n = l.length - i /\ allP qLG (l.take i) /\ risU (·.stamp) l i) l.length rfl ⟨0, rfl, rfl, by omega, by omega, xF _ _, xD _ _⟩ ?_
 rintro n f h' ⟨i, hv, rfl, hi, rfl, ht, hu⟩
 simp only [lm4] at hv
 simp only [wK, seval, wr, hv, r.len]
 refine qF (fun c => ?_) fun c => ?_
 ·have hi2 : i < l.length := by omega
  obtain ⟨b1, o1, cs, hx, e1, va, rfl, sr⟩ := zU r hi2
  obtain ⟨x, hxx⟩ : ∃ x, x = l[i] := ⟨_, rfl⟩
  have bs : kW x := hxx ▸ hb _ (List.getElem_mem hi2)
  unfold kW lim at bs
  rw [<- hxx] at e1 sr
  have zh := qHP
  have hone : (zT x va).all vone = true := by simp only [zT, List.all_cons, List.all_nil, rdS.one sr]; rfl
  simp only [wK, seval, hx, e1, zh, vV]
  refine qC (o := blk (zT zWork (.slice none 0 0)) 168) fun j4 h4 => ?_
  try simp only [wK, seval, zh, vV, hone]
  obtain ⟨B, hB⟩ : ∃ B, B = (j4, blk (zT x va) 168) :: h' := ⟨_, rfl⟩
  have sB : Tk.Sub h' B := by rw [hB]; exact Sub.cons h4 (Sub.refl _)
  have gB : hget B j4 = some (blk (zT x va) 168) := by rw [hB]; exact qG _ _ _
  have rd : qV B j4 0 4 = some (zT x va) := zD gB rfl
  have c40 : hcel B j4 0 = some (.int .i64 x.stamp) := qE gB rfl
  have sBB := Sub.refl B
  rw [<- hB]
  refine zC B (Sub.refl _) ?_
  simp only [wK, seval, rd, sBB]
  refine qSI (sWork.sub sB sr) (by omega) fun q2 hq2 => ?_
  cases q2 with
  | false =>
   simp only [wK, seval, sBB]
   exact k.dno sB fun y => qW hq2 rfl (by have := y.2.1 _ (List.getElem_mem hi2); rw [<- hxx] at this; exact this)
  | true =>
  have hh : qLG l[i] := hxx ▸ hq2.1 rfl
  simp only [wK, seval, sBB]
  refine qF (fun q3 => ?_) fun q3 => ?_
  ·have ecast : ((i - 1 : Nat) : Int) = (i : Int) - 1 := by omega
   obtain ⟨bb, ob, csb, hxb, eb, vb, rfl, sb⟩ := zU r (i := i - 1) (by omega)
   rw [ecast] at hxb
   have fb : hcel B bb ob = some (.int .i64 l[i - 1].stamp) := yA sB (zK eb 0 rfl)
   simp (disch := omega) only [wK, seval, hxb, fb, c40, qK, sBB]
   refine xA (fun q4 => ?_) fun q4 => ?_
   ·exact k.dno sB fun y => by
     have := y.2.2 (i - 1) (by omega)
     have e2 : i - 1 + 1 = i := by omega
     simp only [e2, <- hxx] at this
     omega
   ·exact ⟨l.length - (i + 1), by omega, h', sB, i + 1, by simp, rfl, by omega, rfl, yJ hi2 ht hh, xR hi2 (by omega) hu (by rw [<- hxx]; exact q4)⟩
  ·simp (disch := omega) only [wK, seval, sBB, qK]
   exact ⟨l.length - (i + 1), by omega, h', sB, i + 1, by simp, rfl, by omega, rfl, yJ hi2 ht hh, wG (by omega) hu⟩
 ·try simp only [wK, seval, r.len]
  by_cases e12 : (l.length : Int) <= 12
  ·simp only [wK, seval, e12, decide_true]
   exact .of (k.yes ⟨by omega, xM (by omega) ht, xS (by omega) hu⟩)
  ·simp only [wK, seval, e12, decide_false]
   exact .of (k.no fun y => e12 (by have := y.1; omega))
theorem zBK {h : H} {v : Value} {l : List DLock} (r : rRs h (rLock h) 3 v l) (hb : ∀ x ∈ l, bLock x) (hl : l.length <= 1048576) {R : Ending -> H -> Prop} (k : Asks R (l.length = 8 /\ ∀ i (hi : i < l.length), qIV l[i] /\ l[i].slot = (i : Int)) h) : HCalls Tryz.prog 125 #[v] h R := by
 refine qD lite (args := [v]) Tryz.func125 ?_
 conv => arg 2; cbv
 simp only [wK, seval, r.len]
 refine qP [7] (fun n vs h' => ∃ i : Nat, vs = [.int .i64 i] /\ h' = h /\ i <= l.length /\ n = l.length - i /\ ∀ j (hj : j < l.length), j < i -> qIV l[j] /\ l[j].slot = (j : Int)) l.length rfl ⟨0, rfl, rfl, by omega, by omega, fun j hj hn => absurd hn (Nat.not_lt_zero _)⟩ ?_
 rintro n f h' ⟨i, hv, rfl, hi, rfl, ht⟩
 simp only [lm4] at hv
 simp only [wK, seval, wr, hv, r.len]
 refine qF (fun c => ?_) fun c => ?_
 ·have hi2 : i < l.length := by omega
  obtain ⟨b1, o1, cs, hx, e1, va, vb, rfl, sr⟩ := zU r hi2
  obtain ⟨x, hxx⟩ : ∃ x, x = l[i] := ⟨_, rfl⟩
  have bs : bLock x := hxx ▸ hb _ (List.getElem_mem hi2)
  have b3 := bs.h
  have b4 := bs.w
  unfold lim at b3 b4
  rw [<- hxx] at e1 sr
  have zh := qAY
  have hone : (zP x va vb).all vone = true := by simp only [zP, List.all_cons, List.all_nil, rdS.one sr.1, rdS.one sr.2]; rfl
  simp only [wK, seval, hx, e1, zh, xN]
  refine qC (o := blk (zP zLock (.slice none 0 0) (.slice none 0 0)) 81) fun j4 h4 => ?_
  try simp only [wK, seval, zh, xN, hone]
  obtain ⟨B, hB⟩ : ∃ B, B = (j4, blk (zP x va vb) 81) :: h' := ⟨_, rfl⟩
  have sB : Tk.Sub h' B := by rw [hB]; exact Sub.cons h4 (Sub.refl _)
  have gB : hget B j4 = some (blk (zP x va vb) 81) := by rw [hB]; exact qG _ _ _
  have rd : qV B j4 0 3 = some (zP x va vb) := zD gB rfl
  have c40 : hcel B j4 0 = some (.int .i64 x.slot) := qE gB rfl
  rw [<- hB]
  try simp only [wK, seval, c40]
  refine zG (fun es => ?_) fun es => ?_
  ·exact k.dno sB fun y => es (by have := (y.2 i hi2).2; rw [<- hxx] at this; exact this)
  ·try simp only [wK, seval, rd]
   refine qOR (sLock.sub sB sr) (by omega) (by omega) fun q2 hq2 => ?_
   cases q2 with
   | false =>
    simp only [wK, seval]
    exact k.dno sB fun y => qW hq2 rfl (by have := (y.2 i hi2).1; rw [<- hxx] at this; exact this)
   | true =>
    simp (disch := omega) only [wK, seval, qK]
    refine ⟨l.length - (i + 1), by omega, h', sB, i + 1, by simp, rfl, by omega, rfl, fun j hj hn => ?_⟩
    by_cases ej : j = i
    ·subst ej; rw [<- hxx]; exact ⟨hq2.1 rfl, es⟩
    ·exact ht j hj (by omega)
 ·try simp only [wK, seval, r.len]
  by_cases e8 : (l.length : Int) = 8
  ·simp only [wK, seval, e8, decide_true]
   exact .of (k.yes ⟨by omega, fun j hj => ht j hj (by omega)⟩)
  ·simp only [wK, seval, e8, decide_false]
   exact .of (k.no fun y => e8 (by have := y.1; omega))
theorem qGM {h : H} {v : Value} {l : List DLock} (r : rRs h (rLock h) 3 v l) (hb : ∀ x ∈ l, bLock x) (hl : l.length <= 1048576) {R : Ending -> H -> Prop} (k : Asks R (∀ x ∈ l, qAV x) h) : HCalls Tryz.prog 32 #[v] h R := by
 refine qD lite (args := [v]) Tryz.func32 ?_
 conv => arg 2; cbv
 simp only [wK, seval, r.len]
 refine qP [7] (fun n vs h' => ∃ i : Nat, vs = [.int .i64 i] /\ h' = h /\ i <= l.length /\ n = l.length - i /\ ∀ x ∈ l.take i, qAV x) l.length rfl ⟨0, rfl, rfl, by omega, by omega, by simp⟩ ?_
 rintro n f h' ⟨i, hv, rfl, hi, rfl, ht⟩
 simp only [lm4] at hv
 simp only [wK, seval, wr, hv, r.len]
 refine qF (fun c => ?_) fun c => ?_
 ·have hi2 : i < l.length := by omega
  obtain ⟨b1, o1, cs, hx, e1, va, vb, rfl, sr⟩ := zU r hi2
  obtain ⟨x, hxx⟩ : ∃ x, x = l[i] := ⟨_, rfl⟩
  have bs : bLock x := hxx ▸ hb _ (List.getElem_mem hi2)
  have b3 := bs.h
  have b4 := bs.w
  unfold lim at b3 b4
  rw [<- hxx] at e1 sr
  have zh := qAY
  have hone : (zP x va vb).all vone = true := by simp only [zP, List.all_cons, List.all_nil, rdS.one sr.1, rdS.one sr.2]; rfl
  simp only [wK, seval, hx, e1, zh, xN]
  refine qC (o := blk (zP zLock (.slice none 0 0) (.slice none 0 0)) 81) fun j4 h4 => ?_
  try simp only [wK, seval, zh, xN, hone]
  obtain ⟨B, hB⟩ : ∃ B, B = (j4, blk (zP x va vb) 81) :: h' := ⟨_, rfl⟩
  have sB : Tk.Sub h' B := by rw [hB]; exact Sub.cons h4 (Sub.refl _)
  have gB : hget B j4 = some (blk (zP x va vb) 81) := by rw [hB]; exact qG _ _ _
  have c41 : hcel B j4 1 = some va := qE gB rfl
  have c42 : hcel B j4 2 = some vb := qE gB rfl
  have l1 : rLs B zE 4 va x.held := rLs.sub sB sr.1
  have l2 : rLs B zE 4 vb x.waits := rLs.sub sB sr.2
  rw [<- hB]
  simp (disch := omega) only [wK, seval, c41, c42, l1.len, l2.len, qK]
  refine qF (fun es => ?_) fun es => ?_
  ·exact k.dno sB fun y => by
    have := y x (hxx ▸ List.getElem_mem hi2)
    unfold qAV at this; omega
  ·refine ⟨l.length - (i + 1), by omega, h', sB, i + 1, by simp, rfl, by omega, rfl, fun z hz => ?_⟩
   rw [yH hi2] at hz
   rcases List.mem_append.1 hz with hz | hz
   ·exact ht z hz
   ·rw [List.mem_singleton.1 hz, <- hxx]; unfold qAV; omega
 ·have hi2 : i = l.length := by omega
  rw [hi2, List.take_length] at ht
  try simp only [wK, seval]
  exact .of (k.yes ht)
theorem qVV {h : H} {lk v : Value} {locks : List DLock} {x : DHold} {sl : List Int} (r : rRs h (rLock h) 3 lk locks) (h8 : locks.length = 8) (hbk : ∀ x ∈ locks, bLock x) (hris : ∀ x ∈ locks, risP (·.stamp) x.held) (rs : rInts h v sl) (hs : ∀ s ∈ sl, 0 <= s /\ s <= 7) (hl : sl.length <= 1048576)
  {R : Ending -> H -> Prop} (k : R (.returned (.bool (jS locks x.stamp x.try_ sl x.firm))) h) : HCalls Tryz.prog 126 #[lk, v, .agg (zE x).toArray] h R := by
 refine yK (args := [lk, v, .agg (zE x).toArray]) Tryz.func126 ir126 ?_
 simp only [wK, seval, yV]
 refine qC (o := blk (zE x) 171) fun j5 h5 => ?_
 obtain ⟨M, hM⟩ : ∃ M, M = (j5, blk (zE x) 171) :: h := ⟨_, rfl⟩
 have sM : Tk.Sub h M := by rw [hM]; exact Sub.cons h5 (Sub.refl _)
 have gM : hget M j5 = some (blk (zE x) 171) := by rw [hM]; exact qG _ _ _
 have c50 : hcel M j5 0 = some (.int .i64 x.stamp) := qE gM rfl
 have c51 : hcel M j5 1 = some (.int .i64 x.try_) := qE gM rfl
 have c53 : hcel M j5 3 = some (.bool x.firm) := qE gM rfl
 have rM := (r.subH sM).relImp fun _ _ q => rLock.sub sM q
 have rsM : rInts M v sl := rs.sub sM
 obtain ⟨P, hP⟩ : ∃ P : Int -> Bool, P = fun s => match yZ (qDB locks s) x.stamp with
  | some y => decide (y.try_ = x.try_) && (!x.firm || y.firm)
  | none => false := ⟨_, rfl⟩
 have hall : jS locks x.stamp x.try_ sl x.firm = sl.all P := by rw [hP]; rfl
 rw [hall] at k
 rw [<- hM]
 simp only [wK, seval, rsM.len]
 refine qP [14] (fun n vs h' => ∃ i : Nat, vs = [.int .i64 i] /\ h' = M /\ i <= sl.length /\ n = sl.length - i /\ (sl.take i).all P = true) sl.length rfl ⟨0, rfl, rfl, by omega, by omega, by simp⟩ ?_
 rintro n f h' ⟨i, hv, rfl, hi, rfl, ht⟩
 simp only [lm4] at hv
 simp only [wK, seval, wr, hv, rsM.len]
 refine qF (fun c => ?_) fun c => ?_
 ·have hi2 : i < sl.length := by omega
  obtain ⟨bx, ox, hx, ex⟩ := yU (enc := eI) (sz := 1) yM rsM hi2
  have hin := hs _ (List.getElem_mem hi2)
  obtain ⟨nn, hnn⟩ : ∃ nn : Nat, sl[i] = (nn : Int) := ⟨sl[i].toNat, by omega⟩
  have fx : hcel h' bx ox = some (.int .i64 nn) := by rw [<- hnn]; exact zK ex 0 rfl
  have hn8 : nn < locks.length := by omega
  obtain ⟨b1, o1, cs, hx1, e1, va, vb, rfl, sr⟩ := zU rM hn8
  have hbl := (hbk _ (List.getElem_mem hn8)).h
  have hrl := hris _ (List.getElem_mem hn8)
  unfold lim at hbl
  have f1 : hcel h' b1 (o1 + 1) = some va := zK e1 1 rfl
  have hat : qDB locks sl[i] = locks[nn].held := by unfold qDB; rw [hnn, Int.toNat_natCast, List.getElem?_eq_getElem hn8]; rfl
  have no : P sl[i] = false -> dP R (.returned (.bool false)) h' := fun e => by
   have : sl.all P = false := List.all_eq_false.2 ⟨sl[i], List.getElem_mem hi2, by rw [e]; simp⟩
   rw [this] at k
   exact ⟨h, sM, k⟩
  have next : P sl[i] = true -> ∃ m, m < sl.length - i /\ ∃ gg, Tk.Sub gg h' /\ ∃ i' : Nat, [Value.int IntKind.i64 ((i : Int) + 1)] = [.int .i64 i'] /\ gg = h' /\ i' <= sl.length /\ m = sl.length - i' /\ (sl.take i').all P = true := fun e =>
   ⟨sl.length - (i + 1), by omega, h', .refl _, i + 1, by simp, rfl, by omega, rfl, by rw [qKD hi2, ht, e]; rfl⟩
  have shh := Sub.refl h'
  simp only [wK, seval, hx, fx, hx1, f1, c50]
  refine qGK (s := x.stamp) sr.1 (by omega) hrl fun pp hpl hpp => ?_
  simp only [wK, seval]
  refine zC h' (Sub.refl _) ?_
  cases hby : yZ locks[nn].held x.stamp with
  | none =>
   simp only [wK, seval, Option.isSome_none, Bool.not_false, shh]
   exact no (by rw [hP]; simp only [hat, hby])
  | some X =>
   obtain ⟨hp, hpx⟩ := hpp X hby
   obtain ⟨b3, o3, hx3, e3⟩ := yU (enc := zE) (sz := 4) yE sr.1 hp
   rw [hpx] at e3
   have g1 : hcel h' b3 (o3 + 1) = some (.int .i64 X.try_) := zK e3 1 rfl
   have g3 : hcel h' b3 (o3 + 3) = some (.bool X.firm) := zK e3 3 rfl
   have hPv : P sl[i] = (decide (X.try_ = x.try_) && (!x.firm || X.firm)) := by rw [hP]; simp only [hat, hby]
   simp only [wK, seval, Option.isSome_some, Bool.not_true, hx3, g1, c51, shh]
   by_cases ct : X.try_ = x.try_
   ·obtain ⟨fm, hfm⟩ : ∃ fm, fm = x.firm := ⟨_, rfl⟩
    obtain ⟨xf, hxf⟩ : ∃ xf, xf = X.firm := ⟨_, rfl⟩
    rw [<- hfm] at c53 hPv
    rw [<- hxf] at g3 hPv
    cases fm with
    | false =>
     simp (disch := omega) only [wK, seval, ct, decide_true, Bool.not_true, c53, shh, qK]
     exact next (by rw [hPv]; simp [ct])
    | true =>
     simp only [wK, seval, ct, decide_true, Bool.not_true, c53, hx3, g3, shh]
     cases xf with
     | false =>
      simp only [wK, seval, shh]
      exact no (by rw [hPv]; simp)
     | true =>
      simp (disch := omega) only [wK, seval, shh, qK]
      exact next (by rw [hPv]; simp [ct])
   ·simp only [wK, seval, ct, decide_false, Bool.not_false, shh]
    exact no (by rw [hPv]; simp [ct])
 ·have hi2 : i = sl.length := by omega
  rw [hi2, List.take_length] at ht
  rw [ht] at k
  try simp only [wK, seval]
  exact ⟨h, sM, k⟩
end Go.Proofs.YtjioiemhgbkbfaaGreatDoor
end

section
namespace Go.Tk
open Go
def wS (rp re : Nat) (ov vv : Value) (ks : List Bool) : List Value := .map (some rp) :: .map (some re) :: ov :: (ks.map Value.bool ++ [vv])
section
variable {rp re : Nat} {ov vv : Value} {ks : List Bool}
theorem uH (h : ks.length = 8) : (wS rp re ov vv ks).length = 12 := by simp [wS, h]
theorem qJX (h : ks.length = 8) : (wS rp re ov vv ks)[11]? = some vv := by
 unfold wS
 rw [show (11 : Nat) = 8 + 1 + 1 + 1 from rfl]
 simp only [List.getElem?_cons_succ]
 rw [List.getElem?_append_right (by simp [h])]
 simp [h]
theorem zJD (ov' : Value) : qJ (wS rp re ov vv ks) 2 [ov'] = wS rp re ov' vv ks := by rw [qCV]; rfl
theorem qJY (h : ks.length = 8) (vv' : Value) : qJ (wS rp re ov vv ks) 11 [vv'] = wS rp re ov vv' ks := by
 rw [qCV]
 unfold wS
 rw [show (11 : Nat) = 8 + 1 + 1 + 1 from rfl]
 simp only [List.set_cons_succ]
 rw [List.set_append, if_neg (by simp [h])]
 simp [h]
theorem qJZ {n : Nat} (h : ks.length = 8) (hn : n < 8) (b : Bool) : qJ (wS rp re ov vv ks) (3 + n) [.bool b] = wS rp re ov vv (ks.set n b) := by
 rw [qCV, Nat.add_comm]
 unfold wS
 rw [show n + 3 = n + 1 + 1 + 1 from rfl]
 simp only [List.set_cons_succ]
 rw [List.set_append, if_pos (by simp [h]; omega), List.map_set]
end
structure KS where
 rp : Nat
 re : Nat
 ov : Value
 vv : Value
 pm : List ((Int × Int) × Value)
 em : List ((Int × Int) × Value)
 So : Nat -> Prop
 Sv : Nat -> Prop
structure KQ (h M : H) (jk : Nat) (k : KS) (kb : List Bool) (ol vl : List (Int × Int)) : Prop where
 sub : Tk.Sub h M
 len : kb.length = 8
 get : hget M jk = some (blk (wS k.rp k.re k.ov k.vv kb) 210)
 gp : ∃ es c, hget M k.rp = some (.map es c) /\ mapO eTwo es k.pm
 ge : ∃ es c, hget M k.re = some (.map es c) /\ mapO eTwo es k.em
 od : dL 212 eP 2 M k.ov ol k.So
 vl : dL 175 eP 2 M k.vv vl k.Sv
 nj : hget h jk = none
 np : hget h k.rp = none
 ne : hget h k.re = none
 jp : jk ≠ k.rp
 je : jk ≠ k.re
 pe : k.rp ≠ k.re
 fo : ∀ x, k.So x -> hget h x = none /\ x ≠ jk /\ x ≠ k.rp /\ x ≠ k.re
 fv : ∀ x, k.Sv x -> hget h x = none /\ x ≠ jk /\ x ≠ k.rp /\ x ≠ k.re
 dj : ∀ x, k.So x -> ¬ k.Sv x
section
variable {h M N : H} {jk : Nat} {k : KS} {kb kb' : List Bool} {ol ol' vl vl' : List (Int × Int)}
theorem KQ.move (q : KQ h M jk k kb ol vl) (s : Tk.Sub h N) (e : ∀ x, hget M x ≠ none -> (x = jk ∨ x = k.rp ∨ x = k.re ∨ k.So x ∨ k.Sv x) -> hget N x = hget M x) : KQ h N jk k kb ol vl where
 sub := s
 len := q.len
 get := by rw [e _ (by rw [q.get]; simp) (.inl rfl)]; exact q.get
 gp := by
  obtain ⟨es, c, g, m⟩ := q.gp
  exact ⟨es, c, by rw [e _ (by rw [g]; simp) (.inr (.inl rfl))]; exact g, m⟩
 ge := by
  obtain ⟨es, c, g, m⟩ := q.ge
  exact ⟨es, c, by rw [e _ (by rw [g]; simp) (.inr (.inr (.inl rfl)))]; exact g, m⟩
 od := q.od.frame fun x hx => e x (q.od.in hx) (.inr (.inr (.inr (.inl hx))))
 vl := q.vl.frame fun x hx => e x (q.vl.in hx) (.inr (.inr (.inr (.inr hx))))
 nj := q.nj
 np := q.np
 ne := q.ne
 jp := q.jp
 je := q.je
 pe := q.pe
 fo := q.fo
 fv := q.fv
 dj := q.dj
theorem KQ.up (q : KQ h M jk k kb ol vl) (s : Tk.Sub M N) : KQ h N jk k kb ol vl := q.move (q.sub.trans s) fun x hx _ => Sub.eq s hx
theorem KQ.putP {es' : Array MapEntry} {c' : Nat} {pm' : List ((Int × Int) × Value)} (q : KQ h M jk k kb ol vl) (g : hget N k.rp = some (.map es' c')) (e : ∀ x, x ≠ k.rp -> hget N x = hget M x) (m : mapO eTwo es' pm') : KQ h N jk { k with pm := pm' } kb ol vl where
 sub := fun x o hx => by rw [e x (fun c => by rw [c, q.np] at hx; cases hx)]; exact q.sub x o hx
 len := q.len
 get := by rw [e _ q.jp]; exact q.get
 gp := ⟨es', c', g, m⟩
 ge := by
  obtain ⟨es, c, g, m⟩ := q.ge
  exact ⟨es, c, by rw [e _ (Ne.symm q.pe)]; exact g, m⟩
 od := q.od.frame fun x hx => e x (q.fo x hx).2.2.1
 vl := q.vl.frame fun x hx => e x (q.fv x hx).2.2.1
 nj := q.nj
 np := q.np
 ne := q.ne
 jp := q.jp
 je := q.je
 pe := q.pe
 fo := q.fo
 fv := q.fv
 dj := q.dj
theorem KQ.putE {es' : Array MapEntry} {c' : Nat} {em' : List ((Int × Int) × Value)} (q : KQ h M jk k kb ol vl) (g : hget N k.re = some (.map es' c')) (e : ∀ x, x ≠ k.re -> hget N x = hget M x) (m : mapO eTwo es' em') : KQ h N jk { k with em := em' } kb ol vl where
 sub := fun x o hx => by rw [e x (fun c => by rw [c, q.ne] at hx; cases hx)]; exact q.sub x o hx
 len := q.len
 get := by rw [e _ q.je]; exact q.get
 ge := ⟨es', c', g, m⟩
 gp := by
  obtain ⟨es, c, g, m⟩ := q.gp
  exact ⟨es, c, by rw [e _ q.pe]; exact g, m⟩
 od := q.od.frame fun x hx => e x (q.fo x hx).2.2.2
 vl := q.vl.frame fun x hx => e x (q.fv x hx).2.2.2
 nj := q.nj
 np := q.np
 ne := q.ne
 jp := q.jp
 je := q.je
 pe := q.pe
 fo := q.fo
 fv := q.fv
 dj := q.dj
theorem KQ.box {ov' vv' : Value} {So' Sv' : Nat -> Prop} (q : KQ h M jk k kb ol vl) (hl : kb'.length = 8) (g : hget N jk = some (blk (wS k.rp k.re ov' vv' kb') 210)) (e : ∀ x, x ≠ jk -> hget N x = hget M x) (od' : dL 212 eP 2 M ov' ol' So') (vl2 : dL 175 eP 2 M vv' vl' Sv')
  (fo' : ∀ x, So' x -> hget h x = none /\ x ≠ jk /\ x ≠ k.rp /\ x ≠ k.re) (fv' : ∀ x, Sv' x -> hget h x = none /\ x ≠ jk /\ x ≠ k.rp /\ x ≠ k.re) (dj' : ∀ x, So' x -> ¬ Sv' x) : KQ h N jk { k with ov := ov', vv := vv', So := So', Sv := Sv' } kb' ol' vl' where
 sub := fun x o hx => by rw [e x (fun c => by rw [c, q.nj] at hx; cases hx)]; exact q.sub x o hx
 len := hl
 get := g
 gp := by
  obtain ⟨es, c, g, m⟩ := q.gp
  exact ⟨es, c, by rw [e _ (Ne.symm q.jp)]; exact g, m⟩
 ge := by
  obtain ⟨es, c, g, m⟩ := q.ge
  exact ⟨es, c, by rw [e _ (Ne.symm q.je)]; exact g, m⟩
 od := od'.frame fun x hx => e x (fo' x hx).2.1
 vl := vl2.frame fun x hx => e x (fv' x hx).2.1
 nj := q.nj
 np := q.np
 ne := q.ne
 jp := q.jp
 je := q.je
 pe := q.pe
 fo := fo'
 fv := fv'
 dj := dj'
theorem KQ.app {Z M5 : H} {w5 : Value} {S5 : Nat -> Prop} (q : KQ h M jk k kb ol vl) (d5 : dL 212 eP 2 M5 w5 ol' S5) (k5 : ∀ x, hget M x ≠ none -> ¬ k.So x -> hget M5 x = hget M x) (f5 : ∀ x, S5 x -> k.So x ∨ hget M x = none)
  (gZ : hget Z jk = some (blk (wS k.rp k.re w5 k.vv kb) 210)) (fZ : ∀ x, x ≠ jk -> hget Z x = hget M5 x) : KQ h Z jk { k with ov := w5, So := S5 } kb ol' vl := by
 obtain ⟨es, c, gp, mp⟩ := q.gp
 obtain ⟨es2, c2, ge, me⟩ := q.ge
 have fo5 : ∀ x, S5 x -> hget h x = none /\ x ≠ jk /\ x ≠ k.rp /\ x ≠ k.re := fun x hx => by
  rcases f5 x hx with e | e
  ·exact q.fo x e
  ·exact ⟨q.sub.none' e, fun c => (by rw [c, q.get] at e; cases e), fun c => (by rw [c, gp] at e; cases e), fun c => (by rw [c, ge] at e; cases e)⟩
 exact {
  sub := fun x o hx => by
   have n1 : x ≠ jk := fun c => by rw [c, q.nj] at hx; cases hx
   have hM := q.sub x o hx
   rw [fZ x n1, k5 x (by rw [hM]; simp) (fun c => by rw [(q.fo x c).1] at hx; cases hx)]; exact hM
  len := q.len
  get := gZ
  gp := ⟨es, c, by rw [fZ _ (Ne.symm q.jp), k5 _ (by rw [gp]; simp) (fun c => (q.fo _ c).2.2.1 rfl)]; exact gp, mp⟩
  ge := ⟨es2, c2, by rw [fZ _ (Ne.symm q.je), k5 _ (by rw [ge]; simp) (fun c => (q.fo _ c).2.2.2 rfl)]; exact ge, me⟩
  od := d5.frame fun x hx => fZ x (fo5 x hx).2.1
  vl := q.vl.frame fun x hx => by rw [fZ x (q.fv x hx).2.1, k5 x (q.vl.in hx) (fun c => q.dj x c hx)]
  nj := q.nj
  np := q.np
  ne := q.ne
  jp := q.jp
  je := q.je
  pe := q.pe
  fo := fo5
  fv := q.fv
  dj := fun x hx hv => by
   rcases f5 x hx with e | e
   ·exact q.dj x e hv
   ·exact q.vl.in hv e }
theorem KQ.val {Z M1 : H} {b : Value} {S' : Nat -> Prop} (q : KQ h M jk k kb ol vl) (s : Tk.Sub M M1) (d : dL 175 eP 2 M1 b vl' S') (f : ∀ x, S' x -> hget M x = none)
  (gZ : hget Z jk = some (blk (wS k.rp k.re k.ov b kb) 210)) (fZ : ∀ x, x ≠ jk -> hget Z x = hget M1 x) : KQ h Z jk { k with vv := b, Sv := S' } kb ol vl' := by
 obtain ⟨es, c, gp, mp⟩ := q.gp
 obtain ⟨es2, c2, ge, me⟩ := q.ge
 have q1 := q.up s
 exact q1.box q1.len gZ fZ q1.od d q1.fo (fun x hx => ⟨q.sub.none' (f x hx), fun c => (by have := f x hx; rw [c, q.get] at this; cases this), fun c => (by have := f x hx; rw [c, gp] at this; cases this), fun c => (by have := f x hx; rw [c, ge] at this; cases this)⟩) fun x h1 h2 => q.od.in h1 (f x h2)
theorem KQ.kept {Z : H} (q : KQ h M jk k kb ol vl) (hl : kb'.length = 8) (gZ : hget Z jk = some (blk (wS k.rp k.re k.ov k.vv kb') 210)) (fZ : ∀ x, x ≠ jk -> hget Z x = hget M x) : KQ h Z jk k kb' ol vl :=
 q.box hl gZ fZ q.od q.vl q.fo q.fv q.dj
end
structure KW (h M : H) (jk : Nat) (id : Int) (log : List DRec) (k : KS) : Prop where
 q : KQ h M jk k (uP (wI id log).1) (wV log) (wI id log).2
 pr : qLW h k.pm log
 en : endM k.em log
 lg : logP log
 vs : (wI id log).2.length <= 32
section
variable {h M N : H} {jk : Nat} {id : Int} {log : List DRec} {k : KS}
theorem KW.up (w : KW h M jk id log k) (s : Tk.Sub M N) : KW h N jk id log k := ⟨w.q.up s, w.pr, w.en, w.lg, w.vs⟩
theorem KW.look (w : KW h M jk id log k) (s t : Int) : ∃ d x y b, (mget k.pm (s, t)).getD (.agg (cRec zRec (.slice none 0 0) (.slice none 0 0)).toArray) = .agg (cRec d x y).toArray /\ (mget k.pm (s, t)).isSome = b /\ sRec h d x y /\ ((b = true /\ yL log s t = some d) ∨ (b = false /\ yL log s t = none)) := by
 have p := w.pr s t
 cases e : yL log s t with
 | none =>
  rw [e] at p
  rw [p]
  exact ⟨zRec, _, _, false, rfl, rfl, ⟨(dL.nil (e := 0)).rd, (dL.nil (e := 0)).rd⟩, .inr ⟨rfl, rfl⟩⟩
 | some d =>
  rw [e] at p
  obtain ⟨x, y, g, sr⟩ := p
  rw [g]
  exact ⟨d, x, y, true, rfl, rfl, sr, .inl ⟨rfl, rfl⟩⟩
theorem KW.ends (w : KW h M jk id log k) (s t : Int) : ∃ n b, (mget k.em (s, t)).getD (.int .i64 0) = .int .i64 n /\ (mget k.em (s, t)).isSome = b /\ b = vU log s t /\ (decide (n = 0) = !b) := by
 have p := w.en s t
 rw [qEV]
 cases e : qBP log s t with
 | none =>
  rw [e] at p
  rw [p]
  exact ⟨0, false, rfl, rfl, rfl, rfl⟩
 | some n =>
  rw [e] at p
  rw [p]
  exact ⟨n, true, rfl, rfl, rfl, by simp [qWH w.lg e]⟩
end
theorem qFK {log : List DRec} (h : logP log) {s t : Int} {p : DRec} (e : yL log s t = some p) : qMW p.stamp p.try_ p.what p.slots := by
 obtain ⟨hm, hk, _, _⟩ := qIN e
 obtain ⟨i, hi, rfl⟩ := List.getElem_of_mem hm
 rcases (h.2 i hi).1 with c | c
 ·exact c.2.1
 ·exact absurd hk c.1
end Go.Tk
namespace Go.Proofs.YtjioiemhgbkbfaaGreatDoor
open Go Go.Tk
theorem keyA : KeyT Tryz.prog 212 eTwo := keyS2 Tryz.underlying212 (it := 3) (by kernel_rfl) rfl rfl rfl rfl (by decide) (by decide) (by kernel_rfl)
theorem qDP : Tryz.prog.underlying 205 = some (.map 212 137) := by kernel_rfl
theorem qHF : Tryz.prog.underlying 206 = some (.map 212 3) := by kernel_rfl
theorem qXH : ∃ i, Tryz.prog.info? 137 = some i /\ i.zero = some (.agg (cRec zRec (.slice none 0 0) (.slice none 0 0)).toArray) := by
 obtain ⟨i, hi⟩ := Option.isSome_iff_exists.1 (show (Tryz.prog.info? 137).isSome = true by kernel_rfl)
 have : (Tryz.prog.info? 137).bind (·.zero) = some (.agg (cRec zRec (.slice none 0 0) (.slice none 0 0)).toArray) := by kernel_rfl
 rw [hi] at this
 exact ⟨i, hi, this⟩
theorem zEndI : ∃ i, Tryz.prog.info? 3 = some i /\ i.zero = some (.int .i64 0) := by
 obtain ⟨i, hi⟩ := Option.isSome_iff_exists.1 (show (Tryz.prog.info? 3).isSome = true by kernel_rfl)
 have : (Tryz.prog.info? 3).bind (·.zero) = some (.int .i64 0) := by kernel_rfl
 rw [hi] at this
 exact ⟨i, hi, this⟩
theorem vX {h : H} {d : DRec} {a b : Value} (r : sRec h d a b) : (cRec d a b).all vone = true := by
 simp only [cRec, List.all_cons, List.all_nil, rdS.one r.1, rdS.one r.2]; rfl
theorem jW {h : H} {d : DRec} {a b : Value} {R : Ending -> H -> Prop} (k : R (.returned (eTwo (d.stamp, d.try_))) h) : HCalls Tryz.prog 270 #[.agg (cRec d a b).toArray] h R := by
 refine qD lite (args := [.agg (cRec d a b).toArray]) Tryz.func270 ?_
 conv => arg 2; cbv
 simp only [wK, seval, wRec]
 refine qC (o := blk (cRec d a b) 137) fun j1 h1 => ?_
 simp only [wK, seval, wRec]
 refine qC (o := blk [.int .i64 0, .int .i64 0] 212) fun j2 h2 => ?_
 have n2 := wW h2
 simp only [wK, seval, wRec, n2.1, n2.2.1]
 exact ⟨h, (Sub.cons h1 (Sub.refl _)).trans (Sub.cons h2 (Sub.refl _)), k⟩
end Go.Proofs.YtjioiemhgbkbfaaGreatDoor
end

section
namespace Go.Tk
open Go
theorem zAQ {l : List Int} (h : qIF l) : l.length <= 8 := by
 have key : ∀ (i : Nat) (hi : i < l.length), (i : Int) <= l[i] := by
  intro i
  induction i with
  | zero => intro hi; exact (h.1 _ (List.getElem_mem hi)).1
  | succ i ih =>
   intro hi
   have a := ih (by omega)
   have b : id l[i] < id l[i + 1] := h.2 i hi
   simp only [id] at b
   omega
 rcases Nat.eq_zero_or_pos l.length with e | e
 ·omega
 ·have a := key (l.length - 1) (by omega)
  have b : l[l.length - 1] <= 7 := (h.1 _ (List.getElem_mem (by omega))).2
  omega
end Go.Tk
namespace Go.Proofs.YtjioiemhgbkbfaaGreatDoor
open Go Go.Tk
theorem qUU {h M : H} {jk : Nat} {id : Int} {log : List DRec} {ks : KS} {r : DRec} {v1 v2 : Value} (w : KW h M jk id log ks) (sr : sRec M r v1 v2) (hb : bRec r) {R : Ending -> H -> Prop}
  (k : Asks R (qMW r.stamp r.try_ r.what r.slots /\ r.pairs = [] /\ yL log r.stamp r.try_ = none) M) : HCalls Tryz.prog 269 #[.agg (cRec r v1 v2).toArray, .pointer (some ⟨jk, 0, none⟩)] M R := by
 refine qD lite (args := [.agg (cRec r v1 v2).toArray, .pointer (some ⟨jk, 0, none⟩)]) Tryz.func269 ?_
 conv => arg 2; cbv
 rw [qR]
 have zr := vR
 have one := vX sr
 have bs := hb.s
 have bp := hb.p
 unfold lim at bs bp
 simp only [wK, seval, wRec, zr]
 refine qC (o := blk (cRec r v1 v2) 280) fun j2 h2 => ?_
 obtain ⟨A, hA⟩ : ∃ A, A = (j2, blk (cRec r v1 v2) 280) :: M := ⟨_, rfl⟩
 have sA : Tk.Sub M A := by rw [hA]; exact Sub.cons h2 (Sub.refl _)
 have gA : hget A j2 = some (blk (cRec r v1 v2) 280) := by rw [hA]; exact qG _ _ _
 have r2 : qV A j2 0 6 = some (cRec r v1 v2) := zD gA rfl
 rw [<- hA]
 simp only [wK, seval, wRec, zr, r2]
 refine qC (o := blk (cRec zRec (.slice none 0 0) (.slice none 0 0)) 137) fun j5 h5 => ?_
 simp only [wK, seval, wRec, one]
 obtain ⟨B, hB⟩ : ∃ B, B = (j5, blk (cRec r v1 v2) 137) :: A := ⟨_, rfl⟩
 have sAB : Tk.Sub A B := by rw [hB]; exact Sub.cons h5 (Sub.refl _)
 have gB : hget B j5 = some (blk (cRec r v1 v2) 137) := by rw [hB]; exact qG _ _ _
 have sB : Tk.Sub M B := sA.trans sAB
 have r5 : qV B j5 0 6 = some (cRec r v1 v2) := zD gB rfl
 have wB := w.up sB
 have ck0 : hcel B jk 0 = some (.map (some ks.rp)) := qE wB.q.get rfl
 obtain ⟨es, c, gp, mp⟩ := wB.q.gp
 obtain ⟨i0, hi0, hz0⟩ := qXH
 obtain ⟨d, x, y, b, hV, hbb, sd, hd⟩ := w.look r.stamp r.try_
 have oned := vX sd
 have shh := Sub.refl B
 rw [<- hB]
 refine zC B (Sub.refl _) ?_
 simp only [wK, seval, ck0, r5, qFG]
 refine uN (eTwo (r.stamp, r.try_)) (fun R k => jW k) ?_
 simp only [wK, seval, qFG]
 refine qCW (.tuple #[.agg (cRec d x y).toArray, .bool b]) (fun K X q => ?_) ?_
 ·simp only [wK, seval]
  exact qBE keyA qDP hi0 hz0 (k := (r.stamp, r.try_)) (by simp only [wK, seval]) (by simp only [wK, seval]) gp mp hV hbb q
 simp only [wK, seval, shh, zr]
 refine qC (o := blk (cRec zRec (.slice none 0 0) (.slice none 0 0)) 137) fun j6 h6 => ?_
 have s6 : Tk.Sub B ((j6, blk (cRec zRec (.slice none 0 0) (.slice none 0 0)) 137) :: B) := Sub.cons h6 (Sub.refl _)
 simp only [wK, seval, wRec, oned, s6]
 obtain ⟨C, hC⟩ : ∃ C, C = (j6, blk (cRec d x y) 137) :: B := ⟨_, rfl⟩
 have sBC : Tk.Sub B C := by rw [hC]; exact Sub.cons h6 (Sub.refl _)
 have sC : Tk.Sub M C := sB.trans sBC
 have gC := sBC _ _ gB
 have d1 : hcel C j5 1 = some (.int .i64 r.stamp) := qE gC rfl
 have d2 : hcel C j5 2 = some (.int .i64 r.try_) := qE gC rfl
 have d3 : hcel C j5 3 = some (.int .i64 r.what) := qE gC rfl
 have d4 : hcel C j5 4 = some v1 := qE gC rfl
 have d5 : hcel C j5 5 = some v2 := qE gC rfl
 try rw [<- hC]
 rcases hd with ⟨rfl, hp⟩ | ⟨rfl, hp⟩
 ·simp only [wK, seval, Bool.not_true]
  exact k.dno sC fun q => by rw [q.2.2] at hp; cases hp
 have vw1 := vc1 (rdS.one sr.1)
 simp only [wK, seval, Bool.not_false, d1, d2, d3, d4, vw1]
 refine qSI (d := ⟨r.stamp, r.try_, r.what, r.slots⟩) (v := v1) (rLs.sub sC sr.1) (by show r.slots.length <= _; omega) fun q1 k1 => ?_
 cases q1 with
 | false => simp only [wK, seval]; exact k.dno sC fun q => qW k1 rfl q.1
 | true =>
 have lp := rLs.sub sC sr.2
 simp only [wK, seval, d5, lp.len]
 by_cases e0 : (r.pairs.length : Int) = 0
 ·simp only [wK, seval, e0, decide_true]
  exact k.dyes sC ⟨k1.1 rfl, List.eq_nil_of_length_eq_zero (by omega), hp⟩
 ·simp only [wK, seval, e0, decide_false]
  exact k.dno sC fun q => e0 (by rw [q.2.1]; rfl)
theorem qMV {h M : H} {jk : Nat} {id : Int} {log : List DRec} {ks : KS} {r : DRec} {v1 v2 : Value} (w : KW h M jk id log ks) (sr : sRec M r v1 v2) (hb : bRec r) {R : Ending -> H -> Prop}
  (k : Asks R (r.what = 0 /\ r.slots = [] /\ xI r.pairs /\ vU log r.stamp r.try_ = false /\ ∃ p, yL log r.stamp r.try_ = some p /\ r.pairs.all (yX p.slots) = true) M) : HCalls Tryz.prog 275 #[.pointer (some ⟨jk, 0, none⟩), .agg (cRec r v1 v2).toArray] M R := by
 refine qD lite (args := [.pointer (some ⟨jk, 0, none⟩), .agg (cRec r v1 v2).toArray]) Tryz.func275 ?_
 conv => arg 2; cbv
 rw [qR]
 have zr := vR
 have one := vX sr
 have bs := hb.s
 have bp := hb.p
 unfold lim at bs bp
 simp only [wK, seval, wRec, zr]
 refine qC (o := blk (cRec r v1 v2) 137) fun j3 h3 => ?_
 obtain ⟨B, hB⟩ : ∃ B, B = (j3, blk (cRec r v1 v2) 137) :: M := ⟨_, rfl⟩
 have sB : Tk.Sub M B := by rw [hB]; exact Sub.cons h3 (Sub.refl _)
 have gB : hget B j3 = some (blk (cRec r v1 v2) 137) := by rw [hB]; exact qG _ _ _
 have r3 : qV B j3 0 6 = some (cRec r v1 v2) := zD gB rfl
 have wB := w.up sB
 have ck0 : hcel B jk 0 = some (.map (some ks.rp)) := qE wB.q.get rfl
 obtain ⟨es, c, gp, mp⟩ := wB.q.gp
 obtain ⟨i0, hi0, hz0⟩ := qXH
 obtain ⟨i1, hi1, hz1⟩ := zEndI
 obtain ⟨d, x, y, b, hV, hbb, sd, hd⟩ := w.look r.stamp r.try_
 obtain ⟨n, eb, hN, hnb, hen, _⟩ := w.ends r.stamp r.try_
 have oned := vX sd
 have shh := Sub.refl B
 rw [<- hB]
 try simp only [wK, seval, wRec, zr]
 refine zC B (Sub.refl _) ?_
 simp only [wK, seval, ck0, r3, qFG]
 refine uN (eTwo (r.stamp, r.try_)) (fun R k => jW k) ?_
 simp only [wK, seval, qFG]
 refine qCW (.tuple #[.agg (cRec d x y).toArray, .bool b]) (fun K X q => ?_) ?_
 ·simp only [wK, seval]
  exact qBE keyA qDP hi0 hz0 (k := (r.stamp, r.try_)) (by simp only [wK, seval]) (by simp only [wK, seval]) gp mp hV hbb q
 simp only [wK, seval, shh, zr]
 refine qC (o := blk (cRec zRec (.slice none 0 0) (.slice none 0 0)) 137) fun j5 h5 => ?_
 have s5 : Tk.Sub B ((j5, blk (cRec zRec (.slice none 0 0) (.slice none 0 0)) 137) :: B) := Sub.cons h5 (Sub.refl _)
 simp only [wK, seval, wRec, oned, s5]
 obtain ⟨C, hC⟩ : ∃ C, C = (j5, blk (cRec d x y) 137) :: B := ⟨_, rfl⟩
 have sBC : Tk.Sub B C := by rw [hC]; exact Sub.cons h5 (Sub.refl _)
 have sC : Tk.Sub M C := sB.trans sBC
 have gC := sBC _ _ gB
 have gC5 : hget C j5 = some (blk (cRec d x y) 137) := by rw [hC]; exact qG _ _ _
 have r3C : qV C j3 0 6 = some (cRec r v1 v2) := zD gC rfl
 have d3 : hcel C j3 3 = some (.int .i64 r.what) := qE gC rfl
 have d4 : hcel C j3 4 = some v1 := qE gC rfl
 have d5 : hcel C j3 5 = some v2 := qE gC rfl
 have e4 : hcel C j5 4 = some x := qE gC5 rfl
 have wC := w.up sC
 have ck1 : hcel C jk 1 = some (.map (some ks.re)) := qE wC.q.get rfl
 obtain ⟨es2, c2, ge, me⟩ := wC.q.ge
 have shC := Sub.refl C
 try rw [<- hC]
 refine zC C (Sub.refl _) ?_
 simp only [wK, seval, ck1, r3C, shC]
 refine jW ?_
 simp only [wK, seval, shC]
 refine qBE keyA qHF hi1 hz1 (k := (r.stamp, r.try_)) (by simp only [wK, seval]) (by simp only [wK, seval]) ge me hN hnb ?_
 simp only [wK, seval, shC]
 have l4 := rLs.sub sC sr.1
 rcases hd with ⟨rfl, hp⟩ | ⟨rfl, hp⟩
 ·have hdin := qFK w.lg hp
  cases eb with
  | true =>
   simp only [wK, seval, Bool.not_true]
   exact k.dno sC fun q => by rw [q.2.2.2.1] at hen; cases hen
  | false =>
  simp only [wK, seval, Bool.not_false, d3]
  by_cases e3 : r.what = 0
  ·simp only [wK, seval, e3, decide_true, d4, l4.len]
   by_cases e5 : (r.slots.length : Int) = 0
   ·simp only [wK, seval, e5, decide_true, d5]
    refine jD (rLs.sub sC sr.2) (by omega) fun q1 k1 => ?_
    cases q1 with
    | false => simp only [wK, seval]; exact k.dno sC fun q => qW k1 rfl q.2.2.1
    | true =>
    simp only [wK, seval, d5, e4]
    have hsl : d.slots.length <= 8 := zAQ hdin.2.2.2.2.1
    refine qCY (rLs.sub sC sr.2) (rLs.sub (w.q.sub.trans sC) sd.1) (by omega) (by omega) fun M' b' S' s' d' f' => ?_
    have l6 := d'.rd
    have hall : ((r.pairs.filter fun p => !yX d.slots p).length : Int) = 0 ↔ r.pairs.all (yX d.slots) = true := by
     rw [List.all_eq_true]
     constructor
     ·intro e p hp
      have : (r.pairs.filter fun p => !yX d.slots p) = [] := List.eq_nil_of_length_eq_zero (by omega)
      rw [List.filter_eq_nil_iff] at this
      simpa using this p hp
     ·intro e
      have : (r.pairs.filter fun p => !yX d.slots p) = [] := by
       rw [List.filter_eq_nil_iff]
       intro p hp
       simp [e p hp]
      rw [this]; rfl
    have sM' : Tk.Sub M M' := sC.trans s'
    simp only [wK, seval, l6.len]
    by_cases e6 : ((r.pairs.filter fun p => !yX d.slots p).length : Int) = 0
    ·simp only [wK, seval, e6, decide_true]
     exact k.dyes sM' ⟨e3, List.eq_nil_of_length_eq_zero (by omega), k1.1 rfl, hen.symm, d, hp, hall.1 e6⟩
    ·simp only [wK, seval, e6, decide_false]
     exact k.dno sM' fun q => e6 (hall.2 (by
      obtain ⟨p, hp2, ha⟩ := q.2.2.2.2
      rw [hp] at hp2; cases hp2
      exact ha))
   ·simp only [wK, seval, e5, decide_false]
    exact k.dno sC fun q => e5 (by rw [q.2.1]; rfl)
  ·simp only [wK, seval, e3, decide_false]
   exact k.dno sC fun q => e3 q.1
 ·simp only [wK, seval]
  exact k.dno sC fun q => by
   obtain ⟨p, hp2, _⟩ := q.2.2.2.2
   rw [hp] at hp2; cases hp2
theorem qWK {h M : H} {jk : Nat} {id : Int} {log : List DRec} {ks : KS} {r : DRec} {v1 v2 : Value} (w : KW h M jk id log ks) (sr : sRec M r v1 v2) (hb : bRec r) {R : Ending -> H -> Prop}
  (k : Asks R (r.what = 0 /\ r.slots = [] /\ xI r.pairs /\ vU log r.stamp r.try_ = false /\ ∃ p, yL log r.stamp r.try_ = some p /\ r.pairs.all (yX p.slots) = true) M) : HCalls Tryz.prog 272 #[.agg (cRec r v1 v2).toArray, .pointer (some ⟨jk, 0, none⟩)] M R := by
 refine qD lite (args := [.agg (cRec r v1 v2).toArray, .pointer (some ⟨jk, 0, none⟩)]) Tryz.func272 ?_
 conv => arg 2; cbv
 simp only [wK, seval, wRec]
 refine qC (o := blk (cRec r v1 v2) 281) fun j2 h2 => ?_
 obtain ⟨A, hA⟩ : ∃ A, A = (j2, blk (cRec r v1 v2) 281) :: M := ⟨_, rfl⟩
 have sA : Tk.Sub M A := by rw [hA]; exact Sub.cons h2 (Sub.refl _)
 have r2 : qV A j2 0 6 = some (cRec r v1 v2) := zD (by rw [hA]; exact qG _ _ _) rfl
 rw [<- hA]
 simp only [wK, seval, wRec, r2]
 refine qMV (w.up sA) (sRec.sub sA sr) hb fun q1 k1 => ?_
 simp only [wK, seval]
 exact ⟨M, sA, k q1 k1⟩
theorem qNJ {h M : H} {jk : Nat} {id : Int} {log : List DRec} {ks : KS} {r : DRec} {v1 v2 : Value} (w : KW h M jk id log ks) (sr : sRec M r v1 v2) (hb : bRec r) {R : Ending -> H -> Prop}
  (k : Asks R ((r.what = 0 /\ r.slots = [] /\ xI r.pairs /\ vU log r.stamp r.try_ = false /\ ∃ p, yL log r.stamp r.try_ = some p /\ r.pairs.all (yX p.slots) = true) /\ r.pairs = []) M) : HCalls Tryz.prog 282 #[.agg (cRec r v1 v2).toArray, .pointer (some ⟨jk, 0, none⟩)] M R := by
 refine qD lite (args := [.agg (cRec r v1 v2).toArray, .pointer (some ⟨jk, 0, none⟩)]) Tryz.func282 ?_
 conv => arg 2; cbv
 simp only [wK, seval, wRec]
 refine qC (o := blk (cRec r v1 v2) 282) fun j2 h2 => ?_
 obtain ⟨A, hA⟩ : ∃ A, A = (j2, blk (cRec r v1 v2) 282) :: M := ⟨_, rfl⟩
 have sA : Tk.Sub M A := by rw [hA]; exact Sub.cons h2 (Sub.refl _)
 have gA : hget A j2 = some (blk (cRec r v1 v2) 282) := by rw [hA]; exact qG _ _ _
 have r2 : qV A j2 0 6 = some (cRec r v1 v2) := zD gA rfl
 have c5 : hcel A j2 5 = some v2 := qE gA rfl
 have l5 := rLs.sub sA sr.2
 rw [<- hA]
 simp only [wK, seval, wRec, r2]
 refine qMV (w.up sA) (sRec.sub sA sr) hb fun q1 k1 => ?_
 cases q1 with
 | false => simp only [wK, seval]; exact k.dno sA fun q => qW k1 rfl q.1
 | true =>
 simp only [wK, seval, c5, l5.len]
 by_cases e5 : (r.pairs.length : Int) = 0
 ·simp only [wK, seval, e5, decide_true]
  exact k.dyes sA ⟨k1.1 rfl, List.eq_nil_of_length_eq_zero (by omega)⟩
 ·simp only [wK, seval, e5, decide_false]
  exact k.dno sA fun q => e5 (by rw [q.2]; rfl)
end Go.Proofs.YtjioiemhgbkbfaaGreatDoor
end

section
namespace Go.Tk
open Go
theorem qXP (l m : List (Int × Int)) : (jO l m).length <= 32 := by rw [<- qOE]; exact zGE l m
theorem qIU {log : List DRec} {r : DRec} (h : logP log) (f : vQ log r) (hl : log.length < 400) : logP (log ++ [r]) := logP.snoc.2 ⟨hl, h, f⟩
end Go.Tk
namespace Go.Proofs.YtjioiemhgbkbfaaGreatDoor
open Go Go.Tk
theorem zAH : Tryz.prog.underlying 207 = some (.slice 212) := by kernel_rfl
theorem zHP : wP Tryz.prog 212 2 16 := vY (by kernel_rfl)
theorem qQM {h M : H} {jk : Nat} {id : Int} {log : List DRec} {ks : KS} {r : DRec} {v1 v2 : Value} (w : KW h M jk id log ks) (sr : sRec h r v1 v2) (hk : r.kind = 1) (hf : vQ log r) (hl : log.length < 400) {R : Ending -> H -> Prop}
  (k : ∀ M' ks', KW h M' jk id (log ++ [r]) ks' -> R (.returned (.tuple #[])) M') : HCalls Tryz.prog 268 #[.agg (cRec r v1 v2).toArray, .pointer (some ⟨jk, 0, none⟩)] M R := by
 refine qD lite (args := [.agg (cRec r v1 v2).toArray, .pointer (some ⟨jk, 0, none⟩)]) Tryz.func268 ?_
 conv => arg 2; cbv
 rw [qR]
 have hlog := qIU w.lg hf hl
 have hks : wI id (log ++ [r]) = wI id log := qJF hlog (by omega)
 have hol := qUV log
 have hor : wV (log ++ [r]) = wV log ++ [(r.stamp, r.try_)] := by rw [qBG, if_pos hk]; rfl
 simp only [wK, seval, wRec]
 refine qC (o := blk (cRec r v1 v2) 280) fun j2 h2 => ?_
 obtain ⟨A, hA⟩ : ∃ A, A = (j2, blk (cRec r v1 v2) 280) :: M := ⟨_, rfl⟩
 have sA : Tk.Sub M A := by rw [hA]; exact Sub.cons h2 (Sub.refl _)
 have gA : hget A j2 = some (blk (cRec r v1 v2) 280) := by rw [hA]; exact qG _ _ _
 have r2 : qV A j2 0 6 = some (cRec r v1 v2) := zD gA rfl
 have wA := w.up sA
 have ck0 : hcel A jk 0 = some (.map (some ks.rp)) := qE wA.q.get rfl
 obtain ⟨es, c, gp, mp⟩ := wA.q.gp
 have shh := Sub.refl A
 rw [<- hA]
 try simp only [wK, seval, wRec]
 refine zC A (Sub.refl _) ?_
 simp only [wK, seval, ck0, r2]
 refine jW ?_
 simp only [wK, seval, shh]
 refine qAH keyA qDP (k := (r.stamp, r.try_)) (v := .agg (cRec r v1 v2).toArray) (by simp only [wK, seval]) (by simp only [wK, seval]) (by simp only [wK, seval]) gp mp fun es' c' mp' => ?_
 obtain ⟨N, hN⟩ : ∃ N, N = hupd A ks.rp (.map es' c') := ⟨_, rfl⟩
 have fN : ∀ y, y ≠ ks.rp -> hget N y = hget A y := fun y q => by rw [hN, qS q]
 have gN : hget N ks.rp = some (.map es' c') := by rw [hN]; exact zH gp
 have qN := wA.q.putP gN fN mp'
 have n2p : j2 ≠ ks.rp := fun e => by rw [e, gp] at gA; cases gA
 have gN2 : hget N j2 = some (blk (cRec r v1 v2) 280) := by rw [fN _ n2p]; exact gA
 have r2N : qV N j2 0 6 = some (cRec r v1 v2) := zD gN2 rfl
 rw [<- hN]
 simp only [wK, seval]
 have sk := qHI qN.get
 have ck2 : hcel [(jk, blk (wS ks.rp ks.re ks.ov ks.vv (uP (wI id log).1)) 210)] jk 2 = some ks.ov := qE (qG _ _ _) rfl
 refine zC _ sk ?_
 simp only [wK, seval, ck2, r2N, sk]
 refine jW ?_
 simp only [wK, seval, sk, eTwo]
 refine qC (o := blk (fl eP [(r.stamp, r.try_)]) 212) fun j7 h7 => ?_
 obtain ⟨B, hB⟩ : ∃ B, B = (j7, blk (fl eP [(r.stamp, r.try_)]) 212) :: N := ⟨_, rfl⟩
 have sB : Tk.Sub N B := by rw [hB]; exact Sub.cons h7 (Sub.refl _)
 have r7 : rLs B eP 2 (.slice (some ⟨j7, 0, none⟩) 1 1) [(r.stamp, r.try_)] := by rw [hB]; exact (xU (e := 212) (j := j7) (l := [(r.stamp, r.try_)]) xB).rd.sub (Sub.cons2 (Sub.nil _))
 have skB := sk.trans sB
 have eB : (j7, blk [.int .i64 r.stamp, .int .i64 r.try_] 212) :: N = B := hB.symm
 have qB := qN.up sB
 first | rw [<- hB] | rw [eB]
 simp only [wK, seval, skB]
 refine qFY xB qJQ zAH zHP qB.od r7 (by rw [List.length_singleton]; omega) (by rw [List.length_singleton]; omega) fun M5 w5 S5 d5 k5 f5 => ?_
 have gk5 : hget M5 jk = some (blk (wS ks.rp ks.re ks.ov ks.vv (uP (wI id log).1)) 210) := by
  rw [k5 jk (by rw [qB.get]; simp) (fun q => (qB.fo jk q).2.1 rfl)]; exact qB.get
 have sk5 := qHI gk5
 obtain ⟨Z, wZ, gZ, fZ⟩ := qBS (vs := [w5]) (o := 2) gk5 (by rw [uH (yN _)]; show 2 + 1 <= 12; omega) (zJD w5)
 have on5 := d5.one
 have vc5 := vc1 on5
 simp only [wK, seval, sk5, on5, vc5, wZ]
 have qZ := qB.app d5 k5 f5 gZ fZ
 refine .of (k Z { ks with pm := mput ks.pm (r.stamp, r.try_) (.agg (cRec r v1 v2).toArray), ov := w5, So := S5 } ⟨?_, qUT w.pr hk (hf.2.1 hk) sr, qWI w.en hk, hlog, by rw [hks]; exact w.vs⟩)
 rw [hks, hor]
 exact qZ
theorem qKK {h M : H} {jk : Nat} {id : Int} {log : List DRec} {ks : KS} {r : DRec} {v1 v2 : Value} (w : KW h M jk id log ks) (hk : r.kind = 3) (hf : vQ log r) (hl : log.length < 400) {R : Ending -> H -> Prop}
  (k : ∀ M' ks', KW h M' jk id (log ++ [r]) ks' -> R (.returned (.tuple #[])) M') : HCalls Tryz.prog 281 #[.agg (cRec r v1 v2).toArray, .pointer (some ⟨jk, 0, none⟩)] M R := by
 refine qD lite (args := [.agg (cRec r v1 v2).toArray, .pointer (some ⟨jk, 0, none⟩)]) Tryz.func281 ?_
 conv => arg 2; cbv
 rw [qR]
 have hlog := qIU w.lg hf hl
 have hks : wI id (log ++ [r]) = wI id log := qJF hlog (by omega)
 have hor : wV (log ++ [r]) = wV log := by rw [qBG, if_neg (by omega), List.append_nil]
 simp only [wK, seval, wRec]
 refine qC (o := blk (cRec r v1 v2) 282) fun j2 h2 => ?_
 obtain ⟨A, hA⟩ : ∃ A, A = (j2, blk (cRec r v1 v2) 282) :: M := ⟨_, rfl⟩
 have sA : Tk.Sub M A := by rw [hA]; exact Sub.cons h2 (Sub.refl _)
 have gA : hget A j2 = some (blk (cRec r v1 v2) 282) := by rw [hA]; exact qG _ _ _
 have r2 : qV A j2 0 6 = some (cRec r v1 v2) := zD gA rfl
 have wA := w.up sA
 have ck1 : hcel A jk 1 = some (.map (some ks.re)) := qE wA.q.get rfl
 obtain ⟨es, c, ge, me⟩ := wA.q.ge
 have shh := Sub.refl A
 rw [<- hA]
 try simp only [wK, seval, wRec]
 refine zC A (Sub.refl _) ?_
 simp only [wK, seval, ck1, r2, shh]
 refine jW ?_
 simp only [wK, seval, shh]
 refine qAH keyA qHF (k := (r.stamp, r.try_)) (v := .int .i64 3) (by simp only [wK, seval]) (by simp only [wK, seval]) (by simp only [wK, seval]) ge me fun es' c' me' => ?_
 obtain ⟨N, hN⟩ : ∃ N, N = hupd A ks.re (.map es' c') := ⟨_, rfl⟩
 have fN : ∀ y, y ≠ ks.re -> hget N y = hget A y := fun y q => by rw [hN, qS q]
 have gN : hget N ks.re = some (.map es' c') := by rw [hN]; exact zH ge
 have qN := wA.q.putE gN fN me'
 rw [<- hN]
 simp only [wK, seval]
 refine .of (k N { ks with em := mput ks.em (r.stamp, r.try_) (.int .i64 3) } ⟨?_, qGJ w.pr (by omega), ?_, hlog, by rw [hks]; exact w.vs⟩)
 ·rw [hks, hor]; exact qN
 ·have := qMU w.en (r := r) (by omega) (hf.2.2 (by omega)).1
  rw [hk] at this
  exact this
end Go.Proofs.YtjioiemhgbkbfaaGreatDoor
end

section
namespace Go.Tk
open Go
theorem qKV {log : List DRec} {st : Kept × List (Int × Int)} {r d : DRec} (hk : r.kind = 2) (hp : yL log r.stamp r.try_ = some d) : vO log st r =
  if d.what = 2 then (setK st.1 (d.slots.headD 0) false, qFM st.2 (d.slots.headD 0)) else if d.what = 3 then (setK st.1 (d.slots.headD 0) true, jO (qFM st.2 (d.slots.headD 0)) r.pairs) else (st.1, jO st.2 r.pairs) := by
 unfold vO
 rw [if_neg (by omega), hp]
end Go.Tk
namespace Go.Proofs.YtjioiemhgbkbfaaGreatDoor
open Go Go.Tk
theorem qSH {h M : H} {jk : Nat} {id : Int} {log : List DRec} {ks : KS} {r : DRec} {v1 v2 : Value} (w : KW h M jk id log ks) (sr : sRec h r v1 v2) (hb : bRec r) (hk : r.kind = 2) (hf : vQ log r) (hl : log.length < 400) {R : Ending -> H -> Prop}
  (k : ∀ M' ks', KW h M' jk id (log ++ [r]) ks' -> R (.returned (.tuple #[])) M') : HCalls Tryz.prog 271 #[.agg (cRec r v1 v2).toArray, .pointer (some ⟨jk, 0, none⟩)] M R := by
 refine yK (args := [.agg (cRec r v1 v2).toArray, .pointer (some ⟨jk, 0, none⟩)]) Tryz.func271 ir271 ?_
 have hlog := qIU w.lg hf hl
 have bp := hb.p
 unfold lim at bp
 obtain ⟨hne, d, hp, hall⟩ := hf.2.2 (by omega)
 have hks : wI id (log ++ [r]) = vO log (wI id log) r := qJE hlog
 rw [qKV hk hp] at hks
 have hor : wV (log ++ [r]) = wV log := by rw [qBG, if_neg (by omega), List.append_nil]
 have hdin := qFK w.lg hp
 have zr := vR
 obtain ⟨i0, hi0, hz0⟩ := qXH
 obtain ⟨d', x, y, b, hV, hbb, sd, hd⟩ := w.look r.stamp r.try_
 rcases hd with ⟨rfl, hp2⟩ | ⟨_, hp2⟩
 rotate_left
 ·rw [hp] at hp2; cases hp2
 rw [hp] at hp2
 obtain rfl := Option.some.inj hp2
 have oned := vX sd
 simp only [wK, seval, wRec]
 refine qC (o := blk (cRec r v1 v2) 281) fun j2 h2 => ?_
 obtain ⟨A, hA⟩ : ∃ A, A = (j2, blk (cRec r v1 v2) 281) :: M := ⟨_, rfl⟩
 have sA : Tk.Sub M A := by rw [hA]; exact Sub.cons h2 (Sub.refl _)
 have gA : hget A j2 = some (blk (cRec r v1 v2) 281) := by rw [hA]; exact qG _ _ _
 have r2 : qV A j2 0 6 = some (cRec r v1 v2) := zD gA rfl
 have wA := w.up sA
 have ck0 : hcel A jk 0 = some (.map (some ks.rp)) := qE wA.q.get rfl
 obtain ⟨es, c, gp, mp⟩ := wA.q.gp
 have shh := Sub.refl A
 rw [<- hA]
 try simp only [wK, seval, wRec]
 refine zC A (Sub.refl _) ?_
 simp only [wK, seval, ck0, r2, qFG]
 refine uN (eTwo (r.stamp, r.try_)) (fun R k => jW k) ?_
 simp only [wK, seval, qFG]
 refine qCW (.agg (cRec d x y).toArray) (fun K X q => ?_) ?_
 ·simp only [wK, seval]
  exact uE keyA qDP hi0 hz0 (k := (r.stamp, r.try_)) (by simp only [wK, seval]) (by simp only [wK, seval]) gp mp hV q
 simp only [wK, seval, shh, zr]
 refine qC (o := blk (cRec zRec (.slice none 0 0) (.slice none 0 0)) 137) fun j4 h4 => ?_
 have s4 : Tk.Sub A ((j4, blk (cRec zRec (.slice none 0 0) (.slice none 0 0)) 137) :: A) := Sub.cons h4 (Sub.refl _)
 simp only [wK, seval, wRec, oned, s4]
 obtain ⟨B, hB⟩ : ∃ B, B = (j4, blk (cRec d x y) 137) :: A := ⟨_, rfl⟩
 have sAB : Tk.Sub A B := by rw [hB]; exact Sub.cons h4 (Sub.refl _)
 have gB4 : hget B j4 = some (blk (cRec d x y) 137) := by rw [hB]; exact qG _ _ _
 have gB2 := sAB _ _ gA
 have r2B : qV B j2 0 6 = some (cRec r v1 v2) := zD gB2 rfl
 have wB := wA.up sAB
 have ck1 : hcel B jk 1 = some (.map (some ks.re)) := qE wB.q.get rfl
 obtain ⟨es2, c2, ge, me⟩ := wB.q.ge
 have shB := Sub.refl B
 try rw [<- hB]
 refine zC B (Sub.refl _) ?_
 simp only [wK, seval, ck1, r2B, shB]
 refine jW ?_
 simp only [wK, seval, shB]
 refine qAH keyA qHF (k := (r.stamp, r.try_)) (v := .int .i64 2) (by simp only [wK, seval]) (by simp only [wK, seval]) (by simp only [wK, seval]) ge me fun es' c' me' => ?_
 obtain ⟨N, hN⟩ : ∃ N, N = hupd B ks.re (.map es' c') := ⟨_, rfl⟩
 have fN : ∀ y, y ≠ ks.re -> hget N y = hget B y := fun y q => by rw [hN, qS q]
 have gN : hget N ks.re = some (.map es' c') := by rw [hN]; exact zH ge
 have qN := wB.q.putE gN fN me'
 have n4 : j4 ≠ ks.re := fun e => by rw [e, ge] at gB4; cases gB4
 have n2 : j2 ≠ ks.re := fun e => by rw [e, ge] at gB2; cases gB2
 have g4N : hget N j4 = some (blk (cRec d x y) 137) := (fN _ n4).trans gB4
 have g2N : hget N j2 = some (blk (cRec r v1 v2) 281) := (fN _ n2).trans gB2
 have c43 : hcel N j4 3 = some (.int .i64 d.what) := qE g4N rfl
 have rx : rInts N x d.slots := rLs.sub qN.sub sd.1
 have hen : endM (mput ks.em (r.stamp, r.try_) (.int .i64 2)) (log ++ [r]) := by
  have := qMU w.en (r := r) (by omega) hne
  rw [hk] at this
  exact this
 have hpr := qGJ w.pr (r := r) (by omega)
 have vs := w.vs
 have shN := Sub.refl N
 rw [<- hN]
 simp only [wK, seval, c43]
 by_cases w1 : d.what = 1
 ·rw [if_neg (by omega), if_neg (by omega)] at hks
  have c25 : hcel N j2 5 = some v2 := qE g2N rfl
  have ckv : hcel N jk 11 = some ks.vv := qE qN.get (qJX (yN _))
  simp only [wK, seval, w1, decide_true]
  refine zC N (Sub.refl _) ?_
  simp only [wK, seval, ckv, c25, shN]
  refine qIP qN.vl.rd (rLs.sub qN.sub sr.2) (by omega) (by omega) fun M' b S s' d' f' => ?_
  have ob := d'.one
  have vb := vc1 ob
  have gk := s' _ _ qN.get
  obtain ⟨Z, wZ, gZ, fZ⟩ := qBS (vs := [b]) (o := 11) gk (by rw [uH (yN _)]; show 11 + 1 <= 12; omega) (qJY (yN _) b)
  simp only [wK, seval, s', ob, vb, wZ]
  have qZ := qN.val s' d' f' gZ fZ
  refine .of (k Z { ks with em := mput ks.em (r.stamp, r.try_) (.int .i64 2), vv := b, Sv := S } ⟨?_, hpr, hen, hlog, by rw [hks]; exact qXP _ _⟩)
  rw [hks, hor]
  rw [qOE] at qZ
  exact qZ
 ·simp only [wK, seval, w1, decide_false]
  by_cases w2 : d.what = 2
  ·rw [if_pos w2] at hks
   simp only [wK, seval, w2, decide_true]
   have hs1 : d.slots.length = 1 := by
    rcases hdin.2.2.2.2.2 with q | q
    ·omega
    ·exact q
   obtain ⟨s0, hs0⟩ : ∃ s0, d.slots = [s0] := by
    match hds : d.slots, hs1 with
    | [s0], _ => exact ⟨s0, rfl⟩
   have hin0 : 0 <= s0 /\ s0 <= 7 := hdin.2.2.2.2.1.1 s0 (by rw [hs0]; simp)
   obtain ⟨nn, hnn⟩ : ∃ nn : Nat, s0 = (nn : Int) := ⟨s0.toNat, by omega⟩
   have etn : s0.toNat = nn := by omega
   obtain ⟨bx, ox, hx, ex⟩ := yU (i := 0) (enc := eI) (sz := 1) yM rx (by rw [hs0]; simp)
   have fx : hcel N bx ox = some (.int .i64 s0) := by
    have := zK ex 0 rfl
    simpa [hs0] using this
   have hx0 : ∀ (kd : IntKind) (f : Value -> Prop), vI x (.int kd 0) 1 f = f (.pointer (some ⟨bx, ox, none⟩)) := hx
   have c44 : hcel N j4 4 = some x := qE g4N rfl
   refine zC N (Sub.refl _) ?_
   simp only [wK, seval, c44, hx0, fx, shN]
   refine ⟨⟨by omega, by omega⟩, ?_⟩
   obtain ⟨Z, wZ, gZ, fZ⟩ := qBS (vs := [.bool false]) (o := 3 + nn) qN.get (by rw [uH (yN _)]; show 3 + nn + 1 <= 12; omega) (qJZ (yN _) (by omega) false)
   simp (disch := omega) only [wK, seval, etn, Nat.mul_one, wZ, shN]
   have hset : (uP (wI id log).1).set nn false = uP (setK (wI id log).1 s0 false) := by rw [<- etn]; exact qMI _ hin0 false
   rw [hset] at gZ
   have qZ := qN.kept (yN _) gZ fZ
   have jk4 : j4 ≠ jk := fun e => by rw [e, qN.get] at g4N; exact absurd (qPG (Option.some.inj g4N)) (by decide)
   have jk2 : j2 ≠ jk := fun e => by rw [e, qN.get] at g2N; exact absurd (qPG (Option.some.inj g2N)) (by decide)
   have c44Z : hcel Z j4 4 = some x := qE ((fZ _ jk4).trans g4N) rfl
   have c25Z : hcel Z j2 5 = some v2 := qE ((fZ _ jk2).trans g2N) rfl
   have ckvZ : hcel Z jk 11 = some ks.vv := qE qZ.get (qJX (yN _))
   have rxZ : rInts Z x [s0] := by rw [<- hs0]; exact rLs.sub qZ.sub sd.1
   have rpZ : rPairs Z v2 r.pairs := rLs.sub qZ.sub sr.2
   have shZ := Sub.refl Z
   refine zC Z (Sub.refl _) ?_
   simp only [wK, seval, ckvZ, c44Z, shZ]
   refine qCY qZ.vl.rd rxZ (by simp) (by omega) fun M' b S s' d' f' => ?_
   have ob := d'.one
   have vb := vc1 ob
   have gk := s' _ _ qZ.get
   obtain ⟨Y, wY, gY, fY⟩ := qBS (vs := [b]) (o := 11) gk (by rw [uH (yN _)]; show 11 + 1 <= 12; omega) (qJY (yN _) b)
   simp only [wK, seval, s', ob, vb, wY]
   have qY := qZ.val s' d' f' gY fY
   have hh : d.slots.headD 0 = s0 := by rw [hs0]; rfl
   rw [hh] at hks
   refine .of (k Y { ks with em := mput ks.em (r.stamp, r.try_) (.int .i64 2), vv := b, Sv := S } ⟨?_, hpr, hen, hlog, by rw [hks]; exact Nat.le_trans (List.length_filter_le _ _) vs⟩)
   rw [hks, hor]
   rw [qQS] at qY
   exact qY
  ·have w3 : d.what = 3 := by have := hdin.2.2.1; unfold inP at this; omega
   rw [if_neg w2, if_pos w3] at hks
   simp only [wK, seval, w3, decide_true, decide_false, Int.reduceEq]
   have hs1 : d.slots.length = 1 := by
    rcases hdin.2.2.2.2.2 with q | q
    ·omega
    ·exact q
   obtain ⟨s0, hs0⟩ : ∃ s0, d.slots = [s0] := by
    match hds : d.slots, hs1 with
    | [s0], _ => exact ⟨s0, rfl⟩
   have hin0 : 0 <= s0 /\ s0 <= 7 := hdin.2.2.2.2.1.1 s0 (by rw [hs0]; simp)
   obtain ⟨nn, hnn⟩ : ∃ nn : Nat, s0 = (nn : Int) := ⟨s0.toNat, by omega⟩
   have etn : s0.toNat = nn := by omega
   obtain ⟨bx, ox, hx, ex⟩ := yU (i := 0) (enc := eI) (sz := 1) yM rx (by rw [hs0]; simp)
   have fx : hcel N bx ox = some (.int .i64 s0) := by
    have := zK ex 0 rfl
    simpa [hs0] using this
   have hx0 : ∀ (kd : IntKind) (f : Value -> Prop), vI x (.int kd 0) 1 f = f (.pointer (some ⟨bx, ox, none⟩)) := hx
   have c44 : hcel N j4 4 = some x := qE g4N rfl
   refine zC N (Sub.refl _) ?_
   simp only [wK, seval, c44, hx0, fx, shN]
   refine ⟨⟨by omega, by omega⟩, ?_⟩
   obtain ⟨Z, wZ, gZ, fZ⟩ := qBS (vs := [.bool true]) (o := 3 + nn) qN.get (by rw [uH (yN _)]; show 3 + nn + 1 <= 12; omega) (qJZ (yN _) (by omega) true)
   simp (disch := omega) only [wK, seval, etn, Nat.mul_one, wZ, shN]
   have hset : (uP (wI id log).1).set nn true = uP (setK (wI id log).1 s0 true) := by rw [<- etn]; exact qMI _ hin0 true
   rw [hset] at gZ
   have qZ := qN.kept (yN _) gZ fZ
   have jk4 : j4 ≠ jk := fun e => by rw [e, qN.get] at g4N; exact absurd (qPG (Option.some.inj g4N)) (by decide)
   have jk2 : j2 ≠ jk := fun e => by rw [e, qN.get] at g2N; exact absurd (qPG (Option.some.inj g2N)) (by decide)
   have c44Z : hcel Z j4 4 = some x := qE ((fZ _ jk4).trans g4N) rfl
   have c25Z : hcel Z j2 5 = some v2 := qE ((fZ _ jk2).trans g2N) rfl
   have ckvZ : hcel Z jk 11 = some ks.vv := qE qZ.get (qJX (yN _))
   have rxZ : rInts Z x [s0] := by rw [<- hs0]; exact rLs.sub qZ.sub sd.1
   have rpZ : rPairs Z v2 r.pairs := rLs.sub qZ.sub sr.2
   have shZ := Sub.refl Z
   refine zC Z (Sub.refl _) ?_
   simp only [wK, seval, ckvZ, c44Z, c25Z, shZ]
   refine qCY qZ.vl.rd rxZ (by simp) (by omega) fun M0 b0 S0 s0' d0 f0 => ?_
   simp only [wK, seval, s0']
   have hlf : ((wI id log).2.filter fun p => !yX [s0] p).length <= 32 := Nat.le_trans (List.length_filter_le _ _) vs
   refine qIP d0.rd (rLs.sub s0' rpZ) (by omega) (by omega) fun M' b S s' d' f' => ?_
   have ob := d'.one
   have vb := vc1 ob
   have sZ' := s0'.trans s'
   have gk := sZ' _ _ qZ.get
   obtain ⟨Y, wY, gY, fY⟩ := qBS (vs := [b]) (o := 11) gk (by rw [uH (yN _)]; show 11 + 1 <= 12; omega) (qJY (yN _) b)
   simp only [wK, seval, sZ', ob, vb, wY]
   have qY := qZ.val sZ' d' (fun x q => s0'.none' (f' x q)) gY fY
   have hh : d.slots.headD 0 = s0 := by rw [hs0]; rfl
   rw [hh] at hks
   refine .of (k Y { ks with em := mput ks.em (r.stamp, r.try_) (.int .i64 2), vv := b, Sv := S } ⟨?_, hpr, hen, hlog, by rw [hks]; exact qXP _ _⟩)
   rw [hks, hor]
   rw [qQS, qOE] at qY
   exact qY
end Go.Proofs.YtjioiemhgbkbfaaGreatDoor
end

section
namespace Go.Tk
open Go
theorem zCD {log : List DRec} {r : DRec} (hk : r.kind = 1) : vQ log r ↔ (qMW r.stamp r.try_ r.what r.slots /\ r.pairs = [] /\ yL log r.stamp r.try_ = none) := by
 unfold vQ recP
 constructor
 ·rintro ⟨a, b, _⟩
  rcases a with a | a
  ·exact ⟨a.2.1, a.2.2, b hk⟩
  ·exact absurd hk a.1
 ·rintro ⟨a, b, c⟩
  exact ⟨.inl ⟨hk, a, b⟩, fun _ => c, fun n => absurd hk n⟩
theorem qMR {log : List DRec} {r : DRec} (hl : logP log) (hk : r.kind = 2 ∨ r.kind = 3) : vQ log r ↔ ((r.what = 0 /\ r.slots = [] /\ xI r.pairs /\ vU log r.stamp r.try_ = false /\ ∃ p, yL log r.stamp r.try_ = some p /\ r.pairs.all (yX p.slots) = true) /\ (r.kind = 3 -> r.pairs = [])) := by
 have hn : r.kind ≠ 1 := by omega
 unfold vQ recP
 constructor
 ·rintro ⟨a, _, c⟩
  obtain ⟨c1, c2⟩ := c hn
  rcases a with a | a
  ·exact absurd a.1 hn
  ·refine ⟨⟨a.2.2.2.2.1, a.2.2.2.2.2.1, a.2.2.2.2.2.2, c1, c2⟩, fun h3 => ?_⟩
   rcases a.2.1 with q | q
   ·omega
   ·exact q.2
 ·rintro ⟨⟨a1, a2, a3, a4, p, hp, ha⟩, b⟩
  have hd := qFK hl hp
  obtain ⟨_, _, e1, e2⟩ := qIN hp
  rw [e1, e2] at hd
  refine ⟨.inr ⟨hn, ?_, hd.1, hd.2.1, a1, a2, a3⟩, fun c => absurd c hn, fun _ => ⟨a4, p, hp, ha⟩⟩
  rcases hk with q | q
  ·exact .inl q
  ·exact .inr ⟨q, b q⟩
theorem qJN {log : List DRec} {r : DRec} (h : vQ log r) : r.kind = 1 ∨ r.kind = 2 ∨ r.kind = 3 := by
 rcases h.1 with a | a
 ·exact .inl a.1
 ·rcases a.2.1 with q | q
  ·exact .inr (.inl q)
  ·exact .inr (.inr q.1)
def qBK (id : Int) (i : Nat) : List Bool := (List.range 8).map fun (j : Nat) => decide (j < i) && qCT id (j : Int)
theorem jF (id : Int) (i : Nat) : (qBK id i).length = 8 := by simp [qBK]
theorem qVJ (id : Int) : qBK id 0 = [false, false, false, false, false, false, false, false] := by simp [qBK, List.range, List.range.loop]
theorem qMH (id : Int) (i : Nat) {j : Nat} (h : j < 8) : (qBK id i)[j]? = some (decide (j < i) && qCT id (j : Int)) := by
 unfold qBK
 rw [List.getElem?_map, List.getElem?_range h]; rfl
theorem qVK (id : Int) {i : Nat} (h : i < 8) : (qBK id i).set i (qCT id (i : Int)) = qBK id (i + 1) := by
 apply List.ext_getElem?
 intro j
 rcases Nat.lt_or_ge j 8 with h8 | h8
 ·rw [qMH _ _ h8]
  by_cases e : i = j
  ·subst e
   rw [List.getElem?_set_self (by rw [jF]; omega)]
   simp
  ·rw [List.getElem?_set_ne e, qMH _ _ h8]
   by_cases c : j < i
   ·simp [c, show j < i + 1 by omega]
   ·simp [c, show ¬ j < i + 1 by omega]
 ·rw [List.getElem?_eq_none (by rw [List.length_set, jF]; exact h8), List.getElem?_eq_none (by rw [jF]; exact h8)]
theorem qVL (id : Int) : qBK id 8 = uP (qCT id) := by
 unfold qBK uP
 refine List.map_congr_left fun j hj => ?_
 have := List.mem_range.1 hj
 simp [this]
end Go.Tk
namespace Go.Proofs.YtjioiemhgbkbfaaGreatDoor
open Go Go.Tk
def entV (r : DRec) (v1 v2 : Value) : Value := if r.kind = 1 then .iface 280 (.agg (cRec r v1 v2).toArray) else if r.kind = 2 then .iface 281 (.agg (cRec r v1 v2).toArray) else .iface 282 (.agg (cRec r v1 v2).toArray)
theorem zCM {h : H} {r : DRec} {v1 v2 : Value} {R : Ending -> H -> Prop} (k1 : (r.kind = 1 ∨ r.kind = 2 ∨ r.kind = 3) -> R (.returned (.tuple #[entV r v1 v2, .bool true])) h) (k2 : ¬ (r.kind = 1 ∨ r.kind = 2 ∨ r.kind = 3) -> R (.returned (.tuple #[.nilIface, .bool false])) h) :
  HCalls Tryz.prog 161 #[.agg (cRec r v1 v2).toArray] h R := by
 refine qD lite (args := [.agg (cRec r v1 v2).toArray]) Tryz.func161 ?_
 conv => arg 2; cbv
 rw [qR]
 have zr := vR
 unfold entV at k1
 simp only [wK, seval, wRec, zr]
 refine qC (o := blk (cRec r v1 v2) 137) fun j1 h1 => ?_
 obtain ⟨A, hA⟩ : ∃ A, A = (j1, blk (cRec r v1 v2) 137) :: h := ⟨_, rfl⟩
 have sA : Tk.Sub h A := by rw [hA]; exact Sub.cons h1 (Sub.refl _)
 have gA : hget A j1 = some (blk (cRec r v1 v2) 137) := by rw [hA]; exact qG _ _ _
 have r1 : qV A j1 0 6 = some (cRec r v1 v2) := zD gA rfl
 have c0 : hcel A j1 0 = some (.int .i64 r.kind) := qE gA rfl
 rw [<- hA]
 try simp only [wK, seval, wRec, zr, c0]
 by_cases e1 : r.kind = 1
 ·have := k1 (.inl e1)
  rw [if_pos e1] at this
  simp only [wK, seval, e1, decide_true, r1, wRec, zr]
  exact ⟨h, sA, this⟩
 simp only [wK, seval, e1, decide_false]
 by_cases e2 : r.kind = 2
 ·have := k1 (.inr (.inl e2))
  rw [if_neg e1, if_pos e2] at this
  simp only [wK, seval, e2, decide_true, r1, wRec, zr]
  exact ⟨h, sA, this⟩
 simp only [wK, seval, e2, decide_false]
 by_cases e3 : r.kind = 3
 ·have := k1 (.inr (.inr e3))
  rw [if_neg e1, if_neg e2] at this
  simp only [wK, seval, e3, decide_true, r1, wRec, zr]
  exact ⟨h, sA, this⟩
 simp only [wK, seval, e3, decide_false]
 exact ⟨h, sA, k2 fun q => by omega⟩
theorem zHW {h M : H} {jk : Nat} {id : Int} {log : List DRec} {ks : KS} {r : DRec} {v1 v2 : Value} (w : KW h M jk id log ks) (sr : sRec M r v1 v2) (hb : bRec r) (hk : r.kind = 1 ∨ r.kind = 2 ∨ r.kind = 3) {R : Ending -> H -> Prop} (k : Asks R (vQ log r) M) :
  invK Tryz.prog (entV r v1 v2) "loop.example/turnpike/impl.fits" [.pointer (some ⟨jk, 0, none⟩)] M R := by
 unfold entV
 by_cases e1 : r.kind = 1
 ·rw [if_pos e1]
  refine ⟨269, .agg (cRec r v1 v2).toArray, by kernel_rfl, by kernel_rfl, qUU w sr hb fun b hb2 => k b (hb2.trans (zCD e1).symm)⟩
 ·rw [if_neg e1]
  by_cases e2 : r.kind = 2
  ·rw [if_pos e2]
   refine ⟨272, .agg (cRec r v1 v2).toArray, by kernel_rfl, by kernel_rfl, qWK w sr hb fun b hb2 => k b (hb2.trans ?_)⟩
   rw [qMR w.lg (.inl e2)]
   exact ⟨fun q => ⟨q, fun c => by omega⟩, fun q => q.1⟩
  ·rw [if_neg e2]
   have e3 : r.kind = 3 := by omega
   refine ⟨282, .agg (cRec r v1 v2).toArray, by kernel_rfl, by kernel_rfl, qNJ w sr hb fun b hb2 => k b (hb2.trans ?_)⟩
   rw [qMR w.lg (.inr e3)]
   exact ⟨fun q => ⟨q.1, fun _ => q.2⟩, fun q => ⟨q.1, q.2 e3⟩⟩
theorem zDD {h M : H} {jk : Nat} {id : Int} {log : List DRec} {ks : KS} {r : DRec} {v1 v2 : Value} (w : KW h M jk id log ks) (sr : sRec h r v1 v2) (hb : bRec r) (hf : vQ log r) (hl : log.length < 400) {R : Ending -> H -> Prop} (k : ∀ M' ks', KW h M' jk id (log ++ [r]) ks' -> R (.returned (.tuple #[])) M') :
  invK Tryz.prog (entV r v1 v2) "loop.example/turnpike/impl.apply" [.pointer (some ⟨jk, 0, none⟩)] M R := by
 have hk := qJN hf
 unfold entV
 by_cases e1 : r.kind = 1
 ·rw [if_pos e1]
  exact ⟨268, .agg (cRec r v1 v2).toArray, by kernel_rfl, by kernel_rfl, qQM w sr e1 hf hl k⟩
 ·rw [if_neg e1]
  by_cases e2 : r.kind = 2
  ·rw [if_pos e2]
   exact ⟨271, .agg (cRec r v1 v2).toArray, by kernel_rfl, by kernel_rfl, qSH w sr hb e2 hf hl k⟩
  ·rw [if_neg e2]
   have e3 : r.kind = 3 := by omega
   exact ⟨281, .agg (cRec r v1 v2).toArray, by kernel_rfl, by kernel_rfl, qKK w e3 hf hl k⟩
end Go.Proofs.YtjioiemhgbkbfaaGreatDoor
end

section
namespace Go.Proofs.YtjioiemhgbkbfaaGreatDoor
open Go Go.Tk
theorem qRO {h : H} {v : Value} {id : Int} {log : List DRec} (r : rRs h (rRec h) 6 v log) (hb : ∀ x ∈ log, bRec x) (hl : log.length <= 1048576) {R : Ending -> H -> Prop}
  (k : ∀ M' jk ok, Tk.Sub h M' -> (ok = true ↔ logP log) -> (ok = true -> ∃ ks, KW h M' jk id log ks) -> R (.returned (.tuple #[.pointer (some ⟨jk, 0, none⟩), .bool ok])) M') :
  HCalls Tryz.prog 122 #[.int .i64 id, v] h R := by
 refine qD lite (args := [.int .i64 id, v]) Tryz.func122 ?_
 conv => arg 2; cbv
 rw [qR]
 have zr := vR
 simp only [wK, seval]
 refine qIL fun rp hp => ?_
 simp only [wK, seval]
 refine qIL fun re he => ?_
 have hre : hget h re = none /\ rp ≠ re := by
  rw [zM] at he
  split at he
  ·cases he
  ·rename_i c; exact ⟨he, fun e => c e.symm⟩
 simp only [wK, seval]
 refine qC (o := blk (wS rp re (.slice none 0 0) (.slice none 0 0) [false, false, false, false, false, false, false, false]) 210) fun jk hj => ?_
 have hjk : hget h jk = none /\ jk ≠ rp /\ jk ≠ re := by
  rw [zM] at hj
  split at hj
  ·cases hj
  ·rename_i c
   rw [zM] at hj
   split at hj
   ·cases hj
   ·rename_i c2; exact ⟨hj, c2, c⟩
 obtain ⟨A, hA⟩ : ∃ A, A = (jk, blk (wS rp re (.slice none 0 0) (.slice none 0 0) [false, false, false, false, false, false, false, false]) 210) :: (re, Obj.map #[] 0) :: (rp, Obj.map #[] 0) :: h := ⟨_, rfl⟩
 have sA : Tk.Sub h A := by rw [hA]; exact (Sub.cons hp (Sub.refl _)).trans ((Sub.cons he (Sub.refl _)).trans (Sub.cons hj (Sub.refl _)))
 have gA : hget A jk = some (blk (wS rp re (.slice none 0 0) (.slice none 0 0) [false, false, false, false, false, false, false, false]) 210) := by rw [hA]; exact qG _ _ _
 have gre : hget A re = some (.map #[] 0) := by rw [hA, xE _ _ _ (Ne.symm hjk.2.2)]; exact qG _ _ _
 have grp : hget A rp = some (.map #[] 0) := by rw [hA, xE _ _ _ (Ne.symm hjk.2.1), xE _ _ _ hre.2]; exact qG _ _ _
 have qA : KQ h A jk ⟨rp, re, .slice none 0 0, .slice none 0 0, [], [], fun _ => False, fun _ => False⟩ [false, false, false, false, false, false, false, false] [] [] :=
  ⟨sA, rfl, gA, ⟨#[], 0, grp, rfl⟩, ⟨#[], 0, gre, rfl⟩, dL.nil, dL.nil, hjk.1, hp, hre.1, hjk.2.1, hjk.2.2, hre.2, fun _ q => q.elim, fun _ q => q.elim, fun _ q => q.elim⟩
 have eA : (jk, blk [.map (some rp), .map (some re), .slice none 0 0, .bool false, .bool false, .bool false, .bool false, .bool false, .bool false, .bool false, .bool false, .slice none 0 0] 210) :: (re, Obj.map #[] 0) :: (rp, Obj.map #[] 0) :: h = A := hA.symm
 first | rw [<- hA] | rw [eA]
 rw [<- qVJ id] at qA
 simp only [wK, seval, r.len]
 refine qF (fun e => .of (k A jk false sA ⟨fun c => (by cases c), fun c => by have := c.1; omega⟩ fun c => by cases c)) fun e400 => ?_
 try simp only [wK, seval]
 refine qJI fun ow g o d => ?_
 obtain ⟨M, hM⟩ : ∃ M, M = g ++ A := ⟨_, rfl⟩
 have sM : Tk.Sub A M := by rw [hM]; exact Sub.right d
 have sgM : Tk.Sub g M := by rw [hM]; exact Sub.left _ _
 have ro : rInts M ow map0.owners := o.rd.sub sgM
 have gjk : hget g jk = none := Classical.byContradiction fun c => by have := d jk c; rw [gA] at this; cases this
 have l8 : map0.owners.length = 8 := by simp [map0]
 have own : ∀ (i : Nat) (hi : i < map0.owners.length), map0.owners[i] = (i : Int).tmod 3 := fun i hi => by simp [map0]
 have qM := qA.up sM
 rw [<- hM]
 simp only [wK, seval, wMap, ro.len, l8]
 refine qP [24] (fun n vs M' => ∃ i : Nat, vs = [.int .i64 i] /\ Tk.Sub g M' /\ KQ h M' jk ⟨rp, re, .slice none 0 0, .slice none 0 0, [], [], fun _ => False, fun _ => False⟩ (qBK id i) [] [] /\ i <= 8 /\ n = 8 - i) 8 rfl ⟨0, rfl, sgM, qM, by omega, rfl⟩ ?_
 rintro n f M1 ⟨i, hv, sg1, q1, hi, rfl⟩
 simp only [lm4] at hv
 simp only [wK, seval, wr, hv]
 refine qF (fun c => ?_) fun c => ?_
 ·have hi2 : i < map0.owners.length := by omega
  obtain ⟨bx, ox, hx, ex⟩ := yU (enc := eI) (sz := 1) yM (o.rd.sub sg1) hi2
  rw [own i hi2] at ex
  have fx : hcel M1 bx ox = some (.int .i64 ((i : Int).tmod 3)) := zK ex 0 rfl
  have hmo := qVK id (i := i) (by omega)
  unfold qCT at hmo
  obtain ⟨bv, hbv⟩ : ∃ bv, bv = decide ((i : Int).tmod 3 = id) := ⟨_, rfl⟩
  rw [<- hbv] at hmo
  obtain ⟨Z, wZ, gZ, fZ⟩ := qBS (vs := [.bool bv]) (o := 3 + i) q1.get (by rw [uH (jF _ _)]; show 3 + i + 1 <= 12; omega) (qJZ (jF _ _) (by omega) bv)
  rw [hmo] at gZ
  have qZ := q1.kept (jF _ _) gZ fZ
  have rZ : Tk.Sub g Z := fun y z e => by
   have n1 : y ≠ jk := fun c => by rw [c, gjk] at e; cases e
   rw [fZ y n1]; exact sg1 _ _ e
  simp only [wK, seval, hx, fx, <- hbv]
  refine ⟨⟨by omega, by omega⟩, ?_⟩
  simp (disch := omega) only [wK, seval, Int.toNat_natCast, Nat.mul_one, wZ, qK]
  exact ⟨8 - (i + 1), by omega, Z, .refl _, i + 1, by simp, rZ, qZ, by omega, rfl⟩
 have hi8 : i = 8 := by omega
 rw [hi8, qVL] at q1
 have w0 : KW h M1 jk id [] ⟨rp, re, .slice none 0 0, .slice none 0 0, [], [], fun _ => False, fun _ => False⟩ := ⟨q1, zBA h, zIP, logP.nil, by simp [wI, qJG]⟩
 simp only [wK, seval, r.len]
 refine qP [40] (fun n vs M' => ∃ (i : Nat) (ks : KS), vs = [.int .i64 i] /\ KW h M' jk id (log.take i) ks /\ i <= log.length /\ n = log.length - i) log.length rfl ⟨0, _, rfl, by simpa using w0, by omega, rfl⟩ ?_
 rintro n f2 M2 ⟨i2, ks, hv2, w2, hi2, rfl⟩
 simp only [lm4] at hv2
 simp only [wK, seval, wr, hv2]
 refine qF (fun c => ?_) fun c => ?_
 ·have hi3 : i2 < log.length := by omega
  obtain ⟨b1, o1, cs, hx, e1, va, vb, rfl, sr⟩ := zU r hi3
  obtain ⟨x, hxx⟩ : ∃ x, x = log[i2] := ⟨_, rfl⟩
  have bx : bRec x := hxx ▸ hb _ (List.getElem_mem hi3)
  have htk : log.take (i2 + 1) = log.take i2 ++ [x] := by rw [hxx]; exact yH hi3
  have hlen : (log.take i2).length = i2 := by rw [List.length_take]; omega
  rw [<- hxx] at e1 sr
  have one := vX sr
  have e1M := kS w2.q.sub e1
  simp only [wK, seval, hx, e1M, zr, wRec]
  refine qC (o := blk (cRec zRec (.slice none 0 0) (.slice none 0 0)) 137) fun j10 h10 => ?_
  try simp only [wK, seval, zr, wRec, one]
  obtain ⟨B, hB⟩ : ∃ B, B = (j10, blk (cRec x va vb) 137) :: M2 := ⟨_, rfl⟩
  have sB : Tk.Sub M2 B := by rw [hB]; exact Sub.cons h10 (Sub.refl _)
  have gB : hget B j10 = some (blk (cRec x va vb) 137) := by rw [hB]; exact qG _ _ _
  have rd : qV B j10 0 6 = some (cRec x va vb) := zD gB rfl
  have wB := w2.up sB
  have no : ¬ vQ (log.take i2) x -> ¬ logP log := fun e y => e (by have := y.2 i2 hi3; rw [<- hxx] at this; exact this)
  rw [<- hB]
  try simp only [wK, seval, rd]
  refine zCM (fun hk => ?_) fun hk => ?_
  ·simp only [wK, seval]
   refine zHW wB (sRec.sub wB.q.sub sr) bx hk fun q1 k1 => ?_
   cases q1 with
   | false =>
    simp only [wK, seval]
    exact .of (k B jk false wB.q.sub ⟨fun c => (by cases c), fun c => absurd c (no (qW k1 rfl))⟩ fun c => by cases c)
   | true =>
    simp only [wK, seval]
    refine zDD wB sr bx (k1.1 rfl) (by omega) fun M' ks' w' => ?_
    simp (disch := omega) only [wK, seval, qK]
    exact ⟨log.length - (i2 + 1), by omega, M', .refl _, i2 + 1, ks', by simp, by rw [htk]; exact w', by omega, rfl⟩
  ·simp only [wK, seval]
   exact .of (k B jk false wB.q.sub ⟨fun c => (by cases c), fun c => absurd c (no fun q => hk (qJN q))⟩ fun c => by cases c)
 ·have hi3 : i2 = log.length := by omega
  rw [hi3, List.take_length] at w2
  try simp only [wK, seval]
  exact .of (k M2 jk true w2.q.sub ⟨fun _ => w2.lg, fun _ => rfl⟩ fun _ => ⟨ks, w2⟩)
theorem qXR {h M : H} {jk : Nat} {id : Int} {log : List DRec} {ks : KS} (w : KW h M jk id log ks) {R : Ending -> H -> Prop} (k : ∀ M' v, Tk.Sub M M' -> rRs M' (rRec M') 6 v (uY log) -> R (.returned v) M') :
  HCalls Tryz.prog 76 #[.pointer (some ⟨jk, 0, none⟩)] M R := by
 refine qD lite (args := [.pointer (some ⟨jk, 0, none⟩)]) Tryz.func76 ?_
 conv => arg 2; cbv
 rw [qR]
 have zr := vR
 have ck2 : hcel M jk 2 = some ks.ov := qE w.q.get rfl
 have ro := w.q.od.rd
 have ll : (wV log).length = (prs log).length := by unfold wV prs; rw [List.length_map]
 have l4 : (prs log).length <= 400 := Nat.le_trans (List.length_filter_le _ _) w.lg.1
 obtain ⟨L, hL⟩ : ∃ L, L = prs log := ⟨_, rfl⟩
 obtain ⟨P, hP⟩ : ∃ P : DRec -> Bool, P = fun r => !vU log r.stamp r.try_ := ⟨_, rfl⟩
 rw [zBD, <- hL, <- hP] at k
 rw [<- hL] at ll l4
 obtain ⟨i0, hi0, hz0⟩ := qXH
 obtain ⟨i1, hi1, hz1⟩ := zEndI
 simp only [wK, seval, ck2, ro.len]
 refine qP [11, 3] (fun n vs M' => ∃ (i : Nat) (v : Value) (G : H), vs = [.int .i64 i, v] /\ M' = G ++ M /\ Dj G M /\ oRs 137 (rRec h) 6 v ((L.take i).filter P) G /\ i <= L.length /\ n = L.length - i) L.length rfl ⟨0, _, [], rfl, rfl, Dj.nil _, oRs.nil _ _ _, by omega, rfl⟩ ?_
 rintro n f M' ⟨i, v, G, hv, rfl, dG, oG, hi, rfl⟩
 simp only [lm4] at hv
 simp only [wK, seval, wr, hv.1, hv.2]
 refine qF (fun c => ?_) fun c => ?_
 ·have hi2 : i < L.length := by omega
  obtain ⟨x, hxx⟩ : ∃ x, x = L[i] := ⟨_, rfl⟩
  have hio : i < (wV log).length := by omega
  have hat : (wV log)[i] = (x.stamp, x.try_) := by
   have : wV log = L.map kOf := by rw [hL]; rfl
   simp only [this, List.getElem_map, hxx]; rfl
  have hpx : yL log x.stamp x.try_ = some x := zGF w.lg x (by rw [hxx, <- hL]; exact List.getElem_mem hi2)
  have hmo := kB (p := P) hi2
  have hle := vZ P L i
  rw [<- hxx] at hmo
  have sG : Tk.Sub M (G ++ M) := Sub.right dG
  obtain ⟨bx, ox, hx, ex⟩ := yU (enc := eP) (sz := 2) xB (ro.sub sG) hio
  rw [hat] at ex
  unfold eP at ex
  simp only [wK, seval, hx, ex]
  refine qC (o := blk [.int .i64 0, .int .i64 0] 212) fun j5 h5 => ?_
  try simp only [wK, seval]
  obtain ⟨B, hB⟩ : ∃ B, B = (j5, blk [.int .i64 x.stamp, .int .i64 x.try_] 212) :: (G ++ M) := ⟨_, rfl⟩
  have sB0 : Tk.Sub (G ++ M) B := by rw [hB]; exact Sub.cons h5 (Sub.refl _)
  have sB : Tk.Sub M B := sG.trans sB0
  have gB : hget B j5 = some (blk [.int .i64 x.stamp, .int .i64 x.try_] 212) := by rw [hB]; exact qG _ _ _
  have r5 : qV B j5 0 2 = some [.int .i64 x.stamp, .int .i64 x.try_] := zD gB rfl
  have wB := w.up sB
  have ck0 : hcel B jk 0 = some (.map (some ks.rp)) := qE wB.q.get rfl
  have ck1 : hcel B jk 1 = some (.map (some ks.re)) := qE wB.q.get rfl
  obtain ⟨es, c1, gp, mp⟩ := wB.q.gp
  obtain ⟨es2, c2, ge, me⟩ := wB.q.ge
  obtain ⟨d, va, vb, b, hV, hbb, sd, hd⟩ := w.look x.stamp x.try_
  obtain ⟨nn, eb, hN, hnb, hen, hz⟩ := w.ends x.stamp x.try_
  rcases hd with ⟨rfl, hp2⟩ | ⟨_, hp2⟩
  rotate_left
  ·rw [hpx] at hp2; cases hp2
  rw [hpx] at hp2
  obtain rfl := Option.some.inj hp2
  have oned := vX sd
  have shB := Sub.refl B
  have hPx : P x = !eb := by rw [hP, hen]
  rw [<- hB]
  try simp only [wK, seval]
  refine zC B (Sub.refl _) ?_
  simp only [wK, seval, ck1, r5, shB]
  refine uE keyA qHF hi1 hz1 (k := (x.stamp, x.try_)) (by simp only [wK, seval]) (by simp only [wK, seval]; rfl) ge me hN ?_
  simp only [wK, seval, shB, hz]
  cases eb with
  | true =>
   simp (disch := omega) only [wK, seval, Bool.not_true, qK]
   exact ⟨L.length - (i + 1), by omega, G ++ M, sB0, i + 1, v, G, by simp, rfl, dG, by rw [hmo, hPx]; simpa using oG, by omega, rfl⟩
  | false =>
   simp only [wK, seval, Bool.not_false]
   have sk := qHI wB.q.get
   have ck0s : hcel [(jk, blk (wS ks.rp ks.re ks.ov ks.vv (uP (wI id log).1)) 210)] jk 0 = some (.map (some ks.rp)) := qE (qG _ _ _) rfl
   refine zC _ sk ?_
   simp only [wK, seval, ck0s, r5, sk]
   refine uE keyA qDP hi0 hz0 (k := (x.stamp, x.try_)) (by simp only [wK, seval]) (by simp only [wK, seval]; rfl) gp mp hV ?_
   simp only [wK, seval, sk, zr, wRec]
   refine qC (o := blk (cRec x va vb) 137) fun j9 h9 => ?_
   obtain ⟨C, hC⟩ : ∃ C, C = (j9, blk (cRec x va vb) 137) :: B := ⟨_, rfl⟩
   have sC : Tk.Sub B C := by rw [hC]; exact Sub.cons h9 (Sub.refl _)
   have gC : hget C j9 = some (blk (cRec x va vb) 137) := by rw [hC]; exact qG _ _ _
   have skC := sk.trans sC
   rw [<- hC]
   simp only [wK, seval, skC, wRec]
   refine qWY (g := G) (h := M) (rel := rRec h) (fun c a q => by obtain ⟨a1, a2, rfl, s⟩ := q; exact vX s) zFG iRec (sB0.trans sC) dG oG (qOD gC rfl ⟨_, _, rfl, sd⟩) (by simp; omega) (by simp; omega) fun v5 G5 o5 d5 => ?_
   have sk5 : Tk.Sub [(jk, blk (wS ks.rp ks.re ks.ov ks.vv (uP (wI id log).1)) 210)] (G5 ++ M) := (qHI w.q.get).trans (Sub.right d5)
   simp (disch := omega) only [wK, seval, sk5, qK]
   exact ⟨L.length - (i + 1), by omega, _, .refl _, i + 1, v5, G5, by simp, rfl, d5, by rw [hmo, hPx]; exact o5, by omega, rfl⟩
 ·have hi2 : i = L.length := by omega
  rw [hi2, List.take_length] at oG
  try simp only [wK, seval]
  have sG : Tk.Sub M (G ++ M) := Sub.right dG
  exact .of (k (G ++ M) v sG ((oG.rd.subH (Sub.left _ _)).relImp fun _ _ q => rRec.sub (w.q.sub.trans sG) q))
end Go.Proofs.YtjioiemhgbkbfaaGreatDoor
end
