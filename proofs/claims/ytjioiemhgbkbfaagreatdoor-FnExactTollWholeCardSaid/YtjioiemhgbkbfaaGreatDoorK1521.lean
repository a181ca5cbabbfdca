/- Parts of the proof. -/
import Derived.Test.YtjioiemhgbkbfaaGreatDoorK155
import Derived.Test.YtjioiemhgbkbfaaGreatDoorK1519
import Derived.Test.YtjioiemhgbkbfaaGreatDoorK1518
import Derived.Test.YtjioiemhgbkbfaaGreatDoorK1520
import Derived.Test.YtjioiemhgbkbfaaGreatDoorK1510
import Derived.Test.YtjioiemhgbkbfaaGreatDoorK1511
import Derived.Test.YtjioiemhgbkbfaaGreatDoorK1513
import Derived.Test.YtjioiemhgbkbfaaGreatDoorK1514
import Derived.Test.YtjioiemhgbkbfaaGreatDoorK1516
import Derived.Test.YtjioiemhgbkbfaaGreatDoorK1515
set_option maxHeartbeats 4000000
set_option maxRecDepth 100000
set_option linter.unusedVariables false
set_option linter.unusedSimpArgs false
set_option linter.defProp false
section
attribute [local irreducible] Go.Tk.vc Go.Tk.vops Go.Tk.vdr Go.Tk.vop Go.Tk.vfl Go.Tk.HCalls
namespace Go.Proofs.YtjioiemhgbkbfaaGreatDoor
open Go Go.Tk
def qBH (log : List DRec) (r : DRec) : Bool := decide (r.kind = 1) && !vU log r.stamp r.try_
theorem qEA {M : H} {cs : List Value} {d : DRec} (r : rRec M cs d) : cs.all vone = true := by
 obtain ⟨a, b, rfl, s⟩ := r
 simp only [cRec, List.all_cons, List.all_nil, rdS.one s.1, rdS.one s.2]; rfl
theorem qME {h : H} {d : DHouse} {lg lk wk : Value} (r : sHouse h d lg lk wk) (hb : bHouse d) {R : Ending -> H -> Prop} (k : ∀ M' v, Tk.Sub h M' -> rRs M' (rRec M') 6 v (uY d.log) -> R (.returned v) M') :
  HCalls Tryz.prog 30 #[.agg (qT d lg lk wk).toArray] h R := by
 refine qD lite (args := [.agg (qT d lg lk wk).toArray]) Tryz.func30 ?_
 conv => arg 2; cbv
 rw [qR]
 have bl := hb.log
 unfold lim at bl
 simp only [wK, seval, yC]
 refine qC (o := blk (qT d lg lk wk) 59) fun j1 h1 => ?_
 obtain ⟨A, hA⟩ : ∃ A, A = (j1, blk (qT d lg lk wk) 59) :: h := ⟨_, rfl⟩
 have sA : Tk.Sub h A := by rw [hA]; exact Sub.cons h1 (Sub.refl _)
 have gA : hget A j1 = some (blk (qT d lg lk wk) 59) := by rw [hA]; exact qG _ _ _
 have rl := (r.1.subH sA).relImp fun _ _ x => rRec.sub sA x
 rw [<- hA]
 simp only [wK, seval]
 refine qC (o := blk [] 137) fun j6 h6 => ?_
 simp only [wK, seval]
 refine qP [3, 4] (fun n vs h' => ∃ (i : Nat) (v : Value) (G B : H), vs = [v, .int .i64 i] /\ h' = G ++ B /\ Dj G B /\ Tk.Sub A B /\ oRs 137 (rRec B) 6 v ((d.log.take i).filter (qBH d.log)) G /\ i <= d.log.length /\ n = d.log.length - i) d.log.length rfl
  ⟨0, _, [(j6, blk [] 137)], A, rfl, rfl, Dj.one h6, Sub.refl _, zGJ, by omega, rfl⟩ ?_
 rintro n f h' ⟨i, v, G, B, hv, hGB, dG, sB, oG, hi, rfl⟩
 simp only [lm4] at hv
 have sG : Tk.Sub G h' := by rw [hGB]; exact Sub.left _ _
 have sBh : Tk.Sub B h' := by rw [hGB]; exact Sub.right dG
 have sAh := sB.trans sBh
 have c12 : hcel h' j1 2 = some lg := qE (sAh _ _ gA) rfl
 simp only [wK, seval, wr, hv.1, hv.2, c12, rl.len]
 refine qF (fun c => ?_) fun c => ?_
 ·have hi2 : i < d.log.length := by omega
  have hmo := kB (p := qBH d.log) hi2
  have hfl := vZ (qBH d.log) d.log i
  obtain ⟨b1, o1, cs, hx, e1, va, vb, rfl, sr⟩ := zU rl hi2
  obtain ⟨x, hxx⟩ : ∃ x, x = d.log[i] := ⟨_, rfl⟩
  have hbx : bRec x := hxx ▸ hb.recs _ (List.getElem_mem hi2)
  have bs := hbx.s
  unfold lim at bs
  rw [<- hxx] at e1 sr hmo
  have e1 := kS sAh e1
  have hone : (cRec x va vb).all vone = true := qEA ⟨_, _, rfl, sr⟩
  have zr := vR
  simp only [wK, seval, c12, hx, e1, zr, wRec]
  refine qC (o := blk (cRec zRec (.slice none 0 0) (.slice none 0 0)) 137) fun j5 h5 => ?_
  try simp only [wK, seval, zr, wRec, hone]
  obtain ⟨N, hN⟩ : ∃ N, N = (j5, blk (cRec x va vb) 137) :: h' := ⟨_, rfl⟩
  have sN : Tk.Sub h' N := by rw [hN]; exact Sub.cons h5 (Sub.refl _)
  have gN : hget N j5 = some (blk (cRec x va vb) 137) := by rw [hN]; exact qG _ _ _
  have c50 : hcel N j5 0 = some (.int .i64 x.kind) := qE gN rfl
  have c51 : hcel N j5 1 = some (.int .i64 x.stamp) := qE gN rfl
  have c52 : hcel N j5 2 = some (.int .i64 x.try_) := qE gN rfl
  have c54 : hcel N j5 4 = some va := qE gN rfl
  have c12N : hcel N j1 2 = some lg := qE (sN _ _ (sAh _ _ gA)) rfl
  have skip : qBH d.log x = false -> ∃ m, m < d.log.length - i /\ ∃ gg, Tk.Sub gg N /\ ∃ (i' : Nat) (v' : Value) (G B : H), [v, Value.int IntKind.i64 ((i : Int) + 1)] = [v', .int .i64 i'] /\ gg = G ++ B /\ Dj G B /\ Tk.Sub A B /\ oRs 137 (rRec B) 6 v' ((d.log.take i').filter (qBH d.log)) G /\ i' <= d.log.length /\ m = d.log.length - i' := fun e =>
   ⟨d.log.length - (i + 1), by omega, h', sN, i + 1, v, G, B, by simp, hGB, dG, sB, by rw [hmo, e, if_neg (by simp), List.append_nil]; exact oG, by omega, rfl⟩
  rw [<- hN]
  try simp only [wK, seval, c50]
  by_cases k1 : x.kind = 1
  ·simp only [wK, seval, k1, decide_true, c12N, c51, c52]
   refine qJB ((rl.subH (sAh.trans sN)).relImp fun _ _ q => rRec.sub (sAh.trans sN) q) bl (fun he q => ?_) (fun he => ?_)
   ·have hq0 : ¬ ((q : Int) < 0) := by omega
    simp (disch := omega) only [wK, seval, hq0, decide_false, qK]
    exact skip (by unfold qBH; rw [he]; simp)
   ·have hop : qBH d.log x = true := by unfold qBH; rw [he]; simp [k1]
    simp only [wK, seval]
    refine qC (o := blk [] 3) fun j32 h32 => ?_
    obtain ⟨N1, hN1⟩ : ∃ N1, N1 = (j32, blk [] 3) :: N := ⟨_, rfl⟩
    have sN1 : Tk.Sub N N1 := by rw [hN1]; exact Sub.cons h32 (Sub.refl _)
    have g32 : hget N1 j32 = some (blk [] 3) := by rw [hN1]; exact qG _ _ _
    have c54' : hcel N1 j5 4 = some va := yA sN1 c54
    rw [<- hN1]
    simp only [wK, seval, c54']
    refine zDE qDE zFH iInt g32 (rLs.sub (sAh.trans (sN.trans sN1)) sr.1) (by omega) (by omega) fun M2 w S2 s2 d2 f2 => ?_
    have on2 := d2.one
    have vc2 := vc1 on2
    obtain ⟨N3, wN3, gN3, fN3⟩ := bst (vs := [w]) (cs' := cRec x w vb) (o := 4) (s2 _ _ (sN1 _ _ gN)) (by show 4 + 1 <= 6; omega) rfl
    have rd5 : qV N3 j5 0 6 = some (cRec x w vb) := zD gN3 rfl
    have one5 : (cRec x w vb).all vone = true := by simp only [cRec, List.all_cons, List.all_nil, on2, rdS.one sr.2]; rfl
    simp only [wK, seval, wRec, on2, vc2, wN3, rd5, one5]
    refine qC (o := blk (cRec x w vb) 137) fun j39 h39 => ?_
    obtain ⟨N4, hN4⟩ : ∃ N4, N4 = (j39, blk (cRec x w vb) 137) :: N3 := ⟨_, rfl⟩
    have sN4 : Tk.Sub N3 N4 := by rw [hN4]; exact Sub.cons h39 (Sub.refl _)
    have g39 : hget N4 j39 = some (blk (cRec x w vb) 137) := by rw [hN4]; exact qG _ _ _
    have sh3 : Tk.Sub h' N3 := fun y o e => by rw [fN3 y (fun q => by rw [q, h5] at e; cases e)]; exact s2 _ _ (sN1 _ _ (sN _ _ e))
    have sh4 : Tk.Sub h' N4 := sh3.trans sN4
    have sG4 : Tk.Sub G N4 := sG.trans sh4
    obtain ⟨B', hB'⟩ : ∃ B', B' = hdel N4 G := ⟨_, rfl⟩
    have inB : ∀ y o, hget G y = none -> hget N4 y = some o -> hget B' y = some o := fun y o a e => by rw [hB', jH, a]; exact e
    have sBB' : Tk.Sub B B' := fun y o e => inB y o (Classical.byContradiction fun q => by rw [dG y q] at e; cases e) (sh4 _ _ (sBh _ _ e))
    have hin2 : ∀ y, S2 y -> hget G y = none /\ y ≠ j5 := fun y q => by
     rcases f2 y q with c | c
     ·rw [c]
      exact ⟨(sG.trans sN).none' h32, fun e => by rw [e, gN] at h32; cases h32⟩
     ·exact ⟨(sG.trans (sN.trans sN1)).none' c, fun e => by rw [e, sN1 _ _ gN] at c; cases c⟩
    have d4 : dL 3 eI 1 B' w x.slots S2 := d2.frame fun y q => by
     cases e : hget M2 y with
     | none => exact absurd e (d2.in q)
     | some o => exact inB y o (hin2 y q).1 (sN4 _ _ (by rw [fN3 y (hin2 y q).2]; exact e))
    have relx : rRec B' (cRec x w vb) x := ⟨_, _, rfl, d4.rd, rLs.sub (sB.trans sBB') sr.2⟩
    rw [<- hN4]
    simp only [wK, seval]
    refine qWY (g := G) (h := B') (rel := rRec B') (fun c a q => qEA q) zFG iRec (by rw [hB']; exact qKG sG4) (by rw [hB']; exact qPN _ _) (oG.relImp fun _ _ q => rRec.sub sBB' q) (qOD g39 rfl relx) (by simp; omega) (by simp; omega) fun v5 G5 o5 d5 => ?_
    simp (disch := omega) only [wK, seval, qK]
    exact ⟨d.log.length - (i + 1), by omega, _, .refl _, i + 1, v5, G5, B', by simp, rfl, d5, sB.trans sBB', by rw [hmo, hop, if_pos rfl]; exact o5, by omega, rfl⟩
  ·simp (disch := omega) only [wK, seval, k1, decide_false, qK]
   exact skip (by unfold qBH; simp [k1])
 ·have hi2 : i = d.log.length := by omega
  rw [hi2, List.take_length] at oG
  try simp only [wK, seval]
  have s : Tk.Sub h h' := sA.trans sAh
  exact .of (k h' v s (((oG.rd).subH sG).relImp fun _ _ q => rRec.sub sBh q))
theorem zBQ {h : H} {d : DHouse} {lg lk wk : Value} (r : sHouse h d lg lk wk) (hb : bHouse d) (hlog : logP d.log) (h8 : d.locks.length = 8) {R : Ending -> H -> Prop} (k : Asks R (qMS d) h) :
  HCalls Tryz.prog 48 #[.agg (qT d lg lk wk).toArray] h R := by
 refine qD lite (args := [.agg (qT d lg lk wk).toArray]) Tryz.func48 ?_
 conv => arg 2; cbv
 simp only [wK, seval, yC]
 refine qC (o := blk (qT d lg lk wk) 59) fun j1 h1 => ?_
 obtain ⟨A, hA⟩ : ∃ A, A = (j1, blk (qT d lg lk wk) 59) :: h := ⟨_, rfl⟩
 have sA : Tk.Sub h A := by rw [hA]; exact Sub.cons h1 (Sub.refl _)
 have gA : hget A j1 = some (blk (qT d lg lk wk) 59) := by rw [hA]; exact qG _ _ _
 have rd1 : qV A j1 0 6 = some (qT d lg lk wk) := zD gA rfl
 rw [<- hA]
 simp only [wK, seval, rd1]
 refine qME (r.sub sA) hb fun M v sM ro => ?_
 have rd1M : qV M j1 0 6 = some (qT d lg lk wk) := kS sM rd1
 have rM := r.sub (sA.trans sM)
 have sMM := Sub.refl M
 have ol : (uY d.log).length <= 400 := Nat.le_trans (List.length_filter_le _ _) hlog.1
 obtain ⟨L, hL⟩ : ∃ L, L = uY d.log := ⟨_, rfl⟩
 have hin : ∀ x ∈ L, ∀ s ∈ x.slots, 0 <= s /\ s <= 7 := hL ▸ qQU hlog
 have hbL : ∀ x ∈ L, bRec x := fun x q => hb.recs _ (List.mem_filter.1 (show x ∈ d.log.filter (qBH d.log) from by rw [hL] at q; exact q)).1
 have hfp : qMS d ↔ ∀ x ∈ L, jS d.locks x.stamp x.try_ x.slots true = true := by rw [hL]; exact Iff.rfl
 rw [<- hL] at ro ol
 simp only [wK, seval]
 refine qP [4] (fun n vs h' => ∃ i : Nat, vs = [.int .i64 i] /\ h' = M /\ i <= L.length /\ n = L.length - i /\ ∀ x ∈ L.take i, jS d.locks x.stamp x.try_ x.slots true = true) L.length rfl ⟨0, rfl, rfl, by omega, by omega, by simp⟩ ?_
 rintro n f h' ⟨i, hv, rfl, hi, rfl, ht⟩
 simp only [lm4] at hv
 simp only [wK, seval, wr, hv, ro.len]
 refine qF (fun c => ?_) fun c => ?_
 ·have hi2 : i < L.length := by omega
  obtain ⟨b1, o1, cs, hx, e1, va, vb, rfl, sr⟩ := zU ro hi2
  have bs := (hbL _ (List.getElem_mem hi2)).s
  unfold lim at bs
  have f1 : hcel h' b1 (o1 + 1) = some (.int .i64 L[i].stamp) := zK e1 1 rfl
  have f2 : hcel h' b1 (o1 + 2) = some (.int .i64 L[i].try_) := zK e1 2 rfl
  have f4 : hcel h' b1 (o1 + 4) = some va := zK e1 4 rfl
  refine zC h' (Sub.refl _) ?_
  simp only [wK, seval, rd1M, hx, f1, f2, f4, sMM]
  refine qVI rM h8 hb.lock sr.1 (hin _ (List.getElem_mem hi2)) (by omega) ?_
  obtain ⟨q, hq⟩ : ∃ q, q = jS d.locks L[i].stamp L[i].try_ L[i].slots true := ⟨_, rfl⟩
  rw [<- hq]
  cases q with
  | false =>
   simp only [wK, seval, sMM]
   exact k.dno (sA.trans sM) fun x => by have := hfp.1 x _ (List.getElem_mem hi2); rw [<- hq] at this; cases this
  | true =>
   simp (disch := omega) only [wK, seval, sMM, qK]
   refine ⟨L.length - (i + 1), by omega, h', .refl _, i + 1, by simp, rfl, by omega, rfl, fun x hx => ?_⟩
   rw [yH hi2] at hx
   rcases List.mem_append.1 hx with hx | hx
   ·exact ht x hx
   ·rw [List.mem_singleton.1 hx]; exact hq.symm
 ·have hi2 : i = L.length := by omega
  rw [hi2, List.take_length] at ht
  try simp only [wK, seval]
  exact k.dyes (sA.trans sM) (hfp.2 ht)
end Go.Proofs.YtjioiemhgbkbfaaGreatDoor
end

section
attribute [local irreducible] Go.Tk.vc Go.Tk.vops Go.Tk.vdr Go.Tk.vop Go.Tk.vfl Go.Tk.HCalls
namespace Go.Proofs.YtjioiemhgbkbfaaGreatDoor
open Go Go.Tk
def qXX (d : DHouse) (l : DLock) (i : Nat) : Prop := qIV l /\ l.slot = (i : Int) /\ (d.up = false -> qAV l)
theorem qKR {h : H} {d : DHouse} {lg lk wk : Value} (r : sHouse h d lg lk wk) (hb : bHouse d) {R : Ending -> H -> Prop} (k : Asks R (xV d) h) :
  HCalls Tryz.prog 19 #[.agg (qT d lg lk wk).toArray] h R := by
 refine yK (args := [.agg (qT d lg lk wk).toArray]) Tryz.func19 ir19 ?_
 have bl := hb.log
 have bw := hb.works
 have bk := hb.locks
 unfold lim at bl bw bk
 simp only [wK, seval, yC]
 refine qC (o := blk (qT d lg lk wk) 59) fun j1 h1 => ?_
 obtain ⟨M, hM⟩ : ∃ M, M = (j1, blk (qT d lg lk wk) 59) :: h := ⟨_, rfl⟩
 have sM : Tk.Sub h M := by rw [hM]; exact Sub.cons h1 (Sub.refl _)
 have gM : hget M j1 = some (blk (qT d lg lk wk) 59) := by rw [hM]; exact qG _ _ _
 have c0 : hcel M j1 0 = some (.int .i64 d.id) := qE gM rfl
 have c1 : hcel M j1 1 = some (.bool d.up) := qE gM rfl
 have c2 : hcel M j1 2 = some lg := qE gM rfl
 have c3 : hcel M j1 3 = some (.int .i64 d.forced) := qE gM rfl
 have c4 : hcel M j1 4 = some lk := qE gM rfl
 have c5 : hcel M j1 5 = some wk := qE gM rfl
 have rd1 : qV M j1 0 6 = some (qT d lg lk wk) := zD gM rfl
 have rM := r.sub sM
 have sMM := Sub.refl M
 rw [<- hM]
 try simp only [wK, seval, c0]
 refine jR fun q1 k1 => ?_
 cases q1 with
 | false =>
  simp only [wK, seval]
  exact k.dno sM fun x => qW k1 rfl x.1
 | true =>
 simp only [wK, seval, c2]
 refine qVH rM.1 hb.recs bl fun q2 k2 => ?_
 cases q2 with
 | false =>
  simp only [wK, seval]
  exact k.dno sM fun x => qW k2 rfl x.2.1
 | true =>
 simp only [wK, seval, c2, c3, rM.1.len]
 refine zY fun q3 k3 => ?_
 cases q3 with
 | false =>
  simp only [wK, seval]
  exact k.dno sM fun x => qW k3 rfl x.2.2.1
 | true =>
 simp only [wK, seval, c5]
 refine qOJ rM.2.2 hb.work bw fun q4 k4 => ?_
 cases q4 with
 | false =>
  simp only [wK, seval]
  exact k.dno sM fun x => qW k4 rfl x.2.2.2.1
 | true =>
 simp only [wK, seval, c4, rM.2.1.len]
 refine zG (fun e => k.dno sM fun x => e (by have := x.2.2.2.2.1; omega)) fun h8 => ?_
 refine qP [3] (fun n vs h' => ∃ i : Nat, vs = [.int .i64 i] /\ h' = M /\ i <= d.locks.length /\ n = d.locks.length - i /\ ∀ j (hj : j < d.locks.length), j < i -> qXX d d.locks[j] j) d.locks.length rfl ⟨0, rfl, rfl, by omega, by omega, fun j hj hn => absurd hn (Nat.not_lt_zero _)⟩ ?_
 rintro n f h' ⟨i, hv, rfl, hi, rfl, ht⟩
 simp only [lm4] at hv
 simp only [wK, seval, wr, hv, c4, rM.2.1.len]
 refine qF (fun c => ?_) fun c => ?_
 ·have hi2 : i < d.locks.length := by omega
  obtain ⟨b1, o1, cs, hx, e1, va, vb, rfl, sr⟩ := zU rM.2.1 hi2
  obtain ⟨l, hl⟩ : ∃ l, l = d.locks[i] := ⟨_, rfl⟩
  have hbl : bLock l := hl ▸ hb.lock _ (List.getElem_mem hi2)
  have b3 := hbl.h
  have b4 := hbl.w
  unfold lim at b3 b4
  rw [<- hl] at e1 sr
  have f0 : hcel h' b1 o1 = some (.int .i64 l.slot) := zK e1 0 rfl
  have f1 : hcel h' b1 (o1 + 1) = some va := zK e1 1 rfl
  have f2 : hcel h' b1 (o1 + 2) = some vb := zK e1 2 rfl
  have no : ¬ qXX d l i -> ¬ xV d := fun e x => e (by have := x.2.2.2.2.2.1 i hi2; rw [<- hl] at this; exact this)
  have next : qXX d l i -> ∃ m, m < d.locks.length - i /\ ∃ gg, Tk.Sub gg h' /\ ∃ i' : Nat, [Value.int IntKind.i64 ((i : Int) + 1)] = [.int .i64 i'] /\ gg = h' /\ i' <= d.locks.length /\ m = d.locks.length - i' /\ ∀ j (hj : j < d.locks.length), j < i' -> qXX d d.locks[j] j := fun e =>
   ⟨d.locks.length - (i + 1), by omega, h', .refl _, i + 1, by simp, rfl, by omega, rfl, fun j hj hn => by
    by_cases ej : j = i
    ·subst ej; rw [<- hl]; exact e
    ·exact ht j hj (by omega)⟩
  refine zC h' (Sub.refl _) ?_
  simp only [wK, seval, c4, hx, e1, sMM]
  refine zGX sr (by omega) (by omega) fun q5 k5 => ?_
  cases q5 with
  | false =>
   simp only [wK, seval, sMM]
   exact k.dno sM (no fun x => qW k5 rfl x.1)
  | true =>
  simp only [wK, seval, c4, hx, f0, sMM]
  by_cases es : l.slot = (i : Int)
  ·obtain ⟨u, hu⟩ : ∃ u, u = d.up := ⟨_, rfl⟩
   rw [<- hu] at c1
   simp only [wK, seval, es, decide_true, Bool.not_true, c1, sMM]
   cases u with
   | true =>
    simp (disch := omega) only [wK, seval, sMM, qK]
    exact next ⟨k5.1 rfl, es, fun e => by rw [<- hu] at e; cases e⟩
   | false =>
    simp (disch := omega) only [wK, seval, c4, hx, f1, f2, sr.1.len, sr.2.len, sMM, qK]
    refine qF (fun c9 => ?_) fun c9 => ?_
    ·exact k.dno sM (no fun x => by have := x.2.2 hu.symm; unfold qAV at this; omega)
    ·exact next ⟨k5.1 rfl, es, fun e => by unfold qAV; omega⟩
  ·simp only [wK, seval, es, decide_false, Bool.not_false, sMM]
   exact k.dno sM (no fun x => es x.2.1)
 ·have hi2 : i = d.locks.length := by omega
  obtain ⟨u, hu⟩ : ∃ u, u = d.up := ⟨_, rfl⟩
  rw [<- hu] at c1
  have base : (d.up = false /\ d.works = []) ∨ (d.up = true /\ qMS d) -> xV d := fun e => ⟨k1.1 rfl, k2.1 rfl, k3.1 rfl, k4.1 rfl, by omega, fun j hj => ht j hj (by omega), e⟩
  simp only [wK, seval, c1]
  cases u with
  | false =>
   simp only [wK, seval, c5, rM.2.2.len]
   by_cases e : (d.works.length : Int) = 0
   ·simp only [wK, seval, e, decide_true]
    exact k.dyes sM (base (.inl ⟨hu.symm, List.eq_nil_of_length_eq_zero (by omega)⟩))
   ·simp only [wK, seval, e, decide_false, c1]
    exact k.dno sM fun x => by
     rcases x.2.2.2.2.2.2 with y | y
     ·exact e (by rw [y.2]; rfl)
     ·rw [<- hu] at y; cases y.1
  | true =>
   simp only [wK, seval, c1, rd1]
   refine zBQ rM hb (k2.1 rfl) (by omega) fun q6 k6 => ?_
   cases q6 with
   | false =>
    simp only [wK, seval]
    exact k.dno sM fun x => by
     rcases x.2.2.2.2.2.2 with y | y
     ·rw [<- hu] at y; cases y.1
     ·exact qW k6 rfl y.2
   | true =>
    simp only [wK, seval]
    exact k.dyes sM (base (.inr ⟨hu.symm, k6.1 rfl⟩))
end Go.Proofs.YtjioiemhgbkbfaaGreatDoor
end

section
attribute [local irreducible] Go.Tk.vc Go.Tk.vops Go.Tk.vdr Go.Tk.vop Go.Tk.vfl Go.Tk.HCalls
namespace Go.Proofs.YtjioiemhgbkbfaaGreatDoor
open Go Go.Tk
theorem qEL {h : H} {d : DHouse} {lg lk wk : Value} (r : sHouse h d lg lk wk) (hb : bHouse d) {R : Ending -> H -> Prop}
  (k : ∀ M' jk ok, Tk.Sub h M' -> (ok = true ↔ xV d) -> (ok = true -> ∃ H0 ks, Tk.Sub h H0 /\ KW H0 M' jk d.id d.log ks) -> R (.returned (.tuple #[.pointer (some ⟨jk, 0, none⟩), .bool ok])) M') :
  HCalls Tryz.prog 74 #[.agg (qT d lg lk wk).toArray] h R := by
 refine qD lite (args := [.agg (qT d lg lk wk).toArray]) Tryz.func74 ?_
 conv => arg 2; cbv
 rw [qR]
 have bl := hb.log
 have bw := hb.works
 have bk := hb.locks
 unfold lim at bl bw bk
 have zr := vR
 simp only [wK, seval, yC]
 refine qC (o := blk (qT d lg lk wk) 59) fun j1 h1 => ?_
 obtain ⟨H0, hH0⟩ : ∃ M, M = (j1, blk (qT d lg lk wk) 59) :: h := ⟨_, rfl⟩
 have s0 : Tk.Sub h H0 := by rw [hH0]; exact Sub.cons h1 (Sub.refl _)
 have g0 : hget H0 j1 = some (blk (qT d lg lk wk) 59) := by rw [hH0]; exact qG _ _ _
 have d0 : hcel H0 j1 0 = some (.int .i64 d.id) := qE g0 rfl
 have d2 : hcel H0 j1 2 = some lg := qE g0 rfl
 have r0 := r.sub s0
 rw [<- hH0]
 try simp only [wK, seval, d0, d2]
 refine qRO r0.1 hb.recs bl fun M jk q1 sM k1 kw => ?_
 have sh : Tk.Sub h M := s0.trans sM
 have gM := sM _ _ g0
 have c0 : hcel M j1 0 = some (.int .i64 d.id) := qE gM rfl
 have c1 : hcel M j1 1 = some (.bool d.up) := qE gM rfl
 have c2 : hcel M j1 2 = some lg := qE gM rfl
 have c3 : hcel M j1 3 = some (.int .i64 d.forced) := qE gM rfl
 have c4 : hcel M j1 4 = some lk := qE gM rfl
 have c5 : hcel M j1 5 = some wk := qE gM rfl
 have rM := r.sub sh
 have no : ∀ M', Tk.Sub M M' -> ¬ xV d -> dP R (.returned (.tuple #[.pointer (some ⟨jk, 0, none⟩), .bool false])) M' := fun M' s n => .of (k M' jk false (sh.trans s) ⟨fun c => (by cases c), fun c => absurd c n⟩ fun c => (by cases c))
 cases q1 with
 | false =>
  simp only [wK, seval, Bool.not_false]
  exact no M (Sub.refl _) fun x => qW k1 rfl x.2.1
 | true =>
 have hlog := k1.1 rfl
 obtain ⟨ks, w⟩ := kw rfl
 simp only [wK, seval, Bool.not_true, c0]
 refine jG fun q2 k2 => ?_
 cases q2 with
 | false => simp only [wK, seval]; exact no M (Sub.refl _) fun x => qW k2 rfl x.1
 | true =>
 simp only [wK, seval, c3, c2, rM.1.len]
 refine yO fun q3 k3 => ?_
 cases q3 with
 | false => simp only [wK, seval]; exact no M (Sub.refl _) fun x => qW k3 rfl x.2.2.1
 | true =>
 simp only [wK, seval, c5]
 refine qZB rM.2.2 hb.work bw fun q4 k4 => ?_
 cases q4 with
 | false => simp only [wK, seval]; exact no M (Sub.refl _) fun x => qW k4 rfl x.2.2.2.1
 | true =>
 simp only [wK, seval, c4]
 refine zBK rM.2.1 hb.lock bk fun q5 k5 => ?_
 cases q5 with
 | false => simp only [wK, seval]; exact no M (Sub.refl _) fun x => qW k5 rfl ⟨x.2.2.2.2.1, fun i hi => ⟨(x.2.2.2.2.2.1 i hi).1, (x.2.2.2.2.2.1 i hi).2.1⟩⟩
 | true =>
 obtain ⟨h8, hlk⟩ := k5.1 rfl
 obtain ⟨up, hup⟩ : ∃ up, up = d.up := ⟨_, rfl⟩
 rw [<- hup] at c1
 simp only [wK, seval, c1]
 cases up with
 | false =>
  simp only [wK, seval, Bool.not_false, c5, rM.2.2.len]
  by_cases e0 : (d.works.length : Int) = 0
  ·simp only [wK, seval, e0, decide_true, c4]
   refine qGM rM.2.1 hb.lock bk fun q6 k6 => ?_
   simp only [wK, seval]
   refine .of (k M jk q6 sh (k6.trans ⟨fun x => ?_, fun x y hy => ?_⟩) fun _ => ⟨H0, ks, s0, w⟩)
   ·exact ⟨k2.1 rfl, hlog, k3.1 rfl, k4.1 rfl, h8, fun i hi => ⟨(hlk i hi).1, (hlk i hi).2, fun _ => x _ (List.getElem_mem hi)⟩, .inl ⟨hup.symm, List.eq_nil_of_length_eq_zero (by omega)⟩⟩
   ·obtain ⟨i, hi, rfl⟩ := List.getElem_of_mem hy
    exact (x.2.2.2.2.2.1 i hi).2.2 hup.symm
  ·simp only [wK, seval, e0, decide_false]
   exact no M (Sub.refl _) fun x => by
    rcases x.2.2.2.2.2.2 with y | y
    ·exact e0 (by rw [y.2]; rfl)
    ·rw [<- hup] at y; cases y.1
 | true =>
  simp only [wK, seval, Bool.not_true]
  refine qXR w fun M2 v s2 ro => ?_
  obtain ⟨L, hL⟩ : ∃ L, L = uY d.log := ⟨_, rfl⟩
  have hin : ∀ x ∈ L, ∀ s ∈ x.slots, 0 <= s /\ s <= 7 := hL ▸ qQU hlog
  have hbL : ∀ x ∈ L, bRec x := fun x q => hb.recs _ (List.mem_filter.1 (show x ∈ d.log.filter (qBH d.log) from by rw [hL] at q; exact q)).1
  have hfp : qMS d ↔ ∀ x ∈ L, jS d.locks x.stamp x.try_ x.slots true = true := by rw [hL]; exact Iff.rfl
  have ol : L.length <= 400 := by rw [hL]; exact Nat.le_trans (List.length_filter_le _ _) hlog.1
  have iff : xV d ↔ qMS d := ⟨fun x => by
    rcases x.2.2.2.2.2.2 with y | y
    ·rw [<- hup] at y; cases y.1
    ·exact y.2, fun x => ⟨k2.1 rfl, hlog, k3.1 rfl, k4.1 rfl, h8, fun i hi => ⟨(hlk i hi).1, (hlk i hi).2, fun c => by rw [<- hup] at c; cases c⟩, .inr ⟨hup.symm, x⟩⟩⟩
  rw [<- hL] at ro
  have c4' : hcel M2 j1 4 = some lk := yA s2 c4
  have rl2 := (rM.2.1.subH s2).relImp fun _ _ q => rLock.sub s2 q
  simp only [wK, seval, ro.len]
  refine qP [62] (fun n vs h' => ∃ i : Nat, vs = [.int .i64 i] /\ h' = M2 /\ i <= L.length /\ n = L.length - i /\ ∀ x ∈ L.take i, jS d.locks x.stamp x.try_ x.slots true = true) L.length rfl ⟨0, rfl, rfl, by omega, by omega, by simp⟩ ?_
  rintro n f h' ⟨i, hv, rfl, hi, rfl, ht⟩
  simp only [lm4] at hv
  simp only [wK, seval, wr, hv, ro.len]
  refine qF (fun c => ?_) fun c => ?_
  ·have hi2 : i < L.length := by omega
   obtain ⟨b1, o1, cs, hx, e1, va, vb, rfl, sr⟩ := zU ro hi2
   obtain ⟨x, hxx⟩ : ∃ x, x = L[i] := ⟨_, rfl⟩
   have hbx := hbL _ (List.getElem_mem hi2)
   have hix := hin _ (List.getElem_mem hi2)
   rw [<- hxx] at e1 sr hbx hix
   have bs := hbx.s
   unfold lim at bs
   have one := vX sr
   simp only [wK, seval, hx, e1, zr, wRec]
   refine qC (o := blk (cRec zRec (.slice none 0 0) (.slice none 0 0)) 137) fun j7 h7 => ?_
   try simp only [wK, seval, zr, wRec, one]
   obtain ⟨B, hB⟩ : ∃ B, B = (j7, blk (cRec x va vb) 137) :: h' := ⟨_, rfl⟩
   have sB : Tk.Sub h' B := by rw [hB]; exact Sub.cons h7 (Sub.refl _)
   have gB : hget B j7 = some (blk (cRec x va vb) 137) := by rw [hB]; exact qG _ _ _
   have f1 : hcel B j7 1 = some (.int .i64 x.stamp) := qE gB rfl
   have f2 : hcel B j7 2 = some (.int .i64 x.try_) := qE gB rfl
   have f4 : hcel B j7 4 = some va := qE gB rfl
   have c4B := yA sB c4'
   rw [<- hB]
   try simp only [wK, seval, f1, f2, f4, c4B]
   refine qVV (x := ⟨x.stamp, x.try_, false, true⟩) ((rl2.subH sB).relImp fun _ _ q => rLock.sub sB q) h8 hb.lock (fun y hy => ?_) (rLs.sub sB sr.1) hix (by omega) ?_
   ·obtain ⟨q, hq, rfl⟩ := List.getElem_of_mem hy
    exact (hlk q hq).1.2.2.2.1
   ·obtain ⟨hv2, hhv⟩ : ∃ hv2, hv2 = jS d.locks x.stamp x.try_ x.slots true := ⟨_, rfl⟩
    rw [<- hhv]
    cases hv2 with
    | false =>
     simp only [wK, seval, Bool.not_false]
     exact no B (s2.trans sB) fun q => by
      have := hfp.1 (iff.1 q) x (hxx ▸ List.getElem_mem hi2)
      rw [<- hhv] at this; cases this
    | true =>
     simp (disch := omega) only [wK, seval, Bool.not_true, qK]
     refine ⟨L.length - (i + 1), by omega, h', sB, i + 1, by simp, rfl, by omega, rfl, fun z hz => ?_⟩
     rw [yH hi2] at hz
     rcases List.mem_append.1 hz with hz | hz
     ·exact ht z hz
     ·rw [List.mem_singleton.1 hz, <- hxx]; exact hhv.symm
  ·have hi2 : i = L.length := by omega
   rw [hi2, List.take_length] at ht
   try simp only [wK, seval]
   exact .of (k h' jk true (sh.trans s2) ⟨fun _ => iff.2 (hfp.2 ht), fun _ => rfl⟩ fun _ => ⟨H0, ks, s0, w.up s2⟩)
theorem qKY {h : H} {d : DHouse} {lg lk wk : Value} (r : sHouse h d lg lk wk) (hb : bHouse d) {R : Ending -> H -> Prop} (k : Asks R (xV d) h) :
  HCalls Tryz.prog 110 #[.agg (qT d lg lk wk).toArray] h R := by
 refine qD lite (args := [.agg (qT d lg lk wk).toArray]) Tryz.func110 ?_
 conv => arg 2; cbv
 simp only [wK, seval, yC]
 refine qC (o := blk (qT d lg lk wk) 59) fun j1 h1 => ?_
 obtain ⟨A, hA⟩ : ∃ A, A = (j1, blk (qT d lg lk wk) 59) :: h := ⟨_, rfl⟩
 have sA : Tk.Sub h A := by rw [hA]; exact Sub.cons h1 (Sub.refl _)
 have r1 : qV A j1 0 6 = some (qT d lg lk wk) := zD (by rw [hA]; exact qG _ _ _) rfl
 rw [<- hA]
 simp only [wK, seval, yC, r1]
 refine qEL (r.sub sA) hb fun M' jk ok s hok _ => ?_
 simp only [wK, seval]
 exact ⟨h, sA.trans s, k ok hok⟩
theorem qKZ {h : H} {v : Value} {l : List DHouse} (r : rRs h (rHouse h) 6 v l) (hb : ∀ x ∈ l, bHouse x) (hl : l.length <= 1048576) {R : Ending -> H -> Prop} (k : Asks R (l.length = 3 /\ ∀ i (hi : i < l.length), xV l[i] /\ l[i].id = (i : Int)) h) :
  HCalls Tryz.prog 63 #[v] h R := by
 refine qD lite (args := [v]) Tryz.func63 ?_
 conv => arg 2; cbv
 simp only [wK, seval, r.len]
 refine qP [7] (fun n vs h' => ∃ i : Nat, vs = [.int .i64 i] /\ h' = h /\ i <= l.length /\ n = l.length - i /\ ∀ j (hj : j < l.length), j < i -> xV l[j] /\ l[j].id = (j : Int)) l.length rfl ⟨0, rfl, rfl, by omega, by omega, fun j hj hn => absurd hn (Nat.not_lt_zero _)⟩ ?_
 rintro n f h' ⟨i, hv, rfl, hi, rfl, ht⟩
 simp only [lm4] at hv
 simp only [wK, seval, wr, hv, r.len]
 refine qF (fun c => ?_) fun c => ?_
 ·have hi2 : i < l.length := by omega
  obtain ⟨b1, o1, cs, hx, e1, va, vb, vc, rfl, sr⟩ := zU r hi2
  obtain ⟨x, hxx⟩ : ∃ x, x = l[i] := ⟨_, rfl⟩
  have bs : bHouse x := hxx ▸ hb _ (List.getElem_mem hi2)
  rw [<- hxx] at e1 sr
  have zh := kL
  have hone : (qT x va vb vc).all vone = true := by simp only [qT, List.all_cons, List.all_nil, rRs.one sr.1, rRs.one sr.2.1, rRs.one sr.2.2]; rfl
  simp only [wK, seval, hx, e1, zh, yC]
  refine qC (o := blk (qT zHouse (.slice none 0 0) (.slice none 0 0) (.slice none 0 0)) 59) fun j4 h4 => ?_
  try simp only [wK, seval, zh, yC, hone]
  obtain ⟨B, hB⟩ : ∃ B, B = (j4, blk (qT x va vb vc) 59) :: h' := ⟨_, rfl⟩
  have sB : Tk.Sub h' B := by rw [hB]; exact Sub.cons h4 (Sub.refl _)
  have gB : hget B j4 = some (blk (qT x va vb vc) 59) := by rw [hB]; exact qG _ _ _
  have rd : qV B j4 0 6 = some (qT x va vb vc) := zD gB rfl
  have c40 : hcel B j4 0 = some (.int .i64 x.id) := qE gB rfl
  rw [<- hB]
  try simp only [wK, seval, c40]
  refine zG (fun es => ?_) fun es => ?_
  ·exact k.dno sB fun y => es (by have := (y.2 i hi2).2; rw [<- hxx] at this; exact this)
  ·try simp only [wK, seval, rd]
   refine qKY (sr.sub sB) bs fun q2 hq2 => ?_
   cases q2 with
   | false =>
    simp only [wK, seval]
    exact k.dno sB fun y => qW hq2 rfl (by have := (y.2 i hi2).1; rw [<- hxx] at this; exact this)
   | true =>
    simp (disch := omega) only [wK, seval, qK]
    refine ⟨l.length - (i + 1), by omega, h', sB, i + 1, by simp, rfl, by omega, rfl, fun j hj hn => ?_⟩
    by_cases ej : j = i
    ·subst ej; rw [<- hxx]; exact ⟨hq2.1 rfl, es⟩
    ·exact ht j hj (by omega)
 ·try simp only [wK, seval, r.len]
  by_cases e3 : (l.length : Int) = 3
  ·simp only [wK, seval, e3, decide_true]
   exact .of (k.yes ⟨by omega, fun j hj => ht j hj (by omega)⟩)
  ·simp only [wK, seval, e3, decide_false]
   exact .of (k.no fun y => e3 (by have := y.1; omega))
end Go.Proofs.YtjioiemhgbkbfaaGreatDoor
end

section
namespace Go.Tk
open Go
def tcallP (c : DTollCall) (t : Int) : Prop := inP 1 t c.begin /\ inP 0 2 c.call.session /\ zJB c.call /\ qHW c.vals /\ ((c.end_ = 0 /\ c.code = 0 /\ c.vals = []) ∨ (c.end_ ≠ 0 /\ c.over = false /\ inP (c.begin + 1) t c.end_ /\ inP 0 9 c.code))
def sesL (l : List DTollCall) (s : Int) : List DTollCall := l.filter fun x => decide (x.call.session = s)
def qCK (x : DTollCall) (b : Int) : Prop := x.over = true ∨ (x.end_ ≠ 0 /\ x.end_ < b)
def zGR (l : List DTollCall) (c : DTollCall) (t : Int) : Prop := tcallP c t /\ (∀ x, l.getLast? = some x -> x.begin < c.begin) /\ (∀ x ∈ sesL l c.call.session, qCK x c.begin) /\ c.call.number = (sesL l c.call.session).length + 1
def qJW (l : List DTollCall) (t : Int) : Prop := l.length <= 18 /\ ∀ i (h : i < l.length), zGR (l.take i) l[i] t
theorem qLV {l : List DTollCall} {i : Nat} (hi : i < l.length) (s : Int) : sesL (l.take (i + 1)) s = sesL (l.take i) s ++ (if l[i].call.session = s then [l[i]] else []) := by
 unfold sesL
 rw [kB hi]
 simp only [decide_eq_true_eq]
theorem qBD (l : List DTollCall) (s : Int) (i : Nat) : (sesL (l.take i) s).length <= i := vZ _ _ _
theorem qBZ {l : List DTollCall} {i : Nat} (h0 : 0 < i) (hi : i < l.length) : (l.take i).getLast? = some (l[i - 1]'(by omega)) := by
 obtain ⟨k, rfl⟩ : ∃ k, i = k + 1 := ⟨i - 1, by omega⟩
 rw [yH (by omega), List.getLast?_concat]; rfl
end Go.Tk
end

section
attribute [local irreducible] Go.Tk.vc Go.Tk.vops Go.Tk.vdr Go.Tk.vop Go.Tk.vfl Go.Tk.HCalls
namespace Go.Tk
open Go
def tcallQ (c : DTollCall) (t : Int) : Prop := inP 1 t c.begin /\ inP 0 2 c.call.session /\ (c.call.text.length <= 80 /\ wU c.call.kind /\ wU c.call.slot /\ wU c.call.to) /\ qHW c.vals /\ ((c.end_ = 0 /\ c.code = 0 /\ c.vals = []) ∨ (c.end_ ≠ 0 /\ c.over = false /\ inP (IntKind.i64.wrap (c.begin + 1)) t c.end_ /\ inP 0 9 c.code))
theorem tcallQ.ok {c : DTollCall} {t : Int} (ht : t <= 99999) (h : tcallQ c t) (hn : 1 <= c.call.number /\ c.call.number <= 99) : tcallP c t := by
 obtain ⟨a, b, ⟨c1, c2, c3, c4⟩, d, e⟩ := h
 refine ⟨a, b, ⟨?_, ?_, c2, c3, c4, c1⟩, d, ?_⟩
 ·unfold wU inP at *; omega
 ·unfold wU inP at *; omega
 ·unfold inP at a
  rw [qK _ ⟨by omega, by omega⟩] at e
  exact e
theorem tcallP.q {c : DTollCall} {t : Int} (ht : t <= 99999) (h : tcallP c t) : tcallQ c t := by
 obtain ⟨a, b, ⟨_, _, c2, c3, c4, c1⟩, d, e⟩ := h
 refine ⟨a, b, ⟨c1, c2, c3, c4⟩, d, ?_⟩
 unfold inP at a
 rw [qK _ ⟨by omega, by omega⟩]
 exact e
def zGQ (l : List DTollCall) (c : DTollCall) (t : Int) : Prop := tcallQ c t /\ (∀ x, l.getLast? = some x -> x.begin < c.begin) /\ (∀ x ∈ sesL l c.call.session, qCK x c.begin) /\ c.call.number = (sesL l c.call.session).length + 1
def qPE (l : List DTollCall) (t : Int) : Prop := l.length <= 18 /\ ∀ i (h : i < l.length), zGQ (l.take i) l[i] t
theorem qJV {l : List DTollCall} {t : Int} (ht : t <= 99999) : qPE l t ↔ qJW l t := by
 constructor
 ·rintro ⟨h1, h2⟩
  refine ⟨h1, fun i hi => ?_⟩
  obtain ⟨a, b, c, d⟩ := h2 i hi
  have := qBD l l[i].call.session i
  exact ⟨a.ok ht ⟨by omega, by omega⟩, b, c, d⟩
 ·rintro ⟨h1, h2⟩
  refine ⟨h1, fun i hi => ?_⟩
  obtain ⟨a, b, c, d⟩ := h2 i hi
  exact ⟨a.q ht, b, c, d⟩
end Go.Tk
namespace Go.Proofs.YtjioiemhgbkbfaaGreatDoor
open Go Go.Tk
theorem qNM {h : H} {c : DTollCall} {v : Value} {t : Int} (r : rInts h v c.vals) (hb : c.vals.length <= 1099511627776) {R : Ending -> H -> Prop} (k : Asks R (tcallQ c t) h) :
  HCalls Tryz.prog 112 #[.agg (qI c v).toArray, .int .i64 t] h R := by
 refine qD lite (args := [.agg (qI c v).toArray, .int .i64 t]) Tryz.func112 ?_
 conv => arg 2; cbv
 simp only [wK, seval, zX]
 refine qC (o := blk (qI c v) 111) fun j1 h1 => ?_
 obtain ⟨M, hM⟩ : ∃ M, M = (j1, blk (qI c v) 111) :: h := ⟨_, rfl⟩
 have sM : Tk.Sub h M := by rw [hM]; exact Sub.cons h1 (Sub.refl _)
 have gM : hget M j1 = some (blk (qI c v) 111) := by rw [hM]; exact qG _ _ _
 have c0 : hcel M j1 0 = some (.int .i64 c.call.session) := qE gM rfl
 have c2 : hcel M j1 2 = some (.int .i64 c.call.kind) := qE gM rfl
 have c3 : hcel M j1 3 = some (.string ⟨c.call.text.toArray⟩) := qE gM rfl
 have c4 : hcel M j1 4 = some (.int .i64 c.call.slot) := qE gM rfl
 have c5 : hcel M j1 5 = some (.int .i64 c.call.to) := qE gM rfl
 have c6 : hcel M j1 6 = some (.int .i64 c.begin) := qE gM rfl
 have c7 : hcel M j1 7 = some (.int .i64 c.end_) := qE gM rfl
 have c8 : hcel M j1 8 = some (.bool c.over) := qE gM rfl
 have c9 : hcel M j1 9 = some (.int .i64 c.code) := qE gM rfl
 have c10 : hcel M j1 10 = some v := qE gM rfl
 have rM : rInts M v c.vals := rLs.sub sM r
 rw [<- hM]
 try simp only [wK, seval, c6]
 refine yO fun q1 k1 => ?_
 cases q1 with
 | false => simp only [wK, seval]; exact k.dno sM fun x => qW k1 rfl x.1
 | true =>
 simp only [wK, seval, c0]
 refine qGP fun q2 k2 => ?_
 cases q2 with
 | false => simp only [wK, seval]; exact k.dno sM fun x => qW k2 rfl x.2.1
 | true =>
 simp only [wK, seval, c3]
 refine qF (fun e80 => ?_) fun e80 => ?_
 ·exact k.dno sM fun x => by have := x.2.2.1.1; omega
 simp only [wK, seval, c2, c4, c5]
 refine qC fun j3 hj3 => ?_
 simp only [wK, seval]
 refine HCalls.drop (uU (l := [c.call.kind, c.call.slot, c.call.to]) (qFJ [c.call.kind, c.call.slot, c.call.to]) (by simp) fun q4 k4 => ⟨_, Sub.cons hj3 (Sub.refl _), ?_⟩)
 have k4' : q4 = true ↔ (wU c.call.kind /\ wU c.call.slot /\ wU c.call.to) := by
  rw [k4]
  simp only [wU, allP, List.mem_cons, List.not_mem_nil, or_false, forall_eq_or_imp, forall_eq]
 cases q4 with
 | false => simp only [wK, seval]; exact k.dno sM fun x => qW k4' rfl x.2.2.1.2
 | true =>
 simp only [wK, seval, c10]
 refine qHX rM hb fun q5 k5 => ?_
 cases q5 with
 | false => simp only [wK, seval]; exact k.dno sM fun x => qW k5 rfl x.2.2.2.1
 | true =>
 have hbeg := k1.1 rfl
 have nil1 : (c.vals.length : Int) = 0 ↔ c.vals = [] := ⟨fun e => List.eq_nil_of_length_eq_zero (by omega), fun e => by rw [e]; rfl⟩
 have good : ((c.end_ = 0 /\ c.code = 0 /\ c.vals = []) ∨ (c.end_ ≠ 0 /\ c.over = false /\ inP (IntKind.i64.wrap (c.begin + 1)) t c.end_ /\ inP 0 9 c.code)) -> tcallQ c t := fun e => ⟨k1.1 rfl, k2.1 rfl, ⟨by omega, k4'.1 rfl⟩, k5.1 rfl, e⟩
 simp only [wK, seval, c7]
 by_cases e0 : c.end_ = 0
 ·simp only [wK, seval, e0, decide_true, c9]
  by_cases e1 : c.code = 0
  ·simp only [wK, seval, e1, decide_true, c10, rM.len]
   by_cases e2 : (c.vals.length : Int) = 0
   ·simp only [wK, seval, e2, decide_true]
    exact k.dyes sM (good (.inl ⟨e0, e1, nil1.1 e2⟩))
   ·simp only [wK, seval, e2, decide_false]
    exact k.dno sM fun x => by
     rcases x.2.2.2.2 with y | y
     ·exact e2 (nil1.2 y.2.2)
     ·exact y.1 e0
  ·simp only [wK, seval, e1, decide_false]
   exact k.dno sM fun x => by
    rcases x.2.2.2.2 with y | y
    ·exact e1 y.2.1
    ·exact y.1 e0
 ·simp only [wK, seval, e0, decide_false, c7, c6]
  refine yO fun q6 k6 => ?_
  cases q6 with
  | false =>
   simp only [wK, seval]
   exact k.dno sM fun x => by
    rcases x.2.2.2.2 with y | y
    ·exact e0 y.1
    ·exact qW k6 rfl y.2.2.1
  | true =>
  obtain ⟨ov, hov⟩ : ∃ ov, ov = c.over := ⟨_, rfl⟩
  rw [<- hov] at c8
  simp only [wK, seval, c8]
  cases ov with
  | true =>
   simp only [wK, seval, Bool.not_true]
   exact k.dno sM fun x => by
    rcases x.2.2.2.2 with y | y
    ·exact e0 y.1
    ·rw [<- hov] at y; cases y.2.1
  | false =>
   simp only [wK, seval, Bool.not_false, c9]
   refine qRP fun q7 k7 => ?_
   cases q7 with
   | false =>
    simp only [wK, seval]
    exact k.dno sM fun x => by
     rcases x.2.2.2.2 with y | y
     ·exact e0 y.1
     ·exact qW k7 rfl y.2.2.2
   | true =>
    simp only [wK, seval]
    exact k.dyes sM (good (.inr ⟨e0, hov.symm, k6.1 rfl, k7.1 rfl⟩))
theorem zAX {h : H} {v : Value} {l : List DWord} (r : rRs h (rWord h) 17 v l) (hb : ∀ x ∈ l, bWord x) (hl : l.length <= 1048576) {R : Ending -> H -> Prop} (k : Asks R (l.length <= 60 /\ ∀ x ∈ l, qLI x) h) : HCalls Tryz.prog 64 #[v] h R := by
 refine qD lite (args := [v]) Tryz.func64 ?_
 conv => arg 2; cbv
 simp only [wK, seval, r.len]
 refine qP [7] (fun n vs h' => ∃ i : Nat, vs = [.int .i64 i] /\ h' = h /\ i <= l.length /\ n = l.length - i /\ ∀ x ∈ l.take i, qLI x) l.length rfl ⟨0, rfl, rfl, by omega, by omega, by simp⟩ ?_
 rintro n f h' ⟨i, hv, rfl, hi, rfl, ht⟩
 simp only [lm4] at hv
 simp only [wK, seval, wr, hv, r.len]
 refine qF (fun c => ?_) fun c => ?_
 ·have hi2 : i < l.length := by omega
  obtain ⟨b1, o1, cs, hx, e1, va, vb, vc, rfl, sr⟩ := zU r hi2
  obtain ⟨x, hxx⟩ : ∃ x, x = l[i] := ⟨_, rfl⟩
  have bs : bWord x := hxx ▸ hb _ (List.getElem_mem hi2)
  rw [<- hxx] at e1 sr
  have zh := qHQ
  have hone : (zL x va vb vc).all vone = true := by simp only [zL, List.all_cons, List.all_append, List.all_nil, rdS.one sr.1, rdS.one sr.2.1, rdS.one sr.2.2]; rfl
  simp only [wK, seval, hx, e1, zh, zZ]
  refine qC (o := blk (zL zWord (.slice none 0 0) (.slice none 0 0) (.slice none 0 0)) 66) fun j4 h4 => ?_
  try simp only [wK, seval, zh, zZ, hone]
  obtain ⟨B, hB⟩ : ∃ B, B = (j4, blk (zL x va vb vc) 66) :: h' := ⟨_, rfl⟩
  have sB : Tk.Sub h' B := by rw [hB]; exact Sub.cons h4 (Sub.refl _)
  have gB : hget B j4 = some (blk (zL x va vb vc) 66) := by rw [hB]; exact qG _ _ _
  have rd : qV B j4 0 17 = some (zL x va vb vc) := zD gB rfl
  rw [<- hB]
  try simp only [wK, seval, rd]
  refine qOP (sWord.sub sB sr) bs.len fun q2 hq2 => ?_
  cases q2 with
  | false =>
   simp only [wK, seval]
   exact k.dno sB fun y => qW hq2 rfl (y.2 _ (hxx ▸ List.getElem_mem hi2))
  | true =>
   simp (disch := omega) only [wK, seval, qK]
   refine ⟨l.length - (i + 1), by omega, h', sB, i + 1, by simp, rfl, by omega, rfl, fun z hz => ?_⟩
   rw [yH hi2] at hz
   rcases List.mem_append.1 hz with hz | hz
   ·exact ht z hz
   ·rw [List.mem_singleton.1 hz, <- hxx]; exact hq2.1 rfl
 ·have hi2 : i = l.length := by omega
  rw [hi2, List.take_length] at ht
  try simp only [wK, seval, r.len]
  by_cases e60 : (l.length : Int) <= 60
  ·simp only [wK, seval, e60, decide_true]
   exact .of (k.yes ⟨by omega, ht⟩)
  ·simp only [wK, seval, e60, decide_false]
   exact .of (k.no fun y => e60 (by have := y.1; omega))
end Go.Proofs.YtjioiemhgbkbfaaGreatDoor
end

section
attribute [local irreducible] Go.Tk.vc Go.Tk.vops Go.Tk.vdr Go.Tk.vop Go.Tk.vfl Go.Tk.HCalls
namespace Go.Proofs.YtjioiemhgbkbfaaGreatDoor
open Go Go.Tk
theorem qLD {h : H} {v : Value} {l : List DTollCall} {t : Int} (r : rRs h (rTollCall h) 11 v l) (hb : ∀ x ∈ l, bTollCall x) {R : Ending -> H -> Prop} (k : Asks R (qPE l t) h) :
  HCalls Tryz.prog 65 #[v, .int .i64 t] h R := by
 refine qD lite (args := [v, .int .i64 t]) Tryz.func65 ?_
 conv => arg 2; cbv
 simp only [wK, seval, r.len]
 refine qF (fun e => .of (k.no fun x => by have := x.1; omega)) fun e18 => ?_
 refine qP [15] (fun n vs h' => ∃ i : Nat, vs = [.int .i64 i] /\ h' = h /\ i <= l.length /\ n = l.length - i /\ ∀ j (hj : j < l.length), j < i -> zGQ (l.take j) l[j] t) l.length rfl ⟨0, rfl, rfl, by omega, by omega, fun j hj hn => absurd hn (Nat.not_lt_zero _)⟩ ?_
 rintro n f h' ⟨i, hv, rfl, hi, rfl, hall⟩
 simp only [lm4] at hv
 simp only [wK, seval, wr, hv, r.len]
 refine qF (fun c => ?_) fun c => ?_
 ·have hi2 : i < l.length := by omega
  obtain ⟨b1, o1, cs, hx, e1, va, rfl, sr⟩ := zU r hi2
  obtain ⟨x, hxx⟩ : ∃ x, x = l[i] := ⟨_, rfl⟩
  have hbx : bTollCall x := hxx ▸ hb _ (List.getElem_mem hi2)
  have bv := hbx.v
  unfold lim at bv
  rw [<- hxx] at e1 sr
  have zh := kZ
  have hone : (qI x va).all vone = true := by simp only [qI, List.all_cons, List.all_append, List.all_nil, rdS.one sr]; rfl
  simp only [wK, seval, hx, e1, zh, zX]
  refine qC (o := blk (qI zTollCall (.slice none 0 0)) 111) fun j6 h6 => ?_
  try simp only [wK, seval, zh, zX, hone]
  obtain ⟨B, hB⟩ : ∃ B, B = (j6, blk (qI x va) 111) :: h' := ⟨_, rfl⟩
  have sB : Tk.Sub h' B := by rw [hB]; exact Sub.cons h6 (Sub.refl _)
  have gB : hget B j6 = some (blk (qI x va) 111) := by rw [hB]; exact qG _ _ _
  have rd : qV B j6 0 11 = some (qI x va) := zD gB rfl
  have c60 : hcel B j6 0 = some (.int .i64 x.call.session) := qE gB rfl
  have c61 : hcel B j6 1 = some (.int .i64 x.call.number) := qE gB rfl
  have c66 : hcel B j6 6 = some (.int .i64 x.begin) := qE gB rfl
  have rB := (r.subH sB).relImp fun _ _ q => rTollCall.sub sB q
  have shh2 := Sub.refl B
  have no : ¬ zGQ (l.take i) x t -> ¬ qPE l t := fun e y => e (by have := y.2 i hi2; rw [<- hxx] at this; exact this)
  rw [<- hB]
  refine zC B (Sub.refl _) ?_
  simp only [wK, seval, rd, shh2]
  refine qNM (rLs.sub sB sr) (by omega) fun q1 k1 => ?_
  cases q1 with
  | false =>
   simp only [wK, seval, shh2]
   exact k.dno sB (no fun y => qW k1 rfl y.1)
  | true =>
  have hx1 := k1.1 rfl
  simp only [wK, seval, shh2]
  refine qF (fun q3 => ?_) fun q3 => ?_
  case' refine_1 =>
   have ecast : ((i - 1 : Nat) : Int) = (i : Int) - 1 := by omega
   obtain ⟨b2, o2, cs2, hx2, e2, va2, rfl, sr2⟩ := zU r (i := i - 1) (by omega)
   rw [ecast] at hx2
   have g6 : hcel B b2 (o2 + 6) = some (.int .i64 l[i - 1].begin) := yA sB (zK e2 6 rfl)
   simp (disch := omega) only [wK, seval, hx2, c66, g6, qK, shh2]
   refine xA (fun q4 => ?_) fun q4 => ?_
   ·exact k.dno sB (no fun y => by have := y.2.1 _ (qBZ (by omega) hi2); omega)
   have hlast : ∀ y, (l.take i).getLast? = some y -> y.begin < x.begin := fun y e => by rw [qBZ (by omega) hi2] at e; cases e; exact q4
  case' refine_2 =>
   have hlast : ∀ y, (l.take i).getLast? = some y -> y.begin < x.begin := fun y e => by
    have h0 : i = 0 := by omega
    rw [h0] at e; simp at e
  all_goals
   try simp only [wK, seval, shh2]
   refine qAD rB (by omega) (by omega) fun v2 r2 => ?_
   rw [Int.toNat_natCast] at r2
   have hl2 : (l.take i).length = i := by rw [List.length_take]; omega
   simp only [wK, seval, r2.len, hl2]
   refine qP [43, 7] (fun n vs h2 => ∃ (q : Nat) (num : Int), vs = [.int .i64 q, .int .i64 num] /\ h2 = B /\ q <= i /\ n = i - q /\ num = (sesL (l.take q) x.call.session).length + 1 /\ ∀ y ∈ sesL (l.take q) x.call.session, qCK y x.begin) i rfl ⟨0, 1, rfl, rfl, by omega, by omega, by simp [sesL], by simp [sesL]⟩ ?_
   rintro n2 f2 h2 ⟨q, num, hv2, rfl, hq, rfl, hnum, hpast⟩
   simp only [lm4] at hv2
   simp only [wK, seval, wr, hv2.1, hv2.2]
   refine qF (fun q5 => ?_) fun q5 => ?_
   ·have hq2 : q < l.length := by omega
    have hq4 : q < (l.take i).length := by omega
    have hmo := qLV hq2 x.call.session
    obtain ⟨b3, o3, cs3, hx3, e3, va3, rfl, sr3⟩ := zU r2 hq4
    have htk : (l.take i)[q] = l[q] := List.getElem_take
    rw [htk] at e3 sr3
    obtain ⟨y, hyy⟩ : ∃ y, y = l[q] := ⟨_, rfl⟩
    rw [<- hyy] at e3 hmo sr3
    have hone3 : (qI y va3).all vone = true := by simp only [qI, List.all_cons, List.all_append, List.all_nil, rdS.one sr3]; rfl
    simp only [wK, seval, hx3, e3, zh, zX]
    refine qC (o := blk (qI zTollCall (.slice none 0 0)) 111) fun j9 h9 => ?_
    try simp only [wK, seval, zh, zX, hone3]
    obtain ⟨C, hC⟩ : ∃ C, C = (j9, blk (qI y va3) 111) :: h2 := ⟨_, rfl⟩
    have sC : Tk.Sub h2 C := by rw [hC]; exact Sub.cons h9 (Sub.refl _)
    have gC : hget C j9 = some (blk (qI y va3) 111) := by rw [hC]; exact qG _ _ _
    have g0 : hcel C j9 0 = some (.int .i64 y.call.session) := qE gC rfl
    have g7 : hcel C j9 7 = some (.int .i64 y.end_) := qE gC rfl
    have g8 : hcel C j9 8 = some (.bool y.over) := qE gC rfl
    have f0 : hcel C j6 0 = some (.int .i64 x.call.session) := yA sC c60
    have f6 : hcel C j6 6 = some (.int .i64 x.begin) := yA sC c66
    rw [<- hC]
    try simp only [wK, seval, g0, f0]
    refine zG (fun es => ?_) fun es => ?_
    ·simp (disch := omega) only [wK, seval, qK]
     refine ⟨i - (q + 1), by omega, h2, sC, q + 1, num, by simp, rfl, by omega, rfl, ?_, ?_⟩
     ·rw [hmo, if_neg es, List.append_nil]; exact hnum
     ·rw [hmo, if_neg es, List.append_nil]; exact hpast
    ·have hln := qBD l x.call.session q
     have hstep : qCK y x.begin -> ∃ m, m < i - q /\ ∃ gg, Tk.Sub gg C /\ ∃ (q' : Nat) (num' : Int), [Value.int IntKind.i64 ((q : Int) + 1), Value.int IntKind.i64 (num + 1)] = [.int .i64 q', .int .i64 num'] /\ gg = h2 /\ q' <= i /\ m = i - q' /\ num' = (sesL (l.take q') x.call.session).length + 1 /\ ∀ z ∈ sesL (l.take q') x.call.session, qCK z x.begin := fun hp =>
      ⟨i - (q + 1), by omega, h2, sC, q + 1, num + 1, by simp, rfl, by omega, rfl, by rw [hmo, if_pos es, List.length_append, List.length_singleton, hnum]; simp, fun z hz => by
       rw [hmo, if_pos es] at hz
       rcases List.mem_append.1 hz with hz | hz
       ·exact hpast z hz
       ·rw [List.mem_singleton.1 hz]; exact hp⟩
     have bad : ¬ qCK y x.begin -> ¬ qPE l t := fun e => no fun z => e (z.2.2.1 y (by
      unfold sesL
      rw [List.mem_filter]
      refine ⟨?_, by simpa using es⟩
      rw [List.mem_take_iff_getElem]
      exact ⟨q, by omega, hyy.symm⟩))
     obtain ⟨ov, hov⟩ : ∃ ov, ov = y.over := ⟨_, rfl⟩
     rw [<- hov] at g8
     simp (disch := omega) only [wK, seval, g8, qK]
     cases ov with
     | true =>
      simp (disch := omega) only [wK, seval, qK, Bool.not_true]
      exact hstep (.inl hov.symm)
     | false =>
      simp only [wK, seval, g7, Bool.not_false]
      by_cases ez : y.end_ = 0
      ·simp only [wK, seval, ez, decide_true]
       exact k.dno (sB.trans sC) (bad fun z => by
        rcases z with z | z
        ·rw [<- hov] at z; cases z
        ·exact z.1 ez)
      ·simp only [wK, seval, ez, decide_false, g7, f6]
       refine xA (fun eg => ?_) fun eg => ?_
       ·exact k.dno (sB.trans sC) (bad fun z => by
         rcases z with z | z
         ·rw [<- hov] at z; cases z
         ·omega)
       ·simp (disch := omega) only [wK, seval, qK]
        exact hstep (.inr ⟨ez, eg⟩)
   ·have hq3 : q = i := by omega
    rw [hq3] at hnum hpast
    have hln := qBD l x.call.session i
    simp (disch := omega) only [wK, seval, c61, qK]
    refine zG (fun en => ?_) fun en => ?_
    ·exact k.dno sB (no fun z => en (by rw [hnum]; exact z.2.2.2))
    ·refine ⟨l.length - (i + 1), by omega, h', sB, i + 1, by simp, rfl, by omega, rfl, fun j hj hn => ?_⟩
     by_cases ej : j = i
     ·subst ej
      rw [<- hxx]
      exact ⟨hx1, hlast, hpast, by rw [en, hnum]⟩
     ·exact hall j hj (by omega)
 ·have hi2 : i = l.length := by omega
  try simp only [wK, seval]
  exact .of (k.yes ⟨by omega, fun j hj => hall j hj (by omega)⟩)
end Go.Proofs.YtjioiemhgbkbfaaGreatDoor
end

section
attribute [local irreducible] Go.Tk.vc Go.Tk.vops Go.Tk.vdr Go.Tk.vop Go.Tk.vfl Go.Tk.HCalls
namespace Go.Proofs.YtjioiemhgbkbfaaGreatDoor
open Go Go.Tk
theorem qRI {h : H} {c : DTollCall} {v : Value} {t : Int} (r : rInts h v c.vals) (hb : c.vals.length <= 1099511627776) (ht : t <= 99999) {R : Ending -> H -> Prop} (k : Asks R (tcallP c t /\ inP 1 99 c.call.number) h) :
  HCalls Tryz.prog 43 #[.agg (qI c v).toArray, .int .i64 t] h R := by
 refine qD lite (args := [.agg (qI c v).toArray, .int .i64 t]) Tryz.func43 ?_
 conv => arg 2; cbv
 simp only [wK, seval, zX]
 refine qC (o := blk (qI c v) 111) fun j1 h1 => ?_
 obtain ⟨M, hM⟩ : ∃ M, M = (j1, blk (qI c v) 111) :: h := ⟨_, rfl⟩
 have sM : Tk.Sub h M := by rw [hM]; exact Sub.cons h1 (Sub.refl _)
 have gM : hget M j1 = some (blk (qI c v) 111) := by rw [hM]; exact qG _ _ _
 have c0 : hcel M j1 0 = some (.int .i64 c.call.session) := qE gM rfl
 have c1 : hcel M j1 1 = some (.int .i64 c.call.number) := qE gM rfl
 have c6 : hcel M j1 6 = some (.int .i64 c.begin) := qE gM rfl
 have c7 : hcel M j1 7 = some (.int .i64 c.end_) := qE gM rfl
 have c8 : hcel M j1 8 = some (.bool c.over) := qE gM rfl
 have c9 : hcel M j1 9 = some (.int .i64 c.code) := qE gM rfl
 have c10 : hcel M j1 10 = some v := qE gM rfl
 have cc : qV M j1 0 6 = some (zW c.call) := by unfold qV; rw [gM]; rfl
 have rM : rInts M v c.vals := rLs.sub sM r
 rw [<- hM]
 try simp only [wK, seval, c6]
 refine zY fun q1 k1 => ?_
 cases q1 with
 | false => simp only [wK, seval]; exact k.dno sM fun x => qW k1 rfl x.1.1
 | true =>
 simp only [wK, seval, c0]
 refine zY fun q2 k2 => ?_
 cases q2 with
 | false => simp only [wK, seval]; exact k.dno sM fun x => qW k2 rfl x.1.2.1
 | true =>
 simp only [wK, seval, c1]
 refine zY fun q3 k3 => ?_
 cases q3 with
 | false => simp only [wK, seval]; exact k.dno sM fun x => qW k3 rfl x.2
 | true =>
 simp only [wK, seval, cc]
 refine qMG fun q4 k4 => ?_
 cases q4 with
 | false => simp only [wK, seval]; exact k.dno sM fun x => qW k4 rfl x.1.2.2.1
 | true =>
 simp only [wK, seval, c10]
 refine qJA rM hb fun q5 k5 => ?_
 cases q5 with
 | false => simp only [wK, seval]; exact k.dno sM fun x => qW k5 rfl x.1.2.2.2.1
 | true =>
 have hbeg := k1.1 rfl
 have nil1 : (c.vals.length : Int) = 0 ↔ c.vals = [] := ⟨fun e => List.eq_nil_of_length_eq_zero (by omega), fun e => by rw [e]; rfl⟩
 have good : ((c.end_ = 0 /\ c.code = 0 /\ c.vals = []) ∨ (c.end_ ≠ 0 /\ c.over = false /\ inP (c.begin + 1) t c.end_ /\ inP 0 9 c.code)) -> tcallP c t /\ inP 1 99 c.call.number := fun e => ⟨⟨k1.1 rfl, k2.1 rfl, k4.1 rfl, k5.1 rfl, e⟩, k3.1 rfl⟩
 simp only [wK, seval, c7]
 by_cases e0 : c.end_ = 0
 ·simp only [wK, seval, e0, decide_true, c9]
  by_cases e1 : c.code = 0
  ·simp only [wK, seval, e1, decide_true, c10, rM.len]
   by_cases e2 : (c.vals.length : Int) = 0
   ·simp only [wK, seval, e2, decide_true]
    exact k.dyes sM (good (.inl ⟨e0, e1, nil1.1 e2⟩))
   ·simp only [wK, seval, e2, decide_false]
    exact k.dno sM fun x => by
     rcases x.1.2.2.2.2 with y | y
     ·exact e2 (nil1.2 y.2.2)
     ·exact y.1 e0
  ·simp only [wK, seval, e1, decide_false]
   exact k.dno sM fun x => by
    rcases x.1.2.2.2.2 with y | y
    ·exact e1 y.2.1
    ·exact y.1 e0
 ·simp only [wK, seval, e0, decide_false, c8]
  obtain ⟨ov, hov⟩ : ∃ ov, ov = c.over := ⟨_, rfl⟩
  rw [<- hov]
  cases ov with
  | true =>
   simp only [wK, seval]
   exact k.dno sM fun x => by
    rcases x.1.2.2.2.2 with y | y
    ·exact e0 y.1
    ·rw [<- hov] at y; cases y.2.1
  | false =>
   unfold inP at hbeg
   simp (disch := omega) only [wK, seval, c7, c6, qK]
   refine zY fun q6 k6 => ?_
   cases q6 with
   | false =>
    simp only [wK, seval]
    exact k.dno sM fun x => by
     rcases x.1.2.2.2.2 with y | y
     ·exact e0 y.1
     ·exact qW k6 rfl y.2.2.1
   | true =>
    simp only [wK, seval, c9]
    refine zY fun q7 k7 => ?_
    cases q7 with
    | false =>
     simp only [wK, seval]
     exact k.dno sM fun x => by
      rcases x.1.2.2.2.2 with y | y
      ·exact e0 y.1
      ·exact qW k7 rfl y.2.2.2
    | true =>
     simp only [wK, seval]
     exact k.dyes sM (good (.inr ⟨e0, hov.symm, k6.1 rfl, k7.1 rfl⟩))
theorem qOI {h : H} {v : Value} {l : List DTollCall} {t : Int} (r : rRs h (rTollCall h) 11 v l) (hb : ∀ x ∈ l, bTollCall x) (ht : t <= 99999) {R : Ending -> H -> Prop} (k : Asks R (qJW l t) h) :
  HCalls Tryz.prog 18 #[v, .int .i64 t] h R := by
 refine yK (args := [v, .int .i64 t]) Tryz.func18 ir18 ?_
 simp only [wK, seval, r.len]
 refine qF (fun e => .of (k.no fun x => by have := x.1; omega)) fun e18 => ?_
 refine qP [5] (fun n vs h' => ∃ i : Nat, vs = [.int .i64 i] /\ h' = h /\ i <= l.length /\ n = l.length - i /\ ∀ j (hj : j < l.length), j < i -> zGR (l.take j) l[j] t) l.length rfl ⟨0, rfl, rfl, by omega, by omega, fun j hj hn => absurd hn (Nat.not_lt_zero _)⟩ ?_
 rintro n f h' ⟨i, hv, rfl, hi, rfl, hall⟩
 simp only [lm4] at hv
 simp only [wK, seval, wr, hv, r.len]
 refine qF (fun c => ?_) fun c => ?_
 ·have hi2 : i < l.length := by omega
  obtain ⟨b1, o1, cs, hx, e1, va, rfl, sr⟩ := zU r hi2
  obtain ⟨x, hxx⟩ : ∃ x, x = l[i] := ⟨_, rfl⟩
  have hbx : bTollCall x := hxx ▸ hb _ (List.getElem_mem hi2)
  have bv := hbx.v
  unfold lim at bv
  rw [<- hxx] at e1 sr
  have f0 : hcel h' b1 o1 = some (.int .i64 x.call.session) := zK e1 0 rfl
  have f1 : hcel h' b1 (o1 + 1) = some (.int .i64 x.call.number) := zK e1 1 rfl
  have f6 : hcel h' b1 (o1 + 6) = some (.int .i64 x.begin) := zK e1 6 rfl
  have shh := Sub.refl h'
  have no : ¬ zGR (l.take i) x t -> ¬ qJW l t := fun e y => e (by have := y.2 i hi2; rw [<- hxx] at this; exact this)
  have num : ∀ j (hj : j < l.length), j < i -> l[j].call.number = (sesL (l.take j) l[j].call.session).length + 1 := fun j hj hn => (hall j hj hn).2.2.2
  refine zC h' (Sub.refl _) ?_
  simp only [wK, seval, hx, e1, shh]
  refine qRI sr (by omega) ht fun q1 k1 => ?_
  cases q1 with
  | false =>
   simp only [wK, seval, shh]
   exact .of (k.no (no fun y => qW k1 rfl ⟨y.1, by have := y.2.2.2; have := qBD l x.call.session i; unfold inP; omega⟩))
  | true =>
  have hx1 := k1.1 rfl
  simp only [wK, seval, shh]
  refine qF (fun q3 => ?_) fun q3 => ?_
  case' refine_1 =>
   have ecast : ((i - 1 : Nat) : Int) = (i : Int) - 1 := by omega
   obtain ⟨b2, o2, cs2, hx2, e2, va2, rfl, sr2⟩ := zU r (i := i - 1) (by omega)
   rw [ecast] at hx2
   have g6 : hcel h' b2 (o2 + 6) = some (.int .i64 l[i - 1].begin) := zK e2 6 rfl
   simp (disch := omega) only [wK, seval, hx, hx2, f6, g6, qK, shh]
   refine xA (fun q4 => ?_) fun q4 => ?_
   ·exact .of (k.no (no fun y => by have := y.2.1 _ (qBZ (by omega) hi2); omega))
   have hlast : ∀ y, (l.take i).getLast? = some y -> y.begin < x.begin := fun y e => by rw [qBZ (by omega) hi2] at e; cases e; exact q4
  case' refine_2 =>
   have hlast : ∀ y, (l.take i).getLast? = some y -> y.begin < x.begin := fun y e => by
    have h0 : i = 0 := by omega
    rw [h0] at e; simp at e
   try simp only [wK, seval, shh]
  all_goals
   refine qP [7, 6] (fun n vs h2 => ∃ (q : Nat) (last : Int), vs = [.int .i64 q, .int .i64 last] /\ h2 = h' /\ q <= i /\ n = i - q /\ last = (sesL (l.take q) x.call.session).length /\ ∀ y ∈ sesL (l.take q) x.call.session, qCK y x.begin) i rfl ⟨0, 0, rfl, rfl, by omega, by omega, by simp [sesL], by simp [sesL]⟩ ?_
   rintro n2 f2 h2 ⟨q, last, hv2, rfl, hq, rfl, hlst, hpast⟩
   simp only [lm4] at hv2
   simp only [wK, seval, wr, hv2.1, hv2.2]
   refine qF (fun q5 => ?_) fun q5 => ?_
   ·have hq2 : q < l.length := by omega
    have hmo := qLV hq2 x.call.session
    obtain ⟨b3, o3, cs3, hx3, e3, va3, rfl, sr3⟩ := zU r hq2
    obtain ⟨y, hyy⟩ : ∃ y, y = l[q] := ⟨_, rfl⟩
    have hnum := num q hq2 (by omega)
    rw [<- hyy] at e3 hmo hnum
    have g0 : hcel h2 b3 o3 = some (.int .i64 y.call.session) := zK e3 0 rfl
    have g1 : hcel h2 b3 (o3 + 1) = some (.int .i64 y.call.number) := zK e3 1 rfl
    have g7 : hcel h2 b3 (o3 + 7) = some (.int .i64 y.end_) := zK e3 7 rfl
    have g8 : hcel h2 b3 (o3 + 8) = some (.bool y.over) := zK e3 8 rfl
    refine zC h2 (Sub.refl _) ?_
    simp only [wK, seval, hx3, g0, hx, f0, shh]
    refine zG (fun es => ?_) fun es => ?_
    ·simp (disch := omega) only [wK, seval, qK]
     refine ⟨i - (q + 1), by omega, h2, .refl _, q + 1, last, by simp, rfl, by omega, rfl, ?_, ?_⟩
     ·rw [hmo, if_neg es, List.append_nil]; exact hlst
     ·rw [hmo, if_neg es, List.append_nil]; exact hpast
    ·simp only [wK, seval, hx3, g1]
     rw [es] at hnum
     have hstep : qCK y x.begin -> ∃ m, m < i - q /\ ∃ gg, Tk.Sub gg h2 /\ ∃ (q' : Nat) (last' : Int), [Value.int IntKind.i64 ((q : Int) + 1), Value.int IntKind.i64 y.call.number] = [.int .i64 q', .int .i64 last'] /\ gg = h2 /\ q' <= i /\ m = i - q' /\ last' = (sesL (l.take q') x.call.session).length /\ ∀ z ∈ sesL (l.take q') x.call.session, qCK z x.begin := fun hp =>
      ⟨i - (q + 1), by omega, h2, .refl _, q + 1, y.call.number, by simp, rfl, by omega, rfl, by rw [hmo, if_pos es, List.length_append, List.length_singleton, hnum]; simp, fun z hz => by
       rw [hmo, if_pos es] at hz
       rcases List.mem_append.1 hz with hz | hz
       ·exact hpast z hz
       ·rw [List.mem_singleton.1 hz]; exact hp⟩
     have bad : ¬ qCK y x.begin -> ¬ qJW l t := fun e => no fun z => e (z.2.2.1 y (by
      unfold sesL
      rw [List.mem_filter]
      refine ⟨?_, by simpa using es⟩
      rw [List.mem_take_iff_getElem]
      exact ⟨q, by omega, hyy.symm⟩))
     refine zC h2 (Sub.refl _) ?_
     obtain ⟨ov, hov⟩ : ∃ ov, ov = y.over := ⟨_, rfl⟩
     rw [<- hov] at g8
     simp only [wK, seval, hx3, g8, shh]
     cases ov with
     | true =>
      simp (disch := omega) only [wK, seval, qK, shh]
      exact hstep (.inl hov.symm)
     | false =>
      simp only [wK, seval, hx3, g7, shh]
      by_cases ez : y.end_ = 0
      ·simp only [wK, seval, ez, decide_true, shh]
       exact .of (k.no (bad fun z => by
        rcases z with z | z
        ·rw [<- hov] at z; cases z
        ·exact z.1 ez))
      ·simp only [wK, seval, ez, decide_false, hx3, g7, hx, f6, shh]
       refine xA (fun eg => ?_) fun eg => ?_
       ·exact .of (k.no (bad fun z => by
         rcases z with z | z
         ·rw [<- hov] at z; cases z
         ·omega))
       ·simp (disch := omega) only [wK, seval, qK, shh]
        exact hstep (.inr ⟨ez, eg⟩)
   ·have hq3 : q = i := by omega
    rw [hq3] at hlst hpast
    have hln := qBD l x.call.session i
    simp (disch := omega) only [wK, seval, hx, f1, qK]
    refine zG (fun en => ?_) fun en => ?_
    ·exact .of (k.no (no fun z => en (by rw [hlst]; exact z.2.2.2)))
    ·refine ⟨l.length - (i + 1), by omega, h2, .refl _, i + 1, by simp, rfl, by omega, rfl, fun j hj hn => ?_⟩
     by_cases ej : j = i
     ·subst ej
      rw [<- hxx]
      exact ⟨hx1.1, hlast, hpast, by rw [en, hlst]⟩
     ·exact hall j hj (by omega)
 ·have hi2 : i = l.length := by omega
  try simp only [wK, seval]
  exact .of (k.yes ⟨by omega, fun j hj => hall j hj (by omega)⟩)
end Go.Proofs.YtjioiemhgbkbfaaGreatDoor
end

section
attribute [local irreducible] Go.Tk.vc Go.Tk.vops Go.Tk.vdr Go.Tk.vop Go.Tk.vfl Go.Tk.HCalls
namespace Go.Tk
open Go
def jJ (w : DTollWorld) : Prop := inP 0 99999 w.time /\ qEN w.gate /\ w.houses.length = 3 /\ w.radio.length <= 60 /\ qJW w.calls w.time /\ (∀ i (h : i < w.houses.length), xV w.houses[i] /\ w.houses[i].id = (i : Int)) /\ ∀ x ∈ w.radio, qLI x
end Go.Tk
namespace Go.Proofs.YtjioiemhgbkbfaaGreatDoor
open Go Go.Tk
theorem qNX {h : H} {d : DTollWorld} {v1 v2 v3 v4 v5 v6 : Value} (r : sTollWorld h d v1 v2 v3 v4 v5 v6) (hb : bWorld d) {R : Ending -> H -> Prop} (k : Asks R (jJ d) h) :
  HCalls Tryz.prog 6 #[.agg (cTollWorld d v1 v2 v3 v4 v5 v6).toArray] h R := by
 refine qD lite (args := [.agg (cTollWorld d v1 v2 v3 v4 v5 v6).toArray]) Tryz.func6 ?_
 conv => arg 2; cbv
 rw [qR]
 have b1 := hb.rlen
 have b2 := hb.hlen
 unfold lim at b1 b2
 simp only [wK, seval, yQ]
 refine qC (o := blk (cTollWorld d v1 v2 v3 v4 v5 v6) 43) fun j1 h1 => ?_
 obtain ⟨M, hM⟩ : ∃ M, M = (j1, blk (cTollWorld d v1 v2 v3 v4 v5 v6) 43) :: h := ⟨_, rfl⟩
 have sM : Tk.Sub h M := by rw [hM]; exact Sub.cons h1 (Sub.refl _)
 have gM : hget M j1 = some (blk (cTollWorld d v1 v2 v3 v4 v5 v6) 43) := by rw [hM]; exact qG _ _ _
 have c0 : hcel M j1 0 = some (.int .i64 d.time) := qE gM rfl
 have cg : qV M j1 1 6 = some (zN d.gate v1 v2 v3) := by unfold qV; rw [gM]; rfl
 have c7 : hcel M j1 7 = some v4 := qE gM rfl
 have c8 : hcel M j1 8 = some v5 := qE gM rfl
 have c9 : hcel M j1 9 = some v6 := qE gM rfl
 have rg : sGate M d.gate v1 v2 v3 := sGate.sub sM ⟨r.1, r.2.1, r.2.2.1⟩
 have rh := (r.2.2.2.1.subH sM).relImp fun _ _ q => rHouse.sub sM q
 have rr := (r.2.2.2.2.1.subH sM).relImp fun _ _ q => rWord.sub sM q
 have rc := (r.2.2.2.2.2.subH sM).relImp fun _ _ q => rTollCall.sub sM q
 rw [<- hM]
 try simp only [wK, seval, c0]
 refine zY fun q1 k1 => ?_
 cases q1 with
 | false => simp only [wK, seval]; exact k.dno sM fun x => qW k1 rfl x.1
 | true =>
 have htm := (k1.1 rfl).2
 simp only [wK, seval, cg]
 refine qNY rg hb.gate fun q2 k2 => ?_
 cases q2 with
 | false => simp only [wK, seval]; exact k.dno sM fun x => qW k2 rfl x.2.1
 | true =>
 simp only [wK, seval, c7, rh.len]
 refine zG (fun e => k.dno sM fun x => e (by have := x.2.2.1; omega)) fun e3 => ?_
 simp only [wK, seval, c8, rr.len]
 refine qF (fun e => k.dno sM fun x => by have := x.2.2.2.1; omega) fun e60 => ?_
 simp only [wK, seval, c9, c0]
 refine qOI rc hb.calls htm fun q5 k5 => ?_
 cases q5 with
 | false => simp only [wK, seval]; exact k.dno sM fun x => qW k5 rfl x.2.2.2.2.1
 | true =>
 simp only [wK, seval]
 refine qP [3] (fun n vs h' => ∃ i : Nat, vs = [.int .i64 i] /\ h' = M /\ i <= d.houses.length /\ n = d.houses.length - i /\ ∀ j (hj : j < d.houses.length), j < i -> xV d.houses[j] /\ d.houses[j].id = (j : Int)) d.houses.length rfl ⟨0, rfl, rfl, by omega, by omega, fun j hj hn => absurd hn (Nat.not_lt_zero _)⟩ ?_
 rintro n f h' ⟨i, hv, rfl, hi, rfl, ht⟩
 simp only [lm4] at hv
 simp only [wK, seval, wr, hv, c7, rh.len]
 refine qF (fun c => ?_) fun c => ?_
 ·have hi2 : i < d.houses.length := by omega
  obtain ⟨b1, o1, cs, hx, e1, va, vb, vc, rfl, sr⟩ := zU rh hi2
  have f0 : hcel h' b1 o1 = some (.int .i64 d.houses[i].id) := zK e1 0 rfl
  simp only [wK, seval, c7, hx, e1]
  refine qKR sr (hb.houses _ (List.getElem_mem hi2)) fun q6 k6 => ?_
  cases q6 with
  | false => simp only [wK, seval]; exact k.dno sM fun x => qW k6 rfl (x.2.2.2.2.2.1 i hi2).1
  | true =>
  simp only [wK, seval, c7, hx, f0]
  by_cases ei : d.houses[i].id = (i : Int)
  ·simp (disch := omega) only [wK, seval, ei, decide_true, Bool.not_true, qK]
   refine ⟨d.houses.length - (i + 1), by omega, h', .refl _, i + 1, by simp, rfl, by omega, rfl, fun j hj hn => ?_⟩
   by_cases ej : j = i
   ·subst ej; exact ⟨k6.1 rfl, ei⟩
   ·exact ht j hj (by omega)
  ·simp only [wK, seval, ei, decide_false, Bool.not_false]
   exact k.dno sM fun x => ei (x.2.2.2.2.2.1 i hi2).2
 ·have hi2 : i = d.houses.length := by omega
  refine qP [4] (fun n vs h2 => ∃ i : Nat, vs = [.int .i64 i] /\ h2 = h' /\ i <= d.radio.length /\ n = d.radio.length - i /\ ∀ x ∈ d.radio.take i, qLI x) d.radio.length rfl ⟨0, rfl, rfl, by omega, by omega, by simp⟩ ?_
  rintro n f2 h2 ⟨q, hv2, rfl, hq, rfl, hw⟩
  simp only [lm4] at hv2
  simp only [wK, seval, wr, hv2, c8, rr.len]
  refine qF (fun c => ?_) fun c => ?_
  ·have hq2 : q < d.radio.length := by omega
   obtain ⟨b1, o1, cs, hx, e1, va, vb, vc, rfl, sr⟩ := zU rr hq2
   simp only [wK, seval, c8, hx, e1]
   refine qNW sr (hb.radio _ (List.getElem_mem hq2)).len fun q6 k6 => ?_
   cases q6 with
   | false => simp only [wK, seval]; exact k.dno sM fun x => qW k6 rfl (x.2.2.2.2.2.2 _ (List.getElem_mem hq2))
   | true =>
   simp (disch := omega) only [wK, seval, qK]
   refine ⟨d.radio.length - (q + 1), by omega, h2, .refl _, q + 1, by simp, rfl, by omega, rfl, fun x hx => ?_⟩
   rw [yH hq2] at hx
   rcases List.mem_append.1 hx with hx | hx
   ·exact hw x hx
   ·rw [List.mem_singleton.1 hx]; exact k6.1 rfl
  ·have hq3 : q = d.radio.length := by omega
   rw [hq3, List.take_length] at hw
   try simp only [wK, seval]
   exact k.dyes sM ⟨k1.1 rfl, k2.1 rfl, by omega, by omega, k5.1 rfl, fun j hj => ht j hj (by omega), hw⟩
end Go.Proofs.YtjioiemhgbkbfaaGreatDoor
end

section
attribute [local irreducible] Go.Tk.vc Go.Tk.vops Go.Tk.vdr Go.Tk.vop Go.Tk.vfl Go.Tk.HCalls
namespace Go.Tk
open Go
def eIf (p : TypeId × Value) : List Value := [.iface p.1 p.2]
theorem qCG (p : TypeId × Value) : (eIf p).length = 1 := rfl
theorem qYJ (l : List (TypeId × Value)) : (fl eIf l).all vone = true := by induction l <;> simp_all [fl, eIf, vone]
end Go.Tk
namespace Go.Proofs.YtjioiemhgbkbfaaGreatDoor
open Go Go.Tk
theorem tErrs : Tryz.prog.underlying 125 = some (.slice 72) := by kernel_rfl
theorem iErr : wP Tryz.prog 72 1 16 := vY (by kernel_rfl)
structure Ge (h : H) : Prop where
 e0 : ∃ te pe ty, hget h 0 = some (blk [.iface te pe] ty)
 e1 : ∃ te pe ty, hget h 1 = some (blk [.iface te pe] ty)
 e2 : ∃ te pe ty, hget h 2 = some (blk [.iface te pe] ty)
 e3 : ∃ te pe ty, hget h 3 = some (blk [.iface te pe] ty)
 e4 : ∃ te pe ty, hget h 4 = some (blk [.iface te pe] ty)
theorem Ge.sub {g h : H} (k : Ge g) (s : Tk.Sub g h) : Ge h := by
 obtain ⟨⟨a1, b1, c1, d1⟩, ⟨a2, b2, c2, d2⟩, ⟨a3, b3, c3, d3⟩, ⟨a4, b4, c4, d4⟩, ⟨a5, b5, c5, d5⟩⟩ := k
 exact ⟨⟨a1, b1, c1, s _ _ d1⟩, ⟨a2, b2, c2, s _ _ d2⟩, ⟨a3, b3, c3, s _ _ d3⟩, ⟨a4, b4, c4, s _ _ d4⟩, ⟨a5, b5, c5, s _ _ d5⟩⟩
theorem qIR {M : H} {jf : Nat} {v : Value} {L : List (TypeId × Value)} {S : Nat -> Prop} {ok : Bool} {te : TypeId} {pe : Value} (g : hget M jf = some (blk [v] 125)) (d : dL 72 eIf 1 M v L S) (hj : ¬ S jf) (hl : L.length <= 1000)
  {R : Ending -> H -> Prop} (k : ∀ M' v' L' S', hget M' jf = some (blk [v'] 125) -> dL 72 eIf 1 M' v' L' S' -> ¬ S' jf -> (∀ x, hget M x ≠ none -> ¬ S x -> x ≠ jf -> hget M' x = hget M x) -> (∀ x, S' x -> S x ∨ hget M x = none) -> (L' = [] ↔ L = [] /\ ok = true) -> L'.length <= L.length + 1 -> R (.returned (.tuple #[])) M') :
  HCalls Tryz.prog 60 #[.bool ok, .iface te pe, .pointer (some ⟨jf, 0, none⟩)] M R := by
 refine qD lite (args := [.bool ok, .iface te pe, .pointer (some ⟨jf, 0, none⟩)]) Tryz.func60 ?_
 conv => arg 2; cbv
 rw [qR]
 have c0 : hcel M jf 0 = some v := qE g rfl
 cases ok with
 | true =>
  simp only [wK, seval, Bool.not_true]
  exact .of (k M v L S g d hj (fun _ _ _ _ => rfl) (fun x q => .inl q) ⟨fun e => ⟨e, rfl⟩, fun e => e.1⟩ (by omega))
 | false =>
  simp only [wK, seval, Bool.not_false, c0]
  refine qC (o := blk (fl eIf [(te, pe)]) 72) fun j9 h9 => ?_
  obtain ⟨B, hB⟩ : ∃ B, B = (j9, blk (fl eIf [(te, pe)]) 72) :: M := ⟨_, rfl⟩
  have sB : Tk.Sub M B := by rw [hB]; exact Sub.cons h9 (Sub.refl _)
  have r9 : rLs B eIf 1 (.slice (some ⟨j9, 0, none⟩) 1 1) [(te, pe)] := by rw [hB]; exact (xU (e := 72) (j := j9) (l := [(te, pe)]) qCG).rd.sub (Sub.cons2 (Sub.nil _))
  have eB : (j9, blk [.iface te pe] 72) :: M = B := hB.symm
  first | rw [<- hB] | rw [eB]
  simp only [wK, seval]
  refine qFY qCG qYJ tErrs iErr (d.frame fun y q => Sub.eq sB (d.in q)) r9 (by rw [List.length_singleton]; omega) (by rw [List.length_singleton]; omega) fun M5 w5 S5 d5 k5 f5 => ?_
  have gk : hget M5 jf = some (blk [v] 125) := by rw [k5 jf (by rw [sB _ _ g]; simp) hj]; exact sB _ _ g
  obtain ⟨Z, wZ, gZ, fZ⟩ := qBS (vs := [w5]) (cs' := [w5]) (o := 0) gk (by show 0 + 1 <= 1; omega) rfl
  have on5 := d5.one
  have vc5 := vc1 on5
  have nj : ∀ x, S5 x -> x ≠ jf := fun x q c => by
   rcases f5 x q with e | e
   ·exact hj (c ▸ e)
   ·rw [c, sB _ _ g] at e; cases e
  simp only [wK, seval, on5, vc5, wZ]
  refine .of (k Z w5 (L ++ [(te, pe)]) S5 gZ (d5.frame fun x q => fZ x (nj x q)) (fun q => nj jf q rfl) (fun x e1 e2 e3 => ?_) (fun x q => ?_) ⟨fun e => by simp at e, fun e => by cases e.2⟩ (by simp))
  ·rw [fZ x e3, k5 x (by rw [Sub.eq sB e1]; exact e1) e2, Sub.eq sB e1]
  ·rcases f5 x q with e | e
   ·exact .inl e
   ·exact .inr (sB.none' e)
theorem join_c {h : H} {v : Value} {L : List (TypeId × Value)} (r : rLs h eIf 1 v L) (hl : L.length <= 1000) {R : Ending -> H -> Prop} (k1 : L = [] -> R (.returned .nilIface) h) (k2 : L ≠ [] -> ∀ te pe, R (.returned (.iface te pe)) h) :
  HCalls Tryz.prog 66 #[v] h R := by
 refine qD lite (args := [v]) Tryz.func66 ?_
 conv => arg 2; cbv
 simp only [wK, seval, r.len]
 refine qP [11, 3] (fun n vs h' => ∃ i : Nat, vs = [.int .i64 i, .int .i64 i] /\ h' = h /\ i <= L.length /\ n = L.length - i) L.length rfl ⟨0, rfl, rfl, by omega, rfl⟩ ?_
 rintro n f h' ⟨i, hv, rfl, hi, rfl⟩
 simp only [lm4] at hv
 simp only [wK, seval, wr, hv.1, hv.2]
 refine qF (fun c => ?_) fun c => ?_
 ·have hi2 : i < L.length := by omega
  obtain ⟨b1, o1, hx, e1⟩ := yU (enc := eIf) (sz := 1) qCG r hi2
  have f1 : hcel h' b1 o1 = some (.iface L[i].1 L[i].2) := zK e1 0 rfl
  simp (disch := omega) only [wK, seval, hx, f1, qK]
  exact ⟨L.length - (i + 1), by omega, h', .refl _, i + 1, by simp, rfl, by omega, rfl⟩
 have hi2 : i = L.length := by omega
 subst hi2
 by_cases e0 : (L.length : Int) = 0
 ·simp only [wK, seval, e0, decide_true]
  exact .of (k1 (List.eq_nil_of_length_eq_zero (by omega)))
 have hne : L ≠ [] := fun e => e0 (by rw [e]; rfl)
 simp only [wK, seval, e0, decide_false]
 refine ⟨⟨by omega, by omega, by omega⟩, qC fun j23 h23 => ?_⟩
 have o0 : oLs 72 eIf 1 (.slice (some ⟨j23, 0, none⟩) 0 L.length) [] [(j23, blk (zrep [.nilIface] L.length) 72)] :=
  ⟨rfl, .inr ⟨j23, L.length, zrep [.nilIface] L.length, rfl, Nat.zero_le _, by simp [zrep, zHU], rfl⟩⟩
 obtain ⟨A, hA⟩ : ∃ A, A = (j23, blk (zrep [.nilIface] L.length) 72) :: h' := ⟨_, rfl⟩
 have sA : Tk.Sub h' A := by rw [hA]; exact Sub.cons h23 (Sub.refl _)
 have d0 : dL 72 eIf 1 A (.slice (some ⟨j23, 0, none⟩) 0 L.length) [] (fun x => hget [(j23, blk (zrep [.nilIface] L.length) 72)] x ≠ none) := dL.of (h := A) o0 (by rw [hA]; exact Sub.cons2 (Sub.nil _))
 try simp only [Int.toNat_natCast]
 rw [<- hA]
 simp only [wK, seval, Int.toNat_natCast]
 refine qC (o := blk [.slice (some ⟨j23, 0, none⟩) 0 L.length] 193) fun j6 h6 => ?_
 obtain ⟨B, hB⟩ : ∃ B, B = (j6, blk [.slice (some ⟨j23, 0, none⟩) 0 L.length] 193) :: A := ⟨_, rfl⟩
 have sB : Tk.Sub A B := by rw [hB]; exact Sub.cons h6 (Sub.refl _)
 have g6 : hget B j6 = some (blk [.slice (some ⟨j23, 0, none⟩) 0 L.length] 193) := by rw [hB]; exact qG _ _ _
 have h6h : hget h' j6 = none := sA.none' h6
 rw [<- hB]
 simp only [wK, seval, r.len]
 refine qP [28] (fun n vs M' => ∃ (i : Nat) (w : Value) (S : Nat -> Prop), vs = [.int .i64 i] /\ Tk.Sub h' M' /\ hget M' j6 = some (blk [w] 193) /\ dL 72 eIf 1 M' w (L.take i) S /\ (∀ x, S x -> hget h' x = none /\ x ≠ j6) /\ i <= L.length /\ n = L.length - i) L.length rfl
  ⟨0, _, _, rfl, sA.trans sB, g6, d0.frame (fun x q => Sub.eq sB (d0.in q)), fun x q => ?_, by omega, rfl⟩ ?_
 ·have hx : x = j23 := Classical.byContradiction fun c => q (by rw [zM, if_neg c, uQ])
  refine ⟨by rw [hx]; exact h23, fun c => ?_⟩
  rw [<- c, hx, hA] at h6
  rw [qG] at h6; cases h6
 rintro n f2 M2 ⟨i, w, S, hv2, s2, gj, dW, hS, hi2, rfl⟩
 simp only [lm4] at hv2
 simp only [wK, seval, wr, hv2]
 refine qF (fun c => ?_) fun c => ?_
 ·have hi3 : i < L.length := by omega
  obtain ⟨b1, o1, hx, e1⟩ := yU (enc := eIf) (sz := 1) qCG (r.sub s2) hi3
  obtain ⟨p, hpp⟩ : ∃ p, p = L[i] := ⟨_, rfl⟩
  have htk : L.take (i + 1) = L.take i ++ [p] := by rw [hpp]; exact yH hi3
  have hlen : (L.take i).length <= i := by rw [List.length_take]; omega
  rw [<- hpp] at e1
  have f1 : hcel M2 b1 o1 = some (.iface p.1 p.2) := zK e1 0 rfl
  have c6 : hcel M2 j6 0 = some w := qE gj rfl
  simp only [wK, seval, hx, f1, c6]
  refine qC (o := blk (fl eIf [p]) 72) fun j9 h9 => ?_
  obtain ⟨C, hC⟩ : ∃ C, C = (j9, blk (fl eIf [p]) 72) :: M2 := ⟨_, rfl⟩
  have sC : Tk.Sub M2 C := by rw [hC]; exact Sub.cons h9 (Sub.refl _)
  have r9 : rLs C eIf 1 (.slice (some ⟨j9, 0, none⟩) 1 1) [p] := by rw [hC]; exact (xU (e := 72) (j := j9) (l := [p]) qCG).rd.sub (Sub.cons2 (Sub.nil _))
  have eC : (j9, blk [.iface p.1 p.2] 72) :: M2 = C := hC.symm
  first | rw [<- hC] | rw [eC]
  simp only [wK, seval]
  refine qFY qCG qYJ tErrs iErr (dW.frame fun y q => Sub.eq sC (dW.in q)) r9 (by rw [List.length_singleton]; omega) (by rw [List.length_singleton]; omega) fun M5 w5 S5 d5 k5 f5 => ?_
  have gk : hget M5 j6 = some (blk [w] 193) := by rw [k5 j6 (by rw [sC _ _ gj]; simp) (fun q => (hS _ q).2 rfl)]; exact sC _ _ gj
  obtain ⟨Z, wZ, gZ, fZ⟩ := qBS (vs := [w5]) (cs' := [w5]) (o := 0) gk (by show 0 + 1 <= 1; omega) rfl
  have on5 := d5.one
  have vc5 := vc1 on5
  have nS : ∀ x, S5 x -> hget h' x = none /\ x ≠ j6 := fun x q => by
   rcases f5 x q with e | e
   ·exact hS x e
   ·exact ⟨s2.none' (sC.none' e), fun c => by rw [c, sC _ _ gj] at e; cases e⟩
  simp (disch := omega) only [wK, seval, on5, vc5, wZ, qK]
  refine ⟨L.length - (i + 1), by omega, Z, .refl _, i + 1, w5, S5, by simp, fun y o e => ?_, gZ, by rw [htk]; exact d5.frame fun x q => fZ x (nS x q).2, nS, by omega, rfl⟩
  have n1 : y ≠ j6 := fun c => by rw [c, h6h] at e; cases e
  have hM := s2 _ _ e
  rw [fZ y n1, k5 y (by rw [sC _ _ hM]; simp) (fun q => by rw [(hS y q).1] at e; cases e)]
  exact sC _ _ hM
 ·try simp only [wK, seval]
  exact ⟨h', s2, k2 hne _ _⟩
end Go.Proofs.YtjioiemhgbkbfaaGreatDoor
end
