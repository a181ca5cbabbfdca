/- Parts of the proof. -/
import Derived.Test.YtjioiemhgbkbfaaGreatDoorK155
import Derived.Test.YtjioiemhgbkbfaaGreatDoorK1517
import Derived.Test.YtjioiemhgbkbfaaGreatDoorK1516
import Derived.Test.YtjioiemhgbkbfaaGreatDoorK1513
import Derived.Test.YtjioiemhgbkbfaaGreatDoorK1511
import Derived.Test.YtjioiemhgbkbfaaGreatDoorK1515
import Derived.Test.YtjioiemhgbkbfaaGreatDoorK1510
import Derived.Test.YtjioiemhgbkbfaaGreatDoorK1514
set_option maxHeartbeats 4000000
set_option maxRecDepth 100000
set_option linter.unusedVariables false
set_option linter.unusedSimpArgs false
set_option linter.defProp false
section
attribute [local irreducible] Go.Tk.vc Go.Tk.vops Go.Tk.vdr Go.Tk.vop Go.Tk.vfl Go.Tk.HCalls
namespace Go.Tk
open Go
theorem zDB {g : DGate} (h : qDX g <= 1048576) : bGate g := by
 unfold qDX at h
 refine ⟨by unfold lim; omega, fun r hr => ?_, by unfold lim; omega, fun x hx => ?_, by unfold lim; omega⟩
 ·have := vW qDT hr
  have h3 : qDT r <= 1048576 := by omega
  unfold qDT at h3
  exact ⟨by unfold lim; omega, by unfold lim; omega, by unfold qAX lim; omega⟩
 ·have := vW qAB hx
  have h2 : qAB x <= 1048576 := by omega
  unfold qAB at h2
  refine ⟨by unfold lim; omega, by unfold lim; omega, fun t ht => ?_, by unfold qAX lim; omega⟩
  have := vW qAA ht
  have h3 : qAA t <= 1048576 := by omega
  unfold qAA at h3
  unfold qGV lim; omega
end Go.Tk
namespace Go.Proofs.YtjioiemhgbkbfaaGreatDoor
open Go Go.Tk
def qAZ (d : DTollWorld) : Nat := qDX d.gate + (d.houses.length + sumL qDW d.houses) + (d.radio.length + sumL qDR d.radio) + (d.calls.length + sumL qDS d.calls)
theorem zDA {d : DTollWorld} (h : qAZ d <= 1048576) : bWorld d := by
 unfold qAZ at h
 refine ⟨zDB (by omega), by unfold lim; omega, fun x hx => ?_, by unfold lim; omega, fun x hx => ?_, by unfold lim; omega, fun x hx => ?_⟩
 ·have := vW qDW hx
  have h2 : qDW x <= 1048576 := by omega
  unfold qDW at h2
  refine ⟨by unfold lim; omega, fun t ht => ?_, by unfold lim; omega, fun t ht => ?_, by unfold lim; omega, fun t ht => ?_⟩
  ·have := vW qDU ht
   have h3 : qDU t <= 1048576 := by omega
   unfold qDU at h3
   exact ⟨by unfold lim; omega, by unfold lim; omega⟩
  ·have := vW qDV ht
   have h3 : qDV t <= 1048576 := by omega
   unfold qDV at h3
   exact ⟨by unfold lim; omega, by unfold lim; omega⟩
  ·have := vW qDQ ht
   have h3 : qDQ t <= 1048576 := by omega
   unfold qDQ at h3
   unfold kW lim; omega
 ·have := vW qDR hx
  have h2 : qDR x <= 1048576 := by omega
  unfold qDR at h2
  exact ⟨by unfold lim; omega, by unfold lim; omega, by unfold lim; omega, by unfold qAX lim; omega⟩
 ·have := vW qDS hx
  have h2 : qDS x <= 1048576 := by omega
  unfold qDS at h2
  exact ⟨by unfold lim; omega, by unfold qAX lim; omega⟩
def nWorld (h : H) (d : DTollWorld) (v1 v2 v3 v4 v5 v6 : Value) : Prop := nGate h d.gate v1 v2 v3 /\ rIRs h (nHouse h) 6 v4 d.houses /\ rIRs h (nWord h) 17 v5 d.radio /\ rIRs h (nTollCall h) 11 v6 d.calls
theorem nWorld.sub {g h : H} (s : Tk.Sub g h) {d : DTollWorld} {v1 v2 v3 v4 v5 v6 : Value} (r : nWorld g d v1 v2 v3 v4 v5 v6) : nWorld h d v1 v2 v3 v4 v5 v6 :=
 ⟨r.1.sub s, r.2.1.sub s fun _ _ q => nHouse.sub s q, r.2.2.1.sub s fun _ _ q => nWord.sub s q, r.2.2.2.sub s fun _ _ q => nTollCall.sub s q⟩
def qNK (d : DTollWorld) : Prop := zER d.gate /\ (d.houses.length <= 9223372036854775807 /\ ∀ x ∈ d.houses, qHZ x) /\ (d.radio.length <= 9223372036854775807 /\ ∀ x ∈ d.radio, qPX x) /\ (d.calls.length <= 9223372036854775807 /\ ∀ x ∈ d.calls, kO x)
theorem qIJ {h : H} {d : DTollWorld} {v1 v2 v3 v4 v5 v6 : Value} (r : sTollWorld h d v1 v2 v3 v4 v5 v6) : (cTollWorld d v1 v2 v3 v4 v5 v6).all vone = true := by
 simp only [cTollWorld, List.all_cons, List.all_nil, rRs.one r.1, rRs.one r.2.1, rdS.one r.2.2.1, rRs.one r.2.2.2.1, rRs.one r.2.2.2.2.1, rRs.one r.2.2.2.2.2]; rfl
theorem qKM {h : H} {d : DTollWorld} {v1 v2 v3 v4 v5 v6 : Value} {left : Int} (r : nWorld h d v1 v2 v3 v4 v5 v6) (hl : 0 <= left /\ left <= 1048576) (hu : qNK d) {R : Ending -> H -> Prop} (k : ∀ x, (0 <= x -> x = left - qAZ d) -> x <= 1048576 -> R (.returned (.int .i64 x)) h) :
  HCalls Tryz.prog 5 #[.agg (cTollWorld d v1 v2 v3 v4 v5 v6).toArray, .int .i64 left] h R := by
 refine qD lite (args := [.agg (cTollWorld d v1 v2 v3 v4 v5 v6).toArray, .int .i64 left]) Tryz.func5 ?_
 conv => arg 2; cbv
 rw [qR]
 unfold qAZ at k
 simp only [wK, seval, yQ]
 refine qC (o := blk (cTollWorld d v1 v2 v3 v4 v5 v6) 31) fun j hj => ?_
 obtain ⟨M, hM⟩ : ∃ M, M = (j, blk (cTollWorld d v1 v2 v3 v4 v5 v6) 31) :: h := ⟨_, rfl⟩
 have sM : Tk.Sub h M := by rw [hM]; exact Sub.cons hj (Sub.refl _)
 have gM : hget M j = some (blk (cTollWorld d v1 v2 v3 v4 v5 v6) 31) := by rw [hM]; exact qG _ _ _
 have cg : qV M j 1 6 = some (zN d.gate v1 v2 v3) := by unfold qV; rw [gM]; rfl
 have c7 : hcel M j 7 = some v4 := qE gM rfl
 have c8 : hcel M j 8 = some v5 := qE gM rfl
 have c9 : hcel M j 9 = some v6 := qE gM rfl
 have rM := r.sub sM
 rw [<- hM]
 simp only [wK, seval, cg]
 refine zFP rM.1 hl hu.1 fun x0 a0 b0 => ?_
 simp only [wK, seval]
 refine qF (fun c => ⟨h, sM, k _ (fun q => absurd q (by omega)) (by omega)⟩) fun c0 => ?_
 have a0' := a0 (by omega)
 try simp only [wK, seval, c7]
 refine qUH rM.2.1 ⟨by omega, by omega⟩ hu.2.1.1 hu.2.1.2 fun x1 a1 b1 => ?_
 simp only [wK, seval]
 refine qF (fun c => ⟨h, sM, k _ (fun q => absurd q (by omega)) (by omega)⟩) fun c1 => ?_
 have a1' := a1 (by omega)
 try simp only [wK, seval, c8]
 refine zAJ rM.2.2.1 ⟨by omega, by omega⟩ hu.2.2.1.1 hu.2.2.1.2 fun x2 a2 b2 => ?_
 simp only [wK, seval]
 refine qF (fun c => ⟨h, sM, k _ (fun q => absurd q (by omega)) (by omega)⟩) fun c2 => ?_
 have a2' := a2 (by omega)
 try simp only [wK, seval, c9]
 refine qKN rM.2.2.2 ⟨by omega, by omega⟩ hu.2.2.2.1 hu.2.2.2.2 fun x3 a3 b3 => ?_
 simp only [wK, seval]
 refine qF (fun c => ⟨h, sM, k _ (fun q => absurd q (by omega)) (by omega)⟩) fun c3 => ?_
 have a3' := a3 (by omega)
 try simp only [wK, seval]
 exact ⟨h, sM, k _ (fun _ => by omega) (by omega)⟩
theorem qLA {h : H} {x y : DTollWorld} {v1 v2 v3 v4 v5 v6 w1 w2 w3 w4 w5 w6 : Value} (rx : sTollWorld h x v1 v2 v3 v4 v5 v6) (ry : sTollWorld h y w1 w2 w3 w4 w5 w6) (hx : bWorld x) {R : Ending -> H -> Prop} (k : R (.returned (.bool (decide (x = y)))) h) :
  HCalls Tryz.prog 9 #[.agg (cTollWorld x v1 v2 v3 v4 v5 v6).toArray, .agg (cTollWorld y w1 w2 w3 w4 w5 w6).toArray] h R := by
 refine qD lite (args := [.agg (cTollWorld x v1 v2 v3 v4 v5 v6).toArray, .agg (cTollWorld y w1 w2 w3 w4 w5 w6).toArray]) Tryz.func9 ?_
 conv => arg 2; cbv
 rw [qR]
 have b1 := hx.hlen; have b2 := hx.rlen; have b3 := hx.clen
 unfold lim at b1 b2 b3
 simp only [wK, seval, yQ]
 refine qC (o := blk (cTollWorld x v1 v2 v3 v4 v5 v6) 43) fun j1 h1 => ?_
 simp only [wK, seval, yQ]
 refine qC (o := blk (cTollWorld y w1 w2 w3 w4 w5 w6) 43) fun j2 h2 => ?_
 obtain ⟨M1, hM1⟩ : ∃ M1, M1 = (j1, blk (cTollWorld x v1 v2 v3 v4 v5 v6) 43) :: h := ⟨_, rfl⟩
 rw [<- hM1] at h2
 have s1 : Tk.Sub h M1 := by rw [hM1]; exact Sub.cons h1 (Sub.refl _)
 have g1' : hget M1 j1 = some (blk (cTollWorld x v1 v2 v3 v4 v5 v6) 43) := by rw [hM1]; exact qG _ _ _
 obtain ⟨M, hM⟩ : ∃ M, M = (j2, blk (cTollWorld y w1 w2 w3 w4 w5 w6) 43) :: M1 := ⟨_, rfl⟩
 have s2 : Tk.Sub M1 M := by rw [hM]; exact Sub.cons h2 (Sub.refl _)
 have g1 := s2 _ _ g1'
 have g2 : hget M j2 = some (blk (cTollWorld y w1 w2 w3 w4 w5 w6) 43) := by rw [hM]; exact qG _ _ _
 have sM := s1.trans s2
 have a0 : hcel M j1 0 = some (.int .i64 x.time) := qE g1 rfl
 have ag : qV M j1 1 6 = some (zN x.gate v1 v2 v3) := by unfold qV; rw [g1]; rfl
 have a7 : hcel M j1 7 = some v4 := qE g1 rfl
 have a8 : hcel M j1 8 = some v5 := qE g1 rfl
 have a9 : hcel M j1 9 = some v6 := qE g1 rfl
 have e0 : hcel M j2 0 = some (.int .i64 y.time) := qE g2 rfl
 have eg : qV M j2 1 6 = some (zN y.gate w1 w2 w3) := by unfold qV; rw [g2]; rfl
 have e7 : hcel M j2 7 = some w4 := qE g2 rfl
 have e8 : hcel M j2 8 = some w5 := qE g2 rfl
 have e9 : hcel M j2 9 = some w6 := qE g2 rfl
 have rX := sTollWorld.sub sM rx
 have rY := sTollWorld.sub sM ry
 rw [<- hM1, <- hM]
 try simp only [wK, seval, a0, e0]
 refine zG (fun d => ⟨h, sM, kF k (fun e => d (by rw [e]))⟩) fun d0 => ?_
 try simp only [wK, seval, ag, eg]
 refine zIM ⟨rX.1, rX.2.1, rX.2.2.1⟩ ⟨rY.1, rY.2.1, rY.2.2.1⟩ hx.gate ?_
 simp only [wK, seval]
 refine zG (fun d => ⟨h, sM, kF k (fun e => d (by rw [e]))⟩) fun d1 => ?_
 try simp only [wK, seval, a7, e7]
 refine qWF rX.2.2.2.1 rY.2.2.2.1 hx.houses (by omega) ?_
 simp only [wK, seval]
 refine zG (fun d => ⟨h, sM, kF k (fun e => d (by rw [e]))⟩) fun d2 => ?_
 try simp only [wK, seval, a8, e8]
 refine zCH rX.2.2.2.2.1 rY.2.2.2.2.1 (fun t ht => (hx.radio t ht).len) (by omega) ?_
 simp only [wK, seval]
 refine zG (fun d => ⟨h, sM, kF k (fun e => d (by rw [e]))⟩) fun d3 => ?_
 try simp only [wK, seval, a9, e9]
 refine qLB rX.2.2.2.2.2 rY.2.2.2.2.2 hx.calls (by omega) ?_
 simp only [wK, seval]
 refine zG (fun d => ⟨h, sM, kF k (fun e => d (by rw [e]))⟩) fun d4 => ?_
 try simp only [wK, seval]
 refine ⟨h, sM, kT k ?_⟩
 cases x; cases y; simp_all
theorem kG {h : H} {d : DTollWorld} {v1 v2 v3 v4 v5 v6 : Value} (r : nWorld h d v1 v2 v3 v4 v5 v6) (hb : bWorld d) {R : Ending -> H -> Prop}
  (k : ∀ M' w1 w2 w3 w4 w5 w6, Tk.Sub h M' -> sTollWorld M' d w1 w2 w3 w4 w5 w6 -> R (.returned (.agg (cTollWorld d w1 w2 w3 w4 w5 w6).toArray)) M') : HCalls Tryz.prog 7 #[.agg (cTollWorld d v1 v2 v3 v4 v5 v6).toArray] h R := by
 refine qD lite (args := [.agg (cTollWorld d v1 v2 v3 v4 v5 v6).toArray]) Tryz.func7 ?_
 conv => arg 2; cbv
 rw [qR]
 have b1 := hb.hlen; have b2 := hb.rlen; have b3 := hb.clen
 unfold lim at b1 b2 b3
 have zw := qCI
 simp only [wK, seval, yQ, zw]
 refine qC (o := blk (cTollWorld d v1 v2 v3 v4 v5 v6) 31) fun j1 h1 => ?_
 simp only [wK, seval, yQ, zw]
 refine qC (o := blk (cTollWorld zTollWorld (.slice none 0 0) (.slice none 0 0) (.slice none 0 0) (.slice none 0 0) (.slice none 0 0) (.slice none 0 0)) 43) fun j2 h2 => ?_
 simp only [wK, seval, yQ, zw]
 refine qC (o := blk (cTollWorld zTollWorld (.slice none 0 0) (.slice none 0 0) (.slice none 0 0) (.slice none 0 0) (.slice none 0 0) (.slice none 0 0)) 43) fun j3 h3 => ?_
 obtain ⟨A1, hA1⟩ : ∃ A1, A1 = (j1, blk (cTollWorld d v1 v2 v3 v4 v5 v6) 31) :: h := ⟨_, rfl⟩
 rw [<- hA1] at h2 h3
 obtain ⟨A2, hA2⟩ : ∃ A2, A2 = (j2, blk (cTollWorld zTollWorld (.slice none 0 0) (.slice none 0 0) (.slice none 0 0) (.slice none 0 0) (.slice none 0 0) (.slice none 0 0)) 43) :: A1 := ⟨_, rfl⟩
 rw [<- hA2] at h3
 obtain ⟨A, hA⟩ : ∃ A, A = (j3, blk (cTollWorld zTollWorld (.slice none 0 0) (.slice none 0 0) (.slice none 0 0) (.slice none 0 0) (.slice none 0 0) (.slice none 0 0)) 43) :: A2 := ⟨_, rfl⟩
 have t1 : Tk.Sub h A1 := by rw [hA1]; exact Sub.cons h1 (Sub.refl _)
 have t2 : Tk.Sub A1 A2 := by rw [hA2]; exact Sub.cons h2 (Sub.refl _)
 have t3 : Tk.Sub A2 A := by rw [hA]; exact Sub.cons h3 (Sub.refl _)
 have tA := t1.trans (t2.trans t3)
 have g1 : hget A j1 = some (blk (cTollWorld d v1 v2 v3 v4 v5 v6) 31) := t3 _ _ (t2 _ _ (by rw [hA1]; exact qG _ _ _))
 have g2' : hget A2 j2 = some (blk (cTollWorld zTollWorld (.slice none 0 0) (.slice none 0 0) (.slice none 0 0) (.slice none 0 0) (.slice none 0 0) (.slice none 0 0)) 43) := by rw [hA2]; exact qG _ _ _
 have g2 := t3 _ _ g2'
 have g3 : hget A j3 = some (blk (cTollWorld zTollWorld (.slice none 0 0) (.slice none 0 0) (.slice none 0 0) (.slice none 0 0) (.slice none 0 0) (.slice none 0 0)) 43) := by rw [hA]; exact qG _ _ _
 have n31 : j1 ≠ j3 := fun e => by
  have : hget A2 j1 = none := by rw [e]; exact h3
  rw [t2 _ _ (by rw [hA1]; exact qG _ _ _)] at this; cases this
 have n32 : j2 ≠ j3 := fun e => by rw [e, h3] at g2'; cases g2'
 have h3h : hget h j3 = none := t1.none' (t2.none' h3)
 have h2h : hget h j2 = none := t1.none' h2
 rw [<- hA1, <- hA2, <- hA]
 have c0 : hcel A j1 0 = some (.int .i64 d.time) := qE g1 rfl
 obtain ⟨N0, w0, gN0, f0⟩ := bst (vs := [.int .i64 d.time]) (cs' := cTollWorld ⟨d.time, zTollWorld.gate, [], [], []⟩ (.slice none 0 0) (.slice none 0 0) (.slice none 0 0) (.slice none 0 0) (.slice none 0 0) (.slice none 0 0)) (o := 0) g3 (by show 0 + 1 <= 10; omega) rfl
 try simp only [wK, seval, c0, w0]
 have sN0 : Tk.Sub h N0 := fun x o e => by rw [f0 x (fun c => by rw [c, h3h] at e; cases e)]; exact tA _ _ e
 have g1N0 := (f0 _ n31).trans g1
 have g2N0 := (f0 _ n32).trans g2
 have r1 : qV N0 j1 1 6 = some (zN d.gate v1 v2 v3) := by unfold qV; rw [g1N0]; rfl
 try simp only [wK, seval, r1]
 refine zFD (r.sub sN0).1 hb.gate fun M1 w1 w2 w3 S1 s1 W1 q1 => ?_
 have on1 : (zN d.gate w1 w2 w3).all vone = true := by
  have q := W1.rd
  simp only [zN, List.all_cons, List.all_nil, rRs.one q.1, rRs.one q.2.1, rdS.one q.2.2]; rfl
 obtain ⟨N1, z1, gN1, f1⟩ := bst (vs := zN d.gate w1 w2 w3) (cs' := cTollWorld ⟨d.time, d.gate, [], [], []⟩ w1 w2 w3 (.slice none 0 0) (.slice none 0 0) (.slice none 0 0)) (o := 1) (s1 _ _ gN0) (by show 1 + 6 <= 10; omega) rfl
 try simp only [wK, seval, yF, on1, z1]
 have u1 : ∀ x, hget N0 x ≠ none -> x ≠ j3 -> hget N1 x = hget N0 x := fun x e c => by rw [f1 x c, Sub.eq s1 e]
 have sN1 : Tk.Sub h N1 := fun x o e => by rw [u1 x (by rw [sN0 x o e]; simp) (fun c => by rw [c, h3h] at e; cases e)]; exact sN0 _ _ e
 have g1N1 : hget N1 j1 = _ := (u1 _ (by rw [g1N0]; simp) n31).trans g1N0
 have g2N1 : hget N1 j2 = _ := (u1 _ (by rw [g2N0]; simp) n32).trans g2N0
 have n1 : ∀ x, S1 x -> x ≠ j3 := fun x p c => by have := q1 x p; rw [c, gN0] at this; cases this
 have V1_1 := W1.frame (M' := N1) fun x p => f1 x (n1 x p)
 have r2 : hcel N1 j1 7 = some v4 := qE g1N1 rfl
 try simp only [wK, seval, r2]
 refine qUC (r.sub sN1).2.1 (by omega) hb.houses fun M2 w4 S2 s2 W2 q2 => ?_
 have on2 := W2.one
 have vc2 := vc1 on2
 obtain ⟨N2, z2, gN2, f2⟩ := bst (vs := [w4]) (cs' := cTollWorld ⟨d.time, d.gate, d.houses, [], []⟩ w1 w2 w3 w4 (.slice none 0 0) (.slice none 0 0)) (o := 7) (s2 _ _ gN1) (by show 7 + 1 <= 10; omega) rfl
 try simp only [wK, seval, on2, vc2, z2]
 have u2 : ∀ x, hget N1 x ≠ none -> x ≠ j3 -> hget N2 x = hget N1 x := fun x e c => by rw [f2 x c, Sub.eq s2 e]
 have sN2 : Tk.Sub h N2 := fun x o e => by rw [u2 x (by rw [sN1 x o e]; simp) (fun c => by rw [c, h3h] at e; cases e)]; exact sN1 _ _ e
 have g1N2 : hget N2 j1 = _ := (u2 _ (by rw [g1N1]; simp) n31).trans g1N1
 have g2N2 : hget N2 j2 = _ := (u2 _ (by rw [g2N1]; simp) n32).trans g2N1
 have n2 : ∀ x, S2 x -> x ≠ j3 := fun x p c => by have := q2 x p; rw [c, gN1] at this; cases this
 have V2_2 := W2.frame (M' := N2) WHouseC.fr fun x p => f2 x (n2 x p)
 have V1_2 := V1_1.frame (M' := N2) fun x p => u2 x (V1_1.in p) (n1 x p)
 have r3 : hcel N2 j1 8 = some v5 := qE g1N2 rfl
 try simp only [wK, seval, r3]
 refine zAA (r.sub sN2).2.2.1 (by omega) hb.radio fun M3 w5 S3 s3 W3 q3 => ?_
 have on3 := W3.one
 have vc3 := vc1 on3
 obtain ⟨N3, z3, gN3, f3⟩ := bst (vs := [w5]) (cs' := cTollWorld ⟨d.time, d.gate, d.houses, d.radio, []⟩ w1 w2 w3 w4 w5 (.slice none 0 0)) (o := 8) (s3 _ _ gN2) (by show 8 + 1 <= 10; omega) rfl
 try simp only [wK, seval, on3, vc3, z3]
 have u3 : ∀ x, hget N2 x ≠ none -> x ≠ j3 -> hget N3 x = hget N2 x := fun x e c => by rw [f3 x c, Sub.eq s3 e]
 have sN3 : Tk.Sub h N3 := fun x o e => by rw [u3 x (by rw [sN2 x o e]; simp) (fun c => by rw [c, h3h] at e; cases e)]; exact sN2 _ _ e
 have g1N3 : hget N3 j1 = _ := (u3 _ (by rw [g1N2]; simp) n31).trans g1N2
 have g2N3 : hget N3 j2 = _ := (u3 _ (by rw [g2N2]; simp) n32).trans g2N2
 have n3 : ∀ x, S3 x -> x ≠ j3 := fun x p c => by have := q3 x p; rw [c, gN2] at this; cases this
 have V3_3 := W3.frame (M' := N3) WWord.fr fun x p => f3 x (n3 x p)
 have V1_3 := V1_2.frame (M' := N3) fun x p => u3 x (V1_2.in p) (n1 x p)
 have V2_3 := V2_2.frame (M' := N3) WHouseC.fr fun x p => u3 x (V2_2.in WHouseC.in p) (n2 x p)
 have r4 : hcel N3 j1 9 = some v6 := qE g1N3 rfl
 try simp only [wK, seval, r4]
 refine qKL (r.sub sN3).2.2.2 (by omega) hb.calls fun M4 w6 S4 s4 W4 q4 => ?_
 have on4 := W4.one
 have vc4 := vc1 on4
 obtain ⟨N4, z4, gN4, f4⟩ := bst (vs := [w6]) (cs' := cTollWorld d w1 w2 w3 w4 w5 w6) (o := 9) (s4 _ _ gN3) (by show 9 + 1 <= 10; omega) rfl
 try simp only [wK, seval, on4, vc4, z4]
 have u4 : ∀ x, hget N3 x ≠ none -> x ≠ j3 -> hget N4 x = hget N3 x := fun x e c => by rw [f4 x c, Sub.eq s4 e]
 have sN4 : Tk.Sub h N4 := fun x o e => by rw [u4 x (by rw [sN3 x o e]; simp) (fun c => by rw [c, h3h] at e; cases e)]; exact sN3 _ _ e
 have g1N4 : hget N4 j1 = _ := (u4 _ (by rw [g1N3]; simp) n31).trans g1N3
 have g2N4 : hget N4 j2 = _ := (u4 _ (by rw [g2N3]; simp) n32).trans g2N3
 have n4 : ∀ x, S4 x -> x ≠ j3 := fun x p c => by have := q4 x p; rw [c, gN3] at this; cases this
 have V4_4 := W4.frame (M' := N4) WTollCall.fr fun x p => f4 x (n4 x p)
 have V1_4 := V1_3.frame (M' := N4) fun x p => u4 x (V1_3.in p) (n1 x p)
 have V2_4 := V2_3.frame (M' := N4) WHouseC.fr fun x p => u4 x (V2_3.in WHouseC.in p) (n2 x p)
 have V3_4 := V3_3.frame (M' := N4) WWord.fr fun x p => u4 x (V3_3.in WWord.in p) (n3 x p)
 have rd3 : qV N4 j3 0 10 = some (cTollWorld d w1 w2 w3 w4 w5 w6) := zD gN4 rfl
 have Q := V1_4.rd
 have fin : sTollWorld N4 d w1 w2 w3 w4 w5 w6 := ⟨Q.1, Q.2.1, Q.2.2, V2_4.rd WHouseC.rd, V3_4.rd WWord.rd, V4_4.rd WTollCall.rd⟩
 have one := qIJ fin
 obtain ⟨N5, z5, gN5, f5⟩ := bst (vs := cTollWorld d w1 w2 w3 w4 w5 w6) (cs' := cTollWorld d w1 w2 w3 w4 w5 w6) (o := 0) g2N4 (by show 0 + 10 <= 10; omega) rfl
 have rd2 : qV N5 j2 0 10 = some (cTollWorld d w1 w2 w3 w4 w5 w6) := zD gN5 rfl
 simp only [wK, seval, rd3, one, z5, yQ, rd2]
 obtain ⟨N6, hN6⟩ : ∃ N6, N6 = N5 := ⟨_, rfl⟩
 have ne2 : ∀ x, x ≠ j2 -> hget N5 x = hget N4 x := f5
 have gg : ∀ x o, hget h x = some o -> hget N5 x = some o := fun x o e => by rw [f5 x (fun c => by rw [c, h2h] at e; cases e)]; exact sN4 _ _ e
 have m1 : ∀ x, S1 x -> x ≠ j2 := fun x p c => by have := q1 x p; rw [c, g2N0] at this; cases this
 have m2 : ∀ x, S2 x -> x ≠ j2 := fun x p c => by have := q2 x p; rw [c, g2N1] at this; cases this
 have m3 : ∀ x, S3 x -> x ≠ j2 := fun x p c => by have := q3 x p; rw [c, g2N2] at this; cases this
 have m4 : ∀ x, S4 x -> x ≠ j2 := fun x p c => by have := q4 x p; rw [c, g2N3] at this; cases this
 have Z1 := (V1_4.frame (M' := N5) fun x p => f5 x (m1 x p)).rd
 have Z2 := V2_4.frame (M' := N5) WHouseC.fr fun x p => f5 x (m2 x p)
 have Z3 := V3_4.frame (M' := N5) WWord.fr fun x p => f5 x (m3 x p)
 have Z4 := V4_4.frame (M' := N5) WTollCall.fr fun x p => f5 x (m4 x p)
 exact .of (k N5 w1 w2 w3 w4 w5 w6 gg ⟨Z1.1, Z1.2.1, Z1.2.2, Z2.rd WHouseC.rd, Z3.rd WWord.rd, Z4.rd WTollCall.rd⟩)
end Go.Proofs.YtjioiemhgbkbfaaGreatDoor
end

section
namespace Go.Tk
open Go
end Go.Tk
end

section
attribute [local irreducible] Go.Tk.vc Go.Tk.vops Go.Tk.vdr Go.Tk.vop Go.Tk.vfl Go.Tk.HCalls
namespace Go.Tk
open Go
section
variable {P : Program} {kt it : TypeId}
theorem qFD {E : Value -> H -> Prop} {h : H} (h2 : P.underlying it = some (.int .i64)) (a : Int × Int) {Q : Value -> H -> Prop} : SH P (part it #[.int .i64 a.1, .int .i64 a.2] 0) Q E h = Q (.int .i64 a.1) h /\ SH P (part it #[.int .i64 a.1, .int .i64 a.2] 1) Q E h = Q (.int .i64 a.2) h :=
 ⟨qPK h2 rfl rfl, qPK h2 rfl rfl⟩
theorem zDK {b : Bool} {n : Nat} {v : Value} (h2 : P.underlying it = some (.int .i64)) {Q : Unit -> H -> Prop} {E : Value -> H -> Prop} {h : H} : SH P (Instr.checkKey b (n + 1) it v) Q E h = Q () h := by
 rw [Instr.checkKey]
 simp only [qH, qQ h2]
 cases v <;> rfl
end
end Go.Tk
end

section
attribute [local irreducible] Go.Tk.vc Go.Tk.vops Go.Tk.vdr Go.Tk.vop Go.Tk.vfl Go.Tk.HCalls
namespace Go.Tk
open Go
section
variable {P : Program} {kt it : TypeId} {f1 f2 : Field}
theorem SH_eqS2 (h1 : P.underlying kt = some (.struct #[f1, f2])) (h2 : P.underlying it = some (.int .i64)) (t1 : f1.type = it) (t2 : f2.type = it) (o1 : f1.offset = 0) (o2 : f2.offset = 1) (n1 : f1.name ≠ "_") (n2 : f2.name ≠ "_") (hp : P.stoodInHeld kt = false) (a b : Int × Int) {Q : Bool -> H -> Prop} {E : Value -> H -> Prop} {h : H} :
  SH P (Op.equal kt (eTwo a) (eTwo b)) Q E h = Q (decide (a = b)) h := by
 show SH P (Op.equalIn (9998 + 1 + 1) kt (eTwo a) (eTwo b)) Q E h = _
 unfold eTwo
 rw [zDI h1 hp]
 simp only [Op.eqFields, n1, n2, t1, t2, o1, o2, ne_eq, not_false_iff, if_true, qH, (qFD h2 _).1, (qFD h2 _).2, SH_eqIB h2, qXE, qU]
 by_cases c1 : a.1 = b.1
 ·by_cases c2 : a.2 = b.2
  ·have e : a = b := Prod.ext c1 c2
   simp [e, qU, qH]
  ·have e : ¬ a = b := fun e => c2 (by rw [e])
   simp [c1, c2, e, qU, qH]
 ·have e : ¬ a = b := fun e => c1 (by rw [e])
  simp [c1, e, qU, qH]
theorem keyS2 (h1 : P.underlying kt = some (.struct #[f1, f2])) (h2 : P.underlying it = some (.int .i64)) (t1 : f1.type = it) (t2 : f2.type = it) (o1 : f1.offset = 0) (o2 : f2.offset = 1) (n1 : f1.name ≠ "_") (n2 : f2.name ≠ "_") (hp : P.stoodInHeld kt = false) : KeyT P kt eTwo where
 check := fun a b => by
  intro Q E h'
  rw [show (10000 : Nat) = 9998 + 1 + 1 from rfl]
  unfold eTwo
  rw [Instr.checkKey]
  simp only [qH, qQ h1]
  rw [<- Array.forIn_toList]
  simp only [List.forIn_cons, List.forIn_nil, n1, n2, t1, t2, o1, o2, ne_eq, not_false_iff, if_true, qH, qXE, (qFD h2 _).1, (qFD h2 _).2, zDK h2, qU]
 find := fun k es m hm => by
  intro Q E h'
  have hn : es ≠ [] -> Instr.findNow (.struct #[f1, f2]) (eTwo k) es 0 = none := by
   intro h
   cases es with
   | nil => exact absurd rfl h
   | cons e es => rfl
  simp only [Instr.findKey, qH, qQ h1]
  cases es with
  | nil =>
   cases m with
   | nil => rfl
   | cons => cases hm
  | cons e es =>
   rw [hn (by simp)]
   exact findAsk (fun a b {Q E h} => SH_eqS2 h1 h2 t1 t2 o1 o2 n1 n2 hp a b) k (e :: es) m 0 hm
 bits := fun a => by simp [eTwo, Instr.sameBits]
end
section
variable {P : Program} {κ : Type} [DecidableEq κ] {enc : κ -> Value} {kt et t ty : TypeId} {i : TypeInfo} {z : Value} {ρ : Operand -> Value} {h : H} {K : Value -> H -> Prop} {X : List PanicEntry -> H -> Prop} {x y w : Operand} {r : Nat} {es : Array MapEntry} {c : Nat} {m : List (κ × Value)}
theorem qBE (Kt : KeyT P kt enc) (ht : P.underlying t = some (.map kt et)) (hi : P.info? et = some i) (hz : i.zero = some z) (hx : ρ x = .map (some r)) {k : κ} (hk : ρ y = enc k) (hr : hget h r = some (.map es c)) (hm : mapO enc es m) {v : Value} {b : Bool} (hv : (mget m k).getD z = v) (hb : (mget m k).isSome = b)
  (q : K (.tuple #[v, .bool b]) h) : rawK P (.lookup t x y true) ty ρ h K X := by
 unfold rawK
 simp only [execOp, mkO, yP, hx, hk]
 exact qNB Kt ht hi hz hr hm k (by rw [hv, hb]; exact q)
end
theorem qBS {M : H} {j o : Nat} {cs vs cs' : List Value} {e : TypeId} (g : hget M j = some (blk cs e)) (hl : o + vs.length <= cs.length) (hs : qJ cs o vs = cs') :
  ∃ N, zQ M j o vs = some N /\ hget N j = some (blk cs' e) /\ ∀ x, x ≠ j -> hget N x = hget M x :=
 ⟨_, yI g hl, by rw [hs]; exact zH g, fun x e => qS e⟩
theorem qHI {M : H} {j : Nat} {o : Obj} (g : hget M j = some o) : Tk.Sub [(j, o)] M := fun y z e => by
 rw [zM, uQ] at e
 split at e
 ·rename_i c; rw [c, g]; exact e
 ·cases e
end Go.Tk
end

section
attribute [local irreducible] Go.Tk.vc Go.Tk.vops Go.Tk.vdr Go.Tk.vop Go.Tk.vfl Go.Tk.HCalls
namespace Go.Proofs.YtjioiemhgbkbfaaGreatDoor
open Go Go.Tk
theorem zHH {h : H} {v : Value} {l : List Int} {a : Int} (r : rInts h v l) (hl : l.length <= 1048576) {R : Ending -> H -> Prop} (k1 : l.contains a = true -> ∀ n : Nat, R (.returned (.int .i64 n)) h) (k2 : l.contains a = false -> R (.returned (.int .i64 (-1))) h) : HCalls Tryz.prog 280 #[v, .int .i64 a] h R := by
 refine qD lite (args := [v, .int .i64 a]) Tryz.func280 ?_
 conv => arg 2; cbv
 simp only [wK, seval, r.len]
 refine qP [8] (fun n vs h' => ∃ i : Nat, vs = [.int .i64 i] /\ h' = h /\ (l.take i).contains a = false /\ i <= l.length /\ n = l.length - i) l.length rfl ⟨0, rfl, rfl, rfl, by omega, rfl⟩ ?_
 rintro n f h' ⟨i, hv, rfl, hn, hi, rfl⟩
 simp only [lm4] at hv
 simp only [wK, seval, wr, hv, r.len]
 refine qF (fun c1 => ?_) fun c1 => ?_
 ·have hi2 : i < l.length := by omega
  obtain ⟨b, o, hx, e⟩ := yU (enc := eI) (sz := 1) (fun _ => rfl) r hi2
  have e0 : hcel h' b o = some (.int .i64 l[i]) := zK e 0 rfl
  simp only [wK, seval, hx, e0]
  by_cases d1 : a = l[i]
  ·have : l.contains a = true := by rw [List.contains_iff_mem, d1]; exact List.getElem_mem hi2
   simp only [wK, seval, d1, decide_true]
   exact .of (k1 this i)
  ·simp only [wK, seval, d1, decide_false]
   simp (disch := omega) only [wK, seval, qK]
   refine ⟨l.length - (i + 1), by omega, h', .refl _, i + 1, by simp, rfl, ?_, by omega, rfl⟩
   rw [List.take_succ_eq_append_getElem hi2, <- Bool.not_eq_true, List.contains_iff_mem]
   rw [<- Bool.not_eq_true, List.contains_iff_mem] at hn
   simp only [List.mem_append, List.mem_singleton]
   rintro (q | q)
   ·exact hn q
   ·exact d1 q
 ·have hi3 : i = l.length := by omega
  rw [hi3, List.take_length] at hn
  try simp only [wK, seval]
  exact .of (k2 hn)
theorem qWL {h : H} {v : Value} {l : List Int} {a : Int} (r : rInts h v l) (hl : l.length <= 1048576) {R : Ending -> H -> Prop} (k : R (.returned (.bool (l.contains a))) h) : HCalls Tryz.prog 278 #[v, .int .i64 a] h R := by
 refine qD lite (args := [v, .int .i64 a]) Tryz.func278 ?_
 conv => arg 2; cbv
 simp only [wK, seval]
 refine zHH r hl (fun e n => ?_) fun e => ?_
 ·rw [e] at k
  have e2 : decide (0 <= (n : Int)) = true := by simp
  have e3 : decide ((n : Int) ≥ 0) = true := by simp
  simp only [wK, seval, e2, e3]
  exact .of k
 ·rw [e] at k
  simp only [wK, seval]
  exact .of k
end Go.Proofs.YtjioiemhgbkbfaaGreatDoor
end

section
attribute [local irreducible] Go.Tk.vc Go.Tk.vops Go.Tk.vdr Go.Tk.vop Go.Tk.vfl Go.Tk.HCalls
namespace Go.Tk
open Go
end Go.Tk
namespace Go.Proofs.YtjioiemhgbkbfaaGreatDoor
open Go Go.Tk
theorem qKX {n : Int} {h : H} {R : Ending -> H -> Prop} (k : R (.returned (.int .i64 (uC n))) h) : HCalls Tryz.prog 279 #[.int .i64 n] h R := by
 refine qD lite (args := [.int .i64 n]) Tryz.func279 ?_
 conv => arg 2; cbv
 simp only [wK, seval]
 refine qON fun b hb => ?_
 have hb2 : b = true ↔ 0 <= n /\ n <= 31 := hb
 simp only [wK, seval]
 refine wJ (fun e => .of ?_) fun e => ?_
 ·have : uC n = -1 := by unfold uC; rw [if_neg fun p => by rw [hb2.2 p] at e; cases e]
  rw [this] at k; exact k
 ·have hn := hb2.1 e
  simp (disch := omega) only [wK, seval, qK]
  have : uC n = (n * 8).tdiv 32 := by unfold uC; rw [if_pos hn]
  have hs := qQJ (k := n) hn
  rw [this] at k hs
  rw [qK _ ⟨by omega, by omega⟩]
  exact .of k
theorem qKQ {n : Int} {h : H} {R : Ending -> H -> Prop} (k : R (.returned (.int .i64 (uC n))) h) : HCalls Tryz.prog 136 #[.int .i64 n] h R := by
 refine qD lite (args := [.int .i64 n]) Tryz.func136 ?_
 conv => arg 2; cbv
 simp only [wK, seval]
 refine zY fun b hb => ?_
 have hb2 : b = true ↔ 0 <= n /\ n <= 31 := hb
 simp only [wK, seval]
 refine wJ (fun e => .of ?_) fun e => ?_
 ·have : uC n = -1 := by unfold uC; rw [if_neg fun p => by rw [hb2.2 p] at e; cases e]
  rw [this] at k; exact k
 ·have hn := hb2.1 e
  simp (disch := omega) only [wK, seval, qK]
  have : uC n = (n * 8).tdiv 32 := by unfold uC; rw [if_pos hn]
  have hs := qQJ (k := n) hn
  rw [this] at k hs
  rw [qK _ ⟨by omega, by omega⟩]
  exact .of k
end Go.Proofs.YtjioiemhgbkbfaaGreatDoor
end

section
attribute [local irreducible] Go.Tk.vc Go.Tk.vops Go.Tk.vdr Go.Tk.vop Go.Tk.vfl Go.Tk.HCalls
namespace Go.Tk
open Go
def zIQ (ti e T : TypeId) (z : List Value) (sz : Nat) : IR := ⟨(.seq (.ops [.s 4 (.mov (.const (.slice none 0 0)))]) (.seq (.ops [.s 5 (.mov (.const (.slice none 0 0)))]) (.seq (.seq (.ops [.v 8 0, .s 9 (.lenS (.t 8)), .s 10 (.mov (.i 0))]) (.block 0 (.loop (.seq (.ops [.s 11 (.bin .lss ti (.t 10) (.t 9))]) (.seq (.cond (.t 11) .skip (.exit 0)) (.seq (.block 1 (.seq (.ops [.s 12 (.idxS (.t 8) (.t 10) sz), .s 13 (.load (.t 12) sz true), .s 7 (.alloc e z), .n (.store (.t 7) (.t 13) sz)]) (.ops [.v 14 5, .v 15 1, .s 16 (.load (.t 7) sz true), .s 17 (.callv (.t 15) [(.t 16)]), .s 18 (.bslice e z 1 [(0, sz, (.t 17))]), .s 19 (.app T T 0 (.t 14) (.t 18)), .v 5 19]))) (.ops [.s 20 (.bin .add ti (.t 10) (.i 1)), .v 10 20]))))))) (.seq (.ops [.v 21 5, .v 4 21]) .ret)))), [.tmp 4], 22⟩
theorem All2.imp' {α β : Type} {r s : α -> β -> Prop} {l : List α} {m : List β} (h : All2 r l m) (f : ∀ a b, b ∈ m -> r a b -> s a b) : All2 s l m := by
 induction h with
 | nil => exact .nil
 | cons x _ ih => exact .cons (f _ _ List.mem_cons_self x) (ih fun a b hb => f a b (List.mem_cons_of_mem _ hb))
theorem oRs.relImp' {α : Type} {sz : Nat} {rel rel' : List Value -> α -> Prop} {e : TypeId} {v : Value} {l : List α} {g : H} (r : oRs e rel sz v l g) (f : ∀ c a, a ∈ l -> rel c a -> rel' c a) : oRs e rel' sz v l g := by
 obtain ⟨css, r, g⟩ := r; exact ⟨css, r, g.imp' fun c a ha x => ⟨x.1, f _ _ ha x.2⟩⟩
theorem dR_of {α : Type} {e : TypeId} {W : H -> List Value -> α -> (Nat -> Prop) -> Prop} {sz : Nat} {M G : H} {v : Value} {l : List α} {ps : List (α × (Nat -> Prop))} (hl : ps.map (·.1) = l) (o : oRs e (fun cs p => W M cs p.1 p.2) sz v ps G) (s : Sub G M)
  (nb : ∀ p ∈ ps, ∀ x, p.2 x -> hget G x = none) (dj : ∀ i j (hi : i < ps.length) (hj : j < ps.length), i ≠ j -> ∀ x, ps[i].2 x -> ¬ ps[j].2 x) :
  dR e W sz M v l (fun x => hget G x ≠ none ∨ ∃ p ∈ ps, p.2 x) := by
 subst hl
 obtain ⟨css, ⟨hcl, h⟩, a⟩ := o
 have hlen := a.len
 rcases h with ⟨rfl, h0, rfl⟩ | ⟨j, cap, sp, rfl, hc, hs, rfl⟩
 ·have : ps = [] := List.eq_nil_of_length_eq_zero h0
  subst this
  refine .inl ⟨rfl, rfl, ?_⟩
  rintro i (x | ⟨p, hp, _⟩)
  ·exact x rfl
  ·cases hp
 ·refine .inr ⟨j, cap, css, sp, fun i => (ps[i]?.map (·.2)).getD (fun _ => False), by rw [List.length_map], by rw [List.length_map]; exact hc, hs, ⟨s _ _ (qG _ _ _), by rw [List.length_map]; exact hlen, fun c hm => ?_, fun i h1 h2 => ?_, fun i hi => ?_, fun i k hi hk hik x => ?_, fun x => ?_⟩⟩
  ·exact (a.left (P := fun c => c.length = sz) fun _ _ q => q.1) c hm
  ·rw [List.length_map] at h2
   simp only [List.getElem?_eq_getElem h2, Option.map_some, Option.getD_some, List.getElem_map]
   exact (a.at h1 h2).2
  ·rw [List.length_map] at hi
   simp only [List.getElem?_eq_getElem hi, Option.map_some, Option.getD_some]
   intro q
   have := nb _ (List.getElem_mem hi) j q
   rw [qG] at this; cases this
  ·rw [List.length_map] at hi hk
   simp only [List.getElem?_eq_getElem hi, List.getElem?_eq_getElem hk, Option.map_some, Option.getD_some]
   exact dj i k hi hk hik x
  ·rw [List.length_map]
   have e1 : hget [(j, blk (css.flatten ++ sp) e)] x ≠ none ↔ x = j := by
    rw [zM, uQ]
    split <;> simp_all
   rw [e1]
   constructor
   ·rintro (h | ⟨p, hp, q⟩)
    ·exact .inl h
    ·obtain ⟨i, hi, rfl⟩ := List.getElem_of_mem hp
     exact .inr ⟨i, hi, by simp only [List.getElem?_eq_getElem hi, Option.map_some, Option.getD_some]; exact q⟩
   ·rintro (h | ⟨i, hi, q⟩)
    ·exact .inl h
    ·simp only [List.getElem?_eq_getElem hi, Option.map_some, Option.getD_some] at q
     exact .inr ⟨_, List.getElem_mem hi, q⟩
theorem each_c {α : Type} {P : Program} {f c : FuncId} {fn : Func} {ti e T : TypeId} {z : List Value} {sz bytes : Nat} {rel : H -> List Value -> α -> Prop} {W : H -> List Value -> α -> (Nat -> Prop) -> Prop} {bd : α -> Prop} (hf : P.funcs[f]? = some fn) (hi : irOf P fn = some (zIQ ti e T z sz))
  (hz : z.length = sz) (ht : P.underlying T = some (.slice e)) (hI : wP P e sz bytes) (hW : dFr W) (hin : ∀ M cs a S i, W M cs a S -> S i -> hget M i ≠ none) (hrs : ∀ {g h : H}, Sub g h -> ∀ {cs a}, rel g cs a -> rel h cs a) (hlen : ∀ {h cs a}, rel h cs a -> cs.length = sz) (hone : ∀ {h cs a}, rel h cs a -> cs.all vone = true)
  (hWo : ∀ {M cs a S}, W M cs a S -> cs.all vone = true) (hcall : wO P c = true)
  (hc : ∀ (h : H) (cs : List Value) (d : α), rel h cs d -> bd d -> ∀ R : Ending -> H -> Prop, (∀ M' cs' S, Sub h M' -> W M' cs' d S -> (∀ x, S x -> hget h x = none) -> cs'.length = sz -> cs'.all vone = true -> R (.returned (.agg cs'.toArray)) M') -> HCalls P c #[.agg cs.toArray] h R)
  {h : H} {v : Value} {l : List α} (r : rRs h (rel h) sz v l) (hl : l.length <= 1048576) (hb : ∀ a ∈ l, bd a) (hby : bytes <= 1048576) {R : Ending -> H -> Prop}
  (k : ∀ M' v' S, Sub h M' -> dR e W sz M' v' l S -> (∀ x, S x -> hget h x = none) -> R (.returned v') M') : HCalls P f #[v, .func (.func c) #[] #[]] h R := by
 refine yK (args := [v, .func (.func c) #[] #[]]) hf hi ?_
 unfold zIQ
 simp only [wK, seval, r.len]
 refine qP [5, 10] (fun n vs h' => ∃ (i : Nat) (v' : Value) (G H1 : H) (ps : List (α × (Nat -> Prop))), vs = [v', .int .i64 i] /\ h' = G ++ H1 /\ Dj G H1 /\ Sub h H1 /\ oRs e (fun cs p => W H1 cs p.1 p.2) sz v' ps G /\ ps.map (·.1) = l.take i /\ (∀ p ∈ ps, ∀ x, p.2 x -> hget h x = none /\ hget H1 x ≠ none) /\
   (∀ i j (hi : i < ps.length) (hj : j < ps.length), i ≠ j -> ∀ x, ps[i].2 x -> ¬ ps[j].2 x) /\ i <= l.length /\ n = l.length - i) l.length rfl ⟨0, _, [], h, [], rfl, rfl, Dj.nil _, Sub.refl _, oRs.nil _ _ _, by simp, fun p hp => (by cases hp), fun i j hi => (by simp at hi), by omega, rfl⟩ ?_
 rintro n f' h' ⟨i, v', G, H1, ps, hv, rfl, dG, s1, o, hmap, hfr, hdj, hi', rfl⟩
 simp only [lm4] at hv
 have sG := Sub.right dG
 simp only [wK, seval, wr, hv.1, hv.2]
 refine qF (fun c1 => ?_) fun c1 => ?_
 ·have hi2 : i < l.length := by omega
  obtain ⟨b, oo, cs, hx, e1, rr⟩ := zU ((r.subH (s1.trans sG)).relImp fun _ _ q => hrs (s1.trans sG) q) hi2
  have hcl := hlen rr
  have hco := hone rr
  simp only [wK, seval, hx, e1]
  refine qC (o := blk z e) fun j7 hj7 => ?_
  have wt : zQ ((j7, blk z e) :: (G ++ H1)) j7 0 cs = some ((j7, blk cs e) :: (G ++ H1)) := by
   rw [kA, if_pos (by omega), yW (by omega)]
  have htk : cs.take sz = cs := by rw [<- hcl, List.take_length]
  simp only [wK, seval, hcl, hco, wt, Nat.le_refl, htk]
  have rd7 : qV ((j7, blk cs e) :: (G ++ H1)) j7 0 sz = some cs := by rw [qDA, if_pos (by omega), List.drop_zero, <- hcl, List.take_length]
  try simp only [wK, seval, rd7]
  have s7 : Sub (G ++ H1) ((j7, blk cs e) :: (G ++ H1)) := Sub.cons hj7 (Sub.refl _)
  refine ⟨hcall, hc _ cs l[i] (hrs s7 rr) (hb _ (List.getElem_mem hi2)) _ fun M2 cs' S s2 w2 f2 hl2 ho2 => ?_⟩
  have hfill : wX z [(0, sz, cs')] = some cs' := by
   unfold wX
   rw [if_pos ⟨hl2, by omega⟩]
   unfold wX
   rw [yW (by omega)]
  have hz0 : zrep z 1 = z := by simp [zrep]
  simp only [wK, seval, hz0, hfill, hl2]
  refine qC (o := blk cs' e) fun j8 hj8 => ?_
  simp only [wK, seval]
  have sA : Sub (G ++ H1) M2 := s7.trans s2
  have sGM : Sub G M2 := (Sub.left G H1).trans sA
  have fr : ∀ x, hget H1 x ≠ none -> hget (hdel M2 G) x = hget H1 x := fun x hx => by
   have hG : hget G x = none := dG.of hx
   have e3 : hget (G ++ H1) x = hget H1 x := by rw [xW, hG]; rfl
   rw [jH, if_pos (by rw [hG]; rfl), Sub.eq sA (by rw [e3]; exact hx), e3]
  have nS : ∀ x, S x -> hget G x = none /\ hget H1 x = none := fun x q => by
   have := s7.none' (f2 x q)
   rw [xW] at this
   cases hg : hget G x with
   | none => rw [hg] at this; exact ⟨rfl, by simpa using this⟩
   | some o => rw [hg] at this; simp at this
  have frS : ∀ x, S x -> hget (hdel M2 G) x = hget M2 x := fun x q => by rw [jH, if_pos (by rw [(nS x q).1]; rfl)]
  have w3 : W (hdel M2 G) cs' l[i] S := hW _ _ _ _ _ frS w2
  have s8 : Sub M2 ((j8, blk cs' e) :: M2) := Sub.cons hj8 (Sub.refl _)
  have hpl : ps.length = i := by have := congrArg List.length hmap; rw [List.length_map, List.length_take] at this; omega
  refine qWY (bytes := bytes) (g := G) (h := hdel M2 G) (rel := fun cs (p : α × (Nat -> Prop)) => W (hdel M2 G) cs p.1 p.2) (l := ps) (m := [(l[i], S)]) (fun c a q => hWo q) ht hI ((qKG sGM).trans s8) (qPN _ _)
   (o.relImp' fun c p hp q => hW _ _ _ _ _ (fun x hx => fr x (hfr p hp x hx).2) q) (qOD (qG _ _ _) hl2 w3) (by
    rw [hpl, List.length_singleton]
    calc (i + 1) * bytes <= 1048576 * 1048576 := Nat.mul_le_mul (by omega) hby
     _ <= 140737488355328 := by omega) (by rw [hpl, List.length_singleton]; omega) fun v2 G2 o2 d2 => ?_
  simp (disch := omega) only [wK, seval, qK]
  refine ⟨l.length - (i + 1), by omega, _, .refl _, i + 1, v2, G2, hdel M2 G, ps ++ [(l[i], S)], by simp, rfl, d2, fun x oo e4 => ?_, o2, ?_, fun p hp x hx => ?_, fun a b ha hb' hab x hx hy => ?_, by omega, rfl⟩
  ·have := s1 x oo e4
   rw [fr x (by rw [this]; simp), this]
  ·rw [List.map_append, hmap, List.take_succ_eq_append_getElem hi2]; rfl
  ·rcases List.mem_append.1 hp with hp | hp
   ·exact ⟨(hfr p hp x hx).1, by rw [fr x (hfr p hp x hx).2]; exact (hfr p hp x hx).2⟩
   ·rw [List.mem_singleton.1 hp] at hx
    have hx : S x := hx
    exact ⟨s1.none' (nS x hx).2, by rw [frS x hx]; exact hin _ _ _ _ _ w2 hx⟩
  ·rw [List.length_append, List.length_singleton] at ha hb'
   have key : ∀ a (ha : a < (ps ++ [(l[i], S)]).length), (ps ++ [(l[i], S)])[a].2 x -> (a < ps.length /\ hget H1 x ≠ none) ∨ (a = ps.length /\ S x) := fun a ha q => by
    by_cases c : a < ps.length
    ·rw [List.getElem_append_left c] at q
     exact .inl ⟨c, (hfr _ (List.getElem_mem c) x q).2⟩
    ·have : a = ps.length := by rw [List.length_append, List.length_singleton] at ha; omega
     subst this
     rw [List.getElem_append_right (Nat.le_refl _)] at q
     simp only [Nat.sub_self, List.getElem_cons_zero] at q
     exact .inr ⟨rfl, q⟩
   rcases key a (by rw [List.length_append, List.length_singleton]; exact ha) hx with ⟨c1', q1⟩ | ⟨c1', q1⟩ <;> rcases key b (by rw [List.length_append, List.length_singleton]; exact hb') hy with ⟨c2', q2⟩ | ⟨c2', q2⟩
   ·rw [List.getElem_append_left c1'] at hx
    rw [List.getElem_append_left c2'] at hy
    exact hdj a b c1' c2' hab x hx hy
   ·exact q1 (nS x q2).2
   ·exact q2 (nS x q1).2
   ·omega
 ·have hi3 : i = l.length := by omega
  subst hi3
  rw [List.take_length] at hmap
  try simp only [wK, seval]
  refine .of (k (G ++ H1) v' _ (s1.trans sG) (dR_of (M := G ++ H1) hmap (o.relImp' fun c p hp q => hW _ _ _ _ _ (fun x hx => Sub.eq sG (hfr p hp x hx).2) q) (Sub.left _ _) (fun p hp x hx => ?_) hdj) ?_)
  ·exact dG.of (hfr p hp x hx).2
  ·rintro x (q | ⟨p, hp, q⟩)
   ·exact s1.none' (dG x q)
   ·exact (hfr p hp x q).1
end Go.Tk
end

section
attribute [local irreducible] Go.Tk.vc Go.Tk.vops Go.Tk.vdr Go.Tk.vop Go.Tk.vfl Go.Tk.HCalls
namespace Go.Tk
open Go
theorem app_new {P : Program} {t1 t2 ty e : TypeId} {d2 : TypeDesc} {i : TypeInfo} {z : Value} {b : Nat} {y : Value} {M : H} {m : Nat} {ds : List Value} {K : Value -> H -> Prop} {X : List PanicEntry -> H -> Prop}
  (h1 : P.underlying t1 = some (.slice e)) (h2 : P.underlying t2 = some d2) (hd : intD d2 = false) (hi : P.info? e = some i) (hz : i.zero = some z) (hs : (zF z).length = i.size)
  (hg : hget M b = some (blk [] e)) (src : Src P M i.size y m ds) (ho : ds.all vone = true) (hb : m * i.bytes <= 140737488355328) (hn : m <= 140737488355328)
  (k0 : m = 0 -> ds = [] -> K (.slice (some ⟨b, 0, none⟩) 0 0) M) (k : ∀ v' g', ows e i.size v' m ds g' -> Dj g' M -> K v' (g' ++ M)) : appK P t1 t2 ty (.slice (some ⟨b, 0, none⟩) 0 0) y M K X := by
 obtain ⟨hdl, hlen, hfc⟩ := src
 have ow : ows e i.size (.slice (some ⟨b, 0, none⟩) 0 0) 0 [] [(b, blk [] e)] := ows.blk (j := b) (n := 0) (by simp)
 have new : ∀ c, m <= c -> SH P (do pure (Value.slice (some (<- newRow e (([] : List Value).toArray ++ ds.toArray ++ Builtin.zeroCells z.cells (c - m)))) m c)) (dP K) (pK X) M := by
  intro c hc
  simp only [newRow, qH, kY, qU]
  intro j hj
  rw [vD, show Builtin.zeroCells (zF z).toArray (c - m) = (zrep (zF z) (c - m)).toArray from by simpa [Builtin.zeroCells] using qHO (zF z) (c - m)]
  refine ⟨[(j, blk (ds ++ zrep (zF z) (c - m)) e)] ++ M, ?_, k _ _ ⟨hdl, .inr ⟨j, c, zrep (zF z) (c - m), rfl, hc, ?_, rfl⟩⟩ (.one hj)⟩
  ·have : (([] : List Value).toArray ++ ds.toArray ++ (zrep (zF z) (c - m)).toArray) = (ds ++ zrep (zF z) (c - m)).toArray := by apply Array.ext'; simp
   rw [this]
   exact Sub.refl _
  ·rw [List.length_append, hdl, qPO hs, <- Nat.add_mul]; congr 1; omega
 have hnl : ¬ (((0 + m : Nat) : Int) > IntKind.i64.max) := by show ¬ (((0 + m : Nat) : Int) > 9223372036854775807); omega
 unfold appK Builtin.append_
 simp only [List.getElem?_toArray, List.getElem?_cons_zero, List.getElem?_cons_succ, qH, qQ h1, qQ h2, xG hi, qU]
 cases d2 <;> simp only [intD, Bool.true_eq_false] at hd
 all_goals
 simp only [Bool.false_eq_true, if_false, hlen, Bool.not_false, if_true, qH, qU]
 all_goals
 simp only [qTK]
 by_cases hc : 0 + m <= 0
 ·rw [if_pos hc]
  have hm : m = 0 := by omega
  subst hm
  have hd0 : ds = [] := List.eq_nil_of_length_eq_zero (by simpa using hdl)
  subst hd0
  simp only [qH, qU]
  refine hfc ?_
  have hw : zQ M b (0 * i.size) ([] : List Value) = some M := by
   simp only [zQ, hg, Option.bind_some, kM, Nat.zero_mul, List.length_nil, Nat.add_zero, Nat.le_refl, if_true, Option.map_some]
   rw [show qJ ([] : List Value) 0 [] = [] from rfl, qFQ _ _ _ hg]
  simp only [vC, Nat.zero_add]
  rw [kK rfl hw]
  exact ⟨M, Sub.refl _, k0 rfl rfl⟩
 ·rw [if_neg hc]
  have h48 : ¬ (Builtin.nextslicecap (0 + m) 0 * i.bytes > 2 ^ 48) := by
   have := growslice_fits (need := 0 + m) (old := 0) (bytes := i.bytes) (by omega) (by simpa using hb)
   rw [show (2 : Nat) ^ 48 = 281474976710656 from rfl]; omega
  simp only [qH, uV hi, hnl, false_and, if_false, h48, qU]
  refine zJT fun c hc' => ?_
  refine qYV ?_
  refine qSA ow (fun x o e => ?_) ?_
  ·rw [zM, uQ] at e
   split at e
   ·rename_i q; rw [q, hg]; exact e
   ·cases e
  refine hfc ?_
  simp only [xJ hi hz]
  have := new c (by omega)
  simp only [qH, qU, Nat.zero_add] at this ⊢
  exact this
theorem zDE {α : Type} {enc : α -> List Value} {sz bytes : Nat} (ho : ∀ l, (fl enc l).all vone = true) {P : Program} {t ty e : TypeId} {b : Nat} {y : Value} {M : H} {l : List α} {K : Value -> H -> Prop} {X : List PanicEntry -> H -> Prop}
  (h1 : P.underlying t = some (.slice e)) (hi : wP P e sz bytes) (hg : hget M b = some (blk [] e)) (r : rLs M enc sz y l) (hb : l.length * bytes <= 140737488355328) (hn : l.length <= 140737488355328)
  (k : ∀ M' v' S, Sub M M' -> dL e enc sz M' v' l S -> (∀ x, S x -> x = b ∨ hget M x = none) -> K v' M') : appK P t t ty (.slice (some ⟨b, 0, none⟩) 0 0) y M K X := by
 obtain ⟨i, z, hi, hz, rfl, rfl, hl⟩ := hi
 refine app_new h1 h1 rfl hi hz hl hg (kX r) (ho _) hb hn (fun h0 _ => ?_) fun v' g' o' d' => ?_
 ·have hl0 : l = [] := List.eq_nil_of_length_eq_zero h0
  subst hl0
  refine k M _ (fun x => x = b) (Sub.refl _) ⟨[(b, blk [] e)], by unfold oLs; rw [show fl enc ([] : List α) = [] by simp [fl]]; exact ows.blk (j := b) (n := 0) (by simp), fun x o q => ?_, fun x => ?_⟩ fun x q => .inl q
  ·rw [zM, uQ] at q
   split at q
   ·rename_i c; rw [c, hg]; exact q
   ·cases q
  ·rw [zM, uQ]; split <;> simp_all
 ·exact k (g' ++ M) v' _ (Sub.right d') (dL.of (h := M) o' (Sub.left _ _)) fun x q => .inr (d' x q)
theorem qFY {α : Type} {enc : α -> List Value} {sz bytes : Nat} (he : ∀ a, (enc a).length = sz) (ho : ∀ l, (fl enc l).all vone = true) {P : Program} {t ty e : TypeId} {v y : Value} {M : H} {l m : List α} {S : Nat -> Prop} {K : Value -> H -> Prop} {X : List PanicEntry -> H -> Prop}
  (h1 : P.underlying t = some (.slice e)) (hi : wP P e sz bytes) (D : dL e enc sz M v l S) (r : rLs M enc sz y m) (hb : (l.length + m.length) * bytes <= 140737488355328) (hn : l.length + m.length <= 140737488355328)
  (k : ∀ M' v' S', dL e enc sz M' v' (l ++ m) S' -> (∀ x, hget M x ≠ none -> ¬ S x -> hget M' x = hget M x) -> (∀ x, S' x -> S x ∨ hget M x = none) -> K v' M') : appK P t t ty v y M K X := by
 obtain ⟨g, o, s, hS⟩ := D
 refine uT (g := g) (h := hdel M g) he ho h1 hi (qKG s) (qPN _ _) o r hb hn fun v' g' o' d' => ?_
 have hh : ∀ x, ¬ S x -> hget (hdel M g) x = hget M x := fun x q => by
  rw [jH, if_pos]
  cases e : hget g x with
  | none => rfl
  | some y => exact absurd ((hS x).2 (by rw [e]; simp)) q
 refine k (g' ++ hdel M g) v' _ (dL.of (h := hdel M g) o' (Sub.left _ _)) (fun x q1 q2 => ?_) fun x q => ?_
 ·rw [Sub.eq (Sub.right d') (by rw [hh x q2]; exact q1), hh x q2]
 ·by_cases c : S x
  ·exact .inl c
  ·right; rw [<- hh x c]; exact d' x q
section
variable {P : Program} {rest : H} {ρ : (Nat -> Value) -> Operand -> Value} {D : H -> (Nat -> Value) -> Prop}
end
end Go.Tk
end

section
namespace Go.Tk
open Go
theorem qIO {l m : List DRec} {s t : Int} {p : DRec} (h : yL l s t = some p) : yL (l ++ m) s t = some p := by
 unfold yL at h ⊢
 rw [List.find?_append, h]; rfl
theorem qGI {l : List DRec} {r : DRec} {s t : Int} : yL (l ++ [r]) s t = (yL l s t).or (if uL s t r = true then some r else none) := by
 unfold yL
 rw [List.find?_append]
 congr 1
 simp only [List.find?_cons, List.find?_nil]
 cases uL s t r <;> rfl
theorem qIN {l : List DRec} {s t : Int} {p : DRec} (h : yL l s t = some p) : p ∈ l /\ p.kind = 1 /\ p.stamp = s /\ p.try_ = t := by
 unfold yL at h
 refine ⟨List.mem_of_find?_eq_some h, ?_⟩
 have := List.find?_some h
 unfold uL at this
 simpa [and_assoc] using this
theorem logP.take {l : List DRec} (h : logP l) (n : Nat) : logP (l.take n) := by
 refine ⟨by rw [List.length_take]; have := h.1; omega, fun i hi => ?_⟩
 rw [List.length_take] at hi
 have := h.2 i (by omega)
 rw [List.take_take, Nat.min_eq_left (by omega), List.getElem_take]
 exact this
theorem logP.snoc {l : List DRec} {r : DRec} : logP (l ++ [r]) ↔ l.length < 400 /\ logP l /\ vQ l r := by
 constructor
 ·intro h
  have h1 := h.1
  have h2 := h.take l.length
  rw [List.take_left] at h2
  rw [List.length_append] at h1
  have h3 := h.2 l.length (by simp)
  rw [List.take_left, List.getElem_append_right (Nat.le_refl _)] at h3
  simp only [Nat.sub_self, List.getElem_cons_zero] at h3
  rw [List.length_singleton] at h1
  exact ⟨by omega, h2, h3⟩
 ·rintro ⟨h1, h2, h3⟩
  refine ⟨by simp; omega, fun i hi => ?_⟩
  rw [List.length_append, List.length_singleton] at hi
  by_cases e : i < l.length
  ·rw [List.take_append_of_le_length (by omega), List.getElem_append_left e]
   exact h2.2 i e
  ·have e : i = l.length := by omega
   subst e
   rw [List.take_left, List.getElem_append_right (Nat.le_refl _)]
   simpa using h3
theorem logP.nil : logP [] := ⟨by simp, fun i h => by cases h⟩
theorem qEH {l m : List DRec} {st : Kept × List (Int × Int)} {r : DRec} (h : r.kind = 2 -> ∃ p, yL l r.stamp r.try_ = some p) : vO (l ++ m) st r = vO l st r := by
 unfold vO
 by_cases c : r.kind = 2
 ·obtain ⟨p, hp⟩ := h c
  rw [qIO hp, hp]
 ·simp only [ne_eq, c, not_false_iff, if_true]
theorem zBS {l m : List DRec} {id : Int} : ∀ (x : List DRec), (∀ r ∈ x, r.kind = 2 -> ∃ p, yL l r.stamp r.try_ = some p) -> qJG id (l ++ m) x = qJG id l x := by
 intro x
 unfold qJG
 generalize ((qCT id, []) : Kept × List (Int × Int)) = st
 induction x generalizing st with
 | nil => intro _; rfl
 | cons r x ih =>
  intro h
  rw [List.foldl_cons, List.foldl_cons, qEH (h r List.mem_cons_self)]
  exact ih _ fun y hy => h y (List.mem_cons_of_mem _ hy)
theorem logP.prom {l : List DRec} (h : logP l) : ∀ r ∈ l, r.kind ≠ 1 -> ∃ p, yL l r.stamp r.try_ = some p := by
 intro r hr hk
 obtain ⟨i, hi, rfl⟩ := List.getElem_of_mem hr
 obtain ⟨_, p, hp, _⟩ := (h.2 i hi).2.2 hk
 have := qIO (m := l.drop i) hp
 rw [List.take_append_drop] at this
 exact ⟨p, this⟩
theorem qJE {l : List DRec} {r : DRec} {id : Int} (h : logP (l ++ [r])) : wI id (l ++ [r]) = vO l (wI id l) r := by
 obtain ⟨_, h1, h2⟩ := logP.snoc.1 h
 have e1 : wI id (l ++ [r]) = vO (l ++ [r]) (qJG id (l ++ [r]) l) r := by
  unfold wI qJG
  rw [List.foldl_append]; rfl
 rw [e1, zBS l fun x hx hk => h1.prom x hx (by omega), qEH fun hk => ?_]
 ·rfl
 ·obtain ⟨_, p, hp, _⟩ := h2.2.2 (by omega)
  exact ⟨p, hp⟩
theorem qJF {l : List DRec} {r : DRec} {id : Int} (h : logP (l ++ [r])) (hk : r.kind ≠ 2) : wI id (l ++ [r]) = wI id l := by
 rw [qJE h]
 unfold vO
 rw [if_pos hk]
def qBP (l : List DRec) (s t : Int) : Option Int := (l.find? (endB s t)).map (·.kind)
theorem qJP {l : List DRec} {r : DRec} {s t : Int} : qBP (l ++ [r]) s t = (qBP l s t).or (if endB s t r = true then some r.kind else none) := by
 unfold qBP
 rw [List.find?_append]
 cases l.find? (endB s t) with
 | some x => rfl
 | none =>
  simp only [List.find?_cons, List.find?_nil, Option.none_or, Option.map_none]
  cases endB s t r <;> rfl
theorem qEV (l : List DRec) (s t : Int) : vU l s t = (qBP l s t).isSome := by
 unfold vU qBP
 rw [Option.isSome_map]
 induction l with
 | nil => rfl
 | cons r l ih =>
  rw [List.any_cons, List.find?_cons, ih]
  cases endB s t r <;> rfl
theorem yH {α : Type} {l : List α} {i : Nat} (hi : i < l.length) : l.take (i + 1) = l.take i ++ [l[i]] := List.take_succ_eq_append_getElem hi
theorem kB {α : Type} {p : α -> Bool} {l : List α} {i : Nat} (hi : i < l.length) : (l.take (i + 1)).filter p = (l.take i).filter p ++ (if p l[i] = true then [l[i]] else []) := by
 rw [yH hi, List.filter_append]
 congr 1
 simp only [List.filter_cons, List.filter_nil]
theorem vZ {α : Type} (p : α -> Bool) (l : List α) (i : Nat) : ((l.take i).filter p).length <= i := Nat.le_trans (List.length_filter_le _ _) (by rw [List.length_take]; omega)
theorem qTH {α : Type} {p : α -> Bool} {l : List α} {i : Nat} (hi : i < l.length) : (l.take (i + 1)).any p = ((l.take i).any p || p l[i]) := by
 rw [yH hi, List.any_append]; simp
theorem qKD {α : Type} {p : α -> Bool} {l : List α} {i : Nat} (hi : i < l.length) : (l.take (i + 1)).all p = ((l.take i).all p && p l[i]) := by
 rw [yH hi, List.all_append]; simp
theorem qJM {α β : Type} {f : β -> α -> β} {b : β} {l : List α} {i : Nat} (hi : i < l.length) : (l.take (i + 1)).foldl f b = f ((l.take i).foldl f b) l[i] := by
 rw [yH hi, List.foldl_append]; rfl
theorem qBM {α : Type} {p : α -> Bool} {l : List α} {i : Nat} (hi : i < l.length) (h : (l.take i).find? p = none) (hp : p l[i] = false) : (l.take (i + 1)).find? p = none := by
 rw [yH hi, List.find?_append, h]; simp [hp]
theorem qFS {α : Type} {p : α -> Bool} {l : List α} {i : Nat} (hi : i < l.length) (h : (l.take i).find? p = none) (hp : p l[i] = true) : l.find? p = some l[i] := by
 have e : l = l.take i ++ l[i] :: l.drop (i + 1) := by rw [<- List.drop_eq_getElem_cons hi, List.take_append_drop]
 have e2 : l.find? p = (l.take i ++ l[i] :: l.drop (i + 1)).find? p := congrArg _ e
 rw [e2, List.find?_append, h, Option.none_or, List.find?_cons_of_pos hp]
def qMO (l : List DHold) (i : Nat) : Prop := (∀ x ∈ l.take i, qAU x) /\ risU (·.stamp) l i /\ ∀ j (h : j < l.length), 0 < j -> j < i -> vN (l[0]'(by omega)) l[j] = false
theorem qVX (l : List DHold) : qMO l 0 := ⟨by simp, xD _ _, fun j h a b => by omega⟩
theorem zBX {l : List DHold} (h : qMO l l.length) : allP qAU l /\ risP (·.stamp) l /\ ∀ a ∈ l, ∀ b ∈ l, vN a b = false := by
 obtain ⟨h1, h2, h3⟩ := h
 rw [List.take_length] at h1
 have hr : risP (·.stamp) l := fun i hi => h2 i hi (by omega)
 exact ⟨h1, hr, (qQW hr).2 fun i hi h0 => h3 i hi h0 hi⟩
end Go.Tk
end

section
attribute [local irreducible] Go.Tk.vc Go.Tk.vops Go.Tk.vdr Go.Tk.vop Go.Tk.vfl Go.Tk.HCalls
namespace Go.Tk
open Go
theorem raw_idx {P : Program} {t ty e : TypeId} {n : Nat} {i : TypeInfo} {x y : Operand} {ρ : Operand -> Value} {h : H} {K : Value -> H -> Prop} {X : List PanicEntry -> H -> Prop} {cs : List Value} {kd : IntKind} {j : Nat} {v : Value} (hx : ρ x = .agg cs.toArray) (hy : ρ y = .int kd j) (ht : P.underlying t = some (.array n e)) (hp : ∃ d, P.underlying e = some d /\ aggD d = false) (hi : P.info? e = some i) (hs : i.size = 1)
  (hj : j < n) (hv : cs[j]? = some v) (k : K v h) : rawK P (.index t x y) ty ρ h K X := by
 obtain ⟨d, hd, ha⟩ := hp
 unfold rawK
 simp only [execOp, mkO, yP, hx, hy, Instr.index, asIntOf, qH, qU, qQ ht]
 rw [if_pos (by omega)]
 simp only [qH, xG hi, hs]
 exact qPK hd ha (by simpa using hv) |>.mpr k
theorem qQK {a : List Int} {i : Nat} {v : Int} (h : i < a.length) : qJ (fl eI a) i [.int .i64 v] = fl eI (a.set i v) := by
 have := qLT (enc := eI) (sz := 1) (fun _ => rfl) (a' := v) (off := 0) (vs := [.int .i64 v]) (by simp) h rfl
 simpa using this
theorem qOW (a : List Int) : (fl eI a).length = a.length := by rw [kJ yM]; omega
theorem fl_map (a : List Int) : fl eI a = a.map fun z => Value.int .i64 z := by
 induction a with
 | nil => rfl
 | cons x a ih => rw [vT, List.map_cons, ih]; rfl
def putA (a : List Int) (l : List (Int × Int)) : List Int := l.foldl (fun a p => a.set p.1.toNat p.2) a
theorem qBF (a : List Int) (l : List (Int × Int)) : (putA a l).length = a.length := by
 unfold putA
 induction l generalizing a with
 | nil => rfl
 | cons p l ih => rw [List.foldl_cons, ih, List.length_set]
def outA (a : List Int) (n : Nat) : List (Int × Int) := (List.range n).filterMap fun (k : Nat) => if a.getD k 0 = 0 then none else some ((k : Int), a.getD k 0)
theorem zBC (a : List Int) (n : Nat) : outA a (n + 1) = outA a n ++ (if a.getD n 0 = 0 then [] else [((n : Int), a.getD n 0)]) := by
 unfold outA
 rw [List.range_succ, List.filterMap_append]
 congr 1
 by_cases e : a.getD n 0 = 0
 ·rw [if_pos e]; simp only [List.filterMap_cons, List.filterMap_nil, e, if_true]
 ·rw [if_neg e]; simp only [List.filterMap_cons, List.filterMap_nil, e, if_false]
theorem qQT (a : List Int) (n : Nat) : (outA a n).length <= n := by
 unfold outA
 exact Nat.le_trans (List.length_filterMap_le _ _) (by simp)
open Classical in
noncomputable def putR (l more : List (Int × Int)) : List (Int × Int) := if xI l /\ xI more then outA (putA (putA (List.replicate 32 0) l) more) 32 else []
theorem zGE (l more : List (Int × Int)) : (putR l more).length <= 32 := by
 unfold putR
 split
 ·exact qQT _ _
 ·simp
end Go.Tk
namespace Go.Proofs.YtjioiemhgbkbfaaGreatDoor
open Go Go.Tk
theorem zBB {h : H} {v : Value} {p : Int × Int} {js : Nat} {sl : List Int} (g1 : hget h js = some (blk [v] 61)) (rs : rInts h v sl) (hl : sl.length <= 1048576) {R : Ending -> H -> Prop} (k : R (.returned (.bool (yX sl p))) h) :
  HCalls Tryz.prog 277 #[.agg #[.int .i64 p.1, .int .i64 p.2], .pointer (some ⟨js, 0, none⟩)] h R := by
 refine qD lite (args := [.agg #[.int .i64 p.1, .int .i64 p.2], .pointer (some ⟨js, 0, none⟩)]) Tryz.func277 ?_
 conv => arg 2; cbv
 simp only [wK, seval]
 refine qC (o := blk (eP p) 175) fun j2 h2 => ?_
 obtain ⟨M, hM⟩ : ∃ M, M = (j2, blk (eP p) 175) :: h := ⟨_, rfl⟩
 have sM : Tk.Sub h M := by rw [hM]; exact Sub.cons h2 (Sub.refl _)
 have gM : hget M j2 = some (blk (eP p) 175) := by rw [hM]; exact qG _ _ _
 have c1 : hcel M js 0 = some v := qE (sM _ _ g1) rfl
 have c2 : hcel M j2 0 = some (.int .i64 p.1) := qE gM rfl
 have shh := Sub.refl M
 rw [<- hM]
 simp only [wK, seval]
 refine zC M (Sub.refl _) ?_
 simp only [wK, seval, c1, c2, shh]
 refine qKX ?_
 simp only [wK, seval, shh]
 refine qWL (rs.sub sM) hl ?_
 simp only [wK, seval, shh]
 exact ⟨h, sM, k⟩
theorem qUL {h : H} {v w : Value} {l : List (Int × Int)} {js : Nat} {sl : List Int} (r : rLs h eP 2 v l) (g1 : hget h js = some (blk [w] 61)) (rs : rInts h w sl) (hsl : sl.length <= 1048576) (hl : l.length <= 1048576)
  {R : Ending -> H -> Prop} (k : ∀ M' a b S, Tk.Sub h M' -> dL 175 eP 2 M' b (l.filter fun p => !yX sl p) S -> (∀ x, S x -> hget h x = none) -> R (.returned (.tuple #[a, b])) M') :
  HCalls Tryz.prog 276 #[v, .func (.func 277) #[] #[.pointer (some ⟨js, 0, none⟩)]] h R := by
 refine qD lite (args := [v, .func (.func 277) #[] #[.pointer (some ⟨js, 0, none⟩)]]) Tryz.func276 ?_
 conv => arg 2; cbv
 rw [qR]
 obtain ⟨keep, hkeep⟩ : ∃ keep : Int × Int -> Bool, keep = yX sl := ⟨_, rfl⟩
 rw [<- hkeep] at k
 have xB : ∀ a, (eP a).length = 2 := fun _ => rfl
 simp only [wK, seval, r.len]
 refine qP [10, 4, 5] (fun n vs M' => ∃ (i : Nat) (a b : Value) (Sa Sb : Nat -> Prop), vs = [.int .i64 i, a, b] /\ Tk.Sub h M' /\ dL 175 eP 2 M' a ((l.take i).filter keep) Sa /\ dL 175 eP 2 M' b ((l.take i).filter fun p => !keep p) Sb /\ (∀ x, Sa x -> hget h x = none) /\ (∀ x, Sb x -> hget h x = none) /\ (∀ x, Sa x -> ¬ Sb x) /\ i <= l.length /\ n = l.length - i) l.length rfl
  ⟨0, _, _, _, _, rfl, Sub.refl _, dL.nil, dL.nil, fun _ q => q.elim, fun _ q => q.elim, fun _ q => q.elim, by omega, rfl⟩ ?_
 rintro n f M' ⟨i, a, b, Sa, Sb, hv, s, da, db, fa, fb, dd, hi, rfl⟩
 simp only [lm4] at hv
 simp only [wK, seval, wr, hv.1, hv.2.1, hv.2.2]
 refine qF (fun c => ?_) fun c => ?_
 ·have hi2 : i < l.length := by omega
  obtain ⟨b8, o8, hx8, e8⟩ := yU (enc := eP) (sz := 2) xB (r.sub s) hi2
  have htk := fun p : Int × Int -> Bool => kB (p := p) hi2
  have hla := fun p : Int × Int -> Bool => vZ p l i
  have hla1 := hla keep
  have hla2 := hla fun p => !keep p
  obtain ⟨x, hxx⟩ : ∃ x, x = l[i] := ⟨_, rfl⟩
  rw [<- hxx] at e8 htk
  unfold eP at e8
  simp only [wK, seval, hx8, e8]
  refine qC (o := blk [.int .i64 0, .int .i64 0] 175) fun j7 h7 => ?_
  try simp only [wK, seval]
  obtain ⟨B, hB⟩ : ∃ B, B = (j7, blk [.int .i64 x.1, .int .i64 x.2] 175) :: M' := ⟨_, rfl⟩
  have sB : Tk.Sub M' B := by rw [hB]; exact Sub.cons h7 (Sub.refl _)
  have g7 : hget B j7 = some (blk [.int .i64 x.1, .int .i64 x.2] 175) := by rw [hB]; exact qG _ _ _
  have r7 : qV B j7 0 2 = some [.int .i64 x.1, .int .i64 x.2] := zD g7 rfl
  rw [<- hB]
  try simp only [wK, seval, r7]
  refine ⟨by kernel_rfl, zBB (p := x) (sB _ _ (s _ _ g1)) ((rs.sub s).sub sB) hsl ?_⟩
  obtain ⟨q, hq⟩ : ∃ q, q = keep x := ⟨_, rfl⟩
  rw [<- hkeep, <- hq]
  cases q with
  | true =>
   simp only [wK, seval, r7]
   refine qC (o := blk (fl eP [x]) 175) fun j53 h53 => ?_
   obtain ⟨B5, hB5⟩ : ∃ B5, B5 = (j53, blk (fl eP [x]) 175) :: B := ⟨_, rfl⟩
   have sB5 : Tk.Sub M' B5 := sB.trans (by rw [hB5]; exact Sub.cons h53 (Sub.refl _))
   have r53 : rLs B5 eP 2 (.slice (some ⟨j53, 0, none⟩) 1 1) [x] := by rw [hB5]; exact (xU (e := 175) (j := j53) (l := [x]) xB).rd.sub (Sub.cons2 (Sub.nil _))
   have eB5 : (j53, blk [.int .i64 x.1, .int .i64 x.2] 175) :: B = B5 := hB5.symm
   first | rw [<- hB5] | rw [eB5]
   simp only [wK, seval]
   refine qFY xB qJQ qNR qYD (da.frame fun y q => Sub.eq sB5 (da.in q)) r53 (by rw [List.length_singleton]; omega) (by rw [List.length_singleton]; omega) fun M5 w5 S5 d5 k5 f5 => ?_
   have kk : ∀ y, hget M' y ≠ none -> ¬ Sa y -> hget M5 y = hget M' y := fun y e1 e2 => by rw [k5 y (by rw [Sub.eq sB5 e1]; exact e1) e2, Sub.eq sB5 e1]
   simp (disch := omega) only [wK, seval, qK]
   refine ⟨l.length - (i + 1), by omega, _, .refl _, i + 1, w5, b, S5, Sb, by simp, fun y o e => ?_, by rw [htk, <- hq, if_pos rfl]; exact d5, by rw [htk, <- hq, if_neg (by simp), List.append_nil]; exact db.frame fun y q => kk y (db.in q) fun c => dd y c q, fun y q => ?_, fb, fun y q => ?_, by omega, rfl⟩
   ·rw [kk y (by rw [s _ _ e]; simp) (fun q => by rw [fa y q] at e; cases e)]; exact s _ _ e
   ·rcases f5 y q with c | c
    ·exact fa y c
    ·exact s.none' (sB5.none' c)
   ·rcases f5 y q with c | c
    ·exact dd y c
    ·exact fun c2 => db.in c2 (sB5.none' c)
  | false =>
   simp only [wK, seval, r7]
   refine qC (o := blk (fl eP [x]) 175) fun j53 h53 => ?_
   obtain ⟨B5, hB5⟩ : ∃ B5, B5 = (j53, blk (fl eP [x]) 175) :: B := ⟨_, rfl⟩
   have sB5 : Tk.Sub M' B5 := sB.trans (by rw [hB5]; exact Sub.cons h53 (Sub.refl _))
   have r53 : rLs B5 eP 2 (.slice (some ⟨j53, 0, none⟩) 1 1) [x] := by rw [hB5]; exact (xU (e := 175) (j := j53) (l := [x]) xB).rd.sub (Sub.cons2 (Sub.nil _))
   have eB5 : (j53, blk [.int .i64 x.1, .int .i64 x.2] 175) :: B = B5 := hB5.symm
   first | rw [<- hB5] | rw [eB5]
   simp only [wK, seval]
   refine qFY xB qJQ qNR qYD (db.frame fun y q => Sub.eq sB5 (db.in q)) r53 (by rw [List.length_singleton]; omega) (by rw [List.length_singleton]; omega) fun M5 w5 S5 d5 k5 f5 => ?_
   have kk : ∀ y, hget M' y ≠ none -> ¬ Sb y -> hget M5 y = hget M' y := fun y e1 e2 => by rw [k5 y (by rw [Sub.eq sB5 e1]; exact e1) e2, Sub.eq sB5 e1]
   simp (disch := omega) only [wK, seval, qK]
   refine ⟨l.length - (i + 1), by omega, _, .refl _, i + 1, a, w5, Sa, S5, by simp, fun y o e => ?_, by rw [htk, <- hq, if_neg (by simp), List.append_nil]; exact da.frame fun y q => kk y (da.in q) fun c => dd y q c, by rw [htk, <- hq, if_pos (show (!false) = true from rfl)]; exact d5, fa, fun y q => ?_, fun y q c => ?_, by omega, rfl⟩
   ·rw [kk y (by rw [s _ _ e]; simp) (fun q => by rw [fb y q] at e; cases e)]; exact s _ _ e
   ·rcases f5 y q with c | c
    ·exact fb y c
    ·exact s.none' (sB5.none' c)
   ·rcases f5 y c with c | c
    ·exact dd y q c
    ·exact da.in q (sB5.none' c)
 ·have hi2 : i = l.length := by omega
  rw [hi2, List.take_length] at db
  try simp only [wK, seval]
  exact .of (k M' a b Sb s db fb)
theorem qCY {h : H} {v w : Value} {l : List (Int × Int)} {sl : List Int} (r : rLs h eP 2 v l) (rs : rInts h w sl) (hsl : sl.length <= 1048576) (hl : l.length <= 1048576)
  {R : Ending -> H -> Prop} (k : ∀ M' b S, Tk.Sub h M' -> dL 175 eP 2 M' b (l.filter fun p => !yX sl p) S -> (∀ x, S x -> hget h x = none) -> R (.returned b) M') :
  HCalls Tryz.prog 274 #[v, w] h R := by
 refine qD lite (args := [v, w]) Tryz.func274 ?_
 conv => arg 2; cbv
 rw [qR]
 have ow := rLs.one rs
 have vw := vc1 ow
 simp only [wK, seval, ow, vw]
 refine qC (o := blk [w] 61) fun j3 h3 => ?_
 have s3 : Tk.Sub h ((j3, blk [w] 61) :: h) := Sub.cons h3 (Sub.refl _)
 simp only [wK, seval, ow, vw]
 refine qUL (rLs.sub s3 r) (qG _ _ _) (rs.sub s3) hsl hl fun M' a b S s d f => ?_
 simp only [wK, seval]
 exact .of (k M' b S (s3.trans s) d fun x q => s3.none' (f x q))
theorem tArr32 : Tryz.prog.underlying 387 = some (.array 32 3) := by kernel_rfl
theorem uIntP : ∃ d, Tryz.prog.underlying 3 = some d /\ aggD d = false := ⟨.int .i64, by kernel_rfl, rfl⟩
theorem qIP {h : H} {v w : Value} {l more : List (Int × Int)} (r : rPairs h v l) (rm : rPairs h w more) (hl : l.length <= 1048576) (hm : more.length <= 1048576)
  {R : Ending -> H -> Prop} (k : ∀ M' b S, Tk.Sub h M' -> dL 175 eP 2 M' b (putR l more) S -> (∀ x, S x -> hget h x = none) -> R (.returned b) M') :
  HCalls Tryz.prog 273 #[v, w] h R := by
 refine qD lite (args := [v, w]) Tryz.func273 ?_
 conv => arg 2; cbv
 simp only [wK, seval]
 refine jD r (by omega) fun q1 k1 => ?_
 cases q1 with
 | false =>
  have e : putR l more = [] := by unfold putR; rw [if_neg fun x => qW k1 rfl x.1]
  rw [e] at k
  simp only [wK, seval]
  exact .of (k h _ _ (Sub.refl _) dL.nil fun _ q => q.elim)
 | true =>
 simp only [wK, seval]
 refine jD rm (by omega) fun q2 k2 => ?_
 cases q2 with
 | false =>
  have e : putR l more = [] := by unfold putR; rw [if_neg fun x => qW k2 rfl x.2]
  rw [e] at k
  simp only [wK, seval]
  exact .of (k h _ _ (Sub.refl _) dL.nil fun _ q => q.elim)
 | true =>
 have p1 := k1.1 rfl
 have p2 := k2.1 rfl
 have e : putR l more = outA (putA (putA (List.replicate 32 0) l) more) 32 := by unfold putR; rw [if_pos ⟨p1, p2⟩]
 rw [e] at k
 have key1 : ∀ (i : Nat) (hi : i < l.length), 0 <= l[i].1 /\ l[i].1 <= 31 := fun i hi => (p1.2.1 _ (List.getElem_mem hi)).1
 have key2 : ∀ (i : Nat) (hi : i < more.length), 0 <= more[i].1 /\ more[i].1 <= 31 := fun i hi => (p2.2.1 _ (List.getElem_mem hi)).1
 simp only [wK, seval]
 refine qC (o := blk (fl eI (List.replicate 32 0)) 387) fun j5 h5 => ?_
 obtain ⟨A0, hA0⟩ : ∃ A0 : List Int, A0 = List.replicate 32 0 := ⟨_, rfl⟩
 have lA0 : A0.length = 32 := by rw [hA0]; rfl
 rw [<- hA0] at k
 obtain ⟨M, hM⟩ : ∃ M, M = (j5, blk (fl eI A0) 387) :: h := ⟨_, rfl⟩
 have sM : Tk.Sub h M := by rw [hM]; exact Sub.cons h5 (Sub.refl _)
 have gM : hget M j5 = some (blk (fl eI A0) 387) := by rw [hM]; exact qG _ _ _
 rw [<- hA0, <- hM]
 simp only [wK, seval, r.len]
 refine qP [23] (fun n vs M' => ∃ i : Nat, vs = [.int .i64 i] /\ Tk.Sub h M' /\ hget M' j5 = some (blk (fl eI (putA A0 (l.take i))) 387) /\ i <= l.length /\ n = l.length - i) l.length rfl ⟨0, rfl, sM, gM, by omega, rfl⟩ ?_
 rintro n f M1 ⟨i, hv, s1, g1, hi, rfl⟩
 simp only [lm4] at hv
 simp only [wK, seval, wr, hv]
 refine qF (fun c => ?_) fun c => ?_
 ·have hi2 : i < l.length := by omega
  obtain ⟨b8, o8, hx8, e8⟩ := yU (enc := eP) (sz := 2) xB (r.sub s1) hi2
  have hk := key1 i hi2
  have hlen := qBF A0 (l.take i)
  have hmo : (putA A0 (l.take i)).set l[i].1.toNat l[i].2 = putA A0 (l.take (i + 1)) := by
   unfold putA; rw [qJM hi2]
  obtain ⟨x, hxx⟩ : ∃ x, x = l[i] := ⟨_, rfl⟩
  rw [<- hxx] at e8 hk hmo
  obtain ⟨nn, hnn⟩ : ∃ nn : Nat, x.1 = (nn : Int) := ⟨x.1.toNat, by omega⟩
  unfold eP at e8
  simp only [wK, seval, hx8, e8]
  refine qC (o := blk [.int .i64 0, .int .i64 0] 175) fun j7 h7 => ?_
  try simp only [wK, seval]
  obtain ⟨B, hB⟩ : ∃ B, B = (j7, blk [.int .i64 x.1, .int .i64 x.2] 175) :: M1 := ⟨_, rfl⟩
  have sB : Tk.Sub M1 B := by rw [hB]; exact Sub.cons h7 (Sub.refl _)
  have g7 : hget B j7 = some (blk [.int .i64 x.1, .int .i64 x.2] 175) := by rw [hB]; exact qG _ _ _
  have c70 : hcel B j7 0 = some (.int .i64 x.1) := qE g7 rfl
  have c71 : hcel B j7 1 = some (.int .i64 x.2) := qE g7 rfl
  rw [<- hB]
  have etn : x.1.toNat = nn := by omega
  rw [etn] at hmo
  obtain ⟨N, wN, gN, fN⟩ := qBS (vs := [.int .i64 x.2]) (o := nn) (cs' := fl eI (putA A0 (l.take (i + 1)))) (sB _ _ g1) (by rw [qOW]; simp; omega) (by rw [qQK (by omega), hmo])
  try simp only [wK, seval, c70, c71]
  refine ⟨⟨by omega, by omega⟩, ?_⟩
  simp (disch := omega) only [wK, seval, etn, Nat.mul_one, Nat.zero_add, wN, qK]
  exact ⟨l.length - (i + 1), by omega, N, .refl _, i + 1, by simp, fun y o e => by rw [fN y (fun c => by rw [c, h5] at e; cases e)]; exact sB _ _ (s1 _ _ e), gN, by omega, rfl⟩
 have hi2 : i = l.length := by omega
 rw [hi2, List.take_length] at g1
 obtain ⟨A1, hA1⟩ : ∃ A1 : List Int, A1 = putA A0 l := ⟨_, rfl⟩
 have lA1 : A1.length = 32 := by rw [hA1, qBF, lA0]
 rw [<- hA1] at k g1
 simp only [wK, seval, rm.len]
 refine qP [35] (fun n vs M' => ∃ i : Nat, vs = [.int .i64 i] /\ Tk.Sub h M' /\ hget M' j5 = some (blk (fl eI (putA A1 (more.take i))) 387) /\ i <= more.length /\ n = more.length - i) more.length rfl ⟨0, rfl, s1, g1, by omega, rfl⟩ ?_
 rintro n f2 M2 ⟨i', hv', s2, g2, hi', rfl⟩
 simp only [lm4] at hv'
 simp only [wK, seval, wr, hv']
 refine qF (fun c => ?_) fun c => ?_
 ·have hi3 : i' < more.length := by omega
  obtain ⟨b8, o8, hx8, e8⟩ := yU (enc := eP) (sz := 2) xB (rm.sub s2) hi3
  have hk := key2 i' hi3
  have hlen := qBF A1 (more.take i')
  have hmo : (putA A1 (more.take i')).set more[i'].1.toNat more[i'].2 = putA A1 (more.take (i' + 1)) := by
   unfold putA; rw [qJM hi3]
  obtain ⟨x, hxx⟩ : ∃ x, x = more[i'] := ⟨_, rfl⟩
  rw [<- hxx] at e8 hk hmo
  obtain ⟨nn, hnn⟩ : ∃ nn : Nat, x.1 = (nn : Int) := ⟨x.1.toNat, by omega⟩
  unfold eP at e8
  simp only [wK, seval, hx8, e8]
  refine qC (o := blk [.int .i64 0, .int .i64 0] 175) fun j9 h9 => ?_
  try simp only [wK, seval]
  obtain ⟨B, hB⟩ : ∃ B, B = (j9, blk [.int .i64 x.1, .int .i64 x.2] 175) :: M2 := ⟨_, rfl⟩
  have sB : Tk.Sub M2 B := by rw [hB]; exact Sub.cons h9 (Sub.refl _)
  have g9 : hget B j9 = some (blk [.int .i64 x.1, .int .i64 x.2] 175) := by rw [hB]; exact qG _ _ _
  have c90 : hcel B j9 0 = some (.int .i64 x.1) := qE g9 rfl
  have c91 : hcel B j9 1 = some (.int .i64 x.2) := qE g9 rfl
  rw [<- hB]
  have etn : x.1.toNat = nn := by omega
  rw [etn] at hmo
  obtain ⟨N, wN, gN, fN⟩ := qBS (vs := [.int .i64 x.2]) (o := nn) (cs' := fl eI (putA A1 (more.take (i' + 1)))) (sB _ _ g2) (by rw [qOW]; simp; omega) (by rw [qQK (by omega), hmo])
  try simp only [wK, seval, c90, c91]
  refine ⟨⟨by omega, by omega⟩, ?_⟩
  simp (disch := omega) only [wK, seval, etn, Nat.mul_one, Nat.zero_add, wN, qK]
  exact ⟨more.length - (i' + 1), by omega, N, .refl _, i' + 1, by simp, fun y o e => by rw [fN y (fun c => by rw [c, h5] at e; cases e)]; exact sB _ _ (s2 _ _ e), gN, by omega, rfl⟩
 have hi3 : i' = more.length := by omega
 rw [hi3, List.take_length] at g2
 obtain ⟨A2, hA2⟩ : ∃ A2 : List Int, A2 = putA A1 more := ⟨_, rfl⟩
 have lA2 : A2.length = 32 := by rw [hA2, qBF, lA1]
 rw [<- hA2] at k g2
 have r5 : qV M2 j5 0 32 = some (fl eI A2) := zD g2 (by rw [qOW, lA2])
 simp only [wK, seval, r5]
 refine qP [46, 10] (fun n vs M' => ∃ (i : Nat) (v : Value) (S : Nat -> Prop), vs = [.int .i64 i, v] /\ Tk.Sub M2 M' /\ dL 175 eP 2 M' v (outA A2 i) S /\ (∀ x, S x -> hget M2 x = none) /\ i <= 32 /\ n = 32 - i) 32 rfl ⟨0, _, _, rfl, Sub.refl _, dL.nil, fun _ q => q.elim, by omega, rfl⟩ ?_
 rintro n f3 M3 ⟨i3, v3, S3, hv3, s3, d3, fS3, hi4, rfl⟩
 simp only [lm4] at hv3
 simp only [wK, seval, wr, hv3.1, hv3.2]
 refine qF (fun c => ?_) fun c => ?_
 ·have hi5 : i3 < 32 := by omega
  have hmo := zBC A2 i3
  have hln := qQT A2 i3
  have hgt : (fl eI A2)[i3]? = some (.int .i64 (A2.getD i3 0)) := by
   rw [fl_map, List.getElem?_map, List.getD_eq_getElem?_getD, List.getElem?_eq_getElem (by omega)]; rfl
  obtain ⟨z, hz⟩ : ∃ z, z = A2.getD i3 0 := ⟨_, rfl⟩
  rw [<- hz] at hgt hmo
  obtain ⟨iI, hiI, hsI⟩ : ∃ iI, Tryz.prog.info? 3 = some iI /\ iI.size = 1 := by
   obtain ⟨iI, z, e1, e2, e3, e4, e5⟩ := iInt
   exact ⟨iI, e1, e3⟩
  try simp only [wK, seval]
  refine raw_idx (cs := fl eI A2) (kd := .i64) (j := i3) (by simp only [wK, seval]) (by simp only [wK, seval, hv3.1]) tArr32 uIntP hiI hsI hi5 hgt ?_
  simp only [wK, seval]
  refine zG (fun ez => ?_) fun ez => ?_
  ·try simp only [wK, seval]
   refine qC (o := blk (fl eP [((i3 : Int), z)]) 175) fun j53 h53 => ?_
   obtain ⟨B5, hB5⟩ : ∃ B5, B5 = (j53, blk (fl eP [((i3 : Int), z)]) 175) :: M3 := ⟨_, rfl⟩
   have sB5 : Tk.Sub M3 B5 := by rw [hB5]; exact Sub.cons h53 (Sub.refl _)
   have r53 : rLs B5 eP 2 (.slice (some ⟨j53, 0, none⟩) 1 1) [((i3 : Int), z)] := by rw [hB5]; exact (xU (e := 175) (j := j53) (l := [((i3 : Int), z)]) xB).rd.sub (Sub.cons2 (Sub.nil _))
   have eB5 : (j53, blk [.int .i64 (i3 : Int), .int .i64 z] 175) :: M3 = B5 := hB5.symm
   first | rw [<- hB5] | rw [eB5]
   simp only [wK, seval]
   refine qFY xB qJQ qNR qYD (d3.frame fun y q => Sub.eq sB5 (d3.in q)) r53 (by rw [List.length_singleton]; omega) (by rw [List.length_singleton]; omega) fun M5 w5 S5 d5 k5 f5 => ?_
   have kk : ∀ y, hget M3 y ≠ none -> ¬ S3 y -> hget M5 y = hget M3 y := fun y e1 e2 => by rw [k5 y (by rw [Sub.eq sB5 e1]; exact e1) e2, Sub.eq sB5 e1]
   simp (disch := omega) only [wK, seval, qK]
   refine ⟨32 - (i3 + 1), by omega, _, .refl _, i3 + 1, w5, S5, by simp, fun y o e => ?_, by rw [hmo, if_neg ez]; exact d5, fun y q => ?_, by omega, rfl⟩
   ·rw [kk y (by rw [s3 _ _ e]; simp) (fun q => by rw [fS3 y q] at e; cases e)]; exact s3 _ _ e
   ·rcases f5 y q with c | c
    ·exact fS3 y c
    ·exact s3.none' (sB5.none' c)
  ·simp (disch := omega) only [wK, seval, qK]
   exact ⟨32 - (i3 + 1), by omega, M3, .refl _, i3 + 1, v3, S3, by simp, s3, by rw [hmo, if_pos ez, List.append_nil]; exact d3, fS3, by omega, rfl⟩
 ·have hi5 : i3 = 32 := by omega
  rw [hi5] at d3
  try simp only [wK, seval]
  exact .of (k M3 v3 S3 (s2.trans s3) d3 fun x q => s2.none' (fS3 x q))
end Go.Proofs.YtjioiemhgbkbfaaGreatDoor
end

section
attribute [local irreducible] Go.Tk.vc Go.Tk.vops Go.Tk.vdr Go.Tk.vop Go.Tk.vfl Go.Tk.HCalls
namespace Go.Tk
open Go
theorem qUS {k : Nat} : ∀ {l : List (Int × Int)} {a : List Int}, (∀ q ∈ l, 0 <= q.1 /\ q.1 ≠ (k : Int)) -> (putA a l).getD k 0 = a.getD k 0 := by
 intro l
 induction l with
 | nil => intro a _; rfl
 | cons p l ih =>
  intro a h
  have h0 := h p List.mem_cons_self
  show (putA (a.set p.1.toNat p.2) l).getD k 0 = _
  rw [ih fun q hq => h q (List.mem_cons_of_mem _ hq), List.getD_eq_getElem?_getD, List.getD_eq_getElem?_getD, List.getElem?_set_ne (by omega)]
theorem zAV {α : Type} {k : α -> Int} {a : α} {l : List α} (h : risP k (a :: l)) : risP k l := fun i hi => by
 have := h (i + 1) (by simpa using hi)
 simpa using this
theorem zAW {α : Type} {k : α -> Int} {a : α} {l : List α} (h : risP k (a :: l)) : ∀ x ∈ l, k a < k x := fun x hx => by
 obtain ⟨i, hi, rfl⟩ := List.getElem_of_mem hx
 have := jB h (i + 1) 0 (by simpa using hi) (by omega)
 simpa using this
theorem qXQ {k : Nat} : ∀ {l : List (Int × Int)} {a : List Int}, (∀ q ∈ l, 0 <= q.1) -> risP (·.1) l -> k < a.length -> (putA a l).getD k 0 = ((l.find? fun p => decide (p.1 = (k : Int))).map (·.2)).getD (a.getD k 0) := by
 intro l
 induction l with
 | nil => intro a _ _ _; rfl
 | cons p l ih =>
  intro a h0 hr hk
  have p0 := h0 p List.mem_cons_self
  show (putA (a.set p.1.toNat p.2) l).getD k 0 = _
  rw [List.find?_cons]
  by_cases e : p.1 = (k : Int)
  ·have hne : ∀ q ∈ l, 0 <= q.1 /\ q.1 ≠ (k : Int) := fun q hq => ⟨h0 q (List.mem_cons_of_mem _ hq), fun c => by have := zAW hr q hq; omega⟩
   rw [qUS hne]
   have et : p.1.toNat = k := by omega
   simp only [e, decide_true, Option.map_some, Option.getD_some]
   rw [List.getD_eq_getElem?_getD, Int.toNat_natCast, List.getElem?_set_self hk]; rfl
  ·rw [ih (fun q hq => h0 q (List.mem_cons_of_mem _ hq)) (zAV hr) (by rw [List.length_set]; exact hk)]
   simp only [e, decide_false]
   rw [List.getD_eq_getElem?_getD (l := a.set _ _), List.getElem?_set_ne (by omega), <- List.getD_eq_getElem?_getD]
theorem qOE (l more : List (Int × Int)) : putR l more = jO l more := by
 unfold putR jO
 by_cases c : xI l /\ xI more
 ·rw [if_pos c, if_pos c]
  unfold outA putPs
  have key : ∀ k, k < 32 -> (putA (putA (List.replicate 32 0) l) more).getD k 0 = putV l more k := fun k hk => by
   rw [qXQ (fun q hq => (c.2.2.1 q hq).1.1) c.2.2.2 (by rw [qBF]; simpa using hk), qXQ (fun q hq => (c.1.2.1 q hq).1.1) c.1.2.2 (by simpa using hk)]
   unfold putV getP
   have : (List.replicate 32 (0 : Int)).getD k 0 = 0 := by
    rw [List.getD_eq_getElem?_getD, List.getElem?_replicate, if_pos hk]; rfl
   rw [this]
  have hc : ∀ {β : Type} (l : List Nat) (f g : Nat -> Option β), (∀ k ∈ l, f k = g k) -> l.filterMap f = l.filterMap g := by
   intro β l f g
   induction l with
   | nil => intro _; rfl
   | cons a l ih => intro h; rw [List.filterMap_cons, List.filterMap_cons, h a List.mem_cons_self, ih fun k hk => h k (List.mem_cons_of_mem _ hk)]
  exact hc _ _ _ fun k hk => by rw [key k (List.mem_range.1 hk)]
 ·rw [if_neg c, if_neg c]
theorem qQS (l : List (Int × Int)) (s : Int) : (l.filter fun p => !yX [s] p) = qFM l s := by
 unfold qFM yX
 congr 1
 funext p
 simp only [List.contains_cons, List.contains_nil, Bool.or_false]
 rw [show (uC p.1 == s) = decide (uC p.1 = s) from rfl]
def qLW (h : H) (m : List ((Int × Int) × Value)) (log : List DRec) : Prop := ∀ s t, match yL log s t with
 | none => mget m (s, t) = none
 | some r => ∃ v1 v2, mget m (s, t) = some (.agg (cRec r v1 v2).toArray) /\ sRec h r v1 v2
def endM (m : List ((Int × Int) × Value)) (log : List DRec) : Prop := ∀ s t, mget m (s, t) = (qBP log s t).map (Value.int .i64)
theorem zBA (h : H) : qLW h [] [] := fun s t => rfl
theorem zIP : endM [] [] := fun s t => rfl
theorem qUT {h : H} {m : List ((Int × Int) × Value)} {log : List DRec} {r : DRec} {v1 v2 : Value} (p : qLW h m log) (hk : r.kind = 1) (hn : yL log r.stamp r.try_ = none) (sr : sRec h r v1 v2) : qLW h (mput m (r.stamp, r.try_) (.agg (cRec r v1 v2).toArray)) (log ++ [r]) := fun s t => by
 have ps := p s t
 rw [qGI]
 rw [qIT]
 by_cases e : (r.stamp, r.try_) = (s, t)
 ·simp only [Prod.mk.injEq] at e
  obtain ⟨rfl, rfl⟩ := e
  have hb : uL r.stamp r.try_ r = true := by unfold uL; simp [hk]
  rw [hn, hb]
  simp only [if_true, Option.none_or]
  exact ⟨v1, v2, rfl, sr⟩
 ·have hb : uL s t r = false := by
   unfold uL
   rw [Bool.eq_false_iff]
   intro c
   simp only [Bool.and_eq_true, decide_eq_true_eq] at c
   exact e (by rw [c.1.2, c.2])
  rw [if_neg e, hb]
  simp only [Bool.false_eq_true, if_false, Option.or_none]
  exact ps
theorem qGJ {h : H} {m : List ((Int × Int) × Value)} {log : List DRec} {r : DRec} (p : qLW h m log) (hk : r.kind ≠ 1) : qLW h m (log ++ [r]) := fun s t => by
 have ps := p s t
 have hb : uL s t r = false := by unfold uL; simp [hk]
 rw [qGI, hb]
 simp only [Bool.false_eq_true, if_false, Option.or_none]
 exact ps
theorem qMU {m : List ((Int × Int) × Value)} {log : List DRec} {r : DRec} (p : endM m log) (hk : r.kind ≠ 1) (hn : vU log r.stamp r.try_ = false) : endM (mput m (r.stamp, r.try_) (.int .i64 r.kind)) (log ++ [r]) := fun s t => by
 have ps := p s t
 rw [qJP, qIT]
 by_cases e : (r.stamp, r.try_) = (s, t)
 ·simp only [Prod.mk.injEq] at e
  obtain ⟨rfl, rfl⟩ := e
  have hb : endB r.stamp r.try_ r = true := by unfold endB; simp [hk]
  rw [qEV] at hn
  have hn2 : qBP log r.stamp r.try_ = none := by
   cases e : qBP log r.stamp r.try_ with
   | none => rfl
   | some x => rw [e] at hn; cases hn
  rw [hn2, hb, if_pos rfl]; rfl
 ·have hb : endB s t r = false := by
   unfold endB
   rw [Bool.eq_false_iff]
   intro c
   simp only [Bool.and_eq_true, decide_eq_true_eq] at c
   exact e (by rw [c.1.2, c.2])
  rw [if_neg e, hb]
  simp only [Bool.false_eq_true, if_false, Option.or_none]
  exact ps
theorem qWI {m : List ((Int × Int) × Value)} {log : List DRec} {r : DRec} (p : endM m log) (hk : r.kind = 1) : endM m (log ++ [r]) := fun s t => by
 have ps := p s t
 have hb : endB s t r = false := by unfold endB; simp [hk]
 rw [qJP, hb]
 simp only [Bool.false_eq_true, if_false, Option.or_none]
 exact ps
def kOf (r : DRec) : Int × Int := (r.stamp, r.try_)
def wV (log : List DRec) : List (Int × Int) := (log.filter fun r => decide (r.kind = 1)).map kOf
theorem qBG (log : List DRec) (r : DRec) : wV (log ++ [r]) = wV log ++ (if r.kind = 1 then [kOf r] else []) := by
 unfold wV
 rw [List.filter_append, List.map_append]
 congr 1
 by_cases e : r.kind = 1 <;> simp [e]
theorem qUV (log : List DRec) : (wV log).length <= log.length := by
 unfold wV
 rw [List.length_map]; exact List.length_filter_le _ _
def prs (log : List DRec) : List DRec := log.filter fun r => decide (r.kind = 1)
theorem zBD (log : List DRec) : uY log = (prs log).filter fun r => !vU log r.stamp r.try_ := by
 unfold uY prs
 rw [List.filter_filter]
 congr 1
 funext r
 rw [Bool.and_comm]
theorem zGF {log : List DRec} (h : logP log) : ∀ r ∈ prs log, yL log r.stamp r.try_ = some r := by
 intro r hr
 unfold prs at hr
 rw [List.mem_filter] at hr
 obtain ⟨hm, hk⟩ := hr
 have hk : r.kind = 1 := by simpa using hk
 obtain ⟨i, hi, rfl⟩ := List.getElem_of_mem hm
 have hn := (h.2 i hi).2.1 hk
 have hb : uL log[i].stamp log[i].try_ log[i] = true := by unfold uL; simp [hk]
 exact qFS hi hn hb
theorem qWH {log : List DRec} (h : logP log) {s t k : Int} (e : qBP log s t = some k) : k ≠ 0 := by
 unfold qBP at e
 rw [Option.map_eq_some_iff] at e
 obtain ⟨r, hf, rfl⟩ := e
 have hm := List.mem_of_find?_eq_some hf
 have hb := List.find?_some hf
 unfold endB at hb
 simp only [Bool.and_eq_true, Bool.not_eq_true', decide_eq_false_iff_not] at hb
 obtain ⟨i, hi, rfl⟩ := List.getElem_of_mem hm
 rcases (h.2 i hi).1 with c | c
 ·exact absurd c.1 hb.1.1
 ·rcases c.2.1 with q | q
  ·omega
  ·omega
def uP (f : Kept) : List Bool := (List.range 8).map fun (i : Nat) => f (i : Int)
theorem yN (f : Kept) : (uP f).length = 8 := by simp [uP]
theorem qMJ (f : Kept) {i : Nat} (h : i < 8) : (uP f)[i]? = some (f (i : Int)) := by
 unfold uP
 rw [List.getElem?_map, List.getElem?_range h]; rfl
theorem qMI (f : Kept) {s : Int} (h : 0 <= s /\ s <= 7) (b : Bool) : (uP f).set s.toNat b = uP (setK f s b) := by
 apply List.ext_getElem?
 intro i
 rcases Nat.lt_or_ge i 8 with h8 | h8
 ·rw [qMJ _ h8]
  by_cases e : s.toNat = i
  ·rw [<- e, List.getElem?_set_self (by rw [yN]; omega)]
   unfold setK
   rw [if_pos (by omega)]
  ·rw [List.getElem?_set_ne e, qMJ _ h8]
   unfold setK
   rw [if_neg (by omega)]
 ·rw [List.getElem?_eq_none (by rw [List.length_set, yN]; exact h8), List.getElem?_eq_none (by rw [yN]; exact h8)]
end Go.Tk
end
