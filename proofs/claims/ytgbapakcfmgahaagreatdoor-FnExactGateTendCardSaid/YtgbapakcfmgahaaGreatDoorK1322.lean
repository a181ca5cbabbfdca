/- Parts of the proof, put together: ZE, P19, ZGP, ZJ, Z7, A38, ZH. -/
import Derived.Test.YtgbapakcfmgahaaGreatDoorK1321
import Derived.Test.YtgbapakcfmgahaaGreatDoorK1320
import Derived.Test.YtgbapakcfmgahaaGreatDoorK1314
import Derived.Test.YtgbapakcfmgahaaGreatDoorK136
import Derived.Test.YtgbapakcfmgahaaGreatDoorK1318
import Derived.Test.YtgbapakcfmgahaaGreatDoorK135
set_option linter.unusedVariables false
set_option linter.unusedSimpArgs false
set_option linter.defProp false
section
set_option maxRecDepth 20000
attribute [local irreducible] Go.Tk.vc Go.Tk.vops Go.Tk.vdr Go.Tk.vop Go.Tk.vfl Go.Tk.HCalls
namespace Go.Proofs.YtgbapakcfmgahaaGreatDoor
open Go Go.Tk
open Classical in
noncomputable def zF (c : DCall) : List Int := if h : ∃ l, SlotsO c l then h.choose else []
theorem slotsF_eq {c : DCall} {l : List Int} (x : SlotsO c l) : zF c = l := by
 unfold zF
 rw [dif_pos ⟨l, x⟩]
 exact SlotsO.same (Exists.choose_spec (p := fun l => SlotsO c l) ⟨l, x⟩) x
theorem dR_none {α : Type} {W : H -> List Value -> α -> (Nat -> Prop) -> Prop} {sz : Nat} {M : H} {b : Nat} {e : TypeId} (g : hget M b = some (blk [] e)) : dR e W sz M (.slice (some ⟨b, 0, none⟩) 0 0) ([] : List α) (fun x => x = b) :=
 .inr ⟨b, 0, [], [], fun _ _ => False, rfl, Nat.le_refl _, by simp, ⟨g, rfl, fun c q => (by cases q), fun i h1 => (by simp at h1), fun i h1 => (by simp at h1), fun i j h1 => (by simp at h1), fun x => by simp⟩⟩
theorem flatMap_le {α β : Type} (f : α -> List β) (c : Nat) (h : ∀ a, (f a).length <= c) : ∀ l : List α, (l.flatMap f).length <= c * l.length := by
 intro l
 induction l with
 | nil => simp
 | cons a l ih => rw [List.flatMap_cons, List.length_append, List.length_cons, Nat.mul_succ]; have := h a; omega
theorem tendAt_le (log : List DRecord) (sl : List Int) (x : DLive) (a : Int) : (zS log sl x a).length <= 1 := by
 unfold zS
 split
 ·simp
 ·split <;> simp
theorem tendLive_le (S : DCall -> List Int) (g : DGate) (x : DLive) : (tendLive S g x).length <= 3 := by
 unfold tendLive
 have h1 := flatMap_le (fun h => zS g.log (S x.call) x h) 1 (fun a => tendAt_le _ _ _ a) (waysTo g.ways x.stamp)
 have h2 : (waysTo g.ways x.stamp).length <= 3 := List.length_filter_le _ _
 omega
theorem rdS_1 {M : H} {j sz : Nat} {cs : List Value} {e : TypeId} (g : hget M j = some (blk cs e)) (hl : cs.length = sz) : rdS M sz (.slice (some ⟨j, 0, none⟩) 1 1) 1 cs :=
 ⟨by omega, .inr ⟨j, 0, 1, rfl, Nat.le_refl _, by rw [Nat.one_mul]; exact qU g hl⟩⟩
set_option maxHeartbeats 2000000 in
theorem specGateTend_c {h : H} {g : DGate} {lg lv wy : Value} (r : sGate h g lg lv wy) (hb : bGate g) {R : Ending -> H -> Prop}
  (k : ∀ M' v S, Tk.Sub h M' -> dR 57 WWord 17 M' v (gateTend zF g) S -> (∀ x, S x -> hget h x = none) -> R (.returned v) M') :
  HCalls Tryz.prog 5 #[.agg (cGate g lg lv wy).toArray] h R := by
 refine qB (args := [.agg (cGate g lg lv wy).toArray]) Tryz.func5 ir5 ?_
 simp only [wk, seval, zB]
 refine qA (o := blk (cGate g lg lv wy) 34) fun j1 h1 => ?_
 simp only [wk, seval, zB]
 refine qA (o := blk [] 57) fun j10 h10 => ?_
 have n10 := h10
 simp only [subs] at n10
 have ne : j1 ≠ j10 := fun e => n10.1 e.symm
 obtain ⟨A, hA⟩ : ∃ A, A = (j1, blk (cGate g lg lv wy) 34) :: h := ⟨_, rfl⟩
 have sA : Tk.Sub h A := by rw [hA]; exact Sub.cons h1 (Sub.refl _)
 have g1 : hget A j1 = some (blk (cGate g lg lv wy) 34) := by rw [hA]; exact qL _ _ _
 obtain ⟨M0, hM0⟩ : ∃ M0, M0 = (j10, blk [] 57) :: A := ⟨_, rfl⟩
 have h10A : hget A j10 = none := by rw [hA]; exact h10
 have sM0 : Tk.Sub A M0 := by rw [hM0]; exact Sub.cons h10A (Sub.refl _)
 have g10 : hget M0 j10 = some (blk [] 57) := by rw [hM0]; exact qL _ _ _
 have ra : qQ M0 j1 0 6 = some (cGate g lg lv wy) := qU (sM0 _ _ g1) rfl
 have c0 : hcel M0 j1 0 = some (.bool g.up) := qH (sM0 _ _ g1) rfl
 rw [<- hA, <- hM0]
 simp only [wk, seval, zB, ra]
 refine specGateOk_c (r.sub (sA.trans sM0)) hb fun q hq => ?_
 have bv := hb.lives
 unfold lim at bv
 cases q with
 | false =>
  simp only [wk, seval]
  have e : gateTend zF g = [] := by unfold gateTend; rw [if_neg (fun c => zG hq rfl c.1)]
  exact .of (k M0 _ _ (sA.trans sM0) (by rw [e]; exact dR_none g10) fun x q => by rw [q]; exact n10.2)
 | true =>
  have hok := hq.1 rfl
  simp only [wk, seval, c0]
  obtain ⟨u, hu⟩ : ∃ u, u = g.up := ⟨_, rfl⟩
  rw [<- hu]
  cases u with
  | false =>
   simp only [wk, seval]
   have e : gateTend zF g = [] := by unfold gateTend; rw [if_neg (fun c => by rw [<- hu] at c; cases c.2)]
   exact .of (k M0 _ _ (sA.trans sM0) (by rw [e]; exact dR_none g10) fun x q => by rw [q]; exact n10.2)
  | true =>
   have e : gateTend zF g = g.lives.flatMap (tendLive zF g) := by unfold gateTend; rw [if_pos ⟨hok, hu.symm⟩]
   rw [e] at k
   have rv := (r.2.1.subH sA).relImp fun _ _ x => rLive.sub sA x
   simp only [wk, seval]
   refine qS [3, 4] (fun n vs M' => ∃ (i : Nat) (v : Value) (S : Nat -> Prop), vs = [v, .int .i64 i] /\ Tk.Sub A M' /\ dR 57 WWord 17 M' v ((g.lives.take i).flatMap (tendLive zF g)) S /\ (∀ x, S x -> hget A x = none) /\ i <= g.lives.length /\ n = g.lives.length - i) g.lives.length rfl
    ⟨0, _, _, rfl, sM0, dR_none g10, fun x q => q ▸ h10A, by omega, rfl⟩ ?_
   rintro n f' M' ⟨i, v, S, hv, s, dS, fS, hi', rfl⟩
   simp only [lm4] at hv
   have c4 : hcel M' j1 4 = some lv := qH (s _ _ g1) rfl
   simp only [wk, seval, wr, hv.1, hv.2, c4, rv.len]
   refine qF (fun q1 => ?_) fun q1 => ?_
   ·have hi2 : i < g.lives.length := by omega
    obtain ⟨b, oo, cs, hx, e1, va, vb, rfl, ra', rb⟩ := zU rv hi2
    have e1 := hread_sub s e1
    have z1 := zLive_eq
    try simp only [str] at z1
    simp only [wk, seval, c4, hx, e1, wLive, str, z1]
    obtain ⟨d, hd⟩ : ∃ d, d = g.lives[i] := ⟨_, rfl⟩
    have hbd : bLive d := hd ▸ hb.live _ (List.getElem_mem hi2)
    have bll := hbd.l
    have bt := hbd.t
    have bc := hbd.c
    unfold lim at bll bt
    unfold bCall lim at bc
    rw [<- hd] at ra' rb e1 ⊢
    refine qA (o := blk (qE zLive (.slice none 0 0) (.slice none 0 0)) 50) fun j5 h5 => ?_
    obtain ⟨B', hB'⟩ : ∃ B', B' = (j5, blk (qE zLive (.slice none 0 0) (.slice none 0 0)) 50) :: M' := ⟨_, rfl⟩
    have gB' : hget B' j5 = some (blk (qE zLive (.slice none 0 0) (.slice none 0 0)) 50) := by rw [hB']; exact qL _ _ _
    have sB' : Tk.Sub M' B' := by rw [hB']; exact Sub.cons h5 (Sub.refl _)
    rw [<- hB']
    obtain ⟨B0, wB0, gB0, fB0⟩ := bx_st (vs := qE d va vb) (cs' := qE d va vb) (o := 0) gB' (by show 0 + 12 <= 12; omega) rfl
    have oneR : (qE d va vb).all vone = true := by simp only [qE, List.all_cons, List.all_nil, ra'.one, rb.one]; rfl
    have sB0 : Tk.Sub M' B0 := fun x o e => by rw [fB0 x (fun c => by rw [c, h5] at e; cases e)]; exact sB' _ _ e
    have sAB := s.trans sB0
    have raB : qQ B0 j1 0 6 = some (cGate g lg lv wy) := qU (sAB _ _ g1) rfl
    have c50 : hcel B0 j5 0 = some (.int .i64 d.stamp) := qH gB0 rfl
    simp only [wk, seval, wLive, zB, wB0, oneR, raB, c50]
    refine l22Ways_c (r.sub (sA.trans sAB)) hb fun M1 t6 Sw s1 u6 fw => ?_
    have n5A : hget A j5 = none := s.none' h5
    have dS1 : dR 57 WWord 17 M1 v ((g.lives.take i).flatMap (tendLive zF g)) S := dS.frame WWord.fr fun x q => Sub.eq (sB0.trans s1) (dS.in WWord.in q)
    have fS1 : ∀ x, S x -> hget A x = none /\ x ≠ j5 /\ ¬ Sw x := fun x q => ⟨fS x q, fun c => dS.in WWord.in q (c ▸ h5), fun c => dS.in WWord.in q (sB0.none' (fw x c))⟩
    have fw5 : ∀ x, Sw x -> x ≠ j5 := fun x q c => by have := fw x q; rw [c, gB0] at this; cases this
    obtain ⟨L0, hL0⟩ : ∃ L0, L0 = (g.lives.take i).flatMap (tendLive zF g) := ⟨_, rfl⟩
    obtain ⟨ys, hys⟩ : ∃ ys, ys = waysTo g.ways d.stamp := ⟨_, rfl⟩
    rw [<- hL0] at dS1
    rw [<- hys] at u6
    have hyl : ys.length <= 3 := by rw [hys]; exact List.length_filter_le _ _
    try simp only [wk, seval]
    refine qS [3, 7] (fun n vs M2 => ∃ (kk : Nat) (v' : Value) (S' : Nat -> Prop), vs = [v', .int .i64 kk] /\ Tk.Sub A M2 /\ hget M2 j5 = some (blk (qE d va vb) 50) /\ dL 3 eI 1 M2 t6 ys Sw /\ dR 57 WWord 17 M2 v' (L0 ++ (ys.take kk).flatMap (zS g.log (zF d.call) d)) S' /\
     (∀ x, S' x -> hget A x = none /\ x ≠ j5 /\ ¬ Sw x) /\ kk <= ys.length /\ n = ys.length - kk) ys.length rfl
     ⟨0, v, S, rfl, sAB.trans s1, s1 _ _ gB0, u6, by simpa using dS1, fS1, by omega, rfl⟩ ?_
    rintro n f2 M2 ⟨kk, v', S', hv2, s2, g5, u6', dW, fW, hk, rfl⟩
    simp only [lm4] at hv2
    simp only [wk, seval, wr, hv2.1, hv2.2, u6'.rd.len]
    refine qF (fun q2 => ?_) fun q2 => ?_
    ·have hk2 : kk < ys.length := by omega
     obtain ⟨b6, o6, hx6, e6⟩ := ls_at (enc := eI) (sz := 1) (fun _ => rfl) u6'.rd hk2
     obtain ⟨hh, hhh⟩ : ∃ hh, hh = ys[kk] := ⟨_, rfl⟩
     have e6' : hcel M2 b6 o6 = some (.int .i64 hh) := by rw [hhh]; exact qW e6 0 rfl
     have c511 : hcel M2 j5 11 = some vb := qH g5 rfl
     have rbM := (rb.subH s2).relImp fun _ _ q => rTold.sub s2 q
     obtain ⟨P, hP⟩ : ∃ P : DTold -> Bool, P = fun t => decide (t.house = hh) := ⟨_, rfl⟩
     try simp only [wk, seval]
     refine qS [8, 9] (fun n vs h' => ∃ (m : Nat) (bb : Bool), vs = [.bool bb, .int .i64 m] /\ h' = M2 /\ bb = (d.told.take m).any P /\ m <= d.told.length /\ n = d.told.length - m) d.told.length rfl ⟨0, false, rfl, rfl, rfl, by omega, rfl⟩ ?_
     rintro n f3 h' ⟨m, bb, hv3, rfl, hbb, hm, rfl⟩
     simp only [lm4] at hv3
     simp only [wk, seval, wr, hv3.1, hv3.2, c511, rbM.len]
     refine qF (fun q3 => ?_) fun q3 => ?_
     ·have hm2 : m < d.told.length := by omega
      obtain ⟨b7, o7, cs7, hx7, e7, vp, rfl, -⟩ := zU rbM hm2
      have e7' : hcel h' b7 o7 = some (.int .i64 d.told[m].house) := qW e7 0 rfl
      have hany : (d.told.take (m + 1)).any P = (bb || P d.told[m]) := by rw [List.take_succ_eq_append_getElem hm2, List.any_append, <- hbb]; simp
      refine qY h' (Sub.refl _) ?_
      cases bb with
      | true =>
       simp only [wk, seval, Sub.refl]
       simp (disch := omega) only [wk, seval, qI]
       exact ⟨d.told.length - (m + 1), by omega, _, .refl _, m + 1, true, by simp, rfl, by rw [hany]; rfl, by omega, rfl⟩
      | false =>
       simp only [wk, seval, wLive, c511, hx7, e7', hx6, e6', Sub.refl]
       simp (disch := omega) only [wk, seval, qI]
       exact ⟨d.told.length - (m + 1), by omega, _, .refl _, m + 1, decide (d.told[m].house = hh), by simp, rfl, by rw [hany, hP]; simp, by omega, rfl⟩
     ·have hm3 : m = d.told.length := by omega
      rw [hm3, List.take_length] at hbb
      have c53 : hcel h' j5 3 = some (.int .i64 d.phase) := qH g5 rfl
      have c510 : hcel h' j5 10 = some va := qH g5 rfl
      have htk := flatMap_more (zS g.log (zF d.call) d) hk2
      rw [<- hhh] at htk
      have skip : zS g.log (zF d.call) d hh = [] -> dR 57 WWord 17 h' v' (L0 ++ (ys.take (kk + 1)).flatMap (zS g.log (zF d.call) d)) S' := fun e => by rw [htk, e, List.append_nil]; exact dW
      refine qY h' (Sub.refl _) ?_
      by_cases p1 : d.phase = 1
      ·simp only [wk, seval, wLive, c53, p1, decide_true, c510, hx6, e6', Sub.refl]
       refine l21In_c (ra'.sub s2) bll ?_
       obtain ⟨lk, hlk⟩ : ∃ lk, lk = d.locked.contains hh := ⟨_, rfl⟩
       rw [<- hlk]
       cases lk with
       | true =>
        simp only [wk, seval, Sub.refl, c53, p1]
        try simp (disch := omega) only [wk, seval, qI]
        exact ⟨ys.length - (kk + 1), by omega, _, .refl _, kk + 1, v', S', by simp, s2, g5, u6', skip (by unfold zS; rw [if_neg (fun c => by rw [<- hlk] at c; cases c.2), if_neg (fun c => by omega)]), fW, by omega, rfl⟩
       | false =>
        simp only [wk, seval, Sub.refl]
        have g1h := s2 _ _ g1
        obtain ⟨HR, hHR⟩ : ∃ HR, HR = (j5, blk (qE d va vb) 50) :: A := ⟨_, rfl⟩
        have sHR : Tk.Sub HR h' := by rw [hHR]; exact Sub.cons_of g5 s2
        have raH : qQ HR j1 0 6 = some (cGate g lg lv wy) := qU (by rw [hHR]; exact Sub.cons n5A (Sub.refl A) _ _ g1) rfl
        have r5H : qQ HR j5 0 12 = some (qE d va vb) := qU (by rw [hHR]; exact qL _ _ _) rfl
        refine qY HR sHR ?_
        simp only [wk, seval, wLive, zB, raH, r5H, hx6, e6', sHR]
        refine l22Lock_c (r.sub (sA.trans s2)) hb (by omega) fun M3 w9 S9 sl O9 s3 u9 f9 => ?_
        have sHR3 := sHR.trans s3
        have hsl := slotsF_eq O9
        obtain ⟨LW, hLW⟩ : ∃ LW, LW = lockW g.log sl d hh := ⟨_, rfl⟩
        rw [<- hLW] at u9 ⊢
        have ww : WWord M3 (qK LW w9 (.slice none 0 0) (.slice none 0 0)) LW S9 := WWord.slots u9 (by rw [hLW]; rfl) (by rw [hLW]; rfl)
        have hte : zS g.log (zF d.call) d hh = [LW] := by unfold zS; rw [if_pos ⟨p1, hlk.symm⟩, hsl, hLW]
        have zw := zWord_eq
        try simp only [str] at zw
        have oneW := WWord.one ww
        simp only [wk, seval, zV, str, zw, sHR3, oneW]
        refine qA (o := blk (qK LW w9 (.slice none 0 0) (.slice none 0 0)) 57) fun j84 h84 => ?_
        obtain ⟨B4, hB4⟩ : ∃ B4, B4 = (j84, blk (qK LW w9 (.slice none 0 0) (.slice none 0 0)) 57) :: M3 := ⟨_, rfl⟩
        have g84 : hget B4 j84 = some (blk (qK LW w9 (.slice none 0 0) (.slice none 0 0)) 57) := by rw [hB4]; exact qL _ _ _
        have sB4 : Tk.Sub M3 B4 := by rw [hB4]; exact Sub.cons h84 (Sub.refl _)
        have sHR4 := sHR3.trans sB4
        have s24 := s3.trans sB4
        rw [<- hB4]
        simp only [wk, seval, zV, sHR4]
        have hll : (L0 ++ (ys.take kk).flatMap (zS g.log (zF d.call) d)).length <= 4194304 := by
         have a1 := flatMap_le (tendLive zF g) 3 (fun x => tendLive_le zF g x) (g.lives.take i)
         have a2 := flatMap_le (zS g.log (zF d.call) d) 1 (fun a => tendAt_le _ _ _ a) (ys.take kk)
         rw [<- hL0] at a1
         rw [List.length_take] at a1 a2
         rw [List.length_append]; omega
        refine app_dR (T := S9) (cs := qK LW w9 (.slice none 0 0) (.slice none 0 0)) WWord.fr WWord.in (fun q => WWord.one q) (fun q => WWord.len q) tWords iWord (dW.frame WWord.fr fun y q => Sub.eq s24 (dW.in WWord.in q)) (rdS_1 g84 rfl) (WWord.fr _ _ _ _ _ (fun y q => Sub.eq sB4 (WWord.in _ _ _ _ _ ww q)) ww)
         (fun y q q2 => dW.in WWord.in q2 (f9 y q)) (by omega) (by omega) fun M5 v5 S5 d5 k5 f5 => ?_
        have kk5 : ∀ y, hget h' y ≠ none -> ¬ S' y -> hget M5 y = hget h' y := fun y a1 a2 => by rw [k5 y (by rw [Sub.eq s24 a1]; exact a1) a2, Sub.eq s24 a1]
        have sA5 : Tk.Sub A M5 := fun y o e => by rw [kk5 y (by rw [s2 _ _ e]; simp) (fun q => by rw [(fW y q).1] at e; cases e)]; exact s2 _ _ e
        have g55 : hget M5 j5 = some (blk (qE d va vb) 50) := (kk5 j5 (by rw [g5]; simp) (fun q => (fW j5 q).2.1 rfl)).trans g5
        have u65 := u6'.frame (M' := M5) fun y q => kk5 y (u6'.in q) (fun c => (fW y c).2.2 q)
        have new5 : ∀ y, hget h' y = none -> hget A y = none /\ y ≠ j5 /\ ¬ Sw y := fun y c => ⟨s2.none' c, fun e => (by rw [e, g5] at c; cases c), fun e => u6'.in e c⟩
        have fr5 : ∀ y, S5 y -> hget A y = none /\ y ≠ j5 /\ ¬ Sw y := fun y q => by
         rcases f5 y q with c | c | c
         ·exact fW y c
         ·exact new5 y (f9 y c)
         ·exact new5 y (s24.none' c)
        have d5' : dR 57 WWord 17 M5 v5 (L0 ++ (ys.take (kk + 1)).flatMap (zS g.log (zF d.call) d)) S5 := by rw [htk, hte, <- List.append_assoc]; exact d5
        have sHR5 : Tk.Sub HR M5 := by rw [hHR]; exact Sub.cons_of g55 sA5
        have c535 : hcel M5 j5 3 = some (.int .i64 d.phase) := qH g55 rfl
        simp only [wk, seval, sHR5, c535, p1]
        try simp (disch := omega) only [wk, seval, qI]
        exact ⟨ys.length - (kk + 1), by omega, _, .refl _, kk + 1, v5, S5, by simp, sA5, g55, u65, d5', fr5, by omega, rfl⟩
      ·simp only [wk, seval, wLive, c53, p1, decide_false, Sub.refl]
       by_cases p2 : d.phase = 2
       ·cases bb with
        | true =>
         simp only [wk, seval, c53, p2, decide_true]
         try simp (disch := omega) only [wk, seval, qI]
         exact ⟨ys.length - (kk + 1), by omega, _, .refl _, kk + 1, v', S', by simp, s2, g5, u6', skip (by unfold zS; rw [if_neg (fun c => p1 c.1), if_neg (fun c => by rw [hP] at hbb; rw [<- hbb] at c; cases c.2)]), fW, by omega, rfl⟩
        | false =>
         simp only [wk, seval, c53, p2, decide_true]
         have zw := zWord_eq
         try simp only [str] at zw
         obtain ⟨gw, ow, sw, hSw⟩ := id u6'
         obtain ⟨b9, o9, hx9, e9⟩ := ls_at (enc := eI) (sz := 1) (fun _ => rfl) ow.rd hk2
         have ngw : hget gw j5 = none := Classical.byContradiction fun c => fw5 j5 ((hSw j5).2 c) rfl
         obtain ⟨HR, hHR⟩ : ∃ HR, HR = (j5, blk (qE d va vb) 50) :: gw := ⟨_, rfl⟩
         have sHR : Tk.Sub HR h' := by rw [hHR]; exact Sub.cons_of g5 sw
         have sgH : Tk.Sub gw HR := by rw [hHR]; exact Sub.cons ngw (Sub.refl _)
         have e9' : hcel HR b9 o9 = some (.int .i64 hh) := by rw [hhh]; exact zT sgH (qW e9 0 rfl)
         have gH5 : hget HR j5 = some (blk (qE d va vb) 50) := by rw [hHR]; exact qL _ _ _
         have cH0 : hcel HR j5 0 = some (.int .i64 d.stamp) := qH gH5 rfl
         have c51 : hcel h' j5 1 = some (.int .i64 d.try_) := qH g5 rfl
         obtain ⟨LW, hLW⟩ : ∃ LW, LW = promW d hh := ⟨_, rfl⟩
         have ww : WWord h' (qK LW (.slice none 0 0) (.slice none 0 0) (.slice none 0 0)) LW (fun _ => False) := WWord.slots (by rw [show LW.slots = [] by rw [hLW]; rfl]; exact dL.nil) (by rw [hLW]; rfl) (by rw [hLW]; rfl)
         have hte : zS g.log (zF d.call) d hh = [LW] := by unfold zS; rw [if_neg (fun c => p1 c.1), if_pos ⟨p2, by rw [hP] at hbb; exact hbb.symm⟩, hLW]
         have oneW := WWord.one ww
         refine qY HR sHR ?_
         simp only [wk, seval, wLive, hx9, e9', cH0, c51, sHR, str, zw, zV]
         have ee : qK ⟨4, 9, hh, d.stamp, d.try_, zWord.what, zWord.yes, zWord.slots, zWord.pairs, zWord.code, zWord.vals, zWord.call⟩ (.slice none 0 0) (.slice none 0 0) (.slice none 0 0) = qK LW (.slice none 0 0) (.slice none 0 0) (.slice none 0 0) := by rw [hLW]; rfl
         rw [ee]
         refine qA (o := blk (qK LW (.slice none 0 0) (.slice none 0 0) (.slice none 0 0)) 57) fun j84 h84 => ?_
         obtain ⟨B4, hB4⟩ : ∃ B4, B4 = (j84, blk (qK LW (.slice none 0 0) (.slice none 0 0) (.slice none 0 0)) 57) :: h' := ⟨_, rfl⟩
         have g84 : hget B4 j84 = some (blk (qK LW (.slice none 0 0) (.slice none 0 0) (.slice none 0 0)) 57) := by rw [hB4]; exact qL _ _ _
         have sB4 : Tk.Sub h' B4 := by rw [hB4]; exact Sub.cons h84 (Sub.refl _)
         have sHR4 := sHR.trans sB4
         rw [<- hB4]
         simp only [wk, seval, zV, sHR4]
         have hll : (L0 ++ (ys.take kk).flatMap (zS g.log (zF d.call) d)).length <= 4194304 := by
          have a1 := flatMap_le (tendLive zF g) 3 (fun x => tendLive_le zF g x) (g.lives.take i)
          have a2 := flatMap_le (zS g.log (zF d.call) d) 1 (fun a => tendAt_le _ _ _ a) (ys.take kk)
          rw [<- hL0] at a1
          rw [List.length_take] at a1 a2
          rw [List.length_append]; omega
         refine app_dR (T := fun _ => False) (cs := qK LW (.slice none 0 0) (.slice none 0 0) (.slice none 0 0)) WWord.fr WWord.in (fun q => WWord.one q) (fun q => WWord.len q) tWords iWord (dW.frame WWord.fr fun y q => Sub.eq sB4 (dW.in WWord.in q)) (rdS_1 g84 rfl) (WWord.fr _ _ _ _ _ (fun y q => q.elim) ww)
          (fun y q _ => q) (by omega) (by omega) fun M5 v5 S5 d5 k5 f5 => ?_
         have kk5 : ∀ y, hget h' y ≠ none -> ¬ S' y -> hget M5 y = hget h' y := fun y a1 a2 => by rw [k5 y (by rw [Sub.eq sB4 a1]; exact a1) a2, Sub.eq sB4 a1]
         have sA5 : Tk.Sub A M5 := fun y o e => by rw [kk5 y (by rw [s2 _ _ e]; simp) (fun q => by rw [(fW y q).1] at e; cases e)]; exact s2 _ _ e
         have g55 : hget M5 j5 = some (blk (qE d va vb) 50) := (kk5 j5 (by rw [g5]; simp) (fun q => (fW j5 q).2.1 rfl)).trans g5
         have u65 := u6'.frame (M' := M5) fun y q => kk5 y (u6'.in q) (fun c => (fW y c).2.2 q)
         have new5 : ∀ y, hget h' y = none -> hget A y = none /\ y ≠ j5 /\ ¬ Sw y := fun y c => ⟨s2.none' c, fun e => (by rw [e, g5] at c; cases c), fun e => u6'.in e c⟩
         have fr5 : ∀ y, S5 y -> hget A y = none /\ y ≠ j5 /\ ¬ Sw y := fun y q => by
          rcases f5 y q with c | c | c
          ·exact fW y c
          ·exact c.elim
          ·exact new5 y (sB4.none' c)
         have d5' : dR 57 WWord 17 M5 v5 (L0 ++ (ys.take (kk + 1)).flatMap (zS g.log (zF d.call) d)) S5 := by rw [htk, hte, <- List.append_assoc]; exact d5
         have sHR5 : Tk.Sub HR M5 := by rw [hHR]; exact Sub.cons_of g55 fun y o e => by rw [kk5 y (by rw [sw _ _ e]; simp) (fun q => (fW y q).2.2 ((hSw y).2 (by rw [e]; simp)))]; exact sw _ _ e
         try simp only [wk, seval, sHR5]
         try simp (disch := omega) only [wk, seval, qI]
         exact ⟨ys.length - (kk + 1), by omega, _, .refl _, kk + 1, v5, S5, by simp, sA5, g55, u65, d5', fr5, by omega, rfl⟩
       ·simp only [wk, seval, c53, p2, decide_false]
        try simp (disch := omega) only [wk, seval, qI]
        exact ⟨ys.length - (kk + 1), by omega, _, .refl _, kk + 1, v', S', by simp, s2, g5, u6', skip (by unfold zS; rw [if_neg (fun c => p1 c.1), if_neg (fun c => p2 c.1)]), fW, by omega, rfl⟩
    ·have hk3 : kk = ys.length := by omega
     rw [hk3, List.take_length] at dW
     simp (disch := omega) only [wk, seval, qI]
     refine ⟨g.lives.length - (i + 1), by omega, _, .refl _, i + 1, v', S', by simp, s2, ?_, fun x q => (fW x q).1, by omega, rfl⟩
     rw [flatMap_more _ hi2, <- hL0, <- hd]
     unfold tendLive
     rw [<- hys]; exact dW
   ·have hi3 : i = g.lives.length := by omega
    rw [hi3, List.take_length] at dS
    try simp only [wk, seval]
    exact .of (k M' v S (sA.trans s) dS fun x q => sA.none' (fS x q))
end Go.Proofs.YtgbapakcfmgahaaGreatDoor
end

section
namespace Go.Tk
open Go
def cnWd (E : DWord) : Nat := 14 + E.slots.length + 2 * E.pairs.length + E.vals.length
def mkWd (tx : Int -> List UInt8) (q : Int) (E : DWord) : DWord :=
 ⟨q, q + 1, q + 2, q + 3, q + 4, q + 5, decide ((q + 6).tmod 3 = 0), mks (q + 7) E.slots.length, mkp (q + 7 + (E.slots.length : Int)) E.pairs.length,
  q + 7 + (E.slots.length : Int) + 2 * (E.pairs.length : Int), mks (q + 7 + (E.slots.length : Int) + 2 * (E.pairs.length : Int) + 1) E.vals.length,
  ⟨q + 7 + (E.slots.length : Int) + 2 * (E.pairs.length : Int) + 1 + (E.vals.length : Int), q + 7 + (E.slots.length : Int) + 2 * (E.pairs.length : Int) + 1 + (E.vals.length : Int) + 1, q + 7 + (E.slots.length : Int) + 2 * (E.pairs.length : Int) + 1 + (E.vals.length : Int) + 2,
   tx (q + 7 + (E.slots.length : Int) + 2 * (E.pairs.length : Int) + 1 + (E.vals.length : Int) + 3), q + 7 + (E.slots.length : Int) + 2 * (E.pairs.length : Int) + 1 + (E.vals.length : Int) + 4, q + 7 + (E.slots.length : Int) + 2 * (E.pairs.length : Int) + 1 + (E.vals.length : Int) + 5⟩⟩
end Go.Tk
end

section
set_option maxRecDepth 20000
attribute [local irreducible] Go.Tk.vc Go.Tk.vops Go.Tk.vdr Go.Tk.vop Go.Tk.vfl Go.Tk.HCalls
namespace Go.Proofs.YtgbapakcfmgahaaGreatDoor
open Go Go.Tk
theorem rise_len : ∀ {l : List Int} {a : Int}, l.Pairwise (· < ·) -> (∀ s ∈ l, a <= s /\ s <= 7) -> a <= 8 -> (l.length : Int) <= 8 - a := by
 intro l
 induction l with
 | nil => intro a _ _ h; simp; omega
 | cons x l ih =>
  intro a hp hb ha
  obtain ⟨h1, h2⟩ := List.pairwise_cons.1 hp
  have hx := hb x List.mem_cons_self
  have := ih (a := x + 1) h2 (fun s hs => ⟨h1 s hs, (hb s (List.mem_cons_of_mem _ hs)).2⟩) (by omega)
  rw [List.length_cons]; omega
theorem slotsF_len (c : DCall) : (zF c).length <= 8 := by
 unfold zF
 split
 ·rename_i h
  have x : SlotsO c h.choose := h.choose_spec
  obtain ⟨l, hl⟩ : ∃ l, l = h.choose := ⟨_, rfl⟩
  rw [<- hl] at x ⊢
  have hb := fun s (hs : s ∈ l) => slots_in x hs
  rcases x with ⟨_, rfl⟩ | ⟨_, hp, _⟩
  ·simp
  ·have := rise_len hp hb (by omega)
   omega
 ·simp
def smallW (w : DWord) : Prop := w.slots.length <= 8 /\ w.pairs = [] /\ w.vals = []
theorem tendAt_small {log : List DRecord} {c : DCall} {x : DLive} {a : Int} : ∀ w ∈ zS log (zF c) x a, smallW w := by
 intro w hw
 have hl := slotsF_len c
 unfold zS at hw
 split at hw
 ·rw [List.mem_singleton] at hw
  subst hw
  refine ⟨?_, rfl, rfl⟩
  unfold lockW
  show (if x.call.kind = 2 then zF c else _ : List Int).length <= 8
  split
  ·exact hl
  ·exact Nat.le_trans (List.length_filter_le _ _) hl
 ·split at hw
  ·rw [List.mem_singleton] at hw
   subst hw
   exact ⟨by simp [promW], rfl, rfl⟩
  ·cases hw
theorem gateTend_small {d : DGate} : ∀ w ∈ gateTend zF d, smallW w := by
 intro w hw
 unfold gateTend at hw
 split at hw
 ·obtain ⟨x, _, hx⟩ := List.mem_flatMap.1 hw
  unfold tendLive at hx
  obtain ⟨a, _, ha⟩ := List.mem_flatMap.1 hx
  exact tendAt_small w ha
 ·cases hw
theorem gateTend_len (d : DGate) : (gateTend zF d).length <= 9 := by
 unfold gateTend
 split
 ·rename_i h
  have h3 : d.lives.length <= 3 := h.1.2.2.2.1.1
  have := flatMap_le (tendLive zF d) 3 (fun x => tendLive_le zF d x) d.lives
  omega
 ·simp
theorem small_wLen {w : DWord} (h : smallW w) : wLen w := by
 obtain ⟨h1, h2, h3⟩ := h
 unfold wLen
 rw [h2, h3]
 exact ⟨by omega, by simp, by simp⟩
theorem small_sum : ∀ {l : List DWord}, (∀ w ∈ l, smallW w) -> sumL cnWd l <= 22 * l.length := by
 intro l
 induction l with
 | nil => intro _; simp [sumL]
 | cons w l ih =>
  intro h
  obtain ⟨h1, h2, h3⟩ := h w List.mem_cons_self
  have := ih fun x hx => h x (List.mem_cons_of_mem _ hx)
  have : cnWd w <= 22 := by unfold cnWd; rw [h2, h3]; simp; omega
  simp only [sumL, List.length_cons]; omega
theorem gateTend_sum (d : DGate) : sumL cnWd (gateTend zF d) <= 198 := by
 have := small_sum (l := gateTend zF d) gateTend_small
 have := gateTend_len d
 omega
end Go.Proofs.YtgbapakcfmgahaaGreatDoor
end

section
set_option maxRecDepth 20000
attribute [local irreducible] Go.Tk.vc Go.Tk.vops Go.Tk.vdr Go.Tk.vop Go.Tk.vfl Go.Tk.HCalls
namespace Go.Proofs.YtgbapakcfmgahaaGreatDoor
open Go Go.Tk
set_option maxHeartbeats 1000000 in
theorem lockWord_c {h : H} {lg : Value} {log : List DRecord} {x : DLive} {a b : Value} {ho : Int} (gl : Gl h) (gm : MxL h) (r : rRs h (rRecord h) 11 lg log) (hl : log.length <= 1048576) (ht : x.call.text.length <= 4194304) (hk : x.call.kind = 1 ∨ x.call.kind = 2) {R : Ending -> H -> Prop}
  (k : ∀ M' w S sl, SlotsO x.call sl -> Tk.Sub h M' -> dL 3 eI 1 M' w (lockW log sl x ho).slots S -> (∀ y, S y -> hget h y = none) -> R (.returned (.agg (qK (lockW log sl x ho) w (.slice none 0 0) (.slice none 0 0)).toArray)) M') :
  HCalls Tryz.prog 30 #[lg, .agg (qE x a b).toArray, .int .i64 ho] h R := by
 refine qB (args := [lg, .agg (qE x a b).toArray, .int .i64 ho]) Tryz.func30 ir30 ?_
 have zw := zWord_eq
 try simp only [str] at zw
 have zm := zMap_eq
 simp only [wk, seval, wLive, str, zw, zm]
 refine qA (o := blk (qE x a b) 50) fun j4 h4 => ?_
 simp only [wk, seval, wLive]
 refine qA (o := blk [.int .i64 ho] 3) fun j5 h5 => ?_
 simp only [wk, seval, zV]
 refine qA (o := blk (qK zWord (.slice none 0 0) (.slice none 0 0) (.slice none 0 0)) 57) fun j6 h6 => ?_
 obtain ⟨A, hA⟩ : ∃ A, A = (j6, blk (qK zWord (.slice none 0 0) (.slice none 0 0) (.slice none 0 0)) 57) :: (j5, blk [.int .i64 ho] 3) :: (j4, blk (qE x a b) 50) :: h := ⟨_, rfl⟩
 have sA : Tk.Sub h A := by rw [hA]; exact Sub.cons h6 (Sub.cons h5 (Sub.cons h4 (Sub.refl _)))
 have n6 := h6
 have n5 := h5
 simp only [subs] at n6 n5
 have g6 : hget A j6 = some (blk (qK zWord (.slice none 0 0) (.slice none 0 0) (.slice none 0 0)) 57) := by rw [hA]; exact qL _ _ _
 have g5 : hget A j5 = some (blk [.int .i64 ho] 3) := by rw [hA, zN _ _ _ (fun e => n6.1 e.symm)]; exact qL _ _ _
 have g4 : hget A j4 = some (blk (qE x a b) 50) := by rw [hA, zN _ _ _ (fun e => n6.2.1 e.symm), zN _ _ _ (fun e => n5.1 e.symm)]; exact qL _ _ _
 have h6h : hget h j6 = none := n6.2.2
 have c50 : hcel A j5 0 = some (.int .i64 ho) := qH g5 rfl
 have c40 : hcel A j4 0 = some (.int .i64 x.stamp) := qH g4 rfl
 have c41 : hcel A j4 1 = some (.int .i64 x.try_) := qH g4 rfl
 rw [<- hA]
 simp only [wk, seval, wLive, c50, c40, c41, str, zw, zV]
 obtain ⟨W0, hW0⟩ : ∃ W0 : DWord, W0 = ⟨1, 9, ho, x.stamp, x.try_, 0, false, [], [], 0, [], ⟨0, 0, 0, [], 0, 0⟩⟩ := ⟨_, rfl⟩
 refine qA (o := blk (qK zWord (.slice none 0 0) (.slice none 0 0) (.slice none 0 0)) 57) fun j7 h7 => ?_
 obtain ⟨B2, hB2⟩ : ∃ B2, B2 = (j7, blk (qK zWord (.slice none 0 0) (.slice none 0 0) (.slice none 0 0)) 57) :: A := ⟨_, rfl⟩
 have g7' : hget B2 j7 = some (blk (qK zWord (.slice none 0 0) (.slice none 0 0) (.slice none 0 0)) 57) := by rw [hB2]; exact qL _ _ _
 have sB2 : Tk.Sub A B2 := by rw [hB2]; exact Sub.cons h7 (Sub.refl _)
 rw [<- hB2]
 obtain ⟨N, wN, gN, fN⟩ := bx_st (vs := qK W0 (.slice none 0 0) (.slice none 0 0) (.slice none 0 0)) (cs' := qK W0 (.slice none 0 0) (.slice none 0 0) (.slice none 0 0)) (o := 0) g7' (by show 0 + 17 <= 17; omega) rfl
 have nA7 : hget A j7 = none := h7
 have sN : Tk.Sub A N := fun y o e => by rw [fN y (fun c => by rw [c, h7] at e; cases e)]; exact sB2 _ _ e
 have c46 : hcel N j4 6 = some (.int .i64 x.call.kind) := qH (sN _ _ g4) rfl
 rw [hW0] at wN
 simp only [wk, seval, zV, zWord] at wN ⊢
 rw [<- hW0] at wN ⊢
 have one0 : (qK W0 (.slice none 0 0) (.slice none 0 0) (.slice none 0 0)).all vone = true := rfl
 simp only [wk, seval, wN, one0, zV, wLive, c46]
 rcases hk with dk | dk
 ·have dto : True := trivial
  obtain ⟨N1, wN1, g7, fN1⟩ := bx_st (vs := [.int .i64 1]) (cs' := qK { W0 with what := 1 } (.slice none 0 0) (.slice none 0 0) (.slice none 0 0)) (o := 5) gN (by show 5 + 1 <= 17; omega) rfl
  have sAN1 : Tk.Sub A N1 := fun y o e => by rw [fN1 y (fun c => by rw [c, h7] at e; cases e)]; exact sN _ _ e
  have c42 : hcel N1 j4 2 = some (.int .i64 x.version) := qH (sAN1 _ _ g4) rfl
  simp only [wk, seval, dk, decide_true, zV, wN1, wLive, c42]
  refine mapBy_c ((r.subH (sA.trans sAN1)).relImp fun _ _ q => rRecord.sub (sA.trans sAN1) q) hl fun M1 mo S1 s1 u1 f1 => ?_
  obtain ⟨m, hm⟩ : ∃ m, m = mapAtL log x.version := ⟨_, rfl⟩
  have hmok : mapP m := hm ▸ mapAtL_ok _ _
  rw [<- hm] at u1 ⊢
  have on1 := u1.one
  have av1 := wMap.2.2.2.2.2.1 m mo on1
  simp only [wk, seval, wMap, zm]
  refine qA (o := blk (cMap zMap (.slice none 0 0)) 102) fun j8 h8 => ?_
  obtain ⟨B1, hB1⟩ : ∃ B1, B1 = (j8, blk (cMap zMap (.slice none 0 0)) 102) :: M1 := ⟨_, rfl⟩
  have g8' : hget B1 j8 = some (blk (cMap zMap (.slice none 0 0)) 102) := by rw [hB1]; exact qL _ _ _
  have sB1 : Tk.Sub M1 B1 := by rw [hB1]; exact Sub.cons h8 (Sub.refl _)
  rw [<- hB1]
  obtain ⟨N2, wN2, gN2, fN2⟩ := bx_st (vs := cMap m mo) (cs' := cMap m mo) (o := 0) g8' (by show 0 + 2 <= 2; omega) rfl
  have sN2 : Tk.Sub M1 N2 := fun y o e => by rw [fN2 y (fun c => by rw [c, h8] at e; cases e)]; exact sB1 _ _ e
  have s12 : Tk.Sub N1 N2 := s1.trans sN2
  have sAN2 : Tk.Sub A N2 := sAN1.trans s12
  have c4call : qQ N2 j4 4 6 = some (zL x.call) := by
   have := sAN2 _ _ g4
   unfold qQ; rw [this]; rfl
  simp only [wk, seval, wMap, wLive, av1, wN2, c4call]
  refine implSlots_c (gl.sub (sA.trans sAN2)) (gm.sub (sA.trans sAN2)) ht fun t8 G8 sl O8 o8 d8 => ?_
  obtain ⟨M2, hM2⟩ : ∃ M2, M2 = G8 ++ N2 := ⟨_, rfl⟩
  have s2 : Tk.Sub N2 M2 := by rw [hM2]; exact Sub.right d8
  have r8 : rInts M2 t8 sl := (o8.rd).sub (by rw [hM2]; exact Sub.left _ _)
  rw [<- hM2]
  simp only [wk, seval]
  have hsl8 : sl.length <= 8 := by
   have := slotsF_len x.call
   rw [slotsF_eq O8] at this; exact this
  refine lockSplit_c r8 (s2 _ _ gN2) (u1.rd.sub (sN2.trans s2)) ((sAN2.trans s2) _ _ g5) (fun s hs => slots_in O8 hs) hmok.2.1 (by omega) fun M3 ws v9 Sw s3 dw8 fw8 => ?_
  have g7M : hget M3 j7 = some (blk (qK { W0 with what := 1 } (.slice none 0 0) (.slice none 0 0) (.slice none 0 0)) 57) := s3 _ _ (s2 _ _ (s12 _ _ g7))
  obtain ⟨W, hWW⟩ : ∃ W : DWord, W = { W0 with what := 1, slots := sl.filter fun s => decide (m.owners.getD s.toNat 0 = ho) } := ⟨_, rfl⟩
  have on8 := dw8.one
  have vc8 := vc1 on8
  obtain ⟨Nf, wNf, gNf, fNf⟩ := bx_st (vs := [ws]) (cs' := qK W ws (.slice none 0 0) (.slice none 0 0)) (o := 7) g7M (by show 7 + 1 <= 17; omega) (by rw [hWW]; rfl)
  have sAM3 : Tk.Sub A M3 := sAN2.trans (s2.trans s3)
  have sf : Tk.Sub A Nf := fun y o e => by rw [fNf y (fun c => by rw [c, nA7] at e; cases e)]; exact sAM3 _ _ e
  have fw : ∀ y, Sw y -> hget A y = none := fun y q => (sAN2.trans s2).none' (fw8 y q)
  have dw : dL 3 eI 1 Nf ws W.slots Sw := by
   rw [hWW]
   exact dw8.frame fun y q => fNf y (fun c => by have := fw8 y q; rw [c, s2 _ _ (s12 _ _ g7)] at this; cases this)
  simp only [wk, seval, zV, on8, vc8, wNf]
  have hW : lockW log sl x ho = W := by
   rw [hWW, hW0, hm]; unfold lockW
   rw [if_neg (by omega), if_neg (by omega)]
  obtain ⟨N6, w6, gN6, f6⟩ := bx_st (vs := qK W ws (.slice none 0 0) (.slice none 0 0)) (cs' := qK W ws (.slice none 0 0) (.slice none 0 0)) (o := 0) (sf _ _ g6) (by show 0 + 17 <= 17; omega) rfl
  have r7 : qQ Nf j7 0 17 = some (qK W ws (.slice none 0 0) (.slice none 0 0)) := qU gNf rfl
  have r6 : qQ N6 j6 0 17 = some (qK W ws (.slice none 0 0) (.slice none 0 0)) := qU gN6 rfl
  have one7 : (qK W ws (.slice none 0 0) (.slice none 0 0)).all vone = true := by simp only [qK, List.all_cons, List.all_nil, dw.one]; rfl
  simp only [wk, seval, zV, r7, one7, w6]
  try simp only [wk, seval, zV, r6]
  rw [<- hW] at dw ⊢
  refine .of (k N6 ws Sw sl O8 (fun y o e => ?_) (dw.frame fun y q => f6 y (fun c => by have := fw y q; rw [c, g6] at this; cases this)) fun y q => sA.none' (fw y q))
  rw [f6 y (fun c => by rw [c, h6h] at e; cases e)]; exact sf _ _ (sA _ _ e)
 ·have c49 : hcel N j4 9 = some (.int .i64 x.call.to) := qH (sN _ _ g4) rfl
  have c50N : hcel N j5 0 = some (.int .i64 ho) := qH (sN _ _ g5) rfl
  simp only [wk, seval, dk, wLive, c49, c50N]
  by_cases dt : x.call.to = ho
  ·obtain ⟨wf, hwf⟩ : ∃ wf : Int, wf = 3 := ⟨_, rfl⟩
   obtain ⟨N1, wN1, g7, fN1⟩ := bx_st (vs := [.int .i64 wf]) (cs' := qK { W0 with what := wf } (.slice none 0 0) (.slice none 0 0) (.slice none 0 0)) (o := 5) gN (by show 5 + 1 <= 17; omega) rfl
   have sAN1 : Tk.Sub A N1 := fun y o e => by rw [fN1 y (fun c => by rw [c, h7] at e; cases e)]; exact sN _ _ e
   rw [hwf] at wN1
   simp only [wk, seval, dt, decide_true, zV, wN1]
   have dto : ho = x.call.to := dt.symm
   have c4call : qQ N1 j4 4 6 = some (zL x.call) := by
    have := sAN1 _ _ g4
    unfold qQ; rw [this]; rfl
   try simp only [wk, seval, wLive, c4call]
   refine implSlots_c (gl.sub (sA.trans sAN1)) (gm.sub (sA.trans sAN1)) ht fun ws G8 sl O8 o8 d8 => ?_
   obtain ⟨M2, hM2⟩ : ∃ M2, M2 = G8 ++ N1 := ⟨_, rfl⟩
   have s2 : Tk.Sub N1 M2 := by rw [hM2]; exact Sub.right d8
   obtain ⟨Sw, hSw⟩ : ∃ Sw : Nat -> Prop, Sw = fun y => hget G8 y ≠ none := ⟨_, rfl⟩
   have dw8 : dL 3 eI 1 M2 ws sl Sw := by rw [hSw]; exact dL.of (h := N1) o8 (by rw [hM2]; exact Sub.left _ _)
   have fw8 : ∀ y, Sw y -> hget N1 y = none := fun y q => by rw [hSw] at q; exact d8 y q
   rw [<- hM2]
   obtain ⟨W, hWW⟩ : ∃ W : DWord, W = { W0 with what := wf, slots := sl } := ⟨_, rfl⟩
   have on8 := dw8.one
   have vc8 := vc1 on8
   obtain ⟨Nf, wNf, gNf, fNf⟩ := bx_st (vs := [ws]) (cs' := qK W ws (.slice none 0 0) (.slice none 0 0)) (o := 7) (s2 _ _ g7) (by show 7 + 1 <= 17; omega) (by rw [hWW]; rfl)
   have sf : Tk.Sub A Nf := fun y o e => by rw [fNf y (fun c => by rw [c, nA7] at e; cases e)]; exact s2 _ _ (sAN1 _ _ e)
   have fw : ∀ y, Sw y -> hget A y = none := fun y q => sAN1.none' (fw8 y q)
   have dw : dL 3 eI 1 Nf ws W.slots Sw := by rw [hWW]; exact dw8.frame fun y q => fNf y (fun c => by have := fw8 y q; rw [c, g7] at this; cases this)
   simp only [wk, seval, zV, on8, vc8, wNf]
   have hW : lockW log sl x ho = W := by rw [hWW, hW0, hwf]; unfold lockW; simp only [dk, if_true, dto, if_false]
   obtain ⟨N6, w6, gN6, f6⟩ := bx_st (vs := qK W ws (.slice none 0 0) (.slice none 0 0)) (cs' := qK W ws (.slice none 0 0) (.slice none 0 0)) (o := 0) (sf _ _ g6) (by show 0 + 17 <= 17; omega) rfl
   have r7 : qQ Nf j7 0 17 = some (qK W ws (.slice none 0 0) (.slice none 0 0)) := qU gNf rfl
   have r6 : qQ N6 j6 0 17 = some (qK W ws (.slice none 0 0) (.slice none 0 0)) := qU gN6 rfl
   have one7 : (qK W ws (.slice none 0 0) (.slice none 0 0)).all vone = true := by simp only [qK, List.all_cons, List.all_nil, dw.one]; rfl
   simp only [wk, seval, zV, r7, one7, w6]
   try simp only [wk, seval, zV, r6]
   rw [<- hW] at dw ⊢
   refine .of (k N6 ws Sw sl O8 (fun y o e => ?_) (dw.frame fun y q => f6 y (fun c => by have := fw y q; rw [c, g6] at this; cases this)) fun y q => sA.none' (fw y q))
   rw [f6 y (fun c => by rw [c, h6h] at e; cases e)]; exact sf _ _ (sA _ _ e)
  ·obtain ⟨wf, hwf⟩ : ∃ wf : Int, wf = 2 := ⟨_, rfl⟩
   obtain ⟨N1, wN1, g7, fN1⟩ := bx_st (vs := [.int .i64 wf]) (cs' := qK { W0 with what := wf } (.slice none 0 0) (.slice none 0 0) (.slice none 0 0)) (o := 5) gN (by show 5 + 1 <= 17; omega) rfl
   have sAN1 : Tk.Sub A N1 := fun y o e => by rw [fN1 y (fun c => by rw [c, h7] at e; cases e)]; exact sN _ _ e
   rw [hwf] at wN1
   simp only [wk, seval, dt, decide_false, zV, wN1]
   have dto : ¬ ho = x.call.to := fun c => dt c.symm
   have c4call : qQ N1 j4 4 6 = some (zL x.call) := by
    have := sAN1 _ _ g4
    unfold qQ; rw [this]; rfl
   try simp only [wk, seval, wLive, c4call]
   refine implSlots_c (gl.sub (sA.trans sAN1)) (gm.sub (sA.trans sAN1)) ht fun ws G8 sl O8 o8 d8 => ?_
   obtain ⟨M2, hM2⟩ : ∃ M2, M2 = G8 ++ N1 := ⟨_, rfl⟩
   have s2 : Tk.Sub N1 M2 := by rw [hM2]; exact Sub.right d8
   obtain ⟨Sw, hSw⟩ : ∃ Sw : Nat -> Prop, Sw = fun y => hget G8 y ≠ none := ⟨_, rfl⟩
   have dw8 : dL 3 eI 1 M2 ws sl Sw := by rw [hSw]; exact dL.of (h := N1) o8 (by rw [hM2]; exact Sub.left _ _)
   have fw8 : ∀ y, Sw y -> hget N1 y = none := fun y q => by rw [hSw] at q; exact d8 y q
   rw [<- hM2]
   obtain ⟨W, hWW⟩ : ∃ W : DWord, W = { W0 with what := wf, slots := sl } := ⟨_, rfl⟩
   have on8 := dw8.one
   have vc8 := vc1 on8
   obtain ⟨Nf, wNf, gNf, fNf⟩ := bx_st (vs := [ws]) (cs' := qK W ws (.slice none 0 0) (.slice none 0 0)) (o := 7) (s2 _ _ g7) (by show 7 + 1 <= 17; omega) (by rw [hWW]; rfl)
   have sf : Tk.Sub A Nf := fun y o e => by rw [fNf y (fun c => by rw [c, nA7] at e; cases e)]; exact s2 _ _ (sAN1 _ _ e)
   have fw : ∀ y, Sw y -> hget A y = none := fun y q => sAN1.none' (fw8 y q)
   have dw : dL 3 eI 1 Nf ws W.slots Sw := by rw [hWW]; exact dw8.frame fun y q => fNf y (fun c => by have := fw8 y q; rw [c, g7] at this; cases this)
   simp only [wk, seval, zV, on8, vc8, wNf]
   have hW : lockW log sl x ho = W := by rw [hWW, hW0, hwf]; unfold lockW; simp only [dk, if_true, dto, if_false]
   obtain ⟨N6, w6, gN6, f6⟩ := bx_st (vs := qK W ws (.slice none 0 0) (.slice none 0 0)) (cs' := qK W ws (.slice none 0 0) (.slice none 0 0)) (o := 0) (sf _ _ g6) (by show 0 + 17 <= 17; omega) rfl
   have r7 : qQ Nf j7 0 17 = some (qK W ws (.slice none 0 0) (.slice none 0 0)) := qU gNf rfl
   have r6 : qQ N6 j6 0 17 = some (qK W ws (.slice none 0 0) (.slice none 0 0)) := qU gN6 rfl
   have one7 : (qK W ws (.slice none 0 0) (.slice none 0 0)).all vone = true := by simp only [qK, List.all_cons, List.all_nil, dw.one]; rfl
   simp only [wk, seval, zV, r7, one7, w6]
   try simp only [wk, seval, zV, r6]
   rw [<- hW] at dw ⊢
   refine .of (k N6 ws Sw sl O8 (fun y o e => ?_) (dw.frame fun y q => f6 y (fun c => by have := fw y q; rw [c, g6] at this; cases this)) fun y q => sA.none' (fw y q))
   rw [f6 y (fun c => by rw [c, h6h] at e; cases e)]; exact sf _ _ (sA _ _ e)
end Go.Proofs.YtgbapakcfmgahaaGreatDoor
end

section
set_option maxRecDepth 20000
attribute [local irreducible] Go.Tk.vc Go.Tk.vops Go.Tk.vdr Go.Tk.vop Go.Tk.vfl Go.Tk.HCalls
namespace Go.Proofs.YtgbapakcfmgahaaGreatDoor
open Go Go.Tk
theorem cWay_ones (l : List DWay) : (fl cWay l).all vone = true := by induction l <;> simp_all [fl, cWay, vone]
theorem cloneInt_d {h : H} {v : Value} {l : List Int} (r : rLs h eI 1 v l) (hl : l.length <= 1048576) {R : Ending -> H -> Prop} (k : ∀ M' v' S, Tk.Sub h M' -> dL 3 eI 1 M' v' l S -> (∀ x, S x -> hget h x = none) -> R (.returned v') M') :
  HCalls Tryz.prog 134 #[v] h R := clone_l Tryz.func134 ir134 eI_one tInts iInt r (by omega) (by omega) fun v' g o d => k _ v' _ (Sub.right d) (dL.of (h := h) o (Sub.left _ _)) fun x q => d x q
theorem clonePair_d {h : H} {v : Value} {l : List (Int × Int)} (r : rLs h eP 2 v l) (hl : l.length <= 1048576) {R : Ending -> H -> Prop} (k : ∀ M' v' S, Tk.Sub h M' -> dL 132 eP 2 M' v' l S -> (∀ x, S x -> hget h x = none) -> R (.returned v') M') :
  HCalls Tryz.prog 135 #[v] h R := clone_l Tryz.func135 ir135 eP_one tPairs iPair r (by omega) (by omega) fun v' g o d => k _ v' _ (Sub.right d) (dL.of (h := h) o (Sub.left _ _)) fun x q => d x q
theorem cloneWay_d {h : H} {v : Value} {l : List DWay} (r : rLs h cWay 2 v l) (hl : l.length <= 1048576) {R : Ending -> H -> Prop} (k : ∀ M' v' S, Tk.Sub h M' -> dL 108 cWay 2 M' v' l S -> (∀ x, S x -> hget h x = none) -> R (.returned v') M') :
  HCalls Tryz.prog 108 #[v] h R := clone_l Tryz.func108 ir108 cWay_ones tWays iWay r (by omega) (by omega) fun v' g o d => k _ v' _ (Sub.right d) (dL.of (h := h) o (Sub.left _ _)) fun x q => d x q
theorem rRecord_len {h : H} {cs : List Value} {d : DRecord} (r : rRecord h cs d) : cs.length = 11 := by obtain ⟨v, p, rfl, r1, r2⟩ := r; rfl
theorem rRecord_one {h : H} {cs : List Value} {d : DRecord} (r : rRecord h cs d) : cs.all vone = true := by
 obtain ⟨v, p, rfl, r1, r2⟩ := r
 simp only [qC, List.all_cons, List.all_nil, r1.one, r2.one]; rfl
theorem rTold_len {h : H} {cs : List Value} {d : DTold} (r : rTold h cs d) : cs.length = 2 := by obtain ⟨p, rfl, r1⟩ := r; rfl
theorem rTold_one {h : H} {cs : List Value} {d : DTold} (r : rTold h cs d) : cs.all vone = true := by
 obtain ⟨p, rfl, r1⟩ := r
 simp only [zA, List.all_cons, List.all_nil, r1.one]; rfl
theorem rLive_len {h : H} {cs : List Value} {d : DLive} (r : rLive h cs d) : cs.length = 12 := by obtain ⟨v, p, rfl, r1, r2⟩ := r; rfl
theorem rLive_one {h : H} {cs : List Value} {d : DLive} (r : rLive h cs d) : cs.all vone = true := by
 obtain ⟨v, p, rfl, r1, r2⟩ := r
 simp only [qE, List.all_cons, List.all_nil, r1.one, r2.one]; rfl
set_option maxHeartbeats 1000000 in
theorem recordClone_c {h : H} {cs : List Value} {d : DRecord} (r : rRecord h cs d) (hx : bRecord d) {R : Ending -> H -> Prop} (k : ∀ M' cs' S, Tk.Sub h M' -> WRecord M' cs' d S -> (∀ x, S x -> hget h x = none) -> cs'.length = 11 -> cs'.all vone = true -> R (.returned (.agg cs'.toArray)) M') :
  HCalls Tryz.prog 105 #[.agg cs.toArray] h R := by
 obtain ⟨v1, v2, rfl, r1, r2⟩ := r
 refine qB (args := [.agg (qC d v1 v2).toArray]) Tryz.func105 ir105 ?_
 have z1 := zRecord_eq
 try simp only [str] at z1
 simp only [wk, seval, wRecord, str, z1]
 refine qA (o := blk (qC d v1 v2) 97) fun j1 h1 => ?_
 simp only [wk, seval, wRecord, z1]
 refine qA (o := blk (qC zRecord (.slice none 0 0) (.slice none 0 0)) 97) fun j2 h2 => ?_
 have n2 := h2
 simp only [subs] at n2
 have ne12 : j1 ≠ j2 := fun e => n2.1 e.symm
 obtain ⟨N0, hN0⟩ : ∃ N0, N0 = (j2, blk (qC zRecord (.slice none 0 0) (.slice none 0 0)) 97) :: (j1, blk (qC d v1 v2) 97) :: h := ⟨_, rfl⟩
 have sN0 : Tk.Sub h N0 := by rw [hN0]; exact Sub.cons h2 (Sub.cons h1 (Sub.refl _))
 have g2_0 : hget N0 j2 = some (blk (qC zRecord (.slice none 0 0) (.slice none 0 0)) 97) := by rw [hN0]; exact qL _ _ _
 have g1_0 : hget N0 j1 = some (blk (qC d v1 v2) 97) := by rw [hN0, zN _ _ _ ne12]; exact qL _ _ _
 rw [<- hN0]
 have cl1 : hcel N0 j1 9 = some v1 := qH g1_0 rfl
 try simp only [wk, seval, wRecord, cl1]
 refine cloneInt_d (r1.sub sN0) (by have := hx.v; unfold lim at this; omega) fun M1 w1 S1 t1 u1 f1 => ?_
 have g1_1' := t1 _ _ g1_0
 have g2_1' := t1 _ _ g2_0
 obtain ⟨N1, hN1⟩ : ∃ N1, N1 = hupd M1 j1 (blk (qC d w1 v2) 97) := ⟨_, rfl⟩
 have wt1 : qT M1 j1 9 [w1] = some N1 := by
  rw [hN1]; exact zH g1_1' (by show 9 + 1 <= 11; omega)
 have on1 := u1.one
 have vcw1 := vc1 on1
 have g1_1 : hget N1 j1 = some (blk (qC d w1 v2) 97) := by rw [hN1]; exact qN g1_1'
 have g2_1 : hget N1 j2 = some (blk (qC zRecord (.slice none 0 0) (.slice none 0 0)) 97) := by rw [hN1, qG ne12.symm]; exact g2_1'
 have fr1 : ∀ x, x ≠ j1 -> hget N1 x = hget M1 x := fun x e => by rw [hN1, qG e]
 have sN1 : Tk.Sub h N1 := fun x o e => by
  rw [fr1 x (fun c => by subst c; rw [h1] at e; cases e)]; exact t1 _ _ (sN0 _ _ e)
 simp only [wk, seval, wRecord, wt1, on1, vcw1]
 have cl2 : hcel N1 j1 10 = some v2 := qH g1_1 rfl
 try simp only [wk, seval, wRecord, cl2]
 refine clonePair_d (r2.sub sN1) (by have := hx.p; unfold lim at this; omega) fun M2 w2 S2 t2 u2 f2 => ?_
 have g1_2' := t2 _ _ g1_1
 have g2_2' := t2 _ _ g2_1
 obtain ⟨N2, hN2⟩ : ∃ N2, N2 = hupd M2 j1 (blk (qC d w1 w2) 97) := ⟨_, rfl⟩
 have wt2 : qT M2 j1 10 [w2] = some N2 := by
  rw [hN2]; exact zH g1_2' (by show 10 + 1 <= 11; omega)
 have on2 := u2.one
 have vcw2 := vc1 on2
 have g1_2 : hget N2 j1 = some (blk (qC d w1 w2) 97) := by rw [hN2]; exact qN g1_2'
 have g2_2 : hget N2 j2 = some (blk (qC zRecord (.slice none 0 0) (.slice none 0 0)) 97) := by rw [hN2, qG ne12.symm]; exact g2_2'
 have fr2 : ∀ x, x ≠ j1 -> hget N2 x = hget M2 x := fun x e => by rw [hN2, qG e]
 have sN2 : Tk.Sub h N2 := fun x o e => by
  rw [fr2 x (fun c => by subst c; rw [h1] at e; cases e)]; exact t2 _ _ (sN1 _ _ e)
 simp only [wk, seval, wRecord, wt2, on2, vcw2]
 have rd3 : qQ N2 j1 0 11 = some (qC d w1 w2) := qU g1_2 rfl
 obtain ⟨Z3, hZ3⟩ : ∃ Z3, Z3 = hupd N2 j2 (blk (qC d w1 w2) 97) := ⟨_, rfl⟩
 have wtz : qT N2 j2 0 (qC d w1 w2) = some Z3 := by
  rw [hZ3]; exact zH g2_2 (by show 0 + 11 <= 11; omega)
 have hone : (qC d w1 w2).all vone = true := by simp only [qC, List.all_cons, List.all_nil, on1, on2]; rfl
 simp only [wk, seval, wRecord, rd3, wtz, hone]
 have rdz : qQ Z3 j2 0 11 = some (qC d w1 w2) := qU (by rw [hZ3]; exact qN g2_2) rfl
 try simp only [wk, seval, wRecord, rdz]
 have frz : ∀ x, x ≠ j2 -> hget Z3 x = hget N2 x := fun x e => by rw [hZ3, qG e]
 have ne1 : ∀ x, S1 x -> x ≠ j2 /\ x ≠ j1 := fun x q => ⟨fun e => (by have := f1 x q; rw [e, g2_0] at this; cases this), fun e => (by have := f1 x q; rw [e, g1_0] at this; cases this)⟩
 have ne2 : ∀ x, S2 x -> x ≠ j2 /\ x ≠ j1 := fun x q => ⟨fun e => (by have := f2 x q; rw [e, g2_1] at this; cases this), fun e => (by have := f2 x q; rw [e, g1_1] at this; cases this)⟩
 have e1_1 : ∀ x, S1 x -> hget N1 x = hget M1 x := fun x q => fr1 x (ne1 x q).2
 have e1_2 : ∀ x, S1 x -> hget N2 x = hget M1 x := fun x q => by rw [fr2 x (ne1 x q).2, Sub.eq t2 (by rw [e1_1 x q]; exact u1.in q), e1_1 x q]
 have e2_2 : ∀ x, S2 x -> hget N2 x = hget M2 x := fun x q => fr2 x (ne2 x q).2
 have d12 : ∀ x, S1 x -> ¬ S2 x := fun x q q2 => by
  have := f2 x q2
  rw [e1_1 x q] at this
  exact u1.in q this
 refine .of (k _ _ _ (fun x o e => by rw [frz x (fun c => by subst c; rw [n2.2] at e; cases e)]; exact sN2 x o e) ⟨w1, w2, S1, S2, rfl, (u1.frame fun x q => by rw [frz x (ne1 x q).1, e1_2 x q]), (u2.frame fun x q => by rw [frz x (ne2 x q).1, e2_2 x q]), d12, fun _ => Iff.rfl⟩ ?_ rfl hone)
 rintro x (q | q)
 ·exact sN0.none' (f1 x q)
 ·exact sN1.none' (f2 x q)
theorem toldClone_c {h : H} {cs : List Value} {d : DTold} (r : rTold h cs d) (hx : bTold d) {R : Ending -> H -> Prop} (k : ∀ M' cs' S, Tk.Sub h M' -> WTold M' cs' d S -> (∀ x, S x -> hget h x = none) -> cs'.length = 2 -> cs'.all vone = true -> R (.returned (.agg cs'.toArray)) M') :
  HCalls Tryz.prog 137 #[.agg cs.toArray] h R := by
 obtain ⟨v1, rfl, r1⟩ := r
 refine qB (args := [.agg (zA d v1).toArray]) Tryz.func137 ir137 ?_
 have z1 := zTold_eq
 simp only [wk, seval, wTold, z1]
 refine qA (o := blk (zA d v1) 54) fun j1 h1 => ?_
 simp only [wk, seval, wTold, z1]
 refine qA (o := blk (zA zTold (.slice none 0 0)) 54) fun j2 h2 => ?_
 have n2 := h2
 simp only [subs] at n2
 have ne12 : j1 ≠ j2 := fun e => n2.1 e.symm
 obtain ⟨N0, hN0⟩ : ∃ N0, N0 = (j2, blk (zA zTold (.slice none 0 0)) 54) :: (j1, blk (zA d v1) 54) :: h := ⟨_, rfl⟩
 have sN0 : Tk.Sub h N0 := by rw [hN0]; exact Sub.cons h2 (Sub.cons h1 (Sub.refl _))
 have g2_0 : hget N0 j2 = some (blk (zA zTold (.slice none 0 0)) 54) := by rw [hN0]; exact qL _ _ _
 have g1_0 : hget N0 j1 = some (blk (zA d v1) 54) := by rw [hN0, zN _ _ _ ne12]; exact qL _ _ _
 rw [<- hN0]
 have cl0 : hcel N0 j1 0 = some (.int .i64 d.house) := qH g1_0 rfl
 have cl1 : hcel N0 j1 1 = some v1 := qH g1_0 rfl
 simp only [wk, seval, wTold]
 refine qY _ (Sub.refl _) ?_
 simp only [wk, seval, wTold, cl0, cl1]
 refine clonePair_d (r1.sub sN0) (by have := hx; unfold bTold lim at this; omega) fun M1 w1 S1 t1 u1 f1 => ?_
 have on1 := u1.one
 have vcw1 := vc1 on1
 have one1 := wTold.2.2.2.2.2.1 d w1 on1
 have g2_1 := t1 _ _ g2_0
 obtain ⟨Z3, hZ3⟩ : ∃ Z3, Z3 = hupd M1 j2 (blk (zA d w1) 54) := ⟨_, rfl⟩
 have wtz : qT M1 j2 0 (zA d w1) = some Z3 := by
  rw [hZ3]; exact zH g2_1 (by show 0 + 2 <= 2; omega)
 have ee : zA ⟨d.house, zTold.pairs⟩ w1 = zA d w1 := rfl
 have rdz : qQ Z3 j2 0 2 = some (zA d w1) := qU (by rw [hZ3]; exact qN g2_1) rfl
 simp only [wk, seval, wTold, t1, on1, vcw1, one1, ee, wtz]
 try simp only [wk, seval, wTold, rdz]
 have nj : ∀ x, S1 x -> x ≠ j2 := fun x q e => by have := f1 x q; rw [e, g2_0] at this; cases this
 have frz : ∀ x, x ≠ j2 -> hget Z3 x = hget M1 x := fun x e => by rw [hZ3, qG e]
 exact .of (k _ _ _ (fun x o e => by rw [frz x (fun c => by subst c; rw [n2.2] at e; cases e)]; exact t1 _ _ (sN0 _ _ e)) ⟨w1, rfl, u1.frame fun x q => frz x (nj x q)⟩ (fun x q => sN0.none' (f1 x q)) rfl one1)
theorem eachRecord_c {h : H} {v : Value} {l : List DRecord} (r : rRs h (rRecord h) 11 v l) (hl : l.length <= 1048576) (hb : ∀ d ∈ l, bRecord d) {R : Ending -> H -> Prop} (k : ∀ M' v' S, Tk.Sub h M' -> dR 97 WRecord 11 M' v' l S -> (∀ x, S x -> hget h x = none) -> R (.returned v') M') :
  HCalls Tryz.prog 104 #[v, .func (.func 105) #[] #[]] h R :=
 each_c (rel := rRecord) (W := WRecord) (bd := bRecord) (z := [.int .i64 0, .int .i64 0, .int .i64 0, .int .i64 0, .int .i64 0, str [], .int .i64 0, .int .i64 0, .int .i64 0, .slice none 0 0, .slice none 0 0]) Tryz.func104 ir104 rfl tRecords iRecord WRecord.fr WRecord.in (fun s _ _ q => rRecord.sub s q) (fun q => rRecord_len q) (fun q => rRecord_one q) (fun q => rRecord_one (WRecord.rd _ _ _ _ q)) (by kernel_rfl)
  (fun h cs d q b R k => recordClone_c q b k) r hl hb (by omega) k
theorem eachTold_c {h : H} {v : Value} {l : List DTold} (r : rRs h (rTold h) 2 v l) (hl : l.length <= 1048576) (hb : ∀ d ∈ l, bTold d) {R : Ending -> H -> Prop} (k : ∀ M' v' S, Tk.Sub h M' -> dR 54 WTold 2 M' v' l S -> (∀ x, S x -> hget h x = none) -> R (.returned v') M') :
  HCalls Tryz.prog 136 #[v, .func (.func 137) #[] #[]] h R :=
 each_c (rel := rTold) (W := WTold) (bd := bTold) (z := [.int .i64 0, .slice none 0 0]) Tryz.func136 ir136 rfl tTolds iTold WTold.fr WTold.in (fun s _ _ q => rTold.sub s q) (fun q => rTold_len q) (fun q => rTold_one q) (fun q => rTold_one (WTold.rd _ _ _ _ q)) (by kernel_rfl)
  (fun h cs d q b R k => toldClone_c q b k) r hl hb (by omega) k
set_option maxHeartbeats 1000000 in
theorem liveClone_c {h : H} {cs : List Value} {d : DLive} (r : rLive h cs d) (hx : bLive d) {R : Ending -> H -> Prop} (k : ∀ M' cs' S, Tk.Sub h M' -> WLive M' cs' d S -> (∀ x, S x -> hget h x = none) -> cs'.length = 12 -> cs'.all vone = true -> R (.returned (.agg cs'.toArray)) M') :
  HCalls Tryz.prog 107 #[.agg cs.toArray] h R := by
 obtain ⟨v1, v2, rfl, r1, r2⟩ := r
 refine qB (args := [.agg (qE d v1 v2).toArray]) Tryz.func107 ir107 ?_
 have z1 := zLive_eq
 try simp only [str] at z1
 simp only [wk, seval, wLive, str, z1]
 refine qA (o := blk (qE d v1 v2) 50) fun j1 h1 => ?_
 simp only [wk, seval, wLive, z1]
 refine qA (o := blk (qE zLive (.slice none 0 0) (.slice none 0 0)) 50) fun j2 h2 => ?_
 have n2 := h2
 simp only [subs] at n2
 have ne12 : j1 ≠ j2 := fun e => n2.1 e.symm
 obtain ⟨N0, hN0⟩ : ∃ N0, N0 = (j2, blk (qE zLive (.slice none 0 0) (.slice none 0 0)) 50) :: (j1, blk (qE d v1 v2) 50) :: h := ⟨_, rfl⟩
 have sN0 : Tk.Sub h N0 := by rw [hN0]; exact Sub.cons h2 (Sub.cons h1 (Sub.refl _))
 have g2_0 : hget N0 j2 = some (blk (qE zLive (.slice none 0 0) (.slice none 0 0)) 50) := by rw [hN0]; exact qL _ _ _
 have g1_0 : hget N0 j1 = some (blk (qE d v1 v2) 50) := by rw [hN0, zN _ _ _ ne12]; exact qL _ _ _
 rw [<- hN0]
 have cl1 : hcel N0 j1 10 = some v1 := qH g1_0 rfl
 try simp only [wk, seval, wLive, cl1]
 refine cloneInt_d (r1.sub sN0) (by have := hx.l; unfold lim at this; omega) fun M1 w1 S1 t1 u1 f1 => ?_
 have g1_1' := t1 _ _ g1_0
 have g2_1' := t1 _ _ g2_0
 obtain ⟨N1, hN1⟩ : ∃ N1, N1 = hupd M1 j1 (blk (qE d w1 v2) 50) := ⟨_, rfl⟩
 have wt1 : qT M1 j1 10 [w1] = some N1 := by
  rw [hN1]; exact zH g1_1' (by show 10 + 1 <= 12; omega)
 have on1 := u1.one
 have vcw1 := vc1 on1
 have g1_1 : hget N1 j1 = some (blk (qE d w1 v2) 50) := by rw [hN1]; exact qN g1_1'
 have g2_1 : hget N1 j2 = some (blk (qE zLive (.slice none 0 0) (.slice none 0 0)) 50) := by rw [hN1, qG ne12.symm]; exact g2_1'
 have fr1 : ∀ x, x ≠ j1 -> hget N1 x = hget M1 x := fun x e => by rw [hN1, qG e]
 have sN1 : Tk.Sub h N1 := fun x o e => by
  rw [fr1 x (fun c => by subst c; rw [h1] at e; cases e)]; exact t1 _ _ (sN0 _ _ e)
 simp only [wk, seval, wLive, wt1, on1, vcw1]
 have cl2 : hcel N1 j1 11 = some v2 := qH g1_1 rfl
 try simp only [wk, seval, wLive, cl2]
 refine eachTold_c (r2.sub sN1 fun _ _ q => rTold.sub sN1 q) (by have := hx.t; unfold lim at this; omega) hx.ts fun M2 w2 S2 t2 u2 f2 => ?_
 have g1_2' := t2 _ _ g1_1
 have g2_2' := t2 _ _ g2_1
 obtain ⟨N2, hN2⟩ : ∃ N2, N2 = hupd M2 j1 (blk (qE d w1 w2) 50) := ⟨_, rfl⟩
 have wt2 : qT M2 j1 11 [w2] = some N2 := by
  rw [hN2]; exact zH g1_2' (by show 11 + 1 <= 12; omega)
 have on2 := u2.one
 have vcw2 := vc1 on2
 have g1_2 : hget N2 j1 = some (blk (qE d w1 w2) 50) := by rw [hN2]; exact qN g1_2'
 have g2_2 : hget N2 j2 = some (blk (qE zLive (.slice none 0 0) (.slice none 0 0)) 50) := by rw [hN2, qG ne12.symm]; exact g2_2'
 have fr2 : ∀ x, x ≠ j1 -> hget N2 x = hget M2 x := fun x e => by rw [hN2, qG e]
 have sN2 : Tk.Sub h N2 := fun x o e => by
  rw [fr2 x (fun c => by subst c; rw [h1] at e; cases e)]; exact t2 _ _ (sN1 _ _ e)
 simp only [wk, seval, wLive, wt2, on2, vcw2]
 have rd3 : qQ N2 j1 0 12 = some (qE d w1 w2) := qU g1_2 rfl
 obtain ⟨Z3, hZ3⟩ : ∃ Z3, Z3 = hupd N2 j2 (blk (qE d w1 w2) 50) := ⟨_, rfl⟩
 have wtz : qT N2 j2 0 (qE d w1 w2) = some Z3 := by
  rw [hZ3]; exact zH g2_2 (by show 0 + 12 <= 12; omega)
 have hone : (qE d w1 w2).all vone = true := by simp only [qE, List.all_cons, List.all_nil, on1, on2]; rfl
 simp only [wk, seval, wLive, rd3, wtz, hone]
 have rdz : qQ Z3 j2 0 12 = some (qE d w1 w2) := qU (by rw [hZ3]; exact qN g2_2) rfl
 try simp only [wk, seval, wLive, rdz]
 have frz : ∀ x, x ≠ j2 -> hget Z3 x = hget N2 x := fun x e => by rw [hZ3, qG e]
 have ne1 : ∀ x, S1 x -> x ≠ j2 /\ x ≠ j1 := fun x q => ⟨fun e => (by have := f1 x q; rw [e, g2_0] at this; cases this), fun e => (by have := f1 x q; rw [e, g1_0] at this; cases this)⟩
 have ne2 : ∀ x, S2 x -> x ≠ j2 /\ x ≠ j1 := fun x q => ⟨fun e => (by have := f2 x q; rw [e, g2_1] at this; cases this), fun e => (by have := f2 x q; rw [e, g1_1] at this; cases this)⟩
 have e1_1 : ∀ x, S1 x -> hget N1 x = hget M1 x := fun x q => fr1 x (ne1 x q).2
 have e1_2 : ∀ x, S1 x -> hget N2 x = hget M1 x := fun x q => by rw [fr2 x (ne1 x q).2, Sub.eq t2 (by rw [e1_1 x q]; exact u1.in q), e1_1 x q]
 have e2_2 : ∀ x, S2 x -> hget N2 x = hget M2 x := fun x q => fr2 x (ne2 x q).2
 have d12 : ∀ x, S1 x -> ¬ S2 x := fun x q q2 => by
  have := f2 x q2
  rw [e1_1 x q] at this
  exact u1.in q this
 refine .of (k _ _ _ (fun x o e => by rw [frz x (fun c => by subst c; rw [n2.2] at e; cases e)]; exact sN2 x o e) ⟨w1, w2, S1, S2, rfl, (u1.frame fun x q => by rw [frz x (ne1 x q).1, e1_2 x q]), (u2.frame WTold.fr fun x q => by rw [frz x (ne2 x q).1, e2_2 x q]), d12, fun _ => Iff.rfl⟩ ?_ rfl hone)
 rintro x (q | q)
 ·exact sN0.none' (f1 x q)
 ·exact sN1.none' (f2 x q)
theorem eachLive_c {h : H} {v : Value} {l : List DLive} (r : rRs h (rLive h) 12 v l) (hl : l.length <= 1048576) (hb : ∀ d ∈ l, bLive d) {R : Ending -> H -> Prop} (k : ∀ M' v' S, Tk.Sub h M' -> dR 50 WLive 12 M' v' l S -> (∀ x, S x -> hget h x = none) -> R (.returned v') M') :
  HCalls Tryz.prog 106 #[v, .func (.func 107) #[] #[]] h R :=
 each_c (rel := rLive) (W := WLive) (bd := bLive) (z := [.int .i64 0, .int .i64 0, .int .i64 0, .int .i64 0, .int .i64 0, .int .i64 0, .int .i64 0, str [], .int .i64 0, .int .i64 0, .slice none 0 0, .slice none 0 0]) Tryz.func106 ir106 rfl tLives iLive WLive.fr WLive.in (fun s _ _ q => rLive.sub s q) (fun q => rLive_len q) (fun q => rLive_one q) (fun q => rLive_one (WLive.rd _ _ _ _ q)) (by kernel_rfl)
  (fun h cs d q b R k => liveClone_c q b k) r hl hb (by omega) k
set_option maxHeartbeats 1000000 in
theorem implGateClone_c {h : H} {d : DGate} {v1 v2 v3 : Value} (r : sGate h d v1 v2 v3) (hx : bGate d) {R : Ending -> H -> Prop} (k : ∀ M' a b c S, Tk.Sub h M' -> WGate M' d a b c S -> (∀ x, S x -> hget h x = none) -> R (.returned (.agg (cGate d a b c).toArray)) M') :
  HCalls Tryz.prog 62 #[.agg (cGate d v1 v2 v3).toArray] h R := by
 obtain ⟨r1, r2, r3⟩ := r
 refine qB (args := [.agg (cGate d v1 v2 v3).toArray]) Tryz.func62 ir62 ?_
 have z1 := zGate_eq
 try simp only [str] at z1
 simp only [wk, seval, zB, str, z1]
 refine qA (o := blk (cGate d v1 v2 v3) 34) fun j1 h1 => ?_
 simp only [wk, seval, zB, z1]
 refine qA (o := blk (cGate zGate (.slice none 0 0) (.slice none 0 0) (.slice none 0 0)) 34) fun j2 h2 => ?_
 have n2 := h2
 simp only [subs] at n2
 have ne12 : j1 ≠ j2 := fun e => n2.1 e.symm
 obtain ⟨N0, hN0⟩ : ∃ N0, N0 = (j2, blk (cGate zGate (.slice none 0 0) (.slice none 0 0) (.slice none 0 0)) 34) :: (j1, blk (cGate d v1 v2 v3) 34) :: h := ⟨_, rfl⟩
 have sN0 : Tk.Sub h N0 := by rw [hN0]; exact Sub.cons h2 (Sub.cons h1 (Sub.refl _))
 have g2_0 : hget N0 j2 = some (blk (cGate zGate (.slice none 0 0) (.slice none 0 0) (.slice none 0 0)) 34) := by rw [hN0]; exact qL _ _ _
 have g1_0 : hget N0 j1 = some (blk (cGate d v1 v2 v3) 34) := by rw [hN0, zN _ _ _ ne12]; exact qL _ _ _
 rw [<- hN0]
 have cl1 : hcel N0 j1 3 = some v1 := qH g1_0 rfl
 try simp only [wk, seval, zB, cl1]
 refine eachRecord_c (r1.sub sN0 fun _ _ q => rRecord.sub sN0 q) (by have := hx.log; unfold lim at this; omega) hx.recs fun M1 w1 S1 t1 u1 f1 => ?_
 have g1_1' := t1 _ _ g1_0
 have g2_1' := t1 _ _ g2_0
 obtain ⟨N1, hN1⟩ : ∃ N1, N1 = hupd M1 j1 (blk (cGate d w1 v2 v3) 34) := ⟨_, rfl⟩
 have wt1 : qT M1 j1 3 [w1] = some N1 := by
  rw [hN1]; exact zH g1_1' (by show 3 + 1 <= 6; omega)
 have on1 := u1.one
 have vcw1 := vc1 on1
 have g1_1 : hget N1 j1 = some (blk (cGate d w1 v2 v3) 34) := by rw [hN1]; exact qN g1_1'
 have g2_1 : hget N1 j2 = some (blk (cGate zGate (.slice none 0 0) (.slice none 0 0) (.slice none 0 0)) 34) := by rw [hN1, qG ne12.symm]; exact g2_1'
 have fr1 : ∀ x, x ≠ j1 -> hget N1 x = hget M1 x := fun x e => by rw [hN1, qG e]
 have sN1 : Tk.Sub h N1 := fun x o e => by
  rw [fr1 x (fun c => by subst c; rw [h1] at e; cases e)]; exact t1 _ _ (sN0 _ _ e)
 simp only [wk, seval, zB, wt1, on1, vcw1]
 have cl2 : hcel N1 j1 4 = some v2 := qH g1_1 rfl
 try simp only [wk, seval, zB, cl2]
 refine eachLive_c (r2.sub sN1 fun _ _ q => rLive.sub sN1 q) (by have := hx.lives; unfold lim at this; omega) hx.live fun M2 w2 S2 t2 u2 f2 => ?_
 have g1_2' := t2 _ _ g1_1
 have g2_2' := t2 _ _ g2_1
 obtain ⟨N2, hN2⟩ : ∃ N2, N2 = hupd M2 j1 (blk (cGate d w1 w2 v3) 34) := ⟨_, rfl⟩
 have wt2 : qT M2 j1 4 [w2] = some N2 := by
  rw [hN2]; exact zH g1_2' (by show 4 + 1 <= 6; omega)
 have on2 := u2.one
 have vcw2 := vc1 on2
 have g1_2 : hget N2 j1 = some (blk (cGate d w1 w2 v3) 34) := by rw [hN2]; exact qN g1_2'
 have g2_2 : hget N2 j2 = some (blk (cGate zGate (.slice none 0 0) (.slice none 0 0) (.slice none 0 0)) 34) := by rw [hN2, qG ne12.symm]; exact g2_2'
 have fr2 : ∀ x, x ≠ j1 -> hget N2 x = hget M2 x := fun x e => by rw [hN2, qG e]
 have sN2 : Tk.Sub h N2 := fun x o e => by
  rw [fr2 x (fun c => by subst c; rw [h1] at e; cases e)]; exact t2 _ _ (sN1 _ _ e)
 simp only [wk, seval, zB, wt2, on2, vcw2]
 have cl3 : hcel N2 j1 5 = some v3 := qH g1_2 rfl
 try simp only [wk, seval, zB, cl3]
 refine cloneWay_d (r3.sub sN2) (by have := hx.ways; unfold lim at this; omega) fun M3 w3 S3 t3 u3 f3 => ?_
 have g1_3' := t3 _ _ g1_2
 have g2_3' := t3 _ _ g2_2
 obtain ⟨N3, hN3⟩ : ∃ N3, N3 = hupd M3 j1 (blk (cGate d w1 w2 w3) 34) := ⟨_, rfl⟩
 have wt3 : qT M3 j1 5 [w3] = some N3 := by
  rw [hN3]; exact zH g1_3' (by show 5 + 1 <= 6; omega)
 have on3 := u3.one
 have vcw3 := vc1 on3
 have g1_3 : hget N3 j1 = some (blk (cGate d w1 w2 w3) 34) := by rw [hN3]; exact qN g1_3'
 have g2_3 : hget N3 j2 = some (blk (cGate zGate (.slice none 0 0) (.slice none 0 0) (.slice none 0 0)) 34) := by rw [hN3, qG ne12.symm]; exact g2_3'
 have fr3 : ∀ x, x ≠ j1 -> hget N3 x = hget M3 x := fun x e => by rw [hN3, qG e]
 have sN3 : Tk.Sub h N3 := fun x o e => by
  rw [fr3 x (fun c => by subst c; rw [h1] at e; cases e)]; exact t3 _ _ (sN2 _ _ e)
 simp only [wk, seval, zB, wt3, on3, vcw3]
 have rd3 : qQ N3 j1 0 6 = some (cGate d w1 w2 w3) := qU g1_3 rfl
 obtain ⟨Z3, hZ3⟩ : ∃ Z3, Z3 = hupd N3 j2 (blk (cGate d w1 w2 w3) 34) := ⟨_, rfl⟩
 have wtz : qT N3 j2 0 (cGate d w1 w2 w3) = some Z3 := by
  rw [hZ3]; exact zH g2_3 (by show 0 + 6 <= 6; omega)
 have hone : (cGate d w1 w2 w3).all vone = true := by simp only [cGate, List.all_cons, List.all_nil, on1, on2, on3]; rfl
 simp only [wk, seval, zB, rd3, wtz, hone]
 have rdz : qQ Z3 j2 0 6 = some (cGate d w1 w2 w3) := qU (by rw [hZ3]; exact qN g2_3) rfl
 try simp only [wk, seval, zB, rdz]
 have frz : ∀ x, x ≠ j2 -> hget Z3 x = hget N3 x := fun x e => by rw [hZ3, qG e]
 have ne1 : ∀ x, S1 x -> x ≠ j2 /\ x ≠ j1 := fun x q => ⟨fun e => (by have := f1 x q; rw [e, g2_0] at this; cases this), fun e => (by have := f1 x q; rw [e, g1_0] at this; cases this)⟩
 have ne2 : ∀ x, S2 x -> x ≠ j2 /\ x ≠ j1 := fun x q => ⟨fun e => (by have := f2 x q; rw [e, g2_1] at this; cases this), fun e => (by have := f2 x q; rw [e, g1_1] at this; cases this)⟩
 have ne3 : ∀ x, S3 x -> x ≠ j2 /\ x ≠ j1 := fun x q => ⟨fun e => (by have := f3 x q; rw [e, g2_2] at this; cases this), fun e => (by have := f3 x q; rw [e, g1_2] at this; cases this)⟩
 have e1_1 : ∀ x, S1 x -> hget N1 x = hget M1 x := fun x q => fr1 x (ne1 x q).2
 have e1_2 : ∀ x, S1 x -> hget N2 x = hget M1 x := fun x q => by rw [fr2 x (ne1 x q).2, Sub.eq t2 (by rw [e1_1 x q]; exact u1.in WRecord.in q), e1_1 x q]
 have e1_3 : ∀ x, S1 x -> hget N3 x = hget M1 x := fun x q => by rw [fr3 x (ne1 x q).2, Sub.eq t3 (by rw [e1_2 x q]; exact u1.in WRecord.in q), e1_2 x q]
 have e2_2 : ∀ x, S2 x -> hget N2 x = hget M2 x := fun x q => fr2 x (ne2 x q).2
 have e2_3 : ∀ x, S2 x -> hget N3 x = hget M2 x := fun x q => by rw [fr3 x (ne2 x q).2, Sub.eq t3 (by rw [e2_2 x q]; exact u2.in WLive.in q), e2_2 x q]
 have e3_3 : ∀ x, S3 x -> hget N3 x = hget M3 x := fun x q => fr3 x (ne3 x q).2
 have d12 : ∀ x, S1 x -> ¬ S2 x := fun x q q2 => by
  have := f2 x q2
  rw [e1_1 x q] at this
  exact u1.in WRecord.in q this
 have d13 : ∀ x, S1 x -> ¬ S3 x := fun x q q2 => by
  have := f3 x q2
  rw [e1_2 x q] at this
  exact u1.in WRecord.in q this
 have d23 : ∀ x, S2 x -> ¬ S3 x := fun x q q2 => by
  have := f3 x q2
  rw [e2_2 x q] at this
  exact u2.in WLive.in q this
 refine .of (k _ _ _ _ _ (fun x o e => by rw [frz x (fun c => by subst c; rw [n2.2] at e; cases e)]; exact sN3 x o e) ⟨S1, S2, S3, (u1.frame WRecord.fr fun x q => by rw [frz x (ne1 x q).1, e1_3 x q]), (u2.frame WLive.fr fun x q => by rw [frz x (ne2 x q).1, e2_3 x q]), (u3.frame fun x q => by rw [frz x (ne3 x q).1, e3_3 x q]), d12, d13, d23, fun _ => Iff.rfl⟩ ?_)
 rintro x (q | q | q)
 ·exact sN0.none' (f1 x q)
 ·exact sN1.none' (f2 x q)
 ·exact sN2.none' (f3 x q)
end Go.Proofs.YtgbapakcfmgahaaGreatDoor
end

section
set_option maxRecDepth 20000
attribute [local irreducible] Go.Tk.vc Go.Tk.vops Go.Tk.vdr Go.Tk.vop Go.Tk.vfl Go.Tk.HCalls
namespace Go.Tk
open Go
section
variable {P : Program} {kt it : TypeId}
theorem SH_part2 {E : Value -> H -> Prop} {h : H} (h2 : P.underlying it = some (.int .i64)) (a : Int × Int) {Q : Value -> H -> Prop} : SH P (part it #[.int .i64 a.1, .int .i64 a.2] 0) Q E h = Q (.int .i64 a.1) h /\ SH P (part it #[.int .i64 a.1, .int .i64 a.2] 1) Q E h = Q (.int .i64 a.2) h :=
 ⟨SH_part h2 rfl rfl, SH_part h2 rfl rfl⟩
theorem SH_eq2 (h1 : P.underlying kt = some (.array 2 it)) (h2 : P.underlying it = some (.int .i64)) {by_ : Nat} (hi : InfoIs P it 1 by_) (a b : Int × Int) {Q : Bool -> H -> Prop} {E : Value -> H -> Prop} {h : H} : SH P (Op.equal kt (eTwo a) (eTwo b)) Q E h = Q (decide (a = b)) h := by
 obtain ⟨i, z, hi, hz, hs, rfl, hl⟩ := hi
 show SH P (Op.equalIn (9998 + 1 + 1) kt (eTwo a) (eTwo b)) Q E h = _
 unfold eTwo
 rw [Op.equalIn]
 simp only [qD, qO h1, SH_sizeOf hi, hs, Std.Legacy.Range.forIn_eq_forIn_range', Std.Legacy.Range.size, Nat.sub_zero, Nat.add_sub_cancel, Nat.div_one, List.range', List.forIn_cons, List.forIn_nil, Nat.zero_mul, Nat.mul_one, Nat.zero_add, (SH_part2 h2 _).1, (SH_part2 h2 _).2, SH_eqIB h2, SH_ite, qR]
 by_cases c1 : a.1 = b.1
 ·by_cases c2 : a.2 = b.2
  ·have e : a = b := Prod.ext c1 c2
   simp [e, qR, qD]
  ·have e : ¬ a = b := fun e => c2 (by rw [e])
   simp [c1, c2, e, qR, qD]
 ·have e : ¬ a = b := fun e => c1 (by rw [e])
  simp [c1, e, qR, qD]
theorem SH_checkI {b : Bool} {n : Nat} {v : Value} (h2 : P.underlying it = some (.int .i64)) {Q : Unit -> H -> Prop} {E : Value -> H -> Prop} {h : H} : SH P (Instr.checkKey b (n + 1) it v) Q E h = Q () h := by
 rw [Instr.checkKey]
 simp only [qD, qO h2]
 cases v <;> rfl
theorem keyTwo (h1 : P.underlying kt = some (.array 2 it)) (h2 : P.underlying it = some (.int .i64)) {by_ : Nat} (hi : InfoIs P it 1 by_) : KeyT P kt eTwo where
 check := fun a b => by
  intro Q E h'
  obtain ⟨i, z, hi, hz, hs, rfl, hl⟩ := hi
  rw [show (10000 : Nat) = 9998 + 1 + 1 from rfl]
  unfold eTwo
  rw [Instr.checkKey]
  simp only [qD, qO h1, SH_sizeOf hi, hs, Std.Legacy.Range.forIn_eq_forIn_range', Std.Legacy.Range.size, Nat.sub_zero, Nat.add_sub_cancel, Nat.div_one, List.range', List.forIn_cons, List.forIn_nil, Nat.zero_mul, Nat.mul_one, Nat.zero_add, (SH_part2 h2 _).1, (SH_part2 h2 _).2, SH_checkI h2, qR]
 find := fun k es m hm => by
  intro Q E h'
  have hn : es ≠ [] -> Instr.findNow (.array 2 it) (eTwo k) es 0 = none := by
   intro h
   cases es with
   | nil => exact absurd rfl h
   | cons e es => rfl
  simp only [Instr.findKey, qD, qO h1]
  cases es with
  | nil =>
   cases m with
   | nil => rfl
   | cons => cases hm
  | cons e es =>
   rw [hn (by simp)]
   exact findAsk (fun a b {Q E h} => SH_eq2 h1 h2 hi a b) k (e :: es) m 0 hm
 bits := fun a => by simp [eTwo, Instr.sameBits]
theorem raw_build2 {t ty it : TypeId} {by_ : Nat} {ρ : Operand -> Value} {h : H} {K : Value -> H -> Prop} {X : List PanicEntry -> H -> Prop} {x y : Operand} {a b : Int} (h1 : P.underlying t = some (.array 2 it)) (hz : ∃ i, P.info? t = some i /\ i.zero = some (.agg #[.int .i64 0, .int .i64 0])) (hi : InfoIs P it 1 by_)
  (hx : ρ x = .int .i64 a) (hy : ρ y = .int .i64 b) (k : K (.agg #[.int .i64 a, .int .i64 b]) h) : rawK P (.build t #[(0, x), (1, y)]) ty ρ h K X := by
 obtain ⟨i0, e1, e2⟩ := hz
 obtain ⟨i, z, hi, hz, hs, rfl, hl⟩ := hi
 unfold rawK
 simp only [execOp, mkO, wrap_v, Instr.build, qD, SH_zeroValue e1 e2, qO h1, SH_sizeOf hi, hs]
 have hf : Instr.fill (fun i => some (i * 1, 1)) (Value.agg #[Value.int IntKind.i64 0, Value.int IntKind.i64 0]).cells (Array.map (fun z : Nat × Operand => (z.fst, ρ z.snd)) #[(0, x), (1, y)]).toList = some #[.int .i64 a, .int .i64 b] := by
  simp [Instr.fill, hx, hy, Value.cells]
 rw [hf]
 exact k
end
def waysM (m : List ((Int × Int) × Value)) (l : List DWay) : Prop := ∀ a s, mget m (a, s) = if hasWay l a s = true then some (.int .i64 1) else none
theorem waysM_nil : waysM [] [] := fun a s => rfl
theorem waysM_more {m : List ((Int × Int) × Value)} {l : List DWay} {i : Nat} (h : i < l.length) (w : waysM m (l.take i)) : waysM (mput m (l[i].house, l[i].stamp) (.int .i64 1)) (l.take (i + 1)) := fun a s => by
 have e : hasWay (l.take (i + 1)) a s = (hasWay (l.take i) a s || (decide (l[i].house = a) && decide (l[i].stamp = s))) := by
  unfold hasWay
  rw [List.take_succ_eq_append_getElem h, List.any_append]; simp
 rw [mget_put, w a s, e]
 by_cases c : (l[i].house, l[i].stamp) = (a, s)
 ·rw [if_pos c]
  simp only [Prod.mk.injEq] at c
  simp [c.1, c.2]
 ·rw [if_neg c]
  have : (decide (l[i].house = a) && decide (l[i].stamp = s)) = false := by
   simp only [Prod.mk.injEq] at c
   simpa using c
  rw [this, Bool.or_false]
end Go.Tk
end

section
set_option maxRecDepth 20000
attribute [local irreducible] Go.Tk.vc Go.Tk.vops Go.Tk.vdr Go.Tk.vop Go.Tk.vfl Go.Tk.HCalls
namespace Go.Proofs.YtgbapakcfmgahaaGreatDoor
open Go Go.Tk
theorem tTwoI : Tryz.prog.underlying 118 = some (.array 2 3) := by kernel_rfl
theorem uIntI : Tryz.prog.underlying 3 = some (.int .i64) := by kernel_rfl
theorem zTwoI : ∃ i, Tryz.prog.info? 118 = some i /\ i.zero = some (.agg #[.int .i64 0, .int .i64 0]) := by
 obtain ⟨i, hi⟩ := Option.isSome_iff_exists.1 (show (Tryz.prog.info? 118).isSome = true by kernel_rfl)
 have : (Tryz.prog.info? 118).bind (·.zero) = some (.agg #[.int .i64 0, .int .i64 0]) := by kernel_rfl
 rw [hi] at this
 exact ⟨i, hi, this⟩
theorem zIntI : ∃ i, Tryz.prog.info? 3 = some i /\ i.zero = some (.int .i64 0) := iInt0
theorem tMapTwo : Tryz.prog.underlying 65 = some (.map 118 3) := by kernel_rfl
theorem keyTwoI : KeyT Tryz.prog 118 eTwo := keyTwo tTwoI uIntI iInt
def cDesk (g : DGate) (a b c : Value) (rr : Nat) (sf : Value) : List Value := [.bool g.up, .int .i64 g.life, .int .i64 g.next, a, b, c, .map (some rr), sf]
def sendF (jo : Nat) : Value := .func (.func 25) #[] #[.pointer (some ⟨jo, 0, none⟩)]
theorem housesTo_c {h : H} {jd rr : Nat} {g : DGate} {a b c sf : Value} {es : Array MapEntry} {cl : Nat} {m : List ((Int × Int) × Value)} {s : Int} (gd : hget h jd = some (blk (cDesk g a b c rr sf) 67)) (gr : hget h rr = some (.map es cl)) (hm : mapO eTwo es m) (hw : waysM m g.ways)
  {R : Ending -> H -> Prop} (k : ∀ M' v S, Tk.Sub h M' -> dL 3 eI 1 M' v (waysTo g.ways s) S -> (∀ x, S x -> hget h x = none) -> R (.returned v) M') :
  HCalls Tryz.prog 26 #[.pointer (some ⟨jd, 0, none⟩), .int .i64 s] h R := by
 refine qB (args := [.pointer (some ⟨jd, 0, none⟩), .int .i64 s]) Tryz.func26 ir26 ?_
 obtain ⟨i0, hi0, hz0⟩ := zIntI
 simp only [wk, seval]
 refine qS [7, 5] (fun n vs h' => ∃ (i : Nat) (v : Value) (G : H), vs = [.int .i64 i, v] /\ h' = G ++ h /\ Dj G h /\ oLs 3 eI 1 v (waysN g.ways s i) G /\ i <= 3 /\ n = 3 - i) 3 rfl
  ⟨0, _, [], rfl, rfl, Dj.nil _, ows.nil _ _, by omega, rfl⟩ ?_
 rintro n f h' ⟨i, v, G, hv, rfl, dG, oG, hi, rfl⟩
 simp only [lm4] at hv
 have c6 : hcel (G ++ h) jd 6 = some (.map (some rr)) := qH (Sub.right dG _ _ gd) rfl
 simp only [wk, seval, wr, hv.1, hv.2]
 refine qF (fun q1 => ?_) fun q1 => ?_
 ·have hl := waysN_le g.ways s i
  have hmo := waysN_more g.ways s i
  simp only [wk, seval, c6]
  refine raw_build2 tTwoI zTwoI iInt (a := (i : Int)) (b := s) (by simp only [wk, seval]) (by simp only [wk, seval]) ?_
  simp only [wk, seval]
  refine raw_lookup keyTwoI tMapTwo hi0 hz0 (k := ((i : Int), s)) (by simp only [wk, seval]) (by simp only [wk, seval]; rfl) (Sub.right dG _ _ gr) hm rfl ?_
  rw [hw]
  obtain ⟨q, hq⟩ : ∃ q, q = hasWay g.ways i s := ⟨_, rfl⟩
  rw [<- hq] at hmo ⊢
  cases q with
  | true =>
   simp only [wk, seval, if_true, Option.getD_some]
   refine qA (o := blk (fl eI [(i : Int)]) 3) fun j7 hj7 => ?_
   simp only [wk, seval]
   refine app_leaf (g := G) (h := h) zC eI_one tInts iInt (Sub.cons hj7 (Sub.refl _)) dG oG (rI_lit (e := 3) [(i : Int)]) (by simp; omega) (by simp; omega) fun v2 g2 o2 d2 => ?_
   simp (disch := omega) only [wk, seval, qI]
   exact ⟨3 - (i + 1), by omega, _, .refl _, i + 1, v2, g2, by simp, rfl, d2, by rw [hmo]; exact o2, by omega, rfl⟩
  | false =>
   simp (disch := omega) only [wk, seval, qI, Bool.false_eq_true, if_false, Option.getD_none]
   exact ⟨3 - (i + 1), by omega, _, .refl _, i + 1, v, G, by simp, rfl, dG, by rw [hmo, if_neg (by simp), List.append_nil]; exact oG, by omega, rfl⟩
 ·have hi3 : i = 3 := by omega
  subst hi3
  try simp only [wk, seval]
  exact .of (k (G ++ h) v _ (Sub.right dG) (dL.of (h := h) oG (Sub.left _ _)) fun x q => dG x q)
theorem send_c {M : H} {jo : Nat} {v x1 x2 x3 : Value} {L : List DWord} {S T : Nat -> Prop} {w : DWord} (g : hget M jo = some (blk [v] 28)) (dW : dR 57 WWord 17 M v L S) (hj : ¬ S jo) (ww : WWord M (qK w x1 x2 x3) w T) (hT : ∀ x, T x -> ¬ S x /\ x ≠ jo) (hl : L.length <= 4194304)
  {R : Ending -> H -> Prop} (k : ∀ M' v' S', hget M' jo = some (blk [v'] 28) -> dR 57 WWord 17 M' v' (L ++ [w]) S' -> ¬ S' jo -> (∀ x, hget M x ≠ none -> ¬ S x -> x ≠ jo -> hget M' x = hget M x) -> (∀ x, S' x -> S x ∨ T x ∨ hget M x = none) -> R (.returned (.tuple #[])) M') :
  HCalls Tryz.prog 25 #[.agg (qK w x1 x2 x3).toArray, .pointer (some ⟨jo, 0, none⟩)] M R := by
 refine qB (args := [.agg (qK w x1 x2 x3).toArray, .pointer (some ⟨jo, 0, none⟩)]) Tryz.func25 ir25 ?_
 have zw := zWord_eq
 try simp only [str] at zw
 have oneW := WWord.one ww
 simp only [wk, seval, zV, str, zw]
 refine qA (o := blk (qK w x1 x2 x3) 57) fun j2 h2 => ?_
 obtain ⟨B, hB⟩ : ∃ B, B = (j2, blk (qK w x1 x2 x3) 57) :: M := ⟨_, rfl⟩
 have sB : Tk.Sub M B := by rw [hB]; exact Sub.cons h2 (Sub.refl _)
 have c1 : hcel B jo 0 = some v := qH (sB _ _ g) rfl
 have r2 : qQ B j2 0 17 = some (qK w x1 x2 x3) := qU (by rw [hB]; exact qL _ _ _) rfl
 rw [<- hB]
 simp only [wk, seval, zV, c1, r2, oneW]
 refine qA (o := blk (qK w x1 x2 x3) 57) fun j5 h5 => ?_
 obtain ⟨B4, hB4⟩ : ∃ B4, B4 = (j5, blk (qK w x1 x2 x3) 57) :: B := ⟨_, rfl⟩
 have g5 : hget B4 j5 = some (blk (qK w x1 x2 x3) 57) := by rw [hB4]; exact qL _ _ _
 have s4 : Tk.Sub M B4 := sB.trans (by rw [hB4]; exact Sub.cons h5 (Sub.refl _))
 rw [<- hB4]
 simp only [wk, seval, zV]
 refine app_dR (T := T) (cs := qK w x1 x2 x3) WWord.fr WWord.in (fun q => WWord.one q) (fun q => WWord.len q) tWords iWord (dW.frame WWord.fr fun y q => Sub.eq s4 (dW.in WWord.in q)) (rdS_1 g5 rfl) (WWord.fr _ _ _ _ _ (fun y q => Sub.eq s4 (WWord.in _ _ _ _ _ ww q)) ww)
  (fun y q => (hT y q).1) (by omega) (by omega) fun M5 v5 S5 d5 k5 f5 => ?_
 have g5o : hget M5 jo = some (blk [v] 28) := by rw [k5 jo (by rw [s4 _ _ g]; simp) hj]; exact s4 _ _ g
 obtain ⟨N, wN, gN, fN⟩ := bx_st (vs := [v5]) (cs' := [v5]) (o := 0) g5o (by show 0 + 1 <= 1; omega) rfl
 have on5 := d5.one
 have vc5 := vc1 on5
 have nj : ∀ x, S5 x -> x ≠ jo := fun x q c => by
  rcases f5 x q with e | e | e
  ·exact hj (c ▸ e)
  ·exact (hT x e).2 c
  ·rw [c, s4 _ _ g] at e; cases e
 simp only [wk, seval, on5, vc5, wN]
 refine .of (k N v5 S5 gN (d5.frame WWord.fr fun x q => fN x (nj x q)) (fun q => nj jo q rfl) (fun x e1 e2 e3 => ?_) fun x q => ?_)
 ·rw [fN x e3, k5 x (by rw [Sub.eq s4 e1]; exact e1) e2, Sub.eq s4 e1]
 ·rcases f5 x q with e | e | e
  ·exact .inl e
  ·exact .inr (.inl e)
  ·exact .inr (.inr (s4.none' e))
theorem word_c {M : H} {jd jo rr : Nat} {g : DGate} {a b c v : Value} {L : List DWord} {S : Nat -> Prop} {w : DWord} {kd to st tr : Int} (gd : hget M jd = some (blk (cDesk g a b c rr (sendF jo)) 67)) (go : hget M jo = some (blk [v] 28)) (dW : dR 57 WWord 17 M v L S) (hj : ¬ S jo) (hl : L.length <= 4194304)
  (hw : w = ⟨kd, 9, to, st, tr, 0, false, [], [], 0, [], ⟨0, 0, 0, [], 0, 0⟩⟩)
  {R : Ending -> H -> Prop} (k : ∀ M' v' S', hget M' jo = some (blk [v'] 28) -> dR 57 WWord 17 M' v' (L ++ [w]) S' -> ¬ S' jo -> (∀ x, hget M x ≠ none -> ¬ S x -> x ≠ jo -> hget M' x = hget M x) -> (∀ x, S' x -> S x ∨ hget M x = none) -> R (.returned (.tuple #[])) M') :
  HCalls Tryz.prog 31 #[.pointer (some ⟨jd, 0, none⟩), .int .i64 kd, .int .i64 to, .int .i64 st, .int .i64 tr] M R := by
 refine qB (args := [.pointer (some ⟨jd, 0, none⟩), .int .i64 kd, .int .i64 to, .int .i64 st, .int .i64 tr]) Tryz.func31 ir31 ?_
 have zw := zWord_eq
 try simp only [str] at zw
 have c7 : hcel M jd 7 = some (.func (.func 25) #[] #[.pointer (some ⟨jo, 0, none⟩)]) := qH gd rfl
 simp only [wk, seval, zV, str, zw, c7]
 have ww : WWord M (qK w (.slice none 0 0) (.slice none 0 0) (.slice none 0 0)) w (fun _ => False) := WWord.slots (by rw [hw]; exact dL.nil) (by rw [hw]) (by rw [hw])
 have ee : qK ⟨kd, 9, to, st, tr, zWord.what, zWord.yes, zWord.slots, zWord.pairs, zWord.code, zWord.vals, zWord.call⟩ (.slice none 0 0) (.slice none 0 0) (.slice none 0 0) = qK w (.slice none 0 0) (.slice none 0 0) (.slice none 0 0) := by rw [hw]; rfl
 rw [ee]
 refine ⟨by kernel_rfl, send_c go dW hj ww (fun _ q => q.elim) hl fun M' v' S' g' d' n' f' e' => ?_⟩
 try simp only [wk, seval]
 exact .of (k M' v' S' g' d' n' f' fun x q => by
  rcases e' x q with c | c | c
  ·exact .inl c
  ·exact c.elim
  ·exact .inr c)
end Go.Proofs.YtgbapakcfmgahaaGreatDoor
end
