/- Parts of the proof, put together: Z3, Y5. -/
import Derived.Test.YtgbapakcfmgahaaGreatDoorK1318
import Derived.Test.YtgbapakcfmgahaaGreatDoorK1317
set_option linter.unusedVariables false
set_option linter.unusedSimpArgs false
set_option linter.defProp false
section
set_option maxRecDepth 20000
attribute [local irreducible] Go.Tk.vc Go.Tk.vops Go.Tk.vdr Go.Tk.vop Go.Tk.vfl Go.Tk.HCalls
namespace Go.Tk
open Go
def sesN (l : List DLive) (s : Int) : Nat := l.countP fun x => decide (x.call.session = s)
theorem sesN_more {l : List DLive} {i : Nat} (h : i < l.length) (s : Int) : sesN (l.take (i + 1)) s = sesN (l.take i) s + if l[i].call.session = s then 1 else 0 := by
 unfold sesN
 rw [List.take_succ_eq_append_getElem h, List.countP_append, List.countP_singleton]
 simp only [decide_eq_true_eq]
def sesA (l : List DLive) : List Int := [(sesN l 0 : Int), (sesN l 1 : Int), (sesN l 2 : Int)]
theorem sesA_at (l : List DLive) {s : Int} (h : 0 <= s /\ s <= 2) (hi : s.toNat < (sesA l).length) : (sesA l)[s.toNat] = (sesN l s : Int) := by
 have : s = 0 ∨ s = 1 ∨ s = 2 := by omega
 rcases this with rfl | rfl | rfl <;> rfl
theorem sesA_more {l : List DLive} {i : Nat} (hi : i < l.length) (h : 0 <= l[i].call.session /\ l[i].call.session <= 2) : (sesA (l.take i)).set l[i].call.session.toNat ((sesN (l.take i) l[i].call.session : Int) + 1) = sesA (l.take (i + 1)) := by
 have : l[i].call.session = 0 ∨ l[i].call.session = 1 ∨ l[i].call.session = 2 := by omega
 unfold sesA
 simp only [sesN_more hi]
 rcases this with e | e | e <;> simp [e]
theorem sesN_pos {l : List DLive} {i : Nat} {s : Int} (h : 1 <= sesN (l.take i) s) : ∃ q, ∃ (hq : q < l.length), q < i /\ l[q].call.session = s := by
 unfold sesN at h
 obtain ⟨x, hx, hs⟩ := List.countP_pos_iff.1 h
 obtain ⟨q, hq, rfl⟩ := List.getElem_of_mem hx
 rw [List.length_take] at hq
 exact ⟨q, by omega, by omega, by simpa using hs⟩
theorem sesN_zero {l : List DLive} {i : Nat} {s : Int} (h : sesN (l.take i) s = 0) : ∀ q (hq : q < l.length), q < i -> l[q].call.session ≠ s := fun q hq hqi e => by
 unfold sesN at h
 have := List.countP_eq_zero.1 h l[q] (by rw [List.mem_take_iff_getElem]; exact ⟨q, by omega, rfl⟩)
 simp [e] at this
end Go.Tk
namespace Go.Proofs.YtgbapakcfmgahaaGreatDoor
open Go Go.Tk
set_option maxHeartbeats 4000000 in
theorem implGateOk_c {h : H} {g : DGate} {lg lv wy : Value} (gl : Gl h) (gm : MxL h) (r : sGate h g lg lv wy) (hb : bGate g) {R : Ending -> H -> Prop} (k : Asks R (gateOkP g) h) : HCalls Tryz.prog 23 #[.agg (cGate g lg lv wy).toArray] h R := by
 refine qB (args := [.agg (cGate g lg lv wy).toArray]) Tryz.func23 ir23 ?_
 have b1 := hb.lives; have b2 := hb.ways; have b3 := hb.log
 unfold lim at b1 b2 b3
 obtain ⟨i0, hi0, hz0⟩ := iInt0
 simp only [wk, seval, zB]
 refine qA (o := blk (cGate g lg lv wy) 34) fun j1 h1 => ?_
 obtain ⟨A, hA⟩ : ∃ A, A = (j1, blk (cGate g lg lv wy) 34) :: h := ⟨_, rfl⟩
 have sA : Tk.Sub h A := by rw [hA]; exact Sub.cons h1 (Sub.refl _)
 have gA : hget A j1 = some (blk (cGate g lg lv wy) 34) := by rw [hA]; exact qL _ _ _
 have a1' : hcel A j1 1 = some (.int .i64 g.life) := qH gA rfl
 have a2' : hcel A j1 2 = some (.int .i64 g.next) := qH gA rfl
 have aa : qQ A j1 0 6 = some (cGate g lg lv wy) := qU gA rfl
 rw [<- hA]
 simp only [wk, seval, zB, a1', a2', aa]
 refine within_c fun q1 hq1 => ?_
 cases q1 with
 | false =>
  simp only [wk, seval, a1', a2', aa]
  exact k.dno sA fun p => zG hq1 rfl p.1
 | true =>
 simp only [wk, seval, a1', a2', aa]
 refine isStamp_c fun q2 hq2 => ?_
 cases q2 with
 | false =>
  simp only [wk, seval, a1', a2', aa]
  exact k.dno sA fun p => zG hq2 rfl p.2.1
 | true =>
 simp only [wk, seval, a1', a2', aa]
 have z3 : [Value.int .i64 0, .int .i64 0, .int .i64 0] = fl eI (sesA []) := rfl
 refine gateLogOk_c (gl.sub sA) (gm.sub sA) ((r.1.subH sA).relImp fun _ _ x => rRecord.sub sA x) hb.recs (by omega) (hq2.1 rfl) (fun hno v L M1 hL s1 => ?_) (fun hlog rr es c m M1 s1 mr hmo hst => ?_)
 ·have hl3 : (fl eI L).length = 3 := by rw [fl_len zC, hL]
  have ho3 := eI_one L
  simp only [wk, seval, z3]
  refine qA (o := blk (fl eI (sesA [])) 113) fun j4 hj4 => ?_
  have wt : qT ((j4, blk (fl eI (sesA [])) 113) :: M1) j4 0 (fl eI L) = some ((j4, blk (fl eI L) 113) :: M1) := by
   rw [hwrite_same, if_pos (by rw [hl3]; exact Nat.le_refl _), splice_all (by rw [hl3]; rfl)]
  simp only [wk, seval, hl3, ho3, wt, z3]
  exact k.dno ((sA.trans s1).trans (Sub.cons hj4 (Sub.refl _))) fun p => hno p.2.2.1
 ·have hl3 : (fl eI (lastA g.log)).length = 3 := rfl
  have ho3 := eI_one (lastA g.log)
  simp only [wk, seval, z3]
  refine qA (o := blk (fl eI (sesA [])) 113) fun j4 hj4 => ?_
  obtain ⟨B, hB⟩ : ∃ B, B = (j4, blk (fl eI (lastA g.log)) 113) :: M1 := ⟨_, rfl⟩
  have wt : qT ((j4, blk (fl eI (sesA [])) 113) :: M1) j4 0 (fl eI (lastA g.log)) = some B := by
   rw [hwrite_same, if_pos (by rw [hl3]; exact Nat.le_refl _), splice_all (x := fl eI (lastA g.log)) (y := fl eI (sesA [])) (by rfl), hB]
  have s1B : Tk.Sub M1 B := by rw [hB]; exact Sub.cons hj4 (Sub.refl _)
  have gB := s1B _ _ (s1 _ _ gA)
  have gB4 : hget B j4 = some (blk (fl eI (lastA g.log)) 113) := by rw [hB]; exact qL _ _ _
  have gBr := s1B _ _ mr
  have sB0 : Tk.Sub h B := sA.trans (s1.trans s1B)
  have b4 : hcel B j1 4 = some lv := qH gB rfl
  have b0 : hcel B j1 0 = some (.bool g.up) := qH gB rfl
  have hnx : IntKind.i64.wrap (g.next - 1) = g.next - 1 := qI _ (by have := (hq2.1 rfl).1; have := (hq2.1 rfl).2; omega)
  simp only [wk, seval, hl3, ho3, wt, b4, b0, r.2.1.len, z3]
  refine qF (fun c1 => ?_) fun c1 => ?_
  ·try simp only [wk, seval, b4, b0, r.2.1.len, z3]
   refine k.dno sB0 fun p => ?_
   have := p.2.2.2.1.1; omega
  cases hup : g.up with
  | false =>
   simp only [wk, seval, b4, b0, r.2.1.len, z3, hup]
   refine qF (fun c2 => ?_) fun c2 => ?_
   ·try simp only [wk, seval, b4, b0, r.2.1.len, z3]
    refine k.dno sB0 fun p => ?_
    have := (p.2.2.2.2.1 hup).1
    rw [this] at c2; simp at c2
   ·have hemp : g.up = false -> g.lives = [] := fun _ => List.eq_nil_of_length_eq_zero (by omega)
    try simp only [wk, seval, b4, b0, r.2.1.len, z3]
    refine qA (o := blk (fl eI (sesA [])) 113) fun j6 hj6 => ?_
    have nB6 := hj6
    obtain ⟨M, hM⟩ : ∃ M, M = (j6, blk (fl eI (sesA [])) 113) :: B := ⟨_, rfl⟩
    have sM : Tk.Sub B M := by rw [hM]; exact Sub.cons nB6 (Sub.refl _)
    have m6 : hget M j6 = some (blk (fl eI (sesA [])) 113) := by rw [hM]; exact qL _ _ _
    have b4M : hcel M j1 4 = some lv := qH (sM _ _ gB) rfl
    rw [<- hM]
    simp only [wk, seval, b4M, r.2.1.len]
    refine qS [47] (fun n vs M' => ∃ (i : Nat), vs = [.int .i64 i] /\ Tk.Sub B M' /\ hget M' j6 = some (blk (fl eI (sesA (g.lives.take i))) 113) /\ i <= g.lives.length /\ n = g.lives.length - i /\ (∀ x ∈ g.lives.take i, liveP x g.next /\ (∀ r ∈ g.log, r.stamp ≠ x.stamp) /\ ∀ r, lastOf g.log x.call.session = some r -> r.call.number < x.call.number) /\ risU (·.stamp) g.lives i /\ (∀ s, sesN (g.lives.take i) s <= 1) /\
      ∀ q p (hp : p < g.lives.length) (hq : q < p), p < i -> (g.lives[q]'(by omega)).call.session ≠ g.lives[p].call.session) g.lives.length rfl
     ⟨0, rfl, sM, by simpa using m6, by omega, rfl, by simp, risU_zero _ _, fun s => by simp [sesN], fun q p hp hq h => absurd h (Nat.not_lt_zero _)⟩ ?_
    rintro n f M' ⟨i, hv, sM', m6', hi, rfl, hall, hris, hcnt, hses⟩
    simp only [lm4] at hv
    simp only [wk, seval, wr, hv]
    refine qF (fun c1 => ?_) fun c1 => ?_
    ·have hi2 : i < g.lives.length := by omega
     have zl := zLive_eq
     have sM0 : Tk.Sub h M' := sB0.trans sM'
     obtain ⟨b, o, cs, hx, e, a1, a2, rfl, sr⟩ := zU ((r.2.1.subH sM0).relImp fun _ _ x => rLive.sub sM0 x) hi2
     have hone := wLive.2.2.2.2.2.2.2.2.2.2.2.2.2.2.2.1 g.lives[i] a1 a2 (rdS.one sr.1) (rRs.one sr.2)
     simp only [wk, seval, hx, e, zl, wLive]
     refine qA (o := blk (qE zLive (.slice none 0 0) (.slice none 0 0)) 50) fun j8 hj8 => ?_
     simp only [wk, seval, zl, wLive, hone]
     obtain ⟨N, hN⟩ : ∃ N, N = (j8, blk (qE g.lives[i] a1 a2) 50) :: M' := ⟨_, rfl⟩
     have sN : Tk.Sub M' N := by rw [hN]; exact Sub.cons hj8 (Sub.refl _)
     have gN : hget N j8 = some (blk (qE g.lives[i] a1 a2) 50) := by rw [hN]; exact qL _ _ _
     have l0 : hcel N j8 0 = some (.int .i64 g.lives[i].stamp) := qH gN rfl
     have l4 : hcel N j8 4 = some (.int .i64 g.lives[i].call.session) := qH gN rfl
     have l5 : hcel N j8 5 = some (.int .i64 g.lives[i].call.number) := qH gN rfl
     have la : qQ N j8 0 12 = some (qE g.lives[i] a1 a2) := qU gN rfl
     have sBN := sM'.trans sN
     have s0 : Tk.Sub h N := sB0.trans sBN
     have g2' : hcel N j1 2 = some (.int .i64 g.next) := qH (sBN _ _ gB) rfl
     have g4' : hcel N j1 4 = some lv := qH (sBN _ _ gB) rfl
     have m4N := sBN _ _ gB4
     have m6N := sN _ _ m6'
     have mrN := sBN _ _ gBr
     have sNN := Sub.refl N
     have rl : rRs N (rLive h) 12 lv g.lives := r.2.1.subH s0
     have bad : ¬ (liveP g.lives[i] g.next /\ (∀ r ∈ g.log, r.stamp ≠ g.lives[i].stamp) /\ ∀ r, lastOf g.log g.lives[i].call.session = some r -> r.call.number < g.lives[i].call.number) -> ¬ gateOkP g := fun q p => q (p.2.2.2.1.2.1 _ (List.getElem_mem hi2))
     rw [<- hN]
     refine qY _ (Sub.refl _) ?_
     simp only [wk, seval, g2', g4', l0, l4, l5, la, sNN, hnx]
     refine within_c fun q3 hq3 => ?_
     cases q3 with
     | false =>
      simp only [wk, seval, g2', g4', l0, l4, l5, la, sNN, hnx]
      exact k.dno s0 (bad fun q => zG hq3 rfl (liveQ_P.1 q.1).1)
     | true =>
     simp only [wk, seval, g2', g4', l0, l4, l5, la, sNN, hnx]
     refine qF (fun y1 => ?_) fun y1 => ?_
     ·have hi3 : i - 1 < g.lives.length := by omega
      obtain ⟨b3, o3, cs3, hx3, e3, a13, a23, rfl, sr3⟩ := zU rl hi3
      have y0 : hcel N b3 o3 = some (.int .i64 g.lives[i - 1].stamp) := by have := qW e3 0 rfl; rw [Nat.add_zero] at this; exact this
      have hw3 : IntKind.i64.wrap ((i : Int) - 1) = ((i - 1 : Nat) : Int) := by rw [qI _ ⟨by omega, by omega⟩]; omega
      simp only [wk, seval, hx3, y0, hw3, g2', g4', l0, l4, l5, la, sNN, hnx]
      refine ite_ge (fun y2 => ?_) fun y2 => ?_
      ·try simp only [wk, seval, g2', g4', l0, l4, l5, la, sNN, hnx]
       exact k.dno s0 fun p => risU_not (k := (·.stamp)) hi2 (by omega) (by show ¬ g.lives[i - 1].stamp < g.lives[i].stamp; omega) p.2.2.2.1.2.2.1
      have hris2 := risU_more hi2 (by omega) hris y2
      try simp only [wk, seval, g2', g4', l0, l4, l5, la, sNN, hnx]
      rcases stampM_get hst g.lives[i].stamp with ⟨hg, x, hxm, hxs⟩ | ⟨hg, hnos⟩
      ·refine raw_lookup keyII tMapII hi0 hz0 (k := g.lives[i].stamp) (by simp only [wk, seval]) (by simp only [wk, seval]) mrN hmo hg ?_
       simp only [wk, seval, g2', g4', l0, l4, l5, la, sNN, hnx]
       exact k.dno s0 (bad fun q => q.2.1 x hxm hxs)
      refine raw_lookup keyII tMapII hi0 hz0 (k := g.lives[i].stamp) (by simp only [wk, seval]) (by simp only [wk, seval]) mrN hmo hg ?_
      simp only [wk, seval, g2', g4', l0, l4, l5, la, sNN, hnx]
      refine liveOk_c (gl.sub s0) (gm.sub s0) (sLive.sub sN sr) (hb.live _ (List.getElem_mem hi2)) fun q4 hq4 => ?_
      cases q4 with
      | false =>
       simp only [wk, seval, g2', g4', l0, l4, l5, la, sNN, hnx]
       exact k.dno s0 (bad fun q => zG hq4 rfl (liveQ_P.1 q.1).2)
      | true =>
      simp only [wk, seval, g2', g4', l0, l4, l5, la, sNN, hnx]
      have hfm := (hq4.1 rfl).2.2.2.1.1
      have hse : 0 <= g.lives[i].call.session /\ g.lives[i].call.session <= 2 := hfm.1
      have hnu : 1 <= g.lives[i].call.number := hfm.2.1.1
      have hsl : g.lives[i].call.session.toNat < (lastA g.log).length := by show _ < 3; omega
      have pl : hcel N j4 g.lives[i].call.session.toNat = some (.int .i64 (lastN g.log g.lives[i].call.session)) := by
       rw [<- lastA_at _ hse hsl]; exact qH m4N (flI_at hsl)
      refine ⟨⟨by omega, by omega⟩, ?_⟩
      simp only [wk, seval, pl, g2', g4', l0, l4, l5, la, sNN, hnx]
      refine ite_ge (fun c4 => ?_) fun c4 => ?_
      ·try simp only [wk, seval, g2', g4', l0, l4, l5, la, sNN, hnx]
       exact k.dno s0 (bad fun q => by have := (lastN_lt (log := g.log) (s := g.lives[i].call.session) hnu).2 q.2.2; omega)
      have hlt := (lastN_lt (log := g.log) (s := g.lives[i].call.session) hnu).1 (by omega)
      try simp only [wk, seval, g2', g4', l0, l4, l5, la, sNN, hnx]
      have hsl2 : g.lives[i].call.session.toNat < (sesA (g.lives.take i)).length := by show _ < 3; omega
      have pl6 : hcel N j6 g.lives[i].call.session.toNat = some (.int .i64 (sesN (g.lives.take i) g.lives[i].call.session)) := by
       rw [<- sesA_at _ hse hsl2]; exact qH m6N (flI_at hsl2)
      have hcn := hcnt g.lives[i].call.session
      refine ⟨⟨by omega, by omega⟩, ?_⟩
      simp (disch := omega) only [wk, seval, pl6, qI]
      refine ⟨⟨by omega, by omega⟩, ?_⟩
      obtain ⟨N2, hN2⟩ : ∃ N2, N2 = hupd N j6 (blk (fl eI (sesA (g.lives.take (i + 1)))) 113) := ⟨_, rfl⟩
      have wt : qT N j6 g.lives[i].call.session.toNat [.int .i64 ((sesN (g.lives.take i) g.lives[i].call.session : Int) + 1)] = some N2 := by
       rw [zH (j := g.lives[i].call.session.toNat) (vs := [.int .i64 ((sesN (g.lives.take i) g.lives[i].call.session : Int) + 1)]) m6N (by rw [fl_len zC]; show _ <= 3 * 1; simp only [List.length_singleton]; omega), hN2, <- sesA_more hi2 hse]
       have : g.lives[i].call.session = 0 ∨ g.lives[i].call.session = 1 ∨ g.lives[i].call.session = 2 := by omega
       rcases this with e | e | e <;> rw [e] <;> rfl
      have j86 : j8 ≠ j6 := fun e => by rw [e, m6'] at hj8; cases hj8
      have sBN2 : Tk.Sub B N2 := by rw [hN2]; exact Sub.wr (sM'.trans sN) nB6
      have gN2 : hget N2 j8 = some (blk (qE g.lives[i] a1 a2) 50) := by rw [hN2, qG j86]; exact gN
      have p4' : hcel N2 j8 4 = some (.int .i64 g.lives[i].call.session) := qH gN2 rfl
      have m6N2 : hget N2 j6 = some (blk (fl eI (sesA (g.lives.take (i + 1)))) 113) := by rw [hN2]; exact qN m6N
      have hsl3 : g.lives[i].call.session.toNat < (sesA (g.lives.take (i + 1))).length := by show _ < 3; omega
      have pl7 : hcel N2 j6 g.lives[i].call.session.toNat = some (.int .i64 (sesN (g.lives.take (i + 1)) g.lives[i].call.session)) := by
       rw [<- sesA_at _ hse hsl3]; exact qH m6N2 (flI_at hsl3)
      have hmore := sesN_more hi2
      have hm1 := hmore g.lives[i].call.session
      rw [if_pos rfl] at hm1
      simp only [wk, seval, wt, p4']
      refine ⟨⟨by omega, by omega⟩, ?_⟩
      simp only [wk, seval, pl7]
      refine qF (fun c6 => ?_) fun c6 => ?_
      ·refine k.dno (sB0.trans sBN2) fun q => ?_
       obtain ⟨q', hq', hqi, e⟩ := sesN_pos (l := g.lives) (i := i) (s := g.lives[i].call.session) (by omega)
       exact q.2.2.2.1.2.2.2 q' i hi2 hqi e
      have hz := sesN_zero (l := g.lives) (i := i) (s := g.lives[i].call.session) (by omega)
      simp (disch := omega) only [wk, seval, qI]
      refine ⟨g.lives.length - (i + 1), by omega, N2, .refl _, i + 1, by simp, sBN2, m6N2, by omega, rfl, fun x hx => ?_, hris2, fun s => ?_, fun q p hp hq hpi => ?_⟩
      ·rw [List.take_succ_eq_append_getElem hi2] at hx
       rcases List.mem_append.1 hx with hx | hx
       ·exact hall x hx
       ·rw [List.mem_singleton.1 hx]; exact ⟨liveQ_P.2 ⟨hq3.1 rfl, hq4.1 rfl⟩, hnos, hlt⟩
      ·by_cases e : g.lives[i].call.session = s
       ·subst e; omega
       ·have := hmore s
        rw [if_neg e] at this
        have := hcnt s
        omega
      ·by_cases e : p = i
       ·subst e; exact hz q (by omega) hq
       ·exact hses q p hp hq (by omega)
     ·have hris2 : risU (·.stamp) g.lives (i + 1) := risU_one (by omega) hris
      try simp only [wk, seval, g2', g4', l0, l4, l5, la, sNN, hnx]
      rcases stampM_get hst g.lives[i].stamp with ⟨hg, x, hxm, hxs⟩ | ⟨hg, hnos⟩
      ·refine raw_lookup keyII tMapII hi0 hz0 (k := g.lives[i].stamp) (by simp only [wk, seval]) (by simp only [wk, seval]) mrN hmo hg ?_
       simp only [wk, seval, g2', g4', l0, l4, l5, la, sNN, hnx]
       exact k.dno s0 (bad fun q => q.2.1 x hxm hxs)
      refine raw_lookup keyII tMapII hi0 hz0 (k := g.lives[i].stamp) (by simp only [wk, seval]) (by simp only [wk, seval]) mrN hmo hg ?_
      simp only [wk, seval, g2', g4', l0, l4, l5, la, sNN, hnx]
      refine liveOk_c (gl.sub s0) (gm.sub s0) (sLive.sub sN sr) (hb.live _ (List.getElem_mem hi2)) fun q4 hq4 => ?_
      cases q4 with
      | false =>
       simp only [wk, seval, g2', g4', l0, l4, l5, la, sNN, hnx]
       exact k.dno s0 (bad fun q => zG hq4 rfl (liveQ_P.1 q.1).2)
      | true =>
      simp only [wk, seval, g2', g4', l0, l4, l5, la, sNN, hnx]
      have hfm := (hq4.1 rfl).2.2.2.1.1
      have hse : 0 <= g.lives[i].call.session /\ g.lives[i].call.session <= 2 := hfm.1
      have hnu : 1 <= g.lives[i].call.number := hfm.2.1.1
      have hsl : g.lives[i].call.session.toNat < (lastA g.log).length := by show _ < 3; omega
      have pl : hcel N j4 g.lives[i].call.session.toNat = some (.int .i64 (lastN g.log g.lives[i].call.session)) := by
       rw [<- lastA_at _ hse hsl]; exact qH m4N (flI_at hsl)
      refine ⟨⟨by omega, by omega⟩, ?_⟩
      simp only [wk, seval, pl, g2', g4', l0, l4, l5, la, sNN, hnx]
      refine ite_ge (fun c4 => ?_) fun c4 => ?_
      ·try simp only [wk, seval, g2', g4', l0, l4, l5, la, sNN, hnx]
       exact k.dno s0 (bad fun q => by have := (lastN_lt (log := g.log) (s := g.lives[i].call.session) hnu).2 q.2.2; omega)
      have hlt := (lastN_lt (log := g.log) (s := g.lives[i].call.session) hnu).1 (by omega)
      try simp only [wk, seval, g2', g4', l0, l4, l5, la, sNN, hnx]
      have hsl2 : g.lives[i].call.session.toNat < (sesA (g.lives.take i)).length := by show _ < 3; omega
      have pl6 : hcel N j6 g.lives[i].call.session.toNat = some (.int .i64 (sesN (g.lives.take i) g.lives[i].call.session)) := by
       rw [<- sesA_at _ hse hsl2]; exact qH m6N (flI_at hsl2)
      have hcn := hcnt g.lives[i].call.session
      refine ⟨⟨by omega, by omega⟩, ?_⟩
      simp (disch := omega) only [wk, seval, pl6, qI]
      refine ⟨⟨by omega, by omega⟩, ?_⟩
      obtain ⟨N2, hN2⟩ : ∃ N2, N2 = hupd N j6 (blk (fl eI (sesA (g.lives.take (i + 1)))) 113) := ⟨_, rfl⟩
      have wt : qT N j6 g.lives[i].call.session.toNat [.int .i64 ((sesN (g.lives.take i) g.lives[i].call.session : Int) + 1)] = some N2 := by
       rw [zH (j := g.lives[i].call.session.toNat) (vs := [.int .i64 ((sesN (g.lives.take i) g.lives[i].call.session : Int) + 1)]) m6N (by rw [fl_len zC]; show _ <= 3 * 1; simp only [List.length_singleton]; omega), hN2, <- sesA_more hi2 hse]
       have : g.lives[i].call.session = 0 ∨ g.lives[i].call.session = 1 ∨ g.lives[i].call.session = 2 := by omega
       rcases this with e | e | e <;> rw [e] <;> rfl
      have j86 : j8 ≠ j6 := fun e => by rw [e, m6'] at hj8; cases hj8
      have sBN2 : Tk.Sub B N2 := by rw [hN2]; exact Sub.wr (sM'.trans sN) nB6
      have gN2 : hget N2 j8 = some (blk (qE g.lives[i] a1 a2) 50) := by rw [hN2, qG j86]; exact gN
      have p4' : hcel N2 j8 4 = some (.int .i64 g.lives[i].call.session) := qH gN2 rfl
      have m6N2 : hget N2 j6 = some (blk (fl eI (sesA (g.lives.take (i + 1)))) 113) := by rw [hN2]; exact qN m6N
      have hsl3 : g.lives[i].call.session.toNat < (sesA (g.lives.take (i + 1))).length := by show _ < 3; omega
      have pl7 : hcel N2 j6 g.lives[i].call.session.toNat = some (.int .i64 (sesN (g.lives.take (i + 1)) g.lives[i].call.session)) := by
       rw [<- sesA_at _ hse hsl3]; exact qH m6N2 (flI_at hsl3)
      have hmore := sesN_more hi2
      have hm1 := hmore g.lives[i].call.session
      rw [if_pos rfl] at hm1
      simp only [wk, seval, wt, p4']
      refine ⟨⟨by omega, by omega⟩, ?_⟩
      simp only [wk, seval, pl7]
      refine qF (fun c6 => ?_) fun c6 => ?_
      ·refine k.dno (sB0.trans sBN2) fun q => ?_
       obtain ⟨q', hq', hqi, e⟩ := sesN_pos (l := g.lives) (i := i) (s := g.lives[i].call.session) (by omega)
       exact q.2.2.2.1.2.2.2 q' i hi2 hqi e
      have hz := sesN_zero (l := g.lives) (i := i) (s := g.lives[i].call.session) (by omega)
      simp (disch := omega) only [wk, seval, qI]
      refine ⟨g.lives.length - (i + 1), by omega, N2, .refl _, i + 1, by simp, sBN2, m6N2, by omega, rfl, fun x hx => ?_, hris2, fun s => ?_, fun q p hp hq hpi => ?_⟩
      ·rw [List.take_succ_eq_append_getElem hi2] at hx
       rcases List.mem_append.1 hx with hx | hx
       ·exact hall x hx
       ·rw [List.mem_singleton.1 hx]; exact ⟨liveQ_P.2 ⟨hq3.1 rfl, hq4.1 rfl⟩, hnos, hlt⟩
      ·by_cases e : g.lives[i].call.session = s
       ·subst e; omega
       ·have := hmore s
        rw [if_neg e] at this
        have := hcnt s
        omega
      ·by_cases e : p = i
       ·subst e; exact hz q (by omega) hq
       ·exact hses q p hp hq (by omega)
    ·have hil : i = g.lives.length := by omega
     have sM0 : Tk.Sub h M' := sB0.trans sM'
     have fa : qQ M' j1 0 6 = some (cGate g lg lv wy) := qU (sM' _ _ gB) rfl
     have hr := risU_done (k := (·.stamp)) (l := g.lives) (by omega) hris
     simp only [wk, seval, fa]
     refine waysOk_c (r.sub sM0) (by omega) (by omega) hr fun u2 hu2 => ?_
     simp only [wk, seval]
     rw [List.take_of_length_le (by omega)] at hall
     refine ⟨h, sM0, k u2 (hu2.trans ⟨fun w => ⟨hq1.1 rfl, hq2.1 rfl, hlog, ⟨by omega, hall, hr, fun q p hp hq => hses q p hp hq (by omega)⟩, fun hu => ⟨hemp hu, ?_⟩, w⟩, fun w => w.2.2.2.2.2⟩)⟩
     rw [hemp hu] at w
     cases hw : g.ways with
     | nil => rfl
     | cons x l =>
      obtain ⟨_, ⟨y, hy, _⟩, _⟩ := w.1 x (by rw [hw]; exact List.mem_cons_self)
      cases hy
  | true =>
   have hemp : g.up = false -> g.lives = [] := fun c => (by rw [hup] at c; cases c)
   try simp only [wk, seval, b4, b0, r.2.1.len, z3, hup]
   refine qA (o := blk (fl eI (sesA [])) 113) fun j6 hj6 => ?_
   have nB6 := hj6
   obtain ⟨M, hM⟩ : ∃ M, M = (j6, blk (fl eI (sesA [])) 113) :: B := ⟨_, rfl⟩
   have sM : Tk.Sub B M := by rw [hM]; exact Sub.cons nB6 (Sub.refl _)
   have m6 : hget M j6 = some (blk (fl eI (sesA [])) 113) := by rw [hM]; exact qL _ _ _
   have b4M : hcel M j1 4 = some lv := qH (sM _ _ gB) rfl
   rw [<- hM]
   simp only [wk, seval, b4M, r.2.1.len]
   refine qS [47] (fun n vs M' => ∃ (i : Nat), vs = [.int .i64 i] /\ Tk.Sub B M' /\ hget M' j6 = some (blk (fl eI (sesA (g.lives.take i))) 113) /\ i <= g.lives.length /\ n = g.lives.length - i /\ (∀ x ∈ g.lives.take i, liveP x g.next /\ (∀ r ∈ g.log, r.stamp ≠ x.stamp) /\ ∀ r, lastOf g.log x.call.session = some r -> r.call.number < x.call.number) /\ risU (·.stamp) g.lives i /\ (∀ s, sesN (g.lives.take i) s <= 1) /\
     ∀ q p (hp : p < g.lives.length) (hq : q < p), p < i -> (g.lives[q]'(by omega)).call.session ≠ g.lives[p].call.session) g.lives.length rfl
    ⟨0, rfl, sM, by simpa using m6, by omega, rfl, by simp, risU_zero _ _, fun s => by simp [sesN], fun q p hp hq h => absurd h (Nat.not_lt_zero _)⟩ ?_
   rintro n f M' ⟨i, hv, sM', m6', hi, rfl, hall, hris, hcnt, hses⟩
   simp only [lm4] at hv
   simp only [wk, seval, wr, hv]
   refine qF (fun c1 => ?_) fun c1 => ?_
   ·have hi2 : i < g.lives.length := by omega
    have zl := zLive_eq
    have sM0 : Tk.Sub h M' := sB0.trans sM'
    obtain ⟨b, o, cs, hx, e, a1, a2, rfl, sr⟩ := zU ((r.2.1.subH sM0).relImp fun _ _ x => rLive.sub sM0 x) hi2
    have hone := wLive.2.2.2.2.2.2.2.2.2.2.2.2.2.2.2.1 g.lives[i] a1 a2 (rdS.one sr.1) (rRs.one sr.2)
    simp only [wk, seval, hx, e, zl, wLive]
    refine qA (o := blk (qE zLive (.slice none 0 0) (.slice none 0 0)) 50) fun j8 hj8 => ?_
    simp only [wk, seval, zl, wLive, hone]
    obtain ⟨N, hN⟩ : ∃ N, N = (j8, blk (qE g.lives[i] a1 a2) 50) :: M' := ⟨_, rfl⟩
    have sN : Tk.Sub M' N := by rw [hN]; exact Sub.cons hj8 (Sub.refl _)
    have gN : hget N j8 = some (blk (qE g.lives[i] a1 a2) 50) := by rw [hN]; exact qL _ _ _
    have l0 : hcel N j8 0 = some (.int .i64 g.lives[i].stamp) := qH gN rfl
    have l4 : hcel N j8 4 = some (.int .i64 g.lives[i].call.session) := qH gN rfl
    have l5 : hcel N j8 5 = some (.int .i64 g.lives[i].call.number) := qH gN rfl
    have la : qQ N j8 0 12 = some (qE g.lives[i] a1 a2) := qU gN rfl
    have sBN := sM'.trans sN
    have s0 : Tk.Sub h N := sB0.trans sBN
    have g2' : hcel N j1 2 = some (.int .i64 g.next) := qH (sBN _ _ gB) rfl
    have g4' : hcel N j1 4 = some lv := qH (sBN _ _ gB) rfl
    have m4N := sBN _ _ gB4
    have m6N := sN _ _ m6'
    have mrN := sBN _ _ gBr
    have sNN := Sub.refl N
    have rl : rRs N (rLive h) 12 lv g.lives := r.2.1.subH s0
    have bad : ¬ (liveP g.lives[i] g.next /\ (∀ r ∈ g.log, r.stamp ≠ g.lives[i].stamp) /\ ∀ r, lastOf g.log g.lives[i].call.session = some r -> r.call.number < g.lives[i].call.number) -> ¬ gateOkP g := fun q p => q (p.2.2.2.1.2.1 _ (List.getElem_mem hi2))
    rw [<- hN]
    refine qY _ (Sub.refl _) ?_
    simp only [wk, seval, g2', g4', l0, l4, l5, la, sNN, hnx]
    refine within_c fun q3 hq3 => ?_
    cases q3 with
    | false =>
     simp only [wk, seval, g2', g4', l0, l4, l5, la, sNN, hnx]
     exact k.dno s0 (bad fun q => zG hq3 rfl (liveQ_P.1 q.1).1)
    | true =>
    simp only [wk, seval, g2', g4', l0, l4, l5, la, sNN, hnx]
    refine qF (fun y1 => ?_) fun y1 => ?_
    ·have hi3 : i - 1 < g.lives.length := by omega
     obtain ⟨b3, o3, cs3, hx3, e3, a13, a23, rfl, sr3⟩ := zU rl hi3
     have y0 : hcel N b3 o3 = some (.int .i64 g.lives[i - 1].stamp) := by have := qW e3 0 rfl; rw [Nat.add_zero] at this; exact this
     have hw3 : IntKind.i64.wrap ((i : Int) - 1) = ((i - 1 : Nat) : Int) := by rw [qI _ ⟨by omega, by omega⟩]; omega
     simp only [wk, seval, hx3, y0, hw3, g2', g4', l0, l4, l5, la, sNN, hnx]
     refine ite_ge (fun y2 => ?_) fun y2 => ?_
     ·try simp only [wk, seval, g2', g4', l0, l4, l5, la, sNN, hnx]
      exact k.dno s0 fun p => risU_not (k := (·.stamp)) hi2 (by omega) (by show ¬ g.lives[i - 1].stamp < g.lives[i].stamp; omega) p.2.2.2.1.2.2.1
     have hris2 := risU_more hi2 (by omega) hris y2
     try simp only [wk, seval, g2', g4', l0, l4, l5, la, sNN, hnx]
     rcases stampM_get hst g.lives[i].stamp with ⟨hg, x, hxm, hxs⟩ | ⟨hg, hnos⟩
     ·refine raw_lookup keyII tMapII hi0 hz0 (k := g.lives[i].stamp) (by simp only [wk, seval]) (by simp only [wk, seval]) mrN hmo hg ?_
      simp only [wk, seval, g2', g4', l0, l4, l5, la, sNN, hnx]
      exact k.dno s0 (bad fun q => q.2.1 x hxm hxs)
     refine raw_lookup keyII tMapII hi0 hz0 (k := g.lives[i].stamp) (by simp only [wk, seval]) (by simp only [wk, seval]) mrN hmo hg ?_
     simp only [wk, seval, g2', g4', l0, l4, l5, la, sNN, hnx]
     refine liveOk_c (gl.sub s0) (gm.sub s0) (sLive.sub sN sr) (hb.live _ (List.getElem_mem hi2)) fun q4 hq4 => ?_
     cases q4 with
     | false =>
      simp only [wk, seval, g2', g4', l0, l4, l5, la, sNN, hnx]
      exact k.dno s0 (bad fun q => zG hq4 rfl (liveQ_P.1 q.1).2)
     | true =>
     simp only [wk, seval, g2', g4', l0, l4, l5, la, sNN, hnx]
     have hfm := (hq4.1 rfl).2.2.2.1.1
     have hse : 0 <= g.lives[i].call.session /\ g.lives[i].call.session <= 2 := hfm.1
     have hnu : 1 <= g.lives[i].call.number := hfm.2.1.1
     have hsl : g.lives[i].call.session.toNat < (lastA g.log).length := by show _ < 3; omega
     have pl : hcel N j4 g.lives[i].call.session.toNat = some (.int .i64 (lastN g.log g.lives[i].call.session)) := by
      rw [<- lastA_at _ hse hsl]; exact qH m4N (flI_at hsl)
     refine ⟨⟨by omega, by omega⟩, ?_⟩
     simp only [wk, seval, pl, g2', g4', l0, l4, l5, la, sNN, hnx]
     refine ite_ge (fun c4 => ?_) fun c4 => ?_
     ·try simp only [wk, seval, g2', g4', l0, l4, l5, la, sNN, hnx]
      exact k.dno s0 (bad fun q => by have := (lastN_lt (log := g.log) (s := g.lives[i].call.session) hnu).2 q.2.2; omega)
     have hlt := (lastN_lt (log := g.log) (s := g.lives[i].call.session) hnu).1 (by omega)
     try simp only [wk, seval, g2', g4', l0, l4, l5, la, sNN, hnx]
     have hsl2 : g.lives[i].call.session.toNat < (sesA (g.lives.take i)).length := by show _ < 3; omega
     have pl6 : hcel N j6 g.lives[i].call.session.toNat = some (.int .i64 (sesN (g.lives.take i) g.lives[i].call.session)) := by
      rw [<- sesA_at _ hse hsl2]; exact qH m6N (flI_at hsl2)
     have hcn := hcnt g.lives[i].call.session
     refine ⟨⟨by omega, by omega⟩, ?_⟩
     simp (disch := omega) only [wk, seval, pl6, qI]
     refine ⟨⟨by omega, by omega⟩, ?_⟩
     obtain ⟨N2, hN2⟩ : ∃ N2, N2 = hupd N j6 (blk (fl eI (sesA (g.lives.take (i + 1)))) 113) := ⟨_, rfl⟩
     have wt : qT N j6 g.lives[i].call.session.toNat [.int .i64 ((sesN (g.lives.take i) g.lives[i].call.session : Int) + 1)] = some N2 := by
      rw [zH (j := g.lives[i].call.session.toNat) (vs := [.int .i64 ((sesN (g.lives.take i) g.lives[i].call.session : Int) + 1)]) m6N (by rw [fl_len zC]; show _ <= 3 * 1; simp only [List.length_singleton]; omega), hN2, <- sesA_more hi2 hse]
      have : g.lives[i].call.session = 0 ∨ g.lives[i].call.session = 1 ∨ g.lives[i].call.session = 2 := by omega
      rcases this with e | e | e <;> rw [e] <;> rfl
     have j86 : j8 ≠ j6 := fun e => by rw [e, m6'] at hj8; cases hj8
     have sBN2 : Tk.Sub B N2 := by rw [hN2]; exact Sub.wr (sM'.trans sN) nB6
     have gN2 : hget N2 j8 = some (blk (qE g.lives[i] a1 a2) 50) := by rw [hN2, qG j86]; exact gN
     have p4' : hcel N2 j8 4 = some (.int .i64 g.lives[i].call.session) := qH gN2 rfl
     have m6N2 : hget N2 j6 = some (blk (fl eI (sesA (g.lives.take (i + 1)))) 113) := by rw [hN2]; exact qN m6N
     have hsl3 : g.lives[i].call.session.toNat < (sesA (g.lives.take (i + 1))).length := by show _ < 3; omega
     have pl7 : hcel N2 j6 g.lives[i].call.session.toNat = some (.int .i64 (sesN (g.lives.take (i + 1)) g.lives[i].call.session)) := by
      rw [<- sesA_at _ hse hsl3]; exact qH m6N2 (flI_at hsl3)
     have hmore := sesN_more hi2
     have hm1 := hmore g.lives[i].call.session
     rw [if_pos rfl] at hm1
     simp only [wk, seval, wt, p4']
     refine ⟨⟨by omega, by omega⟩, ?_⟩
     simp only [wk, seval, pl7]
     refine qF (fun c6 => ?_) fun c6 => ?_
     ·refine k.dno (sB0.trans sBN2) fun q => ?_
      obtain ⟨q', hq', hqi, e⟩ := sesN_pos (l := g.lives) (i := i) (s := g.lives[i].call.session) (by omega)
      exact q.2.2.2.1.2.2.2 q' i hi2 hqi e
     have hz := sesN_zero (l := g.lives) (i := i) (s := g.lives[i].call.session) (by omega)
     simp (disch := omega) only [wk, seval, qI]
     refine ⟨g.lives.length - (i + 1), by omega, N2, .refl _, i + 1, by simp, sBN2, m6N2, by omega, rfl, fun x hx => ?_, hris2, fun s => ?_, fun q p hp hq hpi => ?_⟩
     ·rw [List.take_succ_eq_append_getElem hi2] at hx
      rcases List.mem_append.1 hx with hx | hx
      ·exact hall x hx
      ·rw [List.mem_singleton.1 hx]; exact ⟨liveQ_P.2 ⟨hq3.1 rfl, hq4.1 rfl⟩, hnos, hlt⟩
     ·by_cases e : g.lives[i].call.session = s
      ·subst e; omega
      ·have := hmore s
       rw [if_neg e] at this
       have := hcnt s
       omega
     ·by_cases e : p = i
      ·subst e; exact hz q (by omega) hq
      ·exact hses q p hp hq (by omega)
    ·have hris2 : risU (·.stamp) g.lives (i + 1) := risU_one (by omega) hris
     try simp only [wk, seval, g2', g4', l0, l4, l5, la, sNN, hnx]
     rcases stampM_get hst g.lives[i].stamp with ⟨hg, x, hxm, hxs⟩ | ⟨hg, hnos⟩
     ·refine raw_lookup keyII tMapII hi0 hz0 (k := g.lives[i].stamp) (by simp only [wk, seval]) (by simp only [wk, seval]) mrN hmo hg ?_
      simp only [wk, seval, g2', g4', l0, l4, l5, la, sNN, hnx]
      exact k.dno s0 (bad fun q => q.2.1 x hxm hxs)
     refine raw_lookup keyII tMapII hi0 hz0 (k := g.lives[i].stamp) (by simp only [wk, seval]) (by simp only [wk, seval]) mrN hmo hg ?_
     simp only [wk, seval, g2', g4', l0, l4, l5, la, sNN, hnx]
     refine liveOk_c (gl.sub s0) (gm.sub s0) (sLive.sub sN sr) (hb.live _ (List.getElem_mem hi2)) fun q4 hq4 => ?_
     cases q4 with
     | false =>
      simp only [wk, seval, g2', g4', l0, l4, l5, la, sNN, hnx]
      exact k.dno s0 (bad fun q => zG hq4 rfl (liveQ_P.1 q.1).2)
     | true =>
     simp only [wk, seval, g2', g4', l0, l4, l5, la, sNN, hnx]
     have hfm := (hq4.1 rfl).2.2.2.1.1
     have hse : 0 <= g.lives[i].call.session /\ g.lives[i].call.session <= 2 := hfm.1
     have hnu : 1 <= g.lives[i].call.number := hfm.2.1.1
     have hsl : g.lives[i].call.session.toNat < (lastA g.log).length := by show _ < 3; omega
     have pl : hcel N j4 g.lives[i].call.session.toNat = some (.int .i64 (lastN g.log g.lives[i].call.session)) := by
      rw [<- lastA_at _ hse hsl]; exact qH m4N (flI_at hsl)
     refine ⟨⟨by omega, by omega⟩, ?_⟩
     simp only [wk, seval, pl, g2', g4', l0, l4, l5, la, sNN, hnx]
     refine ite_ge (fun c4 => ?_) fun c4 => ?_
     ·try simp only [wk, seval, g2', g4', l0, l4, l5, la, sNN, hnx]
      exact k.dno s0 (bad fun q => by have := (lastN_lt (log := g.log) (s := g.lives[i].call.session) hnu).2 q.2.2; omega)
     have hlt := (lastN_lt (log := g.log) (s := g.lives[i].call.session) hnu).1 (by omega)
     try simp only [wk, seval, g2', g4', l0, l4, l5, la, sNN, hnx]
     have hsl2 : g.lives[i].call.session.toNat < (sesA (g.lives.take i)).length := by show _ < 3; omega
     have pl6 : hcel N j6 g.lives[i].call.session.toNat = some (.int .i64 (sesN (g.lives.take i) g.lives[i].call.session)) := by
      rw [<- sesA_at _ hse hsl2]; exact qH m6N (flI_at hsl2)
     have hcn := hcnt g.lives[i].call.session
     refine ⟨⟨by omega, by omega⟩, ?_⟩
     simp (disch := omega) only [wk, seval, pl6, qI]
     refine ⟨⟨by omega, by omega⟩, ?_⟩
     obtain ⟨N2, hN2⟩ : ∃ N2, N2 = hupd N j6 (blk (fl eI (sesA (g.lives.take (i + 1)))) 113) := ⟨_, rfl⟩
     have wt : qT N j6 g.lives[i].call.session.toNat [.int .i64 ((sesN (g.lives.take i) g.lives[i].call.session : Int) + 1)] = some N2 := by
      rw [zH (j := g.lives[i].call.session.toNat) (vs := [.int .i64 ((sesN (g.lives.take i) g.lives[i].call.session : Int) + 1)]) m6N (by rw [fl_len zC]; show _ <= 3 * 1; simp only [List.length_singleton]; omega), hN2, <- sesA_more hi2 hse]
      have : g.lives[i].call.session = 0 ∨ g.lives[i].call.session = 1 ∨ g.lives[i].call.session = 2 := by omega
      rcases this with e | e | e <;> rw [e] <;> rfl
     have j86 : j8 ≠ j6 := fun e => by rw [e, m6'] at hj8; cases hj8
     have sBN2 : Tk.Sub B N2 := by rw [hN2]; exact Sub.wr (sM'.trans sN) nB6
     have gN2 : hget N2 j8 = some (blk (qE g.lives[i] a1 a2) 50) := by rw [hN2, qG j86]; exact gN
     have p4' : hcel N2 j8 4 = some (.int .i64 g.lives[i].call.session) := qH gN2 rfl
     have m6N2 : hget N2 j6 = some (blk (fl eI (sesA (g.lives.take (i + 1)))) 113) := by rw [hN2]; exact qN m6N
     have hsl3 : g.lives[i].call.session.toNat < (sesA (g.lives.take (i + 1))).length := by show _ < 3; omega
     have pl7 : hcel N2 j6 g.lives[i].call.session.toNat = some (.int .i64 (sesN (g.lives.take (i + 1)) g.lives[i].call.session)) := by
      rw [<- sesA_at _ hse hsl3]; exact qH m6N2 (flI_at hsl3)
     have hmore := sesN_more hi2
     have hm1 := hmore g.lives[i].call.session
     rw [if_pos rfl] at hm1
     simp only [wk, seval, wt, p4']
     refine ⟨⟨by omega, by omega⟩, ?_⟩
     simp only [wk, seval, pl7]
     refine qF (fun c6 => ?_) fun c6 => ?_
     ·refine k.dno (sB0.trans sBN2) fun q => ?_
      obtain ⟨q', hq', hqi, e⟩ := sesN_pos (l := g.lives) (i := i) (s := g.lives[i].call.session) (by omega)
      exact q.2.2.2.1.2.2.2 q' i hi2 hqi e
     have hz := sesN_zero (l := g.lives) (i := i) (s := g.lives[i].call.session) (by omega)
     simp (disch := omega) only [wk, seval, qI]
     refine ⟨g.lives.length - (i + 1), by omega, N2, .refl _, i + 1, by simp, sBN2, m6N2, by omega, rfl, fun x hx => ?_, hris2, fun s => ?_, fun q p hp hq hpi => ?_⟩
     ·rw [List.take_succ_eq_append_getElem hi2] at hx
      rcases List.mem_append.1 hx with hx | hx
      ·exact hall x hx
      ·rw [List.mem_singleton.1 hx]; exact ⟨liveQ_P.2 ⟨hq3.1 rfl, hq4.1 rfl⟩, hnos, hlt⟩
     ·by_cases e : g.lives[i].call.session = s
      ·subst e; omega
      ·have := hmore s
       rw [if_neg e] at this
       have := hcnt s
       omega
     ·by_cases e : p = i
      ·subst e; exact hz q (by omega) hq
      ·exact hses q p hp hq (by omega)
   ·have hil : i = g.lives.length := by omega
    have sM0 : Tk.Sub h M' := sB0.trans sM'
    have fa : qQ M' j1 0 6 = some (cGate g lg lv wy) := qU (sM' _ _ gB) rfl
    have hr := risU_done (k := (·.stamp)) (l := g.lives) (by omega) hris
    simp only [wk, seval, fa]
    refine waysOk_c (r.sub sM0) (by omega) (by omega) hr fun u2 hu2 => ?_
    simp only [wk, seval]
    rw [List.take_of_length_le (by omega)] at hall
    refine ⟨h, sM0, k u2 (hu2.trans ⟨fun w => ⟨hq1.1 rfl, hq2.1 rfl, hlog, ⟨by omega, hall, hr, fun q p hp hq => hses q p hp hq (by omega)⟩, fun hu => ⟨hemp hu, ?_⟩, w⟩, fun w => w.2.2.2.2.2⟩)⟩
    rw [hemp hu] at w
    cases hw : g.ways with
    | nil => rfl
    | cons x l =>
     obtain ⟨_, ⟨y, hy, _⟩, _⟩ := w.1 x (by rw [hw]; exact List.mem_cons_self)
     cases hy
end Go.Proofs.YtgbapakcfmgahaaGreatDoor
end

section
set_option maxRecDepth 20000
attribute [local irreducible] Go.Tk.vc Go.Tk.vops Go.Tk.vdr Go.Tk.vop Go.Tk.vfl Go.Tk.HCalls
namespace Go.Proofs.YtgbapakcfmgahaaGreatDoor
open Go Go.Tk
theorem told_at {h : H} {b o : Nat} {cs : List Value} {d : DTold} (r : rTold h cs d) (e : qQ h b o 2 = some cs) : ∃ p, hcel h b o = some (.int .i64 d.house) /\ hcel h b (o + 1) = some p /\ rPairs h p d.pairs := by
 obtain ⟨p, rfl, s⟩ := r
 have e0 := qW e 0 rfl
 have e1 := qW e 1 rfl
 exact ⟨p, e0, e1, s⟩
set_option maxHeartbeats 2000000 in
theorem l22LiveOk_c {h : H} {x : DLive} {lk tl : Value} {nx : Int} (r : sLive h x lk tl) (hb : bLive x) (hn : inP 1 9999 nx) {R : Ending -> H -> Prop} (k : Asks R (liveP x nx) h) :
  HCalls Tryz.prog 48 #[.agg (qE x lk tl).toArray, .int .i64 nx] h R := by
 refine qB (args := [.agg (qE x lk tl).toArray, .int .i64 nx]) Tryz.func48 ir48 ?_
 have hn2 : IntKind.i64.wrap (nx - 1) = nx - 1 := qI _ (by have := hn.1; have := hn.2; omega)
 have b1 := hb.l; have b2 := hb.t; have b3 := hb.c
 unfold bCall at b3
 unfold lim at b1 b2 b3
 simp only [wk, seval, wLive]
 refine qA (o := blk (qE x lk tl) 50) fun j hj => ?_
 have s1 := Sub.cons (o := blk (qE x lk tl) 50) hj (Sub.refl h)
 simp only [wk, seval, wLive, hn2]
 refine l6In_c fun q1 hq1 => ?_
 cases q1 with
 | false =>
  simp only [wk, seval, wLive]
  exact k.dno s1 fun p => zG hq1 rfl p.1
 | true =>
 simp only [wk, seval, wLive]
 refine l6In_c fun q2 hq2 => ?_
 cases q2 with
 | false =>
  simp only [wk, seval, wLive]
  exact k.dno s1 fun p => zG hq2 rfl p.2.1
 | true =>
 simp only [wk, seval, wLive]
 refine l6In_c fun q3 hq3 => ?_
 cases q3 with
 | false =>
  simp only [wk, seval, wLive]
  exact k.dno s1 fun p => zG hq3 rfl p.2.2.1
 | true =>
 simp only [wk, seval, wLive]
 refine l6In_c fun q4 hq4 => ?_
 cases q4 with
 | false =>
  simp only [wk, seval, wLive]
  exact k.dno s1 fun p => zG hq4 rfl p.2.2.2.1
 | true =>
 simp only [wk, seval, wLive]
 refine specCallOk_c (by omega) fun q5 hq5 => ?_
 cases q5 with
 | false =>
  simp only [wk, seval, wLive]
  exact k.dno s1 fun p => zG hq5 rfl p.2.2.2.2.1
 | true =>
 simp only [wk, seval, wLive]
 have r1 := r.sub s1
 simp only [wk, seval, wLive, r1.2.len, r1.1.len]
 refine qF (fun c1 => ?_) fun c1 => ?_
 ·refine qF (fun c2 => k.dno s1 fun p => ?_) fun c2 => ?_
  ·have := p.2.2.2.2.2.1 c1
   rw [this] at c2; simp at c2
  ·have hp2 : x.phase < 2 -> x.told = [] := fun _ => List.eq_nil_of_length_eq_zero (by omega)
   refine qF (fun c3 => ?_) fun c3 => ?_
   ·refine qF (fun c4 => k.dno s1 fun p => ?_) fun c4 => ?_
    ·have := p.2.2.2.2.2.2.1 c3
     rw [this] at c4; simp at c4
    ·have hp1 : x.phase < 1 -> x.locked = [] := fun _ => List.eq_nil_of_length_eq_zero (by omega)
     refine qS [5] (fun n vs h' => ∃ i : Nat, vs = [.int .i64 i] /\ h' = (j, blk (qE x lk tl) 50) :: h /\ i <= x.told.length /\ n = x.told.length - i /\ (∀ t ∈ x.told.take i, zO t.house /\ pairsP t.pairs) /\ risU (·.house) x.told i) x.told.length rfl ⟨0, rfl, rfl, by omega, rfl, fun t ht => by simp at ht, risU_zero _ _⟩ ?_
     rintro n f h' ⟨i, hv, rfl, hi, rfl, hall, hris⟩
     simp only [lm4] at hv
     simp only [wk, seval, wr, hv, wLive, r1.2.len, r1.1.len]
     refine qF (fun d1 => ?_) fun d1 => ?_
     ·have hi2 : i < x.told.length := by omega
      obtain ⟨b, o, cs, hx, e, rt⟩ := zU r1.2 hi2
      obtain ⟨pv, e0, e1, sp⟩ := told_at (rTold.sub (Sub.refl _) rt) e
      have sR := Sub.refl ((j, blk (qE x lk tl) 50) :: h)
      have bt : x.told[i].pairs.length <= 1048576 := hb.ts _ (List.getElem_mem hi2)
      have no : ¬ (zO x.told[i].house /\ pairsP x.told[i].pairs) -> ¬ liveP x nx := fun g p => g (p.2.2.2.2.2.2.2.1.1 _ (List.getElem_mem hi2))
      have more : (zO x.told[i].house /\ pairsP x.told[i].pairs) -> ∀ t ∈ x.told.take (i + 1), zO t.house /\ pairsP t.pairs := fun g t ht => by
       rw [List.take_succ_eq_append_getElem hi2] at ht
       rcases List.mem_append.1 ht with ht | ht
       ·exact hall t ht
       ·rw [List.mem_singleton.1 ht]; exact g
      refine qY _ (Sub.refl _) ?_
      simp only [wk, seval, wLive, hx, e0, e1, sR]
      refine l12House_c fun u1 hu1 => ?_
      cases u1 with
      | false =>
       simp only [wk, seval, wLive, hx, e0, e1, sR]
       exact k.dno s1 (no fun g => zG hu1 rfl g.1)
      | true =>
      simp only [wk, seval, wLive, hx, e0, e1, sR]
      refine l1Pairs_c sp (by omega) fun u2 hu2 => ?_
      cases u2 with
      | false =>
       simp only [wk, seval, wLive, hx, e0, e1, sR]
       exact k.dno s1 (no fun g => zG hu2 rfl g.2)
      | true =>
      simp only [wk, seval, wLive, hx, e0, e1, sR]
      have next : risU (·.house) x.told (i + 1) -> ∃ m, m < x.told.length - i /\ ∃ g, Tk.Sub g ((j, blk (qE x lk tl) 50) :: h) /\ ∃ i' : Nat, [Value.int .i64 ((i : Int) + 1)] = [Value.int .i64 i'] /\ g = (j, blk (qE x lk tl) 50) :: h /\ i' <= x.told.length /\ m = x.told.length - i' /\ (∀ t ∈ x.told.take i', zO t.house /\ pairsP t.pairs) /\ risU (·.house) x.told i' := fun g =>
       ⟨x.told.length - (i + 1), by omega, _, .refl _, i + 1, by simp, rfl, by omega, rfl, more ⟨hu1.1 rfl, hu2.1 rfl⟩, g⟩
      refine qF (fun g1 => ?_) fun g1 => ?_
      ·have hi3 : i - 1 < x.told.length := by omega
       obtain ⟨b3, o3, cs3, hx3, e3, rt3⟩ := zU r1.2 hi3
       obtain ⟨pv3, e03, e13, sp3⟩ := told_at (rTold.sub (Sub.refl _) rt3) e3
       have hw3 : IntKind.i64.wrap ((i : Int) - 1) = ((i - 1 : Nat) : Int) := by rw [qI _ ⟨by omega, by omega⟩]; omega
       simp only [wk, seval, wLive, hx, hx3, e03, e0, sR, hw3]
       refine ite_ge (fun g2 => k.dno s1 fun p => risU_not (k := (·.house)) hi2 (by omega) (by show ¬ x.told[i - 1].house < x.told[i].house; omega) p.2.2.2.2.2.2.2.1.2) fun g2 => ?_
       simp (disch := omega) only [wk, seval, qI, sR]
       exact next (risU_more hi2 (by omega) hris g2)
      ·simp (disch := omega) only [wk, seval, qI, sR]
       exact next (risU_one (by omega) hris)
     ·have ht : toldP x.told := ⟨by rw [List.take_of_length_le (by omega)] at hall; exact hall, risU_done (by omega) hris⟩
      refine qS [6] (fun n vs h' => ∃ i : Nat, vs = [.int .i64 i] /\ h' = (j, blk (qE x lk tl) 50) :: h /\ i <= x.locked.length /\ n = x.locked.length - i /\ allP zO (x.locked.take i) /\ risU id x.locked i) x.locked.length rfl ⟨0, rfl, rfl, by omega, rfl, allP_zero _ _, risU_zero _ _⟩ ?_
      rintro n f2 h' ⟨i, hv2, rfl, hi, rfl, hall2, hris2⟩
      simp only [lm4] at hv2
      simp only [wk, seval, wr, hv2, wLive, r1.2.len, r1.1.len]
      refine qF (fun d1 => ?_) fun d1 => ?_
      ·have hi2 : i < x.locked.length := by omega
       obtain ⟨b, o, hx, e⟩ := ls_at zC r1.1 hi2
       have e0 := zW e
       have sR := Sub.refl ((j, blk (qE x lk tl) 50) :: h)
       refine qY _ (Sub.refl _) ?_
       simp only [wk, seval, wLive, hx, e0, sR]
       refine l12House_c fun u1 hu1 => ?_
       cases u1 with
       | false =>
        simp only [wk, seval, wLive, hx, e0, sR]
        exact k.dno s1 fun p => allP_not hi2 (zG hu1 rfl) p.2.2.2.2.2.2.2.2.1
       | true =>
       simp only [wk, seval, wLive, hx, e0, sR]
       have next : risU id x.locked (i + 1) -> ∃ m, m < x.locked.length - i /\ ∃ g, Tk.Sub g ((j, blk (qE x lk tl) 50) :: h) /\ ∃ i' : Nat, [Value.int .i64 ((i : Int) + 1)] = [Value.int .i64 i'] /\ g = (j, blk (qE x lk tl) 50) :: h /\ i' <= x.locked.length /\ m = x.locked.length - i' /\ allP zO (x.locked.take i') /\ risU id x.locked i' := fun g =>
        ⟨x.locked.length - (i + 1), by omega, _, .refl _, i + 1, by simp, rfl, by omega, rfl, allP_more hi2 hall2 (hu1.1 rfl), g⟩
       refine qF (fun g1 => ?_) fun g1 => ?_
       ·have hi3 : i - 1 < x.locked.length := by omega
        obtain ⟨b3, o3, hx3, e3⟩ := ls_at zC r1.1 hi3
        have e03 := zW e3
        have hw3 : IntKind.i64.wrap ((i : Int) - 1) = ((i - 1 : Nat) : Int) := by rw [qI _ ⟨by omega, by omega⟩]; omega
        simp only [wk, seval, wLive, hx, hx3, e03, e0, sR, hw3]
        refine ite_ge (fun g2 => k.dno s1 fun p => risU_not (k := id) hi2 (by omega) (by simp only [id]; omega) p.2.2.2.2.2.2.2.2.2) fun g2 => ?_
        simp (disch := omega) only [wk, seval, qI, sR]
        exact next (risU_more hi2 (by omega) hris2 g2)
       ·simp (disch := omega) only [wk, seval, qI, sR]
        exact next (risU_one (by omega) hris2)
      ·exact ⟨h, s1, k.yes ⟨hq1.1 rfl, hq2.1 rfl, hq3.1 rfl, hq4.1 rfl, hq5.1 rfl, hp2, hp1, ht, allP_done (by omega) hall2, risU_done (by omega) hris2⟩⟩
   ·have hp1 : x.phase < 1 -> x.locked = [] := fun c => absurd c (by omega)
    refine qS [5] (fun n vs h' => ∃ i : Nat, vs = [.int .i64 i] /\ h' = (j, blk (qE x lk tl) 50) :: h /\ i <= x.told.length /\ n = x.told.length - i /\ (∀ t ∈ x.told.take i, zO t.house /\ pairsP t.pairs) /\ risU (·.house) x.told i) x.told.length rfl ⟨0, rfl, rfl, by omega, rfl, fun t ht => by simp at ht, risU_zero _ _⟩ ?_
    rintro n f h' ⟨i, hv, rfl, hi, rfl, hall, hris⟩
    simp only [lm4] at hv
    simp only [wk, seval, wr, hv, wLive, r1.2.len, r1.1.len]
    refine qF (fun d1 => ?_) fun d1 => ?_
    ·have hi2 : i < x.told.length := by omega
     obtain ⟨b, o, cs, hx, e, rt⟩ := zU r1.2 hi2
     obtain ⟨pv, e0, e1, sp⟩ := told_at (rTold.sub (Sub.refl _) rt) e
     have sR := Sub.refl ((j, blk (qE x lk tl) 50) :: h)
     have bt : x.told[i].pairs.length <= 1048576 := hb.ts _ (List.getElem_mem hi2)
     have no : ¬ (zO x.told[i].house /\ pairsP x.told[i].pairs) -> ¬ liveP x nx := fun g p => g (p.2.2.2.2.2.2.2.1.1 _ (List.getElem_mem hi2))
     have more : (zO x.told[i].house /\ pairsP x.told[i].pairs) -> ∀ t ∈ x.told.take (i + 1), zO t.house /\ pairsP t.pairs := fun g t ht => by
      rw [List.take_succ_eq_append_getElem hi2] at ht
      rcases List.mem_append.1 ht with ht | ht
      ·exact hall t ht
      ·rw [List.mem_singleton.1 ht]; exact g
     refine qY _ (Sub.refl _) ?_
     simp only [wk, seval, wLive, hx, e0, e1, sR]
     refine l12House_c fun u1 hu1 => ?_
     cases u1 with
     | false =>
      simp only [wk, seval, wLive, hx, e0, e1, sR]
      exact k.dno s1 (no fun g => zG hu1 rfl g.1)
     | true =>
     simp only [wk, seval, wLive, hx, e0, e1, sR]
     refine l1Pairs_c sp (by omega) fun u2 hu2 => ?_
     cases u2 with
     | false =>
      simp only [wk, seval, wLive, hx, e0, e1, sR]
      exact k.dno s1 (no fun g => zG hu2 rfl g.2)
     | true =>
     simp only [wk, seval, wLive, hx, e0, e1, sR]
     have next : risU (·.house) x.told (i + 1) -> ∃ m, m < x.told.length - i /\ ∃ g, Tk.Sub g ((j, blk (qE x lk tl) 50) :: h) /\ ∃ i' : Nat, [Value.int .i64 ((i : Int) + 1)] = [Value.int .i64 i'] /\ g = (j, blk (qE x lk tl) 50) :: h /\ i' <= x.told.length /\ m = x.told.length - i' /\ (∀ t ∈ x.told.take i', zO t.house /\ pairsP t.pairs) /\ risU (·.house) x.told i' := fun g =>
      ⟨x.told.length - (i + 1), by omega, _, .refl _, i + 1, by simp, rfl, by omega, rfl, more ⟨hu1.1 rfl, hu2.1 rfl⟩, g⟩
     refine qF (fun g1 => ?_) fun g1 => ?_
     ·have hi3 : i - 1 < x.told.length := by omega
      obtain ⟨b3, o3, cs3, hx3, e3, rt3⟩ := zU r1.2 hi3
      obtain ⟨pv3, e03, e13, sp3⟩ := told_at (rTold.sub (Sub.refl _) rt3) e3
      have hw3 : IntKind.i64.wrap ((i : Int) - 1) = ((i - 1 : Nat) : Int) := by rw [qI _ ⟨by omega, by omega⟩]; omega
      simp only [wk, seval, wLive, hx, hx3, e03, e0, sR, hw3]
      refine ite_ge (fun g2 => k.dno s1 fun p => risU_not (k := (·.house)) hi2 (by omega) (by show ¬ x.told[i - 1].house < x.told[i].house; omega) p.2.2.2.2.2.2.2.1.2) fun g2 => ?_
      simp (disch := omega) only [wk, seval, qI, sR]
      exact next (risU_more hi2 (by omega) hris g2)
     ·simp (disch := omega) only [wk, seval, qI, sR]
      exact next (risU_one (by omega) hris)
    ·have ht : toldP x.told := ⟨by rw [List.take_of_length_le (by omega)] at hall; exact hall, risU_done (by omega) hris⟩
     refine qS [6] (fun n vs h' => ∃ i : Nat, vs = [.int .i64 i] /\ h' = (j, blk (qE x lk tl) 50) :: h /\ i <= x.locked.length /\ n = x.locked.length - i /\ allP zO (x.locked.take i) /\ risU id x.locked i) x.locked.length rfl ⟨0, rfl, rfl, by omega, rfl, allP_zero _ _, risU_zero _ _⟩ ?_
     rintro n f2 h' ⟨i, hv2, rfl, hi, rfl, hall2, hris2⟩
     simp only [lm4] at hv2
     simp only [wk, seval, wr, hv2, wLive, r1.2.len, r1.1.len]
     refine qF (fun d1 => ?_) fun d1 => ?_
     ·have hi2 : i < x.locked.length := by omega
      obtain ⟨b, o, hx, e⟩ := ls_at zC r1.1 hi2
      have e0 := zW e
      have sR := Sub.refl ((j, blk (qE x lk tl) 50) :: h)
      refine qY _ (Sub.refl _) ?_
      simp only [wk, seval, wLive, hx, e0, sR]
      refine l12House_c fun u1 hu1 => ?_
      cases u1 with
      | false =>
       simp only [wk, seval, wLive, hx, e0, sR]
       exact k.dno s1 fun p => allP_not hi2 (zG hu1 rfl) p.2.2.2.2.2.2.2.2.1
      | true =>
      simp only [wk, seval, wLive, hx, e0, sR]
      have next : risU id x.locked (i + 1) -> ∃ m, m < x.locked.length - i /\ ∃ g, Tk.Sub g ((j, blk (qE x lk tl) 50) :: h) /\ ∃ i' : Nat, [Value.int .i64 ((i : Int) + 1)] = [Value.int .i64 i'] /\ g = (j, blk (qE x lk tl) 50) :: h /\ i' <= x.locked.length /\ m = x.locked.length - i' /\ allP zO (x.locked.take i') /\ risU id x.locked i' := fun g =>
       ⟨x.locked.length - (i + 1), by omega, _, .refl _, i + 1, by simp, rfl, by omega, rfl, allP_more hi2 hall2 (hu1.1 rfl), g⟩
      refine qF (fun g1 => ?_) fun g1 => ?_
      ·have hi3 : i - 1 < x.locked.length := by omega
       obtain ⟨b3, o3, hx3, e3⟩ := ls_at zC r1.1 hi3
       have e03 := zW e3
       have hw3 : IntKind.i64.wrap ((i : Int) - 1) = ((i - 1 : Nat) : Int) := by rw [qI _ ⟨by omega, by omega⟩]; omega
       simp only [wk, seval, wLive, hx, hx3, e03, e0, sR, hw3]
       refine ite_ge (fun g2 => k.dno s1 fun p => risU_not (k := id) hi2 (by omega) (by simp only [id]; omega) p.2.2.2.2.2.2.2.2.2) fun g2 => ?_
       simp (disch := omega) only [wk, seval, qI, sR]
       exact next (risU_more hi2 (by omega) hris2 g2)
      ·simp (disch := omega) only [wk, seval, qI, sR]
       exact next (risU_one (by omega) hris2)
     ·exact ⟨h, s1, k.yes ⟨hq1.1 rfl, hq2.1 rfl, hq3.1 rfl, hq4.1 rfl, hq5.1 rfl, hp2, hp1, ht, allP_done (by omega) hall2, risU_done (by omega) hris2⟩⟩
 ·have hp2 : x.phase < 2 -> x.told = [] := fun c => absurd c (by omega)
  refine qF (fun c => absurd c (by omega)) fun c3 => ?_
  have hp1 : x.phase < 1 -> x.locked = [] := fun c => absurd c (by omega)
  refine qS [5] (fun n vs h' => ∃ i : Nat, vs = [.int .i64 i] /\ h' = (j, blk (qE x lk tl) 50) :: h /\ i <= x.told.length /\ n = x.told.length - i /\ (∀ t ∈ x.told.take i, zO t.house /\ pairsP t.pairs) /\ risU (·.house) x.told i) x.told.length rfl ⟨0, rfl, rfl, by omega, rfl, fun t ht => by simp at ht, risU_zero _ _⟩ ?_
  rintro n f h' ⟨i, hv, rfl, hi, rfl, hall, hris⟩
  simp only [lm4] at hv
  simp only [wk, seval, wr, hv, wLive, r1.2.len, r1.1.len]
  refine qF (fun d1 => ?_) fun d1 => ?_
  ·have hi2 : i < x.told.length := by omega
   obtain ⟨b, o, cs, hx, e, rt⟩ := zU r1.2 hi2
   obtain ⟨pv, e0, e1, sp⟩ := told_at (rTold.sub (Sub.refl _) rt) e
   have sR := Sub.refl ((j, blk (qE x lk tl) 50) :: h)
   have bt : x.told[i].pairs.length <= 1048576 := hb.ts _ (List.getElem_mem hi2)
   have no : ¬ (zO x.told[i].house /\ pairsP x.told[i].pairs) -> ¬ liveP x nx := fun g p => g (p.2.2.2.2.2.2.2.1.1 _ (List.getElem_mem hi2))
   have more : (zO x.told[i].house /\ pairsP x.told[i].pairs) -> ∀ t ∈ x.told.take (i + 1), zO t.house /\ pairsP t.pairs := fun g t ht => by
    rw [List.take_succ_eq_append_getElem hi2] at ht
    rcases List.mem_append.1 ht with ht | ht
    ·exact hall t ht
    ·rw [List.mem_singleton.1 ht]; exact g
   refine qY _ (Sub.refl _) ?_
   simp only [wk, seval, wLive, hx, e0, e1, sR]
   refine l12House_c fun u1 hu1 => ?_
   cases u1 with
   | false =>
    simp only [wk, seval, wLive, hx, e0, e1, sR]
    exact k.dno s1 (no fun g => zG hu1 rfl g.1)
   | true =>
   simp only [wk, seval, wLive, hx, e0, e1, sR]
   refine l1Pairs_c sp (by omega) fun u2 hu2 => ?_
   cases u2 with
   | false =>
    simp only [wk, seval, wLive, hx, e0, e1, sR]
    exact k.dno s1 (no fun g => zG hu2 rfl g.2)
   | true =>
   simp only [wk, seval, wLive, hx, e0, e1, sR]
   have next : risU (·.house) x.told (i + 1) -> ∃ m, m < x.told.length - i /\ ∃ g, Tk.Sub g ((j, blk (qE x lk tl) 50) :: h) /\ ∃ i' : Nat, [Value.int .i64 ((i : Int) + 1)] = [Value.int .i64 i'] /\ g = (j, blk (qE x lk tl) 50) :: h /\ i' <= x.told.length /\ m = x.told.length - i' /\ (∀ t ∈ x.told.take i', zO t.house /\ pairsP t.pairs) /\ risU (·.house) x.told i' := fun g =>
    ⟨x.told.length - (i + 1), by omega, _, .refl _, i + 1, by simp, rfl, by omega, rfl, more ⟨hu1.1 rfl, hu2.1 rfl⟩, g⟩
   refine qF (fun g1 => ?_) fun g1 => ?_
   ·have hi3 : i - 1 < x.told.length := by omega
    obtain ⟨b3, o3, cs3, hx3, e3, rt3⟩ := zU r1.2 hi3
    obtain ⟨pv3, e03, e13, sp3⟩ := told_at (rTold.sub (Sub.refl _) rt3) e3
    have hw3 : IntKind.i64.wrap ((i : Int) - 1) = ((i - 1 : Nat) : Int) := by rw [qI _ ⟨by omega, by omega⟩]; omega
    simp only [wk, seval, wLive, hx, hx3, e03, e0, sR, hw3]
    refine ite_ge (fun g2 => k.dno s1 fun p => risU_not (k := (·.house)) hi2 (by omega) (by show ¬ x.told[i - 1].house < x.told[i].house; omega) p.2.2.2.2.2.2.2.1.2) fun g2 => ?_
    simp (disch := omega) only [wk, seval, qI, sR]
    exact next (risU_more hi2 (by omega) hris g2)
   ·simp (disch := omega) only [wk, seval, qI, sR]
    exact next (risU_one (by omega) hris)
  ·have ht : toldP x.told := ⟨by rw [List.take_of_length_le (by omega)] at hall; exact hall, risU_done (by omega) hris⟩
   refine qS [6] (fun n vs h' => ∃ i : Nat, vs = [.int .i64 i] /\ h' = (j, blk (qE x lk tl) 50) :: h /\ i <= x.locked.length /\ n = x.locked.length - i /\ allP zO (x.locked.take i) /\ risU id x.locked i) x.locked.length rfl ⟨0, rfl, rfl, by omega, rfl, allP_zero _ _, risU_zero _ _⟩ ?_
   rintro n f2 h' ⟨i, hv2, rfl, hi, rfl, hall2, hris2⟩
   simp only [lm4] at hv2
   simp only [wk, seval, wr, hv2, wLive, r1.2.len, r1.1.len]
   refine qF (fun d1 => ?_) fun d1 => ?_
   ·have hi2 : i < x.locked.length := by omega
    obtain ⟨b, o, hx, e⟩ := ls_at zC r1.1 hi2
    have e0 := zW e
    have sR := Sub.refl ((j, blk (qE x lk tl) 50) :: h)
    refine qY _ (Sub.refl _) ?_
    simp only [wk, seval, wLive, hx, e0, sR]
    refine l12House_c fun u1 hu1 => ?_
    cases u1 with
    | false =>
     simp only [wk, seval, wLive, hx, e0, sR]
     exact k.dno s1 fun p => allP_not hi2 (zG hu1 rfl) p.2.2.2.2.2.2.2.2.1
    | true =>
    simp only [wk, seval, wLive, hx, e0, sR]
    have next : risU id x.locked (i + 1) -> ∃ m, m < x.locked.length - i /\ ∃ g, Tk.Sub g ((j, blk (qE x lk tl) 50) :: h) /\ ∃ i' : Nat, [Value.int .i64 ((i : Int) + 1)] = [Value.int .i64 i'] /\ g = (j, blk (qE x lk tl) 50) :: h /\ i' <= x.locked.length /\ m = x.locked.length - i' /\ allP zO (x.locked.take i') /\ risU id x.locked i' := fun g =>
     ⟨x.locked.length - (i + 1), by omega, _, .refl _, i + 1, by simp, rfl, by omega, rfl, allP_more hi2 hall2 (hu1.1 rfl), g⟩
    refine qF (fun g1 => ?_) fun g1 => ?_
    ·have hi3 : i - 1 < x.locked.length := by omega
     obtain ⟨b3, o3, hx3, e3⟩ := ls_at zC r1.1 hi3
     have e03 := zW e3
     have hw3 : IntKind.i64.wrap ((i : Int) - 1) = ((i - 1 : Nat) : Int) := by rw [qI _ ⟨by omega, by omega⟩]; omega
     simp only [wk, seval, wLive, hx, hx3, e03, e0, sR, hw3]
     refine ite_ge (fun g2 => k.dno s1 fun p => risU_not (k := id) hi2 (by omega) (by simp only [id]; omega) p.2.2.2.2.2.2.2.2.2) fun g2 => ?_
     simp (disch := omega) only [wk, seval, qI, sR]
     exact next (risU_more hi2 (by omega) hris2 g2)
    ·simp (disch := omega) only [wk, seval, qI, sR]
     exact next (risU_one (by omega) hris2)
   ·exact ⟨h, s1, k.yes ⟨hq1.1 rfl, hq2.1 rfl, hq3.1 rfl, hq4.1 rfl, hq5.1 rfl, hp2, hp1, ht, allP_done (by omega) hall2, risU_done (by omega) hris2⟩⟩
end Go.Proofs.YtgbapakcfmgahaaGreatDoor
end
