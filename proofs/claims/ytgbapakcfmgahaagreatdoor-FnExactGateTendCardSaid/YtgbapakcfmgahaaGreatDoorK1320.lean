/- Parts of the proof, put together: Y7, Z4, Z5, GG, P18, ZA, X2. -/
import Derived.ChangeArms
import Derived.Test.YtgbapakcfmgahaaGreatDoorK1319
import Derived.Test.YtgbapakcfmgahaaGreatDoorK1318
import Derived.Test.YtgbapakcfmgahaaGreatDoorK1316
import Derived.Test.YtgbapakcfmgahaaGreatDoorK1313
import Derived.Test.YtgbapakcfmgahaaGreatDoorK1314
import Derived.Test.YtgbapakcfmgahaaGreatDoorK1317
set_option linter.unusedVariables false
set_option linter.unusedSimpArgs false
set_option linter.defProp false
section
set_option maxRecDepth 20000
attribute [local irreducible] Go.Tk.vc Go.Tk.vops Go.Tk.vdr Go.Tk.vop Go.Tk.vfl Go.Tk.HCalls
namespace Go.Proofs.YtgbapakcfmgahaaGreatDoor
open Go Go.Tk
set_option maxHeartbeats 2000000 in
theorem specGateOk_c {h : H} {g : DGate} {lg lv wy : Value} (r : sGate h g lg lv wy) (hb : bGate g) {R : Ending -> H -> Prop} (k : Asks R (gateOkP g) h) : HCalls Tryz.prog 16 #[.agg (cGate g lg lv wy).toArray] h R := by
 refine qB (args := [.agg (cGate g lg lv wy).toArray]) Tryz.func16 ir16 ?_
 have b1 := hb.lives; have b2 := hb.ways; have b3 := hb.log
 unfold lim at b1 b2 b3
 simp only [wk, seval, zB]
 refine qA (o := blk (cGate g lg lv wy) 34) fun j hj => ?_
 have s1 := Sub.cons (o := blk (cGate g lg lv wy) 34) hj (Sub.refl h)
 have r1 := r.sub s1
 obtain ⟨M, hM⟩ : ∃ M, M = (j, blk (cGate g lg lv wy) 34) :: h := ⟨_, rfl⟩
 have f0 : hcel M j 0 = some (.bool g.up) := by rw [hM]; simp only [wk, seval, zB]
 have f1 : hcel M j 1 = some (.int .i64 g.life) := by rw [hM]; simp only [wk, seval, zB]
 have f2 : hcel M j 2 = some (.int .i64 g.next) := by rw [hM]; simp only [wk, seval, zB]
 have f3 : hcel M j 3 = some lg := by rw [hM]; simp only [wk, seval, zB]
 have f4 : hcel M j 4 = some lv := by rw [hM]; simp only [wk, seval, zB]
 have f5 : hcel M j 5 = some wy := by rw [hM]; simp only [wk, seval, zB]
 have fa : qQ M j 0 6 = some (cGate g lg lv wy) := by rw [hM]; simp only [wk, seval, zB]
 rw [<- hM] at r1 s1 ⊢
 simp only [wk, seval, zB, f0, f1, f2, f3, f4, f5]
 refine l6In_c fun q1 hq1 => ?_
 cases q1 with
 | false =>
  simp only [wk, seval, zB, f0, f1, f2, f3, f4, f5]
  exact k.dno s1 fun p => zG hq1 rfl p.1
 | true =>
 simp only [wk, seval, zB, f0, f1, f2, f3, f4, f5]
 refine l6In_c fun q2 hq2 => ?_
 cases q2 with
 | false =>
  simp only [wk, seval, zB, f0, f1, f2, f3, f4, f5]
  exact k.dno s1 fun p => zG hq2 rfl p.2.1
 | true =>
 simp only [wk, seval, zB, f0, f1, f2, f3, f4, f5]
 refine l22LogOk_c r1.1 (by omega) hb.recs (hq2.1 rfl) fun q3 hq3 => ?_
 cases q3 with
 | false =>
  simp only [wk, seval, zB, f0, f1, f2, f3, f4, f5]
  exact k.dno s1 fun p => zG hq3 rfl p.2.2.1
 | true =>
 simp only [wk, seval, zB, f0, f1, f2, f3, f4, f5, r1.2.1.len, r1.2.2.len]
 refine qF (fun c1 => k.dno s1 fun p => ?_) fun c1 => ?_
 ·have := p.2.2.2.1.1; omega
 cases hup : g.up with
 | false =>
  simp (disch := omega) only [wk, seval, zB, f0, f1, f2, f3, f4, f5, r1.2.1.len, r1.2.2.len, qI]
  refine qF (fun c2 => k.dno s1 fun p => ?_) fun c2 => ?_
  ·have := p.2.2.2.2.1 hup
   rw [this.1, this.2] at c2; simp at c2
  ·have hemp : g.up = false -> g.lives = [] /\ g.ways = [] := fun _ => ⟨List.eq_nil_of_length_eq_zero (by omega), List.eq_nil_of_length_eq_zero (by omega)⟩
   refine qS [3] (fun n vs h' => ∃ i : Nat, vs = [.int .i64 i] /\ h' = M /\ i <= g.lives.length /\ n = g.lives.length - i /\ (∀ x ∈ g.lives.take i, liveP x g.next /\ (∀ r ∈ g.log, r.stamp ≠ x.stamp) /\ ∀ r, lastOf g.log x.call.session = some r -> r.call.number < x.call.number) /\ risU (·.stamp) g.lives i /\
     ∀ q p (hp : p < g.lives.length) (hq : q < p), p < i -> (g.lives[q]'(by omega)).call.session ≠ g.lives[p].call.session) g.lives.length rfl ⟨0, rfl, rfl, by omega, by omega, by simp, risU_zero _ _, fun q p hp hq h => absurd h (Nat.not_lt_zero _)⟩ ?_
   rintro n f h' ⟨i, hv, rfl, hi, rfl, hall, hris, hses⟩
   simp only [lm4] at hv
   simp only [wk, seval, wr, hv, f4, r1.2.1.len]
   refine qF (fun d1 => ?_) fun d1 => ?_
   ·have hi2 : i < g.lives.length := by omega
    have zl := zLive_eq
    obtain ⟨b, o, cs, hx, e, a1, a2, rfl, sr⟩ := zU r1.2.1 hi2
    have hone := wLive.2.2.2.2.2.2.2.2.2.2.2.2.2.2.2.1 g.lives[i] a1 a2 (rdS.one sr.1) (rRs.one sr.2)
    simp only [wk, seval, hx, e, zl, wLive]
    refine qA (o := blk (qE zLive (.slice none 0 0) (.slice none 0 0)) 50) fun j4 hj4 => ?_
    simp only [wk, seval, zl, wLive, hone]
    obtain ⟨B, hB⟩ : ∃ B, B = (j4, blk (qE g.lives[i] a1 a2) 50) :: h' := ⟨_, rfl⟩
    have sB : Tk.Sub h' B := by rw [hB]; exact Sub.cons hj4 (Sub.refl _)
    have g2' := zT sB f2
    have g3' := zT sB f3
    have g4' := zT sB f4
    have la : qQ B j4 0 12 = some (qE g.lives[i] a1 a2) := by rw [hB]; simp only [wk, seval, wLive]
    have l0 : hcel B j4 0 = some (.int .i64 g.lives[i].stamp) := by rw [hB]; simp only [wk, seval, wLive]
    have l4 : hcel B j4 4 = some (.int .i64 g.lives[i].call.session) := by rw [hB]; simp only [wk, seval, wLive]
    have l5 : hcel B j4 5 = some (.int .i64 g.lives[i].call.number) := by rw [hB]; simp only [wk, seval, wLive]
    have rl : rRs B (rLive h') 12 lv g.lives := r1.2.1.subH sB
    have rg : rRs B (rRecord B) 11 lg g.log := (r1.1.subH sB).relImp fun _ _ x => rRecord.sub sB x
    have s2 := s1.trans sB
    have sBB := Sub.refl B
    rw [<- hB]
    refine qY _ (Sub.refl _) ?_
    simp only [wk, seval, la, g2', g3', g4', l0, l4, l5, sBB]
    have bad : ¬ (liveP g.lives[i] g.next /\ (∀ r ∈ g.log, r.stamp ≠ g.lives[i].stamp) /\ ∀ r, lastOf g.log g.lives[i].call.session = some r -> r.call.number < g.lives[i].call.number) -> ¬ gateOkP g := fun q p => q (p.2.2.2.1.2.1 _ (List.getElem_mem hi2))
    refine l22LiveOk_c (sLive.sub sB sr) (hb.live _ (List.getElem_mem hi2)) (hq2.1 rfl) fun u1 hu1 => ?_
    cases u1 with
    | false =>
     simp only [wk, seval, la, g2', g3', g4', l0, l4, l5, sBB]
     exact k.dno s2 (bad fun q => zG hu1 rfl q.1)
    | true =>
    simp only [wk, seval, la, g2', g3', g4', l0, l4, l5, sBB]
    refine qF (fun y1 => ?_) fun y1 => ?_
    ·have hi3 : i - 1 < g.lives.length := by omega
     obtain ⟨b3, o3, cs3, hx3, e3, a13, a23, rfl, sr3⟩ := zU rl hi3
     have y0 : hcel B b3 o3 = some (.int .i64 g.lives[i - 1].stamp) := by have := qW e3 0 rfl; rw [Nat.add_zero] at this; exact this
     have hw3 : IntKind.i64.wrap ((i : Int) - 1) = ((i - 1 : Nat) : Int) := by rw [qI _ ⟨by omega, by omega⟩]; omega
     simp only [wk, seval, hx3, y0, hw3, la, g2', g3', g4', l0, l4, l5, sBB]
     refine ite_ge (fun y2 => k.dno s2 fun p => risU_not (k := (·.stamp)) hi2 (by omega) (by show ¬ g.lives[i - 1].stamp < g.lives[i].stamp; omega) p.2.2.2.1.2.2.1) fun y2 => ?_
     have hris2 := risU_more hi2 (by omega) hris y2
     try simp only [wk, seval, la, g2', g3', g4', l0, l4, l5, sBB]
     refine qS [5] (fun n vs h2 => ∃ p : Nat, vs = [.int .i64 p] /\ h2 = B /\ p <= g.log.length /\ n = g.log.length - p /\ ∀ r ∈ g.log.take p, r.stamp ≠ g.lives[i].stamp) g.log.length rfl ⟨0, rfl, rfl, by omega, by omega, by simp⟩ ?_
     rintro n2 f2 h2 ⟨p, hv2, rfl, hp, rfl, hst⟩
     simp only [lm4] at hv2
     simp only [wk, seval, wr, hv2, g3', rg.len]
     refine qF (fun e1 => ?_) fun e1 => ?_
     ·have hp2 : p < g.log.length := by omega
      obtain ⟨b', o', cs', hx', e', a1', a2', rfl, sr'⟩ := zU rg hp2
      have q0 : hcel h2 b' o' = some (.int .i64 g.log[p].stamp) := by have := qW e' 0 rfl; rw [Nat.add_zero] at this; exact this
      refine qY _ (Sub.refl _) ?_
      simp only [wk, seval, g3', hx', q0, l0, Sub.refl h2]
      refine qZ (fun c5 => k.dno s2 (bad fun q => q.2.1 _ (List.getElem_mem hp2) c5)) fun c5 => ?_
      simp (disch := omega) only [qI]
      exact ⟨g.log.length - (p + 1), by omega, _, .refl _, p + 1, by simp, rfl, by omega, rfl, fun x hx => by
       rw [List.take_succ_eq_append_getElem hp2] at hx
       rcases List.mem_append.1 hx with hx | hx
       ·exact hst x hx
       ·rw [List.mem_singleton.1 hx]; exact c5⟩
     ·rw [List.take_of_length_le (by omega)] at hst
      refine qS [6] (fun n vs h3 => ∃ p : Nat, vs = [.int .i64 p] /\ h3 = h2 /\ p <= i /\ n = i - p /\ ∀ q (hq : q < p) (hq2 : q < g.lives.length), g.lives[q].call.session ≠ g.lives[i].call.session) i rfl ⟨0, rfl, rfl, by omega, by omega, fun q hq => absurd hq (by omega)⟩ ?_
      rintro n3 f3 h3 ⟨p3, hv3, rfl, hp3, rfl, hss⟩
      simp only [lm4] at hv3
      simp only [wk, seval, wr, hv3]
      refine qF (fun e2 => ?_) fun e2 => ?_
      ·have hp4 : p3 < g.lives.length := by omega
       obtain ⟨b', o', cs', hx', e', a1', a2', rfl, sr'⟩ := zU rl hp4
       have q4 : hcel h3 b' (o' + 4) = some (.int .i64 g.lives[p3].call.session) := qW e' 4 rfl
       refine qY _ (Sub.refl _) ?_
       simp only [wk, seval, g4', hx', q4, l4, Sub.refl h3]
       refine qZ (fun c5 => k.dno s2 (fun q => q.2.2.2.1.2.2.2 p3 i hi2 (by omega) c5)) fun c5 => ?_
       simp (disch := omega) only [qI]
       exact ⟨i - (p3 + 1), by omega, _, .refl _, p3 + 1, by simp, rfl, by omega, rfl, fun q hq hq2 => by
        by_cases c : q = p3
        ·subst c; exact c5
        ·exact hss q (by omega) hq2⟩
      ·have hpi : p3 = i := by omega
       subst hpi
       simp only [wk, seval, g3', l4]
       obtain ⟨d, x1, x2, ok, sd, hlast, hcl⟩ := l22Last_x (s := g.lives[p3].call.session) rg (by omega)
       refine hcl _ ?_
       have zr := zRecord_eq
       simp only [wk, seval, zr]
       refine qA (o := blk (qC zRecord (.slice none 0 0) (.slice none 0 0)) 97) fun j8 hj8 => ?_
       have hone8 := wRecord.2.2.2.2.2.2.2.2.2.2.2.2.2.2.1 d x1 x2 (rdS.one sd.1) (rdS.one sd.2)
       have s9 : ∀ o, Tk.Sub h3 ((j8, o) :: h3) := fun o => Sub.cons hj8 (Sub.refl _)
       have l5' := zT (s9 (blk (qC d x1 x2) 97)) l5
       have fin : (∀ r, lastOf g.log g.lives[p3].call.session = some r -> r.call.number < g.lives[p3].call.number) -> ∃ m, m < g.lives.length - p3 /\ ∃ gg, Tk.Sub gg ((j8, blk (qC d x1 x2) 97) :: h3) /\ ∃ i' : Nat, [Value.int .i64 ((p3 : Int) + 1)] = [Value.int .i64 i'] /\ gg = h' /\ i' <= g.lives.length /\ m = g.lives.length - i' /\ (∀ x ∈ g.lives.take i', liveP x g.next /\ (∀ r ∈ g.log, r.stamp ≠ x.stamp) /\ ∀ r, lastOf g.log x.call.session = some r -> r.call.number < x.call.number) /\ risU (·.stamp) g.lives i' /\
         ∀ q p (hp : p < g.lives.length) (hq : q < p), p < i' -> (g.lives[q]'(by omega)).call.session ≠ g.lives[p].call.session := fun hlst =>
        ⟨g.lives.length - (p3 + 1), by omega, h', sB.trans (s9 _), p3 + 1, by simp, rfl, by omega, rfl, fun x hx => by
         rw [List.take_succ_eq_append_getElem hi2] at hx
         rcases List.mem_append.1 hx with hx | hx
         ·exact hall x hx
         ·rw [List.mem_singleton.1 hx]; exact ⟨hu1.1 rfl, hst, hlst⟩, hris2, fun q p hp hq hpi => by
         by_cases c : p = p3
         ·subst c; exact hss q hq (by omega)
         ·exact hses q p hp hq (by omega)⟩
       have s8 := Sub_new (o := blk (qC zRecord (.slice none 0 0) (.slice none 0 0)) 97) hj8
       simp only [wk, seval, s8, zr, wRecord, hone8]
       cases ok with
       | false =>
        simp (disch := omega) only [wk, seval, qI]
        exact fin fun x hx => by rw [hlast] at hx; simp at hx
       | true =>
        simp only [wk, seval, l5', wRecord]
        refine ite_ge (fun c7 => k.dno (s2.trans (s9 _)) (bad fun q => ?_)) fun c7 => ?_
        ·have := q.2.2 d (by rw [hlast]; rfl)
         omega
        ·simp (disch := omega) only [wk, seval, qI]
         refine fin fun x hx => ?_
         rw [hlast] at hx
         cases hx
         omega
    ·have hris2 : risU (·.stamp) g.lives (i + 1) := risU_one (by omega) hris
     try simp only [wk, seval, la, g2', g3', g4', l0, l4, l5, sBB]
     refine qS [5] (fun n vs h2 => ∃ p : Nat, vs = [.int .i64 p] /\ h2 = B /\ p <= g.log.length /\ n = g.log.length - p /\ ∀ r ∈ g.log.take p, r.stamp ≠ g.lives[i].stamp) g.log.length rfl ⟨0, rfl, rfl, by omega, by omega, by simp⟩ ?_
     rintro n2 f2 h2 ⟨p, hv2, rfl, hp, rfl, hst⟩
     simp only [lm4] at hv2
     simp only [wk, seval, wr, hv2, g3', rg.len]
     refine qF (fun e1 => ?_) fun e1 => ?_
     ·have hp2 : p < g.log.length := by omega
      obtain ⟨b', o', cs', hx', e', a1', a2', rfl, sr'⟩ := zU rg hp2
      have q0 : hcel h2 b' o' = some (.int .i64 g.log[p].stamp) := by have := qW e' 0 rfl; rw [Nat.add_zero] at this; exact this
      refine qY _ (Sub.refl _) ?_
      simp only [wk, seval, g3', hx', q0, l0, Sub.refl h2]
      refine qZ (fun c5 => k.dno s2 (bad fun q => q.2.1 _ (List.getElem_mem hp2) c5)) fun c5 => ?_
      simp (disch := omega) only [qI]
      exact ⟨g.log.length - (p + 1), by omega, _, .refl _, p + 1, by simp, rfl, by omega, rfl, fun x hx => by
       rw [List.take_succ_eq_append_getElem hp2] at hx
       rcases List.mem_append.1 hx with hx | hx
       ·exact hst x hx
       ·rw [List.mem_singleton.1 hx]; exact c5⟩
     ·rw [List.take_of_length_le (by omega)] at hst
      refine qS [6] (fun n vs h3 => ∃ p : Nat, vs = [.int .i64 p] /\ h3 = h2 /\ p <= i /\ n = i - p /\ ∀ q (hq : q < p) (hq2 : q < g.lives.length), g.lives[q].call.session ≠ g.lives[i].call.session) i rfl ⟨0, rfl, rfl, by omega, by omega, fun q hq => absurd hq (by omega)⟩ ?_
      rintro n3 f3 h3 ⟨p3, hv3, rfl, hp3, rfl, hss⟩
      simp only [lm4] at hv3
      simp only [wk, seval, wr, hv3]
      refine qF (fun e2 => ?_) fun e2 => ?_
      ·have hp4 : p3 < g.lives.length := by omega
       obtain ⟨b', o', cs', hx', e', a1', a2', rfl, sr'⟩ := zU rl hp4
       have q4 : hcel h3 b' (o' + 4) = some (.int .i64 g.lives[p3].call.session) := qW e' 4 rfl
       refine qY _ (Sub.refl _) ?_
       simp only [wk, seval, g4', hx', q4, l4, Sub.refl h3]
       refine qZ (fun c5 => k.dno s2 (fun q => q.2.2.2.1.2.2.2 p3 i hi2 (by omega) c5)) fun c5 => ?_
       simp (disch := omega) only [qI]
       exact ⟨i - (p3 + 1), by omega, _, .refl _, p3 + 1, by simp, rfl, by omega, rfl, fun q hq hq2 => by
        by_cases c : q = p3
        ·subst c; exact c5
        ·exact hss q (by omega) hq2⟩
      ·have hpi : p3 = i := by omega
       subst hpi
       simp only [wk, seval, g3', l4]
       obtain ⟨d, x1, x2, ok, sd, hlast, hcl⟩ := l22Last_x (s := g.lives[p3].call.session) rg (by omega)
       refine hcl _ ?_
       have zr := zRecord_eq
       simp only [wk, seval, zr]
       refine qA (o := blk (qC zRecord (.slice none 0 0) (.slice none 0 0)) 97) fun j8 hj8 => ?_
       have hone8 := wRecord.2.2.2.2.2.2.2.2.2.2.2.2.2.2.1 d x1 x2 (rdS.one sd.1) (rdS.one sd.2)
       have s9 : ∀ o, Tk.Sub h3 ((j8, o) :: h3) := fun o => Sub.cons hj8 (Sub.refl _)
       have l5' := zT (s9 (blk (qC d x1 x2) 97)) l5
       have fin : (∀ r, lastOf g.log g.lives[p3].call.session = some r -> r.call.number < g.lives[p3].call.number) -> ∃ m, m < g.lives.length - p3 /\ ∃ gg, Tk.Sub gg ((j8, blk (qC d x1 x2) 97) :: h3) /\ ∃ i' : Nat, [Value.int .i64 ((p3 : Int) + 1)] = [Value.int .i64 i'] /\ gg = h' /\ i' <= g.lives.length /\ m = g.lives.length - i' /\ (∀ x ∈ g.lives.take i', liveP x g.next /\ (∀ r ∈ g.log, r.stamp ≠ x.stamp) /\ ∀ r, lastOf g.log x.call.session = some r -> r.call.number < x.call.number) /\ risU (·.stamp) g.lives i' /\
         ∀ q p (hp : p < g.lives.length) (hq : q < p), p < i' -> (g.lives[q]'(by omega)).call.session ≠ g.lives[p].call.session := fun hlst =>
        ⟨g.lives.length - (p3 + 1), by omega, h', sB.trans (s9 _), p3 + 1, by simp, rfl, by omega, rfl, fun x hx => by
         rw [List.take_succ_eq_append_getElem hi2] at hx
         rcases List.mem_append.1 hx with hx | hx
         ·exact hall x hx
         ·rw [List.mem_singleton.1 hx]; exact ⟨hu1.1 rfl, hst, hlst⟩, hris2, fun q p hp hq hpi => by
         by_cases c : p = p3
         ·subst c; exact hss q hq (by omega)
         ·exact hses q p hp hq (by omega)⟩
       have s8 := Sub_new (o := blk (qC zRecord (.slice none 0 0) (.slice none 0 0)) 97) hj8
       simp only [wk, seval, s8, zr, wRecord, hone8]
       cases ok with
       | false =>
        simp (disch := omega) only [wk, seval, qI]
        exact fin fun x hx => by rw [hlast] at hx; simp at hx
       | true =>
        simp only [wk, seval, l5', wRecord]
        refine ite_ge (fun c7 => k.dno (s2.trans (s9 _)) (bad fun q => ?_)) fun c7 => ?_
        ·have := q.2.2 d (by rw [hlast]; rfl)
         omega
        ·simp (disch := omega) only [wk, seval, qI]
         refine fin fun x hx => ?_
         rw [hlast] at hx
         cases hx
         omega
   ·have hil : i = g.lives.length := by omega
    simp only [wk, seval, fa]
    refine l22WaysOk_c r1 hb fun u2 hu2 => ?_
    simp only [wk, seval]
    refine ⟨h, s1, k u2 (hu2.trans ⟨fun w => ⟨hq1.1 rfl, hq2.1 rfl, hq3.1 rfl, ⟨by omega, ?_, risU_done (by omega) hris, fun q p hp hq => hses q p hp hq (by omega)⟩, hemp, w⟩, fun w => w.2.2.2.2.2⟩)⟩
    rw [List.take_of_length_le (by omega)] at hall
    exact hall
 | true =>
  simp only [wk, seval, zB, f0, f1, f2, f3, f4, f5, r1.2.1.len, r1.2.2.len]
  have hemp : g.up = false -> g.lives = [] /\ g.ways = [] := fun c => (by rw [hup] at c; cases c)
  refine qS [3] (fun n vs h' => ∃ i : Nat, vs = [.int .i64 i] /\ h' = M /\ i <= g.lives.length /\ n = g.lives.length - i /\ (∀ x ∈ g.lives.take i, liveP x g.next /\ (∀ r ∈ g.log, r.stamp ≠ x.stamp) /\ ∀ r, lastOf g.log x.call.session = some r -> r.call.number < x.call.number) /\ risU (·.stamp) g.lives i /\
    ∀ q p (hp : p < g.lives.length) (hq : q < p), p < i -> (g.lives[q]'(by omega)).call.session ≠ g.lives[p].call.session) g.lives.length rfl ⟨0, rfl, rfl, by omega, by omega, by simp, risU_zero _ _, fun q p hp hq h => absurd h (Nat.not_lt_zero _)⟩ ?_
  rintro n f h' ⟨i, hv, rfl, hi, rfl, hall, hris, hses⟩
  simp only [lm4] at hv
  simp only [wk, seval, wr, hv, f4, r1.2.1.len]
  refine qF (fun d1 => ?_) fun d1 => ?_
  ·have hi2 : i < g.lives.length := by omega
   have zl := zLive_eq
   obtain ⟨b, o, cs, hx, e, a1, a2, rfl, sr⟩ := zU r1.2.1 hi2
   have hone := wLive.2.2.2.2.2.2.2.2.2.2.2.2.2.2.2.1 g.lives[i] a1 a2 (rdS.one sr.1) (rRs.one sr.2)
   simp only [wk, seval, hx, e, zl, wLive]
   refine qA (o := blk (qE zLive (.slice none 0 0) (.slice none 0 0)) 50) fun j4 hj4 => ?_
   simp only [wk, seval, zl, wLive, hone]
   obtain ⟨B, hB⟩ : ∃ B, B = (j4, blk (qE g.lives[i] a1 a2) 50) :: h' := ⟨_, rfl⟩
   have sB : Tk.Sub h' B := by rw [hB]; exact Sub.cons hj4 (Sub.refl _)
   have g2' := zT sB f2
   have g3' := zT sB f3
   have g4' := zT sB f4
   have la : qQ B j4 0 12 = some (qE g.lives[i] a1 a2) := by rw [hB]; simp only [wk, seval, wLive]
   have l0 : hcel B j4 0 = some (.int .i64 g.lives[i].stamp) := by rw [hB]; simp only [wk, seval, wLive]
   have l4 : hcel B j4 4 = some (.int .i64 g.lives[i].call.session) := by rw [hB]; simp only [wk, seval, wLive]
   have l5 : hcel B j4 5 = some (.int .i64 g.lives[i].call.number) := by rw [hB]; simp only [wk, seval, wLive]
   have rl : rRs B (rLive h') 12 lv g.lives := r1.2.1.subH sB
   have rg : rRs B (rRecord B) 11 lg g.log := (r1.1.subH sB).relImp fun _ _ x => rRecord.sub sB x
   have s2 := s1.trans sB
   have sBB := Sub.refl B
   rw [<- hB]
   refine qY _ (Sub.refl _) ?_
   simp only [wk, seval, la, g2', g3', g4', l0, l4, l5, sBB]
   have bad : ¬ (liveP g.lives[i] g.next /\ (∀ r ∈ g.log, r.stamp ≠ g.lives[i].stamp) /\ ∀ r, lastOf g.log g.lives[i].call.session = some r -> r.call.number < g.lives[i].call.number) -> ¬ gateOkP g := fun q p => q (p.2.2.2.1.2.1 _ (List.getElem_mem hi2))
   refine l22LiveOk_c (sLive.sub sB sr) (hb.live _ (List.getElem_mem hi2)) (hq2.1 rfl) fun u1 hu1 => ?_
   cases u1 with
   | false =>
    simp only [wk, seval, la, g2', g3', g4', l0, l4, l5, sBB]
    exact k.dno s2 (bad fun q => zG hu1 rfl q.1)
   | true =>
   simp only [wk, seval, la, g2', g3', g4', l0, l4, l5, sBB]
   refine qF (fun y1 => ?_) fun y1 => ?_
   ·have hi3 : i - 1 < g.lives.length := by omega
    obtain ⟨b3, o3, cs3, hx3, e3, a13, a23, rfl, sr3⟩ := zU rl hi3
    have y0 : hcel B b3 o3 = some (.int .i64 g.lives[i - 1].stamp) := by have := qW e3 0 rfl; rw [Nat.add_zero] at this; exact this
    have hw3 : IntKind.i64.wrap ((i : Int) - 1) = ((i - 1 : Nat) : Int) := by rw [qI _ ⟨by omega, by omega⟩]; omega
    simp only [wk, seval, hx3, y0, hw3, la, g2', g3', g4', l0, l4, l5, sBB]
    refine ite_ge (fun y2 => k.dno s2 fun p => risU_not (k := (·.stamp)) hi2 (by omega) (by show ¬ g.lives[i - 1].stamp < g.lives[i].stamp; omega) p.2.2.2.1.2.2.1) fun y2 => ?_
    have hris2 := risU_more hi2 (by omega) hris y2
    try simp only [wk, seval, la, g2', g3', g4', l0, l4, l5, sBB]
    refine qS [5] (fun n vs h2 => ∃ p : Nat, vs = [.int .i64 p] /\ h2 = B /\ p <= g.log.length /\ n = g.log.length - p /\ ∀ r ∈ g.log.take p, r.stamp ≠ g.lives[i].stamp) g.log.length rfl ⟨0, rfl, rfl, by omega, by omega, by simp⟩ ?_
    rintro n2 f2 h2 ⟨p, hv2, rfl, hp, rfl, hst⟩
    simp only [lm4] at hv2
    simp only [wk, seval, wr, hv2, g3', rg.len]
    refine qF (fun e1 => ?_) fun e1 => ?_
    ·have hp2 : p < g.log.length := by omega
     obtain ⟨b', o', cs', hx', e', a1', a2', rfl, sr'⟩ := zU rg hp2
     have q0 : hcel h2 b' o' = some (.int .i64 g.log[p].stamp) := by have := qW e' 0 rfl; rw [Nat.add_zero] at this; exact this
     refine qY _ (Sub.refl _) ?_
     simp only [wk, seval, g3', hx', q0, l0, Sub.refl h2]
     refine qZ (fun c5 => k.dno s2 (bad fun q => q.2.1 _ (List.getElem_mem hp2) c5)) fun c5 => ?_
     simp (disch := omega) only [qI]
     exact ⟨g.log.length - (p + 1), by omega, _, .refl _, p + 1, by simp, rfl, by omega, rfl, fun x hx => by
      rw [List.take_succ_eq_append_getElem hp2] at hx
      rcases List.mem_append.1 hx with hx | hx
      ·exact hst x hx
      ·rw [List.mem_singleton.1 hx]; exact c5⟩
    ·rw [List.take_of_length_le (by omega)] at hst
     refine qS [6] (fun n vs h3 => ∃ p : Nat, vs = [.int .i64 p] /\ h3 = h2 /\ p <= i /\ n = i - p /\ ∀ q (hq : q < p) (hq2 : q < g.lives.length), g.lives[q].call.session ≠ g.lives[i].call.session) i rfl ⟨0, rfl, rfl, by omega, by omega, fun q hq => absurd hq (by omega)⟩ ?_
     rintro n3 f3 h3 ⟨p3, hv3, rfl, hp3, rfl, hss⟩
     simp only [lm4] at hv3
     simp only [wk, seval, wr, hv3]
     refine qF (fun e2 => ?_) fun e2 => ?_
     ·have hp4 : p3 < g.lives.length := by omega
      obtain ⟨b', o', cs', hx', e', a1', a2', rfl, sr'⟩ := zU rl hp4
      have q4 : hcel h3 b' (o' + 4) = some (.int .i64 g.lives[p3].call.session) := qW e' 4 rfl
      refine qY _ (Sub.refl _) ?_
      simp only [wk, seval, g4', hx', q4, l4, Sub.refl h3]
      refine qZ (fun c5 => k.dno s2 (fun q => q.2.2.2.1.2.2.2 p3 i hi2 (by omega) c5)) fun c5 => ?_
      simp (disch := omega) only [qI]
      exact ⟨i - (p3 + 1), by omega, _, .refl _, p3 + 1, by simp, rfl, by omega, rfl, fun q hq hq2 => by
       by_cases c : q = p3
       ·subst c; exact c5
       ·exact hss q (by omega) hq2⟩
     ·have hpi : p3 = i := by omega
      subst hpi
      simp only [wk, seval, g3', l4]
      obtain ⟨d, x1, x2, ok, sd, hlast, hcl⟩ := l22Last_x (s := g.lives[p3].call.session) rg (by omega)
      refine hcl _ ?_
      have zr := zRecord_eq
      simp only [wk, seval, zr]
      refine qA (o := blk (qC zRecord (.slice none 0 0) (.slice none 0 0)) 97) fun j8 hj8 => ?_
      have hone8 := wRecord.2.2.2.2.2.2.2.2.2.2.2.2.2.2.1 d x1 x2 (rdS.one sd.1) (rdS.one sd.2)
      have s9 : ∀ o, Tk.Sub h3 ((j8, o) :: h3) := fun o => Sub.cons hj8 (Sub.refl _)
      have l5' := zT (s9 (blk (qC d x1 x2) 97)) l5
      have fin : (∀ r, lastOf g.log g.lives[p3].call.session = some r -> r.call.number < g.lives[p3].call.number) -> ∃ m, m < g.lives.length - p3 /\ ∃ gg, Tk.Sub gg ((j8, blk (qC d x1 x2) 97) :: h3) /\ ∃ i' : Nat, [Value.int .i64 ((p3 : Int) + 1)] = [Value.int .i64 i'] /\ gg = h' /\ i' <= g.lives.length /\ m = g.lives.length - i' /\ (∀ x ∈ g.lives.take i', liveP x g.next /\ (∀ r ∈ g.log, r.stamp ≠ x.stamp) /\ ∀ r, lastOf g.log x.call.session = some r -> r.call.number < x.call.number) /\ risU (·.stamp) g.lives i' /\
        ∀ q p (hp : p < g.lives.length) (hq : q < p), p < i' -> (g.lives[q]'(by omega)).call.session ≠ g.lives[p].call.session := fun hlst =>
       ⟨g.lives.length - (p3 + 1), by omega, h', sB.trans (s9 _), p3 + 1, by simp, rfl, by omega, rfl, fun x hx => by
        rw [List.take_succ_eq_append_getElem hi2] at hx
        rcases List.mem_append.1 hx with hx | hx
        ·exact hall x hx
        ·rw [List.mem_singleton.1 hx]; exact ⟨hu1.1 rfl, hst, hlst⟩, hris2, fun q p hp hq hpi => by
        by_cases c : p = p3
        ·subst c; exact hss q hq (by omega)
        ·exact hses q p hp hq (by omega)⟩
      have s8 := Sub_new (o := blk (qC zRecord (.slice none 0 0) (.slice none 0 0)) 97) hj8
      simp only [wk, seval, s8, zr, wRecord, hone8]
      cases ok with
      | false =>
       simp (disch := omega) only [wk, seval, qI]
       exact fin fun x hx => by rw [hlast] at hx; simp at hx
      | true =>
       simp only [wk, seval, l5', wRecord]
       refine ite_ge (fun c7 => k.dno (s2.trans (s9 _)) (bad fun q => ?_)) fun c7 => ?_
       ·have := q.2.2 d (by rw [hlast]; rfl)
        omega
       ·simp (disch := omega) only [wk, seval, qI]
        refine fin fun x hx => ?_
        rw [hlast] at hx
        cases hx
        omega
   ·have hris2 : risU (·.stamp) g.lives (i + 1) := risU_one (by omega) hris
    try simp only [wk, seval, la, g2', g3', g4', l0, l4, l5, sBB]
    refine qS [5] (fun n vs h2 => ∃ p : Nat, vs = [.int .i64 p] /\ h2 = B /\ p <= g.log.length /\ n = g.log.length - p /\ ∀ r ∈ g.log.take p, r.stamp ≠ g.lives[i].stamp) g.log.length rfl ⟨0, rfl, rfl, by omega, by omega, by simp⟩ ?_
    rintro n2 f2 h2 ⟨p, hv2, rfl, hp, rfl, hst⟩
    simp only [lm4] at hv2
    simp only [wk, seval, wr, hv2, g3', rg.len]
    refine qF (fun e1 => ?_) fun e1 => ?_
    ·have hp2 : p < g.log.length := by omega
     obtain ⟨b', o', cs', hx', e', a1', a2', rfl, sr'⟩ := zU rg hp2
     have q0 : hcel h2 b' o' = some (.int .i64 g.log[p].stamp) := by have := qW e' 0 rfl; rw [Nat.add_zero] at this; exact this
     refine qY _ (Sub.refl _) ?_
     simp only [wk, seval, g3', hx', q0, l0, Sub.refl h2]
     refine qZ (fun c5 => k.dno s2 (bad fun q => q.2.1 _ (List.getElem_mem hp2) c5)) fun c5 => ?_
     simp (disch := omega) only [qI]
     exact ⟨g.log.length - (p + 1), by omega, _, .refl _, p + 1, by simp, rfl, by omega, rfl, fun x hx => by
      rw [List.take_succ_eq_append_getElem hp2] at hx
      rcases List.mem_append.1 hx with hx | hx
      ·exact hst x hx
      ·rw [List.mem_singleton.1 hx]; exact c5⟩
    ·rw [List.take_of_length_le (by omega)] at hst
     refine qS [6] (fun n vs h3 => ∃ p : Nat, vs = [.int .i64 p] /\ h3 = h2 /\ p <= i /\ n = i - p /\ ∀ q (hq : q < p) (hq2 : q < g.lives.length), g.lives[q].call.session ≠ g.lives[i].call.session) i rfl ⟨0, rfl, rfl, by omega, by omega, fun q hq => absurd hq (by omega)⟩ ?_
     rintro n3 f3 h3 ⟨p3, hv3, rfl, hp3, rfl, hss⟩
     simp only [lm4] at hv3
     simp only [wk, seval, wr, hv3]
     refine qF (fun e2 => ?_) fun e2 => ?_
     ·have hp4 : p3 < g.lives.length := by omega
      obtain ⟨b', o', cs', hx', e', a1', a2', rfl, sr'⟩ := zU rl hp4
      have q4 : hcel h3 b' (o' + 4) = some (.int .i64 g.lives[p3].call.session) := qW e' 4 rfl
      refine qY _ (Sub.refl _) ?_
      simp only [wk, seval, g4', hx', q4, l4, Sub.refl h3]
      refine qZ (fun c5 => k.dno s2 (fun q => q.2.2.2.1.2.2.2 p3 i hi2 (by omega) c5)) fun c5 => ?_
      simp (disch := omega) only [qI]
      exact ⟨i - (p3 + 1), by omega, _, .refl _, p3 + 1, by simp, rfl, by omega, rfl, fun q hq hq2 => by
       by_cases c : q = p3
       ·subst c; exact c5
       ·exact hss q (by omega) hq2⟩
     ·have hpi : p3 = i := by omega
      subst hpi
      simp only [wk, seval, g3', l4]
      obtain ⟨d, x1, x2, ok, sd, hlast, hcl⟩ := l22Last_x (s := g.lives[p3].call.session) rg (by omega)
      refine hcl _ ?_
      have zr := zRecord_eq
      simp only [wk, seval, zr]
      refine qA (o := blk (qC zRecord (.slice none 0 0) (.slice none 0 0)) 97) fun j8 hj8 => ?_
      have hone8 := wRecord.2.2.2.2.2.2.2.2.2.2.2.2.2.2.1 d x1 x2 (rdS.one sd.1) (rdS.one sd.2)
      have s9 : ∀ o, Tk.Sub h3 ((j8, o) :: h3) := fun o => Sub.cons hj8 (Sub.refl _)
      have l5' := zT (s9 (blk (qC d x1 x2) 97)) l5
      have fin : (∀ r, lastOf g.log g.lives[p3].call.session = some r -> r.call.number < g.lives[p3].call.number) -> ∃ m, m < g.lives.length - p3 /\ ∃ gg, Tk.Sub gg ((j8, blk (qC d x1 x2) 97) :: h3) /\ ∃ i' : Nat, [Value.int .i64 ((p3 : Int) + 1)] = [Value.int .i64 i'] /\ gg = h' /\ i' <= g.lives.length /\ m = g.lives.length - i' /\ (∀ x ∈ g.lives.take i', liveP x g.next /\ (∀ r ∈ g.log, r.stamp ≠ x.stamp) /\ ∀ r, lastOf g.log x.call.session = some r -> r.call.number < x.call.number) /\ risU (·.stamp) g.lives i' /\
        ∀ q p (hp : p < g.lives.length) (hq : q < p), p < i' -> (g.lives[q]'(by omega)).call.session ≠ g.lives[p].call.session := fun hlst =>
       ⟨g.lives.length - (p3 + 1), by omega, h', sB.trans (s9 _), p3 + 1, by simp, rfl, by omega, rfl, fun x hx => by
        rw [List.take_succ_eq_append_getElem hi2] at hx
        rcases List.mem_append.1 hx with hx | hx
        ·exact hall x hx
        ·rw [List.mem_singleton.1 hx]; exact ⟨hu1.1 rfl, hst, hlst⟩, hris2, fun q p hp hq hpi => by
        by_cases c : p = p3
        ·subst c; exact hss q hq (by omega)
        ·exact hses q p hp hq (by omega)⟩
      have s8 := Sub_new (o := blk (qC zRecord (.slice none 0 0) (.slice none 0 0)) 97) hj8
      simp only [wk, seval, s8, zr, wRecord, hone8]
      cases ok with
      | false =>
       simp (disch := omega) only [wk, seval, qI]
       exact fin fun x hx => by rw [hlast] at hx; simp at hx
      | true =>
       simp only [wk, seval, l5', wRecord]
       refine ite_ge (fun c7 => k.dno (s2.trans (s9 _)) (bad fun q => ?_)) fun c7 => ?_
       ·have := q.2.2 d (by rw [hlast]; rfl)
        omega
       ·simp (disch := omega) only [wk, seval, qI]
        refine fin fun x hx => ?_
        rw [hlast] at hx
        cases hx
        omega
  ·have hil : i = g.lives.length := by omega
   simp only [wk, seval, fa]
   refine l22WaysOk_c r1 hb fun u2 hu2 => ?_
   simp only [wk, seval]
   refine ⟨h, s1, k u2 (hu2.trans ⟨fun w => ⟨hq1.1 rfl, hq2.1 rfl, hq3.1 rfl, ⟨by omega, ?_, risU_done (by omega) hris, fun q p hp hq => hses q p hp hq (by omega)⟩, hemp, w⟩, fun w => w.2.2.2.2.2⟩)⟩
   rw [List.take_of_length_le (by omega)] at hall
   exact hall
end Go.Proofs.YtgbapakcfmgahaaGreatDoor
end

section
set_option maxRecDepth 20000
attribute [local irreducible] Go.Tk.vc Go.Tk.vops Go.Tk.vdr Go.Tk.vop Go.Tk.vfl Go.Tk.HCalls
namespace Go.Proofs.YtgbapakcfmgahaaGreatDoor
open Go Go.Tk
theorem mapBehind_c {h : H} {m : DMap} {ow : Value} {S : Nat -> Prop} {d : DRecord} {a b : Value} (r : dL 3 eI 1 h ow m.owners S) (hm : mapP m) {R : Ending -> H -> Prop}
  (k : ∀ M' w S', Tk.Sub h M' -> dL 3 eI 1 M' w (mapStep m d).owners S' -> (∀ x, S' x -> S x ∨ hget h x = none) -> R (.returned (.agg (cMap (mapStep m d) w).toArray)) M') :
  HCalls Tryz.prog 111 #[.agg (cMap m ow).toArray, .agg (qC d a b).toArray] h R := by
 refine qB (args := [.agg (cMap m ow).toArray, .agg (qC d a b).toArray]) Tryz.func111 ir111 ?_
 have zm := zMap_eq
 simp only [wk, seval, wMap, wRecord]
 refine qA (o := blk (cMap m ow) 102) fun j2 h2 => ?_
 simp only [wk, seval, wMap, wRecord]
 refine qA (o := blk (qC d a b) 97) fun j3 h3 => ?_
 simp only [wk, seval, wMap, wRecord, zm]
 refine qA (o := blk (cMap zMap (.slice none 0 0)) 102) fun j4 h4 => ?_
 have n3 := h3
 have n4 := h4
 simp only [subs] at n3 n4
 obtain ⟨M, hM⟩ : ∃ M, M = (j4, blk (cMap zMap (.slice none 0 0)) 102) :: (j3, blk (qC d a b) 97) :: (j2, blk (cMap m ow) 102) :: h := ⟨_, rfl⟩
 have sM : Tk.Sub h M := by rw [hM]; exact Sub.cons h4 (Sub.cons h3 (Sub.cons h2 (Sub.refl _)))
 have e34 : j3 ≠ j4 := fun e => n4.1 e.symm
 have e24 : j2 ≠ j4 := fun e => n4.2.1 e.symm
 have e23 : j2 ≠ j3 := fun e => n3.1 e.symm
 have m4 : hget M j4 = some (blk (cMap zMap (.slice none 0 0)) 102) := by rw [hM]; exact qL _ _ _
 have m3 : hget M j3 = some (blk (qC d a b) 97) := by rw [hM, zN _ _ _ e34]; exact qL _ _ _
 have m2 : hget M j2 = some (blk (cMap m ow) 102) := by rw [hM, zN _ _ _ e24, zN _ _ _ e23]; exact qL _ _ _
 have f4 : hcel M j3 4 = some (.int .i64 d.call.kind) := qH m3 rfl
 have f6 : hcel M j3 6 = some (.int .i64 d.call.slot) := qH m3 rfl
 have f7 : hcel M j3 7 = some (.int .i64 d.call.to) := qH m3 rfl
 have f8 : hcel M j3 8 = some (.int .i64 d.code) := qH m3 rfl
 have r2 : qQ M j2 0 2 = some (cMap m ow) := qU m2 rfl
 have hown := r.one
 have ret : ∀ (N : H) (m' : DMap) (w : Value), vone w = true -> hget N j4 = some (blk (cMap zMap (.slice none 0 0)) 102) -> qT N j4 0 (cMap m' w) = some (hupd N j4 (blk (cMap m' w) 102)) /\ qQ (hupd N j4 (blk (cMap m' w) 102)) j4 0 2 = some (cMap m' w) := fun N m' w hw hN => by
  have hwt := zH (j := 0) (vs := cMap m' w) hN (Nat.le_refl _)
  rw [splice_all (x := cMap m' w) (y := cMap zMap (.slice none 0 0)) (by rfl)] at hwt
  exact ⟨hwt, qU (qN hN) rfl⟩
 have keep : mapStep m d = m -> dP R (.returned (.agg (cMap m ow).toArray)) (hupd M j4 (blk (cMap m ow) 102)) := fun e => by
  rw [e] at k
  exact .of (k _ ow S (Sub.wr sM n4.2.2) (r.frame fun x q => by
   have hx := r.in q
   rw [qG (fun c => by rw [c, n4.2.2] at hx; exact hx rfl)]; exact Sub.eq sM hx) fun x q => .inl q)
 obtain ⟨w1, w2⟩ := ret M m ow hown m4
 have av := wMap.2.2.2.2.2.1 m ow hown
 rw [<- hM]
 simp only [wk, seval, f4]
 refine qZ (fun c1 => ?_) fun c1 => ?_
 ·simp only [wk, seval, f8]
  refine qZ (fun c2 => ?_) fun c2 => ?_
  ·have hst : mapStep m d = (mapMove m d.call.slot d.call.to).1 := by unfold mapStep; rw [if_pos ⟨c1, c2⟩]
   simp only [wk, seval, r2, f6, f7]
   refine implMapMove_c (r.rd.sub sM) (by have := hm.2.1; omega) fun v g o dj => ?_
   rw [<- hst] at o ⊢
   have vo := rdS.one o.rd
   have av2 := wMap.2.2.2.2.2.1 (mapStep m d) v vo
   have sN : Tk.Sub M (g ++ M) := Sub.right dj
   have g2 := sN _ _ m2
   have g4 := sN _ _ m4
   obtain ⟨N, hN⟩ : ∃ N, N = hupd (g ++ M) j2 (blk (cMap (mapStep m d) v) 102) := ⟨_, rfl⟩
   have wt : qT (g ++ M) j2 0 (cMap (mapStep m d) v) = some N := by
    rw [zH (j := 0) (vs := cMap (mapStep m d) v) g2 (Nat.le_refl _), splice_all (x := cMap (mapStep m d) v) (y := cMap m ow) (by rfl), hN]
   have r2' : qQ N j2 0 2 = some (cMap (mapStep m d) v) := qU (by rw [hN]; exact qN g2) rfl
   have g4' : hget N j4 = some (blk (cMap zMap (.slice none 0 0)) 102) := by rw [hN, qG (Ne.symm e24)]; exact g4
   obtain ⟨w3, w4⟩ := ret N (mapStep m d) v vo g4'
   simp only [wk, seval, wMap, av2, wt, r2', w3, w4]
   have hg : ∀ x, hget g x ≠ none -> x ≠ j2 /\ x ≠ j4 := fun x q => ⟨fun e => (by have := dj x q; rw [e, m2] at this; cases this), fun e => (by have := dj x q; rw [e, m4] at this; cases this)⟩
   refine .of (k _ v _ (Sub.wr (by rw [hN]; exact Sub.wr (sM.trans sN) h2) n4.2.2) ((dL.of (h := h) o (Sub.left g M)).frame fun x q => by rw [qG (hg x q).2, hN, qG (hg x q).1]) fun x q => .inr (sM.none' (dj x q)))
  ·simp only [wk, seval, r2, wMap, av, w1, w2]
   have e : mapStep m d = m := by unfold mapStep; rw [if_neg fun c => c2 c.2]
   rw [e] at keep
   exact keep rfl
 ·simp only [wk, seval, r2, wMap, av, w1, w2]
  have e : mapStep m d = m := by unfold mapStep; rw [if_neg fun c => c1 c.1]
  exact keep e
end Go.Proofs.YtgbapakcfmgahaaGreatDoor
end

section
set_option maxRecDepth 20000
attribute [local irreducible] Go.Tk.vc Go.Tk.vops Go.Tk.vdr Go.Tk.vop Go.Tk.vfl Go.Tk.HCalls
namespace Go.Tk
open Go
theorem cnRec_le (r : DRecord) : cnRec r <= 9 + 2 * szRec r := by unfold cnRec szRec; omega
theorem cnTold_le (t : DTold) : cnTold t <= 1 + 2 * szTold t := by unfold cnTold szTold; omega
theorem cnLive_le (x : DLive) : cnLive x <= 10 + 2 * szLive x := by
 have := sumL_le (cnt := cnTold) (f := szTold) (l := x.told) (c := 1) (d := 2) fun t _ => cnTold_le t
 unfold cnLive szLive; omega
theorem cnGate_of {g : DGate} (h : szGateN g <= 1048576) : cnGate g <= 16777216 := by
 have h1 := sumL_le (cnt := cnRec) (f := szRec) (l := g.log) (c := 9) (d := 2) fun t _ => cnRec_le t
 have h2 := sumL_le (cnt := cnLive) (f := szLive) (l := g.lives) (c := 10) (d := 2) fun t _ => cnLive_le t
 unfold szGateN at h; unfold cnGate; omega
theorem bGate_of {g : DGate} (h : szGateN g <= 1048576) : bGate g := by
 unfold szGateN at h
 refine ⟨by unfold lim; omega, fun r hr => ?_, by unfold lim; omega, fun x hx => ?_, by unfold lim; omega⟩
 ·have := sumL_mem szRec hr
  have h3 : szRec r <= 1048576 := by omega
  unfold szRec at h3
  exact ⟨by unfold lim; omega, by unfold lim; omega, by unfold bCall lim; omega⟩
 ·have := sumL_mem szLive hx
  have h2 : szLive x <= 1048576 := by omega
  unfold szLive at h2
  refine ⟨by unfold lim; omega, by unfold lim; omega, fun t ht => ?_, by unfold bCall lim; omega⟩
  have := sumL_mem szTold ht
  have h3 : szTold t <= 1048576 := by omega
  unfold szTold at h3
  unfold bTold lim; omega
end Go.Tk
namespace Go.Proofs.YtgbapakcfmgahaaGreatDoor
open Go Go.Tk
theorem WGate.one {M : H} {d e : DGate} {a b c : Value} {S : Nat -> Prop} (w : WGate M d a b c S) : (cGate e a b c).all vone = true := by
 obtain ⟨S1, S2, S3, w1, w2, w3, _⟩ := w
 simp only [cGate, List.all_cons, List.all_nil, w1.one, w2.one, w3.one]; rfl
end Go.Proofs.YtgbapakcfmgahaaGreatDoor
end

section
namespace Go.Proofs.YtgbapakcfmgahaaGreatDoor
open Go Go.Tk
theorem cells_bool : Tryz.prog.cellsOf 4 = 1 := by kernel_rfl
theorem cells_lPair : Tryz.prog.cellsOf 176 = 2 := by kernel_rfl
theorem cells_lRecord : Tryz.prog.cellsOf 88 = 11 := by kernel_rfl
theorem cells_lTold : Tryz.prog.cellsOf 168 = 2 := by kernel_rfl
theorem cells_lLive : Tryz.prog.cellsOf 92 = 12 := by kernel_rfl
theorem cells_lWay : Tryz.prog.cellsOf 110 = 2 := by kernel_rfl
section
variable {X : Type} {enc : TypeId × Value -> X} {w : World} {base : Nat} {sp : Nat -> Bool} {held : Bool}
theorem in_bool {m : Nat} {c : Value} {y : DataW X × List MemPlace} (h : DataW.trod enc Tryz.prog w base sp held m 4 [c] = some y) : ∃ b, c = .bool b := by
 obtain ⟨b, e, _⟩ := DataW.trod_bool Tryz.underlying4 h
 exact ⟨b, by simpa using e⟩
theorem in_pair {m : Nat} {cs : List Value} {y : DataW X × List MemPlace} (hl : cs.length = 2) (h : DataW.trod enc Tryz.prog w base sp held m 176 cs = some y) : ∃ p : Int × Int, cs = eP p /\ True := by
 match cs, hl with
 | [c0, c1], _ =>
  obtain ⟨_, _, h0⟩ := zP Tryz.underlying176 h 0 0 1 (ty := 3) rfl cells_int rfl
  obtain ⟨_, _, h1⟩ := zP Tryz.underlying176 h 1 1 1 (ty := 3) rfl cells_int rfl
  obtain ⟨n0, rfl, _⟩ := in_int h0
  obtain ⟨n1, rfl, _⟩ := in_int h1
  exact ⟨(n0, n1), rfl, trivial⟩
theorem in_ints {m : Nat} {c : Value} {y : DataW X × List MemPlace} (h : DataW.trod enc Tryz.prog w base sp held m 47 [c] = some y) : ∃ l : List Int, rIn (full w) eI 1 c l /\ l.length <= maxLen := by
 obtain ⟨a, len, cap, rfl⟩ := slice_val Tryz.underlying47 h
 obtain ⟨l, h1, h2, _⟩ := slice_in (encA := eI) (ok := fun _ => True) Tryz.underlying47 cells_int (by decide) h fun cs m y hl ht => by
  match cs, hl with
  | [c0], _ => obtain ⟨n, rfl, _⟩ := in_int ht; exact ⟨n, rfl, trivial⟩
 exact ⟨l, h1, h2⟩
theorem in_pairs {m : Nat} {c : Value} {y : DataW X × List MemPlace} (h : DataW.trod enc Tryz.prog w base sp held m 86 [c] = some y) : ∃ l : List (Int × Int), rIn (full w) eP 2 c l /\ l.length <= maxLen := by
 obtain ⟨a, len, cap, rfl⟩ := slice_val Tryz.underlying86 h
 obtain ⟨l, h1, h2, _⟩ := slice_in (encA := eP) (ok := fun _ => True) Tryz.underlying86 cells_lPair (by decide) h fun cs m y hl ht => in_pair hl ht
 exact ⟨l, h1, h2⟩
theorem maxB {n : Nat} (h : n <= maxLen) : n <= 9223372036854775807 := Nat.le_trans h (by decide)
theorem in_record {m : Nat} {cs : List Value} {y : DataW X × List MemPlace} (hl : cs.length = 11) (h : DataW.trod enc Tryz.prog w base sp held m 88 cs = some y) : ∃ d : DRecord, nRecord (full w) cs d /\ uRecord d := by
 match cs, hl with
 | [c0, c1, c2, c3, c4, c5, c6, c7, c8, c9, c10], _ =>
  obtain ⟨_, _, h0⟩ := zP Tryz.underlying88 h 0 0 1 (ty := 3) rfl cells_int rfl
  obtain ⟨_, _, h1⟩ := zP Tryz.underlying88 h 1 1 1 (ty := 3) rfl cells_int rfl
  obtain ⟨_, _, h2⟩ := zP Tryz.underlying88 h 2 2 6 (ty := 85) rfl cells_lCall rfl
  obtain ⟨_, _, h3⟩ := zP Tryz.underlying88 h 3 8 1 (ty := 3) rfl cells_int rfl
  obtain ⟨_, _, h4⟩ := zP Tryz.underlying88 h 4 9 1 (ty := 47) rfl (by kernel_rfl) rfl
  obtain ⟨_, _, h5⟩ := zP Tryz.underlying88 h 5 10 1 (ty := 86) rfl (by kernel_rfl) rfl
  obtain ⟨n0, rfl, _⟩ := in_int h0
  obtain ⟨n1, rfl, _⟩ := in_int h1
  obtain ⟨c, hc, _, _, _, _, _, ht⟩ := in_call rfl h2
  obtain ⟨n3, rfl, _⟩ := in_int h3
  obtain ⟨l4, r4, b4⟩ := in_ints h4
  obtain ⟨l5, r5, b5⟩ := in_pairs h5
  simp only [zL, List.cons.injEq, and_true] at hc
  obtain ⟨rfl, rfl, rfl, rfl, rfl, rfl⟩ := hc
  exact ⟨⟨n0, n1, c, n3, l4, l5⟩, ⟨_, _, rfl, r4, r5⟩, maxB ht, maxB b4, maxB b5⟩
theorem in_told {m : Nat} {cs : List Value} {y : DataW X × List MemPlace} (hl : cs.length = 2) (h : DataW.trod enc Tryz.prog w base sp held m 168 cs = some y) : ∃ d : DTold, nTold (full w) cs d /\ uTold d := by
 match cs, hl with
 | [c0, c1], _ =>
  obtain ⟨_, _, h0⟩ := zP Tryz.underlying168 h 0 0 1 (ty := 3) rfl cells_int rfl
  obtain ⟨_, _, h1⟩ := zP Tryz.underlying168 h 1 1 1 (ty := 86) rfl (by kernel_rfl) rfl
  obtain ⟨n0, rfl, _⟩ := in_int h0
  obtain ⟨l1, r1, b1⟩ := in_pairs h1
  exact ⟨⟨n0, l1⟩, ⟨_, rfl, r1⟩, maxB b1⟩
theorem in_tolds {m : Nat} {c : Value} {y : DataW X × List MemPlace} (h : DataW.trod enc Tryz.prog w base sp held m 90 [c] = some y) : ∃ l : List DTold, rIRs (full w) (nTold (full w)) 2 c l /\ l.length <= maxLen /\ ∀ t ∈ l, uTold t := by
 obtain ⟨a, len, cap, rfl⟩ := slice_val Tryz.underlying90 h
 exact slice_rel Tryz.underlying90 cells_lTold (by decide) h fun cs m y hl ht => in_told hl ht
theorem in_live {m : Nat} {cs : List Value} {y : DataW X × List MemPlace} (hl : cs.length = 12) (h : DataW.trod enc Tryz.prog w base sp held m 92 cs = some y) : ∃ d : DLive, nLive (full w) cs d /\ uLive d := by
 match cs, hl with
 | [c0, c1, c2, c3, c4, c5, c6, c7, c8, c9, c10, c11], _ =>
  obtain ⟨_, _, h0⟩ := zP Tryz.underlying92 h 0 0 1 (ty := 3) rfl cells_int rfl
  obtain ⟨_, _, h1⟩ := zP Tryz.underlying92 h 1 1 1 (ty := 3) rfl cells_int rfl
  obtain ⟨_, _, h2⟩ := zP Tryz.underlying92 h 2 2 1 (ty := 3) rfl cells_int rfl
  obtain ⟨_, _, h3⟩ := zP Tryz.underlying92 h 3 3 1 (ty := 3) rfl cells_int rfl
  obtain ⟨_, _, h4⟩ := zP Tryz.underlying92 h 4 4 6 (ty := 85) rfl cells_lCall rfl
  obtain ⟨_, _, h5⟩ := zP Tryz.underlying92 h 5 10 1 (ty := 47) rfl (by kernel_rfl) rfl
  obtain ⟨_, _, h6⟩ := zP Tryz.underlying92 h 6 11 1 (ty := 90) rfl (by kernel_rfl) rfl
  obtain ⟨n0, rfl, _⟩ := in_int h0
  obtain ⟨n1, rfl, _⟩ := in_int h1
  obtain ⟨n2, rfl, _⟩ := in_int h2
  obtain ⟨n3, rfl, _⟩ := in_int h3
  obtain ⟨c, hc, _, _, _, _, _, ht⟩ := in_call rfl h4
  obtain ⟨l5, r5, b5⟩ := in_ints h5
  obtain ⟨l6, r6, b6, u6⟩ := in_tolds h6
  simp only [zL, List.cons.injEq, and_true] at hc
  obtain ⟨rfl, rfl, rfl, rfl, rfl, rfl⟩ := hc
  exact ⟨⟨n0, n1, n2, n3, c, l5, l6⟩, ⟨_, _, rfl, r5, r6⟩, maxB ht, maxB b5, maxB b6, u6⟩
theorem in_way {m : Nat} {cs : List Value} {y : DataW X × List MemPlace} (hl : cs.length = 2) (h : DataW.trod enc Tryz.prog w base sp held m 110 cs = some y) : ∃ d : DWay, cs = cWay d /\ True := by
 match cs, hl with
 | [c0, c1], _ =>
  obtain ⟨_, _, h0⟩ := zP Tryz.underlying110 h 0 0 1 (ty := 3) rfl cells_int rfl
  obtain ⟨_, _, h1⟩ := zP Tryz.underlying110 h 1 1 1 (ty := 3) rfl cells_int rfl
  obtain ⟨n0, rfl, _⟩ := in_int h0
  obtain ⟨n1, rfl, _⟩ := in_int h1
  exact ⟨⟨n0, n1⟩, rfl, trivial⟩
theorem in_gate {m : Nat} {cs : List Value} {y : DataW X × List MemPlace} (hl : cs.length = 6) (h : DataW.trod enc Tryz.prog w base sp held m 26 cs = some y) : ∃ (d : DGate) (v1 v2 v3 : Value), cs = cGate d v1 v2 v3 /\ nGate (full w) d v1 v2 v3 /\ uGate d := by
 match cs, hl with
 | [c0, c1, c2, c3, c4, c5], _ =>
  obtain ⟨_, _, h0⟩ := zP Tryz.underlying26 h 0 0 1 (ty := 4) rfl cells_bool rfl
  obtain ⟨_, _, h1⟩ := zP Tryz.underlying26 h 1 1 1 (ty := 3) rfl cells_int rfl
  obtain ⟨_, _, h2⟩ := zP Tryz.underlying26 h 2 2 1 (ty := 3) rfl cells_int rfl
  obtain ⟨_, _, h3⟩ := zP Tryz.underlying26 h 3 3 1 (ty := 22) rfl (by kernel_rfl) rfl
  obtain ⟨_, _, h4⟩ := zP Tryz.underlying26 h 4 4 1 (ty := 23) rfl (by kernel_rfl) rfl
  obtain ⟨_, _, h5⟩ := zP Tryz.underlying26 h 5 5 1 (ty := 24) rfl (by kernel_rfl) rfl
  obtain ⟨b0, rfl⟩ := in_bool h0
  obtain ⟨n1, rfl, _⟩ := in_int h1
  obtain ⟨n2, rfl, _⟩ := in_int h2
  obtain ⟨a3, len3, cap3, rfl⟩ := slice_val Tryz.underlying22 h3
  obtain ⟨l3, r3, m3, u3⟩ := slice_rel (rel := nRecord (full w)) Tryz.underlying22 cells_lRecord (by decide) h3 fun cs m y hl ht => in_record hl ht
  obtain ⟨a4, len4, cap4, rfl⟩ := slice_val Tryz.underlying23 h4
  obtain ⟨l4, r4, m4, u4⟩ := slice_rel (rel := nLive (full w)) Tryz.underlying23 cells_lLive (by decide) h4 fun cs m y hl ht => in_live hl ht
  obtain ⟨a5, len5, cap5, rfl⟩ := slice_val Tryz.underlying24 h5
  obtain ⟨l5, r5, m5, _⟩ := slice_in (encA := cWay) (ok := fun _ => True) Tryz.underlying24 cells_lWay (by decide) h5 fun cs m y hl ht => in_way hl ht
  exact ⟨⟨b0, n1, n2, l3, l4, l5⟩, _, _, _, rfl, ⟨r3, r4, r5⟩, maxB m3, u3, maxB m4, u4, maxB m5⟩
end
end Go.Proofs.YtgbapakcfmgahaaGreatDoor
end

section
namespace Go.Tk
open Go
noncomputable def mapAtF (v : Int) : DMap -> List DRecord -> DMap
 | m, [] => m
 | m, r :: l => if m.version = v then m else mapAtF v (mapStep m r) l
noncomputable def mapAtL (log : List DRecord) (v : Int) : DMap := mapAtF v map0 log
theorem mapOfL_next {log : List DRecord} {i : Nat} (h : i < log.length) : zR (log.take (i + 1)) = mapStep (zR (log.take i)) log[i] := by
 unfold zR
 rw [List.take_succ_eq_append_getElem h, List.foldl_append]; rfl
theorem mapAt_step {log : List DRecord} {v : Int} {n : Nat} (hn : n <= log.length) (h : ∀ j, j < n -> (zR (log.take j)).version ≠ v) : mapAtL log v = mapAtF v (zR (log.take n)) (log.drop n) := by
 induction n with
 | zero => simp [mapAtL, zR]
 | succ n ih =>
  have hn2 : n < log.length := by omega
  rw [ih (by omega) fun j hj => h j (by omega), mapOfL_next hn2, List.drop_eq_getElem_cons hn2, mapAtF, if_neg (h n (by omega))]
theorem mapAt_found {log : List DRecord} {v : Int} {n : Nat} (hn : n <= log.length) (h : ∀ j, j < n -> (zR (log.take j)).version ≠ v) (e : (zR (log.take n)).version = v) : mapAtL log v = zR (log.take n) := by
 rw [mapAt_step hn h]
 cases log.drop n with
 | nil => rfl
 | cons r l => rw [mapAtF, if_pos e]
theorem mapAt_all {log : List DRecord} {v : Int} (h : ∀ j, j < log.length -> (zR (log.take j)).version ≠ v) : mapAtL log v = zR log := by
 rw [mapAt_step (Nat.le_refl _) h, List.take_length, List.drop_length, mapAtF]
def hasWay (ways : List DWay) (h s : Int) : Bool := ways.any fun w => decide (w.house = h) && decide (w.stamp = s)
def waysTo (ways : List DWay) (s : Int) : List Int := ([0, 1, 2] : List Int).filter fun h => hasWay ways h s
theorem hasWay_iff {ways : List DWay} {h s : Int} : hasWay ways h s = true ↔ ∃ w ∈ ways, w.house = h /\ w.stamp = s := by
 unfold hasWay
 simp [List.any_eq_true]
noncomputable def lockW (log : List DRecord) (sl : List Int) (x : DLive) (h : Int) : DWord :=
 ⟨1, 9, h, x.stamp, x.try_, if x.call.kind = 2 then (if h = x.call.to then 3 else 2) else 1, false,
  if x.call.kind = 2 then sl else sl.filter (fun s => decide ((mapAtL log x.version).owners.getD s.toNat 0 = h)), [], 0, [], ⟨0, 0, 0, [], 0, 0⟩⟩
def promW (x : DLive) (h : Int) : DWord := ⟨4, 9, h, x.stamp, x.try_, 0, false, [], [], 0, [], ⟨0, 0, 0, [], 0, 0⟩⟩
noncomputable def zS (log : List DRecord) (sl : List Int) (x : DLive) (h : Int) : List DWord :=
 if x.phase = 1 /\ x.locked.contains h = false then [lockW log sl x h]
 else if x.phase = 2 /\ (x.told.any fun t => decide (t.house = h)) = false then [promW x h] else []
noncomputable def tendLive (S : DCall -> List Int) (g : DGate) (x : DLive) : List DWord := (waysTo g.ways x.stamp).flatMap fun h => zS g.log (S x.call) x h
open Classical in
noncomputable def gateTend (S : DCall -> List Int) (g : DGate) : List DWord := if gateOkP g /\ g.up = true then g.lives.flatMap (tendLive S g) else []
theorem flatMap_more {α β : Type} (f : α -> List β) {l : List α} {i : Nat} (h : i < l.length) : (l.take (i + 1)).flatMap f = (l.take i).flatMap f ++ f l[i] := by
 rw [List.take_succ_eq_append_getElem h, List.flatMap_append]; simp
end Go.Tk
end

section
set_option maxRecDepth 20000
attribute [local irreducible] Go.Tk.vc Go.Tk.vops Go.Tk.vdr Go.Tk.vop Go.Tk.vfl Go.Tk.HCalls
namespace Go.Proofs.YtgbapakcfmgahaaGreatDoor
open Go Go.Tk
theorem mapAtF_ok {v : Int} : ∀ {log : List DRecord} {m : DMap}, mapP m -> mapP (mapAtF v m log) := by
 intro log
 induction log with
 | nil => intro m h; exact h
 | cons r l ih =>
  intro m h
  rw [mapAtF]
  split
  ·exact h
  ·exact ih (mapStep_ok h)
theorem mapAtL_ok (log : List DRecord) (v : Int) : mapP (mapAtL log v) := mapAtF_ok map0_ok
theorem hasWay_more {l : List DWay} {i : Nat} (h : i < l.length) (a s : Int) : hasWay (l.take (i + 1)) a s = (hasWay (l.take i) a s || (decide (l[i].house = a) && decide (l[i].stamp = s))) := by
 unfold hasWay
 rw [List.take_succ_eq_append_getElem h, List.any_append]; simp
theorem hasWay_yes {l : List DWay} {i : Nat} (h : i < l.length) {a s : Int} (h1 : l[i].house = a) (h2 : l[i].stamp = s) : hasWay l a s = true := hasWay_iff.2 ⟨l[i], List.getElem_mem h, h1, h2⟩
theorem l22Has_c {h : H} {v : Value} {l : List DWay} {a s : Int} (r : rLs h cWay 2 v l) (hl : l.length <= 1048576) {R : Ending -> H -> Prop} (k : R (.returned (.bool (hasWay l a s))) h) : HCalls Tryz.prog 51 #[v, .int .i64 a, .int .i64 s] h R := by
 refine qB (args := [v, .int .i64 a, .int .i64 s]) Tryz.func51 ir51 ?_
 simp only [wk, seval]
 refine qS [7] (fun n vs h' => ∃ i : Nat, vs = [.int .i64 i] /\ h' = h /\ hasWay (l.take i) a s = false /\ i <= l.length /\ n = l.length - i) l.length rfl ⟨0, rfl, rfl, rfl, by omega, rfl⟩ ?_
 rintro n f h' ⟨i, hv, rfl, hn, hi, rfl⟩
 simp only [lm4] at hv
 simp only [wk, seval, wr, hv, r.len]
 refine qF (fun c1 => ?_) fun c1 => ?_
 ·have hi2 : i < l.length := by omega
  obtain ⟨b, o, hx, e⟩ := ls_at (enc := cWay) (sz := 2) (fun _ => rfl) r hi2
  have e0 : hcel h' b o = some (.int .i64 l[i].house) := qW e 0 rfl
  have e1 : hcel h' b (o + 1) = some (.int .i64 l[i].stamp) := qW e 1 rfl
  have hm := hasWay_more hi2 a s
  rw [hn, Bool.false_or] at hm
  simp only [wk, seval, hx, e0, e1]
  by_cases d1 : l[i].house = a
  ·by_cases d2 : l[i].stamp = s
   ·rw [hasWay_yes hi2 d1 d2] at k
    simp only [wk, seval, d1, d2, decide_true, hx, e1]
    exact .of k
   ·simp only [wk, seval, d1, d2, decide_true, decide_false, hx, e1, Bool.and_false] at hm ⊢
    simp (disch := omega) only [wk, seval, qI]
    exact ⟨l.length - (i + 1), by omega, h', .refl _, i + 1, by simp, rfl, hm, by omega, rfl⟩
  ·simp only [wk, seval, d1, decide_false, Bool.false_and] at hm ⊢
   simp (disch := omega) only [wk, seval, qI]
   exact ⟨l.length - (i + 1), by omega, h', .refl _, i + 1, by simp, rfl, hm, by omega, rfl⟩
 ·have hi3 : i = l.length := by omega
  rw [hi3, List.take_length] at hn
  rw [hn] at k
  try simp only [wk, seval]
  exact .of k
theorem l21In_c {h : H} {v : Value} {l : List Int} {a : Int} (r : rInts h v l) (hl : l.length <= 1048576) {R : Ending -> H -> Prop} (k : R (.returned (.bool (l.contains a))) h) : HCalls Tryz.prog 18 #[v, .int .i64 a] h R := by
 refine qB (args := [v, .int .i64 a]) Tryz.func18 ir18 ?_
 simp only [wk, seval]
 refine qS [5] (fun n vs h' => ∃ i : Nat, vs = [.int .i64 i] /\ h' = h /\ (l.take i).contains a = false /\ i <= l.length /\ n = l.length - i) l.length rfl ⟨0, rfl, rfl, rfl, by omega, rfl⟩ ?_
 rintro n f h' ⟨i, hv, rfl, hn, hi, rfl⟩
 simp only [lm4] at hv
 simp only [wk, seval, wr, hv, r.len]
 refine qF (fun c1 => ?_) fun c1 => ?_
 ·have hi2 : i < l.length := by omega
  obtain ⟨b, o, hx, e⟩ := ls_at (enc := eI) (sz := 1) (fun _ => rfl) r hi2
  have e0 : hcel h' b o = some (.int .i64 l[i]) := qW e 0 rfl
  simp only [wk, seval, hx, e0]
  by_cases d1 : l[i] = a
  ·have : l.contains a = true := by rw [List.contains_iff_mem, <- d1]; exact List.getElem_mem hi2
   rw [this] at k
   simp only [wk, seval, d1, decide_true]
   exact .of k
  ·simp only [wk, seval, d1, decide_false]
   simp (disch := omega) only [wk, seval, qI]
   refine ⟨l.length - (i + 1), by omega, h', .refl _, i + 1, by simp, rfl, ?_, by omega, rfl⟩
   rw [List.take_succ_eq_append_getElem hi2, <- Bool.not_eq_true, List.contains_iff_mem]
   rw [<- Bool.not_eq_true, List.contains_iff_mem] at hn
   simp only [List.mem_append, List.mem_singleton]
   rintro (q | q)
   ·exact hn q
   ·exact d1 q.symm
 ·have hi3 : i = l.length := by omega
  rw [hi3, List.take_length] at hn
  rw [hn] at k
  try simp only [wk, seval]
  exact .of k
def waysN (l : List DWay) (s : Int) (n : Nat) : List Int := ((List.range n).map fun (i : Nat) => (i : Int)).filter fun h => hasWay l h s
theorem waysN_more (l : List DWay) (s : Int) (n : Nat) : waysN l s (n + 1) = waysN l s n ++ if hasWay l n s = true then [(n : Int)] else [] := by
 unfold waysN
 rw [List.range_succ, List.map_append, List.filter_append]
 congr 1
 simp [List.filter_cons]
theorem waysN_le (l : List DWay) (s : Int) (n : Nat) : (waysN l s n).length <= n := by
 unfold waysN
 refine Nat.le_trans (List.length_filter_le _ _) ?_
 simp
theorem l22Ways_c {h : H} {g : DGate} {lg lv wy : Value} {s : Int} (r : sGate h g lg lv wy) (hb : bGate g) {R : Ending -> H -> Prop} (k : ∀ M' v S, Tk.Sub h M' -> dL 3 eI 1 M' v (waysTo g.ways s) S -> (∀ x, S x -> hget h x = none) -> R (.returned v) M') :
  HCalls Tryz.prog 17 #[.agg (cGate g lg lv wy).toArray, .int .i64 s] h R := by
 refine qB (args := [.agg (cGate g lg lv wy).toArray, .int .i64 s]) Tryz.func17 ir17 ?_
 have bw := hb.ways
 unfold lim at bw
 simp only [wk, seval, zB]
 refine qA (o := blk (cGate g lg lv wy) 34) fun j1 h1 => ?_
 obtain ⟨A, hA⟩ : ∃ A, A = (j1, blk (cGate g lg lv wy) 34) :: h := ⟨_, rfl⟩
 have sA : Tk.Sub h A := by rw [hA]; exact Sub.cons h1 (Sub.refl _)
 have g1 : hget A j1 = some (blk (cGate g lg lv wy) 34) := by rw [hA]; exact qL _ _ _
 rw [<- hA]
 simp only [wk, seval]
 refine qA (o := blk (fl eI []) 3) fun j2 h2 => ?_
 simp only [wk, seval]
 refine qS [5, 6] (fun n vs h' => ∃ (i : Nat) (v : Value) (G : H), vs = [v, .int .i64 i] /\ h' = G ++ A /\ Dj G A /\ oLs 3 eI 1 v (waysN g.ways s i) G /\ i <= 3 /\ n = 3 - i) 3 rfl
  ⟨0, _, [(j2, blk (fl eI []) 3)], rfl, rfl, Dj.one h2, oLs_new zC, by omega, rfl⟩ ?_
 rintro n f h' ⟨i, v, G, hv, rfl, dG, oG, hi, rfl⟩
 simp only [lm4] at hv
 have c5 : hcel (G ++ A) j1 5 = some wy := qH (Sub.right dG _ _ g1) rfl
 simp only [wk, seval, wr, hv.1, hv.2]
 refine qF (fun q1 => ?_) fun q1 => ?_
 ·have hl := waysN_le g.ways s i
  have hm := waysN_more g.ways s i
  simp only [wk, seval, c5]
  refine l22Has_c (r.2.2.sub (sA.trans (Sub.right dG))) bw ?_
  obtain ⟨q, hq⟩ : ∃ q, q = hasWay g.ways i s := ⟨_, rfl⟩
  rw [<- hq] at hm ⊢
  cases q with
  | true =>
   simp only [wk, seval]
   refine qA (o := blk (fl eI [(i : Int)]) 3) fun j7 hj7 => ?_
   simp only [wk, seval]
   refine app_leaf (g := G) (h := A) zC eI_one tInts iInt (Sub.cons hj7 (Sub.refl _)) dG oG (rI_lit (e := 3) [(i : Int)]) (by simp; omega) (by simp; omega) fun v2 g2 o2 d2 => ?_
   simp (disch := omega) only [wk, seval, qI]
   exact ⟨3 - (i + 1), by omega, _, .refl _, i + 1, v2, g2, by simp, rfl, d2, by rw [hm]; exact o2, by omega, rfl⟩
  | false =>
   simp (disch := omega) only [wk, seval, qI]
   exact ⟨3 - (i + 1), by omega, _, .refl _, i + 1, v, G, by simp, rfl, dG, by rw [hm, if_neg (by simp), List.append_nil]; exact oG, by omega, rfl⟩
 ·have hi3 : i = 3 := by omega
  subst hi3
  try simp only [wk, seval]
  exact .of (k (G ++ A) v _ (sA.trans (Sub.right dG)) (dL.of (h := A) oG (Sub.left _ _)) fun x q => sA.none' (dG x q))
theorem bx_st {M : H} {j o : Nat} {cs vs cs' : List Value} {e : TypeId} (g : hget M j = some (blk cs e)) (hl : o + vs.length <= cs.length) (hs : qJ cs o vs = cs') :
  ∃ N, qT M j o vs = some N /\ hget N j = some (blk cs' e) /\ ∀ x, x ≠ j -> hget N x = hget M x :=
 ⟨_, zH g hl, by rw [hs]; exact qN g, fun x e => qG e⟩
set_option maxHeartbeats 1000000 in
theorem l22MapAt_c {h : H} {lg : Value} {log : List DRecord} {ver : Int} (r : rRs h (rRecord h) 11 lg log) (hl : log.length <= 1048576) {R : Ending -> H -> Prop} (k : ∀ M' w S, Tk.Sub h M' -> dL 3 eI 1 M' w (mapAtL log ver).owners S -> (∀ x, S x -> hget h x = none) -> R (.returned (.agg (cMap (mapAtL log ver) w).toArray)) M') :
  HCalls Tryz.prog 52 #[lg, .int .i64 ver] h R := by
 refine qB (args := [lg, .int .i64 ver]) Tryz.func52 ir52 ?_
 have zm := zMap_eq
 simp only [wk, seval, zm]
 refine qA (o := blk (cMap zMap (.slice none 0 0)) 102) fun j4 h4 => ?_
 obtain ⟨A, hA⟩ : ∃ A, A = (j4, blk (cMap zMap (.slice none 0 0)) 102) :: h := ⟨_, rfl⟩
 have sA : Tk.Sub h A := by rw [hA]; exact Sub.cons h4 (Sub.refl _)
 have g4 : hget A j4 = some (blk (cMap zMap (.slice none 0 0)) 102) := by rw [hA]; exact qL _ _ _
 have rA := (r.subH sA).relImp fun _ _ x => rRecord.sub sA x
 rw [<- hA]
 simp only [wk, seval]
 refine qS [5] (fun n vs h' => ∃ i : Nat, vs = [.int .i64 i] /\ Tk.Sub A h' /\ (∀ j, j < i -> (zR (log.take j)).version ≠ ver) /\ i <= log.length + 1 /\ n = log.length + 1 - i) (log.length + 1) rfl ⟨0, rfl, Sub.refl _, fun j hj => by omega, by omega, rfl⟩ ?_
 rintro n f h' ⟨i, hv, s, hn, hi, rfl⟩
 simp only [lm4] at hv
 simp only [wk, seval, wr, hv, rA.len]
 split
 ·rename_i c1
  have c2 : (i : Int) <= log.length := by omega
  have r' := (rA.subH s).relImp fun _ _ x => rRecord.sub s x
  refine slc_rs_pre r' (by omega) c2 fun v2 r2 => ?_
  rw [Int.toNat_natCast] at r2
  simp only [wk, seval]
  refine l22Map_c r2 (by rw [List.length_take]; omega) fun w G o d => ?_
  obtain ⟨m, hm⟩ : ∃ m, m = zR (log.take i) := ⟨_, rfl⟩
  rw [<- hm] at o ⊢
  obtain ⟨M, hM⟩ : ∃ M, M = G ++ h' := ⟨_, rfl⟩
  have sM : Tk.Sub h' M := by rw [hM]; exact Sub.right d
  rw [<- hM]
  have on := rdS.one o.rd
  have av := wMap.2.2.2.2.2.1 m w on
  simp only [wk, seval, wMap, zm]
  refine qA (o := blk (cMap zMap (.slice none 0 0)) 102) fun j6 h6 => ?_
  obtain ⟨B, hB⟩ : ∃ B, B = (j6, blk (cMap zMap (.slice none 0 0)) 102) :: M := ⟨_, rfl⟩
  have g6 : hget B j6 = some (blk (cMap zMap (.slice none 0 0)) 102) := by rw [hB]; exact qL _ _ _
  have sB : Tk.Sub M B := by rw [hB]; exact Sub.cons h6 (Sub.refl _)
  rw [<- hB]
  obtain ⟨N, wN, gN, fN⟩ := bx_st (vs := cMap m w) (cs' := cMap m w) (o := 0) g6 (by show 0 + 2 <= 2; omega) rfl
  have sN : Tk.Sub M N := fun x o e => by rw [fN x (fun c => by rw [c, h6] at e; cases e)]; exact sB _ _ e
  have c6 : hcel N j6 0 = some (.int .i64 m.version) := qH gN rfl
  simp only [wk, seval, wMap, av, wN, c6]
  by_cases dv : m.version = ver
  ·have hf := mapAt_found (by omega) hn (hm ▸ dv)
   rw [<- hm] at hf
   rw [hf] at k
   have r6 : qQ N j6 0 2 = some (cMap m w) := qU gN rfl
   obtain ⟨N2, wN2, gN2, fN2⟩ := bx_st (vs := cMap m w) (cs' := cMap m w) (o := 0) (sN _ _ (sM _ _ (s _ _ g4))) (by show 0 + 2 <= 2; omega) rfl
   have r4 : qQ N2 j4 0 2 = some (cMap m w) := qU gN2 rfl
   simp only [wk, seval, dv, decide_true, wMap, r6, av, wN2]
   try simp only [wk, seval, wMap, r4]
   have nG : ∀ x, hget G x ≠ none -> x ≠ j4 := fun x q c => by have := d x q; rw [c, s _ _ g4] at this; cases this
   refine .of (k N2 w (fun x => hget G x ≠ none) (fun x o e => ?_) ((dL.of (h := h') (M := M) o (by rw [hM]; exact Sub.left _ _)).frame fun x q => ?_) fun x q => ?_)
   ·rw [fN2 x (fun c => by rw [c, h4] at e; cases e)]; exact sN _ _ (sM _ _ (s _ _ (sA _ _ e)))
   ·rw [fN2 x (nG x q), Sub.eq sN (by rw [hM, hget_app]; cases e : hget G x with
     | none => exact absurd e q
     | some o => simp)]
   ·exact sA.none' (s.none' (d x q))
  ·simp only [wk, seval, dv, decide_false]
   simp (disch := omega) only [wk, seval, qI]
   refine ⟨log.length + 1 - (i + 1), by omega, _, .refl _, i + 1, by simp, s.trans (sM.trans sN), fun j hj => ?_, by omega, rfl⟩
   by_cases e : j = i
   ·rw [e, <- hm]; exact dv
   ·exact hn j (by omega)
 ·rename_i c1
  have hi3 : i = log.length + 1 := by omega
  have hf := mapAt_all (log := log) (v := ver) fun j hj => hn j (by omega)
  rw [hf] at k
  refine l22Map_c ((rA.subH s).relImp fun _ _ x => rRecord.sub s x) (by omega) fun w G o d => ?_
  obtain ⟨m, hm⟩ : ∃ m, m = zR log := ⟨_, rfl⟩
  rw [<- hm] at o k ⊢
  obtain ⟨M, hM⟩ : ∃ M, M = G ++ h' := ⟨_, rfl⟩
  have sM : Tk.Sub h' M := by rw [hM]; exact Sub.right d
  rw [<- hM]
  have on := rdS.one o.rd
  have av := wMap.2.2.2.2.2.1 m w on
  obtain ⟨N2, wN2, gN2, fN2⟩ := bx_st (vs := cMap m w) (cs' := cMap m w) (o := 0) (sM _ _ (s _ _ g4)) (by show 0 + 2 <= 2; omega) rfl
  have r4 : qQ N2 j4 0 2 = some (cMap m w) := qU gN2 rfl
  simp only [wk, seval, wMap, av, wN2]
  try simp only [wk, seval, wMap, r4]
  have nG : ∀ x, hget G x ≠ none -> x ≠ j4 := fun x q c => by have := d x q; rw [c, s _ _ g4] at this; cases this
  refine .of (k N2 w (fun x => hget G x ≠ none) (fun x o e => ?_) ((dL.of (h := h') (M := M) o (by rw [hM]; exact Sub.left _ _)).frame fun x q => fN2 x (nG x q)) fun x q => sA.none' (s.none' (d x q)))
  rw [fN2 x (fun c => by rw [c, h4] at e; cases e)]; exact sM _ _ (s _ _ (sA _ _ e))
end Go.Proofs.YtgbapakcfmgahaaGreatDoor
end

section
set_option maxRecDepth 20000
attribute [local irreducible] Go.Tk.vc Go.Tk.vops Go.Tk.vdr Go.Tk.vop Go.Tk.vfl Go.Tk.HCalls
namespace Go.Tk
open Go
def touchP (c : DCall) (ds : List DStatement) (s : Int) : Prop := (c.kind = 2 /\ c.slot = s) ∨ ∃ st ∈ ds, slotK st.key = s
def SlotsO (c : DCall) (l : List Int) : Prop := (¬ callOkP c /\ l = []) ∨ (callOkP c /\ l.Pairwise (· < ·) /\ ∃ ds ok, OutD c.text ds ok /\ ∀ s, s ∈ l ↔ touchP c ds s)
theorem lt_same : ∀ {l m : List Int}, l.Pairwise (· < ·) -> m.Pairwise (· < ·) -> (∀ s, s ∈ l ↔ s ∈ m) -> l = m := by
 intro l
 induction l with
 | nil =>
  intro m _ _ h
  cases m with
  | nil => rfl
  | cons b m => exact absurd ((h b).2 List.mem_cons_self) List.not_mem_nil
 | cons a l ih =>
  intro m hl hm h
  cases m with
  | nil => exact absurd ((h a).1 List.mem_cons_self) List.not_mem_nil
  | cons b m =>
   rw [List.pairwise_cons] at hl hm
   have hab : a = b := by
    rcases List.mem_cons.1 ((h a).1 List.mem_cons_self) with e | e
    ·exact e
    ·rcases List.mem_cons.1 ((h b).2 List.mem_cons_self) with e2 | e2
     ·exact e2.symm
     ·have := hm.1 a e
      have := hl.1 b e2
      omega
   subst hab
   rw [ih hl.2 hm.2 fun s => ?_]
   constructor
   ·intro hs
    rcases List.mem_cons.1 ((h s).1 (List.mem_cons_of_mem _ hs)) with e | e
    ·have := hl.1 s hs; omega
    ·exact e
   ·intro hs
    rcases List.mem_cons.1 ((h s).2 (List.mem_cons_of_mem _ hs)) with e | e
    ·have := hm.1 s hs; omega
    ·exact e
theorem SlotsO.same {c : DCall} {l m : List Int} (x : SlotsO c l) (y : SlotsO c m) : l = m := by
 rcases x with ⟨n, rfl⟩ | ⟨p, pl, ds, ok, O, hm⟩
 ·rcases y with ⟨_, rfl⟩ | ⟨p, _⟩
  ·rfl
  ·exact absurd p n
 ·rcases y with ⟨n, _⟩ | ⟨_, pm, ds2, ok2, O2, hm2⟩
  ·exact absurd p n
  ·obtain ⟨rfl, rfl⟩ := O.same O2
   exact lt_same pl pm fun s => (hm s).trans (hm2 s).symm
theorem OutD.none : OutD [] [] false := .inr ⟨rfl, rfl, fun d hd e _ => by
 have h1 := hd.1
 cases d with
 | nil => simp at h1
 | cons a d =>
  rw [dealText_cons] at e
  have := congrArg List.length e
  simp at this⟩
theorem OutD.keys {t : List UInt8} {ds : List DStatement} {ok : Bool} (h : OutD t ds ok) : ∀ st ∈ ds, keyP st.key := by
 rcases h with ⟨_, p, _⟩ | ⟨_, rfl, _⟩
 ·exact fun st hs => (p.2.2 st hs).2.1
 ·intro st hs; cases hs
theorem OutD.le {t : List UInt8} {l : List DStatement} {ok : Bool} (h : OutD t l ok) : l.length <= 6 := by
 rcases h with ⟨_, p, _⟩ | ⟨_, rfl, _⟩
 ·exact p.2.1
 ·simp
end Go.Tk
namespace Go.Proofs.YtgbapakcfmgahaaGreatDoor
open Go Go.Tk
theorem implMapSlot_c {n : Int} {h : H} {R : Ending -> H -> Prop} (k : R (.returned (.int .i64 (slotK n))) h) : HCalls Tryz.prog 113 #[.int .i64 n] h R := by
 refine qB (args := [.int .i64 n]) Tryz.func113 ir113 ?_
 simp only [wk, seval]
 refine isKey_c fun b hb => ?_
 have hb2 : b = true ↔ 0 <= n /\ n <= 31 := hb
 simp only [wk, seval]
 refine ite_f (fun e => .of ?_) fun e => ?_
 ·have : slotK n = -1 := by unfold slotK; rw [if_neg fun p => by rw [hb2.2 p] at e; cases e]
  rw [this] at k; exact k
 ·have hn := hb2.1 e
  simp (disch := omega) only [wk, seval, qI]
  have : slotK n = (n * 8).tdiv 32 := by unfold slotK; rw [if_pos hn]
  have hs := slotK_in (k := n) hn
  rw [this] at k hs
  rw [qI _ ⟨by omega, by omega⟩]
  exact .of k
theorem specMapSlot_c {n : Int} {h : H} {R : Ending -> H -> Prop} (k : R (.returned (.int .i64 (slotK n))) h) : HCalls Tryz.prog 90 #[.int .i64 n] h R := by
 refine qB (args := [.int .i64 n]) Tryz.func90 ir90 ?_
 simp only [wk, seval]
 refine l6In_c fun b hb => ?_
 have hb2 : b = true ↔ 0 <= n /\ n <= 31 := hb
 simp only [wk, seval]
 refine ite_f (fun e => .of ?_) fun e => ?_
 ·have : slotK n = -1 := by unfold slotK; rw [if_neg fun p => by rw [hb2.2 p] at e; cases e]
  rw [this] at k; exact k
 ·have hn := hb2.1 e
  simp (disch := omega) only [wk, seval, qI]
  have : slotK n = (n * 8).tdiv 32 := by unfold slotK; rw [if_pos hn]
  have hs := slotK_in (k := n) hn
  rw [this] at k hs
  rw [qI _ ⟨by omega, by omega⟩]
  exact .of k
theorem specSlots_c {h : H} {c : DCall} (ht : c.text.length <= 4194304) {R : Ending -> H -> Prop} (k : ∀ v g l, SlotsO c l -> l.length <= 8 -> oLs 3 eI 1 v l g -> Dj g h -> R (.returned v) (g ++ h)) :
  HCalls Tryz.prog 53 #[.agg (zL c).toArray] h R := by
 refine qB (args := [.agg (zL c).toArray]) Tryz.func53 ir53 ?_
 simp only [wk, seval, zE]
 refine qA (o := blk (zL c) 46) fun j hj => ?_
 have s1 := Sub.cons (o := blk (zL c) 46) hj (Sub.refl h)
 simp only [wk, seval, zE]
 refine qA (o := blk (fl eI []) 3) fun j9 hj9 => ?_
 have n9 := hj9
 simp only [subs] at n9
 have e9 : ¬ j = j9 := fun e => n9.1 e.symm
 have o9 : oLs 3 eI 1 (.slice (some ⟨j9, 0, none⟩) 0 0) [] [(j9, blk (fl eI []) 3)] := oLs_new zC
 simp only [wk, seval, zE, e9]
 refine specCallOk_c ht fun b1 hb1 => ?_
 simp only [wk, seval, zE, e9]
 refine ite_f (fun e => ⟨[(j9, blk (fl eI []) 3)] ++ h, by (repeat' first | exact Sub.refl _ | exact Sub.nil _ | assumption | refine Sub.both ?_ ?_ | refine Sub.cons_of (by simp only [subs, n9, e9, hj]) ?_ | exact Sub.left _ _ | refine Sub.app (by simp only [subs, n9, e9, hj]) ?_ | refine Sub.cons (by simp only [subs, n9, e9, hj]) ?_), k _ _ [] (.inl ⟨fun p => (by rw [hb1.2 p] at e; cases e), rfl⟩) (by simp) o9 (by simp only [subs, n9])⟩) fun e1 => ?_
 have hok := hb1.1 e1
 refine specRead_c ht fun v4 g4 ds ok O o4 d4 => ?_
 have n4 := d4
 simp only [subs] at n4
 obtain ⟨B, hB⟩ : ∃ B, B = g4 ++ ((j, blk (zL c) 46) :: h) := ⟨_, rfl⟩
 have r4 : rLs B qM 3 v4 ds := o4.rd.sub (by rw [hB]; exact Sub.left _ _)
 have cj : ∀ {i : Nat} {x : Value}, (zL c)[i]? = some x -> hcel B j i = some x := fun {i x} hx => by
  rw [hB, apps.1 _ _ _ _ (by simp only [n4])]
  unfold hcel
  rw [qL]
  simpa [blk] using hx
 have hds := O.le
 have hjB : hget B j9 = none := by rw [hB]; simp only [subs, n4, n9, e9]
 have sB : Tk.Sub h B := by rw [hB]; (repeat' first | exact Sub.refl _ | exact Sub.nil _ | assumption | refine Sub.both ?_ ?_ | refine Sub.cons_of (by simp only [subs, n4, hj]) ?_ | exact Sub.left _ _ | refine Sub.app (by simp only [subs, n4, hj]) ?_ | refine Sub.cons (by simp only [subs, n4, hj]) ?_)
 simp only [wk, seval, zE]
 refine vc_loopS (g0 := [(j9, blk (fl eI []) 3)] ++ B) [6, 3] (fun n vs h' => ∃ (s : Nat) (v' : Value) (xs : List Int) (G : H), vs = [.int .i64 s, v'] /\ h' = G ++ B /\ Dj G B /\ oLs 3 eI 1 v' xs G /\ xs.Pairwise (· < ·) /\ (∀ x, x ∈ xs ↔ (0 <= x /\ x < s) /\ touchP c ds x) /\ xs.length <= s /\ s <= 8 /\ n = 8 - s) 8 rfl (by rw [hB]; (repeat' first | exact Sub.refl _ | exact Sub.nil _ | assumption | refine Sub.both ?_ ?_ | refine Sub.cons_of (by simp only [subs, n4, n9, hj, e9]) ?_ | exact Sub.left _ _ | refine Sub.app (by simp only [subs, n4, n9, hj, e9]) ?_ | refine Sub.cons (by simp only [subs, n4, n9, hj, e9]) ?_))
  ⟨0, _, [], _, rfl, rfl, by simp only [subs, hjB], o9, by simp, fun x => ⟨fun hx => (by cases hx), fun hx => (by have := hx.1; omega)⟩, by simp, by omega, rfl⟩ ?_
 rintro n f h' ⟨s, v', xs, G, hv, rfl, dG, oG, hpw, hmem, hxl, hs, rfl⟩
 simp only [lm4] at hv
 have sG := Sub.right dG
 have c2 : hcel (G ++ B) j 2 = some (.int .i64 c.kind) := zT sG (cj rfl)
 have c4 : hcel (G ++ B) j 4 = some (.int .i64 c.slot) := zT sG (cj rfl)
 simp only [wk, seval, wr, hv.1, hv.2, c2]
 refine qF (fun c1 => ?_) fun c1 => ?_
 ·refine qZ (fun hk => ?_) fun hk => ?_
  ·simp only [wk, seval, c4]
   refine vc_loopS (g0 := G ++ B) [8, 7] (fun n vs h' => ∃ (i : Nat) (b : Bool), vs = [.int .i64 i, .bool b] /\ h' = G ++ B /\ (b = true ↔ (c.kind = 2 /\ c.slot = s) ∨ ∃ st ∈ ds.take i, slotK st.key = s) /\ i <= ds.length /\ n = ds.length - i) ds.length rfl (Sub.refl _)
    ⟨0, decide (c.slot = (s : Int)), rfl, rfl, by simp [hk], by omega, rfl⟩ ?_
   rintro n f2 h' ⟨i, b, hv2, rfl, hb, hi, rfl⟩
   simp only [lm4] at hv2
   simp only [wk, seval, wr, hv2.1, hv2.2, (r4.sub sG).len]
   refine qF (fun c3 => ?_) fun c3 => ?_
   ·have hi2 : i < ds.length := by omega
    cases b with
    | true =>
     simp (disch := omega) only [wk, seval, qI]
     refine ⟨ds.length - (i + 1), by omega, _, .refl _, i + 1, true, rfl, rfl, ⟨fun _ => ?_, fun _ => rfl⟩, by omega, rfl⟩
     rcases hb.1 rfl with h1 | ⟨st, h1, h2⟩
     ·exact .inl h1
     ·exact .inr ⟨st, by rw [List.take_succ_eq_append_getElem hi2]; exact List.mem_append_left _ h1, h2⟩
    | false =>
     simp only [wk, seval]
     refine zJ (i := i) zM (r4.sub sG) rfl hi2 fun b1 o1 e1 => ?_
     have e1k : hcel (G ++ B) b1 (o1 + 1) = some (.int .i64 ds[i].key) := qW e1 1 rfl
     simp only [wk, seval, e1k]
     refine specMapSlot_c ?_
     simp (disch := omega) only [wk, seval, qI]
     refine ⟨ds.length - (i + 1), by omega, _, .refl _, i + 1, decide (slotK ds[i].key = s), rfl, rfl, ?_, by omega, rfl⟩
     rw [List.take_succ_eq_append_getElem hi2, decide_eq_true_eq]
     constructor
     ·intro e
      exact .inr ⟨ds[i], List.mem_append_right _ List.mem_cons_self, e⟩
     ·rintro (h1 | ⟨st, h1, h2⟩)
      ·exact absurd (hb.2 (.inl h1)) (by simp)
      ·rcases List.mem_append.1 h1 with h3 | h3
       ·exact absurd (hb.2 (.inr ⟨st, h3, h2⟩)) (by simp)
       ·rw [<- List.mem_singleton.1 h3]; exact h2
   ·have hi2 : i = ds.length := by omega
    subst hi2
    rw [List.take_length] at hb
    have hb2 : b = true ↔ touchP c ds s := hb
    cases b with
    | true =>
     have ht := hb2.1 rfl
     simp only [wk, seval]
     refine qA (o := blk (fl eI [(s : Int)]) 3) fun j7 hj7 => ?_
     simp only [wk, seval]
     refine app_leaf (g := G) (h := B) zC eI_one tInts iInt (Sub.cons hj7 (Sub.refl _)) dG oG (rI_lit (e := 3) [(s : Int)]) (by simp; omega) (by simp; omega) fun v2 g2 o2 d2 => ?_
     simp (disch := omega) only [wk, seval, qI]
     refine ⟨8 - (s + 1), by omega, _, .refl _, s + 1, v2, _, g2, by simp, rfl, d2, o2, ?_, fun x => ?_, by simp; omega, by omega, rfl⟩
     ·rw [List.pairwise_append]
      refine ⟨hpw, by simp, fun x hx y hy => ?_⟩
      rw [List.mem_singleton.1 hy]
      have := ((hmem x).1 hx).1; omega
     ·rw [List.mem_append, hmem, List.mem_singleton]
      constructor
      ·rintro (⟨h1, h2⟩ | h1)
       ·exact ⟨⟨h1.1, by omega⟩, h2⟩
       ·rw [h1]; exact ⟨⟨by omega, by omega⟩, ht⟩
      ·rintro ⟨⟨h1, h2⟩, h3⟩
       by_cases e : x = s
       ·exact .inr e
       ·exact .inl ⟨⟨h1, by omega⟩, h3⟩
    | false =>
     simp (disch := omega) only [wk, seval, qI]
     refine ⟨8 - (s + 1), by omega, _, .refl _, s + 1, v', xs, G, by simp, rfl, dG, oG, hpw, fun x => ?_, by omega, by omega, rfl⟩
     rw [hmem]
     constructor
     ·rintro ⟨h1, h2⟩
      exact ⟨⟨h1.1, by omega⟩, h2⟩
     ·rintro ⟨⟨h1, h2⟩, h3⟩
      by_cases e : x = s
      ·rw [e] at h3; exact absurd (hb2.2 h3) (by simp)
      ·exact ⟨⟨h1, by omega⟩, h3⟩
  ·skip
   refine vc_loopS (g0 := G ++ B) [8, 7] (fun n vs h' => ∃ (i : Nat) (b : Bool), vs = [.int .i64 i, .bool b] /\ h' = G ++ B /\ (b = true ↔ (c.kind = 2 /\ c.slot = s) ∨ ∃ st ∈ ds.take i, slotK st.key = s) /\ i <= ds.length /\ n = ds.length - i) ds.length rfl (Sub.refl _)
    ⟨0, false, rfl, rfl, by simp [hk], by omega, rfl⟩ ?_
   rintro n f2 h' ⟨i, b, hv2, rfl, hb, hi, rfl⟩
   simp only [lm4] at hv2
   simp only [wk, seval, wr, hv2.1, hv2.2, (r4.sub sG).len]
   refine qF (fun c3 => ?_) fun c3 => ?_
   ·have hi2 : i < ds.length := by omega
    cases b with
    | true =>
     simp (disch := omega) only [wk, seval, qI]
     refine ⟨ds.length - (i + 1), by omega, _, .refl _, i + 1, true, rfl, rfl, ⟨fun _ => ?_, fun _ => rfl⟩, by omega, rfl⟩
     rcases hb.1 rfl with h1 | ⟨st, h1, h2⟩
     ·exact .inl h1
     ·exact .inr ⟨st, by rw [List.take_succ_eq_append_getElem hi2]; exact List.mem_append_left _ h1, h2⟩
    | false =>
     simp only [wk, seval]
     refine zJ (i := i) zM (r4.sub sG) rfl hi2 fun b1 o1 e1 => ?_
     have e1k : hcel (G ++ B) b1 (o1 + 1) = some (.int .i64 ds[i].key) := qW e1 1 rfl
     simp only [wk, seval, e1k]
     refine specMapSlot_c ?_
     simp (disch := omega) only [wk, seval, qI]
     refine ⟨ds.length - (i + 1), by omega, _, .refl _, i + 1, decide (slotK ds[i].key = s), rfl, rfl, ?_, by omega, rfl⟩
     rw [List.take_succ_eq_append_getElem hi2, decide_eq_true_eq]
     constructor
     ·intro e
      exact .inr ⟨ds[i], List.mem_append_right _ List.mem_cons_self, e⟩
     ·rintro (h1 | ⟨st, h1, h2⟩)
      ·exact absurd (hb.2 (.inl h1)) (by simp)
      ·rcases List.mem_append.1 h1 with h3 | h3
       ·exact absurd (hb.2 (.inr ⟨st, h3, h2⟩)) (by simp)
       ·rw [<- List.mem_singleton.1 h3]; exact h2
   ·have hi2 : i = ds.length := by omega
    subst hi2
    rw [List.take_length] at hb
    have hb2 : b = true ↔ touchP c ds s := hb
    cases b with
    | true =>
     have ht := hb2.1 rfl
     simp only [wk, seval]
     refine qA (o := blk (fl eI [(s : Int)]) 3) fun j7 hj7 => ?_
     simp only [wk, seval]
     refine app_leaf (g := G) (h := B) zC eI_one tInts iInt (Sub.cons hj7 (Sub.refl _)) dG oG (rI_lit (e := 3) [(s : Int)]) (by simp; omega) (by simp; omega) fun v2 g2 o2 d2 => ?_
     simp (disch := omega) only [wk, seval, qI]
     refine ⟨8 - (s + 1), by omega, _, .refl _, s + 1, v2, _, g2, by simp, rfl, d2, o2, ?_, fun x => ?_, by simp; omega, by omega, rfl⟩
     ·rw [List.pairwise_append]
      refine ⟨hpw, by simp, fun x hx y hy => ?_⟩
      rw [List.mem_singleton.1 hy]
      have := ((hmem x).1 hx).1; omega
     ·rw [List.mem_append, hmem, List.mem_singleton]
      constructor
      ·rintro (⟨h1, h2⟩ | h1)
       ·exact ⟨⟨h1.1, by omega⟩, h2⟩
       ·rw [h1]; exact ⟨⟨by omega, by omega⟩, ht⟩
      ·rintro ⟨⟨h1, h2⟩, h3⟩
       by_cases e : x = s
       ·exact .inr e
       ·exact .inl ⟨⟨h1, by omega⟩, h3⟩
    | false =>
     simp (disch := omega) only [wk, seval, qI]
     refine ⟨8 - (s + 1), by omega, _, .refl _, s + 1, v', xs, G, by simp, rfl, dG, oG, hpw, fun x => ?_, by omega, by omega, rfl⟩
     rw [hmem]
     constructor
     ·rintro ⟨h1, h2⟩
      exact ⟨⟨h1.1, by omega⟩, h2⟩
     ·rintro ⟨⟨h1, h2⟩, h3⟩
      by_cases e : x = s
      ·rw [e] at h3; exact absurd (hb2.2 h3) (by simp)
      ·exact ⟨⟨h1, by omega⟩, h3⟩
 ·have hs8 : s = 8 := by omega
  subst hs8
  have dh : Dj G h := by
   have := dG
   rw [hB] at this
   simp only [subs] at this
   exact this.2.2
  refine ⟨G ++ h, ?_, k v' G xs (.inr ⟨hok, hpw, ds, ok, O, fun x => ?_⟩) hxl oG dh⟩
  ·rw [hB] at dG ⊢
   have dg := dG
   simp only [subs] at dg
   (repeat' first | exact Sub.refl _ | exact Sub.nil _ | assumption | refine Sub.both ?_ ?_ | refine Sub.cons_of (by simp only [subs, dg, n4, hj]) ?_ | exact Sub.left _ _ | refine Sub.app (by simp only [subs, dg, n4, hj]) ?_ | refine Sub.cons (by simp only [subs, dg, n4, hj]) ?_)
  ·rw [hmem]
   refine ⟨fun p => p.2, fun p => ⟨?_, p⟩⟩
   rcases p with ⟨p1, p2⟩ | ⟨st, p1, p2⟩
   ·have hsl : slotP c.slot := by
     rcases hok.1.2.2 with q | q
     ·have := q.1; omega
     ·exact q.2.2.1
    unfold slotP inP at hsl
    omega
   ·have := slotK_in (O.keys st p1)
    omega
end Go.Proofs.YtgbapakcfmgahaaGreatDoor
end
