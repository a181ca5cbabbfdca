/- Parts of the proof, put together: Y7, Z4, Z5, GG, Z6, ZM. -/
import Derived.ChangeArms
import Derived.Test.YtmfhlkkligcgdaaGreatDoorK1020
import Derived.Test.YtmfhlkkligcgdaaGreatDoorK1018
import Derived.Test.YtmfhlkkligcgdaaGreatDoorK1016
import Derived.Test.YtmfhlkkligcgdaaGreatDoorK1013
import Derived.Test.YtmfhlkkligcgdaaGreatDoorK1014
/- Gates: which are ok, by the reference. -/
section
set_option linter.unusedVariables false
set_option linter.unusedSimpArgs false
set_option maxRecDepth 20000
attribute [local irreducible] Go.Tk.vc Go.Tk.vops Go.Tk.vdr Go.Tk.vop Go.Tk.vfl Go.Tk.HCalls
namespace Go.Proofs.YtmfhlkkligcgdaaGreatDoor
open Go Go.Tk

set_option maxHeartbeats 2000000 in
theorem specGateOk_c {h : H} {g : DGate} {lg lv wy : Value} (r : sGate h g lg lv wy) (hb : bGate g) {R : Ending → H → Prop} (k : Asks R (gateOkP g) h) : HCalls Tryz.prog 29 #[.agg (cGate g lg lv wy).toArray] h R := by
  refine HCalls_ir (args := [.agg (cGate g lg lv wy).toArray]) Tryz.func29 ir29 ?_
  have b1 := hb.lives; have b2 := hb.ways; have b3 := hb.log
  unfold lim at b1 b2 b3
  simp only [walk, lists, acts, mem, plain, seqs, maps, cells, resL, resV, intBin, seval, wGate]
  refine newB_intro (o := blk (cGate g lg lv wy) 34) fun j hj => ?_
  have s1 := Sub.cons (o := blk (cGate g lg lv wy) 34) hj (Sub.refl h)
  have r1 := r.sub s1
  obtain ⟨M, hM⟩ : ∃ M, M = (j, blk (cGate g lg lv wy) 34) :: h := ⟨_, rfl⟩
  have f0 : hcel M j 0 = some (.bool g.up) := by rw [hM]; simp only [walk, lists, acts, mem, plain, seqs, maps, cells, resL, resV, intBin, seval, wGate]
  have f1 : hcel M j 1 = some (.int .i64 g.life) := by rw [hM]; simp only [walk, lists, acts, mem, plain, seqs, maps, cells, resL, resV, intBin, seval, wGate]
  have f2 : hcel M j 2 = some (.int .i64 g.next) := by rw [hM]; simp only [walk, lists, acts, mem, plain, seqs, maps, cells, resL, resV, intBin, seval, wGate]
  have f3 : hcel M j 3 = some lg := by rw [hM]; simp only [walk, lists, acts, mem, plain, seqs, maps, cells, resL, resV, intBin, seval, wGate]
  have f4 : hcel M j 4 = some lv := by rw [hM]; simp only [walk, lists, acts, mem, plain, seqs, maps, cells, resL, resV, intBin, seval, wGate]
  have f5 : hcel M j 5 = some wy := by rw [hM]; simp only [walk, lists, acts, mem, plain, seqs, maps, cells, resL, resV, intBin, seval, wGate]
  have fa : hread M j 0 6 = some (cGate g lg lv wy) := by rw [hM]; simp only [walk, lists, acts, mem, plain, seqs, maps, cells, resL, resV, intBin, seval, wGate]
  rw [← hM] at r1 s1 ⊢
  simp only [walk, lists, acts, mem, plain, seqs, maps, cells, resL, resV, intBin, seval, wGate, f0, f1, f2, f3, f4, f5]
  refine l6In_c fun q1 hq1 => ?_
  cases q1 with
  | false =>
    simp only [walk, lists, acts, mem, plain, seqs, maps, cells, resL, resV, intBin, seval, wGate, f0, f1, f2, f3, f4, f5]
    exact k.dno s1 fun p => not_b hq1 rfl p.1
  | true =>
  simp only [walk, lists, acts, mem, plain, seqs, maps, cells, resL, resV, intBin, seval, wGate, f0, f1, f2, f3, f4, f5]
  refine l6In_c fun q2 hq2 => ?_
  cases q2 with
  | false =>
    simp only [walk, lists, acts, mem, plain, seqs, maps, cells, resL, resV, intBin, seval, wGate, f0, f1, f2, f3, f4, f5]
    exact k.dno s1 fun p => not_b hq2 rfl p.2.1
  | true =>
  simp only [walk, lists, acts, mem, plain, seqs, maps, cells, resL, resV, intBin, seval, wGate, f0, f1, f2, f3, f4, f5]
  refine l22LogOk_c r1.1 (by omega) hb.recs (hq2.1 rfl) fun q3 hq3 => ?_
  cases q3 with
  | false =>
    simp only [walk, lists, acts, mem, plain, seqs, maps, cells, resL, resV, intBin, seval, wGate, f0, f1, f2, f3, f4, f5]
    exact k.dno s1 fun p => not_b hq3 rfl p.2.2.1
  | true =>
  simp only [walk, lists, acts, mem, plain, seqs, maps, cells, resL, resV, intBin, seval, wGate, f0, f1, f2, f3, f4, f5, r1.2.1.len, r1.2.2.len]
  refine ite_lt (fun c1 => k.dno s1 fun p => ?_) fun c1 => ?_
  · have := p.2.2.2.1.1; omega
  cases hup : g.up with
  | false =>
    simp (disch := omega) only [walk, lists, acts, mem, plain, seqs, maps, cells, resL, resV, intBin, seval, wGate, f0, f1, f2, f3, f4, f5, r1.2.1.len, r1.2.2.len, wrapI]
    refine ite_lt (fun c2 => k.dno s1 fun p => ?_) fun c2 => ?_
    · have := p.2.2.2.2.1 hup
      rw [this.1, this.2] at c2; simp at c2
    · have hemp : g.up = false → g.lives = [] ∧ g.ways = [] := fun _ => ⟨List.eq_nil_of_length_eq_zero (by omega), List.eq_nil_of_length_eq_zero (by omega)⟩
      refine vc_loop [3] (fun n vs h' => ∃ i : Nat, vs = [.int .i64 i] ∧ h' = M ∧ i ≤ g.lives.length ∧ n = g.lives.length - i ∧ (∀ x ∈ g.lives.take i, liveP x g.next ∧ (∀ r ∈ g.log, r.stamp ≠ x.stamp) ∧ ∀ r, lastOf g.log x.call.session = some r → r.call.number < x.call.number) ∧ risU (·.stamp) g.lives i ∧
          ∀ q p (hp : p < g.lives.length) (hq : q < p), p < i → (g.lives[q]'(by omega)).call.session ≠ g.lives[p].call.session) g.lives.length rfl ⟨0, rfl, rfl, by omega, by omega, by simp, risU_zero _ _, fun q p hp hq h => absurd h (Nat.not_lt_zero _)⟩ ?_
      rintro n f h' ⟨i, hv, rfl, hi, rfl, hall, hris, hses⟩
      simp only [List.map_cons, List.map_nil, List.cons.injEq, and_true] at hv
      simp only [walk, lists, acts, mem, plain, seqs, maps, cells, resL, resV, intBin, seval, wr, hv, f4, r1.2.1.len]
      refine ite_lt (fun d1 => ?_) fun d1 => ?_
      · have hi2 : i < g.lives.length := by omega
        have zl := zLive_eq
        obtain ⟨b, o, cs, hx, e, a1, a2, rfl, sr⟩ := rs_at r1.2.1 hi2
        have hone := wLive.2.2.2.2.2.2.2.2.2.2.2.2.2.2.2.1 g.lives[i] a1 a2 (rdS.one sr.1) (rRs.one sr.2)
        simp only [walk, lists, acts, mem, plain, seqs, maps, cells, resL, resV, intBin, seval, hx, e, zl, wLive]
        refine newB_intro (o := blk (cLive zLive (.slice none 0 0) (.slice none 0 0)) 82) fun j4 hj4 => ?_
        simp only [walk, lists, acts, mem, plain, seqs, maps, cells, resL, resV, intBin, seval, zl, wLive, hone]
        obtain ⟨B, hB⟩ : ∃ B, B = (j4, blk (cLive g.lives[i] a1 a2) 82) :: h' := ⟨_, rfl⟩
        have sB : Tk.Sub h' B := by rw [hB]; exact Sub.cons hj4 (Sub.refl _)
        have g2' := hcel_sub sB f2
        have g3' := hcel_sub sB f3
        have g4' := hcel_sub sB f4
        have la : hread B j4 0 12 = some (cLive g.lives[i] a1 a2) := by rw [hB]; simp only [walk, lists, acts, mem, plain, seqs, maps, cells, resL, resV, intBin, seval, wLive]
        have l0 : hcel B j4 0 = some (.int .i64 g.lives[i].stamp) := by rw [hB]; simp only [walk, lists, acts, mem, plain, seqs, maps, cells, resL, resV, intBin, seval, wLive]
        have l4 : hcel B j4 4 = some (.int .i64 g.lives[i].call.session) := by rw [hB]; simp only [walk, lists, acts, mem, plain, seqs, maps, cells, resL, resV, intBin, seval, wLive]
        have l5 : hcel B j4 5 = some (.int .i64 g.lives[i].call.number) := by rw [hB]; simp only [walk, lists, acts, mem, plain, seqs, maps, cells, resL, resV, intBin, seval, wLive]
        have rl : rRs B (rLive h') 12 lv g.lives := r1.2.1.subH sB
        have rg : rRs B (rRecord B) 11 lg g.log := (r1.1.subH sB).relImp fun _ _ x => rRecord.sub sB x
        have s2 := s1.trans sB
        have sBB := Sub.refl B
        rw [← hB]
        refine vc_draw _ (Sub.refl _) ?_
        simp only [walk, lists, acts, mem, plain, seqs, maps, cells, resL, resV, intBin, seval, la, g2', g3', g4', l0, l4, l5, sBB]
        have bad : ¬ (liveP g.lives[i] g.next ∧ (∀ r ∈ g.log, r.stamp ≠ g.lives[i].stamp) ∧ ∀ r, lastOf g.log g.lives[i].call.session = some r → r.call.number < g.lives[i].call.number) → ¬ gateOkP g := fun q p => q (p.2.2.2.1.2.1 _ (List.getElem_mem hi2))
        refine l22LiveOk_c (sLive.sub sB sr) (hb.live _ (List.getElem_mem hi2)) (hq2.1 rfl) fun u1 hu1 => ?_
        cases u1 with
        | false =>
          simp only [walk, lists, acts, mem, plain, seqs, maps, cells, resL, resV, intBin, seval, la, g2', g3', g4', l0, l4, l5, sBB]
          exact k.dno s2 (bad fun q => not_b hu1 rfl q.1)
        | true =>
        simp only [walk, lists, acts, mem, plain, seqs, maps, cells, resL, resV, intBin, seval, la, g2', g3', g4', l0, l4, l5, sBB]
        refine ite_lt (fun y1 => ?_) fun y1 => ?_
        · have hi3 : i - 1 < g.lives.length := by omega
          obtain ⟨b3, o3, cs3, hx3, e3, a13, a23, rfl, sr3⟩ := rs_at rl hi3
          have y0 : hcel B b3 o3 = some (.int .i64 g.lives[i - 1].stamp) := by have := hread_c e3 0 rfl; rw [Nat.add_zero] at this; exact this
          have hw3 : IntKind.i64.wrap ((i : Int) - 1) = ((i - 1 : Nat) : Int) := by rw [wrapI _ ⟨by omega, by omega⟩]; omega
          simp only [walk, lists, acts, mem, plain, seqs, maps, cells, resL, resV, intBin, seval, hx3, y0, hw3, la, g2', g3', g4', l0, l4, l5, sBB]
          refine ite_ge (fun y2 => k.dno s2 fun p => risU_not (k := (·.stamp)) hi2 (by omega) (by show ¬ g.lives[i - 1].stamp < g.lives[i].stamp; omega) p.2.2.2.1.2.2.1) fun y2 => ?_
          have hris2 := risU_more hi2 (by omega) hris y2
          try simp only [walk, lists, acts, mem, plain, seqs, maps, cells, resL, resV, intBin, seval, la, g2', g3', g4', l0, l4, l5, sBB]
          refine vc_loop [5] (fun n vs h2 => ∃ p : Nat, vs = [.int .i64 p] ∧ h2 = B ∧ p ≤ g.log.length ∧ n = g.log.length - p ∧ ∀ r ∈ g.log.take p, r.stamp ≠ g.lives[i].stamp) g.log.length rfl ⟨0, rfl, rfl, by omega, by omega, by simp⟩ ?_
          rintro n2 f2 h2 ⟨p, hv2, rfl, hp, rfl, hst⟩
          simp only [List.map_cons, List.map_nil, List.cons.injEq, and_true] at hv2
          simp only [walk, lists, acts, mem, plain, seqs, maps, cells, resL, resV, intBin, seval, wr, hv2, g3', rg.len]
          refine ite_lt (fun e1 => ?_) fun e1 => ?_
          · have hp2 : p < g.log.length := by omega
            obtain ⟨b', o', cs', hx', e', a1', a2', rfl, sr'⟩ := rs_at rg hp2
            have q0 : hcel h2 b' o' = some (.int .i64 g.log[p].stamp) := by have := hread_c e' 0 rfl; rw [Nat.add_zero] at this; exact this
            refine vc_draw _ (Sub.refl _) ?_
            simp only [walk, lists, acts, mem, plain, seqs, maps, cells, resL, resV, intBin, seval, g3', hx', q0, l0, Sub.refl h2]
            refine ite_pos (fun c5 => k.dno s2 (bad fun q => q.2.1 _ (List.getElem_mem hp2) c5)) fun c5 => ?_
            simp (disch := omega) only [wrapI]
            exact ⟨g.log.length - (p + 1), by omega, _, .refl _, p + 1, by simp, rfl, by omega, rfl, fun x hx => by
              rw [List.take_succ_eq_append_getElem hp2] at hx
              rcases List.mem_append.1 hx with hx | hx
              · exact hst x hx
              · rw [List.mem_singleton.1 hx]; exact c5⟩
          · rw [List.take_of_length_le (by omega)] at hst
            refine vc_loop [6] (fun n vs h3 => ∃ p : Nat, vs = [.int .i64 p] ∧ h3 = h2 ∧ p ≤ i ∧ n = i - p ∧ ∀ q (hq : q < p) (hq2 : q < g.lives.length), g.lives[q].call.session ≠ g.lives[i].call.session) i rfl ⟨0, rfl, rfl, by omega, by omega, fun q hq => absurd hq (by omega)⟩ ?_
            rintro n3 f3 h3 ⟨p3, hv3, rfl, hp3, rfl, hss⟩
            simp only [List.map_cons, List.map_nil, List.cons.injEq, and_true] at hv3
            simp only [walk, lists, acts, mem, plain, seqs, maps, cells, resL, resV, intBin, seval, wr, hv3]
            refine ite_lt (fun e2 => ?_) fun e2 => ?_
            · have hp4 : p3 < g.lives.length := by omega
              obtain ⟨b', o', cs', hx', e', a1', a2', rfl, sr'⟩ := rs_at rl hp4
              have q4 : hcel h3 b' (o' + 4) = some (.int .i64 g.lives[p3].call.session) := hread_c e' 4 rfl
              refine vc_draw _ (Sub.refl _) ?_
              simp only [walk, lists, acts, mem, plain, seqs, maps, cells, resL, resV, intBin, seval, g4', hx', q4, l4, Sub.refl h3]
              refine ite_pos (fun c5 => k.dno s2 (fun q => q.2.2.2.1.2.2.2 p3 i hi2 (by omega) c5)) fun c5 => ?_
              simp (disch := omega) only [wrapI]
              exact ⟨i - (p3 + 1), by omega, _, .refl _, p3 + 1, by simp, rfl, by omega, rfl, fun q hq hq2 => by
                by_cases c : q = p3
                · subst c; exact c5
                · exact hss q (by omega) hq2⟩
            · have hpi : p3 = i := by omega
              subst hpi
              simp only [walk, lists, acts, mem, plain, seqs, maps, cells, resL, resV, intBin, seval, g3', l4]
              obtain ⟨d, x1, x2, ok, sd, hlast, hcl⟩ := l22Last_x (s := g.lives[p3].call.session) rg (by omega)
              refine hcl _ ?_
              have zr := zRecord_eq
              simp only [walk, lists, acts, mem, plain, seqs, maps, cells, resL, resV, intBin, seval, zr]
              refine newB_intro (o := blk (cRecord zRecord (.slice none 0 0) (.slice none 0 0)) 86) fun j8 hj8 => ?_
              have hone8 := wRecord.2.2.2.2.2.2.2.2.2.2.2.2.2.2.1 d x1 x2 (rdS.one sd.1) (rdS.one sd.2)
              have s9 : ∀ o, Tk.Sub h3 ((j8, o) :: h3) := fun o => Sub.cons hj8 (Sub.refl _)
              have l5' := hcel_sub (s9 (blk (cRecord d x1 x2) 86)) l5
              have fin : (∀ r, lastOf g.log g.lives[p3].call.session = some r → r.call.number < g.lives[p3].call.number) → ∃ m, m < g.lives.length - p3 ∧ ∃ gg, Tk.Sub gg ((j8, blk (cRecord d x1 x2) 86) :: h3) ∧ ∃ i' : Nat, [Value.int .i64 ((p3 : Int) + 1)] = [Value.int .i64 i'] ∧ gg = h' ∧ i' ≤ g.lives.length ∧ m = g.lives.length - i' ∧ (∀ x ∈ g.lives.take i', liveP x g.next ∧ (∀ r ∈ g.log, r.stamp ≠ x.stamp) ∧ ∀ r, lastOf g.log x.call.session = some r → r.call.number < x.call.number) ∧ risU (·.stamp) g.lives i' ∧
                  ∀ q p (hp : p < g.lives.length) (hq : q < p), p < i' → (g.lives[q]'(by omega)).call.session ≠ g.lives[p].call.session := fun hlst =>
                ⟨g.lives.length - (p3 + 1), by omega, h', sB.trans (s9 _), p3 + 1, by simp, rfl, by omega, rfl, fun x hx => by
                  rw [List.take_succ_eq_append_getElem hi2] at hx
                  rcases List.mem_append.1 hx with hx | hx
                  · exact hall x hx
                  · rw [List.mem_singleton.1 hx]; exact ⟨hu1.1 rfl, hst, hlst⟩, hris2, fun q p hp hq hpi => by
                  by_cases c : p = p3
                  · subst c; exact hss q hq (by omega)
                  · exact hses q p hp hq (by omega)⟩
              have s8 := Sub_new (o := blk (cRecord zRecord (.slice none 0 0) (.slice none 0 0)) 86) hj8
              simp only [walk, lists, acts, mem, plain, seqs, maps, cells, resL, resV, intBin, seval, s8, zr, wRecord, hone8]
              cases ok with
              | false =>
                simp (disch := omega) only [walk, lists, acts, mem, plain, seqs, maps, cells, resL, resV, intBin, seval, wrapI]
                exact fin fun x hx => by rw [hlast] at hx; simp at hx
              | true =>
                simp only [walk, lists, acts, mem, plain, seqs, maps, cells, resL, resV, intBin, seval, l5', wRecord]
                refine ite_ge (fun c7 => k.dno (s2.trans (s9 _)) (bad fun q => ?_)) fun c7 => ?_
                · have := q.2.2 d (by rw [hlast]; rfl)
                  omega
                · simp (disch := omega) only [walk, lists, acts, mem, plain, seqs, maps, cells, resL, resV, intBin, seval, wrapI]
                  refine fin fun x hx => ?_
                  rw [hlast] at hx
                  cases hx
                  omega
        · have hris2 : risU (·.stamp) g.lives (i + 1) := risU_one (by omega) hris
          try simp only [walk, lists, acts, mem, plain, seqs, maps, cells, resL, resV, intBin, seval, la, g2', g3', g4', l0, l4, l5, sBB]
          refine vc_loop [5] (fun n vs h2 => ∃ p : Nat, vs = [.int .i64 p] ∧ h2 = B ∧ p ≤ g.log.length ∧ n = g.log.length - p ∧ ∀ r ∈ g.log.take p, r.stamp ≠ g.lives[i].stamp) g.log.length rfl ⟨0, rfl, rfl, by omega, by omega, by simp⟩ ?_
          rintro n2 f2 h2 ⟨p, hv2, rfl, hp, rfl, hst⟩
          simp only [List.map_cons, List.map_nil, List.cons.injEq, and_true] at hv2
          simp only [walk, lists, acts, mem, plain, seqs, maps, cells, resL, resV, intBin, seval, wr, hv2, g3', rg.len]
          refine ite_lt (fun e1 => ?_) fun e1 => ?_
          · have hp2 : p < g.log.length := by omega
            obtain ⟨b', o', cs', hx', e', a1', a2', rfl, sr'⟩ := rs_at rg hp2
            have q0 : hcel h2 b' o' = some (.int .i64 g.log[p].stamp) := by have := hread_c e' 0 rfl; rw [Nat.add_zero] at this; exact this
            refine vc_draw _ (Sub.refl _) ?_
            simp only [walk, lists, acts, mem, plain, seqs, maps, cells, resL, resV, intBin, seval, g3', hx', q0, l0, Sub.refl h2]
            refine ite_pos (fun c5 => k.dno s2 (bad fun q => q.2.1 _ (List.getElem_mem hp2) c5)) fun c5 => ?_
            simp (disch := omega) only [wrapI]
            exact ⟨g.log.length - (p + 1), by omega, _, .refl _, p + 1, by simp, rfl, by omega, rfl, fun x hx => by
              rw [List.take_succ_eq_append_getElem hp2] at hx
              rcases List.mem_append.1 hx with hx | hx
              · exact hst x hx
              · rw [List.mem_singleton.1 hx]; exact c5⟩
          · rw [List.take_of_length_le (by omega)] at hst
            refine vc_loop [6] (fun n vs h3 => ∃ p : Nat, vs = [.int .i64 p] ∧ h3 = h2 ∧ p ≤ i ∧ n = i - p ∧ ∀ q (hq : q < p) (hq2 : q < g.lives.length), g.lives[q].call.session ≠ g.lives[i].call.session) i rfl ⟨0, rfl, rfl, by omega, by omega, fun q hq => absurd hq (by omega)⟩ ?_
            rintro n3 f3 h3 ⟨p3, hv3, rfl, hp3, rfl, hss⟩
            simp only [List.map_cons, List.map_nil, List.cons.injEq, and_true] at hv3
            simp only [walk, lists, acts, mem, plain, seqs, maps, cells, resL, resV, intBin, seval, wr, hv3]
            refine ite_lt (fun e2 => ?_) fun e2 => ?_
            · have hp4 : p3 < g.lives.length := by omega
              obtain ⟨b', o', cs', hx', e', a1', a2', rfl, sr'⟩ := rs_at rl hp4
              have q4 : hcel h3 b' (o' + 4) = some (.int .i64 g.lives[p3].call.session) := hread_c e' 4 rfl
              refine vc_draw _ (Sub.refl _) ?_
              simp only [walk, lists, acts, mem, plain, seqs, maps, cells, resL, resV, intBin, seval, g4', hx', q4, l4, Sub.refl h3]
              refine ite_pos (fun c5 => k.dno s2 (fun q => q.2.2.2.1.2.2.2 p3 i hi2 (by omega) c5)) fun c5 => ?_
              simp (disch := omega) only [wrapI]
              exact ⟨i - (p3 + 1), by omega, _, .refl _, p3 + 1, by simp, rfl, by omega, rfl, fun q hq hq2 => by
                by_cases c : q = p3
                · subst c; exact c5
                · exact hss q (by omega) hq2⟩
            · have hpi : p3 = i := by omega
              subst hpi
              simp only [walk, lists, acts, mem, plain, seqs, maps, cells, resL, resV, intBin, seval, g3', l4]
              obtain ⟨d, x1, x2, ok, sd, hlast, hcl⟩ := l22Last_x (s := g.lives[p3].call.session) rg (by omega)
              refine hcl _ ?_
              have zr := zRecord_eq
              simp only [walk, lists, acts, mem, plain, seqs, maps, cells, resL, resV, intBin, seval, zr]
              refine newB_intro (o := blk (cRecord zRecord (.slice none 0 0) (.slice none 0 0)) 86) fun j8 hj8 => ?_
              have hone8 := wRecord.2.2.2.2.2.2.2.2.2.2.2.2.2.2.1 d x1 x2 (rdS.one sd.1) (rdS.one sd.2)
              have s9 : ∀ o, Tk.Sub h3 ((j8, o) :: h3) := fun o => Sub.cons hj8 (Sub.refl _)
              have l5' := hcel_sub (s9 (blk (cRecord d x1 x2) 86)) l5
              have fin : (∀ r, lastOf g.log g.lives[p3].call.session = some r → r.call.number < g.lives[p3].call.number) → ∃ m, m < g.lives.length - p3 ∧ ∃ gg, Tk.Sub gg ((j8, blk (cRecord d x1 x2) 86) :: h3) ∧ ∃ i' : Nat, [Value.int .i64 ((p3 : Int) + 1)] = [Value.int .i64 i'] ∧ gg = h' ∧ i' ≤ g.lives.length ∧ m = g.lives.length - i' ∧ (∀ x ∈ g.lives.take i', liveP x g.next ∧ (∀ r ∈ g.log, r.stamp ≠ x.stamp) ∧ ∀ r, lastOf g.log x.call.session = some r → r.call.number < x.call.number) ∧ risU (·.stamp) g.lives i' ∧
                  ∀ q p (hp : p < g.lives.length) (hq : q < p), p < i' → (g.lives[q]'(by omega)).call.session ≠ g.lives[p].call.session := fun hlst =>
                ⟨g.lives.length - (p3 + 1), by omega, h', sB.trans (s9 _), p3 + 1, by simp, rfl, by omega, rfl, fun x hx => by
                  rw [List.take_succ_eq_append_getElem hi2] at hx
                  rcases List.mem_append.1 hx with hx | hx
                  · exact hall x hx
                  · rw [List.mem_singleton.1 hx]; exact ⟨hu1.1 rfl, hst, hlst⟩, hris2, fun q p hp hq hpi => by
                  by_cases c : p = p3
                  · subst c; exact hss q hq (by omega)
                  · exact hses q p hp hq (by omega)⟩
              have s8 := Sub_new (o := blk (cRecord zRecord (.slice none 0 0) (.slice none 0 0)) 86) hj8
              simp only [walk, lists, acts, mem, plain, seqs, maps, cells, resL, resV, intBin, seval, s8, zr, wRecord, hone8]
              cases ok with
              | false =>
                simp (disch := omega) only [walk, lists, acts, mem, plain, seqs, maps, cells, resL, resV, intBin, seval, wrapI]
                exact fin fun x hx => by rw [hlast] at hx; simp at hx
              | true =>
                simp only [walk, lists, acts, mem, plain, seqs, maps, cells, resL, resV, intBin, seval, l5', wRecord]
                refine ite_ge (fun c7 => k.dno (s2.trans (s9 _)) (bad fun q => ?_)) fun c7 => ?_
                · have := q.2.2 d (by rw [hlast]; rfl)
                  omega
                · simp (disch := omega) only [walk, lists, acts, mem, plain, seqs, maps, cells, resL, resV, intBin, seval, wrapI]
                  refine fin fun x hx => ?_
                  rw [hlast] at hx
                  cases hx
                  omega
      · have hil : i = g.lives.length := by omega
        simp only [walk, lists, acts, mem, plain, seqs, maps, cells, resL, resV, intBin, seval, fa]
        refine l22WaysOk_c r1 hb fun u2 hu2 => ?_
        simp only [walk, lists, acts, mem, plain, seqs, maps, cells, resL, resV, intBin, seval]
        refine ⟨h, s1, k u2 (hu2.trans ⟨fun w => ⟨hq1.1 rfl, hq2.1 rfl, hq3.1 rfl, ⟨by omega, ?_, risU_done (by omega) hris, fun q p hp hq => hses q p hp hq (by omega)⟩, hemp, w⟩, fun w => w.2.2.2.2.2⟩)⟩
        rw [List.take_of_length_le (by omega)] at hall
        exact hall
  | true =>
    simp only [walk, lists, acts, mem, plain, seqs, maps, cells, resL, resV, intBin, seval, wGate, f0, f1, f2, f3, f4, f5, r1.2.1.len, r1.2.2.len]
    have hemp : g.up = false → g.lives = [] ∧ g.ways = [] := fun c => (by rw [hup] at c; cases c)
    refine vc_loop [3] (fun n vs h' => ∃ i : Nat, vs = [.int .i64 i] ∧ h' = M ∧ i ≤ g.lives.length ∧ n = g.lives.length - i ∧ (∀ x ∈ g.lives.take i, liveP x g.next ∧ (∀ r ∈ g.log, r.stamp ≠ x.stamp) ∧ ∀ r, lastOf g.log x.call.session = some r → r.call.number < x.call.number) ∧ risU (·.stamp) g.lives i ∧
        ∀ q p (hp : p < g.lives.length) (hq : q < p), p < i → (g.lives[q]'(by omega)).call.session ≠ g.lives[p].call.session) g.lives.length rfl ⟨0, rfl, rfl, by omega, by omega, by simp, risU_zero _ _, fun q p hp hq h => absurd h (Nat.not_lt_zero _)⟩ ?_
    rintro n f h' ⟨i, hv, rfl, hi, rfl, hall, hris, hses⟩
    simp only [List.map_cons, List.map_nil, List.cons.injEq, and_true] at hv
    simp only [walk, lists, acts, mem, plain, seqs, maps, cells, resL, resV, intBin, seval, wr, hv, f4, r1.2.1.len]
    refine ite_lt (fun d1 => ?_) fun d1 => ?_
    · have hi2 : i < g.lives.length := by omega
      have zl := zLive_eq
      obtain ⟨b, o, cs, hx, e, a1, a2, rfl, sr⟩ := rs_at r1.2.1 hi2
      have hone := wLive.2.2.2.2.2.2.2.2.2.2.2.2.2.2.2.1 g.lives[i] a1 a2 (rdS.one sr.1) (rRs.one sr.2)
      simp only [walk, lists, acts, mem, plain, seqs, maps, cells, resL, resV, intBin, seval, hx, e, zl, wLive]
      refine newB_intro (o := blk (cLive zLive (.slice none 0 0) (.slice none 0 0)) 82) fun j4 hj4 => ?_
      simp only [walk, lists, acts, mem, plain, seqs, maps, cells, resL, resV, intBin, seval, zl, wLive, hone]
      obtain ⟨B, hB⟩ : ∃ B, B = (j4, blk (cLive g.lives[i] a1 a2) 82) :: h' := ⟨_, rfl⟩
      have sB : Tk.Sub h' B := by rw [hB]; exact Sub.cons hj4 (Sub.refl _)
      have g2' := hcel_sub sB f2
      have g3' := hcel_sub sB f3
      have g4' := hcel_sub sB f4
      have la : hread B j4 0 12 = some (cLive g.lives[i] a1 a2) := by rw [hB]; simp only [walk, lists, acts, mem, plain, seqs, maps, cells, resL, resV, intBin, seval, wLive]
      have l0 : hcel B j4 0 = some (.int .i64 g.lives[i].stamp) := by rw [hB]; simp only [walk, lists, acts, mem, plain, seqs, maps, cells, resL, resV, intBin, seval, wLive]
      have l4 : hcel B j4 4 = some (.int .i64 g.lives[i].call.session) := by rw [hB]; simp only [walk, lists, acts, mem, plain, seqs, maps, cells, resL, resV, intBin, seval, wLive]
      have l5 : hcel B j4 5 = some (.int .i64 g.lives[i].call.number) := by rw [hB]; simp only [walk, lists, acts, mem, plain, seqs, maps, cells, resL, resV, intBin, seval, wLive]
      have rl : rRs B (rLive h') 12 lv g.lives := r1.2.1.subH sB
      have rg : rRs B (rRecord B) 11 lg g.log := (r1.1.subH sB).relImp fun _ _ x => rRecord.sub sB x
      have s2 := s1.trans sB
      have sBB := Sub.refl B
      rw [← hB]
      refine vc_draw _ (Sub.refl _) ?_
      simp only [walk, lists, acts, mem, plain, seqs, maps, cells, resL, resV, intBin, seval, la, g2', g3', g4', l0, l4, l5, sBB]
      have bad : ¬ (liveP g.lives[i] g.next ∧ (∀ r ∈ g.log, r.stamp ≠ g.lives[i].stamp) ∧ ∀ r, lastOf g.log g.lives[i].call.session = some r → r.call.number < g.lives[i].call.number) → ¬ gateOkP g := fun q p => q (p.2.2.2.1.2.1 _ (List.getElem_mem hi2))
      refine l22LiveOk_c (sLive.sub sB sr) (hb.live _ (List.getElem_mem hi2)) (hq2.1 rfl) fun u1 hu1 => ?_
      cases u1 with
      | false =>
        simp only [walk, lists, acts, mem, plain, seqs, maps, cells, resL, resV, intBin, seval, la, g2', g3', g4', l0, l4, l5, sBB]
        exact k.dno s2 (bad fun q => not_b hu1 rfl q.1)
      | true =>
      simp only [walk, lists, acts, mem, plain, seqs, maps, cells, resL, resV, intBin, seval, la, g2', g3', g4', l0, l4, l5, sBB]
      refine ite_lt (fun y1 => ?_) fun y1 => ?_
      · have hi3 : i - 1 < g.lives.length := by omega
        obtain ⟨b3, o3, cs3, hx3, e3, a13, a23, rfl, sr3⟩ := rs_at rl hi3
        have y0 : hcel B b3 o3 = some (.int .i64 g.lives[i - 1].stamp) := by have := hread_c e3 0 rfl; rw [Nat.add_zero] at this; exact this
        have hw3 : IntKind.i64.wrap ((i : Int) - 1) = ((i - 1 : Nat) : Int) := by rw [wrapI _ ⟨by omega, by omega⟩]; omega
        simp only [walk, lists, acts, mem, plain, seqs, maps, cells, resL, resV, intBin, seval, hx3, y0, hw3, la, g2', g3', g4', l0, l4, l5, sBB]
        refine ite_ge (fun y2 => k.dno s2 fun p => risU_not (k := (·.stamp)) hi2 (by omega) (by show ¬ g.lives[i - 1].stamp < g.lives[i].stamp; omega) p.2.2.2.1.2.2.1) fun y2 => ?_
        have hris2 := risU_more hi2 (by omega) hris y2
        try simp only [walk, lists, acts, mem, plain, seqs, maps, cells, resL, resV, intBin, seval, la, g2', g3', g4', l0, l4, l5, sBB]
        refine vc_loop [5] (fun n vs h2 => ∃ p : Nat, vs = [.int .i64 p] ∧ h2 = B ∧ p ≤ g.log.length ∧ n = g.log.length - p ∧ ∀ r ∈ g.log.take p, r.stamp ≠ g.lives[i].stamp) g.log.length rfl ⟨0, rfl, rfl, by omega, by omega, by simp⟩ ?_
        rintro n2 f2 h2 ⟨p, hv2, rfl, hp, rfl, hst⟩
        simp only [List.map_cons, List.map_nil, List.cons.injEq, and_true] at hv2
        simp only [walk, lists, acts, mem, plain, seqs, maps, cells, resL, resV, intBin, seval, wr, hv2, g3', rg.len]
        refine ite_lt (fun e1 => ?_) fun e1 => ?_
        · have hp2 : p < g.log.length := by omega
          obtain ⟨b', o', cs', hx', e', a1', a2', rfl, sr'⟩ := rs_at rg hp2
          have q0 : hcel h2 b' o' = some (.int .i64 g.log[p].stamp) := by have := hread_c e' 0 rfl; rw [Nat.add_zero] at this; exact this
          refine vc_draw _ (Sub.refl _) ?_
          simp only [walk, lists, acts, mem, plain, seqs, maps, cells, resL, resV, intBin, seval, g3', hx', q0, l0, Sub.refl h2]
          refine ite_pos (fun c5 => k.dno s2 (bad fun q => q.2.1 _ (List.getElem_mem hp2) c5)) fun c5 => ?_
          simp (disch := omega) only [wrapI]
          exact ⟨g.log.length - (p + 1), by omega, _, .refl _, p + 1, by simp, rfl, by omega, rfl, fun x hx => by
            rw [List.take_succ_eq_append_getElem hp2] at hx
            rcases List.mem_append.1 hx with hx | hx
            · exact hst x hx
            · rw [List.mem_singleton.1 hx]; exact c5⟩
        · rw [List.take_of_length_le (by omega)] at hst
          refine vc_loop [6] (fun n vs h3 => ∃ p : Nat, vs = [.int .i64 p] ∧ h3 = h2 ∧ p ≤ i ∧ n = i - p ∧ ∀ q (hq : q < p) (hq2 : q < g.lives.length), g.lives[q].call.session ≠ g.lives[i].call.session) i rfl ⟨0, rfl, rfl, by omega, by omega, fun q hq => absurd hq (by omega)⟩ ?_
          rintro n3 f3 h3 ⟨p3, hv3, rfl, hp3, rfl, hss⟩
          simp only [List.map_cons, List.map_nil, List.cons.injEq, and_true] at hv3
          simp only [walk, lists, acts, mem, plain, seqs, maps, cells, resL, resV, intBin, seval, wr, hv3]
          refine ite_lt (fun e2 => ?_) fun e2 => ?_
          · have hp4 : p3 < g.lives.length := by omega
            obtain ⟨b', o', cs', hx', e', a1', a2', rfl, sr'⟩ := rs_at rl hp4
            have q4 : hcel h3 b' (o' + 4) = some (.int .i64 g.lives[p3].call.session) := hread_c e' 4 rfl
            refine vc_draw _ (Sub.refl _) ?_
            simp only [walk, lists, acts, mem, plain, seqs, maps, cells, resL, resV, intBin, seval, g4', hx', q4, l4, Sub.refl h3]
            refine ite_pos (fun c5 => k.dno s2 (fun q => q.2.2.2.1.2.2.2 p3 i hi2 (by omega) c5)) fun c5 => ?_
            simp (disch := omega) only [wrapI]
            exact ⟨i - (p3 + 1), by omega, _, .refl _, p3 + 1, by simp, rfl, by omega, rfl, fun q hq hq2 => by
              by_cases c : q = p3
              · subst c; exact c5
              · exact hss q (by omega) hq2⟩
          · have hpi : p3 = i := by omega
            subst hpi
            simp only [walk, lists, acts, mem, plain, seqs, maps, cells, resL, resV, intBin, seval, g3', l4]
            obtain ⟨d, x1, x2, ok, sd, hlast, hcl⟩ := l22Last_x (s := g.lives[p3].call.session) rg (by omega)
            refine hcl _ ?_
            have zr := zRecord_eq
            simp only [walk, lists, acts, mem, plain, seqs, maps, cells, resL, resV, intBin, seval, zr]
            refine newB_intro (o := blk (cRecord zRecord (.slice none 0 0) (.slice none 0 0)) 86) fun j8 hj8 => ?_
            have hone8 := wRecord.2.2.2.2.2.2.2.2.2.2.2.2.2.2.1 d x1 x2 (rdS.one sd.1) (rdS.one sd.2)
            have s9 : ∀ o, Tk.Sub h3 ((j8, o) :: h3) := fun o => Sub.cons hj8 (Sub.refl _)
            have l5' := hcel_sub (s9 (blk (cRecord d x1 x2) 86)) l5
            have fin : (∀ r, lastOf g.log g.lives[p3].call.session = some r → r.call.number < g.lives[p3].call.number) → ∃ m, m < g.lives.length - p3 ∧ ∃ gg, Tk.Sub gg ((j8, blk (cRecord d x1 x2) 86) :: h3) ∧ ∃ i' : Nat, [Value.int .i64 ((p3 : Int) + 1)] = [Value.int .i64 i'] ∧ gg = h' ∧ i' ≤ g.lives.length ∧ m = g.lives.length - i' ∧ (∀ x ∈ g.lives.take i', liveP x g.next ∧ (∀ r ∈ g.log, r.stamp ≠ x.stamp) ∧ ∀ r, lastOf g.log x.call.session = some r → r.call.number < x.call.number) ∧ risU (·.stamp) g.lives i' ∧
                ∀ q p (hp : p < g.lives.length) (hq : q < p), p < i' → (g.lives[q]'(by omega)).call.session ≠ g.lives[p].call.session := fun hlst =>
              ⟨g.lives.length - (p3 + 1), by omega, h', sB.trans (s9 _), p3 + 1, by simp, rfl, by omega, rfl, fun x hx => by
                rw [List.take_succ_eq_append_getElem hi2] at hx
                rcases List.mem_append.1 hx with hx | hx
                · exact hall x hx
                · rw [List.mem_singleton.1 hx]; exact ⟨hu1.1 rfl, hst, hlst⟩, hris2, fun q p hp hq hpi => by
                by_cases c : p = p3
                · subst c; exact hss q hq (by omega)
                · exact hses q p hp hq (by omega)⟩
            have s8 := Sub_new (o := blk (cRecord zRecord (.slice none 0 0) (.slice none 0 0)) 86) hj8
            simp only [walk, lists, acts, mem, plain, seqs, maps, cells, resL, resV, intBin, seval, s8, zr, wRecord, hone8]
            cases ok with
            | false =>
              simp (disch := omega) only [walk, lists, acts, mem, plain, seqs, maps, cells, resL, resV, intBin, seval, wrapI]
              exact fin fun x hx => by rw [hlast] at hx; simp at hx
            | true =>
              simp only [walk, lists, acts, mem, plain, seqs, maps, cells, resL, resV, intBin, seval, l5', wRecord]
              refine ite_ge (fun c7 => k.dno (s2.trans (s9 _)) (bad fun q => ?_)) fun c7 => ?_
              · have := q.2.2 d (by rw [hlast]; rfl)
                omega
              · simp (disch := omega) only [walk, lists, acts, mem, plain, seqs, maps, cells, resL, resV, intBin, seval, wrapI]
                refine fin fun x hx => ?_
                rw [hlast] at hx
                cases hx
                omega
      · have hris2 : risU (·.stamp) g.lives (i + 1) := risU_one (by omega) hris
        try simp only [walk, lists, acts, mem, plain, seqs, maps, cells, resL, resV, intBin, seval, la, g2', g3', g4', l0, l4, l5, sBB]
        refine vc_loop [5] (fun n vs h2 => ∃ p : Nat, vs = [.int .i64 p] ∧ h2 = B ∧ p ≤ g.log.length ∧ n = g.log.length - p ∧ ∀ r ∈ g.log.take p, r.stamp ≠ g.lives[i].stamp) g.log.length rfl ⟨0, rfl, rfl, by omega, by omega, by simp⟩ ?_
        rintro n2 f2 h2 ⟨p, hv2, rfl, hp, rfl, hst⟩
        simp only [List.map_cons, List.map_nil, List.cons.injEq, and_true] at hv2
        simp only [walk, lists, acts, mem, plain, seqs, maps, cells, resL, resV, intBin, seval, wr, hv2, g3', rg.len]
        refine ite_lt (fun e1 => ?_) fun e1 => ?_
        · have hp2 : p < g.log.length := by omega
          obtain ⟨b', o', cs', hx', e', a1', a2', rfl, sr'⟩ := rs_at rg hp2
          have q0 : hcel h2 b' o' = some (.int .i64 g.log[p].stamp) := by have := hread_c e' 0 rfl; rw [Nat.add_zero] at this; exact this
          refine vc_draw _ (Sub.refl _) ?_
          simp only [walk, lists, acts, mem, plain, seqs, maps, cells, resL, resV, intBin, seval, g3', hx', q0, l0, Sub.refl h2]
          refine ite_pos (fun c5 => k.dno s2 (bad fun q => q.2.1 _ (List.getElem_mem hp2) c5)) fun c5 => ?_
          simp (disch := omega) only [wrapI]
          exact ⟨g.log.length - (p + 1), by omega, _, .refl _, p + 1, by simp, rfl, by omega, rfl, fun x hx => by
            rw [List.take_succ_eq_append_getElem hp2] at hx
            rcases List.mem_append.1 hx with hx | hx
            · exact hst x hx
            · rw [List.mem_singleton.1 hx]; exact c5⟩
        · rw [List.take_of_length_le (by omega)] at hst
          refine vc_loop [6] (fun n vs h3 => ∃ p : Nat, vs = [.int .i64 p] ∧ h3 = h2 ∧ p ≤ i ∧ n = i - p ∧ ∀ q (hq : q < p) (hq2 : q < g.lives.length), g.lives[q].call.session ≠ g.lives[i].call.session) i rfl ⟨0, rfl, rfl, by omega, by omega, fun q hq => absurd hq (by omega)⟩ ?_
          rintro n3 f3 h3 ⟨p3, hv3, rfl, hp3, rfl, hss⟩
          simp only [List.map_cons, List.map_nil, List.cons.injEq, and_true] at hv3
          simp only [walk, lists, acts, mem, plain, seqs, maps, cells, resL, resV, intBin, seval, wr, hv3]
          refine ite_lt (fun e2 => ?_) fun e2 => ?_
          · have hp4 : p3 < g.lives.length := by omega
            obtain ⟨b', o', cs', hx', e', a1', a2', rfl, sr'⟩ := rs_at rl hp4
            have q4 : hcel h3 b' (o' + 4) = some (.int .i64 g.lives[p3].call.session) := hread_c e' 4 rfl
            refine vc_draw _ (Sub.refl _) ?_
            simp only [walk, lists, acts, mem, plain, seqs, maps, cells, resL, resV, intBin, seval, g4', hx', q4, l4, Sub.refl h3]
            refine ite_pos (fun c5 => k.dno s2 (fun q => q.2.2.2.1.2.2.2 p3 i hi2 (by omega) c5)) fun c5 => ?_
            simp (disch := omega) only [wrapI]
            exact ⟨i - (p3 + 1), by omega, _, .refl _, p3 + 1, by simp, rfl, by omega, rfl, fun q hq hq2 => by
              by_cases c : q = p3
              · subst c; exact c5
              · exact hss q (by omega) hq2⟩
          · have hpi : p3 = i := by omega
            subst hpi
            simp only [walk, lists, acts, mem, plain, seqs, maps, cells, resL, resV, intBin, seval, g3', l4]
            obtain ⟨d, x1, x2, ok, sd, hlast, hcl⟩ := l22Last_x (s := g.lives[p3].call.session) rg (by omega)
            refine hcl _ ?_
            have zr := zRecord_eq
            simp only [walk, lists, acts, mem, plain, seqs, maps, cells, resL, resV, intBin, seval, zr]
            refine newB_intro (o := blk (cRecord zRecord (.slice none 0 0) (.slice none 0 0)) 86) fun j8 hj8 => ?_
            have hone8 := wRecord.2.2.2.2.2.2.2.2.2.2.2.2.2.2.1 d x1 x2 (rdS.one sd.1) (rdS.one sd.2)
            have s9 : ∀ o, Tk.Sub h3 ((j8, o) :: h3) := fun o => Sub.cons hj8 (Sub.refl _)
            have l5' := hcel_sub (s9 (blk (cRecord d x1 x2) 86)) l5
            have fin : (∀ r, lastOf g.log g.lives[p3].call.session = some r → r.call.number < g.lives[p3].call.number) → ∃ m, m < g.lives.length - p3 ∧ ∃ gg, Tk.Sub gg ((j8, blk (cRecord d x1 x2) 86) :: h3) ∧ ∃ i' : Nat, [Value.int .i64 ((p3 : Int) + 1)] = [Value.int .i64 i'] ∧ gg = h' ∧ i' ≤ g.lives.length ∧ m = g.lives.length - i' ∧ (∀ x ∈ g.lives.take i', liveP x g.next ∧ (∀ r ∈ g.log, r.stamp ≠ x.stamp) ∧ ∀ r, lastOf g.log x.call.session = some r → r.call.number < x.call.number) ∧ risU (·.stamp) g.lives i' ∧
                ∀ q p (hp : p < g.lives.length) (hq : q < p), p < i' → (g.lives[q]'(by omega)).call.session ≠ g.lives[p].call.session := fun hlst =>
              ⟨g.lives.length - (p3 + 1), by omega, h', sB.trans (s9 _), p3 + 1, by simp, rfl, by omega, rfl, fun x hx => by
                rw [List.take_succ_eq_append_getElem hi2] at hx
                rcases List.mem_append.1 hx with hx | hx
                · exact hall x hx
                · rw [List.mem_singleton.1 hx]; exact ⟨hu1.1 rfl, hst, hlst⟩, hris2, fun q p hp hq hpi => by
                by_cases c : p = p3
                · subst c; exact hss q hq (by omega)
                · exact hses q p hp hq (by omega)⟩
            have s8 := Sub_new (o := blk (cRecord zRecord (.slice none 0 0) (.slice none 0 0)) 86) hj8
            simp only [walk, lists, acts, mem, plain, seqs, maps, cells, resL, resV, intBin, seval, s8, zr, wRecord, hone8]
            cases ok with
            | false =>
              simp (disch := omega) only [walk, lists, acts, mem, plain, seqs, maps, cells, resL, resV, intBin, seval, wrapI]
              exact fin fun x hx => by rw [hlast] at hx; simp at hx
            | true =>
              simp only [walk, lists, acts, mem, plain, seqs, maps, cells, resL, resV, intBin, seval, l5', wRecord]
              refine ite_ge (fun c7 => k.dno (s2.trans (s9 _)) (bad fun q => ?_)) fun c7 => ?_
              · have := q.2.2 d (by rw [hlast]; rfl)
                omega
              · simp (disch := omega) only [walk, lists, acts, mem, plain, seqs, maps, cells, resL, resV, intBin, seval, wrapI]
                refine fin fun x hx => ?_
                rw [hlast] at hx
                cases hx
                omega
    · have hil : i = g.lives.length := by omega
      simp only [walk, lists, acts, mem, plain, seqs, maps, cells, resL, resV, intBin, seval, fa]
      refine l22WaysOk_c r1 hb fun u2 hu2 => ?_
      simp only [walk, lists, acts, mem, plain, seqs, maps, cells, resL, resV, intBin, seval]
      refine ⟨h, s1, k u2 (hu2.trans ⟨fun w => ⟨hq1.1 rfl, hq2.1 rfl, hq3.1 rfl, ⟨by omega, ?_, risU_done (by omega) hris, fun q p hp hq => hses q p hp hq (by omega)⟩, hemp, w⟩, fun w => w.2.2.2.2.2⟩)⟩
      rw [List.take_of_length_le (by omega)] at hall
      exact hall
end Go.Proofs.YtmfhlkkligcgdaaGreatDoor
end

/- Gates: their calls and their map, by both. -/
section
set_option linter.unusedVariables false
set_option linter.unusedSimpArgs false
set_option maxRecDepth 20000
attribute [local irreducible] Go.Tk.vc Go.Tk.vops Go.Tk.vdr Go.Tk.vop Go.Tk.vfl Go.Tk.HCalls
namespace Go.Proofs.YtmfhlkkligcgdaaGreatDoor
open Go Go.Tk

theorem mapBehind_c {h : H} {m : DMap} {ow : Value} {S : Nat → Prop} {d : DRecord} {a b : Value} (r : dL 3 eI 1 h ow m.owners S) (hm : mapP m) {R : Ending → H → Prop}
    (k : ∀ M' w S', Tk.Sub h M' → dL 3 eI 1 M' w (mapStep m d).owners S' → (∀ x, S' x → S x ∨ hget h x = none) → R (.returned (.agg (cMap (mapStep m d) w).toArray)) M') :
    HCalls Tryz.prog 77 #[.agg (cMap m ow).toArray, .agg (cRecord d a b).toArray] h R := by
  refine HCalls_ir (args := [.agg (cMap m ow).toArray, .agg (cRecord d a b).toArray]) Tryz.func77 ir77 ?_
  have zm := zMap_eq
  simp only [walk, lists, acts, mem, plain, seqs, maps, cells, resL, resV, intBin, seval, wMap, wRecord]
  refine newB_intro (o := blk (cMap m ow) 43) fun j2 h2 => ?_
  simp only [walk, lists, acts, mem, plain, seqs, maps, cells, resL, resV, intBin, seval, wMap, wRecord]
  refine newB_intro (o := blk (cRecord d a b) 86) fun j3 h3 => ?_
  simp only [walk, lists, acts, mem, plain, seqs, maps, cells, resL, resV, intBin, seval, wMap, wRecord, zm]
  refine newB_intro (o := blk (cMap zMap (.slice none 0 0)) 43) fun j4 h4 => ?_
  have n3 := h3
  have n4 := h4
  simp only [subs] at n3 n4
  obtain ⟨M, hM⟩ : ∃ M, M = (j4, blk (cMap zMap (.slice none 0 0)) 43) :: (j3, blk (cRecord d a b) 86) :: (j2, blk (cMap m ow) 43) :: h := ⟨_, rfl⟩
  have sM : Tk.Sub h M := by rw [hM]; exact Sub.cons h4 (Sub.cons h3 (Sub.cons h2 (Sub.refl _)))
  have e34 : j3 ≠ j4 := fun e => n4.1 e.symm
  have e24 : j2 ≠ j4 := fun e => n4.2.1 e.symm
  have e23 : j2 ≠ j3 := fun e => n3.1 e.symm
  have m4 : hget M j4 = some (blk (cMap zMap (.slice none 0 0)) 43) := by rw [hM]; exact hget_same _ _ _
  have m3 : hget M j3 = some (blk (cRecord d a b) 86) := by rw [hM, hget_next _ _ _ e34]; exact hget_same _ _ _
  have m2 : hget M j2 = some (blk (cMap m ow) 43) := by rw [hM, hget_next _ _ _ e24, hget_next _ _ _ e23]; exact hget_same _ _ _
  have f4 : hcel M j3 4 = some (.int .i64 d.call.kind) := hcel_of m3 rfl
  have f6 : hcel M j3 6 = some (.int .i64 d.call.slot) := hcel_of m3 rfl
  have f7 : hcel M j3 7 = some (.int .i64 d.call.to) := hcel_of m3 rfl
  have f8 : hcel M j3 8 = some (.int .i64 d.code) := hcel_of m3 rfl
  have r2 : hread M j2 0 2 = some (cMap m ow) := hread_of m2 rfl
  have hown := r.one
  have ret : ∀ (N : H) (m' : DMap) (w : Value), vone w = true → hget N j4 = some (blk (cMap zMap (.slice none 0 0)) 43) → hwrite N j4 0 (cMap m' w) = some (hupd N j4 (blk (cMap m' w) 43)) ∧ hread (hupd N j4 (blk (cMap m' w) 43)) j4 0 2 = some (cMap m' w) := fun N m' w hw hN => by
    have hwt := hwrite_of (j := 0) (vs := cMap m' w) hN (Nat.le_refl _)
    rw [splice_all (x := cMap m' w) (y := cMap zMap (.slice none 0 0)) (by rfl)] at hwt
    exact ⟨hwt, hread_of (hget_hupd_same hN) rfl⟩
  have keep : mapStep m d = m → dP R (.returned (.agg (cMap m ow).toArray)) (hupd M j4 (blk (cMap m ow) 43)) := fun e => by
    rw [e] at k
    exact .of (k _ ow S (Sub.wr sM n4.2.2) (r.frame fun x q => by
      have hx := r.in q
      rw [hget_hupd_ne (fun c => by rw [c, n4.2.2] at hx; exact hx rfl)]; exact Sub.eq sM hx) fun x q => .inl q)
  obtain ⟨w1, w2⟩ := ret M m ow hown m4
  have av := wMap.2.2.2.2.2.1 m ow hown
  rw [← hM]
  simp only [walk, lists, acts, mem, plain, seqs, maps, cells, resL, resV, intBin, seval, f4]
  refine ite_pos (fun c1 => ?_) fun c1 => ?_
  · simp only [walk, lists, acts, mem, plain, seqs, maps, cells, resL, resV, intBin, seval, f8]
    refine ite_pos (fun c2 => ?_) fun c2 => ?_
    · have hst : mapStep m d = (mapMove m d.call.slot d.call.to).1 := by unfold mapStep; rw [if_pos ⟨c1, c2⟩]
      simp only [walk, lists, acts, mem, plain, seqs, maps, cells, resL, resV, intBin, seval, r2, f6, f7]
      refine implMapMove_c (r.rd.sub sM) (by have := hm.2.1; omega) fun v g o dj => ?_
      rw [← hst] at o ⊢
      have vo := rdS.one o.rd
      have av2 := wMap.2.2.2.2.2.1 (mapStep m d) v vo
      have sN : Tk.Sub M (g ++ M) := Sub.right dj
      have g2 := sN _ _ m2
      have g4 := sN _ _ m4
      obtain ⟨N, hN⟩ : ∃ N, N = hupd (g ++ M) j2 (blk (cMap (mapStep m d) v) 43) := ⟨_, rfl⟩
      have wt : hwrite (g ++ M) j2 0 (cMap (mapStep m d) v) = some N := by
        rw [hwrite_of (j := 0) (vs := cMap (mapStep m d) v) g2 (Nat.le_refl _), splice_all (x := cMap (mapStep m d) v) (y := cMap m ow) (by rfl), hN]
      have r2' : hread N j2 0 2 = some (cMap (mapStep m d) v) := hread_of (by rw [hN]; exact hget_hupd_same g2) rfl
      have g4' : hget N j4 = some (blk (cMap zMap (.slice none 0 0)) 43) := by rw [hN, hget_hupd_ne (Ne.symm e24)]; exact g4
      obtain ⟨w3, w4⟩ := ret N (mapStep m d) v vo g4'
      simp only [walk, lists, acts, mem, plain, seqs, maps, cells, resL, resV, intBin, seval, wMap, av2, wt, r2', w3, w4]
      have hg : ∀ x, hget g x ≠ none → x ≠ j2 ∧ x ≠ j4 := fun x q => ⟨fun e => (by have := dj x q; rw [e, m2] at this; cases this), fun e => (by have := dj x q; rw [e, m4] at this; cases this)⟩
      refine .of (k _ v _ (Sub.wr (by rw [hN]; exact Sub.wr (sM.trans sN) h2) n4.2.2) ((dL.of (h := h) o (Sub.left g M)).frame fun x q => by rw [hget_hupd_ne (hg x q).2, hN, hget_hupd_ne (hg x q).1]) fun x q => .inr (sM.none' (dj x q)))
    · simp only [walk, lists, acts, mem, plain, seqs, maps, cells, resL, resV, intBin, seval, r2, wMap, av, w1, w2]
      have e : mapStep m d = m := by unfold mapStep; rw [if_neg fun c => c2 c.2]
      rw [e] at keep
      exact keep rfl
  · simp only [walk, lists, acts, mem, plain, seqs, maps, cells, resL, resV, intBin, seval, r2, wMap, av, w1, w2]
    have e : mapStep m d = m := by unfold mapStep; rw [if_neg fun c => c1 c.1]
    exact keep e

theorem mapOf_c {h : H} {v : Value} {l : List DRecord} (r : rRs h (rRecord h) 11 v l) (hl : l.length ≤ 1048576) {R : Ending → H → Prop} (k : ∀ M' w S, Tk.Sub h M' → dL 3 eI 1 M' w (mapOfL l).owners S → (∀ x, S x → hget h x = none) → R (.returned (.agg (cMap (mapOfL l) w).toArray)) M') :
    HCalls Tryz.prog 45 #[v] h R := by
  refine HCalls_ir (args := [v]) Tryz.func45 ir45 ?_
  have zm := zMap_eq
  simp only [walk, lists, acts, mem, plain, seqs, maps, cells, resL, resV, intBin, seval, zm]
  refine newB_intro (o := blk (cMap zMap (.slice none 0 0)) 43) fun j2 h2 => ?_
  obtain ⟨A, hA⟩ : ∃ A, A = (j2, blk (cMap zMap (.slice none 0 0)) 43) :: h := ⟨_, rfl⟩
  have sA : Tk.Sub h A := by rw [hA]; exact Sub.cons h2 (Sub.refl _)
  have gA : hget A j2 = some (blk (cMap zMap (.slice none 0 0)) 43) := by rw [hA]; exact hget_same _ _ _
  rw [← hA]
  simp only [walk, lists, acts, mem, plain, seqs, maps, cells, resL, resV, intBin, seval, zm]
  refine implMapStart_c fun w0 g0 o0 d0 => ?_
  simp only [walk, lists, acts, mem, plain, seqs, maps, cells, resL, resV, intBin, seval, zm]
  refine newB_intro (o := blk (cMap zMap (.slice none 0 0)) 43) fun j3 h3 => ?_
  have n3 := h3
  simp only [subs] at n3
  have av0 := wMap.2.2.2.2.2.1 map0 w0 (rdS.one o0.rd)
  simp only [walk, lists, acts, mem, plain, seqs, maps, cells, resL, resV, intBin, seval, zm, wMap, av0, r.len]
  have h3h : hget h j3 = none := sA.none' n3.2
  have e23 : j2 ≠ j3 := fun e => by have := n3.2; rw [← e, gA] at this; cases this
  refine vc_loop [9] (fun n vs M' => ∃ (i : Nat) (w : Value) (S : Nat → Prop), vs = [.int .i64 i] ∧ Tk.Sub A M' ∧ hget M' j3 = some (blk (cMap (mapOfL (l.take i)) w) 43) ∧ dL 3 eI 1 M' w (mapOfL (l.take i)).owners S ∧ (∀ x, S x → hget A x = none ∧ x ≠ j3) ∧ i ≤ l.length ∧ n = l.length - i) l.length rfl
    ⟨0, w0, _, rfl, Sub.cons h3 (Sub.right d0), hget_same _ _ _, dL.of (h := h) o0 ((Sub.left g0 A).trans (Sub.cons h3 (Sub.refl _))), fun x q => ⟨d0 x q, fun e => q (by rw [e]; exact n3.1)⟩, by omega, rfl⟩ ?_
  rintro n f M' ⟨i, w, S, hv, sM, m3, dw, hS, hi, rfl⟩
  simp only [List.map_cons, List.map_nil, List.cons.injEq, and_true] at hv
  simp only [walk, lists, acts, mem, plain, seqs, maps, cells, resL, resV, intBin, seval, wr, hv]
  refine ite_lt (fun c => ?_) fun c => ?_
  · have hi2 : i < l.length := by omega
    have zr := zRecord_eq
    have hmore := mapOfL_more hi2
    obtain ⟨b, o, cs, hx, e, a1, a2, rfl, sr⟩ := rs_at (r.subH (sA.trans sM)) hi2
    have hone := wRecord.2.2.2.2.2.2.2.2.2.2.2.2.2.2.1 l[i] a1 a2 (rdS.one sr.1) (rdS.one sr.2)
    simp only [walk, lists, acts, mem, plain, seqs, maps, cells, resL, resV, intBin, seval, hx, e, zr, wRecord]
    refine newB_intro (o := blk (cRecord zRecord (.slice none 0 0) (.slice none 0 0)) 86) fun j5 hj5 => ?_
    obtain ⟨N, hN⟩ : ∃ N, N = (j5, blk (cRecord l[i] a1 a2) 86) :: M' := ⟨_, rfl⟩
    have sN : Tk.Sub M' N := by rw [hN]; exact Sub.cons hj5 (Sub.refl _)
    have r5 : hread N j5 0 11 = some (cRecord l[i] a1 a2) := hread_of (by rw [hN]; exact hget_same _ _ _) rfl
    have m3N := sN _ _ m3
    have r3 : hread N j3 0 2 = some (cMap (mapOfL (l.take i)) w) := hread_of m3N rfl
    simp only [walk, lists, acts, mem, plain, seqs, maps, cells, resL, resV, intBin, seval, zr, wRecord, hone, ← hN]
    simp only [walk, lists, acts, mem, plain, seqs, maps, cells, resL, resV, intBin, seval, r3, r5]
    refine mapBehind_c (dw.frame fun x q => Sub.eq sN (dw.in q)) (mapOfL_ok _) fun M2 w2 S2 s2 d2 f2 => ?_
    rw [← hmore] at d2 ⊢
    have vo := d2.one
    have av2 := wMap.2.2.2.2.2.1 (mapOfL (l.take (i + 1))) w2 vo
    have m32 := s2 _ _ m3N
    obtain ⟨N3, hN3⟩ : ∃ N3, N3 = hupd M2 j3 (blk (cMap (mapOfL (l.take (i + 1))) w2) 43) := ⟨_, rfl⟩
    have wt : hwrite M2 j3 0 (cMap (mapOfL (l.take (i + 1))) w2) = some N3 := by
      rw [hwrite_of (j := 0) (vs := cMap (mapOfL (l.take (i + 1))) w2) m32 (Nat.le_refl _), splice_all (x := cMap (mapOfL (l.take (i + 1))) w2) (y := cMap (mapOfL (l.take i)) w) (by rfl), hN3]
    simp (disch := omega) only [walk, lists, acts, mem, plain, seqs, maps, cells, resL, resV, intBin, seval, wMap, av2, wt, wrapI]
    have hS2 : ∀ x, S2 x → hget A x = none ∧ x ≠ j3 := fun x q => by
      rcases f2 x q with q | q
      · exact hS x q
      · exact ⟨(sM.trans sN).none' q, fun c => by rw [c, m3N] at q; cases q⟩
    refine ⟨l.length - (i + 1), by omega, N3, .refl _, i + 1, w2, S2, by simp, ?_, by rw [hN3]; exact hget_hupd_same m32, d2.frame fun x q => by rw [hN3, hget_hupd_ne (hS2 x q).2], hS2, by omega, rfl⟩
    rw [hN3]; exact Sub.wr ((sM.trans sN).trans s2) (by rw [hA, hget_next _ _ _ (Ne.symm e23)]; exact h3h)
  · have hi2 : i = l.length := by omega
    subst hi2
    rw [List.take_length] at *
    have r3 : hread M' j3 0 2 = some (cMap (mapOfL l) w) := hread_of m3 rfl
    have vo := dw.one
    have av2 := wMap.2.2.2.2.2.1 (mapOfL l) w vo
    have g2 := sM _ _ gA
    have wt : hwrite M' j2 0 (cMap (mapOfL l) w) = some (hupd M' j2 (blk (cMap (mapOfL l) w) 43)) := by
      rw [hwrite_of (j := 0) (vs := cMap (mapOfL l) w) g2 (Nat.le_refl _), splice_all (x := cMap (mapOfL l) w) (y := cMap zMap (.slice none 0 0)) (by rfl)]
    have r2 : hread (hupd M' j2 (blk (cMap (mapOfL l) w) 43)) j2 0 2 = some (cMap (mapOfL l) w) := hread_of (hget_hupd_same g2) rfl
    simp only [walk, lists, acts, mem, plain, seqs, maps, cells, resL, resV, intBin, seval, r3, wMap, av2, wt, r2]
    exact .of (k _ w S (Sub.wr (sA.trans sM) h2) (dw.frame fun x q => by rw [hget_hupd_ne (fun c => by have := (hS x q).1; rw [c, gA] at this; cases this)]) fun x q => sA.none' (hS x q).1)
end Go.Proofs.YtmfhlkkligcgdaaGreatDoor
end

/- Gates, how great they are. -/
section
set_option linter.unusedVariables false
set_option linter.unusedSimpArgs false
set_option maxRecDepth 20000
attribute [local irreducible] Go.Tk.vc Go.Tk.vops Go.Tk.vdr Go.Tk.vop Go.Tk.vfl Go.Tk.HCalls
namespace Go.Tk
open Go
theorem cnRec_le (r : DRecord) : cnRec r ≤ 9 + 2 * szRec r := by unfold cnRec szRec; omega
theorem cnTold_le (t : DTold) : cnTold t ≤ 1 + 2 * szTold t := by unfold cnTold szTold; omega
theorem cnLive_le (x : DLive) : cnLive x ≤ 10 + 2 * szLive x := by
  have := sumL_le (cnt := cnTold) (f := szTold) (l := x.told) (c := 1) (d := 2) fun t _ => cnTold_le t
  unfold cnLive szLive; omega
theorem cnGate_of {g : DGate} (h : szGateN g ≤ 1048576) : cnGate g ≤ 16777216 := by
  have h1 := sumL_le (cnt := cnRec) (f := szRec) (l := g.log) (c := 9) (d := 2) fun t _ => cnRec_le t
  have h2 := sumL_le (cnt := cnLive) (f := szLive) (l := g.lives) (c := 10) (d := 2) fun t _ => cnLive_le t
  unfold szGateN at h; unfold cnGate; omega
theorem bGate_of {g : DGate} (h : szGateN g ≤ 1048576) : bGate g := by
  unfold szGateN at h
  refine ⟨by unfold lim; omega, fun r hr => ?_, by unfold lim; omega, fun x hx => ?_, by unfold lim; omega⟩
  · have := sumL_mem szRec hr
    have h3 : szRec r ≤ 1048576 := by omega
    unfold szRec at h3
    exact ⟨by unfold lim; omega, by unfold lim; omega, by unfold bCall lim; omega⟩
  · have := sumL_mem szLive hx
    have h2 : szLive x ≤ 1048576 := by omega
    unfold szLive at h2
    refine ⟨by unfold lim; omega, by unfold lim; omega, fun t ht => ?_, by unfold bCall lim; omega⟩
    have := sumL_mem szTold ht
    have h3 : szTold t ≤ 1048576 := by omega
    unfold szTold at h3
    unfold bTold lim; omega
theorem gateMap_len (g : DGate) : (gateMap g).owners.length ≤ 1048576 := by
  unfold gateMap
  split
  · have := (mapOfL_ok g.log).2.1; omega
  · simp [zMap]
end Go.Tk
namespace Go.Proofs.YtmfhlkkligcgdaaGreatDoor
open Go Go.Tk

theorem WGate.one {M : H} {d e : DGate} {a b c : Value} {S : Nat → Prop} (w : WGate M d a b c S) : (cGate e a b c).all vone = true := by
  obtain ⟨S1, S2, S3, w1, w2, w3, _⟩ := w
  simp only [cGate, List.all_cons, List.all_nil, w1.one, w2.one, w3.one]; rfl

end Go.Proofs.YtmfhlkkligcgdaaGreatDoor
end

/- What comes in for a law, as data: gates. -/
section
set_option linter.unusedVariables false
set_option linter.unusedSimpArgs false
namespace Go.Proofs.YtmfhlkkligcgdaaGreatDoor
open Go Go.Tk

theorem cells_bool : Tryz.prog.cellsOf 4 = 1 := by kernel_rfl
theorem cells_lPair : Tryz.prog.cellsOf 151 = 2 := by kernel_rfl
theorem cells_lRecord : Tryz.prog.cellsOf 73 = 11 := by kernel_rfl
theorem cells_lTold : Tryz.prog.cellsOf 146 = 2 := by kernel_rfl
theorem cells_lLive : Tryz.prog.cellsOf 77 = 12 := by kernel_rfl
theorem cells_lWay : Tryz.prog.cellsOf 94 = 2 := by kernel_rfl
section
variable {X : Type} {enc : TypeId × Value → X} {w : World} {base : Nat} {sp : Nat → Bool} {held : Bool}
theorem in_bool {m : Nat} {c : Value} {y : DataW X × List MemPlace} (h : DataW.trod enc Tryz.prog w base sp held m 4 [c] = some y) : ∃ b, c = .bool b := by
  obtain ⟨b, e, _⟩ := DataW.trod_bool Tryz.underlying4 h
  exact ⟨b, by simpa using e⟩
theorem in_pair {m : Nat} {cs : List Value} {y : DataW X × List MemPlace} (hl : cs.length = 2) (h : DataW.trod enc Tryz.prog w base sp held m 151 cs = some y) : ∃ p : Int × Int, cs = eP p ∧ True := by
  match cs, hl with
  | [c0, c1], _ =>
    obtain ⟨_, _, h0⟩ := field_at Tryz.underlying151 h 0 0 1 (ty := 3) rfl cells_int rfl
    obtain ⟨_, _, h1⟩ := field_at Tryz.underlying151 h 1 1 1 (ty := 3) rfl cells_int rfl
    obtain ⟨n0, rfl, _⟩ := in_int h0
    obtain ⟨n1, rfl, _⟩ := in_int h1
    exact ⟨(n0, n1), rfl, trivial⟩
theorem in_ints {m : Nat} {c : Value} {y : DataW X × List MemPlace} (h : DataW.trod enc Tryz.prog w base sp held m 41 [c] = some y) : ∃ l : List Int, rIn (full w) eI 1 c l ∧ l.length ≤ maxLen := by
  obtain ⟨a, len, cap, rfl⟩ := slice_val Tryz.underlying41 h
  obtain ⟨l, h1, h2, _⟩ := slice_in (encA := eI) (ok := fun _ => True) Tryz.underlying41 cells_int (by decide) h fun cs m y hl ht => by
    match cs, hl with
    | [c0], _ => obtain ⟨n, rfl, _⟩ := in_int ht; exact ⟨n, rfl, trivial⟩
  exact ⟨l, h1, h2⟩
theorem in_pairs {m : Nat} {c : Value} {y : DataW X × List MemPlace} (h : DataW.trod enc Tryz.prog w base sp held m 71 [c] = some y) : ∃ l : List (Int × Int), rIn (full w) eP 2 c l ∧ l.length ≤ maxLen := by
  obtain ⟨a, len, cap, rfl⟩ := slice_val Tryz.underlying71 h
  obtain ⟨l, h1, h2, _⟩ := slice_in (encA := eP) (ok := fun _ => True) Tryz.underlying71 cells_lPair (by decide) h fun cs m y hl ht => in_pair hl ht
  exact ⟨l, h1, h2⟩
theorem maxB {n : Nat} (h : n ≤ maxLen) : n ≤ 9223372036854775807 := Nat.le_trans h (by decide)
theorem in_record {m : Nat} {cs : List Value} {y : DataW X × List MemPlace} (hl : cs.length = 11) (h : DataW.trod enc Tryz.prog w base sp held m 73 cs = some y) : ∃ d : DRecord, nRecord (full w) cs d ∧ uRecord d := by
  match cs, hl with
  | [c0, c1, c2, c3, c4, c5, c6, c7, c8, c9, c10], _ =>
    obtain ⟨_, _, h0⟩ := field_at Tryz.underlying73 h 0 0 1 (ty := 3) rfl cells_int rfl
    obtain ⟨_, _, h1⟩ := field_at Tryz.underlying73 h 1 1 1 (ty := 3) rfl cells_int rfl
    obtain ⟨_, _, h2⟩ := field_at Tryz.underlying73 h 2 2 6 (ty := 70) rfl cells_lCall rfl
    obtain ⟨_, _, h3⟩ := field_at Tryz.underlying73 h 3 8 1 (ty := 3) rfl cells_int rfl
    obtain ⟨_, _, h4⟩ := field_at Tryz.underlying73 h 4 9 1 (ty := 41) rfl (by kernel_rfl) rfl
    obtain ⟨_, _, h5⟩ := field_at Tryz.underlying73 h 5 10 1 (ty := 71) rfl (by kernel_rfl) rfl
    obtain ⟨n0, rfl, _⟩ := in_int h0
    obtain ⟨n1, rfl, _⟩ := in_int h1
    obtain ⟨c, hc, _, _, _, _, _, ht⟩ := in_call rfl h2
    obtain ⟨n3, rfl, _⟩ := in_int h3
    obtain ⟨l4, r4, b4⟩ := in_ints h4
    obtain ⟨l5, r5, b5⟩ := in_pairs h5
    simp only [cCall, List.cons.injEq, and_true] at hc
    obtain ⟨rfl, rfl, rfl, rfl, rfl, rfl⟩ := hc
    exact ⟨⟨n0, n1, c, n3, l4, l5⟩, ⟨_, _, rfl, r4, r5⟩, maxB ht, maxB b4, maxB b5⟩
theorem in_told {m : Nat} {cs : List Value} {y : DataW X × List MemPlace} (hl : cs.length = 2) (h : DataW.trod enc Tryz.prog w base sp held m 146 cs = some y) : ∃ d : DTold, nTold (full w) cs d ∧ uTold d := by
  match cs, hl with
  | [c0, c1], _ =>
    obtain ⟨_, _, h0⟩ := field_at Tryz.underlying146 h 0 0 1 (ty := 3) rfl cells_int rfl
    obtain ⟨_, _, h1⟩ := field_at Tryz.underlying146 h 1 1 1 (ty := 71) rfl (by kernel_rfl) rfl
    obtain ⟨n0, rfl, _⟩ := in_int h0
    obtain ⟨l1, r1, b1⟩ := in_pairs h1
    exact ⟨⟨n0, l1⟩, ⟨_, rfl, r1⟩, maxB b1⟩
theorem in_tolds {m : Nat} {c : Value} {y : DataW X × List MemPlace} (h : DataW.trod enc Tryz.prog w base sp held m 75 [c] = some y) : ∃ l : List DTold, rIRs (full w) (nTold (full w)) 2 c l ∧ l.length ≤ maxLen ∧ ∀ t ∈ l, uTold t := by
  obtain ⟨a, len, cap, rfl⟩ := slice_val Tryz.underlying75 h
  exact slice_rel Tryz.underlying75 cells_lTold (by decide) h fun cs m y hl ht => in_told hl ht
theorem in_live {m : Nat} {cs : List Value} {y : DataW X × List MemPlace} (hl : cs.length = 12) (h : DataW.trod enc Tryz.prog w base sp held m 77 cs = some y) : ∃ d : DLive, nLive (full w) cs d ∧ uLive d := by
  match cs, hl with
  | [c0, c1, c2, c3, c4, c5, c6, c7, c8, c9, c10, c11], _ =>
    obtain ⟨_, _, h0⟩ := field_at Tryz.underlying77 h 0 0 1 (ty := 3) rfl cells_int rfl
    obtain ⟨_, _, h1⟩ := field_at Tryz.underlying77 h 1 1 1 (ty := 3) rfl cells_int rfl
    obtain ⟨_, _, h2⟩ := field_at Tryz.underlying77 h 2 2 1 (ty := 3) rfl cells_int rfl
    obtain ⟨_, _, h3⟩ := field_at Tryz.underlying77 h 3 3 1 (ty := 3) rfl cells_int rfl
    obtain ⟨_, _, h4⟩ := field_at Tryz.underlying77 h 4 4 6 (ty := 70) rfl cells_lCall rfl
    obtain ⟨_, _, h5⟩ := field_at Tryz.underlying77 h 5 10 1 (ty := 41) rfl (by kernel_rfl) rfl
    obtain ⟨_, _, h6⟩ := field_at Tryz.underlying77 h 6 11 1 (ty := 75) rfl (by kernel_rfl) rfl
    obtain ⟨n0, rfl, _⟩ := in_int h0
    obtain ⟨n1, rfl, _⟩ := in_int h1
    obtain ⟨n2, rfl, _⟩ := in_int h2
    obtain ⟨n3, rfl, _⟩ := in_int h3
    obtain ⟨c, hc, _, _, _, _, _, ht⟩ := in_call rfl h4
    obtain ⟨l5, r5, b5⟩ := in_ints h5
    obtain ⟨l6, r6, b6, u6⟩ := in_tolds h6
    simp only [cCall, List.cons.injEq, and_true] at hc
    obtain ⟨rfl, rfl, rfl, rfl, rfl, rfl⟩ := hc
    exact ⟨⟨n0, n1, n2, n3, c, l5, l6⟩, ⟨_, _, rfl, r5, r6⟩, maxB ht, maxB b5, maxB b6, u6⟩
theorem in_way {m : Nat} {cs : List Value} {y : DataW X × List MemPlace} (hl : cs.length = 2) (h : DataW.trod enc Tryz.prog w base sp held m 94 cs = some y) : ∃ d : DWay, cs = cWay d ∧ True := by
  match cs, hl with
  | [c0, c1], _ =>
    obtain ⟨_, _, h0⟩ := field_at Tryz.underlying94 h 0 0 1 (ty := 3) rfl cells_int rfl
    obtain ⟨_, _, h1⟩ := field_at Tryz.underlying94 h 1 1 1 (ty := 3) rfl cells_int rfl
    obtain ⟨n0, rfl, _⟩ := in_int h0
    obtain ⟨n1, rfl, _⟩ := in_int h1
    exact ⟨⟨n0, n1⟩, rfl, trivial⟩
theorem in_gate {m : Nat} {cs : List Value} {y : DataW X × List MemPlace} (hl : cs.length = 6) (h : DataW.trod enc Tryz.prog w base sp held m 26 cs = some y) : ∃ (d : DGate) (v1 v2 v3 : Value), cs = cGate d v1 v2 v3 ∧ nGate (full w) d v1 v2 v3 ∧ uGate d := by
  match cs, hl with
  | [c0, c1, c2, c3, c4, c5], _ =>
    obtain ⟨_, _, h0⟩ := field_at Tryz.underlying26 h 0 0 1 (ty := 4) rfl cells_bool rfl
    obtain ⟨_, _, h1⟩ := field_at Tryz.underlying26 h 1 1 1 (ty := 3) rfl cells_int rfl
    obtain ⟨_, _, h2⟩ := field_at Tryz.underlying26 h 2 2 1 (ty := 3) rfl cells_int rfl
    obtain ⟨_, _, h3⟩ := field_at Tryz.underlying26 h 3 3 1 (ty := 22) rfl (by kernel_rfl) rfl
    obtain ⟨_, _, h4⟩ := field_at Tryz.underlying26 h 4 4 1 (ty := 23) rfl (by kernel_rfl) rfl
    obtain ⟨_, _, h5⟩ := field_at Tryz.underlying26 h 5 5 1 (ty := 24) rfl (by kernel_rfl) rfl
    obtain ⟨b0, rfl⟩ := in_bool h0
    obtain ⟨n1, rfl, _⟩ := in_int h1
    obtain ⟨n2, rfl, _⟩ := in_int h2
    obtain ⟨a3, len3, cap3, rfl⟩ := slice_val Tryz.underlying22 h3
    obtain ⟨l3, r3, m3, u3⟩ := slice_rel (rel := nRecord (full w)) Tryz.underlying22 cells_lRecord (by decide) h3 fun cs m y hl ht => in_record hl ht
    obtain ⟨a4, len4, cap4, rfl⟩ := slice_val Tryz.underlying23 h4
    obtain ⟨l4, r4, m4, u4⟩ := slice_rel (rel := nLive (full w)) Tryz.underlying23 cells_lLive (by decide) h4 fun cs m y hl ht => in_live hl ht
    obtain ⟨a5, len5, cap5, rfl⟩ := slice_val Tryz.underlying24 h5
    obtain ⟨l5, r5, m5, _⟩ := slice_in (encA := cWay) (ok := fun _ => True) Tryz.underlying24 cells_lWay (by decide) h5 fun cs m y hl ht => in_way hl ht
    exact ⟨⟨b0, n1, n2, l3, l4, l5⟩, _, _, _, rfl, ⟨r3, r4, r5⟩, maxB m3, u3, maxB m4, u4, maxB m5⟩
end
end Go.Proofs.YtmfhlkkligcgdaaGreatDoor
end

/- Gates: the map, by both. -/
section
set_option linter.unusedVariables false
set_option linter.unusedSimpArgs false
set_option maxRecDepth 20000
attribute [local irreducible] Go.Tk.vc Go.Tk.vops Go.Tk.vdr Go.Tk.vop Go.Tk.vfl Go.Tk.HCalls
namespace Go.Proofs.YtmfhlkkligcgdaaGreatDoor
open Go Go.Tk

theorem specGateMap_c {h : H} {g : DGate} {lg lv wy : Value} (r : sGate h g lg lv wy) (hb : bGate g) {R : Ending → H → Prop} (k : ∀ M' v S, Tk.Sub h M' → dL 3 eI 1 M' v (gateMap g).owners S → (∀ x, S x → hget h x = none) → R (.returned (.agg (cMap (gateMap g) v).toArray)) M') :
    HCalls Tryz.prog 16 #[.agg (cGate g lg lv wy).toArray] h R := by
  refine HCalls_ir (args := [.agg (cGate g lg lv wy).toArray]) Tryz.func16 ir16 ?_
  have b3 := hb.log
  unfold lim at b3
  have zm := zMap_eq
  simp only [walk, lists, acts, mem, plain, seqs, maps, cells, resL, resV, intBin, seval, wGate]
  refine newB_intro (o := blk (cGate g lg lv wy) 34) fun j h1 => ?_
  simp only [walk, lists, acts, mem, plain, seqs, maps, cells, resL, resV, intBin, seval, zm]
  refine newB_intro (o := blk (cMap zMap (.slice none 0 0)) 43) fun j2 h2 => ?_
  have n2 := h2
  simp only [subs] at n2
  obtain ⟨A, hA⟩ : ∃ A, A = (j2, blk (cMap zMap (.slice none 0 0)) 43) :: (j, blk (cGate g lg lv wy) 34) :: h := ⟨_, rfl⟩
  have sA : Tk.Sub h A := by rw [hA]; exact Sub.cons h2 (Sub.cons h1 (Sub.refl _))
  have g2 : hget A j2 = some (blk (cMap zMap (.slice none 0 0)) 43) := by rw [hA]; exact hget_same _ _ _
  have g1 : hget A j = some (blk (cGate g lg lv wy) 34) := by rw [hA, hget_next _ _ _ (fun e => n2.1 e.symm)]; exact hget_same _ _ _
  have ra : hread A j 0 6 = some (cGate g lg lv wy) := hread_of g1 rfl
  have c3 : hcel A j 3 = some lg := hcel_of g1 rfl
  rw [← hA]
  simp only [walk, lists, acts, mem, plain, seqs, maps, cells, resL, resV, intBin, seval, wGate, ra]
  refine specGateOk_c (r.sub sA) hb fun q hq => ?_
  unfold gateMap at k
  cases q with
  | false =>
    rw [if_neg (not_b hq rfl)] at k
    obtain ⟨m, hm⟩ : ∃ m, m = zMap := ⟨_, rfl⟩
    obtain ⟨w, hw⟩ : ∃ w : Value, w = .slice none 0 0 := ⟨_, rfl⟩
    obtain ⟨N, hN⟩ : ∃ N, N = A := ⟨_, rfl⟩
    have sN : Tk.Sub A N := by rw [hN]; exact Sub.refl _
    have hone : vone w = true := by rw [hw]; rfl
    have av := wMap.2.2.2.2.2.1 m w hone
    have g2N := sN _ _ g2
    have wt : hwrite N j2 0 (cMap m w) = some (hupd N j2 (blk (cMap m w) 43)) := by
      rw [hwrite_of (j := 0) (vs := cMap m w) g2N (Nat.le_refl _), splice_all (x := cMap m w) (y := cMap zMap (.slice none 0 0)) (by rfl)]
    have rd : hread (hupd N j2 (blk (cMap m w) 43)) j2 0 2 = some (cMap m w) := hread_of (hget_hupd_same g2N) rfl
    rw [hN, hm, hw] at wt rd
    rw [hm, hw] at av
    simp only [walk, lists, acts, mem, plain, seqs, maps, cells, resL, resV, intBin, seval, zm, wMap, av, wt, rd]
    rw [hN] at *
    exact .of (k _ _ _ (Sub.wr sA n2.2) dL.nil fun x q => q.elim)
  | true =>
    rw [if_pos (hq.1 rfl)] at k
    simp only [walk, lists, acts, mem, plain, seqs, maps, cells, resL, resV, intBin, seval, wGate, c3]
    refine l22Map_c ((r.1.subH sA).relImp fun _ _ x => rRecord.sub sA x) (by omega) fun w G o d => ?_
    obtain ⟨m, hm⟩ : ∃ m, m = mapOfL g.log := ⟨_, rfl⟩
    obtain ⟨N, hN⟩ : ∃ N, N = G ++ A := ⟨_, rfl⟩
    have sN : Tk.Sub A N := by rw [hN]; exact Sub.right d
    have hone := rdS.one o.rd
    have av := wMap.2.2.2.2.2.1 m w hone
    have g2N := sN _ _ g2
    have wt : hwrite N j2 0 (cMap m w) = some (hupd N j2 (blk (cMap m w) 43)) := by
      rw [hwrite_of (j := 0) (vs := cMap m w) g2N (Nat.le_refl _), splice_all (x := cMap m w) (y := cMap zMap (.slice none 0 0)) (by rfl)]
    have rd : hread (hupd N j2 (blk (cMap m w) 43)) j2 0 2 = some (cMap m w) := hread_of (hget_hupd_same g2N) rfl
    rw [hm] at wt rd av
    simp only [walk, lists, acts, mem, plain, seqs, maps, cells, resL, resV, intBin, seval, wMap, ← hN, av, wt, rd]
    refine .of (k _ w _ (Sub.wr (sA.trans sN) n2.2) ((dL.of (h := h) (M := N) o (by rw [hN]; exact Sub.left _ _)).frame fun x q => by rw [hget_hupd_ne (fun e => by have := d x q; rw [e, g2] at this; cases this)]) fun x q => sA.none' (d x q))

theorem implGateMap_c {h : H} {g : DGate} {lg lv wy : Value} (gl : Gl h) (gm : MxL h) (r : sGate h g lg lv wy) (hb : bGate g) {R : Ending → H → Prop} (k : ∀ M' v S, Tk.Sub h M' → dL 3 eI 1 M' v (gateMap g).owners S → (∀ x, S x → hget h x = none) → R (.returned (.agg (cMap (gateMap g) v).toArray)) M') :
    HCalls Tryz.prog 17 #[.agg (cGate g lg lv wy).toArray] h R := by
  refine HCalls_ir (args := [.agg (cGate g lg lv wy).toArray]) Tryz.func17 ir17 ?_
  have b3 := hb.log
  unfold lim at b3
  have zm := zMap_eq
  simp only [walk, lists, acts, mem, plain, seqs, maps, cells, resL, resV, intBin, seval, wGate]
  refine newB_intro (o := blk (cGate g lg lv wy) 34) fun j h1 => ?_
  simp only [walk, lists, acts, mem, plain, seqs, maps, cells, resL, resV, intBin, seval, zm]
  refine newB_intro (o := blk (cMap zMap (.slice none 0 0)) 43) fun j2 h2 => ?_
  have n2 := h2
  simp only [subs] at n2
  obtain ⟨A, hA⟩ : ∃ A, A = (j2, blk (cMap zMap (.slice none 0 0)) 43) :: (j, blk (cGate g lg lv wy) 34) :: h := ⟨_, rfl⟩
  have sA : Tk.Sub h A := by rw [hA]; exact Sub.cons h2 (Sub.cons h1 (Sub.refl _))
  have g2 : hget A j2 = some (blk (cMap zMap (.slice none 0 0)) 43) := by rw [hA]; exact hget_same _ _ _
  have g1 : hget A j = some (blk (cGate g lg lv wy) 34) := by rw [hA, hget_next _ _ _ (fun e => n2.1 e.symm)]; exact hget_same _ _ _
  have ra : hread A j 0 6 = some (cGate g lg lv wy) := hread_of g1 rfl
  have c3 : hcel A j 3 = some lg := hcel_of g1 rfl
  rw [← hA]
  simp only [walk, lists, acts, mem, plain, seqs, maps, cells, resL, resV, intBin, seval, wGate, ra]
  refine implGateOk_c (gl.sub sA) (gm.sub sA) (r.sub sA) hb fun q hq => ?_
  unfold gateMap at k
  cases q with
  | false =>
    rw [if_neg (not_b hq rfl)] at k
    obtain ⟨m, hm⟩ : ∃ m, m = zMap := ⟨_, rfl⟩
    obtain ⟨w, hw⟩ : ∃ w : Value, w = .slice none 0 0 := ⟨_, rfl⟩
    obtain ⟨N, hN⟩ : ∃ N, N = A := ⟨_, rfl⟩
    have sN : Tk.Sub A N := by rw [hN]; exact Sub.refl _
    have hone : vone w = true := by rw [hw]; rfl
    have av := wMap.2.2.2.2.2.1 m w hone
    have g2N := sN _ _ g2
    have wt : hwrite N j2 0 (cMap m w) = some (hupd N j2 (blk (cMap m w) 43)) := by
      rw [hwrite_of (j := 0) (vs := cMap m w) g2N (Nat.le_refl _), splice_all (x := cMap m w) (y := cMap zMap (.slice none 0 0)) (by rfl)]
    have rd : hread (hupd N j2 (blk (cMap m w) 43)) j2 0 2 = some (cMap m w) := hread_of (hget_hupd_same g2N) rfl
    rw [hN, hm, hw] at wt rd
    rw [hm, hw] at av
    simp only [walk, lists, acts, mem, plain, seqs, maps, cells, resL, resV, intBin, seval, zm, wMap, av, wt, rd]
    rw [hN] at *
    exact .of (k _ _ _ (Sub.wr sA n2.2) dL.nil fun x q => q.elim)
  | true =>
    rw [if_pos (hq.1 rfl)] at k
    simp only [walk, lists, acts, mem, plain, seqs, maps, cells, resL, resV, intBin, seval, wGate, c3]
    refine mapOf_c ((r.1.subH sA).relImp fun _ _ x => rRecord.sub sA x) b3 fun N w S sN dw hS => ?_
    obtain ⟨m, hm⟩ : ∃ m, m = mapOfL g.log := ⟨_, rfl⟩
    have hone := dw.one
    have av := wMap.2.2.2.2.2.1 m w hone
    have g2N := sN _ _ g2
    have wt : hwrite N j2 0 (cMap m w) = some (hupd N j2 (blk (cMap m w) 43)) := by
      rw [hwrite_of (j := 0) (vs := cMap m w) g2N (Nat.le_refl _), splice_all (x := cMap m w) (y := cMap zMap (.slice none 0 0)) (by rfl)]
    have rd : hread (hupd N j2 (blk (cMap m w) 43)) j2 0 2 = some (cMap m w) := hread_of (hget_hupd_same g2N) rfl
    rw [hm] at wt rd av
    simp only [walk, lists, acts, mem, plain, seqs, maps, cells, resL, resV, intBin, seval, wMap, av, wt, rd]
    exact .of (k _ w S (Sub.wr (sA.trans sN) n2.2) (dw.frame fun x q => by rw [hget_hupd_ne (fun e => by have := hS x q; rw [e, g2] at this; cases this)]) fun x q => sA.none' (hS x q))
end Go.Proofs.YtmfhlkkligcgdaaGreatDoor
end

/- The law: the program's GateMap says what the reference's says. -/
section
set_option linter.unusedVariables false
set_option linter.unusedSimpArgs false
set_option maxRecDepth 20000
attribute [local irreducible] Go.Tk.vc Go.Tk.vops Go.Tk.vdr Go.Tk.vop Go.Tk.vfl Go.Tk.HCalls
namespace Go.Proofs.YtmfhlkkligcgdaaGreatDoor
open Go Go.Tk

set_option maxHeartbeats 2000000 in
theorem exactGateMap_c {h : H} {d : DGate} {v1 v2 v3 : Value} (gl : Gl h) (gm : MxL h) (r : nGate h d v1 v2 v3) (hu : uGate d) {R : Ending → H → Prop} (k : R (.returned (.bool true)) h) :
    HCalls Tryz.prog 4 #[.agg (cGate d v1 v2 v3).toArray] h R := by
  refine HCalls_ir (args := [.agg (cGate d v1 v2 v3).toArray]) Tryz.func4 ir4 ?_
  have zg := zGate_eq
  have zm := zMap_eq
  simp only [walk, lists, acts, mem, plain, seqs, maps, cells, resL, resV, intBin, seval, wGate]
  refine newB_intro (o := blk (cGate d v1 v2 v3) 26) fun j1 h1 => ?_
  obtain ⟨M0, hM0⟩ : ∃ M0, M0 = (j1, blk (cGate d v1 v2 v3) 26) :: h := ⟨_, rfl⟩
  have s0 : Tk.Sub h M0 := by rw [hM0]; exact Sub.cons h1 (Sub.refl _)
  have g0 : hget M0 j1 = some (blk (cGate d v1 v2 v3) 26) := by rw [hM0]; exact hget_same _ _ _
  have a0 : hread M0 j1 0 6 = some (cGate d v1 v2 v3) := hread_of g0 rfl
  rw [← hM0]
  simp only [walk, lists, acts, mem, plain, seqs, maps, cells, resL, resV, intBin, seval, wGate, a0]
  refine szGate_c (r.sub s0) ⟨by omega, by omega⟩ hu fun x hx hx2 => ?_
  simp only [walk, lists, acts, mem, plain, seqs, maps, cells, resL, resV, intBin, seval]
  refine ite_lt (fun c => ⟨h, s0, k⟩) fun c => ?_
  have hsz : szGateN d ≤ 1048576 := by have := hx (by omega); omega
  have hb := bGate_of hsz
  have hcn := cnGate_of hsz
  have hlen : (gateMap d).owners.length ≤ 1048576 := gateMap_len d
  try simp only [walk, lists, acts, mem, plain, seqs, maps, cells, resL, resV, intBin, seval, a0]
  refine toGate_c (r.sub s0) hb fun M1 w1 w2 w3 S1 s1 W1 f1 => ?_
  simp only [walk, lists, acts, mem, plain, seqs, maps, cells, resL, resV, intBin, seval]
  refine specGateMap_c W1.rd hb fun M2 av S2 s2 D2 f2 => ?_
  simp only [walk, lists, acts, mem, plain, seqs, maps, cells, resL, resV, intBin, seval, zg, zm]
  refine newB_intro (o := blk (cMap zMap (.slice none 0 0)) 43) fun j4 h4 => ?_
  have one4 := wMap.2.2.2.2.2.1 (gateMap d) av D2.one
  obtain ⟨M2', hM2'⟩ : ∃ M2', M2' = (j4, blk (cMap (gateMap d) av) 43) :: M2 := ⟨_, rfl⟩
  have s2' : Tk.Sub M2 M2' := by rw [hM2']; exact Sub.cons h4 (Sub.refl _)
  have g4 : hget M2' j4 = some (blk (cMap (gateMap d) av) 43) := by rw [hM2']; exact hget_same _ _ _
  simp only [walk, lists, acts, mem, plain, seqs, maps, cells, resL, resV, intBin, seval, wMap, one4, ← hM2']
  have s02 : Tk.Sub M0 M2' := (s1.trans (s2.trans s2'))
  have a2 : hread M2' j1 0 6 = some (cGate d v1 v2 v3) := hread_of (s02 _ _ g0) rfl
  try simp only [walk, lists, acts, mem, plain, seqs, maps, cells, resL, resV, intBin, seval, a2]
  refine toGate_c (r.sub (s0.trans s02)) hb fun M3 x1 x2 x3 S3 s3 W3 f3 => ?_
  simp only [walk, lists, acts, mem, plain, seqs, maps, cells, resL, resV, intBin, seval, zg, zm]
  refine newB_intro (o := blk (cGate zGate (.slice none 0 0) (.slice none 0 0) (.slice none 0 0)) 34) fun j5 h5 => ?_
  have one5 := WGate.one (e := d) W3
  obtain ⟨M4, hM4⟩ : ∃ M4, M4 = (j5, blk (cGate d x1 x2 x3) 34) :: M3 := ⟨_, rfl⟩
  have s4 : Tk.Sub M3 M4 := by rw [hM4]; exact Sub.cons h5 (Sub.refl _)
  have g5 : hget M4 j5 = some (blk (cGate d x1 x2 x3) 34) := by rw [hM4]; exact hget_same _ _ _
  have a5 : hread M4 j5 0 6 = some (cGate d x1 x2 x3) := hread_of g5 rfl
  have s24 : Tk.Sub M2' M4 := s3.trans s4
  have s04 : Tk.Sub h M4 := s0.trans (s02.trans s24)
  simp only [walk, lists, acts, mem, plain, seqs, maps, cells, resL, resV, intBin, seval, wGate, one5, ← hM4]
  try simp only [walk, lists, acts, mem, plain, seqs, maps, cells, resL, resV, intBin, seval, a5]
  have W4 := W3.frame (M' := M4) fun x q => Sub.eq s4 (W3.in q)
  refine implGateMap_c (gl.sub s04) (gm.sub s04) W4.rd hb fun M5 bv S5 s5 D5 f5 => ?_
  simp only [walk, lists, acts, mem, plain, seqs, maps, cells, resL, resV, intBin, seval, zg, zm]
  refine newB_intro (o := blk (cMap zMap (.slice none 0 0)) 43) fun j6 h6 => ?_
  have one6 := wMap.2.2.2.2.2.1 (gateMap d) bv D5.one
  obtain ⟨M5', hM5'⟩ : ∃ M5', M5' = (j6, blk (cMap (gateMap d) bv) 43) :: M5 := ⟨_, rfl⟩
  have s5' : Tk.Sub M5 M5' := by rw [hM5']; exact Sub.cons h6 (Sub.refl _)
  have g6 : hget M5' j6 = some (blk (cMap (gateMap d) bv) 43) := by rw [hM5']; exact hget_same _ _ _
  simp only [walk, lists, acts, mem, plain, seqs, maps, cells, resL, resV, intBin, seval, wMap, one6, ← hM5']
  have r6 : hread M5' j6 0 2 = some (cMap (gateMap d) bv) := hread_of g6 rfl
  have r4 : hread M5' j4 0 2 = some (cMap (gateMap d) av) := hread_of (s5' _ _ (s5 _ _ (s24 _ _ g4))) rfl
  try simp only [walk, lists, acts, mem, plain, seqs, maps, cells, resL, resV, intBin, seval, r6, r4]
  have D5old := D5
  have D5 := D5.frame (M' := M5') fun x q => Sub.eq s5' (D5.in q)
  have s45 : Tk.Sub M4 M5' := (s5.trans s5')
  have s25 : Tk.Sub M2 M5' := (s2'.trans (s24.trans (s5.trans s5')))
  have D2' := D2.frame (M' := M5') fun x q => Sub.eq s25 (D2.in q)
  refine eqMap_c D5.rd D2'.rd (by omega) ?_
  simp only [walk, lists, acts, mem, plain, seqs, maps, cells, resL, resV, intBin, seval, decide_true]
  have a1' : hread M5' j1 0 6 = some (cGate d v1 v2 v3) := hread_of (s45 _ _ (s24 _ _ (s02 _ _ g0))) rfl
  have a5' : hread M5' j5 0 6 = some (cGate d x1 x2 x3) := hread_of (s45 _ _ g5) rfl
  have s55 := Sub.refl M5'
  refine vc_draw _ (Sub.refl _) ?_
  simp only [walk, lists, acts, mem, plain, seqs, maps, cells, resL, resV, intBin, seval, a1', a5', s55]
  refine toGate_c (r.sub (s04.trans s45)) hb fun M6 y1 y2 y3 S6 s6 W6 f6 => ?_
  simp only [walk, lists, acts, mem, plain, seqs, maps, cells, resL, resV, intBin, seval, a1', a5', s6]
  have W6x := W4.frame (M' := M6) fun x q => Sub.eq (s45.trans s6) (W4.in q)
  refine eqGate_c W6x.rd W6.rd hb ?_
  simp only [walk, lists, acts, mem, plain, seqs, maps, cells, resL, resV, intBin, seval, decide_true, s6]
  have s46 : Tk.Sub M4 M6 := s45.trans s6
  have a5'' : hread M6 j5 0 6 = some (cGate d x1 x2 x3) := hread_of (s46 _ _ g5) rfl
  try simp only [walk, lists, acts, mem, plain, seqs, maps, cells, resL, resV, intBin, seval, a5'']
  refine markGate_c W6x hcn ⟨by omega, by omega⟩ fun M7 W7 ch7 => ?_
  simp only [walk, lists, acts, mem, plain, seqs, maps, cells, resL, resV, intBin, seval]
  have hS3 : ∀ x, S3 x → hget M2' x = none ∧ hget M4 x ≠ none := fun x q => ⟨f3 x q, W4.in q⟩
  have n7 : ∀ x o, hget M2' x = some o → hget M7 x = some o := fun x o e => by
    rw [ch7 x fun q => by rw [(hS3 x q).1] at e; cases e]; exact s46 _ _ (s24 _ _ e)
  have hj6 : ¬ S3 j6 := fun q => by have := s5.none' h6; exact (hS3 j6 q).2 this
  have r6' : hread M7 j6 0 2 = some (cMap (gateMap d) bv) := hread_of (by rw [ch7 j6 hj6]; exact s6 _ _ g6) rfl
  have r4' : hread M7 j4 0 2 = some (cMap (gateMap d) av) := hread_of (n7 _ _ g4) rfl
  refine ite_lt (fun c => absurd c (by omega)) fun _ => ?_
  try simp only [walk, lists, acts, mem, plain, seqs, maps, cells, resL, resV, intBin, seval, r6', r4']
  have D5' := D5.frame (M' := M7) fun x q => by rw [ch7 x fun q2 => (hS3 x q2).2 (f5 x q)]; exact Sub.eq s6 (D5.in q)
  have D2'' := D2.frame (M' := M7) fun x q => by
    cases e : hget M2 x with
    | none => exact absurd e (D2.in q)
    | some o => exact n7 x o (s2' _ _ e)
  refine eqMap_c D5'.rd D2''.rd (by omega) ?_
  simp only [walk, lists, acts, mem, plain, seqs, maps, cells, resL, resV, intBin, seval, decide_true]
  try simp only [walk, lists, acts, mem, plain, seqs, maps, cells, resL, resV, intBin, seval, r6', r4']
  refine markMap_c (x := gateMap d) D5' (by omega) (by omega) fun M8 D8 ch8 => ?_
  have n8 : ∀ x o, hget M2' x = some o → hget M8 x = some o := fun x o e => by
    rw [ch8 x fun q => by have := f5 x q; rw [s24 _ _ e] at this; cases this]; exact n7 x o e
  have hj6' : ¬ S5 j6 := fun q => (D5old.in q) h6
  have r68 : hread M8 j6 0 2 = some (cMap (gateMap d) bv) := hread_of (by rw [ch8 j6 hj6', ch7 j6 hj6]; exact s6 _ _ g6) rfl
  have r48 : hread M8 j4 0 2 = some (cMap (gateMap d) av) := hread_of (n8 _ _ g4) rfl
  simp only [walk, lists, acts, mem, plain, seqs, maps, cells, resL, resV, intBin, seval, r68]
  refine heldMap_c (x := { gateMap d with owners := mks 1 (gateMap d).owners.length }) (k := 1) D8.rd (by show mks 1 _ = mks 1 (mks 1 _).length; rw [mks_len]) (by show (mks 1 _).length ≤ _; rw [mks_len]; omega) (by omega) ?_
  rw [show ({ gateMap d with owners := mks 1 (gateMap d).owners.length } : DMap).owners.length = (gateMap d).owners.length from mks_len _ _]
  simp only [walk, lists, acts, mem, plain, seqs, maps, cells, resL, resV, intBin, seval]
  refine ite_lt (fun c => absurd c (by omega)) fun _ => ?_
  try simp only [walk, lists, acts, mem, plain, seqs, maps, cells, resL, resV, intBin, seval]
  try refine ite_ne (fun c => absurd rfl c) fun _ => ?_
  have sh8 : Tk.Sub h M8 := fun x o e => n8 x o (s02 _ _ (s0 _ _ e))
  have a8 : hread M8 j1 0 6 = some (cGate d v1 v2 v3) := hread_of (n8 _ _ (s02 _ _ g0)) rfl
  try simp only [walk, lists, acts, mem, plain, seqs, maps, cells, resL, resV, intBin, seval, a8]
  refine toGate_c (r.sub sh8) hb fun M9 z1 z2 z3 S9 s9 W9 f9 => ?_
  simp only [walk, lists, acts, mem, plain, seqs, maps, cells, resL, resV, intBin, seval]
  refine implGateMap_c (gl.sub (sh8.trans s9)) (gm.sub (sh8.trans s9)) W9.rd hb fun M10 cv S10 s10 D10 f10 => ?_
  simp only [walk, lists, acts, mem, plain, seqs, maps, cells, resL, resV, intBin, seval, zg, zm]
  refine newB_intro (o := blk (cMap zMap (.slice none 0 0)) 43) fun j10 h10 => ?_
  have one10 := wMap.2.2.2.2.2.1 (gateMap d) cv D10.one
  obtain ⟨M10', hM10'⟩ : ∃ M10', M10' = (j10, blk (cMap (gateMap d) cv) 43) :: M10 := ⟨_, rfl⟩
  have s10' : Tk.Sub M10 M10' := by rw [hM10']; exact Sub.cons h10 (Sub.refl _)
  have g10 : hget M10' j10 = some (blk (cMap (gateMap d) cv) 43) := by rw [hM10']; exact hget_same _ _ _
  simp only [walk, lists, acts, mem, plain, seqs, maps, cells, resL, resV, intBin, seval, wMap, one10, ← hM10']
  have r10 : hread M10' j10 0 2 = some (cMap (gateMap d) cv) := hread_of g10 rfl
  have s8T : Tk.Sub M8 M10' := s9.trans (s10.trans s10')
  have r410 : hread M10' j4 0 2 = some (cMap (gateMap d) av) := hread_of (s8T _ _ (n8 _ _ g4)) rfl
  have r610 : hread M10' j6 0 2 = some (cMap (gateMap d) bv) := hread_of (s8T _ _ (by rw [ch8 j6 hj6', ch7 j6 hj6]; exact s6 _ _ g6)) rfl
  try simp only [walk, lists, acts, mem, plain, seqs, maps, cells, resL, resV, intBin, seval, r10, r410]
  have D10 := D10.frame (M' := M10') fun x q => Sub.eq s10' (D10.in q)
  have D2T := D2.frame (M' := M10') fun x q => by
    cases e : hget M2 x with
    | none => exact absurd e (D2.in q)
    | some o => exact s8T _ _ (n8 x o (s2' _ _ e))
  have D8T := D8.frame (M' := M10') fun x q => Sub.eq s8T (D8.in q)
  refine eqMap_c D10.rd D2T.rd (by omega) ?_
  simp only [walk, lists, acts, mem, plain, seqs, maps, cells, resL, resV, intBin, seval, decide_true]
  try simp only [walk, lists, acts, mem, plain, seqs, maps, cells, resL, resV, intBin, seval, r610]
  refine heldMap_c (x := { gateMap d with owners := mks 1 (gateMap d).owners.length }) (k := 1) D8T.rd (by show mks 1 _ = mks 1 (mks 1 _).length; rw [mks_len]) (by show (mks 1 _).length ≤ _; rw [mks_len]; omega) (by omega) ?_
  rw [show ({ gateMap d with owners := mks 1 (gateMap d).owners.length } : DMap).owners.length = (gateMap d).owners.length from mks_len _ _]
  simp only [walk, lists, acts, mem, plain, seqs, maps, cells, resL, resV, intBin, seval]
  refine ite_lt (fun c => absurd c (by omega)) fun _ => ?_
  try simp only [walk, lists, acts, mem, plain, seqs, maps, cells, resL, resV, intBin, seval]
  try refine ite_ne (fun c => absurd rfl c) fun _ => ?_
  try simp only [walk, lists, acts, mem, plain, seqs, maps, cells, resL, resV, intBin, seval]
  exact ⟨h, sh8.trans s8T, k⟩

end Go.Proofs.YtmfhlkkligcgdaaGreatDoor
end
