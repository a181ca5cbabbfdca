/- Parts of the proof. -/
import Derived.ChangeArms
import Derived.Test.YtjioiemhgbkbfaaGreatDoorK155
import Derived.Test.YtjioiemhgbkbfaaGreatDoorK1515
import Derived.Test.YtjioiemhgbkbfaaGreatDoorK1514
import Derived.Test.YtjioiemhgbkbfaaGreatDoorK1513
import Derived.Test.YtjioiemhgbkbfaaGreatDoorK1510
import Derived.Test.YtjioiemhgbkbfaaGreatDoorK1511
import Derived.Test.YtjioiemhgbkbfaaGreatDoorK1512
import Derived.Test.YtjioiemhgbkbfaaGreatDoorK156
set_option maxHeartbeats 4000000
set_option maxRecDepth 100000
set_option linter.unusedVariables false
set_option linter.unusedSimpArgs false
set_option linter.defProp false
section
attribute [local irreducible] Go.Tk.vc Go.Tk.vops Go.Tk.vdr Go.Tk.vop Go.Tk.vfl Go.Tk.HCalls
namespace Go.Proofs.YtjioiemhgbkbfaaGreatDoor
open Go Go.Tk
theorem qNY {h : H} {g : DGate} {lg lv wy : Value} (r : sGate h g lg lv wy) (hb : bGate g) {R : Ending -> H -> Prop} (k : Asks R (qEN g) h) : HCalls Tryz.prog 17 #[.agg (zN g lg lv wy).toArray] h R := by
 refine yK (args := [.agg (zN g lg lv wy).toArray]) Tryz.func17 ir17 ?_
 have b1 := hb.lives; have b2 := hb.ways; have b3 := hb.log
 unfold lim at b1 b2 b3
 simp only [wK, seval, yF]
 refine qC (o := blk (zN g lg lv wy) 38) fun j hj => ?_
 have s1 := Sub.cons (o := blk (zN g lg lv wy) 38) hj (Sub.refl h)
 have r1 := r.sub s1
 obtain ⟨M, hM⟩ : ∃ M, M = (j, blk (zN g lg lv wy) 38) :: h := ⟨_, rfl⟩
 have f0 : hcel M j 0 = some (.bool g.up) := by rw [hM]; simp only [wK, seval, yF]
 have f1 : hcel M j 1 = some (.int .i64 g.life) := by rw [hM]; simp only [wK, seval, yF]
 have f2 : hcel M j 2 = some (.int .i64 g.next) := by rw [hM]; simp only [wK, seval, yF]
 have f3 : hcel M j 3 = some lg := by rw [hM]; simp only [wK, seval, yF]
 have f4 : hcel M j 4 = some lv := by rw [hM]; simp only [wK, seval, yF]
 have f5 : hcel M j 5 = some wy := by rw [hM]; simp only [wK, seval, yF]
 have fa : qV M j 0 6 = some (zN g lg lv wy) := by rw [hM]; simp only [wK, seval, yF]
 rw [<- hM] at r1 s1 ⊢
 simp only [wK, seval, yF, f0, f1, f2, f3, f4, f5]
 refine zY fun q1 hq1 => ?_
 cases q1 with
 | false =>
  simp only [wK, seval, yF, f0, f1, f2, f3, f4, f5]
  exact k.dno s1 fun p => qW hq1 rfl p.1
 | true =>
 simp only [wK, seval, yF, f0, f1, f2, f3, f4, f5]
 refine zY fun q2 hq2 => ?_
 cases q2 with
 | false =>
  simp only [wK, seval, yF, f0, f1, f2, f3, f4, f5]
  exact k.dno s1 fun p => qW hq2 rfl p.2.1
 | true =>
 simp only [wK, seval, yF, f0, f1, f2, f3, f4, f5]
 refine qVF r1.1 (by omega) hb.recs (hq2.1 rfl) fun q3 hq3 => ?_
 cases q3 with
 | false =>
  simp only [wK, seval, yF, f0, f1, f2, f3, f4, f5]
  exact k.dno s1 fun p => qW hq3 rfl p.2.2.1
 | true =>
 simp only [wK, seval, yF, f0, f1, f2, f3, f4, f5, r1.2.1.len, r1.2.2.len]
 refine qF (fun c1 => k.dno s1 fun p => ?_) fun c1 => ?_
 ·have := p.2.2.2.1.1; omega
 cases hup : g.up
 case' false =>
  simp (disch := omega) only [wK, seval, yF, f0, f1, f2, f3, f4, f5, r1.2.1.len, r1.2.2.len, qK]
  refine qF (fun c2 => k.dno s1 fun p => ?_) fun c2 => ?_
  ·have := p.2.2.2.2.1 hup
   rw [this.1, this.2] at c2; simp at c2
  have hemp : g.up = false -> g.lives = [] /\ g.ways = [] := fun _ => ⟨List.eq_nil_of_length_eq_zero (by omega), List.eq_nil_of_length_eq_zero (by omega)⟩
 case' true =>
  simp only [wK, seval, yF, f0, f1, f2, f3, f4, f5, r1.2.1.len, r1.2.2.len]
  have hemp : g.up = false -> g.lives = [] /\ g.ways = [] := fun c => (by rw [hup] at c; cases c)
 all_goals
  refine qP [3] (fun n vs h' => ∃ i : Nat, vs = [.int .i64 i] /\ h' = M /\ i <= g.lives.length /\ n = g.lives.length - i /\ (∀ x ∈ g.lives.take i, qCN x g.next /\ (∀ r ∈ g.log, r.stamp ≠ x.stamp) /\ ∀ r, xX g.log x.call.session = some r -> r.call.number < x.call.number) /\ risU (·.stamp) g.lives i /\
    ∀ q p (hp : p < g.lives.length) (hq : q < p), p < i -> (g.lives[q]'(by omega)).call.session ≠ g.lives[p].call.session) g.lives.length rfl ⟨0, rfl, rfl, by omega, by omega, by simp, xD _ _, fun q p hp hq h => absurd h (Nat.not_lt_zero _)⟩ ?_
  rintro n f h' ⟨i, hv, rfl, hi, rfl, hall, hris, hses⟩
  simp only [lm4] at hv
  simp only [wK, seval, wr, hv, f4, r1.2.1.len]
  refine qF (fun d1 => ?_) fun d1 => ?_
  ·have hi2 : i < g.lives.length := by omega
   have zl := qDG
   obtain ⟨b, o, cs, hx, e, a1, a2, rfl, sr⟩ := zU r1.2.1 hi2
   have hone := wLive.2.2.2.2.2.2.2.2.2.2.2.2.2.2.2.1 g.lives[i] a1 a2 (rdS.one sr.1) (rRs.one sr.2)
   simp only [wK, seval, hx, e, zl, wLive]
   refine qC (o := blk (zJ zLive (.slice none 0 0) (.slice none 0 0)) 103) fun j4 hj4 => ?_
   simp only [wK, seval, zl, wLive, hone]
   obtain ⟨B, hB⟩ : ∃ B, B = (j4, blk (zJ g.lives[i] a1 a2) 103) :: h' := ⟨_, rfl⟩
   have sB : Tk.Sub h' B := by rw [hB]; exact Sub.cons hj4 (Sub.refl _)
   have g2' := yA sB f2
   have g3' := yA sB f3
   have g4' := yA sB f4
   have la : qV B j4 0 12 = some (zJ g.lives[i] a1 a2) := by rw [hB]; simp only [wK, seval, wLive]
   have l0 : hcel B j4 0 = some (.int .i64 g.lives[i].stamp) := by rw [hB]; simp only [wK, seval, wLive]
   have l4 : hcel B j4 4 = some (.int .i64 g.lives[i].call.session) := by rw [hB]; simp only [wK, seval, wLive]
   have l5 : hcel B j4 5 = some (.int .i64 g.lives[i].call.number) := by rw [hB]; simp only [wK, seval, wLive]
   have rl : rRs B (rLive h') 12 lv g.lives := r1.2.1.subH sB
   have rg : rRs B (rRecord B) 11 lg g.log := (r1.1.subH sB).relImp fun _ _ x => rRecord.sub sB x
   have s2 := s1.trans sB
   have sBB := Sub.refl B
   rw [<- hB]
   refine zC _ (Sub.refl _) ?_
   simp only [wK, seval, la, g2', g3', g4', l0, l4, l5, sBB]
   have bad : ¬ (qCN g.lives[i] g.next /\ (∀ r ∈ g.log, r.stamp ≠ g.lives[i].stamp) /\ ∀ r, xX g.log g.lives[i].call.session = some r -> r.call.number < g.lives[i].call.number) -> ¬ qEN g := fun q p => q (p.2.2.2.1.2.1 _ (List.getElem_mem hi2))
   refine qRL (sLive.sub sB sr) (hb.live _ (List.getElem_mem hi2)) (hq2.1 rfl) fun u1 hu1 => ?_
   cases u1 with
   | false =>
    simp only [wK, seval, la, g2', g3', g4', l0, l4, l5, sBB]
    exact k.dno s2 (bad fun q => qW hu1 rfl q.1)
   | true =>
   simp only [wK, seval, la, g2', g3', g4', l0, l4, l5, sBB]
   refine qF (fun y1 => ?_) fun y1 => ?_
   case' refine_1 =>
    have hi3 : i - 1 < g.lives.length := by omega
    obtain ⟨b3, o3, cs3, hx3, e3, a13, a23, rfl, sr3⟩ := zU rl hi3
    have y0 : hcel B b3 o3 = some (.int .i64 g.lives[i - 1].stamp) := by have := zK e3 0 rfl; rw [Nat.add_zero] at this; exact this
    have hw3 : IntKind.i64.wrap ((i : Int) - 1) = ((i - 1 : Nat) : Int) := by rw [qK _ ⟨by omega, by omega⟩]; omega
    simp only [wK, seval, hx3, y0, hw3, la, g2', g3', g4', l0, l4, l5, sBB]
    refine xA (fun y2 => k.dno s2 fun p => vM (k := (·.stamp)) hi2 (by omega) (by show ¬ g.lives[i - 1].stamp < g.lives[i].stamp; omega) p.2.2.2.1.2.2.1) fun y2 => ?_
    have hris2 := xR hi2 (by omega) hris y2
    try simp only [wK, seval, la, g2', g3', g4', l0, l4, l5, sBB]
   case' refine_2 =>
    have hris2 : risU (·.stamp) g.lives (i + 1) := wG (by omega) hris
    try simp only [wK, seval, la, g2', g3', g4', l0, l4, l5, sBB]
   all_goals
    refine qP [5] (fun n vs h2 => ∃ p : Nat, vs = [.int .i64 p] /\ h2 = B /\ p <= g.log.length /\ n = g.log.length - p /\ ∀ r ∈ g.log.take p, r.stamp ≠ g.lives[i].stamp) g.log.length rfl ⟨0, rfl, rfl, by omega, by omega, by simp⟩ ?_
    rintro n2 f2 h2 ⟨p, hv2, rfl, hp, rfl, hst⟩
    simp only [lm4] at hv2
    simp only [wK, seval, wr, hv2, g3', rg.len]
    refine qF (fun e1 => ?_) fun e1 => ?_
    ·have hp2 : p < g.log.length := by omega
     obtain ⟨b', o', cs', hx', e', a1', a2', rfl, sr'⟩ := zU rg hp2
     have q0 : hcel h2 b' o' = some (.int .i64 g.log[p].stamp) := by have := zK e' 0 rfl; rw [Nat.add_zero] at this; exact this
     refine zC _ (Sub.refl _) ?_
     simp only [wK, seval, g3', hx', q0, l0, Sub.refl h2]
     refine zV (fun c5 => k.dno s2 (bad fun q => q.2.1 _ (List.getElem_mem hp2) c5)) fun c5 => ?_
     simp (disch := omega) only [qK]
     exact ⟨g.log.length - (p + 1), by omega, _, .refl _, p + 1, by simp, rfl, by omega, rfl, fun x hx => by
      rw [List.take_succ_eq_append_getElem hp2] at hx
      rcases List.mem_append.1 hx with hx | hx
      ·exact hst x hx
      ·rw [List.mem_singleton.1 hx]; exact c5⟩
    ·rw [List.take_of_length_le (by omega)] at hst
     refine qP [6] (fun n vs h3 => ∃ p : Nat, vs = [.int .i64 p] /\ h3 = h2 /\ p <= i /\ n = i - p /\ ∀ q (hq : q < p) (hq2 : q < g.lives.length), g.lives[q].call.session ≠ g.lives[i].call.session) i rfl ⟨0, rfl, rfl, by omega, by omega, fun q hq => absurd hq (by omega)⟩ ?_
     rintro n3 f3 h3 ⟨p3, hv3, rfl, hp3, rfl, hss⟩
     simp only [lm4] at hv3
     simp only [wK, seval, wr, hv3]
     refine qF (fun e2 => ?_) fun e2 => ?_
     ·have hp4 : p3 < g.lives.length := by omega
      obtain ⟨b', o', cs', hx', e', a1', a2', rfl, sr'⟩ := zU rl hp4
      have q4 : hcel h3 b' (o' + 4) = some (.int .i64 g.lives[p3].call.session) := zK e' 4 rfl
      refine zC _ (Sub.refl _) ?_
      simp only [wK, seval, g4', hx', q4, l4, Sub.refl h3]
      refine zV (fun c5 => k.dno s2 (fun q => q.2.2.2.1.2.2.2 p3 i hi2 (by omega) c5)) fun c5 => ?_
      simp (disch := omega) only [qK]
      exact ⟨i - (p3 + 1), by omega, _, .refl _, p3 + 1, by simp, rfl, by omega, rfl, fun q hq hq2 => by
       by_cases c : q = p3
       ·subst c; exact c5
       ·exact hss q (by omega) hq2⟩
     ·have hpi : p3 = i := by omega
      subst hpi
      simp only [wK, seval, g3', l4]
      obtain ⟨d, x1, x2, ok, sd, hlast, hcl⟩ := qMD (s := g.lives[p3].call.session) rg (by omega)
      refine hcl _ ?_
      have zr := uD
      simp only [wK, seval, zr]
      refine qC (o := blk (qL zRecord (.slice none 0 0) (.slice none 0 0)) 106) fun j8 hj8 => ?_
      have hone8 := wRecord.2.2.2.2.2.2.2.2.2.2.2.2.2.2.1 d x1 x2 (rdS.one sd.1) (rdS.one sd.2)
      have s9 : ∀ o, Tk.Sub h3 ((j8, o) :: h3) := fun o => Sub.cons hj8 (Sub.refl _)
      have l5' := yA (s9 (blk (qL d x1 x2) 106)) l5
      have fin : (∀ r, xX g.log g.lives[p3].call.session = some r -> r.call.number < g.lives[p3].call.number) -> ∃ m, m < g.lives.length - p3 /\ ∃ gg, Tk.Sub gg ((j8, blk (qL d x1 x2) 106) :: h3) /\ ∃ i' : Nat, [Value.int .i64 ((p3 : Int) + 1)] = [Value.int .i64 i'] /\ gg = h' /\ i' <= g.lives.length /\ m = g.lives.length - i' /\ (∀ x ∈ g.lives.take i', qCN x g.next /\ (∀ r ∈ g.log, r.stamp ≠ x.stamp) /\ ∀ r, xX g.log x.call.session = some r -> r.call.number < x.call.number) /\ risU (·.stamp) g.lives i' /\
        ∀ q p (hp : p < g.lives.length) (hq : q < p), p < i' -> (g.lives[q]'(by omega)).call.session ≠ g.lives[p].call.session := fun hlst =>
       ⟨g.lives.length - (p3 + 1), by omega, h', sB.trans (s9 _), p3 + 1, by simp, rfl, by omega, rfl, fun x hx => by
        rw [List.take_succ_eq_append_getElem hi2] at hx
        rcases List.mem_append.1 hx with hx | hx
        ·exact hall x hx
        ·rw [List.mem_singleton.1 hx]; exact ⟨hu1.1 rfl, hst, hlst⟩, hris2, fun q p hp hq hpi => by
        by_cases c : p = p3
        ·subst c; exact hss q hq (by omega)
        ·exact hses q p hp hq (by omega)⟩
      have s8 := qFC (o := blk (qL zRecord (.slice none 0 0) (.slice none 0 0)) 106) hj8
      simp only [wK, seval, s8, zr, wRecord, hone8]
      cases ok with
      | false =>
       simp (disch := omega) only [wK, seval, qK]
       exact fin fun x hx => by rw [hlast] at hx; simp at hx
      | true =>
       simp only [wK, seval, l5', wRecord]
       refine xA (fun c7 => k.dno (s2.trans (s9 _)) (bad fun q => ?_)) fun c7 => ?_
       ·have := q.2.2 d (by rw [hlast]; rfl)
        omega
       ·simp (disch := omega) only [wK, seval, qK]
        refine fin fun x hx => ?_
        rw [hlast] at hx
        cases hx
        omega
  ·have hil : i = g.lives.length := by omega
   simp only [wK, seval, fa]
   refine qRK r1 hb fun u2 hu2 => ?_
   simp only [wK, seval]
   refine ⟨h, s1, k u2 (hu2.trans ⟨fun w => ⟨hq1.1 rfl, hq2.1 rfl, hq3.1 rfl, ⟨by omega, ?_, xS (by omega) hris, fun q p hp hq => hses q p hp hq (by omega)⟩, hemp, w⟩, fun w => w.2.2.2.2.2⟩)⟩
   rw [List.take_of_length_le (by omega)] at hall
   exact hall
end Go.Proofs.YtjioiemhgbkbfaaGreatDoor
end

section
attribute [local irreducible] Go.Tk.vc Go.Tk.vops Go.Tk.vdr Go.Tk.vop Go.Tk.vfl Go.Tk.HCalls
namespace Go.Proofs.YtjioiemhgbkbfaaGreatDoor
open Go Go.Tk
end Go.Proofs.YtjioiemhgbkbfaaGreatDoor
end

section
attribute [local irreducible] Go.Tk.vc Go.Tk.vops Go.Tk.vdr Go.Tk.vop Go.Tk.vfl Go.Tk.HCalls
namespace Go.Tk
open Go
end Go.Tk
namespace Go.Proofs.YtjioiemhgbkbfaaGreatDoor
open Go Go.Tk
end Go.Proofs.YtjioiemhgbkbfaaGreatDoor
end

section
namespace Go.Proofs.YtjioiemhgbkbfaaGreatDoor
open Go Go.Tk
theorem uG : Tryz.prog.cellsOf 4 = 1 := by kernel_rfl
theorem qST : Tryz.prog.cellsOf 235 = 2 := by kernel_rfl
theorem qLC : Tryz.prog.cellsOf 147 = 11 := by kernel_rfl
theorem qSS : Tryz.prog.cellsOf 262 = 2 := by kernel_rfl
theorem qSV : Tryz.prog.cellsOf 151 = 12 := by kernel_rfl
theorem qWP : Tryz.prog.cellsOf 179 = 2 := by kernel_rfl
theorem qSW : Tryz.prog.cellsOf 26 = 6 := by kernel_rfl
section
variable {X : Type} {enc : TypeId × Value -> X} {w : World} {base : Nat} {sp : Nat -> Bool} {held : Bool}
theorem qCB {m : Nat} {c : Value} {y : DataW X × List MemPlace} (h : DataW.trod enc Tryz.prog w base sp held m 4 [c] = some y) : ∃ b, c = .bool b := by
 obtain ⟨b, e, _⟩ := DataW.trod_bool Tryz.underlying4 h
 exact ⟨b, by simpa using e⟩
theorem in_pair {m : Nat} {cs : List Value} {y : DataW X × List MemPlace} (hl : cs.length = 2) (h : DataW.trod enc Tryz.prog w base sp held m 235 cs = some y) : ∃ p : Int × Int, cs = eP p /\ True := by
 match cs, hl with
 | [c0, c1], _ =>
  obtain ⟨_, _, h0⟩ := qX Tryz.underlying235 h 0 0 1 (ty := 3) rfl zO rfl
  obtain ⟨_, _, h1⟩ := qX Tryz.underlying235 h 1 1 1 (ty := 3) rfl zO rfl
  obtain ⟨n0, rfl, _⟩ := yD h0
  obtain ⟨n1, rfl, _⟩ := yD h1
  exact ⟨(n0, n1), rfl, trivial⟩
theorem qAK {m : Nat} {c : Value} {y : DataW X × List MemPlace} (h : DataW.trod enc Tryz.prog w base sp held m 61 [c] = some y) : ∃ l : List Int, rIn (full w) eI 1 c l /\ l.length <= maxLen := by
 obtain ⟨a, len, cap, rfl⟩ := xC Tryz.underlying61 h
 obtain ⟨l, h1, h2, _⟩ := qBC (encA := eI) (ok := fun _ => True) Tryz.underlying61 zO (by decide) h fun cs m y hl ht => by
  match cs, hl with
  | [c0], _ => obtain ⟨n, rfl, _⟩ := yD ht; exact ⟨n, rfl, trivial⟩
 exact ⟨l, h1, h2⟩
theorem qEJ {m : Nat} {c : Value} {y : DataW X × List MemPlace} (h : DataW.trod enc Tryz.prog w base sp held m 93 [c] = some y) : ∃ l : List (Int × Int), rIn (full w) eP 2 c l /\ l.length <= maxLen := by
 obtain ⟨a, len, cap, rfl⟩ := xC Tryz.underlying93 h
 obtain ⟨l, h1, h2, _⟩ := qBC (encA := eP) (ok := fun _ => True) Tryz.underlying93 qST (by decide) h fun cs m y hl ht => in_pair hl ht
 exact ⟨l, h1, h2⟩
theorem maxB {n : Nat} (h : n <= maxLen) : n <= 9223372036854775807 := Nat.le_trans h (by decide)
theorem zBT {m : Nat} {cs : List Value} {y : DataW X × List MemPlace} (hl : cs.length = 11) (h : DataW.trod enc Tryz.prog w base sp held m 147 cs = some y) : ∃ d : DRecord, nRecord (full w) cs d /\ qDN d := by
 match cs, hl with
 | [c0, c1, c2, c3, c4, c5, c6, c7, c8, c9, c10], _ =>
  obtain ⟨_, _, h0⟩ := qX Tryz.underlying147 h 0 0 1 (ty := 3) rfl zO rfl
  obtain ⟨_, _, h1⟩ := qX Tryz.underlying147 h 1 1 1 (ty := 3) rfl zO rfl
  obtain ⟨_, _, h2⟩ := qX Tryz.underlying147 h 2 2 6 (ty := 94) rfl kD rfl
  obtain ⟨_, _, h3⟩ := qX Tryz.underlying147 h 3 8 1 (ty := 3) rfl zO rfl
  obtain ⟨_, _, h4⟩ := qX Tryz.underlying147 h 4 9 1 (ty := 61) rfl (by kernel_rfl) rfl
  obtain ⟨_, _, h5⟩ := qX Tryz.underlying147 h 5 10 1 (ty := 93) rfl (by kernel_rfl) rfl
  obtain ⟨n0, rfl, _⟩ := yD h0
  obtain ⟨n1, rfl, _⟩ := yD h1
  obtain ⟨c, hc, _, _, _, _, _, ht⟩ := qHK rfl h2
  obtain ⟨n3, rfl, _⟩ := yD h3
  obtain ⟨l4, r4, b4⟩ := qAK h4
  obtain ⟨l5, r5, b5⟩ := qEJ h5
  simp only [zW, List.cons.injEq, and_true] at hc
  obtain ⟨rfl, rfl, rfl, rfl, rfl, rfl⟩ := hc
  exact ⟨⟨n0, n1, c, n3, l4, l5⟩, ⟨_, _, rfl, r4, r5⟩, maxB ht, maxB b4, maxB b5⟩
theorem in_told {m : Nat} {cs : List Value} {y : DataW X × List MemPlace} (hl : cs.length = 2) (h : DataW.trod enc Tryz.prog w base sp held m 262 cs = some y) : ∃ d : DTold, nTold (full w) cs d /\ qLN d := by
 match cs, hl with
 | [c0, c1], _ =>
  obtain ⟨_, _, h0⟩ := qX Tryz.underlying262 h 0 0 1 (ty := 3) rfl zO rfl
  obtain ⟨_, _, h1⟩ := qX Tryz.underlying262 h 1 1 1 (ty := 93) rfl (by kernel_rfl) rfl
  obtain ⟨n0, rfl, _⟩ := yD h0
  obtain ⟨l1, r1, b1⟩ := qEJ h1
  exact ⟨⟨n0, l1⟩, ⟨_, rfl, r1⟩, maxB b1⟩
theorem zHI {m : Nat} {c : Value} {y : DataW X × List MemPlace} (h : DataW.trod enc Tryz.prog w base sp held m 149 [c] = some y) : ∃ l : List DTold, rIRs (full w) (nTold (full w)) 2 c l /\ l.length <= maxLen /\ ∀ t ∈ l, qLN t := by
 obtain ⟨a, len, cap, rfl⟩ := xC Tryz.underlying149 h
 exact vH Tryz.underlying149 qSS (by decide) h fun cs m y hl ht => in_told hl ht
theorem in_live {m : Nat} {cs : List Value} {y : DataW X × List MemPlace} (hl : cs.length = 12) (h : DataW.trod enc Tryz.prog w base sp held m 151 cs = some y) : ∃ d : DLive, nLive (full w) cs d /\ qPZ d := by
 match cs, hl with
 | [c0, c1, c2, c3, c4, c5, c6, c7, c8, c9, c10, c11], _ =>
  obtain ⟨_, _, h0⟩ := qX Tryz.underlying151 h 0 0 1 (ty := 3) rfl zO rfl
  obtain ⟨_, _, h1⟩ := qX Tryz.underlying151 h 1 1 1 (ty := 3) rfl zO rfl
  obtain ⟨_, _, h2⟩ := qX Tryz.underlying151 h 2 2 1 (ty := 3) rfl zO rfl
  obtain ⟨_, _, h3⟩ := qX Tryz.underlying151 h 3 3 1 (ty := 3) rfl zO rfl
  obtain ⟨_, _, h4⟩ := qX Tryz.underlying151 h 4 4 6 (ty := 94) rfl kD rfl
  obtain ⟨_, _, h5⟩ := qX Tryz.underlying151 h 5 10 1 (ty := 61) rfl (by kernel_rfl) rfl
  obtain ⟨_, _, h6⟩ := qX Tryz.underlying151 h 6 11 1 (ty := 149) rfl (by kernel_rfl) rfl
  obtain ⟨n0, rfl, _⟩ := yD h0
  obtain ⟨n1, rfl, _⟩ := yD h1
  obtain ⟨n2, rfl, _⟩ := yD h2
  obtain ⟨n3, rfl, _⟩ := yD h3
  obtain ⟨c, hc, _, _, _, _, _, ht⟩ := qHK rfl h4
  obtain ⟨l5, r5, b5⟩ := qAK h5
  obtain ⟨l6, r6, b6, u6⟩ := zHI h6
  simp only [zW, List.cons.injEq, and_true] at hc
  obtain ⟨rfl, rfl, rfl, rfl, rfl, rfl⟩ := hc
  exact ⟨⟨n0, n1, n2, n3, c, l5, l6⟩, ⟨_, _, rfl, r5, r6⟩, maxB ht, maxB b5, maxB b6, u6⟩
theorem in_way {m : Nat} {cs : List Value} {y : DataW X × List MemPlace} (hl : cs.length = 2) (h : DataW.trod enc Tryz.prog w base sp held m 179 cs = some y) : ∃ d : DWay, cs = cWay d /\ True := by
 match cs, hl with
 | [c0, c1], _ =>
  obtain ⟨_, _, h0⟩ := qX Tryz.underlying179 h 0 0 1 (ty := 3) rfl zO rfl
  obtain ⟨_, _, h1⟩ := qX Tryz.underlying179 h 1 1 1 (ty := 3) rfl zO rfl
  obtain ⟨n0, rfl, _⟩ := yD h0
  obtain ⟨n1, rfl, _⟩ := yD h1
  exact ⟨⟨n0, n1⟩, rfl, trivial⟩
theorem in_gate {m : Nat} {cs : List Value} {y : DataW X × List MemPlace} (hl : cs.length = 6) (h : DataW.trod enc Tryz.prog w base sp held m 26 cs = some y) : ∃ (d : DGate) (v1 v2 v3 : Value), cs = zN d v1 v2 v3 /\ nGate (full w) d v1 v2 v3 /\ zER d := by
 match cs, hl with
 | [c0, c1, c2, c3, c4, c5], _ =>
  obtain ⟨_, _, h0⟩ := qX Tryz.underlying26 h 0 0 1 (ty := 4) rfl uG rfl
  obtain ⟨_, _, h1⟩ := qX Tryz.underlying26 h 1 1 1 (ty := 3) rfl zO rfl
  obtain ⟨_, _, h2⟩ := qX Tryz.underlying26 h 2 2 1 (ty := 3) rfl zO rfl
  obtain ⟨_, _, h3⟩ := qX Tryz.underlying26 h 3 3 1 (ty := 22) rfl (by kernel_rfl) rfl
  obtain ⟨_, _, h4⟩ := qX Tryz.underlying26 h 4 4 1 (ty := 23) rfl (by kernel_rfl) rfl
  obtain ⟨_, _, h5⟩ := qX Tryz.underlying26 h 5 5 1 (ty := 24) rfl (by kernel_rfl) rfl
  obtain ⟨b0, rfl⟩ := qCB h0
  obtain ⟨n1, rfl, _⟩ := yD h1
  obtain ⟨n2, rfl, _⟩ := yD h2
  obtain ⟨a3, len3, cap3, rfl⟩ := xC Tryz.underlying22 h3
  obtain ⟨l3, r3, m3, u3⟩ := vH (rel := nRecord (full w)) Tryz.underlying22 qLC (by decide) h3 fun cs m y hl ht => zBT hl ht
  obtain ⟨a4, len4, cap4, rfl⟩ := xC Tryz.underlying23 h4
  obtain ⟨l4, r4, m4, u4⟩ := vH (rel := nLive (full w)) Tryz.underlying23 qSV (by decide) h4 fun cs m y hl ht => in_live hl ht
  obtain ⟨a5, len5, cap5, rfl⟩ := xC Tryz.underlying24 h5
  obtain ⟨l5, r5, m5, _⟩ := qBC (encA := cWay) (ok := fun _ => True) Tryz.underlying24 qWP (by decide) h5 fun cs m y hl ht => in_way hl ht
  exact ⟨⟨b0, n1, n2, l3, l4, l5⟩, _, _, _, rfl, ⟨r3, r4, r5⟩, maxB m3, u3, maxB m4, u4, maxB m5⟩
end
end Go.Proofs.YtjioiemhgbkbfaaGreatDoor
end

section
attribute [local irreducible] Go.Tk.vc Go.Tk.vops Go.Tk.vdr Go.Tk.vop Go.Tk.vfl Go.Tk.HCalls
namespace Go.Tk
open Go
theorem yE (x : DHold) : (zE x).length = 4 := rfl
end Go.Tk
namespace Go.Proofs.YtjioiemhgbkbfaaGreatDoor
open Go Go.Tk
def WLock (M : H) (cs : List Value) (d : DLock) (S : Nat -> Prop) : Prop := ∃ v p S1 S2, cs = zP d v p /\ dL 171 zE 4 M v d.held S1 /\ dL 171 zE 4 M p d.waits S2 /\ sU S S1 S2
theorem WLock.fr : dFr WLock := by
 rintro M M' cs d S hx ⟨v, p, S1, S2, e, w1, w2, su⟩
 exact ⟨v, p, S1, S2, e, w1.frame fun x q => hx x ((su.2 x).2 (.inl q)), w2.frame fun x q => hx x ((su.2 x).2 (.inr q)), su⟩
theorem WLock.rd : ∀ M cs a S, WLock M cs a S -> rLock M cs a := by
 rintro M cs d S ⟨v, p, S1, S2, e, w1, w2, su⟩
 exact ⟨v, p, e, w1.rd, w2.rd⟩
theorem WLock.in : ∀ M cs a S i, WLock M cs a S -> S i -> hget M i ≠ none := by
 rintro M cs d S i ⟨v, p, S1, S2, e, w1, w2, su⟩ hi
 rcases (su.2 i).1 hi with q | q
 ·exact w1.in q
 ·exact w2.in q
theorem WLock.one {M : H} {cs : List Value} {d : DLock} {S : Nat -> Prop} (w : WLock M cs d S) : cs.all vone = true := by
 obtain ⟨v, p, S1, S2, rfl, w1, w2, su⟩ := w
 simp only [zP, List.all_cons, List.all_nil, w1.one, w2.one]; rfl
def WRec (M : H) (cs : List Value) (d : DRec) (S : Nat -> Prop) : Prop := ∃ v p S1 S2, cs = cRec d v p /\ dL 3 eI 1 M v d.slots S1 /\ dL 175 eP 2 M p d.pairs S2 /\ sU S S1 S2
theorem WRec.fr : dFr WRec := by
 rintro M M' cs d S hx ⟨v, p, S1, S2, e, w1, w2, su⟩
 exact ⟨v, p, S1, S2, e, w1.frame fun x q => hx x ((su.2 x).2 (.inl q)), w2.frame fun x q => hx x ((su.2 x).2 (.inr q)), su⟩
theorem WRec.rd : ∀ M cs a S, WRec M cs a S -> rRec M cs a := by
 rintro M cs d S ⟨v, p, S1, S2, e, w1, w2, su⟩
 exact ⟨v, p, e, w1.rd, w2.rd⟩
theorem WRec.in : ∀ M cs a S i, WRec M cs a S -> S i -> hget M i ≠ none := by
 rintro M cs d S i ⟨v, p, S1, S2, e, w1, w2, su⟩ hi
 rcases (su.2 i).1 hi with q | q
 ·exact w1.in q
 ·exact w2.in q
theorem WRec.one {M : H} {cs : List Value} {d : DRec} {S : Nat -> Prop} (w : WRec M cs d S) : cs.all vone = true := by
 obtain ⟨v, p, S1, S2, rfl, w1, w2, su⟩ := w
 simp only [cRec, List.all_cons, List.all_nil, w1.one, w2.one]; rfl
def WWork (M : H) (cs : List Value) (d : DWork) (S : Nat -> Prop) : Prop := ∃ p, cs = zT d p /\ dL 3 eI 1 M p d.slots S
theorem WWork.fr : dFr WWork := by
 rintro M M' cs d S hx ⟨p, e, w1⟩
 exact ⟨p, e, w1.frame hx⟩
theorem WWork.rd : ∀ M cs a S, WWork M cs a S -> rWork M cs a := by
 rintro M cs d S ⟨p, e, w1⟩
 exact ⟨p, e, w1.rd⟩
theorem WWork.in : ∀ M cs a S i, WWork M cs a S -> S i -> hget M i ≠ none := by
 rintro M cs d S i ⟨p, e, w1⟩ hi
 exact w1.in hi
theorem WWork.one {M : H} {cs : List Value} {d : DWork} {S : Nat -> Prop} (w : WWork M cs d S) : cs.all vone = true := by
 obtain ⟨p, rfl, w1⟩ := w
 simp only [zT, List.all_cons, List.all_nil, w1.one]; rfl
def WHouse (M : H) (d : DHouse) (lg lk wk : Value) (S : Nat -> Prop) : Prop := ∃ S1 S2 S3, dR 137 WRec 6 M lg d.log S1 /\ dR 81 WLock 3 M lk d.locks S2 /\ dR 168 WWork 4 M wk d.works S3 /\
 (∀ i, S1 i -> ¬ S2 i) /\ (∀ i, S1 i -> ¬ S3 i) /\ (∀ i, S2 i -> ¬ S3 i) /\ ∀ i, S i ↔ S1 i ∨ S2 i ∨ S3 i
theorem WHouse.frame {M M' : H} {d : DHouse} {lg lk wk : Value} {S : Nat -> Prop} (w : WHouse M d lg lk wk S) (hx : ∀ i, S i -> hget M' i = hget M i) : WHouse M' d lg lk wk S := by
 obtain ⟨S1, S2, S3, w1, w2, w3, d1, d2, d3, su⟩ := w
 exact ⟨S1, S2, S3, w1.frame WRec.fr fun x q => hx x ((su x).2 (.inl q)), w2.frame WLock.fr fun x q => hx x ((su x).2 (.inr (.inl q))), w3.frame WWork.fr fun x q => hx x ((su x).2 (.inr (.inr q))), d1, d2, d3, su⟩
theorem WHouse.rd {M : H} {d : DHouse} {lg lk wk : Value} {S : Nat -> Prop} (w : WHouse M d lg lk wk S) : sHouse M d lg lk wk := by
 obtain ⟨S1, S2, S3, w1, w2, w3, d1, d2, d3, su⟩ := w
 exact ⟨w1.rd WRec.rd, w2.rd WLock.rd, w3.rd WWork.rd⟩
theorem WHouse.in {M : H} {d : DHouse} {lg lk wk : Value} {S : Nat -> Prop} (w : WHouse M d lg lk wk S) {i : Nat} (h : S i) : hget M i ≠ none := by
 obtain ⟨S1, S2, S3, w1, w2, w3, d1, d2, d3, su⟩ := w
 rcases (su i).1 h with q | q | q
 ·exact w1.in WRec.in q
 ·exact w2.in WLock.in q
 ·exact w3.in WWork.in q
theorem WHouse.one {M : H} {d e : DHouse} {lg lk wk : Value} {S : Nat -> Prop} (w : WHouse M d lg lk wk S) : (qT e lg lk wk).all vone = true := by
 obtain ⟨S1, S2, S3, w1, w2, w3, _⟩ := w
 simp only [qT, List.all_cons, List.all_nil, w1.one, w2.one, w3.one]; rfl
def WHouseC (M : H) (cs : List Value) (d : DHouse) (S : Nat -> Prop) : Prop := ∃ a b c, cs = qT d a b c /\ WHouse M d a b c S
theorem WHouseC.fr : dFr WHouseC := by
 rintro M M' cs d S hx ⟨a, b, c, e, w⟩
 exact ⟨a, b, c, e, w.frame hx⟩
theorem WHouseC.rd : ∀ M cs a S, WHouseC M cs a S -> rHouse M cs a := by
 rintro M cs d S ⟨a, b, c, e, w⟩
 exact ⟨a, b, c, e, w.rd⟩
theorem WHouseC.in : ∀ M cs a S i, WHouseC M cs a S -> S i -> hget M i ≠ none := by
 rintro M cs d S i ⟨a, b, c, e, w⟩ hi
 exact w.in hi
theorem WHouseC.one {M : H} {cs : List Value} {d : DHouse} {S : Nat -> Prop} (w : WHouseC M cs d S) : cs.all vone = true := by
 obtain ⟨a, b, c, rfl, w⟩ := w
 exact w.one
def WTollCall (M : H) (cs : List Value) (d : DTollCall) (S : Nat -> Prop) : Prop := ∃ p, cs = qI d p /\ dL 3 eI 1 M p d.vals S
theorem WTollCall.fr : dFr WTollCall := by
 rintro M M' cs d S hx ⟨p, e, w1⟩
 exact ⟨p, e, w1.frame hx⟩
theorem WTollCall.rd : ∀ M cs a S, WTollCall M cs a S -> rTollCall M cs a := by
 rintro M cs d S ⟨p, e, w1⟩
 exact ⟨p, e, w1.rd⟩
theorem WTollCall.in : ∀ M cs a S i, WTollCall M cs a S -> S i -> hget M i ≠ none := by
 rintro M cs d S i ⟨p, e, w1⟩ hi
 exact w1.in hi
theorem WTollCall.one {M : H} {cs : List Value} {d : DTollCall} {S : Nat -> Prop} (w : WTollCall M cs d S) : cs.all vone = true := by
 obtain ⟨p, rfl, w1⟩ := w
 simp only [qI, List.all_cons, List.all_nil, w1.one]; rfl
theorem bst {M : H} {j o : Nat} {cs vs cs' : List Value} {e : TypeId} (g : hget M j = some (blk cs e)) (hl : o + vs.length <= cs.length) (hs : qJ cs o vs = cs') :
  ∃ N, zQ M j o vs = some N /\ hget N j = some (blk cs' e) /\ ∀ x, x ≠ j -> hget N x = hget M x :=
 ⟨_, yI g hl, by rw [hs]; exact zH g, fun x e => qS e⟩
end Go.Proofs.YtjioiemhgbkbfaaGreatDoor
end

section
attribute [local irreducible] Go.Tk.vc Go.Tk.vops Go.Tk.vdr Go.Tk.vop Go.Tk.vfl Go.Tk.HCalls
namespace Go.Proofs.YtjioiemhgbkbfaaGreatDoor
open Go Go.Tk
theorem zIE {h : H} {x y : DWord} {s p v s' p' v' : Value} (rx : sWord h x s p v) (ry : sWord h y s' p' v') (hx : wLen x) {R : Ending -> H -> Prop} (k : R (.returned (.bool (decide (x = y)))) h) :
  HCalls Tryz.prog 71 #[.agg (zL x s p v).toArray, .agg (zL y s' p' v').toArray] h R := by
 refine qD lite (args := [.agg (zL x s p v).toArray, .agg (zL y s' p' v').toArray]) Tryz.func71 ?_
 conv => arg 2; cbv
 simp only [wK, seval, zZ]
 refine qC fun j1 h1 => ?_
 simp only [wK, seval, zZ, zA]
 refine qC fun j2 h2 => ?_
 have n := wW h2
 simp only [wK, seval, zZ, zA, n.1, n.2.1]
 have sb := fun o => Sub.cons (o := o) h2 (Sub.cons h1 (Sub.refl h))
 refine zG (fun d => ⟨h, Sub.cons h2 (Sub.cons h1 (Sub.refl h)), kF k (fun e => d (by rw [e]))⟩) fun d0 => ?_
 refine zG (fun d => ⟨h, Sub.cons h2 (Sub.cons h1 (Sub.refl h)), kF k (fun e => d (by rw [e]))⟩) fun d1 => ?_
 refine zG (fun d => ⟨h, Sub.cons h2 (Sub.cons h1 (Sub.refl h)), kF k (fun e => d (by rw [e]))⟩) fun d2 => ?_
 refine zG (fun d => ⟨h, Sub.cons h2 (Sub.cons h1 (Sub.refl h)), kF k (fun e => d (by rw [e]))⟩) fun d3 => ?_
 refine zG (fun d => ⟨h, Sub.cons h2 (Sub.cons h1 (Sub.refl h)), kF k (fun e => d (by rw [e]))⟩) fun d4 => ?_
 refine zG (fun d => ⟨h, Sub.cons h2 (Sub.cons h1 (Sub.refl h)), kF k (fun e => d (by rw [e]))⟩) fun d5 => ?_
 refine qCA (fun d => ⟨h, Sub.cons h2 (Sub.cons h1 (Sub.refl h)), kF k (fun e => d (by rw [e]))⟩) fun d6 => ?_
 refine jT (rx.1.sub (sb _)) (ry.1.sub (sb _)) hx.1 ?_
 simp only [wK, seval, zZ, zA]
 refine zG (fun d => ⟨h, Sub.cons h2 (Sub.cons h1 (Sub.refl h)), kF k (fun e => d (by rw [e]))⟩) fun d7 => ?_
 simp only [n.1, n.2.1, wK, seval, zZ, zA]
 refine qCF (rx.2.1.sub (sb _)) (ry.2.1.sub (sb _)) hx.2.1 ?_
 simp only [wK, seval, zZ, zA, n.1, n.2.1]
 refine zG (fun d => ⟨h, Sub.cons h2 (Sub.cons h1 (Sub.refl h)), kF k (fun e => d (by rw [e]))⟩) fun d8 => ?_
 refine zG (fun d => ⟨h, Sub.cons h2 (Sub.cons h1 (Sub.refl h)), kF k (fun e => d (by rw [e]))⟩) fun d9 => ?_
 refine jT (rx.2.2.sub (sb _)) (ry.2.2.sub (sb _)) hx.2.2 ?_
 simp only [wK, seval, zZ, zA, n.1, n.2.1]
 refine zG (fun d => ⟨h, Sub.cons h2 (Sub.cons h1 (Sub.refl h)), kF k (fun e => d (by rw [e]))⟩) fun d10 => ?_
 refine qEU (x := x.call) (y := y.call) ?_
 simp only [wK, seval, zZ, zA]
 refine zG (fun d => ⟨h, Sub.cons h2 (Sub.cons h1 (Sub.refl h)), kF k (fun e => d (by rw [e]))⟩) fun d11 => ?_
 refine ⟨h, Sub.cons h2 (Sub.cons h1 (Sub.refl h)), kT k ?_⟩
 cases x; cases y; simp_all
theorem zCH {h : H} {a b : Value} {la lb : List DWord} (ra : rRs h (rWord h) 17 a la) (rb : rRs h (rWord h) 17 b lb) (hb : ∀ x ∈ la, wLen x) (ha : la.length <= 1099511627776) {R : Ending -> H -> Prop} (k : R (.returned (.bool (decide (la = lb)))) h) :
  HCalls Tryz.prog 28 #[a, b] h R := by
 refine qD lite (args := [a, b]) Tryz.func28 ?_
 conv => arg 2; cbv
 simp only [wK, seval, ra.len, rb.len]
 split
 ·rename_i c
  exact .of (kF k fun e => c (by rw [e]))
 ·rename_i c
  have hl : la.length = lb.length := by omega
  refine qP [5] (fun n vs h' => ∃ i : Nat, vs = [.int .i64 i] /\ h' = h /\ i <= la.length /\ n = la.length - i /\ la.take i = lb.take i) la.length rfl ⟨0, rfl, rfl, by omega, by omega, by simp⟩ ?_
  rintro n f h' ⟨i, hv, rfl, hi, rfl, ht⟩
  simp only [lm4] at hv
  simp only [wK, seval, wr, hv, ra.len, rb.len]
  split
  ·rename_i c1
   have hia : i < la.length := by omega
   have hib : i < lb.length := by omega
   obtain ⟨b1, o1, cs1, hx1, e1, v1, v2, v3, rfl, s1⟩ := zU ra hia
   obtain ⟨b2, o2, cs2, hx2, e2, w1, w2, w3, rfl, s2⟩ := zU rb hib
   refine zC h' (Sub.refl _) ?_
   simp only [wK, seval, hx1, hx2, e1, e2, Sub.refl h']
   refine zIE s1 s2 (hb _ (List.getElem_mem hia)) ?_
   simp only [wK, seval, Sub.refl h']
   refine zG (fun d => .of (kF k (kP hia hib d))) fun d => ?_
   simp (disch := omega) only [qK]
   exact ⟨la.length - (i + 1), by omega, h', .refl _, i + 1, by simp, rfl, by omega, rfl, xL hia hib ht d⟩
  ·rename_i c1
   exact .of (kT k (wD (by omega) hl ht))
end Go.Proofs.YtjioiemhgbkbfaaGreatDoor
end

section
attribute [local irreducible] Go.Tk.vc Go.Tk.vops Go.Tk.vdr Go.Tk.vop Go.Tk.vfl Go.Tk.HCalls
namespace Go.Proofs.YtjioiemhgbkbfaaGreatDoor
open Go Go.Tk
theorem zIL {h : H} {x y : DHold} {R : Ending -> H -> Prop} (k : R (.returned (.bool (decide (x = y)))) h) : HCalls Tryz.prog 196 #[.agg (zE x).toArray, .agg (zE y).toArray] h R := by
 refine qD lite (args := [.agg (zE x).toArray, .agg (zE y).toArray]) Tryz.func196 ?_
 conv => arg 2; cbv
 simp only [wK, seval, yV]
 refine qC fun j1 h1 => ?_
 simp only [wK, seval, yV]
 refine qC fun j2 h2 => ?_
 have n := wW h2
 simp only [wK, seval, yV, n.1, n.2.1]
 refine zG (fun d => ⟨h, Sub.cons h2 (Sub.cons h1 (Sub.refl h)), kF k (fun e => d (by rw [e]))⟩) fun d0 => ?_
 refine zG (fun d => ⟨h, Sub.cons h2 (Sub.cons h1 (Sub.refl h)), kF k (fun e => d (by rw [e]))⟩) fun d1 => ?_
 refine qCA (fun d => ⟨h, Sub.cons h2 (Sub.cons h1 (Sub.refl h)), kF k (fun e => d (by rw [e]))⟩) fun d2 => ?_
 refine qCA (fun d => ⟨h, Sub.cons h2 (Sub.cons h1 (Sub.refl h)), kF k (fun e => d (by rw [e]))⟩) fun d3 => ?_
 refine ⟨h, Sub.cons h2 (Sub.cons h1 (Sub.refl h)), kT k ?_⟩
 cases x; cases y; simp_all
theorem qMT {h : H} {a b : Value} {la lb : List DHold} (ra : rLs h zE 4 a la) (rb : rLs h zE 4 b lb) (ha : la.length <= 1099511627776) {R : Ending -> H -> Prop} (k : R (.returned (.bool (decide (la = lb)))) h) :
  HCalls Tryz.prog 181 #[a, b] h R := by
 refine qD lite (args := [a, b]) Tryz.func181 ?_
 conv => arg 2; cbv
 simp only [wK, seval, ra.len, rb.len]
 split
 ·rename_i c
  exact .of (kF k fun e => c (by rw [e]))
 ·rename_i c
  have hl : la.length = lb.length := by omega
  refine qP [5] (fun n vs h' => ∃ i : Nat, vs = [.int .i64 i] /\ h' = h /\ i <= la.length /\ n = la.length - i /\ la.take i = lb.take i) la.length rfl ⟨0, rfl, rfl, by omega, by omega, by simp⟩ ?_
  rintro n f h' ⟨i, hv, rfl, hi, rfl, ht⟩
  simp only [lm4] at hv
  simp only [wK, seval, wr, hv, ra.len, rb.len]
  split
  ·rename_i c1
   refine zC h' (Sub.refl _) ?_
   simp only [wK, seval]
   refine zS (i := i) yE ra rfl (by omega) fun b1 o1 e1 => ?_
   simp only [wK, seval, e1]
   refine zS (i := i) yE rb rfl (by omega) fun b2 o2 e2 => ?_
   simp only [wK, seval, e2]
   refine zIL ?_
   simp only [wK, seval]
   refine zG (fun d => .of (kF k (kP _ _ d))) fun d => ?_
   simp (disch := omega) only [qK]
   exact ⟨la.length - (i + 1), by omega, h', .refl _, i + 1, by simp, rfl, by omega, rfl, xL _ _ ht d⟩
  ·rename_i c1
   exact .of (kT k (wD (by omega) hl ht))
theorem qLP {h : H} {v : Value} {l : List DHold} {left : Int} (r : rIn h zE 4 v l) (hl : 0 <= left /\ left <= 1048576) (hb : l.length <= 9223372036854775807) {R : Ending -> H -> Prop} (k : ∀ x, (0 <= x -> x = left - l.length) -> x <= 1048576 -> R (.returned (.int .i64 x)) h) : HCalls Tryz.prog 167 #[v, .int .i64 left] h R := by
 refine qD lite (args := [v, .int .i64 left]) Tryz.func167 ?_
 conv => arg 2; cbv
 rw [qR]
 simp (disch := omega) only [wK, seval, r.len, qK]
 refine qF (fun c => .of (k _ (fun q => by omega) (by omega))) fun c => .of (k _ (fun _ => rfl) (by omega))
theorem zFC {h : H} {p : DHold} {R : Ending -> H -> Prop} (k : R (.returned (.agg (zE p).toArray)) h) : HCalls Tryz.prog 190 #[.agg (zE p).toArray] h R := by
 refine qD lite (args := [.agg (zE p).toArray]) Tryz.func190 ?_
 conv => arg 2; cbv
 rw [qR]
 have zp := qDH
 simp only [wK, seval, zp, yV]
 refine qC fun j1 h1 => ?_
 simp only [wK, seval, zp, yV]
 refine qC fun j2 h2 => ?_
 simp only [wK, seval, zp, yV]
 refine qC fun j3 h3 => ?_
 have n2 := wW h2
 have n3 := wW h3
 simp only [subs] at h2 h3
 have e31 : ¬ j1 = j3 := fun e => h3.2.1 e.symm
 have e32 : ¬ j2 = j3 := fun e => h3.1 e.symm
 have e21 : ¬ j1 = j2 := fun e => h2.1 e.symm
 simp only [wK, seval, zp, yV, e31, e32, e21, h3, h2]
 refine ⟨h, ?_, k⟩
 (repeat' first | exact Sub.refl _ | exact Sub.nil _ | assumption | refine Sub.both ?_ ?_ | refine Sub.cons_of (by simp only [subs, h1, h2, h3, e31, e32, e21]) ?_ | exact Sub.left _ _ | refine Sub.app (by simp only [subs, h1, h2, h3, e31, e32, e21]) ?_ | refine Sub.cons (by simp only [subs, h1, h2, h3, e31, e32, e21]) ?_)
theorem zAG {h : H} {a : Value} {l : List DHold} (r : rIn h zE 4 a l) (hl : l.length <= 1048576) {R : Ending -> H -> Prop} (k : ∀ v g, oLs 171 zE 4 v l g -> Dj g h -> R (.returned v) (g ++ h)) : HCalls Tryz.prog 172 #[a] h R := by
 refine qD lite (args := [a]) Tryz.func172 ?_
 conv => arg 2; cbv
 rw [qR]
 have zp := qDH
 simp only [wK, seval, r.len, str, zp]
 refine ⟨⟨by omega, by omega, by omega, by omega⟩, qC fun j hj => ?_⟩
 rw [qHD (enc := zE) (a := qCJ) rfl]
 simp only [wK, seval]
 have hr : (List.replicate l.length qCJ).length = l.length := by simp
 have o0 : oLs 171 zE 4 (.slice (some ⟨j, 0, none⟩) l.length l.length) (List.replicate l.length qCJ) [(j, blk (fl zE (List.replicate l.length qCJ)) 171)] := by
  have := xU (e := 171) yE (j := j) (l := List.replicate l.length qCJ)
  rw [hr] at this; exact this
 obtain ⟨V, hV⟩ : ∃ V, V = Value.slice (some ⟨j, 0, none⟩) l.length l.length := ⟨_, rfl⟩
 rw [<- hV] at o0 ⊢
 refine qP [4] (fun n vs h' => ∃ (i : Nat) (g' : H), vs = [.int .i64 i] /\ h' = g' ++ h /\ Dj g' h /\ oLs 171 zE 4 V (l.take i ++ (List.replicate l.length qCJ).drop i) g' /\ i <= l.length /\ n = l.length - i) l.length rfl
  ⟨0, _, rfl, rfl, Dj.one hj, by simpa using o0, by omega, rfl⟩ ?_
 rintro n f h' ⟨i, g', hv, rfl, dj', o', hi, rfl⟩
 simp only [lm4] at hv
 simp only [wK, seval, wr, hv, r.len]
 refine qF (fun c1 => ?_) fun c1 => ?_
 ·have hi2 : i < l.length := by omega
  refine qOT (i := i) yE (r.sub (Sub.right dj')) rfl hi2 fun b1 o1 e1 => ?_
  simp only [wK, seval, e1, yV]
  refine zFC ?_
  simp only [wK, seval, yV]
  refine qHH (i := i) yE o' rfl (by simp; omega) fun b cap sp hv' hc hs hg => ?_
  subst hg
  simp only [wK, seval, yV]
  refine qID (i := i) (a' := l[i]'hi2) (off := 0) yE (by omega) (by simp; omega) rfl (by omega) rfl ?_
  simp only [wK, seval]
  simp (disch := omega) only [qK]
  refine ⟨l.length - (i + 1), by omega, _, .refl _, i + 1, _, by simp, rfl, Dj.one dj'.one', ?_, by omega, rfl⟩
  rw [<- xZ (by omega) hr]
  exact qHG yE hv' hc hs
 ·have hi' : i = l.length := by omega
  subst hi'
  have o2 : oLs 171 zE 4 V l g' := by simpa using o'
  exact .of (k _ g' o2 dj')
theorem qLO {h : H} {a : Value} {l : List DHold} (r : rIn h zE 4 a l) (hl : l.length <= 1048576) {R : Ending -> H -> Prop} (k : ∀ M' v S, Tk.Sub h M' -> dL 171 zE 4 M' v l S -> (∀ x, S x -> hget h x = none) -> R (.returned v) M') : HCalls Tryz.prog 172 #[a] h R :=
 zAG r hl fun v g o d => k _ v _ (Sub.right d) (dL.of (h := h) o (Sub.left _ _)) fun x q => d x q
theorem eqRec_c {h : H} {x y : DRec} {v1 v2 w1 w2 : Value} (rx : sRec h x v1 v2) (ry : sRec h y w1 w2) (hx : bRec x) {R : Ending -> H -> Prop} (k : R (.returned (.bool (decide (x = y)))) h) :
  HCalls Tryz.prog 156 #[.agg (cRec x v1 v2).toArray, .agg (cRec y w1 w2).toArray] h R := by
 refine qD lite (args := [.agg (cRec x v1 v2).toArray, .agg (cRec y w1 w2).toArray]) Tryz.func156 ?_
 conv => arg 2; cbv
 simp only [wK, seval, wRec]
 refine qC fun j1 h1 => ?_
 simp only [wK, seval, wRec]
 refine qC fun j2 h2 => ?_
 have n := wW h2
 have sb := fun o => Sub.cons (o := o) h2 (Sub.cons h1 (Sub.refl h))
 simp only [wK, seval, wRec, zA, n.1, n.2.1]
 refine zG (fun d => ⟨h, Sub.cons h2 (Sub.cons h1 (Sub.refl h)), kF k (fun e => d (by rw [e]))⟩) fun d0 => ?_
 refine zG (fun d => ⟨h, Sub.cons h2 (Sub.cons h1 (Sub.refl h)), kF k (fun e => d (by rw [e]))⟩) fun d1 => ?_
 refine zG (fun d => ⟨h, Sub.cons h2 (Sub.cons h1 (Sub.refl h)), kF k (fun e => d (by rw [e]))⟩) fun d2 => ?_
 refine zG (fun d => ⟨h, Sub.cons h2 (Sub.cons h1 (Sub.refl h)), kF k (fun e => d (by rw [e]))⟩) fun d3 => ?_
 refine jT (rx.1.sub (sb _)) (ry.1.sub (sb _)) (by have := hx.s; unfold lim at this; omega) ?_
 simp only [wK, seval, wRec, zA, n.1, n.2.1]
 refine zG (fun d => ⟨h, Sub.cons h2 (Sub.cons h1 (Sub.refl h)), kF k (fun e => d (by rw [e]))⟩) fun d4 => ?_
 try simp only [wK, seval, wRec, zA, n.1, n.2.1]
 refine qCF (rx.2.sub (sb _)) (ry.2.sub (sb _)) (by have := hx.p; unfold lim at this; omega) ?_
 simp only [wK, seval, wRec, zA, n.1, n.2.1]
 refine zG (fun d => ⟨h, Sub.cons h2 (Sub.cons h1 (Sub.refl h)), kF k (fun e => d (by rw [e]))⟩) fun d5 => ?_
 refine ⟨h, Sub.cons h2 (Sub.cons h1 (Sub.refl h)), kT k ?_⟩
 cases x; cases y; simp_all
theorem zIH {h : H} {a b : Value} {la lb : List DRec} (ra : rRs h (rRec h) 6 a la) (rb : rRs h (rRec h) 6 b lb) (hb : ∀ x ∈ la, bRec x) (ha : la.length <= 1099511627776) {R : Ending -> H -> Prop} (k : R (.returned (.bool (decide (la = lb)))) h) :
  HCalls Tryz.prog 116 #[a, b] h R := by
 refine qD lite (args := [a, b]) Tryz.func116 ?_
 conv => arg 2; cbv
 simp only [wK, seval, ra.len, rb.len]
 split
 ·rename_i c
  exact .of (kF k fun e => c (by rw [e]))
 ·rename_i c
  have hl : la.length = lb.length := by omega
  refine qP [5] (fun n vs h' => ∃ i : Nat, vs = [.int .i64 i] /\ h' = h /\ i <= la.length /\ n = la.length - i /\ la.take i = lb.take i) la.length rfl ⟨0, rfl, rfl, by omega, by omega, by simp⟩ ?_
  rintro n f h' ⟨i, hv, rfl, hi, rfl, ht⟩
  simp only [lm4] at hv
  simp only [wK, seval, wr, hv, ra.len, rb.len]
  split
  ·rename_i c1
   have hia : i < la.length := by omega
   have hib : i < lb.length := by omega
   obtain ⟨b1, o1, cs1, hx1, e1, v1, v2, rfl, s1⟩ := zU ra hia
   obtain ⟨b2, o2, cs2, hx2, e2, w1, w2, rfl, s2⟩ := zU rb hib
   refine zC h' (Sub.refl _) ?_
   simp only [wK, seval, hx1, hx2, e1, e2, Sub.refl h']
   refine eqRec_c s1 s2 (hb _ (List.getElem_mem hia)) ?_
   simp only [wK, seval, Sub.refl h']
   refine zG (fun d => .of (kF k (kP hia hib d))) fun d => ?_
   simp (disch := omega) only [qK]
   exact ⟨la.length - (i + 1), by omega, h', .refl _, i + 1, by simp, rfl, by omega, rfl, xL hia hib ht d⟩
  ·rename_i c1
   exact .of (kT k (wD (by omega) hl ht))
theorem zIJ {h : H} {x y : DLock} {v1 v2 w1 w2 : Value} (rx : sLock h x v1 v2) (ry : sLock h y w1 w2) (hx : bLock x) {R : Ending -> H -> Prop} (k : R (.returned (.bool (decide (x = y)))) h) :
  HCalls Tryz.prog 157 #[.agg (zP x v1 v2).toArray, .agg (zP y w1 w2).toArray] h R := by
 refine qD lite (args := [.agg (zP x v1 v2).toArray, .agg (zP y w1 w2).toArray]) Tryz.func157 ?_
 conv => arg 2; cbv
 simp only [wK, seval, xN]
 refine qC fun j1 h1 => ?_
 simp only [wK, seval, xN]
 refine qC fun j2 h2 => ?_
 have n := wW h2
 have sb := fun o => Sub.cons (o := o) h2 (Sub.cons h1 (Sub.refl h))
 simp only [wK, seval, xN, zA, n.1, n.2.1]
 refine zG (fun d => ⟨h, Sub.cons h2 (Sub.cons h1 (Sub.refl h)), kF k (fun e => d (by rw [e]))⟩) fun d0 => ?_
 refine qMT (rx.1.sub (sb _)) (ry.1.sub (sb _)) (by have := hx.h; unfold lim at this; omega) ?_
 simp only [wK, seval, xN, zA, n.1, n.2.1]
 refine zG (fun d => ⟨h, Sub.cons h2 (Sub.cons h1 (Sub.refl h)), kF k (fun e => d (by rw [e]))⟩) fun d1 => ?_
 try simp only [wK, seval, xN, zA, n.1, n.2.1]
 refine qMT (rx.2.sub (sb _)) (ry.2.sub (sb _)) (by have := hx.w; unfold lim at this; omega) ?_
 simp only [wK, seval, xN, zA, n.1, n.2.1]
 refine zG (fun d => ⟨h, Sub.cons h2 (Sub.cons h1 (Sub.refl h)), kF k (fun e => d (by rw [e]))⟩) fun d2 => ?_
 refine ⟨h, Sub.cons h2 (Sub.cons h1 (Sub.refl h)), kT k ?_⟩
 cases x; cases y; simp_all
theorem zCJ {h : H} {a b : Value} {la lb : List DLock} (ra : rRs h (rLock h) 3 a la) (rb : rRs h (rLock h) 3 b lb) (hb : ∀ x ∈ la, bLock x) (ha : la.length <= 1099511627776) {R : Ending -> H -> Prop} (k : R (.returned (.bool (decide (la = lb)))) h) :
  HCalls Tryz.prog 117 #[a, b] h R := by
 refine qD lite (args := [a, b]) Tryz.func117 ?_
 conv => arg 2; cbv
 simp only [wK, seval, ra.len, rb.len]
 split
 ·rename_i c
  exact .of (kF k fun e => c (by rw [e]))
 ·rename_i c
  have hl : la.length = lb.length := by omega
  refine qP [5] (fun n vs h' => ∃ i : Nat, vs = [.int .i64 i] /\ h' = h /\ i <= la.length /\ n = la.length - i /\ la.take i = lb.take i) la.length rfl ⟨0, rfl, rfl, by omega, by omega, by simp⟩ ?_
  rintro n f h' ⟨i, hv, rfl, hi, rfl, ht⟩
  simp only [lm4] at hv
  simp only [wK, seval, wr, hv, ra.len, rb.len]
  split
  ·rename_i c1
   have hia : i < la.length := by omega
   have hib : i < lb.length := by omega
   obtain ⟨b1, o1, cs1, hx1, e1, v1, v2, rfl, s1⟩ := zU ra hia
   obtain ⟨b2, o2, cs2, hx2, e2, w1, w2, rfl, s2⟩ := zU rb hib
   refine zC h' (Sub.refl _) ?_
   simp only [wK, seval, hx1, hx2, e1, e2, Sub.refl h']
   refine zIJ s1 s2 (hb _ (List.getElem_mem hia)) ?_
   simp only [wK, seval, Sub.refl h']
   refine zG (fun d => .of (kF k (kP hia hib d))) fun d => ?_
   simp (disch := omega) only [qK]
   exact ⟨la.length - (i + 1), by omega, h', .refl _, i + 1, by simp, rfl, by omega, rfl, xL hia hib ht d⟩
  ·rename_i c1
   exact .of (kT k (wD (by omega) hl ht))
theorem zID {h : H} {x y : DWork} {v1 w1 : Value} (rx : sWork h x v1) (ry : sWork h y w1) (hx : kW x) {R : Ending -> H -> Prop} (k : R (.returned (.bool (decide (x = y)))) h) :
  HCalls Tryz.prog 158 #[.agg (zT x v1).toArray, .agg (zT y w1).toArray] h R := by
 refine qD lite (args := [.agg (zT x v1).toArray, .agg (zT y w1).toArray]) Tryz.func158 ?_
 conv => arg 2; cbv
 simp only [wK, seval, vV]
 refine qC fun j1 h1 => ?_
 simp only [wK, seval, vV]
 refine qC fun j2 h2 => ?_
 have n := wW h2
 have sb := fun o => Sub.cons (o := o) h2 (Sub.cons h1 (Sub.refl h))
 simp only [wK, seval, vV, zA, n.1, n.2.1]
 refine zG (fun d => ⟨h, Sub.cons h2 (Sub.cons h1 (Sub.refl h)), kF k (fun e => d (by rw [e]))⟩) fun d0 => ?_
 refine zG (fun d => ⟨h, Sub.cons h2 (Sub.cons h1 (Sub.refl h)), kF k (fun e => d (by rw [e]))⟩) fun d1 => ?_
 refine zG (fun d => ⟨h, Sub.cons h2 (Sub.cons h1 (Sub.refl h)), kF k (fun e => d (by rw [e]))⟩) fun d2 => ?_
 refine jT (rx.sub (sb _)) (ry.sub (sb _)) (by have := hx; unfold kW lim at this; omega) ?_
 simp only [wK, seval, vV, zA, n.1, n.2.1]
 refine zG (fun d => ⟨h, Sub.cons h2 (Sub.cons h1 (Sub.refl h)), kF k (fun e => d (by rw [e]))⟩) fun d3 => ?_
 refine ⟨h, Sub.cons h2 (Sub.cons h1 (Sub.refl h)), kT k ?_⟩
 cases x; cases y; simp_all
theorem zCG {h : H} {a b : Value} {la lb : List DWork} (ra : rRs h (rWork h) 4 a la) (rb : rRs h (rWork h) 4 b lb) (hb : ∀ x ∈ la, kW x) (ha : la.length <= 1099511627776) {R : Ending -> H -> Prop} (k : R (.returned (.bool (decide (la = lb)))) h) :
  HCalls Tryz.prog 118 #[a, b] h R := by
 refine qD lite (args := [a, b]) Tryz.func118 ?_
 conv => arg 2; cbv
 simp only [wK, seval, ra.len, rb.len]
 split
 ·rename_i c
  exact .of (kF k fun e => c (by rw [e]))
 ·rename_i c
  have hl : la.length = lb.length := by omega
  refine qP [5] (fun n vs h' => ∃ i : Nat, vs = [.int .i64 i] /\ h' = h /\ i <= la.length /\ n = la.length - i /\ la.take i = lb.take i) la.length rfl ⟨0, rfl, rfl, by omega, by omega, by simp⟩ ?_
  rintro n f h' ⟨i, hv, rfl, hi, rfl, ht⟩
  simp only [lm4] at hv
  simp only [wK, seval, wr, hv, ra.len, rb.len]
  split
  ·rename_i c1
   have hia : i < la.length := by omega
   have hib : i < lb.length := by omega
   obtain ⟨b1, o1, cs1, hx1, e1, v1, rfl, s1⟩ := zU ra hia
   obtain ⟨b2, o2, cs2, hx2, e2, w1, rfl, s2⟩ := zU rb hib
   refine zC h' (Sub.refl _) ?_
   simp only [wK, seval, hx1, hx2, e1, e2, Sub.refl h']
   refine zID s1 s2 (hb _ (List.getElem_mem hia)) ?_
   simp only [wK, seval, Sub.refl h']
   refine zG (fun d => .of (kF k (kP hia hib d))) fun d => ?_
   simp (disch := omega) only [qK]
   exact ⟨la.length - (i + 1), by omega, h', .refl _, i + 1, by simp, rfl, by omega, rfl, xL hia hib ht d⟩
  ·rename_i c1
   exact .of (kT k (wD (by omega) hl ht))
theorem zCL {h : H} {x y : DHouse} {v1 v2 v3 w1 w2 w3 : Value} (rx : sHouse h x v1 v2 v3) (ry : sHouse h y w1 w2 w3) (hx : bHouse x) {R : Ending -> H -> Prop} (k : R (.returned (.bool (decide (x = y)))) h) :
  HCalls Tryz.prog 70 #[.agg (qT x v1 v2 v3).toArray, .agg (qT y w1 w2 w3).toArray] h R := by
 refine qD lite (args := [.agg (qT x v1 v2 v3).toArray, .agg (qT y w1 w2 w3).toArray]) Tryz.func70 ?_
 conv => arg 2; cbv
 simp only [wK, seval, yC]
 refine qC fun j1 h1 => ?_
 simp only [wK, seval, yC]
 refine qC fun j2 h2 => ?_
 have n := wW h2
 have sb := fun o => Sub.cons (o := o) h2 (Sub.cons h1 (Sub.refl h))
 simp only [wK, seval, yC, zA, n.1, n.2.1]
 refine zG (fun d => ⟨h, Sub.cons h2 (Sub.cons h1 (Sub.refl h)), kF k (fun e => d (by rw [e]))⟩) fun d0 => ?_
 refine qCA (fun d => ⟨h, Sub.cons h2 (Sub.cons h1 (Sub.refl h)), kF k (fun e => d (by rw [e]))⟩) fun d1 => ?_
 refine zIH ((rx.1).sub (sb _) fun c a q => rRec.sub (sb _) q) ((ry.1).sub (sb _) fun c a q => rRec.sub (sb _) q) hx.recs (by have := hx.log; unfold lim at this; omega) ?_
 simp only [wK, seval, yC, zA, n.1, n.2.1]
 refine zG (fun d => ⟨h, Sub.cons h2 (Sub.cons h1 (Sub.refl h)), kF k (fun e => d (by rw [e]))⟩) fun d2 => ?_
 try simp only [wK, seval, yC, zA, n.1, n.2.1]
 refine zG (fun d => ⟨h, Sub.cons h2 (Sub.cons h1 (Sub.refl h)), kF k (fun e => d (by rw [e]))⟩) fun d3 => ?_
 refine zCJ ((rx.2.1).sub (sb _) fun c a q => rLock.sub (sb _) q) ((ry.2.1).sub (sb _) fun c a q => rLock.sub (sb _) q) hx.lock (by have := hx.locks; unfold lim at this; omega) ?_
 simp only [wK, seval, yC, zA, n.1, n.2.1]
 refine zG (fun d => ⟨h, Sub.cons h2 (Sub.cons h1 (Sub.refl h)), kF k (fun e => d (by rw [e]))⟩) fun d4 => ?_
 try simp only [wK, seval, yC, zA, n.1, n.2.1]
 refine zCG ((rx.2.2).sub (sb _) fun c a q => rWork.sub (sb _) q) ((ry.2.2).sub (sb _) fun c a q => rWork.sub (sb _) q) hx.work (by have := hx.works; unfold lim at this; omega) ?_
 simp only [wK, seval, yC, zA, n.1, n.2.1]
 refine zG (fun d => ⟨h, Sub.cons h2 (Sub.cons h1 (Sub.refl h)), kF k (fun e => d (by rw [e]))⟩) fun d5 => ?_
 refine ⟨h, Sub.cons h2 (Sub.cons h1 (Sub.refl h)), kT k ?_⟩
 cases x; cases y; simp_all
theorem qWF {h : H} {a b : Value} {la lb : List DHouse} (ra : rRs h (rHouse h) 6 a la) (rb : rRs h (rHouse h) 6 b lb) (hb : ∀ x ∈ la, bHouse x) (ha : la.length <= 1099511627776) {R : Ending -> H -> Prop} (k : R (.returned (.bool (decide (la = lb)))) h) :
  HCalls Tryz.prog 27 #[a, b] h R := by
 refine qD lite (args := [a, b]) Tryz.func27 ?_
 conv => arg 2; cbv
 simp only [wK, seval, ra.len, rb.len]
 split
 ·rename_i c
  exact .of (kF k fun e => c (by rw [e]))
 ·rename_i c
  have hl : la.length = lb.length := by omega
  refine qP [5] (fun n vs h' => ∃ i : Nat, vs = [.int .i64 i] /\ h' = h /\ i <= la.length /\ n = la.length - i /\ la.take i = lb.take i) la.length rfl ⟨0, rfl, rfl, by omega, by omega, by simp⟩ ?_
  rintro n f h' ⟨i, hv, rfl, hi, rfl, ht⟩
  simp only [lm4] at hv
  simp only [wK, seval, wr, hv, ra.len, rb.len]
  split
  ·rename_i c1
   have hia : i < la.length := by omega
   have hib : i < lb.length := by omega
   obtain ⟨b1, o1, cs1, hx1, e1, v1, v2, v3, rfl, s1⟩ := zU ra hia
   obtain ⟨b2, o2, cs2, hx2, e2, w1, w2, w3, rfl, s2⟩ := zU rb hib
   refine zC h' (Sub.refl _) ?_
   simp only [wK, seval, hx1, hx2, e1, e2, Sub.refl h']
   refine zCL s1 s2 (hb _ (List.getElem_mem hia)) ?_
   simp only [wK, seval, Sub.refl h']
   refine zG (fun d => .of (kF k (kP hia hib d))) fun d => ?_
   simp (disch := omega) only [qK]
   exact ⟨la.length - (i + 1), by omega, h', .refl _, i + 1, by simp, rfl, by omega, rfl, xL hia hib ht d⟩
  ·rename_i c1
   exact .of (kT k (wD (by omega) hl ht))
theorem qOX {h : H} {x y : DTollCall} {v1 w1 : Value} (rx : sTollCall h x v1) (ry : sTollCall h y w1) (hx : bTollCall x) {R : Ending -> H -> Prop} (k : R (.returned (.bool (decide (x = y)))) h) :
  HCalls Tryz.prog 72 #[.agg (qI x v1).toArray, .agg (qI y w1).toArray] h R := by
 refine qD lite (args := [.agg (qI x v1).toArray, .agg (qI y w1).toArray]) Tryz.func72 ?_
 conv => arg 2; cbv
 simp only [wK, seval, zX]
 refine qC fun j1 h1 => ?_
 simp only [wK, seval, zX]
 refine qC fun j2 h2 => ?_
 have n := wW h2
 have sb := fun o => Sub.cons (o := o) h2 (Sub.cons h1 (Sub.refl h))
 simp only [wK, seval, zX, zA, n.1, n.2.1]
 refine qEU (x := x.call) (y := y.call) ?_
 simp only [wK, seval, zX, zA, n.1, n.2.1]
 refine zG (fun d => ⟨h, Sub.cons h2 (Sub.cons h1 (Sub.refl h)), kF k (fun e => d (by rw [e]))⟩) fun d0 => ?_
 try simp only [wK, seval, zX, zA, n.1, n.2.1]
 refine zG (fun d => ⟨h, Sub.cons h2 (Sub.cons h1 (Sub.refl h)), kF k (fun e => d (by rw [e]))⟩) fun d1 => ?_
 refine zG (fun d => ⟨h, Sub.cons h2 (Sub.cons h1 (Sub.refl h)), kF k (fun e => d (by rw [e]))⟩) fun d2 => ?_
 refine qCA (fun d => ⟨h, Sub.cons h2 (Sub.cons h1 (Sub.refl h)), kF k (fun e => d (by rw [e]))⟩) fun d3 => ?_
 refine zG (fun d => ⟨h, Sub.cons h2 (Sub.cons h1 (Sub.refl h)), kF k (fun e => d (by rw [e]))⟩) fun d4 => ?_
 refine jT (rx.sub (sb _)) (ry.sub (sb _)) (by have := hx.v; unfold lim at this; omega) ?_
 simp only [wK, seval, zX, zA, n.1, n.2.1]
 refine zG (fun d => ⟨h, Sub.cons h2 (Sub.cons h1 (Sub.refl h)), kF k (fun e => d (by rw [e]))⟩) fun d5 => ?_
 refine ⟨h, Sub.cons h2 (Sub.cons h1 (Sub.refl h)), kT k ?_⟩
 cases x; cases y; simp_all
theorem qLB {h : H} {a b : Value} {la lb : List DTollCall} (ra : rRs h (rTollCall h) 11 a la) (rb : rRs h (rTollCall h) 11 b lb) (hb : ∀ x ∈ la, bTollCall x) (ha : la.length <= 1099511627776) {R : Ending -> H -> Prop} (k : R (.returned (.bool (decide (la = lb)))) h) :
  HCalls Tryz.prog 29 #[a, b] h R := by
 refine qD lite (args := [a, b]) Tryz.func29 ?_
 conv => arg 2; cbv
 simp only [wK, seval, ra.len, rb.len]
 split
 ·rename_i c
  exact .of (kF k fun e => c (by rw [e]))
 ·rename_i c
  have hl : la.length = lb.length := by omega
  refine qP [5] (fun n vs h' => ∃ i : Nat, vs = [.int .i64 i] /\ h' = h /\ i <= la.length /\ n = la.length - i /\ la.take i = lb.take i) la.length rfl ⟨0, rfl, rfl, by omega, by omega, by simp⟩ ?_
  rintro n f h' ⟨i, hv, rfl, hi, rfl, ht⟩
  simp only [lm4] at hv
  simp only [wK, seval, wr, hv, ra.len, rb.len]
  split
  ·rename_i c1
   have hia : i < la.length := by omega
   have hib : i < lb.length := by omega
   obtain ⟨b1, o1, cs1, hx1, e1, v1, rfl, s1⟩ := zU ra hia
   obtain ⟨b2, o2, cs2, hx2, e2, w1, rfl, s2⟩ := zU rb hib
   refine zC h' (Sub.refl _) ?_
   simp only [wK, seval, hx1, hx2, e1, e2, Sub.refl h']
   refine qOX s1 s2 (hb _ (List.getElem_mem hia)) ?_
   simp only [wK, seval, Sub.refl h']
   refine zG (fun d => .of (kF k (kP hia hib d))) fun d => ?_
   simp (disch := omega) only [qK]
   exact ⟨la.length - (i + 1), by omega, h', .refl _, i + 1, by simp, rfl, by omega, rfl, xL hia hib ht d⟩
  ·rename_i c1
   exact .of (kT k (wD (by omega) hl ht))
end Go.Proofs.YtjioiemhgbkbfaaGreatDoor
end

section
attribute [local irreducible] Go.Tk.vc Go.Tk.vops Go.Tk.vdr Go.Tk.vop Go.Tk.vfl Go.Tk.HCalls
namespace Go.Proofs.YtjioiemhgbkbfaaGreatDoor
open Go Go.Tk
def qDU (d : DRec) : Nat := d.slots.length + d.pairs.length
def nRec (h : H) (cs : List Value) (d : DRec) : Prop := ∃ v1 v2, cs = cRec d v1 v2 /\ rIn h eI 1 v1 d.slots /\ rIn h eP 2 v2 d.pairs
theorem nRec.sub {g h : H} (s : Tk.Sub g h) {cs : List Value} {d : DRec} (r : nRec g cs d) : nRec h cs d := by
 obtain ⟨v1, v2, e, r1, r2⟩ := r
 exact ⟨v1, v2, e, rIn.sub s r1, rIn.sub s r2⟩
def uRec (d : DRec) : Prop := d.slots.length <= 9223372036854775807 /\ d.pairs.length <= 9223372036854775807
def qDV (d : DLock) : Nat := d.held.length + d.waits.length
def nLock (h : H) (cs : List Value) (d : DLock) : Prop := ∃ v1 v2, cs = zP d v1 v2 /\ rIn h zE 4 v1 d.held /\ rIn h zE 4 v2 d.waits
theorem nLock.sub {g h : H} (s : Tk.Sub g h) {cs : List Value} {d : DLock} (r : nLock g cs d) : nLock h cs d := by
 obtain ⟨v1, v2, e, r1, r2⟩ := r
 exact ⟨v1, v2, e, rIn.sub s r1, rIn.sub s r2⟩
def qPY (d : DLock) : Prop := d.held.length <= 9223372036854775807 /\ d.waits.length <= 9223372036854775807
def qDQ (d : DWork) : Nat := d.slots.length
def nWork (h : H) (cs : List Value) (d : DWork) : Prop := ∃ v1, cs = zT d v1 /\ rIn h eI 1 v1 d.slots
theorem nWork.sub {g h : H} (s : Tk.Sub g h) {cs : List Value} {d : DWork} (r : nWork g cs d) : nWork h cs d := by
 obtain ⟨v1, e, r1⟩ := r
 exact ⟨v1, e, rIn.sub s r1⟩
def qPW (d : DWork) : Prop := d.slots.length <= 9223372036854775807
def qDW (d : DHouse) : Nat := (d.log.length + sumL qDU d.log) + (d.locks.length + sumL qDV d.locks) + (d.works.length + sumL qDQ d.works)
def nHouse (h : H) (cs : List Value) (d : DHouse) : Prop := ∃ v1 v2 v3, cs = qT d v1 v2 v3 /\ rIRs h (nRec h) 6 v1 d.log /\ rIRs h (nLock h) 3 v2 d.locks /\ rIRs h (nWork h) 4 v3 d.works
theorem nHouse.sub {g h : H} (s : Tk.Sub g h) {cs : List Value} {d : DHouse} (r : nHouse g cs d) : nHouse h cs d := by
 obtain ⟨v1, v2, v3, e, r1, r2, r3⟩ := r
 exact ⟨v1, v2, v3, e, rIRs.sub s (fun _ _ q => nRec.sub s q) r1, rIRs.sub s (fun _ _ q => nLock.sub s q) r2, rIRs.sub s (fun _ _ q => nWork.sub s q) r3⟩
def qHZ (d : DHouse) : Prop := (d.log.length <= 9223372036854775807 /\ ∀ t ∈ d.log, uRec t) /\ (d.locks.length <= 9223372036854775807 /\ ∀ t ∈ d.locks, qPY t) /\ (d.works.length <= 9223372036854775807 /\ ∀ t ∈ d.works, qPW t)
def qDR (d : DWord) : Nat := d.slots.length + d.pairs.length + d.vals.length + d.call.text.length
def nWord (h : H) (cs : List Value) (d : DWord) : Prop := ∃ v1 v2 v3, cs = zL d v1 v2 v3 /\ rIn h eI 1 v1 d.slots /\ rIn h eP 2 v2 d.pairs /\ rIn h eI 1 v3 d.vals
theorem nWord.sub {g h : H} (s : Tk.Sub g h) {cs : List Value} {d : DWord} (r : nWord g cs d) : nWord h cs d := by
 obtain ⟨v1, v2, v3, e, r1, r2, r3⟩ := r
 exact ⟨v1, v2, v3, e, rIn.sub s r1, rIn.sub s r2, rIn.sub s r3⟩
def qPX (d : DWord) : Prop := d.slots.length <= 9223372036854775807 /\ d.pairs.length <= 9223372036854775807 /\ d.vals.length <= 9223372036854775807 /\ d.call.text.length <= 9223372036854775807
def qDS (d : DTollCall) : Nat := d.call.text.length + d.vals.length
def nTollCall (h : H) (cs : List Value) (d : DTollCall) : Prop := ∃ v1, cs = qI d v1 /\ rIn h eI 1 v1 d.vals
theorem nTollCall.sub {g h : H} (s : Tk.Sub g h) {cs : List Value} {d : DTollCall} (r : nTollCall g cs d) : nTollCall h cs d := by
 obtain ⟨v1, e, r1⟩ := r
 exact ⟨v1, e, rIn.sub s r1⟩
def kO (d : DTollCall) : Prop := d.call.text.length <= 9223372036854775807 /\ d.vals.length <= 9223372036854775807
theorem szRec_c {h : H} {d : DRec} {v1 v2 : Value} {left : Int} (r1 : rIn h eI 1 v1 d.slots) (r2 : rIn h eP 2 v2 d.pairs) (hl : 0 <= left /\ left <= 1048576) (hu : uRec d) {R : Ending -> H -> Prop} (k : ∀ x, (0 <= x -> x = left - qDU d) -> x <= 1048576 -> R (.returned (.int .i64 x)) h) :
  HCalls Tryz.prog 130 #[.agg (cRec d v1 v2).toArray, .int .i64 left] h R := by
 refine qD lite (args := [.agg (cRec d v1 v2).toArray, .int .i64 left]) Tryz.func130 ?_
 conv => arg 2; cbv
 rw [qR]
 unfold uRec at hu
 unfold qDU at k
 simp only [wK, seval, wRec]
 refine qC fun j hj => ?_
 have sb := fun o => Sub.cons (o := o) hj (Sub.refl h)
 simp (disch := omega) only [wK, seval, wRec, zA]
 refine jM (r1.sub (sb _)) ⟨by omega, by omega⟩ (by have := hu.1; omega) fun x0 a0 b0 => ?_
 simp (disch := omega) only [wK, seval, wRec, zA]
 refine qF (fun c => ⟨h, sb _, k _ (fun q => absurd q (by omega)) (by omega)⟩) fun c0 => ?_
 have a0' := a0 (by omega)
 try simp (disch := omega) only [wK, seval, wRec, zA]
 refine qBV (r2.sub (sb _)) ⟨by omega, by omega⟩ (by have := hu.2; omega) fun x1 a1 b1 => ?_
 simp (disch := omega) only [wK, seval, wRec, zA]
 refine qF (fun c => ⟨h, sb _, k _ (fun q => absurd q (by omega)) (by omega)⟩) fun c1 => ?_
 have a1' := a1 (by omega)
 try simp (disch := omega) only [wK, seval, wRec, zA]
 exact ⟨h, sb _, k _ (fun _ => by omega) (by omega)⟩
theorem zFM {h : H} {v : Value} {l : List DRec} {left : Int} (r : rIRs h (nRec h) 6 v l) (hl : 0 <= left /\ left <= 1048576) (hb : l.length <= 9223372036854775807) (hu : ∀ d ∈ l, uRec d) {R : Ending -> H -> Prop} (k : ∀ x, (0 <= x -> x = left - (l.length + sumL qDU l : Nat)) -> x <= 1048576 -> R (.returned (.int .i64 x)) h) :
  HCalls Tryz.prog 80 #[v, .int .i64 left] h R := by
 refine qD lite (args := [v, .int .i64 left]) Tryz.func80 ?_
 conv => arg 2; cbv
 rw [qR]
 simp (disch := omega) only [wK, seval, r.len, qK]
 refine qF (fun c => .of (k _ (fun q => absurd q (by omega)) (by omega))) fun c => ?_
 refine qP [5, 1] (fun n vs h' => ∃ (i : Nat) (x : Int), vs = [.int .i64 i, .int .i64 x] /\ h' = h /\ i <= l.length /\ n = l.length - i /\ 0 <= x /\ x = left - l.length - sumL qDU (l.take i)) l.length rfl ⟨0, _, rfl, rfl, by omega, rfl, by omega, by simp [sumL]⟩ ?_
 rintro n f h' ⟨i, x, hv, rfl, hi, rfl, hx0, hx1⟩
 simp only [lm4] at hv
 simp only [wK, seval, wr, hv.1, hv.2, r.len]
 refine qF (fun c1 => ?_) fun c1 => ?_
 ·have hi2 : i < l.length := by omega
  have hsum := vE qDU hi2
  obtain ⟨b1, o1, cs1, hx2, e1, v1, v2, rfl, q1, q2⟩ := r.at hi2
  simp only [wK, seval, hx2, e1]
  refine szRec_c q1 q2 ⟨hx0, by omega⟩ (hu _ (List.getElem_mem hi2)) fun y hy1 hy2 => ?_
  simp only [wK, seval]
  refine qF (fun c => .of (k _ (fun q => absurd q (by omega)) (by omega))) fun c3 => ?_
  have := hy1 (by omega)
  simp (disch := omega) only [wK, seval, qK]
  exact ⟨l.length - (i + 1), by omega, h', .refl _, i + 1, y, by simp, rfl, by omega, rfl, by omega, by omega⟩
 ·have hi' : i = l.length := by omega
  subst hi'
  rw [List.take_length] at *
  exact .of (k _ (fun _ => by omega) (by omega))
theorem zFN {h : H} {d : DLock} {v1 v2 : Value} {left : Int} (r1 : rIn h zE 4 v1 d.held) (r2 : rIn h zE 4 v2 d.waits) (hl : 0 <= left /\ left <= 1048576) (hu : qPY d) {R : Ending -> H -> Prop} (k : ∀ x, (0 <= x -> x = left - qDV d) -> x <= 1048576 -> R (.returned (.int .i64 x)) h) :
  HCalls Tryz.prog 131 #[.agg (zP d v1 v2).toArray, .int .i64 left] h R := by
 refine qD lite (args := [.agg (zP d v1 v2).toArray, .int .i64 left]) Tryz.func131 ?_
 conv => arg 2; cbv
 rw [qR]
 unfold qPY at hu
 unfold qDV at k
 simp only [wK, seval, xN]
 refine qC fun j hj => ?_
 have sb := fun o => Sub.cons (o := o) hj (Sub.refl h)
 simp (disch := omega) only [wK, seval, xN, zA]
 refine qLP (r1.sub (sb _)) ⟨by omega, by omega⟩ (by have := hu.1; omega) fun x0 a0 b0 => ?_
 simp (disch := omega) only [wK, seval, xN, zA]
 refine qF (fun c => ⟨h, sb _, k _ (fun q => absurd q (by omega)) (by omega)⟩) fun c0 => ?_
 have a0' := a0 (by omega)
 try simp (disch := omega) only [wK, seval, xN, zA]
 refine qLP (r2.sub (sb _)) ⟨by omega, by omega⟩ (by have := hu.2; omega) fun x1 a1 b1 => ?_
 simp (disch := omega) only [wK, seval, xN, zA]
 refine qF (fun c => ⟨h, sb _, k _ (fun q => absurd q (by omega)) (by omega)⟩) fun c1 => ?_
 have a1' := a1 (by omega)
 try simp (disch := omega) only [wK, seval, xN, zA]
 exact ⟨h, sb _, k _ (fun _ => by omega) (by omega)⟩
theorem zAL {h : H} {v : Value} {l : List DLock} {left : Int} (r : rIRs h (nLock h) 3 v l) (hl : 0 <= left /\ left <= 1048576) (hb : l.length <= 9223372036854775807) (hu : ∀ d ∈ l, qPY d) {R : Ending -> H -> Prop} (k : ∀ x, (0 <= x -> x = left - (l.length + sumL qDV l : Nat)) -> x <= 1048576 -> R (.returned (.int .i64 x)) h) :
  HCalls Tryz.prog 81 #[v, .int .i64 left] h R := by
 refine qD lite (args := [v, .int .i64 left]) Tryz.func81 ?_
 conv => arg 2; cbv
 rw [qR]
 simp (disch := omega) only [wK, seval, r.len, qK]
 refine qF (fun c => .of (k _ (fun q => absurd q (by omega)) (by omega))) fun c => ?_
 refine qP [5, 1] (fun n vs h' => ∃ (i : Nat) (x : Int), vs = [.int .i64 i, .int .i64 x] /\ h' = h /\ i <= l.length /\ n = l.length - i /\ 0 <= x /\ x = left - l.length - sumL qDV (l.take i)) l.length rfl ⟨0, _, rfl, rfl, by omega, rfl, by omega, by simp [sumL]⟩ ?_
 rintro n f h' ⟨i, x, hv, rfl, hi, rfl, hx0, hx1⟩
 simp only [lm4] at hv
 simp only [wK, seval, wr, hv.1, hv.2, r.len]
 refine qF (fun c1 => ?_) fun c1 => ?_
 ·have hi2 : i < l.length := by omega
  have hsum := vE qDV hi2
  obtain ⟨b1, o1, cs1, hx2, e1, v1, v2, rfl, q1, q2⟩ := r.at hi2
  simp only [wK, seval, hx2, e1]
  refine zFN q1 q2 ⟨hx0, by omega⟩ (hu _ (List.getElem_mem hi2)) fun y hy1 hy2 => ?_
  simp only [wK, seval]
  refine qF (fun c => .of (k _ (fun q => absurd q (by omega)) (by omega))) fun c3 => ?_
  have := hy1 (by omega)
  simp (disch := omega) only [wK, seval, qK]
  exact ⟨l.length - (i + 1), by omega, h', .refl _, i + 1, y, by simp, rfl, by omega, rfl, by omega, by omega⟩
 ·have hi' : i = l.length := by omega
  subst hi'
  rw [List.take_length] at *
  exact .of (k _ (fun _ => by omega) (by omega))
theorem zFI {h : H} {d : DWork} {v1 : Value} {left : Int} (r1 : rIn h eI 1 v1 d.slots) (hl : 0 <= left /\ left <= 1048576) (hu : qPW d) {R : Ending -> H -> Prop} (k : ∀ x, (0 <= x -> x = left - qDQ d) -> x <= 1048576 -> R (.returned (.int .i64 x)) h) :
  HCalls Tryz.prog 132 #[.agg (zT d v1).toArray, .int .i64 left] h R := by
 refine qD lite (args := [.agg (zT d v1).toArray, .int .i64 left]) Tryz.func132 ?_
 conv => arg 2; cbv
 rw [qR]
 unfold qPW at hu
 unfold qDQ at k
 simp only [wK, seval, vV]
 refine qC fun j hj => ?_
 have sb := fun o => Sub.cons (o := o) hj (Sub.refl h)
 simp (disch := omega) only [wK, seval, vV, zA]
 refine jM (r1.sub (sb _)) ⟨by omega, by omega⟩ (by have := hu; omega) fun x0 a0 b0 => ?_
 simp (disch := omega) only [wK, seval, vV, zA]
 refine qF (fun c => ⟨h, sb _, k _ (fun q => absurd q (by omega)) (by omega)⟩) fun c0 => ?_
 have a0' := a0 (by omega)
 try simp (disch := omega) only [wK, seval, vV, zA]
 exact ⟨h, sb _, k _ (fun _ => by omega) (by omega)⟩
theorem zAI {h : H} {v : Value} {l : List DWork} {left : Int} (r : rIRs h (nWork h) 4 v l) (hl : 0 <= left /\ left <= 1048576) (hb : l.length <= 9223372036854775807) (hu : ∀ d ∈ l, qPW d) {R : Ending -> H -> Prop} (k : ∀ x, (0 <= x -> x = left - (l.length + sumL qDQ l : Nat)) -> x <= 1048576 -> R (.returned (.int .i64 x)) h) :
  HCalls Tryz.prog 82 #[v, .int .i64 left] h R := by
 refine qD lite (args := [v, .int .i64 left]) Tryz.func82 ?_
 conv => arg 2; cbv
 rw [qR]
 simp (disch := omega) only [wK, seval, r.len, qK]
 refine qF (fun c => .of (k _ (fun q => absurd q (by omega)) (by omega))) fun c => ?_
 refine qP [5, 1] (fun n vs h' => ∃ (i : Nat) (x : Int), vs = [.int .i64 i, .int .i64 x] /\ h' = h /\ i <= l.length /\ n = l.length - i /\ 0 <= x /\ x = left - l.length - sumL qDQ (l.take i)) l.length rfl ⟨0, _, rfl, rfl, by omega, rfl, by omega, by simp [sumL]⟩ ?_
 rintro n f h' ⟨i, x, hv, rfl, hi, rfl, hx0, hx1⟩
 simp only [lm4] at hv
 simp only [wK, seval, wr, hv.1, hv.2, r.len]
 refine qF (fun c1 => ?_) fun c1 => ?_
 ·have hi2 : i < l.length := by omega
  have hsum := vE qDQ hi2
  obtain ⟨b1, o1, cs1, hx2, e1, v1, rfl, q1⟩ := r.at hi2
  simp only [wK, seval, hx2, e1]
  refine zFI q1 ⟨hx0, by omega⟩ (hu _ (List.getElem_mem hi2)) fun y hy1 hy2 => ?_
  simp only [wK, seval]
  refine qF (fun c => .of (k _ (fun q => absurd q (by omega)) (by omega))) fun c3 => ?_
  have := hy1 (by omega)
  simp (disch := omega) only [wK, seval, qK]
  exact ⟨l.length - (i + 1), by omega, h', .refl _, i + 1, y, by simp, rfl, by omega, rfl, by omega, by omega⟩
 ·have hi' : i = l.length := by omega
  subst hi'
  rw [List.take_length] at *
  exact .of (k _ (fun _ => by omega) (by omega))
theorem zAN {h : H} {d : DHouse} {v1 v2 v3 : Value} {left : Int} (r1 : rIRs h (nRec h) 6 v1 d.log) (r2 : rIRs h (nLock h) 3 v2 d.locks) (r3 : rIRs h (nWork h) 4 v3 d.works) (hl : 0 <= left /\ left <= 1048576) (hu : qHZ d) {R : Ending -> H -> Prop} (k : ∀ x, (0 <= x -> x = left - qDW d) -> x <= 1048576 -> R (.returned (.int .i64 x)) h) :
  HCalls Tryz.prog 36 #[.agg (qT d v1 v2 v3).toArray, .int .i64 left] h R := by
 refine qD lite (args := [.agg (qT d v1 v2 v3).toArray, .int .i64 left]) Tryz.func36 ?_
 conv => arg 2; cbv
 rw [qR]
 unfold qHZ at hu
 unfold qDW at k
 simp only [wK, seval, yC]
 refine qC fun j hj => ?_
 have sb := fun o => Sub.cons (o := o) hj (Sub.refl h)
 simp (disch := omega) only [wK, seval, yC, zA]
 refine zFM (r1.sub (sb _) fun _ _ q => nRec.sub (sb _) q) ⟨by omega, by omega⟩ (hu.1).1 (hu.1).2 fun x0 a0 b0 => ?_
 simp (disch := omega) only [wK, seval, yC, zA]
 refine qF (fun c => ⟨h, sb _, k _ (fun q => absurd q (by omega)) (by omega)⟩) fun c0 => ?_
 have a0' := a0 (by omega)
 try simp (disch := omega) only [wK, seval, yC, zA]
 refine zAL (r2.sub (sb _) fun _ _ q => nLock.sub (sb _) q) ⟨by omega, by omega⟩ (hu.2.1).1 (hu.2.1).2 fun x1 a1 b1 => ?_
 simp (disch := omega) only [wK, seval, yC, zA]
 refine qF (fun c => ⟨h, sb _, k _ (fun q => absurd q (by omega)) (by omega)⟩) fun c1 => ?_
 have a1' := a1 (by omega)
 try simp (disch := omega) only [wK, seval, yC, zA]
 refine zAI (r3.sub (sb _) fun _ _ q => nWork.sub (sb _) q) ⟨by omega, by omega⟩ (hu.2.2).1 (hu.2.2).2 fun x2 a2 b2 => ?_
 simp (disch := omega) only [wK, seval, yC, zA]
 refine qF (fun c => ⟨h, sb _, k _ (fun q => absurd q (by omega)) (by omega)⟩) fun c2 => ?_
 have a2' := a2 (by omega)
 try simp (disch := omega) only [wK, seval, yC, zA]
 exact ⟨h, sb _, k _ (fun _ => by omega) (by omega)⟩
theorem qUH {h : H} {v : Value} {l : List DHouse} {left : Int} (r : rIRs h (nHouse h) 6 v l) (hl : 0 <= left /\ left <= 1048576) (hb : l.length <= 9223372036854775807) (hu : ∀ d ∈ l, qHZ d) {R : Ending -> H -> Prop} (k : ∀ x, (0 <= x -> x = left - (l.length + sumL qDW l : Nat)) -> x <= 1048576 -> R (.returned (.int .i64 x)) h) :
  HCalls Tryz.prog 13 #[v, .int .i64 left] h R := by
 refine qD lite (args := [v, .int .i64 left]) Tryz.func13 ?_
 conv => arg 2; cbv
 rw [qR]
 simp (disch := omega) only [wK, seval, r.len, qK]
 refine qF (fun c => .of (k _ (fun q => absurd q (by omega)) (by omega))) fun c => ?_
 refine qP [5, 1] (fun n vs h' => ∃ (i : Nat) (x : Int), vs = [.int .i64 i, .int .i64 x] /\ h' = h /\ i <= l.length /\ n = l.length - i /\ 0 <= x /\ x = left - l.length - sumL qDW (l.take i)) l.length rfl ⟨0, _, rfl, rfl, by omega, rfl, by omega, by simp [sumL]⟩ ?_
 rintro n f h' ⟨i, x, hv, rfl, hi, rfl, hx0, hx1⟩
 simp only [lm4] at hv
 simp only [wK, seval, wr, hv.1, hv.2, r.len]
 refine qF (fun c1 => ?_) fun c1 => ?_
 ·have hi2 : i < l.length := by omega
  have hsum := vE qDW hi2
  obtain ⟨b1, o1, cs1, hx2, e1, v1, v2, v3, rfl, q1, q2, q3⟩ := r.at hi2
  simp only [wK, seval, hx2, e1]
  refine zAN q1 q2 q3 ⟨hx0, by omega⟩ (hu _ (List.getElem_mem hi2)) fun y hy1 hy2 => ?_
  simp only [wK, seval]
  refine qF (fun c => .of (k _ (fun q => absurd q (by omega)) (by omega))) fun c3 => ?_
  have := hy1 (by omega)
  simp (disch := omega) only [wK, seval, qK]
  exact ⟨l.length - (i + 1), by omega, h', .refl _, i + 1, y, by simp, rfl, by omega, rfl, by omega, by omega⟩
 ·have hi' : i = l.length := by omega
  subst hi'
  rw [List.take_length] at *
  exact .of (k _ (fun _ => by omega) (by omega))
theorem zFJ {h : H} {d : DWord} {v1 v2 v3 : Value} {left : Int} (r1 : rIn h eI 1 v1 d.slots) (r2 : rIn h eP 2 v2 d.pairs) (r3 : rIn h eI 1 v3 d.vals) (hl : 0 <= left /\ left <= 1048576) (hu : qPX d) {R : Ending -> H -> Prop} (k : ∀ x, (0 <= x -> x = left - qDR d) -> x <= 1048576 -> R (.returned (.int .i64 x)) h) :
  HCalls Tryz.prog 37 #[.agg (zL d v1 v2 v3).toArray, .int .i64 left] h R := by
 refine qD lite (args := [.agg (zL d v1 v2 v3).toArray, .int .i64 left]) Tryz.func37 ?_
 conv => arg 2; cbv
 rw [qR]
 unfold qPX at hu
 unfold qDR at k
 simp only [wK, seval, zZ]
 refine qC fun j hj => ?_
 have sb := fun o => Sub.cons (o := o) hj (Sub.refl h)
 simp (disch := omega) only [wK, seval, zZ, zA]
 refine jM (r1.sub (sb _)) ⟨by omega, by omega⟩ (by have := hu.1; omega) fun x0 a0 b0 => ?_
 simp (disch := omega) only [wK, seval, zZ, zA]
 refine qF (fun c => ⟨h, sb _, k _ (fun q => absurd q (by omega)) (by omega)⟩) fun c0 => ?_
 have a0' := a0 (by omega)
 try simp (disch := omega) only [wK, seval, zZ, zA]
 refine qBV (r2.sub (sb _)) ⟨by omega, by omega⟩ (by have := hu.2.1; omega) fun x1 a1 b1 => ?_
 simp (disch := omega) only [wK, seval, zZ, zA]
 refine qF (fun c => ⟨h, sb _, k _ (fun q => absurd q (by omega)) (by omega)⟩) fun c1 => ?_
 have a1' := a1 (by omega)
 try simp (disch := omega) only [wK, seval, zZ, zA]
 refine jM (r3.sub (sb _)) ⟨by omega, by omega⟩ (by have := hu.2.2.1; omega) fun x2 a2 b2 => ?_
 simp (disch := omega) only [wK, seval, zZ, zA]
 refine qF (fun c => ⟨h, sb _, k _ (fun q => absurd q (by omega)) (by omega)⟩) fun c2 => ?_
 have a2' := a2 (by omega)
 try simp (disch := omega) only [wK, seval, zZ, zA]
 refine qBW ⟨by omega, by omega⟩ (by have := hu.2.2.2; omega) fun x3 a3 b3 => ?_
 simp (disch := omega) only [wK, seval, zZ, zA]
 refine qF (fun c => ⟨h, sb _, k _ (fun q => absurd q (by omega)) (by omega)⟩) fun c3 => ?_
 have a3' := a3 (by omega)
 try simp (disch := omega) only [wK, seval, zZ, zA]
 exact ⟨h, sb _, k _ (fun _ => by omega) (by omega)⟩
theorem zAJ {h : H} {v : Value} {l : List DWord} {left : Int} (r : rIRs h (nWord h) 17 v l) (hl : 0 <= left /\ left <= 1048576) (hb : l.length <= 9223372036854775807) (hu : ∀ d ∈ l, qPX d) {R : Ending -> H -> Prop} (k : ∀ x, (0 <= x -> x = left - (l.length + sumL qDR l : Nat)) -> x <= 1048576 -> R (.returned (.int .i64 x)) h) :
  HCalls Tryz.prog 14 #[v, .int .i64 left] h R := by
 refine qD lite (args := [v, .int .i64 left]) Tryz.func14 ?_
 conv => arg 2; cbv
 rw [qR]
 simp (disch := omega) only [wK, seval, r.len, qK]
 refine qF (fun c => .of (k _ (fun q => absurd q (by omega)) (by omega))) fun c => ?_
 refine qP [5, 1] (fun n vs h' => ∃ (i : Nat) (x : Int), vs = [.int .i64 i, .int .i64 x] /\ h' = h /\ i <= l.length /\ n = l.length - i /\ 0 <= x /\ x = left - l.length - sumL qDR (l.take i)) l.length rfl ⟨0, _, rfl, rfl, by omega, rfl, by omega, by simp [sumL]⟩ ?_
 rintro n f h' ⟨i, x, hv, rfl, hi, rfl, hx0, hx1⟩
 simp only [lm4] at hv
 simp only [wK, seval, wr, hv.1, hv.2, r.len]
 refine qF (fun c1 => ?_) fun c1 => ?_
 ·have hi2 : i < l.length := by omega
  have hsum := vE qDR hi2
  obtain ⟨b1, o1, cs1, hx2, e1, v1, v2, v3, rfl, q1, q2, q3⟩ := r.at hi2
  simp only [wK, seval, hx2, e1]
  refine zFJ q1 q2 q3 ⟨hx0, by omega⟩ (hu _ (List.getElem_mem hi2)) fun y hy1 hy2 => ?_
  simp only [wK, seval]
  refine qF (fun c => .of (k _ (fun q => absurd q (by omega)) (by omega))) fun c3 => ?_
  have := hy1 (by omega)
  simp (disch := omega) only [wK, seval, qK]
  exact ⟨l.length - (i + 1), by omega, h', .refl _, i + 1, y, by simp, rfl, by omega, rfl, by omega, by omega⟩
 ·have hi' : i = l.length := by omega
  subst hi'
  rw [List.take_length] at *
  exact .of (k _ (fun _ => by omega) (by omega))
theorem qNT {h : H} {d : DTollCall} {v1 : Value} {left : Int} (r1 : rIn h eI 1 v1 d.vals) (hl : 0 <= left /\ left <= 1048576) (hu : kO d) {R : Ending -> H -> Prop} (k : ∀ x, (0 <= x -> x = left - qDS d) -> x <= 1048576 -> R (.returned (.int .i64 x)) h) :
  HCalls Tryz.prog 38 #[.agg (qI d v1).toArray, .int .i64 left] h R := by
 refine qD lite (args := [.agg (qI d v1).toArray, .int .i64 left]) Tryz.func38 ?_
 conv => arg 2; cbv
 rw [qR]
 unfold kO at hu
 unfold qDS at k
 simp only [wK, seval, zX]
 refine qC fun j hj => ?_
 have sb := fun o => Sub.cons (o := o) hj (Sub.refl h)
 simp (disch := omega) only [wK, seval, zX, zA]
 refine qBW ⟨by omega, by omega⟩ (by have := hu.1; omega) fun x0 a0 b0 => ?_
 simp (disch := omega) only [wK, seval, zX, zA]
 refine qF (fun c => ⟨h, sb _, k _ (fun q => absurd q (by omega)) (by omega)⟩) fun c0 => ?_
 have a0' := a0 (by omega)
 try simp (disch := omega) only [wK, seval, zX, zA]
 refine jM (r1.sub (sb _)) ⟨by omega, by omega⟩ (by have := hu.2; omega) fun x1 a1 b1 => ?_
 simp (disch := omega) only [wK, seval, zX, zA]
 refine qF (fun c => ⟨h, sb _, k _ (fun q => absurd q (by omega)) (by omega)⟩) fun c1 => ?_
 have a1' := a1 (by omega)
 try simp (disch := omega) only [wK, seval, zX, zA]
 exact ⟨h, sb _, k _ (fun _ => by omega) (by omega)⟩
theorem qKN {h : H} {v : Value} {l : List DTollCall} {left : Int} (r : rIRs h (nTollCall h) 11 v l) (hl : 0 <= left /\ left <= 1048576) (hb : l.length <= 9223372036854775807) (hu : ∀ d ∈ l, kO d) {R : Ending -> H -> Prop} (k : ∀ x, (0 <= x -> x = left - (l.length + sumL qDS l : Nat)) -> x <= 1048576 -> R (.returned (.int .i64 x)) h) :
  HCalls Tryz.prog 15 #[v, .int .i64 left] h R := by
 refine qD lite (args := [v, .int .i64 left]) Tryz.func15 ?_
 conv => arg 2; cbv
 rw [qR]
 simp (disch := omega) only [wK, seval, r.len, qK]
 refine qF (fun c => .of (k _ (fun q => absurd q (by omega)) (by omega))) fun c => ?_
 refine qP [5, 1] (fun n vs h' => ∃ (i : Nat) (x : Int), vs = [.int .i64 i, .int .i64 x] /\ h' = h /\ i <= l.length /\ n = l.length - i /\ 0 <= x /\ x = left - l.length - sumL qDS (l.take i)) l.length rfl ⟨0, _, rfl, rfl, by omega, rfl, by omega, by simp [sumL]⟩ ?_
 rintro n f h' ⟨i, x, hv, rfl, hi, rfl, hx0, hx1⟩
 simp only [lm4] at hv
 simp only [wK, seval, wr, hv.1, hv.2, r.len]
 refine qF (fun c1 => ?_) fun c1 => ?_
 ·have hi2 : i < l.length := by omega
  have hsum := vE qDS hi2
  obtain ⟨b1, o1, cs1, hx2, e1, v1, rfl, q1⟩ := r.at hi2
  simp only [wK, seval, hx2, e1]
  refine qNT q1 ⟨hx0, by omega⟩ (hu _ (List.getElem_mem hi2)) fun y hy1 hy2 => ?_
  simp only [wK, seval]
  refine qF (fun c => .of (k _ (fun q => absurd q (by omega)) (by omega))) fun c3 => ?_
  have := hy1 (by omega)
  simp (disch := omega) only [wK, seval, qK]
  exact ⟨l.length - (i + 1), by omega, h', .refl _, i + 1, y, by simp, rfl, by omega, rfl, by omega, by omega⟩
 ·have hi' : i = l.length := by omega
  subst hi'
  rw [List.take_length] at *
  exact .of (k _ (fun _ => by omega) (by omega))
end Go.Proofs.YtjioiemhgbkbfaaGreatDoor
end
