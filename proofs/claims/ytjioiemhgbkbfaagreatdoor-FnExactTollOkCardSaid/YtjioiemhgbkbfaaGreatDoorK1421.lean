/- Parts of the proof. -/
import Derived.JoinedOf
import Derived.Test.YtjioiemhgbkbfaaGreatDoorK145
import Derived.Test.YtjioiemhgbkbfaaGreatDoorK1420
import Derived.Test.YtjioiemhgbkbfaaGreatDoorK1410
import Derived.Test.YtjioiemhgbkbfaaGreatDoorK1411
import Derived.Test.YtjioiemhgbkbfaaGreatDoorK1418
import Derived.Test.YtjioiemhgbkbfaaGreatDoorK1413
import Derived.Test.YtjioiemhgbkbfaaGreatDoorK1414
import Derived.Test.YtjioiemhgbkbfaaGreatDoorK1416
import Derived.Test.YtjioiemhgbkbfaaGreatDoorK1415
set_option maxHeartbeats 4000000
set_option maxRecDepth 100000
set_option linter.unusedVariables false
set_option linter.unusedSimpArgs false
set_option linter.defProp false
section
attribute [local irreducible] Go.Tk.vc Go.Tk.vops Go.Tk.vdr Go.Tk.vop Go.Tk.vfl Go.Tk.HCalls
namespace Go.Proofs.YtjioiemhgbkbfaaGreatDoor
open Go Go.Tk
theorem qOI {h : H} {d : DHouse} {lg lk wk : Value} (r : sHouse h d lg lk wk) (hb : bHouse d) {R : Ending -> H -> Prop}
  (k : ∀ M' jk ok, Tk.Sub h M' -> (ok = true ↔ wT d) -> (ok = true -> ∃ H0 ks, Tk.Sub h H0 /\ KW H0 M' jk d.id d.log ks) -> R (.returned (.tuple #[.pointer (some ⟨jk, 0, none⟩), .bool ok])) M') :
  HCalls Tryz.prog 74 #[.agg (zB d lg lk wk).toArray] h R := by
 refine qD lite (args := [.agg (zB d lg lk wk).toArray]) Tryz.func74 ?_
 conv => arg 2; cbv
 rw [qR]
 have bl := hb.log
 have bw := hb.works
 have bk := hb.locks
 unfold lim at bl bw bk
 have zr := vV
 simp only [wK, seval, yG]
 refine qC (o := blk (zB d lg lk wk) 59) fun j1 h1 => ?_
 obtain ⟨H0, hH0⟩ : ∃ M, M = (j1, blk (zB d lg lk wk) 59) :: h := ⟨_, rfl⟩
 have s0 : Tk.Sub h H0 := by rw [hH0]; exact Sub.cons h1 (Sub.refl _)
 have g0 : hget H0 j1 = some (blk (zB d lg lk wk) 59) := by rw [hH0]; exact qJ _ _ _
 have d0 : hcel H0 j1 0 = some (.int .i64 d.id) := qE g0 rfl
 have d2 : hcel H0 j1 2 = some lg := qE g0 rfl
 have r0 := r.sub s0
 rw [<- hH0]
 try simp only [wK, seval, d0, d2]
 refine qRE r0.1 hb.recs bl fun M jk q1 sM k1 kw => ?_
 have sh : Tk.Sub h M := s0.trans sM
 have gM := sM _ _ g0
 have c0 : hcel M j1 0 = some (.int .i64 d.id) := qE gM rfl
 have c1 : hcel M j1 1 = some (.bool d.up) := qE gM rfl
 have c2 : hcel M j1 2 = some lg := qE gM rfl
 have c3 : hcel M j1 3 = some (.int .i64 d.forced) := qE gM rfl
 have c4 : hcel M j1 4 = some lk := qE gM rfl
 have c5 : hcel M j1 5 = some wk := qE gM rfl
 have rM := r.sub sh
 have no : ∀ M', Tk.Sub M M' -> ¬ wT d -> dP R (.returned (.tuple #[.pointer (some ⟨jk, 0, none⟩), .bool false])) M' := fun M' s n => .of (k M' jk false (sh.trans s) ⟨fun c => (by cases c), fun c => absurd c n⟩ fun c => (by cases c))
 cases q1 with
 | false =>
  simp only [wK, seval, Bool.not_false]
  exact no M (Sub.refl _) fun x => zA k1 rfl x.2.1
 | true =>
 have hlog := k1.1 rfl
 obtain ⟨ks, w⟩ := kw rfl
 simp only [wK, seval, Bool.not_true, c0]
 refine jE fun q2 k2 => ?_
 cases q2 with
 | false => simp only [wK, seval]; exact no M (Sub.refl _) fun x => zA k2 rfl x.1
 | true =>
 simp only [wK, seval, c3, c2, rM.1.len]
 refine yN fun q3 k3 => ?_
 cases q3 with
 | false => simp only [wK, seval]; exact no M (Sub.refl _) fun x => zA k3 rfl x.2.2.1
 | true =>
 simp only [wK, seval, c5]
 refine qYO rM.2.2 hb.work bw fun q4 k4 => ?_
 cases q4 with
 | false => simp only [wK, seval]; exact no M (Sub.refl _) fun x => zA k4 rfl x.2.2.2.1
 | true =>
 simp only [wK, seval, c4]
 refine zAX rM.2.1 hb.lock bk fun q5 k5 => ?_
 cases q5 with
 | false => simp only [wK, seval]; exact no M (Sub.refl _) fun x => zA k5 rfl ⟨x.2.2.2.2.1, fun i hi => ⟨(x.2.2.2.2.2.1 i hi).1, (x.2.2.2.2.2.1 i hi).2.1⟩⟩
 | true =>
 obtain ⟨h8, hlk⟩ := k5.1 rfl
 obtain ⟨up, hup⟩ : ∃ up, up = d.up := ⟨_, rfl⟩
 rw [<- hup] at c1
 simp only [wK, seval, c1]
 cases up with
 | false =>
  simp only [wK, seval, Bool.not_false, c5, rM.2.2.len]
  by_cases e0 : (d.works.length : Int) = 0
  ·simp only [wK, seval, e0, decide_true, c4]
   refine qQN rM.2.1 hb.lock bk fun q6 k6 => ?_
   simp only [wK, seval]
   refine .of (k M jk q6 sh (k6.trans ⟨fun x => ?_, fun x y hy => ?_⟩) fun _ => ⟨H0, ks, s0, w⟩)
   ·exact ⟨k2.1 rfl, hlog, k3.1 rfl, k4.1 rfl, h8, fun i hi => ⟨(hlk i hi).1, (hlk i hi).2, fun _ => x _ (List.getElem_mem hi)⟩, .inl ⟨hup.symm, List.eq_nil_of_length_eq_zero (by omega)⟩⟩
   ·obtain ⟨i, hi, rfl⟩ := List.getElem_of_mem hy
    exact (x.2.2.2.2.2.1 i hi).2.2 hup.symm
  ·simp only [wK, seval, e0, decide_false]
   exact no M (Sub.refl _) fun x => by
    rcases x.2.2.2.2.2.2 with y | y
    ·exact e0 (by rw [y.2]; rfl)
    ·rw [<- hup] at y; cases y.1
 | true =>
  simp only [wK, seval, Bool.not_true]
  refine openK_c w fun M2 v s2 ro => ?_
  obtain ⟨L, hL⟩ : ∃ L, L = qCI d.log := ⟨_, rfl⟩
  have hin : ∀ x ∈ L, ∀ s ∈ x.slots, 0 <= s /\ s <= 7 := hL ▸ qQJ hlog
  have hbL : ∀ x ∈ L, bRec x := fun x q => hb.recs _ (List.mem_filter.1 (show x ∈ d.log.filter (qBC d.log) from by rw [hL] at q; exact q)).1
  have hfp : qMJ d ↔ ∀ x ∈ L, jO d.locks x.stamp x.try_ x.slots true = true := by rw [hL]; exact Iff.rfl
  have ol : L.length <= 400 := by rw [hL]; exact Nat.le_trans (List.length_filter_le _ _) hlog.1
  have iff : wT d ↔ qMJ d := ⟨fun x => by
    rcases x.2.2.2.2.2.2 with y | y
    ·rw [<- hup] at y; cases y.1
    ·exact y.2, fun x => ⟨k2.1 rfl, hlog, k3.1 rfl, k4.1 rfl, h8, fun i hi => ⟨(hlk i hi).1, (hlk i hi).2, fun c => by rw [<- hup] at c; cases c⟩, .inr ⟨hup.symm, x⟩⟩⟩
  rw [<- hL] at ro
  have c4' : hcel M2 j1 4 = some lk := yE s2 c4
  have rl2 := (rM.2.1.subH s2).relImp fun _ _ q => rLock.sub s2 q
  simp only [wK, seval, ro.len]
  refine qP [62] (fun n vs h' => ∃ i : Nat, vs = [.int .i64 i] /\ h' = M2 /\ i <= L.length /\ n = L.length - i /\ ∀ x ∈ L.take i, jO d.locks x.stamp x.try_ x.slots true = true) L.length rfl ⟨0, rfl, rfl, by omega, by omega, by simp⟩ ?_
  rintro n f h' ⟨i, hv, rfl, hi, rfl, ht⟩
  simp only [lm4] at hv
  simp only [wK, seval, wr, hv, ro.len]
  refine qF (fun c => ?_) fun c => ?_
  ·have hi2 : i < L.length := by omega
   obtain ⟨b1, o1, cs, hx, e1, va, vb, rfl, sr⟩ := zX ro hi2
   obtain ⟨x, hxx⟩ : ∃ x, x = L[i] := ⟨_, rfl⟩
   have hbx := hbL _ (List.getElem_mem hi2)
   have hix := hin _ (List.getElem_mem hi2)
   rw [<- hxx] at e1 sr hbx hix
   have bs := hbx.s
   unfold lim at bs
   have one := vX sr
   simp only [wK, seval, hx, e1, zr, wRec]
   refine qC (o := blk (cRec zRec (.slice none 0 0) (.slice none 0 0)) 137) fun j7 h7 => ?_
   try simp only [wK, seval, zr, wRec, one]
   obtain ⟨B, hB⟩ : ∃ B, B = (j7, blk (cRec x va vb) 137) :: h' := ⟨_, rfl⟩
   have sB : Tk.Sub h' B := by rw [hB]; exact Sub.cons h7 (Sub.refl _)
   have gB : hget B j7 = some (blk (cRec x va vb) 137) := by rw [hB]; exact qJ _ _ _
   have f1 : hcel B j7 1 = some (.int .i64 x.stamp) := qE gB rfl
   have f2 : hcel B j7 2 = some (.int .i64 x.try_) := qE gB rfl
   have f4 : hcel B j7 4 = some va := qE gB rfl
   have c4B := yE sB c4'
   rw [<- hB]
   try simp only [wK, seval, f1, f2, f4, c4B]
   refine qVK (x := ⟨x.stamp, x.try_, false, true⟩) ((rl2.subH sB).relImp fun _ _ q => rLock.sub sB q) h8 hb.lock (fun y hy => ?_) (rLs.sub sB sr.1) hix (by omega) ?_
   ·obtain ⟨q, hq, rfl⟩ := List.getElem_of_mem hy
    exact (hlk q hq).1.2.2.2.1
   ·obtain ⟨hv2, hhv⟩ : ∃ hv2, hv2 = jO d.locks x.stamp x.try_ x.slots true := ⟨_, rfl⟩
    rw [<- hhv]
    cases hv2 with
    | false =>
     simp only [wK, seval, Bool.not_false]
     exact no B (s2.trans sB) fun q => by
      have := hfp.1 (iff.1 q) x (hxx ▸ List.getElem_mem hi2)
      rw [<- hhv] at this; cases this
    | true =>
     simp (disch := omega) only [wK, seval, Bool.not_true, qK]
     refine ⟨L.length - (i + 1), by omega, h', sB, i + 1, by simp, rfl, by omega, rfl, fun z hz => ?_⟩
     rw [yK hi2] at hz
     rcases List.mem_append.1 hz with hz | hz
     ·exact ht z hz
     ·rw [List.mem_singleton.1 hz, <- hxx]; exact hhv.symm
  ·have hi2 : i = L.length := by omega
   rw [hi2, List.take_length] at ht
   try simp only [wK, seval]
   exact .of (k h' jk true (sh.trans s2) ⟨fun _ => iff.2 (hfp.2 ht), fun _ => rfl⟩ fun _ => ⟨H0, ks, s0, w.up s2⟩)
theorem qKP {h : H} {d : DHouse} {lg lk wk : Value} (r : sHouse h d lg lk wk) (hb : bHouse d) {R : Ending -> H -> Prop} (k : Asks R (wT d) h) :
  HCalls Tryz.prog 110 #[.agg (zB d lg lk wk).toArray] h R := by
 refine qD lite (args := [.agg (zB d lg lk wk).toArray]) Tryz.func110 ?_
 conv => arg 2; cbv
 simp only [wK, seval, yG]
 refine qC (o := blk (zB d lg lk wk) 59) fun j1 h1 => ?_
 obtain ⟨A, hA⟩ : ∃ A, A = (j1, blk (zB d lg lk wk) 59) :: h := ⟨_, rfl⟩
 have sA : Tk.Sub h A := by rw [hA]; exact Sub.cons h1 (Sub.refl _)
 have r1 : qT A j1 0 6 = some (zB d lg lk wk) := zH (by rw [hA]; exact qJ _ _ _) rfl
 rw [<- hA]
 simp only [wK, seval, yG, r1]
 refine qOI (r.sub sA) hb fun M' jk ok s hok _ => ?_
 simp only [wK, seval]
 exact ⟨h, sA.trans s, k ok hok⟩
theorem qKQ {h : H} {v : Value} {l : List DHouse} (r : rRs h (rHouse h) 6 v l) (hb : ∀ x ∈ l, bHouse x) (hl : l.length <= 1048576) {R : Ending -> H -> Prop} (k : Asks R (l.length = 3 /\ ∀ i (hi : i < l.length), wT l[i] /\ l[i].id = (i : Int)) h) :
  HCalls Tryz.prog 63 #[v] h R := by
 refine qD lite (args := [v]) Tryz.func63 ?_
 conv => arg 2; cbv
 simp only [wK, seval, r.len]
 refine qP [7] (fun n vs h' => ∃ i : Nat, vs = [.int .i64 i] /\ h' = h /\ i <= l.length /\ n = l.length - i /\ ∀ j (hj : j < l.length), j < i -> wT l[j] /\ l[j].id = (j : Int)) l.length rfl ⟨0, rfl, rfl, by omega, by omega, fun j hj hn => absurd hn (Nat.not_lt_zero _)⟩ ?_
 rintro n f h' ⟨i, hv, rfl, hi, rfl, ht⟩
 simp only [lm4] at hv
 simp only [wK, seval, wr, hv, r.len]
 refine qF (fun c => ?_) fun c => ?_
 ·have hi2 : i < l.length := by omega
  obtain ⟨b1, o1, cs, hx, e1, va, vb, vc, rfl, sr⟩ := zX r hi2
  obtain ⟨x, hxx⟩ : ∃ x, x = l[i] := ⟨_, rfl⟩
  have bs : bHouse x := hxx ▸ hb _ (List.getElem_mem hi2)
  rw [<- hxx] at e1 sr
  have zh := qEZ
  have hone : (zB x va vb vc).all vone = true := by simp only [zB, List.all_cons, List.all_nil, rRs.one sr.1, rRs.one sr.2.1, rRs.one sr.2.2]; rfl
  simp only [wK, seval, hx, e1, zh, yG]
  refine qC (o := blk (zB zHouse (.slice none 0 0) (.slice none 0 0) (.slice none 0 0)) 59) fun j4 h4 => ?_
  try simp only [wK, seval, zh, yG, hone]
  obtain ⟨B, hB⟩ : ∃ B, B = (j4, blk (zB x va vb vc) 59) :: h' := ⟨_, rfl⟩
  have sB : Tk.Sub h' B := by rw [hB]; exact Sub.cons h4 (Sub.refl _)
  have gB : hget B j4 = some (blk (zB x va vb vc) 59) := by rw [hB]; exact qJ _ _ _
  have rd : qT B j4 0 6 = some (zB x va vb vc) := zH gB rfl
  have c40 : hcel B j4 0 = some (.int .i64 x.id) := qE gB rfl
  rw [<- hB]
  try simp only [wK, seval, c40]
  refine zF (fun es => ?_) fun es => ?_
  ·exact k.dno sB fun y => es (by have := (y.2 i hi2).2; rw [<- hxx] at this; exact this)
  ·try simp only [wK, seval, rd]
   refine qKP (sr.sub sB) bs fun q2 hq2 => ?_
   cases q2 with
   | false =>
    simp only [wK, seval]
    exact k.dno sB fun y => zA hq2 rfl (by have := (y.2 i hi2).1; rw [<- hxx] at this; exact this)
   | true =>
    simp (disch := omega) only [wK, seval, qK]
    refine ⟨l.length - (i + 1), by omega, h', sB, i + 1, by simp, rfl, by omega, rfl, fun j hj hn => ?_⟩
    by_cases ej : j = i
    ·subst ej; rw [<- hxx]; exact ⟨hq2.1 rfl, es⟩
    ·exact ht j hj (by omega)
 ·try simp only [wK, seval, r.len]
  by_cases e3 : (l.length : Int) = 3
  ·simp only [wK, seval, e3, decide_true]
   exact .of (k.yes ⟨by omega, fun j hj => ht j hj (by omega)⟩)
  ·simp only [wK, seval, e3, decide_false]
   exact .of (k.no fun y => e3 (by have := y.1; omega))
end Go.Proofs.YtjioiemhgbkbfaaGreatDoor
end

section
namespace Go.Tk
open Go
def tcallP (c : DTollCall) (t : Int) : Prop := inP 1 t c.begin /\ inP 0 2 c.call.session /\ zIL c.call /\ qHP c.vals /\ ((c.end_ = 0 /\ c.code = 0 /\ c.vals = []) ∨ (c.end_ ≠ 0 /\ c.over = false /\ inP (c.begin + 1) t c.end_ /\ inP 0 9 c.code))
def sesL (l : List DTollCall) (s : Int) : List DTollCall := l.filter fun x => decide (x.call.session = s)
def qCH (x : DTollCall) (b : Int) : Prop := x.over = true ∨ (x.end_ ≠ 0 /\ x.end_ < b)
def zGB (l : List DTollCall) (c : DTollCall) (t : Int) : Prop := tcallP c t /\ (∀ x, l.getLast? = some x -> x.begin < c.begin) /\ (∀ x ∈ sesL l c.call.session, qCH x c.begin) /\ c.call.number = (sesL l c.call.session).length + 1
def qJO (l : List DTollCall) (t : Int) : Prop := l.length <= 18 /\ ∀ i (h : i < l.length), zGB (l.take i) l[i] t
theorem qLN {l : List DTollCall} {i : Nat} (hi : i < l.length) (s : Int) : sesL (l.take (i + 1)) s = sesL (l.take i) s ++ (if l[i].call.session = s then [l[i]] else []) := by
 unfold sesL
 rw [jX hi]
 simp only [decide_eq_true_eq]
theorem qAY (l : List DTollCall) (s : Int) (i : Nat) : (sesL (l.take i) s).length <= i := vZ _ _ _
theorem qBV {l : List DTollCall} {i : Nat} (h0 : 0 < i) (hi : i < l.length) : (l.take i).getLast? = some (l[i - 1]'(by omega)) := by
 obtain ⟨k, rfl⟩ : ∃ k, i = k + 1 := ⟨i - 1, by omega⟩
 rw [yK (by omega), List.getLast?_concat]; rfl
end Go.Tk
end

section
attribute [local irreducible] Go.Tk.vc Go.Tk.vops Go.Tk.vdr Go.Tk.vop Go.Tk.vfl Go.Tk.HCalls
namespace Go.Tk
open Go
def tcallQ (c : DTollCall) (t : Int) : Prop := inP 1 t c.begin /\ inP 0 2 c.call.session /\ (c.call.text.length <= 80 /\ wR c.call.kind /\ wR c.call.slot /\ wR c.call.to) /\ qHP c.vals /\ ((c.end_ = 0 /\ c.code = 0 /\ c.vals = []) ∨ (c.end_ ≠ 0 /\ c.over = false /\ inP (IntKind.i64.wrap (c.begin + 1)) t c.end_ /\ inP 0 9 c.code))
theorem tcallQ.ok {c : DTollCall} {t : Int} (ht : t <= 99999) (h : tcallQ c t) (hn : 1 <= c.call.number /\ c.call.number <= 99) : tcallP c t := by
 obtain ⟨a, b, ⟨c1, c2, c3, c4⟩, d, e⟩ := h
 refine ⟨a, b, ⟨?_, ?_, c2, c3, c4, c1⟩, d, ?_⟩
 ·unfold wR inP at *; omega
 ·unfold wR inP at *; omega
 ·unfold inP at a
  rw [qK _ ⟨by omega, by omega⟩] at e
  exact e
theorem tcallP.q {c : DTollCall} {t : Int} (ht : t <= 99999) (h : tcallP c t) : tcallQ c t := by
 obtain ⟨a, b, ⟨_, _, c2, c3, c4, c1⟩, d, e⟩ := h
 refine ⟨a, b, ⟨c1, c2, c3, c4⟩, d, ?_⟩
 unfold inP at a
 rw [qK _ ⟨by omega, by omega⟩]
 exact e
def zGA (l : List DTollCall) (c : DTollCall) (t : Int) : Prop := tcallQ c t /\ (∀ x, l.getLast? = some x -> x.begin < c.begin) /\ (∀ x ∈ sesL l c.call.session, qCH x c.begin) /\ c.call.number = (sesL l c.call.session).length + 1
def qOT (l : List DTollCall) (t : Int) : Prop := l.length <= 18 /\ ∀ i (h : i < l.length), zGA (l.take i) l[i] t
theorem qJN {l : List DTollCall} {t : Int} (ht : t <= 99999) : qOT l t ↔ qJO l t := by
 constructor
 ·rintro ⟨h1, h2⟩
  refine ⟨h1, fun i hi => ?_⟩
  obtain ⟨a, b, c, d⟩ := h2 i hi
  have := qAY l l[i].call.session i
  exact ⟨a.ok ht ⟨by omega, by omega⟩, b, c, d⟩
 ·rintro ⟨h1, h2⟩
  refine ⟨h1, fun i hi => ?_⟩
  obtain ⟨a, b, c, d⟩ := h2 i hi
  exact ⟨a.q ht, b, c, d⟩
end Go.Tk
namespace Go.Proofs.YtjioiemhgbkbfaaGreatDoor
open Go Go.Tk
theorem qNC {h : H} {c : DTollCall} {v : Value} {t : Int} (r : rInts h v c.vals) (hb : c.vals.length <= 1099511627776) {R : Ending -> H -> Prop} (k : Asks R (tcallQ c t) h) :
  HCalls Tryz.prog 112 #[.agg (qH c v).toArray, .int .i64 t] h R := by
 refine qD lite (args := [.agg (qH c v).toArray, .int .i64 t]) Tryz.func112 ?_
 conv => arg 2; cbv
 simp only [wK, seval, zW]
 refine qC (o := blk (qH c v) 111) fun j1 h1 => ?_
 obtain ⟨M, hM⟩ : ∃ M, M = (j1, blk (qH c v) 111) :: h := ⟨_, rfl⟩
 have sM : Tk.Sub h M := by rw [hM]; exact Sub.cons h1 (Sub.refl _)
 have gM : hget M j1 = some (blk (qH c v) 111) := by rw [hM]; exact qJ _ _ _
 have c0 : hcel M j1 0 = some (.int .i64 c.call.session) := qE gM rfl
 have c2 : hcel M j1 2 = some (.int .i64 c.call.kind) := qE gM rfl
 have c3 : hcel M j1 3 = some (.string ⟨c.call.text.toArray⟩) := qE gM rfl
 have c4 : hcel M j1 4 = some (.int .i64 c.call.slot) := qE gM rfl
 have c5 : hcel M j1 5 = some (.int .i64 c.call.to) := qE gM rfl
 have c6 : hcel M j1 6 = some (.int .i64 c.begin) := qE gM rfl
 have c7 : hcel M j1 7 = some (.int .i64 c.end_) := qE gM rfl
 have c8 : hcel M j1 8 = some (.bool c.over) := qE gM rfl
 have c9 : hcel M j1 9 = some (.int .i64 c.code) := qE gM rfl
 have c10 : hcel M j1 10 = some v := qE gM rfl
 have rM : rInts M v c.vals := rLs.sub sM r
 rw [<- hM]
 try simp only [wK, seval, c6]
 refine yN fun q1 k1 => ?_
 cases q1 with
 | false => simp only [wK, seval]; exact k.dno sM fun x => zA k1 rfl x.1
 | true =>
 simp only [wK, seval, c0]
 refine qGJ fun q2 k2 => ?_
 cases q2 with
 | false => simp only [wK, seval]; exact k.dno sM fun x => zA k2 rfl x.2.1
 | true =>
 simp only [wK, seval, c3]
 refine qF (fun e80 => ?_) fun e80 => ?_
 ·exact k.dno sM fun x => by have := x.2.2.1.1; omega
 simp only [wK, seval, c2, c4, c5]
 refine qC fun j3 hj3 => ?_
 simp only [wK, seval]
 refine HCalls.drop (uT (l := [c.call.kind, c.call.slot, c.call.to]) (qFE [c.call.kind, c.call.slot, c.call.to]) (by simp) fun q4 k4 => ⟨_, Sub.cons hj3 (Sub.refl _), ?_⟩)
 have k4' : q4 = true ↔ (wR c.call.kind /\ wR c.call.slot /\ wR c.call.to) := by
  rw [k4]
  simp only [wR, allP, List.mem_cons, List.not_mem_nil, or_false, forall_eq_or_imp, forall_eq]
 cases q4 with
 | false => simp only [wK, seval]; exact k.dno sM fun x => zA k4' rfl x.2.2.1.2
 | true =>
 simp only [wK, seval, c10]
 refine qHQ rM hb fun q5 k5 => ?_
 cases q5 with
 | false => simp only [wK, seval]; exact k.dno sM fun x => zA k5 rfl x.2.2.2.1
 | true =>
 have hbeg := k1.1 rfl
 have nil1 : (c.vals.length : Int) = 0 ↔ c.vals = [] := ⟨fun e => List.eq_nil_of_length_eq_zero (by omega), fun e => by rw [e]; rfl⟩
 have good : ((c.end_ = 0 /\ c.code = 0 /\ c.vals = []) ∨ (c.end_ ≠ 0 /\ c.over = false /\ inP (IntKind.i64.wrap (c.begin + 1)) t c.end_ /\ inP 0 9 c.code)) -> tcallQ c t := fun e => ⟨k1.1 rfl, k2.1 rfl, ⟨by omega, k4'.1 rfl⟩, k5.1 rfl, e⟩
 simp only [wK, seval, c7]
 by_cases e0 : c.end_ = 0
 ·simp only [wK, seval, e0, decide_true, c9]
  by_cases e1 : c.code = 0
  ·simp only [wK, seval, e1, decide_true, c10, rM.len]
   by_cases e2 : (c.vals.length : Int) = 0
   ·simp only [wK, seval, e2, decide_true]
    exact k.dyes sM (good (.inl ⟨e0, e1, nil1.1 e2⟩))
   ·simp only [wK, seval, e2, decide_false]
    exact k.dno sM fun x => by
     rcases x.2.2.2.2 with y | y
     ·exact e2 (nil1.2 y.2.2)
     ·exact y.1 e0
  ·simp only [wK, seval, e1, decide_false]
   exact k.dno sM fun x => by
    rcases x.2.2.2.2 with y | y
    ·exact e1 y.2.1
    ·exact y.1 e0
 ·simp only [wK, seval, e0, decide_false, c7, c6]
  refine yN fun q6 k6 => ?_
  cases q6 with
  | false =>
   simp only [wK, seval]
   exact k.dno sM fun x => by
    rcases x.2.2.2.2 with y | y
    ·exact e0 y.1
    ·exact zA k6 rfl y.2.2.1
  | true =>
  obtain ⟨ov, hov⟩ : ∃ ov, ov = c.over := ⟨_, rfl⟩
  rw [<- hov] at c8
  simp only [wK, seval, c8]
  cases ov with
  | true =>
   simp only [wK, seval, Bool.not_true]
   exact k.dno sM fun x => by
    rcases x.2.2.2.2 with y | y
    ·exact e0 y.1
    ·rw [<- hov] at y; cases y.2.1
  | false =>
   simp only [wK, seval, Bool.not_false, c9]
   refine qRF fun q7 k7 => ?_
   cases q7 with
   | false =>
    simp only [wK, seval]
    exact k.dno sM fun x => by
     rcases x.2.2.2.2 with y | y
     ·exact e0 y.1
     ·exact zA k7 rfl y.2.2.2
   | true =>
    simp only [wK, seval]
    exact k.dyes sM (good (.inr ⟨e0, hov.symm, k6.1 rfl, k7.1 rfl⟩))
theorem zAK {h : H} {v : Value} {l : List DWord} (r : rRs h (rWord h) 17 v l) (hb : ∀ x ∈ l, bWord x) (hl : l.length <= 1048576) {R : Ending -> H -> Prop} (k : Asks R (l.length <= 60 /\ ∀ x ∈ l, qLA x) h) : HCalls Tryz.prog 64 #[v] h R := by
 refine qD lite (args := [v]) Tryz.func64 ?_
 conv => arg 2; cbv
 simp only [wK, seval, r.len]
 refine qP [7] (fun n vs h' => ∃ i : Nat, vs = [.int .i64 i] /\ h' = h /\ i <= l.length /\ n = l.length - i /\ ∀ x ∈ l.take i, qLA x) l.length rfl ⟨0, rfl, rfl, by omega, by omega, by simp⟩ ?_
 rintro n f h' ⟨i, hv, rfl, hi, rfl, ht⟩
 simp only [lm4] at hv
 simp only [wK, seval, wr, hv, r.len]
 refine qF (fun c => ?_) fun c => ?_
 ·have hi2 : i < l.length := by omega
  obtain ⟨b1, o1, cs, hx, e1, va, vb, vc, rfl, sr⟩ := zX r hi2
  obtain ⟨x, hxx⟩ : ∃ x, x = l[i] := ⟨_, rfl⟩
  have bs : bWord x := hxx ▸ hb _ (List.getElem_mem hi2)
  rw [<- hxx] at e1 sr
  have zh := qHJ
  have hone : (zL x va vb vc).all vone = true := by simp only [zL, List.all_cons, List.all_append, List.all_nil, rdS.one sr.1, rdS.one sr.2.1, rdS.one sr.2.2]; rfl
  simp only [wK, seval, hx, e1, zh, zZ]
  refine qC (o := blk (zL zWord (.slice none 0 0) (.slice none 0 0) (.slice none 0 0)) 66) fun j4 h4 => ?_
  try simp only [wK, seval, zh, zZ, hone]
  obtain ⟨B, hB⟩ : ∃ B, B = (j4, blk (zL x va vb vc) 66) :: h' := ⟨_, rfl⟩
  have sB : Tk.Sub h' B := by rw [hB]; exact Sub.cons h4 (Sub.refl _)
  have gB : hget B j4 = some (blk (zL x va vb vc) 66) := by rw [hB]; exact qJ _ _ _
  have rd : qT B j4 0 17 = some (zL x va vb vc) := zH gB rfl
  rw [<- hB]
  try simp only [wK, seval, rd]
  refine qOD (sWord.sub sB sr) bs.len fun q2 hq2 => ?_
  cases q2 with
  | false =>
   simp only [wK, seval]
   exact k.dno sB fun y => zA hq2 rfl (y.2 _ (hxx ▸ List.getElem_mem hi2))
  | true =>
   simp (disch := omega) only [wK, seval, qK]
   refine ⟨l.length - (i + 1), by omega, h', sB, i + 1, by simp, rfl, by omega, rfl, fun z hz => ?_⟩
   rw [yK hi2] at hz
   rcases List.mem_append.1 hz with hz | hz
   ·exact ht z hz
   ·rw [List.mem_singleton.1 hz, <- hxx]; exact hq2.1 rfl
 ·have hi2 : i = l.length := by omega
  rw [hi2, List.take_length] at ht
  try simp only [wK, seval, r.len]
  by_cases e60 : (l.length : Int) <= 60
  ·simp only [wK, seval, e60, decide_true]
   exact .of (k.yes ⟨by omega, ht⟩)
  ·simp only [wK, seval, e60, decide_false]
   exact .of (k.no fun y => e60 (by have := y.1; omega))
end Go.Proofs.YtjioiemhgbkbfaaGreatDoor
end

section
attribute [local irreducible] Go.Tk.vc Go.Tk.vops Go.Tk.vdr Go.Tk.vop Go.Tk.vfl Go.Tk.HCalls
namespace Go.Proofs.YtjioiemhgbkbfaaGreatDoor
open Go Go.Tk
theorem qKV {h : H} {v : Value} {l : List DTollCall} {t : Int} (r : rRs h (rTollCall h) 11 v l) (hb : ∀ x ∈ l, bTollCall x) {R : Ending -> H -> Prop} (k : Asks R (qOT l t) h) :
  HCalls Tryz.prog 65 #[v, .int .i64 t] h R := by
 refine qD lite (args := [v, .int .i64 t]) Tryz.func65 ?_
 conv => arg 2; cbv
 simp only [wK, seval, r.len]
 refine qF (fun e => .of (k.no fun x => by have := x.1; omega)) fun e18 => ?_
 refine qP [15] (fun n vs h' => ∃ i : Nat, vs = [.int .i64 i] /\ h' = h /\ i <= l.length /\ n = l.length - i /\ ∀ j (hj : j < l.length), j < i -> zGA (l.take j) l[j] t) l.length rfl ⟨0, rfl, rfl, by omega, by omega, fun j hj hn => absurd hn (Nat.not_lt_zero _)⟩ ?_
 rintro n f h' ⟨i, hv, rfl, hi, rfl, hall⟩
 simp only [lm4] at hv
 simp only [wK, seval, wr, hv, r.len]
 refine qF (fun c => ?_) fun c => ?_
 ·have hi2 : i < l.length := by omega
  obtain ⟨b1, o1, cs, hx, e1, va, rfl, sr⟩ := zX r hi2
  obtain ⟨x, hxx⟩ : ∃ x, x = l[i] := ⟨_, rfl⟩
  have hbx : bTollCall x := hxx ▸ hb _ (List.getElem_mem hi2)
  have bv := hbx.v
  unfold lim at bv
  rw [<- hxx] at e1 sr
  have zh := kV
  have hone : (qH x va).all vone = true := by simp only [qH, List.all_cons, List.all_append, List.all_nil, rdS.one sr]; rfl
  simp only [wK, seval, hx, e1, zh, zW]
  refine qC (o := blk (qH zTollCall (.slice none 0 0)) 111) fun j6 h6 => ?_
  try simp only [wK, seval, zh, zW, hone]
  obtain ⟨B, hB⟩ : ∃ B, B = (j6, blk (qH x va) 111) :: h' := ⟨_, rfl⟩
  have sB : Tk.Sub h' B := by rw [hB]; exact Sub.cons h6 (Sub.refl _)
  have gB : hget B j6 = some (blk (qH x va) 111) := by rw [hB]; exact qJ _ _ _
  have rd : qT B j6 0 11 = some (qH x va) := zH gB rfl
  have c60 : hcel B j6 0 = some (.int .i64 x.call.session) := qE gB rfl
  have c61 : hcel B j6 1 = some (.int .i64 x.call.number) := qE gB rfl
  have c66 : hcel B j6 6 = some (.int .i64 x.begin) := qE gB rfl
  have rB := (r.subH sB).relImp fun _ _ q => rTollCall.sub sB q
  have shh2 := Sub.refl B
  have no : ¬ zGA (l.take i) x t -> ¬ qOT l t := fun e y => e (by have := y.2 i hi2; rw [<- hxx] at this; exact this)
  rw [<- hB]
  refine zC B (Sub.refl _) ?_
  simp only [wK, seval, rd, shh2]
  refine qNC (rLs.sub sB sr) (by omega) fun q1 k1 => ?_
  cases q1 with
  | false =>
   simp only [wK, seval, shh2]
   exact k.dno sB (no fun y => zA k1 rfl y.1)
  | true =>
  have hx1 := k1.1 rfl
  simp only [wK, seval, shh2]
  refine qF (fun q3 => ?_) fun q3 => ?_
  case' refine_1 =>
   have ecast : ((i - 1 : Nat) : Int) = (i : Int) - 1 := by omega
   obtain ⟨b2, o2, cs2, hx2, e2, va2, rfl, sr2⟩ := zX r (i := i - 1) (by omega)
   rw [ecast] at hx2
   have g6 : hcel B b2 (o2 + 6) = some (.int .i64 l[i - 1].begin) := yE sB (zJ e2 6 rfl)
   simp (disch := omega) only [wK, seval, hx2, c66, g6, qK, shh2]
   refine yZ (fun q4 => ?_) fun q4 => ?_
   ·exact k.dno sB (no fun y => by have := y.2.1 _ (qBV (by omega) hi2); omega)
   have hlast : ∀ y, (l.take i).getLast? = some y -> y.begin < x.begin := fun y e => by rw [qBV (by omega) hi2] at e; cases e; exact q4
  case' refine_2 =>
   have hlast : ∀ y, (l.take i).getLast? = some y -> y.begin < x.begin := fun y e => by
    have h0 : i = 0 := by omega
    rw [h0] at e; simp at e
  all_goals
   try simp only [wK, seval, shh2]
   refine kZ rB (by omega) (by omega) fun v2 r2 => ?_
   rw [Int.toNat_natCast] at r2
   have hl2 : (l.take i).length = i := by rw [List.length_take]; omega
   simp only [wK, seval, r2.len, hl2]
   refine qP [43, 7] (fun n vs h2 => ∃ (q : Nat) (num : Int), vs = [.int .i64 q, .int .i64 num] /\ h2 = B /\ q <= i /\ n = i - q /\ num = (sesL (l.take q) x.call.session).length + 1 /\ ∀ y ∈ sesL (l.take q) x.call.session, qCH y x.begin) i rfl ⟨0, 1, rfl, rfl, by omega, by omega, by simp [sesL], by simp [sesL]⟩ ?_
   rintro n2 f2 h2 ⟨q, num, hv2, rfl, hq, rfl, hnum, hpast⟩
   simp only [lm4] at hv2
   simp only [wK, seval, wr, hv2.1, hv2.2]
   refine qF (fun q5 => ?_) fun q5 => ?_
   ·have hq2 : q < l.length := by omega
    have hq4 : q < (l.take i).length := by omega
    have hmo := qLN hq2 x.call.session
    obtain ⟨b3, o3, cs3, hx3, e3, va3, rfl, sr3⟩ := zX r2 hq4
    have htk : (l.take i)[q] = l[q] := List.getElem_take
    rw [htk] at e3 sr3
    obtain ⟨y, hyy⟩ : ∃ y, y = l[q] := ⟨_, rfl⟩
    rw [<- hyy] at e3 hmo sr3
    have hone3 : (qH y va3).all vone = true := by simp only [qH, List.all_cons, List.all_append, List.all_nil, rdS.one sr3]; rfl
    simp only [wK, seval, hx3, e3, zh, zW]
    refine qC (o := blk (qH zTollCall (.slice none 0 0)) 111) fun j9 h9 => ?_
    try simp only [wK, seval, zh, zW, hone3]
    obtain ⟨C, hC⟩ : ∃ C, C = (j9, blk (qH y va3) 111) :: h2 := ⟨_, rfl⟩
    have sC : Tk.Sub h2 C := by rw [hC]; exact Sub.cons h9 (Sub.refl _)
    have gC : hget C j9 = some (blk (qH y va3) 111) := by rw [hC]; exact qJ _ _ _
    have g0 : hcel C j9 0 = some (.int .i64 y.call.session) := qE gC rfl
    have g7 : hcel C j9 7 = some (.int .i64 y.end_) := qE gC rfl
    have g8 : hcel C j9 8 = some (.bool y.over) := qE gC rfl
    have f0 : hcel C j6 0 = some (.int .i64 x.call.session) := yE sC c60
    have f6 : hcel C j6 6 = some (.int .i64 x.begin) := yE sC c66
    rw [<- hC]
    try simp only [wK, seval, g0, f0]
    refine zF (fun es => ?_) fun es => ?_
    ·simp (disch := omega) only [wK, seval, qK]
     refine ⟨i - (q + 1), by omega, h2, sC, q + 1, num, by simp, rfl, by omega, rfl, ?_, ?_⟩
     ·rw [hmo, if_neg es, List.append_nil]; exact hnum
     ·rw [hmo, if_neg es, List.append_nil]; exact hpast
    ·have hln := qAY l x.call.session q
     have hstep : qCH y x.begin -> ∃ m, m < i - q /\ ∃ gg, Tk.Sub gg C /\ ∃ (q' : Nat) (num' : Int), [Value.int IntKind.i64 ((q : Int) + 1), Value.int IntKind.i64 (num + 1)] = [.int .i64 q', .int .i64 num'] /\ gg = h2 /\ q' <= i /\ m = i - q' /\ num' = (sesL (l.take q') x.call.session).length + 1 /\ ∀ z ∈ sesL (l.take q') x.call.session, qCH z x.begin := fun hp =>
      ⟨i - (q + 1), by omega, h2, sC, q + 1, num + 1, by simp, rfl, by omega, rfl, by rw [hmo, if_pos es, List.length_append, List.length_singleton, hnum]; simp, fun z hz => by
       rw [hmo, if_pos es] at hz
       rcases List.mem_append.1 hz with hz | hz
       ·exact hpast z hz
       ·rw [List.mem_singleton.1 hz]; exact hp⟩
     have bad : ¬ qCH y x.begin -> ¬ qOT l t := fun e => no fun z => e (z.2.2.1 y (by
      unfold sesL
      rw [List.mem_filter]
      refine ⟨?_, by simpa using es⟩
      rw [List.mem_take_iff_getElem]
      exact ⟨q, by omega, hyy.symm⟩))
     obtain ⟨ov, hov⟩ : ∃ ov, ov = y.over := ⟨_, rfl⟩
     rw [<- hov] at g8
     simp (disch := omega) only [wK, seval, g8, qK]
     cases ov with
     | true =>
      simp (disch := omega) only [wK, seval, qK, Bool.not_true]
      exact hstep (.inl hov.symm)
     | false =>
      simp only [wK, seval, g7, Bool.not_false]
      by_cases ez : y.end_ = 0
      ·simp only [wK, seval, ez, decide_true]
       exact k.dno (sB.trans sC) (bad fun z => by
        rcases z with z | z
        ·rw [<- hov] at z; cases z
        ·exact z.1 ez)
      ·simp only [wK, seval, ez, decide_false, g7, f6]
       refine yZ (fun eg => ?_) fun eg => ?_
       ·exact k.dno (sB.trans sC) (bad fun z => by
         rcases z with z | z
         ·rw [<- hov] at z; cases z
         ·omega)
       ·simp (disch := omega) only [wK, seval, qK]
        exact hstep (.inr ⟨ez, eg⟩)
   ·have hq3 : q = i := by omega
    rw [hq3] at hnum hpast
    have hln := qAY l x.call.session i
    simp (disch := omega) only [wK, seval, c61, qK]
    refine zF (fun en => ?_) fun en => ?_
    ·exact k.dno sB (no fun z => en (by rw [hnum]; exact z.2.2.2))
    ·refine ⟨l.length - (i + 1), by omega, h', sB, i + 1, by simp, rfl, by omega, rfl, fun j hj hn => ?_⟩
     by_cases ej : j = i
     ·subst ej
      rw [<- hxx]
      exact ⟨hx1, hlast, hpast, by rw [en, hnum]⟩
     ·exact hall j hj (by omega)
 ·have hi2 : i = l.length := by omega
  try simp only [wK, seval]
  exact .of (k.yes ⟨by omega, fun j hj => hall j hj (by omega)⟩)
end Go.Proofs.YtjioiemhgbkbfaaGreatDoor
end

section
attribute [local irreducible] Go.Tk.vc Go.Tk.vops Go.Tk.vdr Go.Tk.vop Go.Tk.vfl Go.Tk.HCalls
namespace Go.Proofs.YtjioiemhgbkbfaaGreatDoor
open Go Go.Tk
theorem qQY {h : H} {c : DTollCall} {v : Value} {t : Int} (r : rInts h v c.vals) (hb : c.vals.length <= 1099511627776) (ht : t <= 99999) {R : Ending -> H -> Prop} (k : Asks R (tcallP c t /\ inP 1 99 c.call.number) h) :
  HCalls Tryz.prog 43 #[.agg (qH c v).toArray, .int .i64 t] h R := by
 refine qD lite (args := [.agg (qH c v).toArray, .int .i64 t]) Tryz.func43 ?_
 conv => arg 2; cbv
 simp only [wK, seval, zW]
 refine qC (o := blk (qH c v) 111) fun j1 h1 => ?_
 obtain ⟨M, hM⟩ : ∃ M, M = (j1, blk (qH c v) 111) :: h := ⟨_, rfl⟩
 have sM : Tk.Sub h M := by rw [hM]; exact Sub.cons h1 (Sub.refl _)
 have gM : hget M j1 = some (blk (qH c v) 111) := by rw [hM]; exact qJ _ _ _
 have c0 : hcel M j1 0 = some (.int .i64 c.call.session) := qE gM rfl
 have c1 : hcel M j1 1 = some (.int .i64 c.call.number) := qE gM rfl
 have c6 : hcel M j1 6 = some (.int .i64 c.begin) := qE gM rfl
 have c7 : hcel M j1 7 = some (.int .i64 c.end_) := qE gM rfl
 have c8 : hcel M j1 8 = some (.bool c.over) := qE gM rfl
 have c9 : hcel M j1 9 = some (.int .i64 c.code) := qE gM rfl
 have c10 : hcel M j1 10 = some v := qE gM rfl
 have cc : qT M j1 0 6 = some (zV c.call) := by unfold qT; rw [gM]; rfl
 have rM : rInts M v c.vals := rLs.sub sM r
 rw [<- hM]
 try simp only [wK, seval, c6]
 refine zY fun q1 k1 => ?_
 cases q1 with
 | false => simp only [wK, seval]; exact k.dno sM fun x => zA k1 rfl x.1.1
 | true =>
 simp only [wK, seval, c0]
 refine zY fun q2 k2 => ?_
 cases q2 with
 | false => simp only [wK, seval]; exact k.dno sM fun x => zA k2 rfl x.1.2.1
 | true =>
 simp only [wK, seval, c1]
 refine zY fun q3 k3 => ?_
 cases q3 with
 | false => simp only [wK, seval]; exact k.dno sM fun x => zA k3 rfl x.2
 | true =>
 simp only [wK, seval, cc]
 refine qLX fun q4 k4 => ?_
 cases q4 with
 | false => simp only [wK, seval]; exact k.dno sM fun x => zA k4 rfl x.1.2.2.1
 | true =>
 simp only [wK, seval, c10]
 refine qIS rM hb fun q5 k5 => ?_
 cases q5 with
 | false => simp only [wK, seval]; exact k.dno sM fun x => zA k5 rfl x.1.2.2.2.1
 | true =>
 have hbeg := k1.1 rfl
 have nil1 : (c.vals.length : Int) = 0 ↔ c.vals = [] := ⟨fun e => List.eq_nil_of_length_eq_zero (by omega), fun e => by rw [e]; rfl⟩
 have good : ((c.end_ = 0 /\ c.code = 0 /\ c.vals = []) ∨ (c.end_ ≠ 0 /\ c.over = false /\ inP (c.begin + 1) t c.end_ /\ inP 0 9 c.code)) -> tcallP c t /\ inP 1 99 c.call.number := fun e => ⟨⟨k1.1 rfl, k2.1 rfl, k4.1 rfl, k5.1 rfl, e⟩, k3.1 rfl⟩
 simp only [wK, seval, c7]
 by_cases e0 : c.end_ = 0
 ·simp only [wK, seval, e0, decide_true, c9]
  by_cases e1 : c.code = 0
  ·simp only [wK, seval, e1, decide_true, c10, rM.len]
   by_cases e2 : (c.vals.length : Int) = 0
   ·simp only [wK, seval, e2, decide_true]
    exact k.dyes sM (good (.inl ⟨e0, e1, nil1.1 e2⟩))
   ·simp only [wK, seval, e2, decide_false]
    exact k.dno sM fun x => by
     rcases x.1.2.2.2.2 with y | y
     ·exact e2 (nil1.2 y.2.2)
     ·exact y.1 e0
  ·simp only [wK, seval, e1, decide_false]
   exact k.dno sM fun x => by
    rcases x.1.2.2.2.2 with y | y
    ·exact e1 y.2.1
    ·exact y.1 e0
 ·simp only [wK, seval, e0, decide_false, c8]
  obtain ⟨ov, hov⟩ : ∃ ov, ov = c.over := ⟨_, rfl⟩
  rw [<- hov]
  cases ov with
  | true =>
   simp only [wK, seval]
   exact k.dno sM fun x => by
    rcases x.1.2.2.2.2 with y | y
    ·exact e0 y.1
    ·rw [<- hov] at y; cases y.2.1
  | false =>
   unfold inP at hbeg
   simp (disch := omega) only [wK, seval, c7, c6, qK]
   refine zY fun q6 k6 => ?_
   cases q6 with
   | false =>
    simp only [wK, seval]
    exact k.dno sM fun x => by
     rcases x.1.2.2.2.2 with y | y
     ·exact e0 y.1
     ·exact zA k6 rfl y.2.2.1
   | true =>
    simp only [wK, seval, c9]
    refine zY fun q7 k7 => ?_
    cases q7 with
    | false =>
     simp only [wK, seval]
     exact k.dno sM fun x => by
      rcases x.1.2.2.2.2 with y | y
      ·exact e0 y.1
      ·exact zA k7 rfl y.2.2.2
    | true =>
     simp only [wK, seval]
     exact k.dyes sM (good (.inr ⟨e0, hov.symm, k6.1 rfl, k7.1 rfl⟩))
theorem qNW {h : H} {v : Value} {l : List DTollCall} {t : Int} (r : rRs h (rTollCall h) 11 v l) (hb : ∀ x ∈ l, bTollCall x) (ht : t <= 99999) {R : Ending -> H -> Prop} (k : Asks R (qJO l t) h) :
  HCalls Tryz.prog 18 #[v, .int .i64 t] h R := by
 refine yM (args := [v, .int .i64 t]) Tryz.func18 ir18 ?_
 simp only [wK, seval, r.len]
 refine qF (fun e => .of (k.no fun x => by have := x.1; omega)) fun e18 => ?_
 refine qP [5] (fun n vs h' => ∃ i : Nat, vs = [.int .i64 i] /\ h' = h /\ i <= l.length /\ n = l.length - i /\ ∀ j (hj : j < l.length), j < i -> zGB (l.take j) l[j] t) l.length rfl ⟨0, rfl, rfl, by omega, by omega, fun j hj hn => absurd hn (Nat.not_lt_zero _)⟩ ?_
 rintro n f h' ⟨i, hv, rfl, hi, rfl, hall⟩
 simp only [lm4] at hv
 simp only [wK, seval, wr, hv, r.len]
 refine qF (fun c => ?_) fun c => ?_
 ·have hi2 : i < l.length := by omega
  obtain ⟨b1, o1, cs, hx, e1, va, rfl, sr⟩ := zX r hi2
  obtain ⟨x, hxx⟩ : ∃ x, x = l[i] := ⟨_, rfl⟩
  have hbx : bTollCall x := hxx ▸ hb _ (List.getElem_mem hi2)
  have bv := hbx.v
  unfold lim at bv
  rw [<- hxx] at e1 sr
  have f0 : hcel h' b1 o1 = some (.int .i64 x.call.session) := zJ e1 0 rfl
  have f1 : hcel h' b1 (o1 + 1) = some (.int .i64 x.call.number) := zJ e1 1 rfl
  have f6 : hcel h' b1 (o1 + 6) = some (.int .i64 x.begin) := zJ e1 6 rfl
  have shh := Sub.refl h'
  have no : ¬ zGB (l.take i) x t -> ¬ qJO l t := fun e y => e (by have := y.2 i hi2; rw [<- hxx] at this; exact this)
  have num : ∀ j (hj : j < l.length), j < i -> l[j].call.number = (sesL (l.take j) l[j].call.session).length + 1 := fun j hj hn => (hall j hj hn).2.2.2
  refine zC h' (Sub.refl _) ?_
  simp only [wK, seval, hx, e1, shh]
  refine qQY sr (by omega) ht fun q1 k1 => ?_
  cases q1 with
  | false =>
   simp only [wK, seval, shh]
   exact .of (k.no (no fun y => zA k1 rfl ⟨y.1, by have := y.2.2.2; have := qAY l x.call.session i; unfold inP; omega⟩))
  | true =>
  have hx1 := k1.1 rfl
  simp only [wK, seval, shh]
  refine qF (fun q3 => ?_) fun q3 => ?_
  case' refine_1 =>
   have ecast : ((i - 1 : Nat) : Int) = (i : Int) - 1 := by omega
   obtain ⟨b2, o2, cs2, hx2, e2, va2, rfl, sr2⟩ := zX r (i := i - 1) (by omega)
   rw [ecast] at hx2
   have g6 : hcel h' b2 (o2 + 6) = some (.int .i64 l[i - 1].begin) := zJ e2 6 rfl
   simp (disch := omega) only [wK, seval, hx, hx2, f6, g6, qK, shh]
   refine yZ (fun q4 => ?_) fun q4 => ?_
   ·exact .of (k.no (no fun y => by have := y.2.1 _ (qBV (by omega) hi2); omega))
   have hlast : ∀ y, (l.take i).getLast? = some y -> y.begin < x.begin := fun y e => by rw [qBV (by omega) hi2] at e; cases e; exact q4
  case' refine_2 =>
   have hlast : ∀ y, (l.take i).getLast? = some y -> y.begin < x.begin := fun y e => by
    have h0 : i = 0 := by omega
    rw [h0] at e; simp at e
   try simp only [wK, seval, shh]
  all_goals
   refine qP [7, 6] (fun n vs h2 => ∃ (q : Nat) (last : Int), vs = [.int .i64 q, .int .i64 last] /\ h2 = h' /\ q <= i /\ n = i - q /\ last = (sesL (l.take q) x.call.session).length /\ ∀ y ∈ sesL (l.take q) x.call.session, qCH y x.begin) i rfl ⟨0, 0, rfl, rfl, by omega, by omega, by simp [sesL], by simp [sesL]⟩ ?_
   rintro n2 f2 h2 ⟨q, last, hv2, rfl, hq, rfl, hlst, hpast⟩
   simp only [lm4] at hv2
   simp only [wK, seval, wr, hv2.1, hv2.2]
   refine qF (fun q5 => ?_) fun q5 => ?_
   ·have hq2 : q < l.length := by omega
    have hmo := qLN hq2 x.call.session
    obtain ⟨b3, o3, cs3, hx3, e3, va3, rfl, sr3⟩ := zX r hq2
    obtain ⟨y, hyy⟩ : ∃ y, y = l[q] := ⟨_, rfl⟩
    have hnum := num q hq2 (by omega)
    rw [<- hyy] at e3 hmo hnum
    have g0 : hcel h2 b3 o3 = some (.int .i64 y.call.session) := zJ e3 0 rfl
    have g1 : hcel h2 b3 (o3 + 1) = some (.int .i64 y.call.number) := zJ e3 1 rfl
    have g7 : hcel h2 b3 (o3 + 7) = some (.int .i64 y.end_) := zJ e3 7 rfl
    have g8 : hcel h2 b3 (o3 + 8) = some (.bool y.over) := zJ e3 8 rfl
    refine zC h2 (Sub.refl _) ?_
    simp only [wK, seval, hx3, g0, hx, f0, shh]
    refine zF (fun es => ?_) fun es => ?_
    ·simp (disch := omega) only [wK, seval, qK]
     refine ⟨i - (q + 1), by omega, h2, .refl _, q + 1, last, by simp, rfl, by omega, rfl, ?_, ?_⟩
     ·rw [hmo, if_neg es, List.append_nil]; exact hlst
     ·rw [hmo, if_neg es, List.append_nil]; exact hpast
    ·simp only [wK, seval, hx3, g1]
     rw [es] at hnum
     have hstep : qCH y x.begin -> ∃ m, m < i - q /\ ∃ gg, Tk.Sub gg h2 /\ ∃ (q' : Nat) (last' : Int), [Value.int IntKind.i64 ((q : Int) + 1), Value.int IntKind.i64 y.call.number] = [.int .i64 q', .int .i64 last'] /\ gg = h2 /\ q' <= i /\ m = i - q' /\ last' = (sesL (l.take q') x.call.session).length /\ ∀ z ∈ sesL (l.take q') x.call.session, qCH z x.begin := fun hp =>
      ⟨i - (q + 1), by omega, h2, .refl _, q + 1, y.call.number, by simp, rfl, by omega, rfl, by rw [hmo, if_pos es, List.length_append, List.length_singleton, hnum]; simp, fun z hz => by
       rw [hmo, if_pos es] at hz
       rcases List.mem_append.1 hz with hz | hz
       ·exact hpast z hz
       ·rw [List.mem_singleton.1 hz]; exact hp⟩
     have bad : ¬ qCH y x.begin -> ¬ qJO l t := fun e => no fun z => e (z.2.2.1 y (by
      unfold sesL
      rw [List.mem_filter]
      refine ⟨?_, by simpa using es⟩
      rw [List.mem_take_iff_getElem]
      exact ⟨q, by omega, hyy.symm⟩))
     refine zC h2 (Sub.refl _) ?_
     obtain ⟨ov, hov⟩ : ∃ ov, ov = y.over := ⟨_, rfl⟩
     rw [<- hov] at g8
     simp only [wK, seval, hx3, g8, shh]
     cases ov with
     | true =>
      simp (disch := omega) only [wK, seval, qK, shh]
      exact hstep (.inl hov.symm)
     | false =>
      simp only [wK, seval, hx3, g7, shh]
      by_cases ez : y.end_ = 0
      ·simp only [wK, seval, ez, decide_true, shh]
       exact .of (k.no (bad fun z => by
        rcases z with z | z
        ·rw [<- hov] at z; cases z
        ·exact z.1 ez))
      ·simp only [wK, seval, ez, decide_false, hx3, g7, hx, f6, shh]
       refine yZ (fun eg => ?_) fun eg => ?_
       ·exact .of (k.no (bad fun z => by
         rcases z with z | z
         ·rw [<- hov] at z; cases z
         ·omega))
       ·simp (disch := omega) only [wK, seval, qK, shh]
        exact hstep (.inr ⟨ez, eg⟩)
   ·have hq3 : q = i := by omega
    rw [hq3] at hlst hpast
    have hln := qAY l x.call.session i
    simp (disch := omega) only [wK, seval, hx, f1, qK]
    refine zF (fun en => ?_) fun en => ?_
    ·exact .of (k.no (no fun z => en (by rw [hlst]; exact z.2.2.2)))
    ·refine ⟨l.length - (i + 1), by omega, h2, .refl _, i + 1, by simp, rfl, by omega, rfl, fun j hj hn => ?_⟩
     by_cases ej : j = i
     ·subst ej
      rw [<- hxx]
      exact ⟨hx1.1, hlast, hpast, by rw [en, hlst]⟩
     ·exact hall j hj (by omega)
 ·have hi2 : i = l.length := by omega
  try simp only [wK, seval]
  exact .of (k.yes ⟨by omega, fun j hj => hall j hj (by omega)⟩)
end Go.Proofs.YtjioiemhgbkbfaaGreatDoor
end

section
attribute [local irreducible] Go.Tk.vc Go.Tk.vops Go.Tk.vdr Go.Tk.vop Go.Tk.vfl Go.Tk.HCalls
namespace Go.Tk
open Go
def kI (w : DTollWorld) : Prop := inP 0 99999 w.time /\ qEH w.gate /\ w.houses.length = 3 /\ w.radio.length <= 60 /\ qJO w.calls w.time /\ (∀ i (h : i < w.houses.length), wT w.houses[i] /\ w.houses[i].id = (i : Int)) /\ ∀ x ∈ w.radio, qLA x
end Go.Tk
namespace Go.Proofs.YtjioiemhgbkbfaaGreatDoor
open Go Go.Tk
theorem qNM {h : H} {d : DTollWorld} {v1 v2 v3 v4 v5 v6 : Value} (r : sTollWorld h d v1 v2 v3 v4 v5 v6) (hb : bWorld d) {R : Ending -> H -> Prop} (k : Asks R (kI d) h) :
  HCalls Tryz.prog 6 #[.agg (cTollWorld d v1 v2 v3 v4 v5 v6).toArray] h R := by
 refine qD lite (args := [.agg (cTollWorld d v1 v2 v3 v4 v5 v6).toArray]) Tryz.func6 ?_
 conv => arg 2; cbv
 rw [qR]
 have b1 := hb.rlen
 have b2 := hb.hlen
 unfold lim at b1 b2
 simp only [wK, seval, yU]
 refine qC (o := blk (cTollWorld d v1 v2 v3 v4 v5 v6) 43) fun j1 h1 => ?_
 obtain ⟨M, hM⟩ : ∃ M, M = (j1, blk (cTollWorld d v1 v2 v3 v4 v5 v6) 43) :: h := ⟨_, rfl⟩
 have sM : Tk.Sub h M := by rw [hM]; exact Sub.cons h1 (Sub.refl _)
 have gM : hget M j1 = some (blk (cTollWorld d v1 v2 v3 v4 v5 v6) 43) := by rw [hM]; exact qJ _ _ _
 have c0 : hcel M j1 0 = some (.int .i64 d.time) := qE gM rfl
 have cg : qT M j1 1 6 = some (zN d.gate v1 v2 v3) := by unfold qT; rw [gM]; rfl
 have c7 : hcel M j1 7 = some v4 := qE gM rfl
 have c8 : hcel M j1 8 = some v5 := qE gM rfl
 have c9 : hcel M j1 9 = some v6 := qE gM rfl
 have rg : sGate M d.gate v1 v2 v3 := sGate.sub sM ⟨r.1, r.2.1, r.2.2.1⟩
 have rh := (r.2.2.2.1.subH sM).relImp fun _ _ q => rHouse.sub sM q
 have rr := (r.2.2.2.2.1.subH sM).relImp fun _ _ q => rWord.sub sM q
 have rc := (r.2.2.2.2.2.subH sM).relImp fun _ _ q => rTollCall.sub sM q
 rw [<- hM]
 try simp only [wK, seval, c0]
 refine zY fun q1 k1 => ?_
 cases q1 with
 | false => simp only [wK, seval]; exact k.dno sM fun x => zA k1 rfl x.1
 | true =>
 have htm := (k1.1 rfl).2
 simp only [wK, seval, cg]
 refine qNN rg hb.gate fun q2 k2 => ?_
 cases q2 with
 | false => simp only [wK, seval]; exact k.dno sM fun x => zA k2 rfl x.2.1
 | true =>
 simp only [wK, seval, c7, rh.len]
 refine zF (fun e => k.dno sM fun x => e (by have := x.2.2.1; omega)) fun e3 => ?_
 simp only [wK, seval, c8, rr.len]
 refine qF (fun e => k.dno sM fun x => by have := x.2.2.2.1; omega) fun e60 => ?_
 simp only [wK, seval, c9, c0]
 refine qNW rc hb.calls htm fun q5 k5 => ?_
 cases q5 with
 | false => simp only [wK, seval]; exact k.dno sM fun x => zA k5 rfl x.2.2.2.2.1
 | true =>
 simp only [wK, seval]
 refine qP [3] (fun n vs h' => ∃ i : Nat, vs = [.int .i64 i] /\ h' = M /\ i <= d.houses.length /\ n = d.houses.length - i /\ ∀ j (hj : j < d.houses.length), j < i -> wT d.houses[j] /\ d.houses[j].id = (j : Int)) d.houses.length rfl ⟨0, rfl, rfl, by omega, by omega, fun j hj hn => absurd hn (Nat.not_lt_zero _)⟩ ?_
 rintro n f h' ⟨i, hv, rfl, hi, rfl, ht⟩
 simp only [lm4] at hv
 simp only [wK, seval, wr, hv, c7, rh.len]
 refine qF (fun c => ?_) fun c => ?_
 ·have hi2 : i < d.houses.length := by omega
  obtain ⟨b1, o1, cs, hx, e1, va, vb, vc, rfl, sr⟩ := zX rh hi2
  have f0 : hcel h' b1 o1 = some (.int .i64 d.houses[i].id) := zJ e1 0 rfl
  simp only [wK, seval, c7, hx, e1]
  refine qKI sr (hb.houses _ (List.getElem_mem hi2)) fun q6 k6 => ?_
  cases q6 with
  | false => simp only [wK, seval]; exact k.dno sM fun x => zA k6 rfl (x.2.2.2.2.2.1 i hi2).1
  | true =>
  simp only [wK, seval, c7, hx, f0]
  by_cases ei : d.houses[i].id = (i : Int)
  ·simp (disch := omega) only [wK, seval, ei, decide_true, Bool.not_true, qK]
   refine ⟨d.houses.length - (i + 1), by omega, h', .refl _, i + 1, by simp, rfl, by omega, rfl, fun j hj hn => ?_⟩
   by_cases ej : j = i
   ·subst ej; exact ⟨k6.1 rfl, ei⟩
   ·exact ht j hj (by omega)
  ·simp only [wK, seval, ei, decide_false, Bool.not_false]
   exact k.dno sM fun x => ei (x.2.2.2.2.2.1 i hi2).2
 ·have hi2 : i = d.houses.length := by omega
  refine qP [4] (fun n vs h2 => ∃ i : Nat, vs = [.int .i64 i] /\ h2 = h' /\ i <= d.radio.length /\ n = d.radio.length - i /\ ∀ x ∈ d.radio.take i, qLA x) d.radio.length rfl ⟨0, rfl, rfl, by omega, by omega, by simp⟩ ?_
  rintro n f2 h2 ⟨q, hv2, rfl, hq, rfl, hw⟩
  simp only [lm4] at hv2
  simp only [wK, seval, wr, hv2, c8, rr.len]
  refine qF (fun c => ?_) fun c => ?_
  ·have hq2 : q < d.radio.length := by omega
   obtain ⟨b1, o1, cs, hx, e1, va, vb, vc, rfl, sr⟩ := zX rr hq2
   simp only [wK, seval, c8, hx, e1]
   refine qNL sr (hb.radio _ (List.getElem_mem hq2)).len fun q6 k6 => ?_
   cases q6 with
   | false => simp only [wK, seval]; exact k.dno sM fun x => zA k6 rfl (x.2.2.2.2.2.2 _ (List.getElem_mem hq2))
   | true =>
   simp (disch := omega) only [wK, seval, qK]
   refine ⟨d.radio.length - (q + 1), by omega, h2, .refl _, q + 1, by simp, rfl, by omega, rfl, fun x hx => ?_⟩
   rw [yK hq2] at hx
   rcases List.mem_append.1 hx with hx | hx
   ·exact hw x hx
   ·rw [List.mem_singleton.1 hx]; exact k6.1 rfl
  ·have hq3 : q = d.radio.length := by omega
   rw [hq3, List.take_length] at hw
   try simp only [wK, seval]
   exact k.dyes sM ⟨k1.1 rfl, k2.1 rfl, by omega, by omega, k5.1 rfl, fun j hj => ht j hj (by omega), hw⟩
end Go.Proofs.YtjioiemhgbkbfaaGreatDoor
end

section
attribute [local irreducible] Go.Tk.vc Go.Tk.vops Go.Tk.vdr Go.Tk.vop Go.Tk.vfl Go.Tk.HCalls
namespace Go.Tk
open Go
def eIf (p : TypeId × Value) : List Value := [.iface p.1 p.2]
theorem qCD (p : TypeId × Value) : (eIf p).length = 1 := rfl
theorem qXV (l : List (TypeId × Value)) : (fl eIf l).all vone = true := by induction l <;> simp_all [fl, eIf, vone]
end Go.Tk
namespace Go.Proofs.YtjioiemhgbkbfaaGreatDoor
open Go Go.Tk
theorem tErrs : Tryz.prog.underlying 125 = some (.slice 72) := by kernel_rfl
theorem iErr : vB Tryz.prog 72 1 16 := vY (by kernel_rfl)
structure Ge (h : H) : Prop where
 e0 : ∃ te pe ty, hget h 0 = some (blk [.iface te pe] ty)
 e1 : ∃ te pe ty, hget h 1 = some (blk [.iface te pe] ty)
 e2 : ∃ te pe ty, hget h 2 = some (blk [.iface te pe] ty)
 e3 : ∃ te pe ty, hget h 3 = some (blk [.iface te pe] ty)
 e4 : ∃ te pe ty, hget h 4 = some (blk [.iface te pe] ty)
theorem Ge.sub {g h : H} (k : Ge g) (s : Tk.Sub g h) : Ge h := by
 obtain ⟨⟨a1, b1, c1, d1⟩, ⟨a2, b2, c2, d2⟩, ⟨a3, b3, c3, d3⟩, ⟨a4, b4, c4, d4⟩, ⟨a5, b5, c5, d5⟩⟩ := k
 exact ⟨⟨a1, b1, c1, s _ _ d1⟩, ⟨a2, b2, c2, s _ _ d2⟩, ⟨a3, b3, c3, s _ _ d3⟩, ⟨a4, b4, c4, s _ _ d4⟩, ⟨a5, b5, c5, s _ _ d5⟩⟩
theorem qIJ {M : H} {jf : Nat} {v : Value} {L : List (TypeId × Value)} {S : Nat -> Prop} {ok : Bool} {te : TypeId} {pe : Value} (g : hget M jf = some (blk [v] 125)) (d : dL 72 eIf 1 M v L S) (hj : ¬ S jf) (hl : L.length <= 1000)
  {R : Ending -> H -> Prop} (k : ∀ M' v' L' S', hget M' jf = some (blk [v'] 125) -> dL 72 eIf 1 M' v' L' S' -> ¬ S' jf -> (∀ x, hget M x ≠ none -> ¬ S x -> x ≠ jf -> hget M' x = hget M x) -> (∀ x, S' x -> S x ∨ hget M x = none) -> (L' = [] ↔ L = [] /\ ok = true) -> L'.length <= L.length + 1 -> R (.returned (.tuple #[])) M') :
  HCalls Tryz.prog 60 #[.bool ok, .iface te pe, .pointer (some ⟨jf, 0, none⟩)] M R := by
 refine qD lite (args := [.bool ok, .iface te pe, .pointer (some ⟨jf, 0, none⟩)]) Tryz.func60 ?_
 conv => arg 2; cbv
 rw [qR]
 have c0 : hcel M jf 0 = some v := qE g rfl
 cases ok with
 | true =>
  simp only [wK, seval, Bool.not_true]
  exact .of (k M v L S g d hj (fun _ _ _ _ => rfl) (fun x q => .inl q) ⟨fun e => ⟨e, rfl⟩, fun e => e.1⟩ (by omega))
 | false =>
  simp only [wK, seval, Bool.not_false, c0]
  refine qC (o := blk (fl eIf [(te, pe)]) 72) fun j9 h9 => ?_
  obtain ⟨B, hB⟩ : ∃ B, B = (j9, blk (fl eIf [(te, pe)]) 72) :: M := ⟨_, rfl⟩
  have sB : Tk.Sub M B := by rw [hB]; exact Sub.cons h9 (Sub.refl _)
  have r9 : rLs B eIf 1 (.slice (some ⟨j9, 0, none⟩) 1 1) [(te, pe)] := by rw [hB]; exact (xU (e := 72) (j := j9) (l := [(te, pe)]) qCD).rd.sub (Sub.cons2 (Sub.nil _))
  have eB : (j9, blk [.iface te pe] 72) :: M = B := hB.symm
  first | rw [<- hB] | rw [eB]
  simp only [wK, seval]
  refine qFT qCD qXV tErrs iErr (d.frame fun y q => Sub.eq sB (d.in q)) r9 (by rw [List.length_singleton]; omega) (by rw [List.length_singleton]; omega) fun M5 w5 S5 d5 k5 f5 => ?_
  have gk : hget M5 jf = some (blk [v] 125) := by rw [k5 jf (by rw [sB _ _ g]; simp) hj]; exact sB _ _ g
  obtain ⟨Z, wZ, gZ, fZ⟩ := qBO (vs := [w5]) (cs' := [w5]) (o := 0) gk (by show 0 + 1 <= 1; omega) rfl
  have on5 := d5.one
  have vc5 := vc1 on5
  have nj : ∀ x, S5 x -> x ≠ jf := fun x q c => by
   rcases f5 x q with e | e
   ·exact hj (c ▸ e)
   ·rw [c, sB _ _ g] at e; cases e
  simp only [wK, seval, on5, vc5, wZ]
  refine .of (k Z w5 (L ++ [(te, pe)]) S5 gZ (d5.frame fun x q => fZ x (nj x q)) (fun q => nj jf q rfl) (fun x e1 e2 e3 => ?_) (fun x q => ?_) ⟨fun e => by simp at e, fun e => by cases e.2⟩ (by simp))
  ·rw [fZ x e3, k5 x (by rw [Sub.eq sB e1]; exact e1) e2, Sub.eq sB e1]
  ·rcases f5 x q with e | e
   ·exact .inl e
   ·exact .inr (sB.none' e)
theorem join_c {h : H} {v : Value} {L : List (TypeId × Value)} (r : rLs h eIf 1 v L) (hl : L.length <= 1000) {R : Ending -> H -> Prop} (k1 : L = [] -> R (.returned .nilIface) h) (k2 : L ≠ [] -> ∀ te pe, R (.returned (.iface te pe)) h) :
  HCalls Tryz.prog 66 #[v] h R := by
 refine qD lite (args := [v]) Tryz.func66 ?_
 conv => arg 2; cbv
 simp only [wK, seval, r.len]
 refine qP [11, 3] (fun n vs h' => ∃ i : Nat, vs = [.int .i64 i, .int .i64 i] /\ h' = h /\ i <= L.length /\ n = L.length - i) L.length rfl ⟨0, rfl, rfl, by omega, rfl⟩ ?_
 rintro n f h' ⟨i, hv, rfl, hi, rfl⟩
 simp only [lm4] at hv
 simp only [wK, seval, wr, hv.1, hv.2]
 refine qF (fun c => ?_) fun c => ?_
 ·have hi2 : i < L.length := by omega
  obtain ⟨b1, o1, hx, e1⟩ := yT (enc := eIf) (sz := 1) qCD r hi2
  have f1 : hcel h' b1 o1 = some (.iface L[i].1 L[i].2) := zJ e1 0 rfl
  simp (disch := omega) only [wK, seval, hx, f1, qK]
  exact ⟨L.length - (i + 1), by omega, h', .refl _, i + 1, by simp, rfl, by omega, rfl⟩
 have hi2 : i = L.length := by omega
 subst hi2
 by_cases e0 : (L.length : Int) = 0
 ·simp only [wK, seval, e0, decide_true]
  exact .of (k1 (List.eq_nil_of_length_eq_zero (by omega)))
 have hne : L ≠ [] := fun e => e0 (by rw [e]; rfl)
 simp only [wK, seval, e0, decide_false]
 refine ⟨⟨by omega, by omega, by omega⟩, qC fun j23 h23 => ?_⟩
 have o0 : oLs 72 eIf 1 (.slice (some ⟨j23, 0, none⟩) 0 L.length) [] [(j23, blk (zrep [.nilIface] L.length) 72)] :=
  ⟨rfl, .inr ⟨j23, L.length, zrep [.nilIface] L.length, rfl, Nat.zero_le _, by simp [zrep, zHF], rfl⟩⟩
 obtain ⟨A, hA⟩ : ∃ A, A = (j23, blk (zrep [.nilIface] L.length) 72) :: h' := ⟨_, rfl⟩
 have sA : Tk.Sub h' A := by rw [hA]; exact Sub.cons h23 (Sub.refl _)
 have d0 : dL 72 eIf 1 A (.slice (some ⟨j23, 0, none⟩) 0 L.length) [] (fun x => hget [(j23, blk (zrep [.nilIface] L.length) 72)] x ≠ none) := dL.of (h := A) o0 (by rw [hA]; exact Sub.cons2 (Sub.nil _))
 try simp only [Int.toNat_natCast]
 rw [<- hA]
 simp only [wK, seval, Int.toNat_natCast]
 refine qC (o := blk [.slice (some ⟨j23, 0, none⟩) 0 L.length] 193) fun j6 h6 => ?_
 obtain ⟨B, hB⟩ : ∃ B, B = (j6, blk [.slice (some ⟨j23, 0, none⟩) 0 L.length] 193) :: A := ⟨_, rfl⟩
 have sB : Tk.Sub A B := by rw [hB]; exact Sub.cons h6 (Sub.refl _)
 have g6 : hget B j6 = some (blk [.slice (some ⟨j23, 0, none⟩) 0 L.length] 193) := by rw [hB]; exact qJ _ _ _
 have h6h : hget h' j6 = none := sA.none' h6
 rw [<- hB]
 simp only [wK, seval, r.len]
 refine qP [28] (fun n vs M' => ∃ (i : Nat) (w : Value) (S : Nat -> Prop), vs = [.int .i64 i] /\ Tk.Sub h' M' /\ hget M' j6 = some (blk [w] 193) /\ dL 72 eIf 1 M' w (L.take i) S /\ (∀ x, S x -> hget h' x = none /\ x ≠ j6) /\ i <= L.length /\ n = L.length - i) L.length rfl
  ⟨0, _, _, rfl, sA.trans sB, g6, d0.frame (fun x q => Sub.eq sB (d0.in q)), fun x q => ?_, by omega, rfl⟩ ?_
 ·have hx : x = j23 := Classical.byContradiction fun c => q (by rw [zM, if_neg c, jP])
  refine ⟨by rw [hx]; exact h23, fun c => ?_⟩
  rw [<- c, hx, hA] at h6
  rw [qJ] at h6; cases h6
 rintro n f2 M2 ⟨i, w, S, hv2, s2, gj, dW, hS, hi2, rfl⟩
 simp only [lm4] at hv2
 simp only [wK, seval, wr, hv2]
 refine qF (fun c => ?_) fun c => ?_
 ·have hi3 : i < L.length := by omega
  obtain ⟨b1, o1, hx, e1⟩ := yT (enc := eIf) (sz := 1) qCD (r.sub s2) hi3
  obtain ⟨p, hpp⟩ : ∃ p, p = L[i] := ⟨_, rfl⟩
  have htk : L.take (i + 1) = L.take i ++ [p] := by rw [hpp]; exact yK hi3
  have hlen : (L.take i).length <= i := by rw [List.length_take]; omega
  rw [<- hpp] at e1
  have f1 : hcel M2 b1 o1 = some (.iface p.1 p.2) := zJ e1 0 rfl
  have c6 : hcel M2 j6 0 = some w := qE gj rfl
  simp only [wK, seval, hx, f1, c6]
  refine qC (o := blk (fl eIf [p]) 72) fun j9 h9 => ?_
  obtain ⟨C, hC⟩ : ∃ C, C = (j9, blk (fl eIf [p]) 72) :: M2 := ⟨_, rfl⟩
  have sC : Tk.Sub M2 C := by rw [hC]; exact Sub.cons h9 (Sub.refl _)
  have r9 : rLs C eIf 1 (.slice (some ⟨j9, 0, none⟩) 1 1) [p] := by rw [hC]; exact (xU (e := 72) (j := j9) (l := [p]) qCD).rd.sub (Sub.cons2 (Sub.nil _))
  have eC : (j9, blk [.iface p.1 p.2] 72) :: M2 = C := hC.symm
  first | rw [<- hC] | rw [eC]
  simp only [wK, seval]
  refine qFT qCD qXV tErrs iErr (dW.frame fun y q => Sub.eq sC (dW.in q)) r9 (by rw [List.length_singleton]; omega) (by rw [List.length_singleton]; omega) fun M5 w5 S5 d5 k5 f5 => ?_
  have gk : hget M5 j6 = some (blk [w] 193) := by rw [k5 j6 (by rw [sC _ _ gj]; simp) (fun q => (hS _ q).2 rfl)]; exact sC _ _ gj
  obtain ⟨Z, wZ, gZ, fZ⟩ := qBO (vs := [w5]) (cs' := [w5]) (o := 0) gk (by show 0 + 1 <= 1; omega) rfl
  have on5 := d5.one
  have vc5 := vc1 on5
  have nS : ∀ x, S5 x -> hget h' x = none /\ x ≠ j6 := fun x q => by
   rcases f5 x q with e | e
   ·exact hS x e
   ·exact ⟨s2.none' (sC.none' e), fun c => by rw [c, sC _ _ gj] at e; cases e⟩
  simp (disch := omega) only [wK, seval, on5, vc5, wZ, qK]
  refine ⟨L.length - (i + 1), by omega, Z, .refl _, i + 1, w5, S5, by simp, fun y o e => ?_, gZ, by rw [htk]; exact d5.frame fun x q => fZ x (nS x q).2, nS, by omega, rfl⟩
  have n1 : y ≠ j6 := fun c => by rw [c, h6h] at e; cases e
  have hM := s2 _ _ e
  rw [fZ y n1, k5 y (by rw [sC _ _ hM]; simp) (fun q => by rw [(hS y q).1] at e; cases e)]
  exact sC _ _ hM
 ·try simp only [wK, seval]
  exact ⟨h', s2, k2 hne _ _⟩
end Go.Proofs.YtjioiemhgbkbfaaGreatDoor
end

section
namespace Go.Tk
open Go
theorem kM {P : Program} {w : World} {l : List (String × DataW Unit)} (h : laidMet P l w) {n s : String} {d : DataW Unit} {g : Nat} {t : TypeId} {ms : Array (String × TypeId)} (hm : (n, .iface s d) ∈ l) (hg : P.globalNamed n = some g) (ht : (P.globals[g]?).map (·.type) = some t)
  (hu : P.underlying t = some (.interface ms)) : ∃ te pe ty, hget (full w) g = some (blk [.iface te pe] ty) := by
 obtain ⟨cs, fuel, p, h1, h2⟩ := qCX h hm hg ht
 have : ∃ te pe, cs = [.iface te pe] := by
  cases fuel with
  | zero => simp [DataW.trod] at h1
  | succ fuel =>
   match cs with
   | [] => simp [DataW.trod, hu] at h1
   | _ :: _ :: _ => simp [DataW.trod, hu] at h1
   | [c] =>
    cases c <;> simp [DataW.trod, hu] at h1
    rename_i u v
    exact ⟨u, v, rfl⟩
 obtain ⟨te, pe, rfl⟩ := this
 obtain ⟨ty, h3⟩ := h2 (by simp)
 exact ⟨te, pe, ty, h3⟩
end Go.Tk
namespace Go.Proofs.YtjioiemhgbkbfaaGreatDoor
open Go Go.Tk
theorem qGP : Tryz.prog.cellsOf 290 = 4 := by kernel_rfl
theorem qWE : Tryz.prog.cellsOf 217 = 6 := by kernel_rfl
theorem qSE : Tryz.prog.cellsOf 223 = 4 := by kernel_rfl
theorem qSI : Tryz.prog.cellsOf 221 = 3 := by kernel_rfl
theorem qOR : Tryz.prog.cellsOf 91 = 6 := by kernel_rfl
theorem qSF : Tryz.prog.cellsOf 96 = 17 := by kernel_rfl
theorem qGV : Tryz.prog.cellsOf 99 = 11 := by kernel_rfl
section
variable {X : Type} {enc : TypeId × Value -> X} {w : World} {base : Nat} {sp : Nat -> Bool} {held : Bool}
theorem qRI {m : Nat} {cs : List Value} {y : DataW X × List MemPlace} (hl : cs.length = 4) (h : DataW.trod enc Tryz.prog w base sp held m 290 cs = some y) : ∃ d : DHold, cs = zD d /\ True := by
 match cs, hl with
 | [c0, c1, c2, c3], _ =>
  obtain ⟨_, _, h0⟩ := qV Tryz.underlying290 h 0 0 1 (ty := 3) rfl zO rfl
  obtain ⟨_, _, h1⟩ := qV Tryz.underlying290 h 1 1 1 (ty := 3) rfl zO rfl
  obtain ⟨_, _, h2⟩ := qV Tryz.underlying290 h 2 2 1 (ty := 4) rfl uG rfl
  obtain ⟨_, _, h3⟩ := qV Tryz.underlying290 h 3 3 1 (ty := 4) rfl uG rfl
  obtain ⟨n0, rfl, _⟩ := yB h0
  obtain ⟨n1, rfl, _⟩ := yB h1
  obtain ⟨n2, rfl⟩ := qBX h2
  obtain ⟨n3, rfl⟩ := qBX h3
  exact ⟨⟨n0, n1, n2, n3⟩, rfl, trivial⟩
theorem in_lRec {m : Nat} {cs : List Value} {y : DataW X × List MemPlace} (hl : cs.length = 6) (h : DataW.trod enc Tryz.prog w base sp held m 217 cs = some y) : ∃ d : DRec, nRec (full w) cs d /\ uRec d := by
 match cs, hl with
 | [c0, c1, c2, c3, c4, c5], _ =>
  obtain ⟨_, _, h0⟩ := qV Tryz.underlying217 h 0 0 1 (ty := 3) rfl zO rfl
  obtain ⟨_, _, h1⟩ := qV Tryz.underlying217 h 1 1 1 (ty := 3) rfl zO rfl
  obtain ⟨_, _, h2⟩ := qV Tryz.underlying217 h 2 2 1 (ty := 3) rfl zO rfl
  obtain ⟨_, _, h3⟩ := qV Tryz.underlying217 h 3 3 1 (ty := 3) rfl zO rfl
  obtain ⟨_, _, h4⟩ := qV Tryz.underlying217 h 4 4 1 (ty := 61) rfl (by kernel_rfl) rfl
  obtain ⟨_, _, h5⟩ := qV Tryz.underlying217 h 5 5 1 (ty := 93) rfl (by kernel_rfl) rfl
  obtain ⟨n0, rfl, _⟩ := yB h0
  obtain ⟨n1, rfl, _⟩ := yB h1
  obtain ⟨n2, rfl, _⟩ := yB h2
  obtain ⟨n3, rfl, _⟩ := yB h3
  obtain ⟨n4, r4, b4⟩ := qAG h4
  obtain ⟨n5, r5, b5⟩ := qEE h5
  exact ⟨⟨n0, n1, n2, n3, n4, n5⟩, ⟨_, _, rfl, r4, r5⟩, ⟨maxB b4, maxB b5⟩⟩
theorem zGT {m : Nat} {cs : List Value} {y : DataW X × List MemPlace} (hl : cs.length = 4) (h : DataW.trod enc Tryz.prog w base sp held m 223 cs = some y) : ∃ d : DWork, nWork (full w) cs d /\ qPK d := by
 match cs, hl with
 | [c0, c1, c2, c3], _ =>
  obtain ⟨_, _, h0⟩ := qV Tryz.underlying223 h 0 0 1 (ty := 3) rfl zO rfl
  obtain ⟨_, _, h1⟩ := qV Tryz.underlying223 h 1 1 1 (ty := 3) rfl zO rfl
  obtain ⟨_, _, h2⟩ := qV Tryz.underlying223 h 2 2 1 (ty := 3) rfl zO rfl
  obtain ⟨_, _, h3⟩ := qV Tryz.underlying223 h 3 3 1 (ty := 61) rfl (by kernel_rfl) rfl
  obtain ⟨n0, rfl, _⟩ := yB h0
  obtain ⟨n1, rfl, _⟩ := yB h1
  obtain ⟨n2, rfl, _⟩ := yB h2
  obtain ⟨n3, r3, b3⟩ := qAG h3
  exact ⟨⟨n0, n1, n2, n3⟩, ⟨_, rfl, r3⟩, maxB b3⟩
theorem zGV {m : Nat} {cs : List Value} {y : DataW X × List MemPlace} (hl : cs.length = 3) (h : DataW.trod enc Tryz.prog w base sp held m 221 cs = some y) : ∃ d : DLock, nLock (full w) cs d /\ qPM d := by
 match cs, hl with
 | [c0, c1, c2], _ =>
  obtain ⟨_, _, h0⟩ := qV Tryz.underlying221 h 0 0 1 (ty := 3) rfl zO rfl
  obtain ⟨_, _, h1⟩ := qV Tryz.underlying221 h 1 1 1 (ty := 219) rfl (by kernel_rfl) rfl
  obtain ⟨_, _, h2⟩ := qV Tryz.underlying221 h 2 2 1 (ty := 219) rfl (by kernel_rfl) rfl
  obtain ⟨n0, rfl, _⟩ := yB h0
  obtain ⟨a1, len1, cap1, rfl⟩ := xB Tryz.underlying219 h1
  obtain ⟨n1, r1, b1, _⟩ := qAX (encA := zD) (ok := fun _ => True) Tryz.underlying219 qGP (by decide) h1 fun cs m y hl ht => qRI hl ht
  obtain ⟨a2, len2, cap2, rfl⟩ := xB Tryz.underlying219 h2
  obtain ⟨n2, r2, b2, _⟩ := qAX (encA := zD) (ok := fun _ => True) Tryz.underlying219 qGP (by decide) h2 fun cs m y hl ht => qRI hl ht
  exact ⟨⟨n0, n1, n2⟩, ⟨_, _, rfl, r1, r2⟩, ⟨maxB b1, maxB b2⟩⟩
theorem zBI {m : Nat} {cs : List Value} {y : DataW X × List MemPlace} (hl : cs.length = 6) (h : DataW.trod enc Tryz.prog w base sp held m 91 cs = some y) : ∃ d : DHouse, nHouse (full w) cs d /\ qHS d := by
 match cs, hl with
 | [c0, c1, c2, c3, c4, c5], _ =>
  obtain ⟨_, _, h0⟩ := qV Tryz.underlying91 h 0 0 1 (ty := 3) rfl zO rfl
  obtain ⟨_, _, h1⟩ := qV Tryz.underlying91 h 1 1 1 (ty := 4) rfl uG rfl
  obtain ⟨_, _, h2⟩ := qV Tryz.underlying91 h 2 2 1 (ty := 87) rfl (by kernel_rfl) rfl
  obtain ⟨_, _, h3⟩ := qV Tryz.underlying91 h 3 3 1 (ty := 3) rfl zO rfl
  obtain ⟨_, _, h4⟩ := qV Tryz.underlying91 h 4 4 1 (ty := 88) rfl (by kernel_rfl) rfl
  obtain ⟨_, _, h5⟩ := qV Tryz.underlying91 h 5 5 1 (ty := 89) rfl (by kernel_rfl) rfl
  obtain ⟨n0, rfl, _⟩ := yB h0
  obtain ⟨n1, rfl⟩ := qBX h1
  obtain ⟨a2, len2, cap2, rfl⟩ := xB Tryz.underlying87 h2
  obtain ⟨n2, r2, b2, u2⟩ := vG Tryz.underlying87 qWE (by decide) h2 fun cs m y hl ht => in_lRec hl ht
  obtain ⟨n3, rfl, _⟩ := yB h3
  obtain ⟨a4, len4, cap4, rfl⟩ := xB Tryz.underlying88 h4
  obtain ⟨n4, r4, b4, u4⟩ := vG Tryz.underlying88 qSI (by decide) h4 fun cs m y hl ht => zGV hl ht
  obtain ⟨a5, len5, cap5, rfl⟩ := xB Tryz.underlying89 h5
  obtain ⟨n5, r5, b5, u5⟩ := vG Tryz.underlying89 qSE (by decide) h5 fun cs m y hl ht => zGT hl ht
  exact ⟨⟨n0, n1, n2, n3, n4, n5⟩, ⟨_, _, _, rfl, r2, r4, r5⟩, ⟨⟨maxB b2, u2⟩, ⟨maxB b4, u4⟩, ⟨maxB b5, u5⟩⟩⟩
theorem zGU {m : Nat} {cs : List Value} {y : DataW X × List MemPlace} (hl : cs.length = 17) (h : DataW.trod enc Tryz.prog w base sp held m 96 cs = some y) : ∃ d : DWord, nWord (full w) cs d /\ qPL d := by
 match cs, hl with
 | [c0, c1, c2, c3, c4, c5, c6, c7, c8, c9, c10, c11, c12, c13, c14, c15, c16], _ =>
  obtain ⟨_, _, h0⟩ := qV Tryz.underlying96 h 0 0 1 (ty := 3) rfl zO rfl
  obtain ⟨_, _, h1⟩ := qV Tryz.underlying96 h 1 1 1 (ty := 3) rfl zO rfl
  obtain ⟨_, _, h2⟩ := qV Tryz.underlying96 h 2 2 1 (ty := 3) rfl zO rfl
  obtain ⟨_, _, h3⟩ := qV Tryz.underlying96 h 3 3 1 (ty := 3) rfl zO rfl
  obtain ⟨_, _, h4⟩ := qV Tryz.underlying96 h 4 4 1 (ty := 3) rfl zO rfl
  obtain ⟨_, _, h5⟩ := qV Tryz.underlying96 h 5 5 1 (ty := 3) rfl zO rfl
  obtain ⟨_, _, h6⟩ := qV Tryz.underlying96 h 6 6 1 (ty := 4) rfl uG rfl
  obtain ⟨_, _, h7⟩ := qV Tryz.underlying96 h 7 7 1 (ty := 61) rfl (by kernel_rfl) rfl
  obtain ⟨_, _, h8⟩ := qV Tryz.underlying96 h 8 8 1 (ty := 93) rfl (by kernel_rfl) rfl
  obtain ⟨_, _, h9⟩ := qV Tryz.underlying96 h 9 9 1 (ty := 3) rfl zO rfl
  obtain ⟨_, _, h10⟩ := qV Tryz.underlying96 h 10 10 1 (ty := 61) rfl (by kernel_rfl) rfl
  obtain ⟨_, _, h11⟩ := qV Tryz.underlying96 h 11 11 6 (ty := 94) rfl jZ rfl
  obtain ⟨n0, rfl, _⟩ := yB h0
  obtain ⟨n1, rfl, _⟩ := yB h1
  obtain ⟨n2, rfl, _⟩ := yB h2
  obtain ⟨n3, rfl, _⟩ := yB h3
  obtain ⟨n4, rfl, _⟩ := yB h4
  obtain ⟨n5, rfl, _⟩ := yB h5
  obtain ⟨n6, rfl⟩ := qBX h6
  obtain ⟨n7, r7, b7⟩ := qAG h7
  obtain ⟨n8, r8, b8⟩ := qEE h8
  obtain ⟨n9, rfl, _⟩ := yB h9
  obtain ⟨n10, r10, b10⟩ := qAG h10
  obtain ⟨n11, hc11, _, _, _, _, _, ht11⟩ := qHD rfl h11
  simp only [zV, List.cons.injEq, and_true] at hc11
  obtain ⟨rfl, rfl, rfl, rfl, rfl, rfl⟩ := hc11
  exact ⟨⟨n0, n1, n2, n3, n4, n5, n6, n7, n8, n9, n10, n11⟩, ⟨_, _, _, rfl, r7, r8, r10⟩, ⟨maxB b7, maxB b8, maxB b10, maxB ht11⟩⟩
theorem qOC {m : Nat} {cs : List Value} {y : DataW X × List MemPlace} (hl : cs.length = 11) (h : DataW.trod enc Tryz.prog w base sp held m 99 cs = some y) : ∃ d : DTollCall, nTollCall (full w) cs d /\ kK d := by
 match cs, hl with
 | [c0, c1, c2, c3, c4, c5, c6, c7, c8, c9, c10], _ =>
  obtain ⟨_, _, h0⟩ := qV Tryz.underlying99 h 0 0 6 (ty := 94) rfl jZ rfl
  obtain ⟨_, _, h1⟩ := qV Tryz.underlying99 h 1 6 1 (ty := 3) rfl zO rfl
  obtain ⟨_, _, h2⟩ := qV Tryz.underlying99 h 2 7 1 (ty := 3) rfl zO rfl
  obtain ⟨_, _, h3⟩ := qV Tryz.underlying99 h 3 8 1 (ty := 4) rfl uG rfl
  obtain ⟨_, _, h4⟩ := qV Tryz.underlying99 h 4 9 1 (ty := 3) rfl zO rfl
  obtain ⟨_, _, h5⟩ := qV Tryz.underlying99 h 5 10 1 (ty := 61) rfl (by kernel_rfl) rfl
  obtain ⟨n0, hc0, _, _, _, _, _, ht0⟩ := qHD rfl h0
  obtain ⟨n1, rfl, _⟩ := yB h1
  obtain ⟨n2, rfl, _⟩ := yB h2
  obtain ⟨n3, rfl⟩ := qBX h3
  obtain ⟨n4, rfl, _⟩ := yB h4
  obtain ⟨n5, r5, b5⟩ := qAG h5
  simp only [zV, List.cons.injEq, and_true] at hc0
  obtain ⟨rfl, rfl, rfl, rfl, rfl, rfl⟩ := hc0
  exact ⟨⟨n0, n1, n2, n3, n4, n5⟩, ⟨_, rfl, r5⟩, ⟨maxB ht0, maxB b5⟩⟩
theorem qKN {m : Nat} {cs : List Value} {y : DataW X × List MemPlace} (hl : cs.length = 10) (h : DataW.trod enc Tryz.prog w base sp held m 31 cs = some y) : ∃ (d : DTollWorld) (v1 v2 v3 v4 v5 v6 : Value), cs = cTollWorld d v1 v2 v3 v4 v5 v6 /\ nWorld (full w) d v1 v2 v3 v4 v5 v6 /\ qNA d := by
 match cs, hl with
 | [c0, c1, c2, c3, c4, c5, c6, c7, c8, c9], _ =>
  obtain ⟨_, _, h0⟩ := qV Tryz.underlying31 h 0 0 1 (ty := 3) rfl zO rfl
  obtain ⟨_, _, h1⟩ := qV Tryz.underlying31 h 1 1 6 (ty := 26) rfl qSK rfl
  obtain ⟨_, _, h2⟩ := qV Tryz.underlying31 h 2 7 1 (ty := 27) rfl (by kernel_rfl) rfl
  obtain ⟨_, _, h3⟩ := qV Tryz.underlying31 h 3 8 1 (ty := 28) rfl (by kernel_rfl) rfl
  obtain ⟨_, _, h4⟩ := qV Tryz.underlying31 h 4 9 1 (ty := 29) rfl (by kernel_rfl) rfl
  obtain ⟨n0, rfl, _⟩ := yB h0
  obtain ⟨n1, g1, g2, g3, hc1, r1, u1⟩ := in_gate rfl h1
  obtain ⟨a2, len2, cap2, rfl⟩ := xB Tryz.underlying27 h2
  obtain ⟨n2, r2, b2, u2⟩ := vG Tryz.underlying27 qOR (by decide) h2 fun cs m y hl ht => zBI hl ht
  obtain ⟨a3, len3, cap3, rfl⟩ := xB Tryz.underlying28 h3
  obtain ⟨n3, r3, b3, u3⟩ := vG Tryz.underlying28 qSF (by decide) h3 fun cs m y hl ht => zGU hl ht
  obtain ⟨a4, len4, cap4, rfl⟩ := xB Tryz.underlying29 h4
  obtain ⟨n4, r4, b4, u4⟩ := vG Tryz.underlying29 qGV (by decide) h4 fun cs m y hl ht => qOC hl ht
  simp only [zN, List.cons.injEq, and_true] at hc1
  obtain ⟨rfl, rfl, rfl, rfl, rfl, rfl⟩ := hc1
  exact ⟨⟨n0, n1, n2, n3, n4⟩, _, _, _, _, _, _, rfl, ⟨r1, r2, r3, r4⟩, ⟨u1, ⟨maxB b2, u2⟩, ⟨maxB b3, u3⟩, ⟨maxB b4, u4⟩⟩⟩
end
theorem ge_of {w : World} {l : List (String × DataW Unit)} {s : String} {d0 d1 d2 d3 d4 : DataW Unit} (h : laidMet Tryz.prog l w) (h0 : ("loop.example/turnpike/impl.errTime", .iface s d0) ∈ l) (h1 : ("loop.example/turnpike/impl.errGate", .iface s d1) ∈ l) (h2 : ("loop.example/turnpike/impl.errHouses", .iface s d2) ∈ l) (h3 : ("loop.example/turnpike/impl.errRadio", .iface s d3) ∈ l) (h4 : ("loop.example/turnpike/impl.errCalls", .iface s d4) ∈ l) : Ge (full w) where
 e0 := kM h (g := 0) h0 (by kernel_rfl) (t := 72) (by kernel_rfl) Tryz.underlying72
 e1 := kM h (g := 1) h1 (by kernel_rfl) (t := 72) (by kernel_rfl) Tryz.underlying72
 e2 := kM h (g := 2) h2 (by kernel_rfl) (t := 72) (by kernel_rfl) Tryz.underlying72
 e3 := kM h (g := 3) h3 (by kernel_rfl) (t := 72) (by kernel_rfl) Tryz.underlying72
 e4 := kM h (g := 4) h4 (by kernel_rfl) (t := 72) (by kernel_rfl) Tryz.underlying72
theorem vars5 {H : Type} {enc : TypeId × Value -> H} {P : Program} {w : World} {sp : Nat -> Bool} {a b c d e : String} {gs : List (DataW H)} {ps : List MemPlace} (h : DataW.TrodVars enc P w sp [a, b, c, d, e] gs ps) : ∃ x0 x1 x2 x3 x4, gs = [x0, x1, x2, x3, x4] := by
 match gs, h with
 | [], h => exact h.elim
 | x0 :: gs, h =>
  obtain ⟨_, _, _, _, _, _, _, _, _, _, h, _⟩ := h
  match gs, h with
  | [], h => exact h.elim
  | x1 :: gs, h =>
   obtain ⟨_, _, _, _, _, _, _, _, _, _, h, _⟩ := h
   match gs, h with
   | [], h => exact h.elim
   | x2 :: gs, h =>
    obtain ⟨_, _, _, _, _, _, _, _, _, _, h, _⟩ := h
    match gs, h with
    | [], h => exact h.elim
    | x3 :: gs, h =>
     obtain ⟨_, _, _, _, _, _, _, _, _, _, h, _⟩ := h
     match gs, h with
     | [], h => exact h.elim
     | x4 :: gs, h =>
      obtain ⟨_, _, _, _, _, _, _, _, _, _, h, _⟩ := h
      obtain ⟨rfl, _⟩ := Go.ChangeShapes.trodVars_none h
      exact ⟨x0, x1, x2, x3, x4, rfl⟩
end Go.Proofs.YtjioiemhgbkbfaaGreatDoor
end

section
namespace Go.Tk
open Go Go.ChangeShapes
variable {P : Program} {f : FuncId} {fn : Func} {s : ChangeSpec} {c : OpenClaim}
def joined1 (P : Program) (fn : Func) (s : ChangeSpec) (c : OpenClaim) : Bool := c.wf (OpenSpec.ofChange s) && laidOutB P && mapsRowed P && fn.params.all (P.readableRec ·) && namedTie P c.named s.vars && (c.stops == []) && (P.stops == []) && (c.knobs == []) && (P.stopKnobs == [])
def joined2 (P : Program) (f : FuncId) (c : OpenClaim) : Bool := (c.inPlace == P.inPlace f) && (c.unfollowed == P.unfollowed f) && (c.recurses == P.recurses f)
def joined3 (P : Program) (f : FuncId) (c : OpenClaim) : Bool := c.named == P.varsNamed f
def joined4 (P : Program) (fn : Func) (s : ChangeSpec) (c : OpenClaim) : Bool := (c.maps == (fn.params.toList ++ s.plain.varTypes P).any (P.mapsRec ·)) && (c.ifaces == (fn.params.toList ++ s.plain.varTypes P).any (P.ifacesRec ·)) && (c.mapsOut == P.mapsAmong fn.resultTypes.toList)
def joined5 (P : Program) (fn : Func) (s : ChangeSpec) (c : OpenClaim) : Bool := (c.loops == (fn.params.toList ++ s.plain.varTypes P).any (P.loopsFrom ·)) && (c.wideKeys == (fn.params.toList ++ s.plain.varTypes P ++ fn.resultTypes.toList).any (P.wideKeysFrom ·))
def joined6 (P : Program) (fn : Func) (s : ChangeSpec) (c : OpenClaim) : Bool := s.vars.all (P.varReadable ·) && fn.resultTypes.all (fun t => P.readableRec t && decide (t < P.types.size)) && (c.ifacesOut == fn.resultTypes.toList.any (P.ifacesRec ·)) && (c.loopsOut == fn.resultTypes.toList.any (P.loopsFrom ·)) && (c.plainKeys == P.plainKeys) && c.shortTexts.isNone
def joined7 (P : Program) (fn : Func) (c : OpenClaim) : Bool := P.stopsHeard && P.mayEnter && (c.lifted == P.liftsFinal) && (P.make == some c.make) && (c.kinds == (if c.domain.isEmpty then [] else fn.params.toList.map fun t => match P.underlying t with | some (.int k) => some k | _ => none)) && (c.pinned == c.pinnedBy)
def joined8 (P : Program) (fn : Func) (s : ChangeSpec) (c : OpenClaim) : Bool := (c.veiled == (fn.params.toList ++ s.plain.varTypes P ++ fn.resultTypes.toList).any (P.veiledRec ·)) && c.veiledFits P fn.params.toList (fn.params.toList ++ s.plain.varTypes P ++ fn.resultTypes.toList)
theorem joined_of (h1 : joined1 P fn s c = true) (h2 : joined2 P f c = true) (h3 : joined3 P f c = true) (h4 : joined4 P fn s c = true) (h5 : joined5 P fn s c = true) (h6 : joined6 P fn s c = true) (h7 : joined7 P fn c = true) (h8 : joined8 P fn s c = true) : joinedFacts P f fn s c = true := by
 unfold joined1 at h1; unfold joined2 at h2; unfold joined3 at h3; unfold joined4 at h4; unfold joined5 at h5; unfold joined6 at h6; unfold joined7 at h7; unfold joined8 at h8
 unfold joinedFacts
 simp only [Bool.and_eq_true] at *
 obtain ⟨⟨⟨⟨⟨⟨⟨⟨a1, a2⟩, a3⟩, a4⟩, a5⟩, a6⟩, a7⟩, a8⟩, a9⟩ := h1
 obtain ⟨⟨b1, b2⟩, b3⟩ := h2
 obtain ⟨⟨d1, d2⟩, d3⟩ := h4
 obtain ⟨e1, e2⟩ := h5
 obtain ⟨⟨⟨⟨⟨f1, f2⟩, f3⟩, f4⟩, f5⟩, f6⟩ := h6
 obtain ⟨⟨⟨⟨⟨g1, g2⟩, g3⟩, g4⟩, g5⟩, g6⟩ := h7
 obtain ⟨i1, i2⟩ := h8
 exact ⟨⟨⟨⟨⟨⟨⟨⟨⟨⟨⟨⟨⟨⟨⟨⟨⟨⟨⟨⟨⟨⟨⟨⟨⟨⟨⟨⟨⟨⟨⟨a1, a2⟩, a3⟩, a4⟩, a5⟩, a6⟩, a7⟩, a8⟩, a9⟩, b1⟩, b2⟩, b3⟩, h3⟩, d1⟩, d2⟩, d3⟩, e1⟩, e2⟩, f1⟩, f2⟩, f3⟩, f4⟩, f5⟩, f6⟩, g1⟩, g2⟩, g3⟩, g4⟩, g5⟩, g6⟩, i1⟩, i2⟩
end Go.Tk
end
