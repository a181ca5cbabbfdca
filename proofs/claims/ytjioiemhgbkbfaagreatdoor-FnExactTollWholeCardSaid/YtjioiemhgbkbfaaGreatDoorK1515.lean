/- Parts of the proof. -/
import Derived.Test.YtjioiemhgbkbfaaGreatDoorK155
import Derived.Test.YtjioiemhgbkbfaaGreatDoorK1514
import Derived.Test.YtjioiemhgbkbfaaGreatDoorK1511
import Derived.Test.YtjioiemhgbkbfaaGreatDoorK1510
set_option maxHeartbeats 4000000
set_option maxRecDepth 100000
set_option linter.unusedVariables false
set_option linter.unusedSimpArgs false
set_option linter.defProp false
section
attribute [local irreducible] Go.Tk.vc Go.Tk.vops Go.Tk.vdr Go.Tk.vop Go.Tk.vfl Go.Tk.HCalls
namespace Go.Proofs.YtjioiemhgbkbfaaGreatDoor
open Go Go.Tk
theorem zGY {h : H} {x : DLive} {lk tl : Value} (gl : Gl h) (gm : MxL h) (r : sLive h x lk tl) (hb : bLive x) {R : Ending -> H -> Prop} (k : Asks R (qIW x) h) :
  HCalls Tryz.prog 108 #[.agg (zJ x lk tl).toArray] h R := by
 refine yK (args := [.agg (zJ x lk tl).toArray]) Tryz.func108 ir108 ?_
 have b1 := hb.l; have b2 := hb.t; have b3 := hb.c
 unfold qAX at b3
 unfold lim at b1 b2 b3
 simp only [wK, seval, wLive]
 refine qC (o := blk (zJ x lk tl) 103) fun j hj => ?_
 have s1 := Sub.cons (o := blk (zJ x lk tl) 103) hj (Sub.refl h)
 have r1 := r.sub s1
 obtain ⟨M, hM⟩ : ∃ M, M = (j, blk (zJ x lk tl) 103) :: h := ⟨_, rfl⟩
 have hMj : hget M j = some (blk (zJ x lk tl) 103) := by rw [hM]; exact qG _ _ _
 have f1 : hcel M j 1 = some (.int .i64 x.try_) := qE hMj rfl
 have f2 : hcel M j 2 = some (.int .i64 x.version) := qE hMj rfl
 have f3 : hcel M j 3 = some (.int .i64 x.phase) := qE hMj rfl
 have f4 : qV M j 4 6 = some (zW x.call) := by rw [hM]; simp only [wK, seval, wLive]
 have f10 : hcel M j 10 = some lk := qE hMj rfl
 have f11 : hcel M j 11 = some tl := qE hMj rfl
 rw [<- hM] at r1 s1 ⊢
 simp only [wK, seval, wLive, f1, f2, f3, f4, f10, f11]
 refine uF fun q1 hq1 => ?_
 cases q1 with
 | false =>
  simp only [wK, seval, wLive, f1, f2, f3, f4, f10, f11]
  exact k.dno s1 fun p => qW hq1 rfl p.1
 | true =>
 simp only [wK, seval, wLive, f1, f2, f3, f4, f10, f11]
 refine yO fun q2 hq2 => ?_
 cases q2 with
 | false =>
  simp only [wK, seval, wLive, f1, f2, f3, f4, f10, f11]
  exact k.dno s1 fun p => qW hq2 rfl p.2.1
 | true =>
 simp only [wK, seval, wLive, f1, f2, f3, f4, f10, f11]
 refine yO fun q3 hq3 => ?_
 cases q3 with
 | false =>
  simp only [wK, seval, wLive, f1, f2, f3, f4, f10, f11]
  exact k.dno s1 fun p => qW hq3 rfl p.2.2.1
 | true =>
 simp only [wK, seval, wLive, f1, f2, f3, f4, f10, f11]
 refine qEK (gl.sub s1) (gm.sub s1) (by omega) fun q4 hq4 => ?_
 cases q4 with
 | false =>
  simp only [wK, seval, wLive, f1, f2, f3, f4, f10, f11]
  exact k.dno s1 fun p => qW hq4 rfl p.2.2.2.1
 | true =>
 simp only [wK, seval, wLive, f1, f2, f3, f4, f10, f11]
 refine qIK (g := 123) (P := xH) (by kernel_rfl) (fun {a h R} k => jG k) r1.1 (by omega) fun q5 hq5 => ?_
 cases q5 with
 | false =>
  simp only [wK, seval, wLive, f1, f2, f3, f4, f10, f11]
  exact k.dno s1 fun p => qW hq5 rfl p.2.2.2.2.1
 | true =>
 simp only [wK, seval, wLive, f1, f2, f3, f4, f10, f11, r1.2.len]
 refine qP [36] (fun n vs h' => ∃ i : Nat, vs = [.int .i64 i] /\ h' = M /\ i <= x.told.length /\ n = x.told.length - i /\ (∀ t ∈ x.told.take i, xH t.house /\ xI t.pairs) /\ risU (·.house) x.told i) x.told.length rfl ⟨0, rfl, rfl, by omega, rfl, fun t ht => by simp at ht, xD _ _⟩ ?_
 rintro n f h' ⟨i, hv, rfl, hi, rfl, hall, hris⟩
 simp only [lm4] at hv
 simp only [wK, seval, wr, hv]
 refine qF (fun d1 => ?_) fun d1 => ?_
 ·have hi2 : i < x.told.length := by omega
  obtain ⟨b, o, cs, hx, e, pv, rfl, sp⟩ := zU r1.2 hi2
  have zt := qHR
  have hone := wTold.2.2.2.2.2.1 x.told[i] pv (rdS.one sp)
  simp only [wK, seval, hx, e, zt, wTold]
  refine qC (o := blk (yB zTold (.slice none 0 0)) 159) fun j4 hj4 => ?_
  simp only [wK, seval, zt, wTold, hone]
  obtain ⟨B, hB⟩ : ∃ B, B = (j4, blk (yB x.told[i] pv) 159) :: h' := ⟨_, rfl⟩
  have sB : Tk.Sub h' B := by rw [hB]; exact Sub.cons hj4 (Sub.refl _)
  have g11 := yA sB f11
  have l0 : hcel B j4 0 = some (.int .i64 x.told[i].house) := by rw [hB]; simp only [wK, seval, wTold]
  have l1 : hcel B j4 1 = some pv := by rw [hB]; simp only [wK, seval, wTold]
  have rt : rRs B (rTold h') 2 tl x.told := r1.2.subH sB
  have s2 := s1.trans sB
  have sBB := Sub.refl B
  rw [<- hB]
  have bt : x.told[i].pairs.length <= 1048576 := hb.ts _ (List.getElem_mem hi2)
  have no : ¬ (xH x.told[i].house /\ xI x.told[i].pairs) -> ¬ qIW x := fun g p => g (p.2.2.2.2.2.1.1 _ (List.getElem_mem hi2))
  refine zC _ (Sub.refl _) ?_
  simp only [wK, seval, g11, l0, l1, sBB]
  refine jG fun u1 hu1 => ?_
  cases u1 with
  | false =>
   simp only [wK, seval, g11, l0, l1, sBB]
   exact k.dno s2 (no fun g => qW hu1 rfl g.1)
  | true =>
  simp only [wK, seval, g11, l0, l1, sBB]
  refine jD (rLs.sub sB sp) (by omega) fun u2 hu2 => ?_
  cases u2 with
  | false =>
   simp only [wK, seval, g11, l0, l1, sBB]
   exact k.dno s2 (no fun g => qW hu2 rfl g.2)
  | true =>
  simp only [wK, seval, g11, l0, l1, sBB]
  refine qF (fun g1 => ?_) fun g1 => ?_
  ·have hi3 : i - 1 < x.told.length := by omega
   obtain ⟨b3, o3, cs3, hx3, e3, pv3, rfl, sp3⟩ := zU rt hi3
   have y0 : hcel B b3 o3 = some (.int .i64 x.told[i - 1].house) := by have := zK e3 0 rfl; rw [Nat.add_zero] at this; exact this
   have hw3 : IntKind.i64.wrap ((i : Int) - 1) = ((i - 1 : Nat) : Int) := by rw [qK _ ⟨by omega, by omega⟩]; omega
   simp only [wK, seval, hx3, y0, hw3, g11, l0, l1, sBB]
   refine xA (fun g2 => k.dno s2 fun p => vM (k := (·.house)) hi2 (by omega) (by show ¬ x.told[i - 1].house < x.told[i].house; omega) p.2.2.2.2.2.1.2) fun g2 => ?_
   have hris2 := xR hi2 (by omega) hris g2
   simp (disch := omega) only [wK, seval, qK, sBB]
   exact ⟨x.told.length - (i + 1), by omega, _, sB, i + 1, by simp, rfl, by omega, rfl, fun t ht => (by
    rw [List.take_succ_eq_append_getElem hi2] at ht
    rcases List.mem_append.1 ht with ht | ht
    ·exact hall t ht
    ·rw [List.mem_singleton.1 ht]; exact ⟨hu1.1 rfl, hu2.1 rfl⟩), hris2⟩
  ·have hris2 : risU (·.house) x.told (i + 1) := wG (by omega) hris
   simp (disch := omega) only [wK, seval, qK, sBB]
   exact ⟨x.told.length - (i + 1), by omega, _, sB, i + 1, by simp, rfl, by omega, rfl, fun t ht => (by
    rw [List.take_succ_eq_append_getElem hi2] at ht
    rcases List.mem_append.1 ht with ht | ht
    ·exact hall t ht
    ·rw [List.mem_singleton.1 ht]; exact ⟨hu1.1 rfl, hu2.1 rfl⟩), hris2⟩
 ·have ht : qXM x.told := ⟨by rw [List.take_of_length_le (by omega)] at hall; exact hall, xS (by omega) hris⟩
  have fin : ((x.phase = 0 -> x.locked = []) /\ (x.phase ≠ 2 -> x.told = [])) -> qIW x := fun g => ⟨hq1.1 rfl, hq2.1 rfl, hq3.1 rfl, hq4.1 rfl, hq5.1 rfl, ht, g.1, g.2⟩
  simp only [wK, seval, f3, f10, f11, r1.1.len, r1.2.len]
  have two : (x.phase = 0 -> x.locked = []) -> Asks R (qIW x) h -> dP R (if x.phase = 2 then Ending.returned (Value.bool true) else Ending.returned (Value.bool (decide ((x.told.length : Int) = 0)))) h' := fun e0 k => by
   split
   ·rename_i e2; exact k.dyes s1 (fin ⟨e0, fun e => absurd e2 e⟩)
   ·rename_i e2
    have : ((x.told.length : Int) = 0) ↔ qIW x := ⟨fun e => fin ⟨e0, fun _ => List.eq_nil_of_length_eq_zero (by omega)⟩, fun q => by rw [q.2.2.2.2.2.2.2 e2]; rfl⟩
    exact ⟨h, s1, k _ (by simpa using this)⟩
  have two' := fun e0 => two e0 k
  split
  ·rename_i e1
   have := two' fun e => absurd e e1
   split at this <;> split <;> first | exact this | contradiction
  ·rename_i e1
   split
   ·rename_i e3
    have := two' fun e => List.eq_nil_of_length_eq_zero (by omega)
    split at this <;> split <;> first | exact this | contradiction
   ·rename_i e3
    refine k.dno s1 fun q => e3 ?_
    rw [q.2.2.2.2.2.2.1 (Classical.not_not.1 e1)]; rfl
end Go.Proofs.YtjioiemhgbkbfaaGreatDoor
end

section
attribute [local irreducible] Go.Tk.vc Go.Tk.vops Go.Tk.vdr Go.Tk.vop Go.Tk.vfl Go.Tk.HCalls
namespace Go.Tk
open Go
section
variable {P : Program} {κ : Type} [DecidableEq κ] {enc : κ -> Value} {kt et t ty : TypeId} {i : TypeInfo} {z : Value} {ρ : Operand -> Value} {h : H} {K : Value -> H -> Prop} {X : List PanicEntry -> H -> Prop} {x y w : Operand} {r : Nat} {es : Array MapEntry} {c : Nat} {m : List (κ × Value)}
theorem qIL (k : ∀ r, hget h r = none -> K (.map (some r)) ((r, .map #[] 0) :: h)) : rawK P (.makeMap t none) ty ρ h K X := by
 unfold rawK
 simp only [execOp, mkO, yP, Option.map_none, Instr.makeMap, newObj, qH, qU]
 intro j hj
 exact k j hj
theorem uE (Kt : KeyT P kt enc) (ht : P.underlying t = some (.map kt et)) (hi : P.info? et = some i) (hz : i.zero = some z) (hx : ρ x = .map (some r)) {k : κ} (hk : ρ y = enc k) (hr : hget h r = some (.map es c)) (hm : mapO enc es m) {v : Value} (hv : (mget m k).getD z = v)
  (q : K v h) : rawK P (.lookup t x y false) ty ρ h K X := by
 unfold rawK
 simp only [execOp, mkO, yP, hx, hk]
 exact qNB Kt ht hi hz hr hm k (by rw [hv]; exact q)
theorem qAH (Kt : KeyT P kt enc) (ht : P.underlying t = some (.map kt et)) (hx : ρ x = .map (some r)) {k : κ} (hk : ρ y = enc k) {v : Value} (hw : ρ w = v) (hr : hget h r = some (.map es c)) (hm : mapO enc es m)
  (q : ∀ es' c', mapO enc es' (mput m k v) -> K undef (hupd h r (.map es' c'))) : rawK P (.mapUpdate t x y w) ty ρ h K X := by
 unfold rawK
 simp only [execOp, mkO, zDP, hx, hk, hw]
 exact qPL Kt ht hr hm k v q
end
def qBJ (log : List DRecord) (s : Int) : Int := match xX log s with
 | some r => r.call.number
 | none => 0
def xK (log : List DRecord) : List Int := [qBJ log 0, qBJ log 1, qBJ log 2]
theorem qRF (log : List DRecord) {s : Int} (h : 0 <= s /\ s <= 2) (hi : s.toNat < (xK log).length) : (xK log)[s.toNat] = qBJ log s := by
 have : s = 0 ∨ s = 1 ∨ s = 2 := by omega
 rcases this with rfl | rfl | rfl <;> rfl
theorem zBM (log : List DRecord) (r : DRecord) (s : Int) : qBJ (log ++ [r]) s = if r.call.session = s then r.call.number else qBJ log s := by
 unfold qBJ xX
 rw [List.reverse_append]
 simp only [List.reverse_cons, List.reverse_nil, List.nil_append, List.singleton_append, List.find?_cons]
 by_cases c : r.call.session = s
 ·simp [c]
 ·simp [c]
theorem zBN (log : List DRecord) (r : DRecord) (h : 0 <= r.call.session /\ r.call.session <= 2) : (xK log).set r.call.session.toNat r.call.number = xK (log ++ [r]) := by
 have : r.call.session = 0 ∨ r.call.session = 1 ∨ r.call.session = 2 := by omega
 unfold xK
 simp only [zBM]
 rcases this with e | e | e <;> simp [e]
theorem qEG {log : List DRecord} {s n : Int} (hn : 1 <= n) : qBJ log s < n ↔ ∀ x, xX log s = some x -> x.call.number < n := by
 unfold qBJ
 cases e : xX log s with
 | none => simp; omega
 | some r => simp
def qFH (m : List (Int × Value)) (log : List DRecord) : Prop := ∀ s, mget m s = if log.any (fun x => decide (x.stamp = s)) = true then some (.int .i64 1) else none
theorem qUJ : qFH [] [] := fun s => rfl
theorem qUK {m : List (Int × Value)} {log : List DRecord} {r : DRecord} (h : qFH m log) : qFH (mput m r.stamp (.int .i64 1)) (log ++ [r]) := fun s => by
 rw [qIT, h s, List.any_append]
 by_cases c : r.stamp = s
 ·simp [c]
 ·simp [c]
theorem qIC {m : List (Int × Value)} {log : List DRecord} (h : qFH m log) (s : Int) : ((mget m s).getD (.int .i64 0) = .int .i64 1 /\ ∃ x ∈ log, x.stamp = s) ∨ ((mget m s).getD (.int .i64 0) = .int .i64 0 /\ ∀ x ∈ log, x.stamp ≠ s) := by
 rw [h s]
 cases e : log.any (fun x => decide (x.stamp = s)) with
 | true =>
  refine .inl ⟨rfl, ?_⟩
  obtain ⟨x, hx, h2⟩ := List.any_eq_true.1 e
  exact ⟨x, hx, by simpa using h2⟩
 | false =>
  refine .inr ⟨rfl, fun x hx c => ?_⟩
  have := List.any_eq_false.1 e x hx
  simp [c] at this
end Go.Tk
end

section
attribute [local irreducible] Go.Tk.vc Go.Tk.vops Go.Tk.vdr Go.Tk.vop Go.Tk.vfl Go.Tk.HCalls
namespace Go.Proofs.YtjioiemhgbkbfaaGreatDoor
open Go Go.Tk
theorem tIntD : Tryz.prog.underlying 3 = some (.int .i64) := by kernel_rfl
theorem qNS : Tryz.prog.underlying 186 = some (.map 3 3) := by kernel_rfl
theorem qYB : KeyT Tryz.prog 3 (Value.int .i64) := keyInt tIntD
theorem iInt0 : ∃ i, Tryz.prog.info? 3 = some i /\ i.zero = some (.int .i64 0) := by
 obtain ⟨i, hi⟩ := Option.isSome_iff_exists.1 (show (Tryz.prog.info? 3).isSome = true by kernel_rfl)
 have : (Tryz.prog.info? 3).bind (·.zero) = some (.int .i64 0) := by kernel_rfl
 rw [hi] at this
 exact ⟨i, hi, this⟩
theorem qRZ {h : H} {g : DGate} {lg lv wy : Value} (gl : Gl h) (gm : MxL h) (r : rRs h (rRecord h) 11 lg g.log) (hb : allP bRecord g.log) (hl : g.log.length <= 1048576) (hn : inP 1 9999 g.next) {R : Ending -> H -> Prop}
  (kno : ¬ qMP g.log g.next -> ∀ v L h', L.length = 3 -> Tk.Sub h h' -> R (.returned (.tuple #[v, .agg (fl eI L).toArray, .bool false])) h')
  (kyes : qMP g.log g.next -> ∀ r es c m h', Tk.Sub h h' -> hget h' r = some (.map es c) -> mapO (Value.int .i64) es m -> qFH m g.log -> R (.returned (.tuple #[.map (some r), .agg (fl eI (xK g.log)).toArray, .bool true])) h') :
  HCalls Tryz.prog 107 #[.agg (zN g lg lv wy).toArray] h R := by
 refine yK (args := [.agg (zN g lg lv wy).toArray]) Tryz.func107 ir107 ?_
 simp only [wK, seval, yF]
 refine qC (o := blk (zN g lg lv wy) 38) fun j1 h1 => ?_
 simp only [wK, seval, yF]
 have z3 : [Value.int .i64 0, .int .i64 0, .int .i64 0] = fl eI [0, 0, 0] := rfl
 simp only [z3]
 refine qC (o := blk (fl eI [0, 0, 0]) 187) fun j3 h3 => ?_
 simp only [wK, seval, yF]
 refine qIL fun rr hr => ?_
 simp only [wK, seval, yF, z3]
 refine qC (o := blk (fl eI [0, 0, 0]) 187) fun j6 h6 => ?_
 have n3 := h3
 have nr := hr
 have n6 := h6
 simp only [subs] at n3 nr n6
 obtain ⟨B, hB⟩ : ∃ B, B = (j1, blk (zN g lg lv wy) 38) :: h := ⟨_, rfl⟩
 have sB : Tk.Sub h B := by rw [hB]; exact Sub.cons h1 (Sub.refl _)
 have gB : hget B j1 = some (blk (zN g lg lv wy) 38) := by rw [hB]; exact qG _ _ _
 have nB3 : hget B j3 = none := by rw [hB]; simp only [subs, n3]
 have nBr : hget B rr = none := by rw [hB]; simp only [subs, nr]
 have nB6 : hget B j6 = none := by rw [hB]; simp only [subs, n6]
 obtain ⟨i0, hi0, hz0⟩ := iInt0
 obtain ⟨M, hM⟩ : ∃ M, M = (j6, blk (fl eI [0, 0, 0]) 187) :: (rr, Obj.map #[] 0) :: (j3, blk (fl eI [0, 0, 0]) 187) :: B := ⟨_, rfl⟩
 have m6 : hget M j6 = some (blk (fl eI (xK [])) 187) := by rw [hM]; exact qG _ _ _
 have mr : hget M rr = some (.map #[] 0) := by rw [hM, xE _ _ _ (fun e => n6.1 e.symm)]; exact qG _ _ _
 have m3 : hget M j3 = some (blk (fl eI [0, 0, 0]) 187) := by rw [hM, xE _ _ _ (fun e => n6.2.1 e.symm), xE _ _ _ (fun e => nr.1 e.symm)]; exact qG _ _ _
 have sM : Tk.Sub B M := by rw [hM]; exact Sub.cons (by simp only [subs, nB6, n6]) (Sub.cons (by simp only [subs, nBr, nr]) (Sub.cons nB3 (Sub.refl _)))
 have jne : j3 ≠ j6 /\ j3 ≠ rr /\ rr ≠ j6 := ⟨fun e => n6.2.1 e.symm, fun e => nr.1 e.symm, fun e => n6.1 e.symm⟩
 have hc3 : ∀ {N : H}, Tk.Sub B N -> hcel N j1 3 = some lg := fun s => qE (s _ _ gB) rfl
 have hc2 : ∀ {N : H}, Tk.Sub B N -> hcel N j1 2 = some (.int .i64 g.next) := fun s => qE (s _ _ gB) rfl
 have hlen3 : ∀ L : List Int, L.length = 3 -> (fl eI L).length = 3 := fun L h => by rw [kJ yM, h]
 have ret3 : ∀ (N : H) (L : List Int), L.length = 3 -> hget N j3 = some (blk (fl eI [0, 0, 0]) 187) -> zQ N j3 0 (fl eI L) = some (hupd N j3 (blk (fl eI L) 187)) /\ qV (hupd N j3 (blk (fl eI L) 187)) j3 0 3 = some (fl eI L) := fun N L hL hN => by
  have h3 := hlen3 L hL
  have hw := yI (j := 0) (vs := fl eI L) hN (by rw [h3]; exact Nat.le_refl _)
  rw [yW (by rw [h3]; rfl)] at hw
  exact ⟨hw, zD (zH hN) h3⟩
 have sub3 : ∀ (N : H) (o : Obj), Tk.Sub B N -> Tk.Sub B (hupd N j3 o) := fun N o s => Sub.wr s nB3
 rw [<- hB, <- hM]
 simp only [wK, seval, hc3 sM, r.len]
 refine qF (fun c0 => ?_) fun c0 => ?_
 ·have rd6 : qV M j6 0 3 = some (fl eI (xK [])) := zD m6 rfl
  obtain ⟨w1, w2⟩ := ret3 M (xK []) rfl m3
  refine zC _ (Sub.refl _) ?_
  have hl3 := hlen3 (xK []) rfl
  have ho3 := qDE (xK [])
  simp only [wK, seval, rd6, hl3, ho3, w1, w2, Sub.refl M]
  refine .of (kno (fun q => ?_) _ (xK []) _ rfl (sB.trans (sub3 _ _ sM)))
  have := q.1; omega
 ·refine qP [19] (fun n vs M' => ∃ (i : Nat) (es : Array MapEntry) (c : Nat) (m : List (Int × Value)), vs = [.int .i64 i] /\ Tk.Sub B M' /\ hget M' j3 = some (blk (fl eI [0, 0, 0]) 187) /\ hget M' rr = some (.map es c) /\ hget M' j6 = some (blk (fl eI (xK (g.log.take i))) 187) /\ mapO (Value.int .i64) es m /\ qFH m (g.log.take i) /\ i <= g.log.length /\ n = g.log.length - i /\ ∀ q (hq : q < g.log.length), q < i -> qAG (g.log.take q) g.next g.log[q]) g.log.length rfl
   ⟨0, _, _, [], rfl, sM, m3, mr, by simpa using m6, rfl, by simpa using qUJ, by omega, rfl, fun q _ hq => absurd hq (Nat.not_lt_zero _)⟩ ?_
  rintro n f M' ⟨i, es, c, m, hv, sM', m3', mr', m6', hmo, hst, hi, rfl, hok⟩
  simp only [lm4] at hv
  simp only [wK, seval, wr, hv]
  have hL3 : (xK (g.log.take i)).length = 3 := rfl
  have hl3 := hlen3 (xK (g.log.take i)) rfl
  have ho3 := qDE (xK (g.log.take i))
  refine qF (fun c1 => ?_) fun c1 => ?_
  ·have hi2 : i < g.log.length := by omega
   have zr := uD
   obtain ⟨b, o, cs, hx, e, a1, a2, rfl, sr⟩ := zU (r.subH (sB.trans sM')) hi2
   have hone := wRecord.2.2.2.2.2.2.2.2.2.2.2.2.2.2.1 g.log[i] a1 a2 (rdS.one sr.1) (rdS.one sr.2)
   simp only [wK, seval, hx, e, zr, wRecord]
   refine qC (o := blk (qL zRecord (.slice none 0 0) (.slice none 0 0)) 106) fun j8 hj8 => ?_
   simp only [wK, seval, zr, wRecord, hone]
   obtain ⟨N, hN⟩ : ∃ N, N = (j8, blk (qL g.log[i] a1 a2) 106) :: M' := ⟨_, rfl⟩
   have sN : Tk.Sub M' N := by rw [hN]; exact Sub.cons hj8 (Sub.refl _)
   have gN : hget N j8 = some (blk (qL g.log[i] a1 a2) 106) := by rw [hN]; exact qG _ _ _
   have p0 : hcel N j8 0 = some (.int .i64 g.log[i].stamp) := qE gN rfl
   have p1 : hcel N j8 1 = some (.int .i64 g.log[i].try_) := qE gN rfl
   have p2 : hcel N j8 2 = some (.int .i64 g.log[i].call.session) := qE gN rfl
   have p3 : hcel N j8 3 = some (.int .i64 g.log[i].call.number) := qE gN rfl
   have p26 : qV N j8 2 6 = some (zW g.log[i].call) := by rw [hN]; simp only [wK, seval, wRecord]
   have p8 : hcel N j8 8 = some (.int .i64 g.log[i].code) := qE gN rfl
   have p9 : hcel N j8 9 = some a1 := qE gN rfl
   have p10 : hcel N j8 10 = some a2 := qE gN rfl
   have pn := hc2 (sM'.trans sN)
   have m6N := sN _ _ m6'
   have m3N := sN _ _ m3'
   have mrN := sN _ _ mr'
   have rd6 : qV N j6 0 3 = some (fl eI (xK (g.log.take i))) := zD m6N rfl
   obtain ⟨w1, w2⟩ := ret3 N (xK (g.log.take i)) rfl m3N
   have sNN := Sub.refl N
   have bb := hb _ (List.getElem_mem hi2)
   have bv := bb.v; have bp := bb.p; have bc := bb.c
   unfold qAX at bc
   unfold lim at bv bp bc
   have hnx : IntKind.i64.wrap (g.next - 1) = g.next - 1 := qK _ (by have := hn.1; have := hn.2; omega)
   have bad : ¬ qAG (g.log.take i) g.next g.log[i] -> ¬ qMP g.log g.next := fun q p => q (p.2 i hi2)
   have no : ¬ qAG (g.log.take i) g.next g.log[i] -> dP R (.returned (.tuple #[.map (some rr), .agg (fl eI (xK (g.log.take i))).toArray, .bool false])) (hupd N j3 (blk (fl eI (xK (g.log.take i))) 187)) := fun q => .of (kno (bad q) _ _ _ rfl (sB.trans (sub3 _ _ (sM'.trans sN))))
   rw [<- hN]
   refine zC _ (Sub.refl _) ?_
   simp only [wK, seval, p0, p1, p2, p3, p26, p8, p9, p10, pn, sNN, hnx]
   refine uE qYB qNS hi0 hz0 (k := g.log[i].stamp) (by simp only [wK, seval]) (by simp only [wK, seval]) mrN hmo rfl ?_
   rcases qIC hst g.log[i].stamp with ⟨hg, x, hxm, hxs⟩ | ⟨hg, hnos⟩
   ·simp only [wK, seval, hg, p0, p1, p2, p3, p26, p8, p9, p10, pn, sNN, hnx]
    refine zC _ (Sub.refl _) ?_
    simp only [wK, seval, rd6, hl3, ho3, w1, w2, sNN]
    exact no fun p => p.2.2.2.2.2.2.1 x hxm hxs
   ·simp only [wK, seval, hg, p0, p1, p2, p3, p26, p8, p9, p10, pn, sNN, hnx]
    refine yO fun q1 hq1 => ?_
    cases q1 with
    | false =>
     simp only [wK, seval, p0, p1, p2, p3, p26, p8, p9, p10, pn, sNN, hnx]
     refine zC _ (Sub.refl _) ?_
     simp only [wK, seval, rd6, hl3, ho3, w1, w2, sNN]
     exact no fun p => qW hq1 rfl p.1
    | true =>
    simp only [wK, seval, p0, p1, p2, p3, p26, p8, p9, p10, pn, sNN, hnx]
    refine uF fun q2 hq2 => ?_
    cases q2 with
    | false =>
     simp only [wK, seval, p0, p1, p2, p3, p26, p8, p9, p10, pn, sNN, hnx]
     refine zC _ (Sub.refl _) ?_
     simp only [wK, seval, rd6, hl3, ho3, w1, w2, sNN]
     exact no fun p => qW hq2 rfl p.2.1
    | true =>
    simp only [wK, seval, p0, p1, p2, p3, p26, p8, p9, p10, pn, sNN, hnx]
    refine qEK (gl.sub (sB.trans (sM'.trans sN))) (gm.sub (sB.trans (sM'.trans sN))) (by omega) fun q3 hq3 => ?_
    cases q3 with
    | false =>
     simp only [wK, seval, p0, p1, p2, p3, p26, p8, p9, p10, pn, sNN, hnx]
     refine zC _ (Sub.refl _) ?_
     simp only [wK, seval, rd6, hl3, ho3, w1, w2, sNN]
     exact no fun p => qW hq3 rfl p.2.2.1
    | true =>
    simp only [wK, seval, p0, p1, p2, p3, p26, p8, p9, p10, pn, sNN, hnx]
    have hfm := (hq3.1 rfl).1
    have hse : 0 <= g.log[i].call.session /\ g.log[i].call.session <= 2 := hfm.1
    have hnu : 1 <= g.log[i].call.number := hfm.2.1.1
    have hsl : g.log[i].call.session.toNat < (xK (g.log.take i)).length := by show _ < 3; omega
    have pl : hcel N j6 g.log[i].call.session.toNat = some (.int .i64 (qBJ (g.log.take i) g.log[i].call.session)) := by
     rw [<- qRF _ hse hsl]; exact qE m6N (qFR hsl)
    refine ⟨⟨by omega, by omega⟩, ?_⟩
    simp only [wK, seval, pl, p0, p1, p2, p3, p26, p8, p9, p10, pn, sNN, hnx]
    refine xA (fun c4 => ?_) fun c4 => ?_
    ·try simp only [wK, seval, p0, p1, p2, p3, p26, p8, p9, p10, pn, sNN, hnx]
     refine zC _ (Sub.refl _) ?_
     simp only [wK, seval, rd6, hl3, ho3, w1, w2, sNN]
     exact no fun p => by have := (qEG hnu).2 p.2.2.2.2.2.2.2; omega
    have hlt := (qEG (log := g.log.take i) (s := g.log[i].call.session) hnu).1 (by omega)
    try simp only [wK, seval, p0, p1, p2, p3, p26, p8, p9, p10, pn, sNN, hnx]
    refine qRP fun q5 hq5 => ?_
    cases q5 with
    | false =>
     simp only [wK, seval, p0, p1, p2, p3, p26, p8, p9, p10, pn, sNN, hnx]
     refine zC _ (Sub.refl _) ?_
     simp only [wK, seval, rd6, hl3, ho3, w1, w2, sNN]
     exact no fun p => qW hq5 rfl p.2.2.2.1
    | true =>
    simp only [wK, seval, p0, p1, p2, p3, p26, p8, p9, p10, pn, sNN, hnx]
    refine qHX (sr.1.sub (sB.trans (sM'.trans sN))) (by omega) fun q6 hq6 => ?_
    cases q6 with
    | false =>
     simp only [wK, seval, p0, p1, p2, p3, p26, p8, p9, p10, pn, sNN, hnx]
     refine zC _ (Sub.refl _) ?_
     simp only [wK, seval, rd6, hl3, ho3, w1, w2, sNN]
     exact no fun p => qW hq6 rfl p.2.2.2.2.1
    | true =>
    simp only [wK, seval, p0, p1, p2, p3, p26, p8, p9, p10, pn, sNN, hnx]
    refine jD (sr.2.sub (sB.trans (sM'.trans sN))) (by omega) fun q7 hq7 => ?_
    cases q7 with
    | false =>
     simp only [wK, seval, p0, p1, p2, p3, p26, p8, p9, p10, pn, sNN, hnx]
     refine zC _ (Sub.refl _) ?_
     simp only [wK, seval, rd6, hl3, ho3, w1, w2, sNN]
     exact no fun p => qW hq7 rfl p.2.2.2.2.2.1
    | true =>
    simp only [wK, seval, p0, p1, p2, p3, p26, p8, p9, p10, pn, sNN, hnx]
    refine qAH qYB qNS (k := g.log[i].stamp) (v := .int .i64 1) (by simp only [wK, seval]) (by simp only [wK, seval]) (by simp only [wK, seval]) mrN hmo fun es' c' hmo' => ?_
    have j8r : j8 ≠ rr := fun e => by rw [e, mr'] at hj8; cases hj8
    have j86 : j8 ≠ j6 := fun e => by rw [e, m6'] at hj8; cases hj8
    have j83 : j8 ≠ j3 := fun e => by rw [e, m3'] at hj8; cases hj8
    obtain ⟨N2, hN2⟩ : ∃ N2, N2 = hupd N rr (.map es' c') := ⟨_, rfl⟩
    have gN2 : hget N2 j8 = some (blk (qL g.log[i] a1 a2) 106) := by rw [hN2, qS j8r]; exact gN
    have p2' : hcel N2 j8 2 = some (.int .i64 g.log[i].call.session) := qE gN2 rfl
    have p3' : hcel N2 j8 3 = some (.int .i64 g.log[i].call.number) := qE gN2 rfl
    have m6N2 : hget N2 j6 = some (blk (fl eI (xK (g.log.take i))) 187) := by rw [hN2, qS (Ne.symm jne.2.2)]; exact m6N
    have htk : g.log.take (i + 1) = g.log.take i ++ [g.log[i]] := List.take_succ_eq_append_getElem hi2
    obtain ⟨N3, hN3⟩ : ∃ N3, N3 = hupd N2 j6 (blk (fl eI (xK (g.log.take (i + 1)))) 187) := ⟨_, rfl⟩
    have wt6 : zQ N2 j6 g.log[i].call.session.toNat [.int .i64 g.log[i].call.number] = some N3 := by
     rw [yI (j := g.log[i].call.session.toNat) (vs := [.int .i64 g.log[i].call.number]) m6N2 (by rw [hl3]; simp only [List.length_singleton]; omega), hN3, htk, <- zBN _ _ hse]
     have : g.log[i].call.session = 0 ∨ g.log[i].call.session = 1 ∨ g.log[i].call.session = 2 := by omega
     rcases this with e | e | e <;> rw [e] <;> rfl
    rw [<- hN2]
    simp only [wK, seval, p2', p3']
    refine ⟨⟨by omega, by omega⟩, ?_⟩
    simp only [wK, seval, wt6]
    simp (disch := omega) only [wK, seval, qK]
    refine ⟨g.log.length - (i + 1), by omega, N3, .refl _, i + 1, es', c', mput m g.log[i].stamp (.int .i64 1), by simp, ?_, ?_, ?_, ?_, hmo', by rw [htk]; exact qUK hst, by omega, rfl, fun q hq hqi => ?_⟩
    ·rw [hN3, hN2]; exact Sub.wr (Sub.wr (sM'.trans sN) nBr) nB6
    ·rw [hN3, qS jne.1, hN2, qS jne.2.1]; exact m3N
    ·rw [hN3, qS jne.2.2, hN2]; exact zH mrN
    ·rw [hN3]; exact zH m6N2
    ·by_cases e : q = i
     ·subst e
      exact ⟨hq1.1 rfl, hq2.1 rfl, hq3.1 rfl, hq5.1 rfl, hq6.1 rfl, hq7.1 rfl, hnos, hlt⟩
     ·exact hok q hq (by omega)
  ·have hil : i = g.log.length := by omega
   subst hil
   rw [List.take_length] at *
   have rd6 : qV M' j6 0 3 = some (fl eI (xK g.log)) := zD m6' rfl
   obtain ⟨w1, w2⟩ := ret3 M' (xK g.log) rfl m3'
   refine zC _ (Sub.refl _) ?_
   simp only [wK, seval, rd6, hl3, ho3, w1, w2, Sub.refl M']
   exact .of (kyes ⟨by omega, fun q hq => hok q hq hq⟩ rr es c m _ (sB.trans (sub3 _ _ sM')) (by rw [qS (Ne.symm jne.2.1)]; exact mr') hmo hst)
end Go.Proofs.YtjioiemhgbkbfaaGreatDoor
end

section
namespace Go.Tk
open Go
section
variable {P : Program} {rest : H} {ρ : (Nat -> Value) -> Operand -> Value} {D : H -> (Nat -> Value) -> Prop} {q : H -> Value -> Prop}
theorem vJ {t : Nat} {w : Bool} {i : I} (k : ∀ f g, D g f -> ρ f (.tmp t) = .bool w) (s : stA P mG q rest ρ D i) : stG P mG q rest ρ D (some (t, w)) i := fun m f h g hm hs hd => by
 have : qLK (ρ f) (some (t, w)) = true := by simp only [qLK, k f g hd, isB, beq_self_eq_true]
 rw [if_pos this]
 exact s m f h g hm hs hd
theorem xQ {t : Nat} {w : Bool} {i : I} (k : ∀ f g, D g f -> ρ f (.tmp t) = .bool (!w)) (hq : ∀ g, q g undef) : stG P mG q rest ρ D (some (t, w)) i := fun m f h g hm hs hd => by
 have : qLK (ρ f) (some (t, w)) = false := by simp only [qLK, k f g hd, isB]; cases w <;> rfl
 rw [if_neg (by rw [this]; simp)]
 exact ⟨g, hm, Sub.refl _, hq g⟩
theorem qKF {op : BinOp} {t : TypeId} {x y : Operand} (k : ∀ f g, Sub rest g -> D g f -> ∃ (a b : Int) (v : Value), ρ f x = .int .i64 a /\ ρ f y = .int .i64 b /\ intBin op .i64 a b = some v /\ q g v) : stA P mG q rest ρ D (.bin op t x y) := fun m f h g hm hs hd => by
 obtain ⟨a, b, v, e1, e2, hv, hq⟩ := k f g hs hd
 show vop _ _ _ _ _ _
 unfold vop
 simp only [e1, e2, hv]
 exact ⟨.inl trivial, g, hm, Sub.refl _, hq⟩
theorem zJP {x i : Operand} {sz : Nat} {V : Value} {n : Int} {p : Value} (hx : ∀ (kd : IntKind) (F : Value -> Prop), vI V (.int kd n) sz F = F p) (k : ∀ f g, Sub rest g -> D g f -> ρ f x = V /\ ρ f i = .int .i64 n /\ q g p) : stA P mG q rest ρ D (.idxS x i sz) := fun m f h g hm hs hd => by
 obtain ⟨e1, e2, hq⟩ := k f g hs hd
 show vop _ _ _ _ _ _
 rw [qPR, e1, e2, hx]
 exact ⟨g, hm, Sub.refl _, hq⟩
theorem zJO {α : Type} {enc : α -> List Value} {sz : Nat} (he : ∀ a, (enc a).length = sz) {e n : Nat} {z : List Value} {L : List α} {ps : List (Nat × Nat × Operand)} (hn : L.length = n) (k : ∀ f g, Sub rest g -> D g f -> wX (zrep z n) (ps.map fun p => (p.1, p.2.1, zF (ρ f p.2.2))) = some (fl enc L)) :
  stA P mG (aS rest e enc sz L) rest ρ D (.bslice e z n ps) := fun m f h g hm hs hd => by
 have hf := k f g hs hd
 show vop _ _ _ _ _ _
 unfold vop
 simp only [hf]
 intro j hj
 have hjg : hget g j = none := Sub.none' hm hj
 refine ⟨(j, blk (fl enc L) e) :: g, Sub.cons2 hm, Sub.cons hjg (Sub.refl _), [(j, blk (fl enc L) e)], ?_, Sub.cons2 (Sub.nil _), Dj.one (hs.none' hjg)⟩
 have := xU (e := e) (j := j) (l := L) he
 rw [hn] at this; exact this
theorem zJQ {F : FuncId} {xs : List Operand} (k : ∀ f g, Sub rest g -> D g f -> ∀ h, Sub g h -> HCalls P F (xs.map (ρ f)).toArray h fun e h' => ∃ v, e = .returned v /\ ∃ g', Sub g' h' /\ Sub g g' /\ q g' v) : stA P mG q rest ρ D (.call F xs) := fun m f h g hm hs hd => by
 show HCalls P F (xs.map (ρ f)).toArray h _
 refine HCalls.mono (k f g hs hd h hm) fun e h' hx => ?_
 obtain ⟨v, rfl, g', s1, s2, hq⟩ := hx
 exact ⟨g', s1, s2, hq⟩
end
theorem qHY {l : List DWay} {i : Nat} (h : i < l.length) (s : Int) : xO (l.take (i + 1)) s = xO (l.take i) s + if l[i].house = s then 1 else 0 := by
 unfold xO
 rw [List.take_succ_eq_append_getElem h, List.countP_append, List.countP_singleton]
 simp only [decide_eq_true_eq]
theorem qUA (l : List DWay) (i : Nat) (s : Int) : xO (l.take i) s <= xO l s := by
 unfold xO
 have := List.countP_append (p := fun w : DWay => decide (w.house = s)) (l₁ := l.take i) (l₂ := l.drop i)
 rw [List.take_append_drop] at this; omega
def cntA (l : List DWay) : List Int := [(xO l 0 : Int), (xO l 1 : Int), (xO l 2 : Int)]
theorem qYO (l : List DWay) {s : Int} (h : 0 <= s /\ s <= 2) (hi : s.toNat < (cntA l).length) : (cntA l)[s.toNat] = (xO l s : Int) := by
 have : s = 0 ∨ s = 1 ∨ s = 2 := by omega
 rcases this with rfl | rfl | rfl <;> rfl
theorem zCS {l : List DWay} {i : Nat} (hi : i < l.length) (h : 0 <= l[i].house /\ l[i].house <= 2) : (cntA (l.take i)).set l[i].house.toNat ((xO (l.take i) l[i].house : Int) + 1) = cntA (l.take (i + 1)) := by
 have : l[i].house = 0 ∨ l[i].house = 1 ∨ l[i].house = 2 := by omega
 unfold cntA
 simp only [qHY hi]
 rcases this with e | e | e <;> simp [e]
end Go.Tk
end

section
attribute [local irreducible] Go.Tk.vc Go.Tk.vops Go.Tk.vdr Go.Tk.vop Go.Tk.vfl Go.Tk.HCalls
namespace Go.Proofs.YtjioiemhgbkbfaaGreatDoor
open Go Go.Tk
theorem zDQ {h : H} {g : DGate} {lg lv wy : Value} (r : sGate h g lg lv wy) (b1 : g.lives.length <= 1048576) (b2 : g.ways.length <= 1048576) (hris : risP (·.stamp) g.lives) {R : Ending -> H -> Prop} (k : Asks R (qLJ g.lives g.ways) h) :
  HCalls Tryz.prog 109 #[.agg (zN g lg lv wy).toArray] h R := by
 refine yK (args := [.agg (zN g lg lv wy).toArray]) Tryz.func109 ir109 ?_
 simp only [wK, seval, yF]
 refine qC (o := blk (zN g lg lv wy) 38) fun j1 h1 => ?_
 simp only [wK, seval, yF]
 have z3 : [Value.int .i64 0, .int .i64 0, .int .i64 0] = fl eI (cntA []) := rfl
 simp only [z3]
 refine qC (o := blk (fl eI (cntA [])) 187) fun j3 h3 => ?_
 obtain ⟨B, hB⟩ : ∃ B, B = (j1, blk (zN g lg lv wy) 38) :: h := ⟨_, rfl⟩
 have sB : Tk.Sub h B := by rw [hB]; exact Sub.cons h1 (Sub.refl _)
 have gB : hget B j1 = some (blk (zN g lg lv wy) 38) := by rw [hB]; exact qG _ _ _
 rw [<- hB] at h3 ⊢
 have nB3 := h3
 obtain ⟨M, hM⟩ : ∃ M, M = (j3, blk (fl eI (cntA [])) 187) :: B := ⟨_, rfl⟩
 have m3 : hget M j3 = some (blk (fl eI (cntA [])) 187) := by rw [hM]; exact qG _ _ _
 have sM : Tk.Sub B M := by rw [hM]; exact Sub.cons nB3 (Sub.refl _)
 have hc5 : ∀ {N : H}, Tk.Sub B N -> hcel N j1 5 = some wy := fun s => qE (s _ _ gB) rfl
 have zw := qHE
 rw [<- hM]
 simp only [wK, seval, hc5 sM, r.2.2.len]
 refine qP [11] (fun n vs M' => ∃ (i : Nat), vs = [.int .i64 i] /\ Tk.Sub B M' /\ hget M' j3 = some (blk (fl eI (cntA (g.ways.take i))) 187) /\ i <= g.ways.length /\ n = g.ways.length - i /\ (∀ w ∈ g.ways.take i, xH w.house /\ (∃ x, wF g.lives w.stamp = some x /\ x.phase ≠ 0)) /\ (∀ s, xO (g.ways.take i) s <= 2) /\
   ∀ q (hq : q + 1 < g.ways.length), q + 1 < i -> qAT (g.ways[q]'(by omega)) g.ways[q + 1]) g.ways.length rfl
  ⟨0, rfl, sM, by simpa using m3, by omega, rfl, by simp, fun s => by simp [xO], by simp⟩ ?_
 rintro n f M' ⟨i, hv, sM', m3', hi, rfl, hall, hcnt, hlt⟩
 simp only [lm4] at hv
 simp only [wK, seval, wr, hv]
 refine qF (fun c1 => ?_) fun c1 => ?_
 ·have hi2 : i < g.ways.length := by omega
  have rw' := r.2.2.sub (sB.trans sM')
  obtain ⟨b, o, hx, e⟩ := yU (enc := cWay) (sz := 2) (fun _ => rfl) rw' hi2
  simp only [wK, seval, hx, e, wWay, zw]
  refine qC (o := blk (cWay zWay) 161) fun j5 hj5 => ?_
  obtain ⟨N, hN⟩ : ∃ N, N = (j5, blk (cWay g.ways[i]) 161) :: M' := ⟨_, rfl⟩
  have sN : Tk.Sub M' N := by rw [hN]; exact Sub.cons hj5 (Sub.refl _)
  have gN : hget N j5 = some (blk (cWay g.ways[i]) 161) := by rw [hN]; exact qG _ _ _
  have w0N : hcel N j5 0 = some (.int .i64 g.ways[i].house) := qE gN rfl
  have w1N : hcel N j5 1 = some (.int .i64 g.ways[i].stamp) := qE gN rfl
  have m3N := sN _ _ m3'
  have rN := rw'.sub sN
  have c5N := hc5 (sM'.trans sN)
  have s0 : Tk.Sub h N := sB.trans (sM'.trans sN)
  simp only [wK, seval, wWay, zw, <- hN, w0N]
  refine jG fun q1 hq1 => ?_
  cases q1 with
  | false =>
   simp only [wK, seval]
   exact k.dno s0 fun p => qW hq1 rfl (p.1 _ (List.getElem_mem hi2)).1
  | true =>
  simp only [wK, seval]
  by_cases hi0 : i = 0
  case' pos =>
   have hord : ∀ (hq : 0 < i), qAT (g.ways[i - 1]'(by omega)) g.ways[i] := fun hq => absurd hq (by omega)
   refine qXK mG [aV (.int .i64 i), aV (.bool false), aV (.bool false)] N ?_ (Sub.refl _) rfl fun ρ hi' ho hc => ?_
   ·repeat' first | exact fun _ h => absurd h List.not_mem_nil | refine List.forall_mem_cons.2 ⟨?_, ?_⟩ | exact qYU _
   simp only [anysR, andr, maps, qXY, plain, Nat.reduceAdd]
   refine ⟨qFZ fun f g _ _ => ho f 4 rfl, qKF fun f g _ hd => ⟨i, 0, .bool false, (hi' f 20 rfl).trans hd, hc f _, by simp [intBin, hi0], rfl⟩, qFZ fun f g _ hd => (hi' f 21 rfl).trans hd,
    xQ (fun f g hd => (hi' f 22 rfl).trans (by first | exact hd | exact hd.2 | exact hd.2.2 | exact hd.2.2.1)) fun _ => trivial,
    xQ (fun f g hd => (hi' f 22 rfl).trans (by first | exact hd | exact hd.2 | exact hd.2.2 | exact hd.2.2.1)) fun _ => trivial,
    xQ (fun f g hd => (hi' f 22 rfl).trans (by first | exact hd | exact hd.2 | exact hd.2.2 | exact hd.2.2.1)) fun _ => trivial,
    xQ (fun f g hd => (hi' f 22 rfl).trans (by first | exact hd | exact hd.2 | exact hd.2.2 | exact hd.2.2.1)) fun _ => trivial,
    xQ (fun f g hd => (hi' f 22 rfl).trans (by first | exact hd | exact hd.2 | exact hd.2.2 | exact hd.2.2.1)) fun _ => trivial,
    xQ (fun f g hd => (hi' f 22 rfl).trans (by first | exact hd | exact hd.2 | exact hd.2.2 | exact hd.2.2.1)) fun _ => trivial,
    xQ (fun f g hd => (hi' f 22 rfl).trans (by first | exact hd | exact hd.2 | exact hd.2.2 | exact hd.2.2.1)) fun _ => trivial,
    xQ (fun f g hd => (hi' f 22 rfl).trans (by first | exact hd | exact hd.2 | exact hd.2.2 | exact hd.2.2.1)) fun _ => trivial,
    xQ (fun f g hd => (hi' f 22 rfl).trans (by first | exact hd | exact hd.2 | exact hd.2.2 | exact hd.2.2.1)) fun _ => trivial,
    xQ (fun f g hd => (hi' f 22 rfl).trans (by first | exact hd | exact hd.2 | exact hd.2.2 | exact hd.2.2.1)) fun _ => trivial,
    xQ (fun f g hd => (hi' f 22 rfl).trans (by first | exact hd | exact hd.2 | exact hd.2.2 | exact hd.2.2.1)) fun _ => trivial,
    xQ (fun f g hd => (hi' f 22 rfl).trans (by first | exact hd | exact hd.2 | exact hd.2.2 | exact hd.2.2.1)) fun _ => trivial,
    xQ (fun f g hd => (hi' f 22 rfl).trans (by first | exact hd | exact hd.2 | exact hd.2.2 | exact hd.2.2.1)) fun _ => trivial,
    xQ (fun f g hd => (hi' f 22 rfl).trans (by first | exact hd | exact hd.2 | exact hd.2.2 | exact hd.2.2.1)) fun _ => trivial,
    xQ (fun f g hd => (hi' f 22 rfl).trans (by first | exact hd | exact hd.2 | exact hd.2.2 | exact hd.2.2.1)) fun _ => trivial,
    xQ (fun f g hd => (hi' f 22 rfl).trans (by first | exact hd | exact hd.2 | exact hd.2.2 | exact hd.2.2.1)) fun _ => trivial,
    xQ (fun f g hd => (hi' f 22 rfl).trans (by first | exact hd | exact hd.2 | exact hd.2.2 | exact hd.2.2.1)) fun _ => trivial,
    xQ (fun f g hd => (hi' f 22 rfl).trans (by first | exact hd | exact hd.2 | exact hd.2.2 | exact hd.2.2.1)) fun _ => trivial,
    xQ (fun f g hd => (hi' f 22 rfl).trans (by first | exact hd | exact hd.2 | exact hd.2.2 | exact hd.2.2.1)) fun _ => trivial,
    xQ (fun f g hd => (hi' f 22 rfl).trans (by first | exact hd | exact hd.2 | exact hd.2.2 | exact hd.2.2.1)) fun _ => trivial,
    xQ (fun f g hd => (hi' f 22 rfl).trans (by first | exact hd | exact hd.2 | exact hd.2.2 | exact hd.2.2.1)) fun _ => trivial,
    xQ (fun f g hd => (hi' f 22 rfl).trans (by first | exact hd | exact hd.2 | exact hd.2.2 | exact hd.2.2.1)) fun _ => trivial, ?_⟩
   intro m2 f2 h2 g2 hm hs2 hd
   have e22 := (hi' f2 22 rfl).trans hd.2.2.1
   refine ⟨N, hs2.trans hm, ?_⟩
   have e22' : f2 22 = .bool false := hd.2.2.1
   have hcf := hc f2 (.bool false)
   simp only [wK, seval, wr, e22, e22', hcf]
  case' neg =>
   have hi3 : i - 1 < g.ways.length := by omega
   obtain ⟨b3, o3, hx3, e3⟩ := yU (enc := cWay) (sz := 2) (fun _ => rfl) rN hi3
   have y0 : hcel N b3 o3 = some (.int .i64 g.ways[i - 1].house) := by have := zK e3 0 rfl; rw [Nat.add_zero] at this; exact this
   have y1 : hcel N b3 (o3 + 1) = some (.int .i64 g.ways[i - 1].stamp) := zK e3 1 rfl
   have hw3 : IntKind.i64.wrap ((i : Int) - 1) = ((i - 1 : Nat) : Int) := by rw [qK _ ⟨by omega, by omega⟩]; omega
   obtain ⟨C, hC⟩ : ∃ C : Int, C = if g.ways[i - 1].house = g.ways[i].house then cmpI g.ways[i - 1].stamp g.ways[i].stamp else cmpI g.ways[i - 1].house g.ways[i].house := ⟨_, rfl⟩
   have hCl : C < 0 ↔ qAT g.ways[i - 1] g.ways[i] := by
    rw [hC]; unfold qAT
    split
    ·rename_i e; rw [cmpI_lt]; omega
    ·rename_i e; rw [cmpI_lt]; omega
   refine qXK mG [aV (.int .i64 i), aV (.bool true), aV (.bool true), aV (.pointer (some ⟨j1, 5, none⟩)), aV wy, aV (.int .i64 i), aV (.int .i64 ((i - 1 : Nat) : Int)), aV (.pointer (some ⟨b3, o3, none⟩)), aV (.pointer (some ⟨b3, o3, none⟩)), aV (.int .i64 g.ways[i - 1].house), aV (.pointer (some ⟨j1, 5, none⟩)), aV wy, aV (.int .i64 i), aV (.int .i64 ((i - 1 : Nat) : Int)), aV (.pointer (some ⟨b3, o3, none⟩)), aV (.pointer (some ⟨b3, o3 + 1, none⟩)), aV (.int .i64 g.ways[i - 1].stamp), aS N 3 eI 1 [g.ways[i - 1].house, g.ways[i - 1].stamp], aV (.pointer (some ⟨j5, 0, none⟩)), aV (.int .i64 g.ways[i].house), aV (.pointer (some ⟨j5, 1, none⟩)), aV (.int .i64 g.ways[i].stamp), aS N 3 eI 1 [g.ways[i].house, g.ways[i].stamp], aV (.int .i64 C), aV (.bool (decide (0 <= C)))] N ?_ (Sub.refl _) rfl fun ρ hi' ho hc => ?_
   ·repeat' first | exact fun _ h => absurd h List.not_mem_nil | refine List.forall_mem_cons.2 ⟨?_, ?_⟩ | exact qYU _ | exact aMono_S _ _ _ _ _
   simp only [anysR, andr, maps, qXY, plain, Nat.reduceAdd]
   refine ⟨qFZ fun f g _ _ => ho f 4 rfl,
    qKF fun f g _ hd => ⟨i, 0, .bool true, (hi' f 20 rfl).trans hd, hc f _, by simp [intBin]; omega, rfl⟩,
    qFZ fun f g _ hd => (hi' f 21 rfl).trans hd,
    vJ (fun f g hd => (hi' f 22 rfl).trans (by first | exact hd | exact hd.2 | exact hd.2.2 | exact hd.2.2.1)) (qGA fun f g _ _ => ⟨j1, 0, ho f 1 rfl, rfl⟩),
    vJ (fun f g hd => (hi' f 22 rfl).trans (by first | exact hd | exact hd.2 | exact hd.2.2 | exact hd.2.2.1)) (qCH fun f g hs hd => ⟨j1, 5, _, (hi' f 23 rfl).trans hd.1, yA hs c5N, rfl⟩),
    vJ (fun f g hd => (hi' f 22 rfl).trans (by first | exact hd | exact hd.2 | exact hd.2.2 | exact hd.2.2.1)) (qFZ fun f g _ _ => ho f 4 rfl),
    vJ (fun f g hd => (hi' f 22 rfl).trans (by first | exact hd | exact hd.2 | exact hd.2.2 | exact hd.2.2.1)) (qKF fun f g _ hd => ⟨i, 1, _, (hi' f 25 rfl).trans hd.1, hc f _, rfl, congrArg (Value.int .i64) hw3⟩),
    vJ (fun f g hd => (hi' f 22 rfl).trans (by first | exact hd | exact hd.2 | exact hd.2.2 | exact hd.2.2.1)) (zJP (n := ((i - 1 : Nat) : Int)) hx3 fun f g _ hd => ⟨(hi' f 24 rfl).trans hd.1, (hi' f 26 rfl).trans hd.2.1, rfl⟩),
    vJ (fun f g hd => (hi' f 22 rfl).trans (by first | exact hd | exact hd.2 | exact hd.2.2 | exact hd.2.2.1)) (qGA fun f g _ hd => ⟨b3, o3, (hi' f 27 rfl).trans hd.1, rfl⟩),
    vJ (fun f g hd => (hi' f 22 rfl).trans (by first | exact hd | exact hd.2 | exact hd.2.2 | exact hd.2.2.1)) (qCH fun f g hs hd => ⟨b3, o3, _, (hi' f 28 rfl).trans hd.1, yA hs y0, rfl⟩),
    vJ (fun f g hd => (hi' f 22 rfl).trans (by first | exact hd | exact hd.2 | exact hd.2.2 | exact hd.2.2.1)) (qGA fun f g _ _ => ⟨j1, 0, ho f 1 rfl, rfl⟩),
    vJ (fun f g hd => (hi' f 22 rfl).trans (by first | exact hd | exact hd.2 | exact hd.2.2 | exact hd.2.2.1)) (qCH fun f g hs hd => ⟨j1, 5, _, (hi' f 30 rfl).trans hd.1, yA hs c5N, rfl⟩),
    vJ (fun f g hd => (hi' f 22 rfl).trans (by first | exact hd | exact hd.2 | exact hd.2.2 | exact hd.2.2.1)) (qFZ fun f g _ _ => ho f 4 rfl),
    vJ (fun f g hd => (hi' f 22 rfl).trans (by first | exact hd | exact hd.2 | exact hd.2.2 | exact hd.2.2.1)) (qKF fun f g _ hd => ⟨i, 1, _, (hi' f 32 rfl).trans hd.1, hc f _, rfl, congrArg (Value.int .i64) hw3⟩),
    vJ (fun f g hd => (hi' f 22 rfl).trans (by first | exact hd | exact hd.2 | exact hd.2.2 | exact hd.2.2.1)) (zJP (n := ((i - 1 : Nat) : Int)) hx3 fun f g _ hd => ⟨(hi' f 31 rfl).trans hd.1, (hi' f 33 rfl).trans hd.2.1, rfl⟩),
    vJ (fun f g hd => (hi' f 22 rfl).trans (by first | exact hd | exact hd.2 | exact hd.2.2 | exact hd.2.2.1)) (qGA fun f g _ hd => ⟨b3, o3, (hi' f 34 rfl).trans hd.1, rfl⟩),
    vJ (fun f g hd => (hi' f 22 rfl).trans (by first | exact hd | exact hd.2 | exact hd.2.2 | exact hd.2.2.1)) (qCH fun f g hs hd => ⟨b3, o3 + 1, _, (hi' f 35 rfl).trans hd.1, yA hs y1, rfl⟩),
    vJ (fun f g hd => (hi' f 22 rfl).trans (by first | exact hd | exact hd.2 | exact hd.2.2 | exact hd.2.2.1)) (zJO (n := 2) yM rfl fun f g _ hd => (by simp only [maps, (hi' f 29 rfl).trans hd.1, (hi' f 36 rfl).trans hd.2.1]; rfl)),
    vJ (fun f g hd => (hi' f 22 rfl).trans (by first | exact hd | exact hd.2 | exact hd.2.2 | exact hd.2.2.1)) (qGA fun f g _ _ => ⟨j5, 0, ho f 5 rfl, rfl⟩),
    vJ (fun f g hd => (hi' f 22 rfl).trans (by first | exact hd | exact hd.2 | exact hd.2.2 | exact hd.2.2.1)) (qCH fun f g hs hd => ⟨j5, 0, _, (hi' f 38 rfl).trans hd.1, yA hs w0N, rfl⟩),
    vJ (fun f g hd => (hi' f 22 rfl).trans (by first | exact hd | exact hd.2 | exact hd.2.2 | exact hd.2.2.1)) (qGA fun f g _ _ => ⟨j5, 0, ho f 5 rfl, rfl⟩),
    vJ (fun f g hd => (hi' f 22 rfl).trans (by first | exact hd | exact hd.2 | exact hd.2.2 | exact hd.2.2.1)) (qCH fun f g hs hd => ⟨j5, 1, _, (hi' f 40 rfl).trans hd.1, yA hs w1N, rfl⟩),
    vJ (fun f g hd => (hi' f 22 rfl).trans (by first | exact hd | exact hd.2 | exact hd.2.2 | exact hd.2.2.1)) (zJO (n := 2) yM rfl fun f g _ hd => (by simp only [maps, (hi' f 39 rfl).trans hd.1, (hi' f 41 rfl).trans hd.2.1]; rfl)),
    vJ (fun f g hd => (hi' f 22 rfl).trans (by first | exact hd | exact hd.2 | exact hd.2.2 | exact hd.2.2.1)) (zJQ fun f g hs hd h hg => (by obtain ⟨G1, a1, s1, _⟩ := hd.1; obtain ⟨G2, a2, s2, _⟩ := hd.2.1; simp only [maps, hi' f 37 rfl, hi' f 42 rfl]; exact qWM (a1.rd.sub (s1.trans hg)) (a2.rd.sub (s2.trans hg)) ⟨_, rfl, g, hg, Sub.refl _, congrArg (Value.int .i64) hC.symm⟩)),
    vJ (fun f g hd => (hi' f 22 rfl).trans (by first | exact hd | exact hd.2 | exact hd.2.2 | exact hd.2.2.1)) (qKF fun f g _ hd => ⟨C, 0, _, (hi' f 43 rfl).trans hd.1, hc f _, rfl, by simp only [aV, ge_iff_le]⟩), ?_⟩
   intro m2 f2 h2 g2 hm hs2 hd
   have e22' : f2 22 = .bool true := hd.2.2.1
   have e44' : f2 44 = .bool (decide (0 <= C)) := hd.2.2.2.2.2.2.2.2.2.2.2.2.2.2.2.2.2.2.2.2.2.2.2.2
   have e22 := (hi' f2 22 rfl).trans e22'
   have e44 := (hi' f2 44 rfl).trans e44'
   refine ⟨N, hs2.trans hm, ?_⟩
   simp only [wK, seval, wr, e22, e22', e44, e44']
   refine zV (fun c9 => ?_) fun c9 => ?_
   ·try simp only [wK, seval]
    refine k.dno s0 fun p => ?_
    have e : i - 1 + 1 = i := by omega
    have := p.2 (i - 1) (by omega)
    simp only [e] at this
    have := hCl.2 this
    omega
   have hord : ∀ (hq : 0 < i), qAT (g.ways[i - 1]'(by omega)) g.ways[i] := fun _ => hCl.1 (by omega)
   try simp only [wK, seval]
  all_goals
   try simp only [wK, seval, w0N]
   have hh : 0 <= g.ways[i].house /\ g.ways[i].house <= 2 := hq1.1 rfl
   have hcl : g.ways[i].house.toNat < (cntA (g.ways.take i)).length := by show _ < 3; omega
   have pl : hcel N j3 g.ways[i].house.toNat = some (.int .i64 (xO (g.ways.take i) g.ways[i].house)) := by
    rw [<- qYO _ hh hcl]; exact qE m3N (qFR hcl)
   have hus : xO (g.ways.take i) g.ways[i].house <= i := Nat.le_trans List.countP_le_length (by rw [List.length_take]; omega)
   refine ⟨⟨by omega, by omega⟩, ?_⟩
   simp (disch := omega) only [wK, seval, pl, qK]
   refine ⟨⟨by omega, by omega⟩, ?_⟩
   obtain ⟨N2, hN2⟩ : ∃ N2, N2 = hupd N j3 (blk (fl eI (cntA (g.ways.take (i + 1)))) 187) := ⟨_, rfl⟩
   have wt : zQ N j3 g.ways[i].house.toNat [.int .i64 ((xO (g.ways.take i) g.ways[i].house : Int) + 1)] = some N2 := by
    rw [yI (j := g.ways[i].house.toNat) (vs := [.int .i64 ((xO (g.ways.take i) g.ways[i].house : Int) + 1)]) m3N (by rw [kJ yM]; show _ <= 3 * 1; simp only [List.length_singleton]; omega), hN2, <- zCS hi2 hh]
    have : g.ways[i].house = 0 ∨ g.ways[i].house = 1 ∨ g.ways[i].house = 2 := by omega
    rcases this with e | e | e <;> rw [e] <;> rfl
   have j53 : j5 ≠ j3 := fun e => by rw [e, m3'] at hj5; cases hj5
   have sBN2 : Tk.Sub B N2 := by rw [hN2]; exact Sub.wr (sM'.trans sN) nB3
   have gN2 : hget N2 j5 = some (blk (cWay g.ways[i]) 161) := by rw [hN2, qS j53]; exact gN
   have x0 : hcel N2 j5 0 = some (.int .i64 g.ways[i].house) := qE gN2 rfl
   have x1 : hcel N2 j5 1 = some (.int .i64 g.ways[i].stamp) := qE gN2 rfl
   have x4 : hcel N2 j1 4 = some lv := qE (sBN2 _ _ gB) rfl
   have m3N2 : hget N2 j3 = some (blk (fl eI (cntA (g.ways.take (i + 1)))) 187) := by rw [hN2]; exact zH m3N
   have hcl2 : g.ways[i].house.toNat < (cntA (g.ways.take (i + 1))).length := by show _ < 3; omega
   have pl2 : hcel N2 j3 g.ways[i].house.toNat = some (.int .i64 (xO (g.ways.take (i + 1)) g.ways[i].house)) := by
    rw [<- qYO _ hh hcl2]; exact qE m3N2 (qFR hcl2)
   have sh2 : Tk.Sub h N2 := sB.trans sBN2
   simp only [wK, seval, wt, x4, x1]
   refine qQN ((r.2.1.subH sh2).relImp fun _ _ x => rLive.sub sh2 x) (by omega) hris fun p has hp hyes hnos => ?_
   simp only [wK, seval, x4]
   have no : ¬ (xH g.ways[i].house /\ (∃ x, wF g.lives g.ways[i].stamp = some x /\ x.phase ≠ 0) /\ xO g.ways g.ways[i].house <= 2) -> ¬ qLJ g.lives g.ways := fun q p => q (p.1 _ (List.getElem_mem hi2))
   cases has with
   | false =>
    simp only [wK, seval]
    exact k.dno sh2 (no fun q => by obtain ⟨_, ⟨y, hy, _⟩, _⟩ := q; rw [hnos rfl] at hy; cases hy)
   | true =>
   obtain ⟨hp2, hlo⟩ := hyes rfl
   obtain ⟨bq, oq, csq, hxq, eq, a1q, a2q, rfl, srq⟩ := zU (r.2.1.subH sh2) hp2
   have yq : hcel N2 bq (oq + 3) = some (.int .i64 g.lives[p].phase) := zK eq 3 rfl
   simp only [wK, seval, hxq, yq, x4, reduceCtorEq]
   refine zV (fun c5 => ?_) fun c5 => ?_
   ·try simp only [wK, seval]
    exact k.dno sh2 (no fun q => by obtain ⟨_, ⟨y, hy, hy2⟩, _⟩ := q; rw [hlo] at hy; cases hy; exact hy2 c5)
   try simp only [wK, seval, x0]
   refine ⟨⟨by omega, by omega⟩, ?_⟩
   simp only [wK, seval, pl2]
   have hut := qUA g.ways (i + 1) g.ways[i].house
   refine qF (fun c6 => ?_) fun c6 => ?_
   ·exact k.dno sh2 (no fun q => by have := q.2.2; omega)
   have hus2 := qHY hi2
   simp (disch := omega) only [wK, seval, qK]
   refine ⟨g.ways.length - (i + 1), by omega, N2, .refl _, i + 1, by simp, sBN2, m3N2, by omega, rfl, fun w hw => ?_, fun s => ?_, fun q hq hq2 => ?_⟩
   ·rw [List.take_succ_eq_append_getElem hi2] at hw
    rcases List.mem_append.1 hw with hw | hw
    ·exact hall w hw
    ·rw [List.mem_singleton.1 hw]; exact ⟨hh, _, hlo, c5⟩
   ·by_cases e : g.ways[i].house = s
    ·subst e; omega
    ·have := hus2 s
     rw [if_neg e] at this
     have := hcnt s
     omega
   ·by_cases e : q + 1 = i
    ·subst e; exact hord (by omega)
    ·exact hlt q hq (by omega)
 ·refine k.dyes (sB.trans sM') ⟨fun w hw => ?_, fun q hq => hlt q hq (by omega)⟩
  rw [List.take_of_length_le (by omega)] at hall
  have := hcnt w.house
  rw [List.take_of_length_le (by omega)] at this
  exact ⟨(hall w hw).1, (hall w hw).2, this⟩
end Go.Proofs.YtjioiemhgbkbfaaGreatDoor
end

section
attribute [local irreducible] Go.Tk.vc Go.Tk.vops Go.Tk.vdr Go.Tk.vop Go.Tk.vfl Go.Tk.HCalls
namespace Go.Tk
open Go
def sesN (l : List DLive) (s : Int) : Nat := l.countP fun x => decide (x.call.session = s)
theorem qLU {l : List DLive} {i : Nat} (h : i < l.length) (s : Int) : sesN (l.take (i + 1)) s = sesN (l.take i) s + if l[i].call.session = s then 1 else 0 := by
 unfold sesN
 rw [List.take_succ_eq_append_getElem h, List.countP_append, List.countP_singleton]
 simp only [decide_eq_true_eq]
def sesA (l : List DLive) : List Int := [(sesN l 0 : Int), (sesN l 1 : Int), (sesN l 2 : Int)]
theorem qXN (l : List DLive) {s : Int} (h : 0 <= s /\ s <= 2) (hi : s.toNat < (sesA l).length) : (sesA l)[s.toNat] = (sesN l s : Int) := by
 have : s = 0 ∨ s = 1 ∨ s = 2 := by omega
 rcases this with rfl | rfl | rfl <;> rfl
theorem zAT {l : List DLive} {i : Nat} (hi : i < l.length) (h : 0 <= l[i].call.session /\ l[i].call.session <= 2) : (sesA (l.take i)).set l[i].call.session.toNat ((sesN (l.take i) l[i].call.session : Int) + 1) = sesA (l.take (i + 1)) := by
 have : l[i].call.session = 0 ∨ l[i].call.session = 1 ∨ l[i].call.session = 2 := by omega
 unfold sesA
 simp only [qLU hi]
 rcases this with e | e | e <;> simp [e]
theorem zFT {l : List DLive} {i : Nat} {s : Int} (h : 1 <= sesN (l.take i) s) : ∃ q, ∃ (hq : q < l.length), q < i /\ l[q].call.session = s := by
 unfold sesN at h
 obtain ⟨x, hx, hs⟩ := List.countP_pos_iff.1 h
 obtain ⟨q, hq, rfl⟩ := List.getElem_of_mem hx
 rw [List.length_take] at hq
 exact ⟨q, by omega, by omega, by simpa using hs⟩
theorem zAS {l : List DLive} {i : Nat} {s : Int} (h : sesN (l.take i) s = 0) : ∀ q (hq : q < l.length), q < i -> l[q].call.session ≠ s := fun q hq hqi e => by
 unfold sesN at h
 have := List.countP_eq_zero.1 h l[q] (by rw [List.mem_take_iff_getElem]; exact ⟨q, by omega, rfl⟩)
 simp [e] at this
end Go.Tk
namespace Go.Proofs.YtjioiemhgbkbfaaGreatDoor
open Go Go.Tk
theorem qOS {h : H} {g : DGate} {lg lv wy : Value} (gl : Gl h) (gm : MxL h) (r : sGate h g lg lv wy) (hb : bGate g) {R : Ending -> H -> Prop} (k : Asks R (qEN g) h) : HCalls Tryz.prog 62 #[.agg (zN g lg lv wy).toArray] h R := by
 refine yK (args := [.agg (zN g lg lv wy).toArray]) Tryz.func62 ir62 ?_
 have b1 := hb.lives; have b2 := hb.ways; have b3 := hb.log
 unfold lim at b1 b2 b3
 obtain ⟨i0, hi0, hz0⟩ := iInt0
 simp only [wK, seval, yF]
 refine qC (o := blk (zN g lg lv wy) 38) fun j1 h1 => ?_
 obtain ⟨A, hA⟩ : ∃ A, A = (j1, blk (zN g lg lv wy) 38) :: h := ⟨_, rfl⟩
 have sA : Tk.Sub h A := by rw [hA]; exact Sub.cons h1 (Sub.refl _)
 have gA : hget A j1 = some (blk (zN g lg lv wy) 38) := by rw [hA]; exact qG _ _ _
 have a1' : hcel A j1 1 = some (.int .i64 g.life) := qE gA rfl
 have a2' : hcel A j1 2 = some (.int .i64 g.next) := qE gA rfl
 have aa : qV A j1 0 6 = some (zN g lg lv wy) := zD gA rfl
 rw [<- hA]
 simp only [wK, seval, yF, a1', a2', aa]
 refine yO fun q1 hq1 => ?_
 cases q1 with
 | false =>
  simp only [wK, seval, a1', a2', aa]
  exact k.dno sA fun p => qW hq1 rfl p.1
 | true =>
 simp only [wK, seval, a1', a2', aa]
 refine uF fun q2 hq2 => ?_
 cases q2 with
 | false =>
  simp only [wK, seval, a1', a2', aa]
  exact k.dno sA fun p => qW hq2 rfl p.2.1
 | true =>
 simp only [wK, seval, a1', a2', aa]
 have z3 : [Value.int .i64 0, .int .i64 0, .int .i64 0] = fl eI (sesA []) := rfl
 refine qRZ (gl.sub sA) (gm.sub sA) ((r.1.subH sA).relImp fun _ _ x => rRecord.sub sA x) hb.recs (by omega) (hq2.1 rfl) (fun hno v L M1 hL s1 => ?_) (fun hlog rr es c m M1 s1 mr hmo hst => ?_)
 ·have hl3 : (fl eI L).length = 3 := by rw [kJ yM, hL]
  have ho3 := qDE L
  simp only [wK, seval, z3]
  refine qC (o := blk (fl eI (sesA [])) 187) fun j4 hj4 => ?_
  have wt : zQ ((j4, blk (fl eI (sesA [])) 187) :: M1) j4 0 (fl eI L) = some ((j4, blk (fl eI L) 187) :: M1) := by
   rw [kA, if_pos (by rw [hl3]; exact Nat.le_refl _), yW (by rw [hl3]; rfl)]
  simp only [wK, seval, hl3, ho3, wt, z3]
  exact k.dno ((sA.trans s1).trans (Sub.cons hj4 (Sub.refl _))) fun p => hno p.2.2.1
 ·have hl3 : (fl eI (xK g.log)).length = 3 := rfl
  have ho3 := qDE (xK g.log)
  simp only [wK, seval, z3]
  refine qC (o := blk (fl eI (sesA [])) 187) fun j4 hj4 => ?_
  obtain ⟨B, hB⟩ : ∃ B, B = (j4, blk (fl eI (xK g.log)) 187) :: M1 := ⟨_, rfl⟩
  have wt : zQ ((j4, blk (fl eI (sesA [])) 187) :: M1) j4 0 (fl eI (xK g.log)) = some B := by
   rw [kA, if_pos (by rw [hl3]; exact Nat.le_refl _), yW (x := fl eI (xK g.log)) (y := fl eI (sesA [])) (by rfl), hB]
  have s1B : Tk.Sub M1 B := by rw [hB]; exact Sub.cons hj4 (Sub.refl _)
  have gB := s1B _ _ (s1 _ _ gA)
  have gB4 : hget B j4 = some (blk (fl eI (xK g.log)) 187) := by rw [hB]; exact qG _ _ _
  have gBr := s1B _ _ mr
  have sB0 : Tk.Sub h B := sA.trans (s1.trans s1B)
  have b4 : hcel B j1 4 = some lv := qE gB rfl
  have b0 : hcel B j1 0 = some (.bool g.up) := qE gB rfl
  have hnx : IntKind.i64.wrap (g.next - 1) = g.next - 1 := qK _ (by have := (hq2.1 rfl).1; have := (hq2.1 rfl).2; omega)
  simp only [wK, seval, hl3, ho3, wt, b4, b0, r.2.1.len, z3]
  refine qF (fun c1 => ?_) fun c1 => ?_
  ·try simp only [wK, seval, b4, b0, r.2.1.len, z3]
   refine k.dno sB0 fun p => ?_
   have := p.2.2.2.1.1; omega
  cases hup : g.up
  case' false =>
   simp only [wK, seval, b4, b0, r.2.1.len, z3, hup]
   refine qF (fun c2 => ?_) fun c2 => ?_
   ·try simp only [wK, seval, b4, b0, r.2.1.len, z3]
    refine k.dno sB0 fun p => ?_
    have := (p.2.2.2.2.1 hup).1
    rw [this] at c2; simp at c2
   have hemp : g.up = false -> g.lives = [] := fun _ => List.eq_nil_of_length_eq_zero (by omega)
   try simp only [wK, seval, b4, b0, r.2.1.len, z3]
  case' true =>
   have hemp : g.up = false -> g.lives = [] := fun c => (by rw [hup] at c; cases c)
   try simp only [wK, seval, b4, b0, r.2.1.len, z3, hup]
  all_goals
   refine qC (o := blk (fl eI (sesA [])) 187) fun j6 hj6 => ?_
   have nB6 := hj6
   obtain ⟨M, hM⟩ : ∃ M, M = (j6, blk (fl eI (sesA [])) 187) :: B := ⟨_, rfl⟩
   have sM : Tk.Sub B M := by rw [hM]; exact Sub.cons nB6 (Sub.refl _)
   have m6 : hget M j6 = some (blk (fl eI (sesA [])) 187) := by rw [hM]; exact qG _ _ _
   have b4M : hcel M j1 4 = some lv := qE (sM _ _ gB) rfl
   rw [<- hM]
   simp only [wK, seval, b4M, r.2.1.len]
   refine qP [47] (fun n vs M' => ∃ (i : Nat), vs = [.int .i64 i] /\ Tk.Sub B M' /\ hget M' j6 = some (blk (fl eI (sesA (g.lives.take i))) 187) /\ i <= g.lives.length /\ n = g.lives.length - i /\ (∀ x ∈ g.lives.take i, qCN x g.next /\ (∀ r ∈ g.log, r.stamp ≠ x.stamp) /\ ∀ r, xX g.log x.call.session = some r -> r.call.number < x.call.number) /\ risU (·.stamp) g.lives i /\ (∀ s, sesN (g.lives.take i) s <= 1) /\
     ∀ q p (hp : p < g.lives.length) (hq : q < p), p < i -> (g.lives[q]'(by omega)).call.session ≠ g.lives[p].call.session) g.lives.length rfl
    ⟨0, rfl, sM, by simpa using m6, by omega, rfl, by simp, xD _ _, fun s => by simp [sesN], fun q p hp hq h => absurd h (Nat.not_lt_zero _)⟩ ?_
   rintro n f M' ⟨i, hv, sM', m6', hi, rfl, hall, hris, hcnt, hses⟩
   simp only [lm4] at hv
   simp only [wK, seval, wr, hv]
   refine qF (fun c1 => ?_) fun c1 => ?_
   ·have hi2 : i < g.lives.length := by omega
    have zl := qDG
    have sM0 : Tk.Sub h M' := sB0.trans sM'
    obtain ⟨b, o, cs, hx, e, a1, a2, rfl, sr⟩ := zU ((r.2.1.subH sM0).relImp fun _ _ x => rLive.sub sM0 x) hi2
    have hone := wLive.2.2.2.2.2.2.2.2.2.2.2.2.2.2.2.1 g.lives[i] a1 a2 (rdS.one sr.1) (rRs.one sr.2)
    simp only [wK, seval, hx, e, zl, wLive]
    refine qC (o := blk (zJ zLive (.slice none 0 0) (.slice none 0 0)) 103) fun j8 hj8 => ?_
    simp only [wK, seval, zl, wLive, hone]
    obtain ⟨N, hN⟩ : ∃ N, N = (j8, blk (zJ g.lives[i] a1 a2) 103) :: M' := ⟨_, rfl⟩
    have sN : Tk.Sub M' N := by rw [hN]; exact Sub.cons hj8 (Sub.refl _)
    have gN : hget N j8 = some (blk (zJ g.lives[i] a1 a2) 103) := by rw [hN]; exact qG _ _ _
    have l0 : hcel N j8 0 = some (.int .i64 g.lives[i].stamp) := qE gN rfl
    have l4 : hcel N j8 4 = some (.int .i64 g.lives[i].call.session) := qE gN rfl
    have l5 : hcel N j8 5 = some (.int .i64 g.lives[i].call.number) := qE gN rfl
    have la : qV N j8 0 12 = some (zJ g.lives[i] a1 a2) := zD gN rfl
    have sBN := sM'.trans sN
    have s0 : Tk.Sub h N := sB0.trans sBN
    have g2' : hcel N j1 2 = some (.int .i64 g.next) := qE (sBN _ _ gB) rfl
    have g4' : hcel N j1 4 = some lv := qE (sBN _ _ gB) rfl
    have m4N := sBN _ _ gB4
    have m6N := sN _ _ m6'
    have mrN := sBN _ _ gBr
    have sNN := Sub.refl N
    have rl : rRs N (rLive h) 12 lv g.lives := r.2.1.subH s0
    have bad : ¬ (qCN g.lives[i] g.next /\ (∀ r ∈ g.log, r.stamp ≠ g.lives[i].stamp) /\ ∀ r, xX g.log g.lives[i].call.session = some r -> r.call.number < g.lives[i].call.number) -> ¬ qEN g := fun q p => q (p.2.2.2.1.2.1 _ (List.getElem_mem hi2))
    rw [<- hN]
    refine zC _ (Sub.refl _) ?_
    simp only [wK, seval, g2', g4', l0, l4, l5, la, sNN, hnx]
    refine yO fun q3 hq3 => ?_
    cases q3 with
    | false =>
     simp only [wK, seval, g2', g4', l0, l4, l5, la, sNN, hnx]
     exact k.dno s0 (bad fun q => qW hq3 rfl (liveQ_P.1 q.1).1)
    | true =>
    simp only [wK, seval, g2', g4', l0, l4, l5, la, sNN, hnx]
    refine qF (fun y1 => ?_) fun y1 => ?_
    case' refine_1 =>
     have hi3 : i - 1 < g.lives.length := by omega
     obtain ⟨b3, o3, cs3, hx3, e3, a13, a23, rfl, sr3⟩ := zU rl hi3
     have y0 : hcel N b3 o3 = some (.int .i64 g.lives[i - 1].stamp) := by have := zK e3 0 rfl; rw [Nat.add_zero] at this; exact this
     have hw3 : IntKind.i64.wrap ((i : Int) - 1) = ((i - 1 : Nat) : Int) := by rw [qK _ ⟨by omega, by omega⟩]; omega
     simp only [wK, seval, hx3, y0, hw3, g2', g4', l0, l4, l5, la, sNN, hnx]
     refine xA (fun y2 => ?_) fun y2 => ?_
     ·try simp only [wK, seval, g2', g4', l0, l4, l5, la, sNN, hnx]
      exact k.dno s0 fun p => vM (k := (·.stamp)) hi2 (by omega) (by show ¬ g.lives[i - 1].stamp < g.lives[i].stamp; omega) p.2.2.2.1.2.2.1
     have hris2 := xR hi2 (by omega) hris y2
     try simp only [wK, seval, g2', g4', l0, l4, l5, la, sNN, hnx]
    case' refine_2 =>
     have hris2 : risU (·.stamp) g.lives (i + 1) := wG (by omega) hris
     try simp only [wK, seval, g2', g4', l0, l4, l5, la, sNN, hnx]
    all_goals
     rcases qIC hst g.lives[i].stamp with ⟨hg, x, hxm, hxs⟩ | ⟨hg, hnos⟩
     ·refine uE qYB qNS hi0 hz0 (k := g.lives[i].stamp) (by simp only [wK, seval]) (by simp only [wK, seval]) mrN hmo hg ?_
      simp only [wK, seval, g2', g4', l0, l4, l5, la, sNN, hnx]
      exact k.dno s0 (bad fun q => q.2.1 x hxm hxs)
     refine uE qYB qNS hi0 hz0 (k := g.lives[i].stamp) (by simp only [wK, seval]) (by simp only [wK, seval]) mrN hmo hg ?_
     simp only [wK, seval, g2', g4', l0, l4, l5, la, sNN, hnx]
     refine zGY (gl.sub s0) (gm.sub s0) (sLive.sub sN sr) (hb.live _ (List.getElem_mem hi2)) fun q4 hq4 => ?_
     cases q4 with
     | false =>
      simp only [wK, seval, g2', g4', l0, l4, l5, la, sNN, hnx]
      exact k.dno s0 (bad fun q => qW hq4 rfl (liveQ_P.1 q.1).2)
     | true =>
     simp only [wK, seval, g2', g4', l0, l4, l5, la, sNN, hnx]
     have hfm := (hq4.1 rfl).2.2.2.1.1
     have hse : 0 <= g.lives[i].call.session /\ g.lives[i].call.session <= 2 := hfm.1
     have hnu : 1 <= g.lives[i].call.number := hfm.2.1.1
     have hsl : g.lives[i].call.session.toNat < (xK g.log).length := by show _ < 3; omega
     have pl : hcel N j4 g.lives[i].call.session.toNat = some (.int .i64 (qBJ g.log g.lives[i].call.session)) := by
      rw [<- qRF _ hse hsl]; exact qE m4N (qFR hsl)
     refine ⟨⟨by omega, by omega⟩, ?_⟩
     simp only [wK, seval, pl, g2', g4', l0, l4, l5, la, sNN, hnx]
     refine xA (fun c4 => ?_) fun c4 => ?_
     ·try simp only [wK, seval, g2', g4', l0, l4, l5, la, sNN, hnx]
      exact k.dno s0 (bad fun q => by have := (qEG (log := g.log) (s := g.lives[i].call.session) hnu).2 q.2.2; omega)
     have hlt := (qEG (log := g.log) (s := g.lives[i].call.session) hnu).1 (by omega)
     try simp only [wK, seval, g2', g4', l0, l4, l5, la, sNN, hnx]
     have hsl2 : g.lives[i].call.session.toNat < (sesA (g.lives.take i)).length := by show _ < 3; omega
     have pl6 : hcel N j6 g.lives[i].call.session.toNat = some (.int .i64 (sesN (g.lives.take i) g.lives[i].call.session)) := by
      rw [<- qXN _ hse hsl2]; exact qE m6N (qFR hsl2)
     have hcn := hcnt g.lives[i].call.session
     refine ⟨⟨by omega, by omega⟩, ?_⟩
     simp (disch := omega) only [wK, seval, pl6, qK]
     refine ⟨⟨by omega, by omega⟩, ?_⟩
     obtain ⟨N2, hN2⟩ : ∃ N2, N2 = hupd N j6 (blk (fl eI (sesA (g.lives.take (i + 1)))) 187) := ⟨_, rfl⟩
     have wt : zQ N j6 g.lives[i].call.session.toNat [.int .i64 ((sesN (g.lives.take i) g.lives[i].call.session : Int) + 1)] = some N2 := by
      rw [yI (j := g.lives[i].call.session.toNat) (vs := [.int .i64 ((sesN (g.lives.take i) g.lives[i].call.session : Int) + 1)]) m6N (by rw [kJ yM]; show _ <= 3 * 1; simp only [List.length_singleton]; omega), hN2, <- zAT hi2 hse]
      have : g.lives[i].call.session = 0 ∨ g.lives[i].call.session = 1 ∨ g.lives[i].call.session = 2 := by omega
      rcases this with e | e | e <;> rw [e] <;> rfl
     have j86 : j8 ≠ j6 := fun e => by rw [e, m6'] at hj8; cases hj8
     have sBN2 : Tk.Sub B N2 := by rw [hN2]; exact Sub.wr (sM'.trans sN) nB6
     have gN2 : hget N2 j8 = some (blk (zJ g.lives[i] a1 a2) 103) := by rw [hN2, qS j86]; exact gN
     have p4' : hcel N2 j8 4 = some (.int .i64 g.lives[i].call.session) := qE gN2 rfl
     have m6N2 : hget N2 j6 = some (blk (fl eI (sesA (g.lives.take (i + 1)))) 187) := by rw [hN2]; exact zH m6N
     have hsl3 : g.lives[i].call.session.toNat < (sesA (g.lives.take (i + 1))).length := by show _ < 3; omega
     have pl7 : hcel N2 j6 g.lives[i].call.session.toNat = some (.int .i64 (sesN (g.lives.take (i + 1)) g.lives[i].call.session)) := by
      rw [<- qXN _ hse hsl3]; exact qE m6N2 (qFR hsl3)
     have hmore := qLU hi2
     have hm1 := hmore g.lives[i].call.session
     rw [if_pos rfl] at hm1
     simp only [wK, seval, wt, p4']
     refine ⟨⟨by omega, by omega⟩, ?_⟩
     simp only [wK, seval, pl7]
     refine qF (fun c6 => ?_) fun c6 => ?_
     ·refine k.dno (sB0.trans sBN2) fun q => ?_
      obtain ⟨q', hq', hqi, e⟩ := zFT (l := g.lives) (i := i) (s := g.lives[i].call.session) (by omega)
      exact q.2.2.2.1.2.2.2 q' i hi2 hqi e
     have hz := zAS (l := g.lives) (i := i) (s := g.lives[i].call.session) (by omega)
     simp (disch := omega) only [wK, seval, qK]
     refine ⟨g.lives.length - (i + 1), by omega, N2, .refl _, i + 1, by simp, sBN2, m6N2, by omega, rfl, fun x hx => ?_, hris2, fun s => ?_, fun q p hp hq hpi => ?_⟩
     ·rw [List.take_succ_eq_append_getElem hi2] at hx
      rcases List.mem_append.1 hx with hx | hx
      ·exact hall x hx
      ·rw [List.mem_singleton.1 hx]; exact ⟨liveQ_P.2 ⟨hq3.1 rfl, hq4.1 rfl⟩, hnos, hlt⟩
     ·by_cases e : g.lives[i].call.session = s
      ·subst e; omega
      ·have := hmore s
       rw [if_neg e] at this
       have := hcnt s
       omega
     ·by_cases e : p = i
      ·subst e; exact hz q (by omega) hq
      ·exact hses q p hp hq (by omega)
   ·have hil : i = g.lives.length := by omega
    have sM0 : Tk.Sub h M' := sB0.trans sM'
    have fa : qV M' j1 0 6 = some (zN g lg lv wy) := zD (sM' _ _ gB) rfl
    have hr := xS (k := (·.stamp)) (l := g.lives) (by omega) hris
    simp only [wK, seval, fa]
    refine zDQ (r.sub sM0) (by omega) (by omega) hr fun u2 hu2 => ?_
    simp only [wK, seval]
    rw [List.take_of_length_le (by omega)] at hall
    refine ⟨h, sM0, k u2 (hu2.trans ⟨fun w => ⟨hq1.1 rfl, hq2.1 rfl, hlog, ⟨by omega, hall, hr, fun q p hp hq => hses q p hp hq (by omega)⟩, fun hu => ⟨hemp hu, ?_⟩, w⟩, fun w => w.2.2.2.2.2⟩)⟩
    rw [hemp hu] at w
    cases hw : g.ways with
    | nil => rfl
    | cons x l =>
     obtain ⟨_, ⟨y, hy, _⟩, _⟩ := w.1 x (by rw [hw]; exact List.mem_cons_self)
     cases hy
end Go.Proofs.YtjioiemhgbkbfaaGreatDoor
end

section
attribute [local irreducible] Go.Tk.vc Go.Tk.vops Go.Tk.vdr Go.Tk.vop Go.Tk.vfl Go.Tk.HCalls
namespace Go.Proofs.YtjioiemhgbkbfaaGreatDoor
open Go Go.Tk
theorem qXL {h : H} {b o : Nat} {cs : List Value} {d : DTold} (r : rTold h cs d) (e : qV h b o 2 = some cs) : ∃ p, hcel h b o = some (.int .i64 d.house) /\ hcel h b (o + 1) = some p /\ rPairs h p d.pairs := by
 obtain ⟨p, rfl, s⟩ := r
 have e0 := zK e 0 rfl
 have e1 := zK e 1 rfl
 exact ⟨p, e0, e1, s⟩
theorem qRL {h : H} {x : DLive} {lk tl : Value} {nx : Int} (r : sLive h x lk tl) (hb : bLive x) (hn : inP 1 9999 nx) {R : Ending -> H -> Prop} (k : Asks R (qCN x nx) h) :
  HCalls Tryz.prog 40 #[.agg (zJ x lk tl).toArray, .int .i64 nx] h R := by
 refine yK (args := [.agg (zJ x lk tl).toArray, .int .i64 nx]) Tryz.func40 ir40 ?_
 have hn2 : IntKind.i64.wrap (nx - 1) = nx - 1 := qK _ (by have := hn.1; have := hn.2; omega)
 have b1 := hb.l; have b2 := hb.t; have b3 := hb.c
 unfold qAX at b3
 unfold lim at b1 b2 b3
 simp only [wK, seval, wLive]
 refine qC (o := blk (zJ x lk tl) 103) fun j hj => ?_
 have s1 := Sub.cons (o := blk (zJ x lk tl) 103) hj (Sub.refl h)
 simp only [wK, seval, wLive, hn2]
 refine zY fun q1 hq1 => ?_
 cases q1 with
 | false =>
  simp only [wK, seval, wLive]
  exact k.dno s1 fun p => qW hq1 rfl p.1
 | true =>
 simp only [wK, seval, wLive]
 refine zY fun q2 hq2 => ?_
 cases q2 with
 | false =>
  simp only [wK, seval, wLive]
  exact k.dno s1 fun p => qW hq2 rfl p.2.1
 | true =>
 simp only [wK, seval, wLive]
 refine zY fun q3 hq3 => ?_
 cases q3 with
 | false =>
  simp only [wK, seval, wLive]
  exact k.dno s1 fun p => qW hq3 rfl p.2.2.1
 | true =>
 simp only [wK, seval, wLive]
 refine zY fun q4 hq4 => ?_
 cases q4 with
 | false =>
  simp only [wK, seval, wLive]
  exact k.dno s1 fun p => qW hq4 rfl p.2.2.2.1
 | true =>
 simp only [wK, seval, wLive]
 refine qDZ (by omega) fun q5 hq5 => ?_
 cases q5 with
 | false =>
  simp only [wK, seval, wLive]
  exact k.dno s1 fun p => qW hq5 rfl p.2.2.2.2.1
 | true =>
 simp only [wK, seval, wLive]
 have r1 := r.sub s1
 simp only [wK, seval, wLive, r1.2.len, r1.1.len]
 refine qF (fun c1 => ?_) fun c1 => ?_
 case' refine_2 =>
  have hp2 : x.phase < 2 -> x.told = [] := fun c => absurd c (by omega)
  refine qF (fun c => absurd c (by omega)) fun c3 => ?_
  have hp1 : x.phase < 1 -> x.locked = [] := fun c => absurd c (by omega)
 case' refine_1 =>
  refine qF (fun c2 => k.dno s1 fun p => ?_) fun c2 => ?_
  ·have := p.2.2.2.2.2.1 c1
   rw [this] at c2; simp at c2
  have hp2 : x.phase < 2 -> x.told = [] := fun _ => List.eq_nil_of_length_eq_zero (by omega)
  refine qF (fun c3 => ?_) fun c3 => ?_
  case' refine_1 =>
   refine qF (fun c4 => k.dno s1 fun p => ?_) fun c4 => ?_
   ·have := p.2.2.2.2.2.2.1 c3
    rw [this] at c4; simp at c4
   have hp1 : x.phase < 1 -> x.locked = [] := fun _ => List.eq_nil_of_length_eq_zero (by omega)
  case' refine_2 =>
   have hp1 : x.phase < 1 -> x.locked = [] := fun c => absurd c (by omega)
 all_goals
  refine qP [5] (fun n vs h' => ∃ i : Nat, vs = [.int .i64 i] /\ h' = (j, blk (zJ x lk tl) 103) :: h /\ i <= x.told.length /\ n = x.told.length - i /\ (∀ t ∈ x.told.take i, xH t.house /\ xI t.pairs) /\ risU (·.house) x.told i) x.told.length rfl ⟨0, rfl, rfl, by omega, rfl, fun t ht => by simp at ht, xD _ _⟩ ?_
  rintro n f h' ⟨i, hv, rfl, hi, rfl, hall, hris⟩
  simp only [lm4] at hv
  simp only [wK, seval, wr, hv, wLive, r1.2.len, r1.1.len]
  refine qF (fun d1 => ?_) fun d1 => ?_
  ·have hi2 : i < x.told.length := by omega
   obtain ⟨b, o, cs, hx, e, rt⟩ := zU r1.2 hi2
   obtain ⟨pv, e0, e1, sp⟩ := qXL (rTold.sub (Sub.refl _) rt) e
   have sR := Sub.refl ((j, blk (zJ x lk tl) 103) :: h)
   have bt : x.told[i].pairs.length <= 1048576 := hb.ts _ (List.getElem_mem hi2)
   have no : ¬ (xH x.told[i].house /\ xI x.told[i].pairs) -> ¬ qCN x nx := fun g p => g (p.2.2.2.2.2.2.2.1.1 _ (List.getElem_mem hi2))
   have more : (xH x.told[i].house /\ xI x.told[i].pairs) -> ∀ t ∈ x.told.take (i + 1), xH t.house /\ xI t.pairs := fun g t ht => by
    rw [List.take_succ_eq_append_getElem hi2] at ht
    rcases List.mem_append.1 ht with ht | ht
    ·exact hall t ht
    ·rw [List.mem_singleton.1 ht]; exact g
   refine zC _ (Sub.refl _) ?_
   simp only [wK, seval, wLive, hx, e0, e1, sR]
   refine jR fun u1 hu1 => ?_
   cases u1 with
   | false =>
    simp only [wK, seval, wLive, hx, e0, e1, sR]
    exact k.dno s1 (no fun g => qW hu1 rfl g.1)
   | true =>
   simp only [wK, seval, wLive, hx, e0, e1, sR]
   refine kR sp (by omega) fun u2 hu2 => ?_
   cases u2 with
   | false =>
    simp only [wK, seval, wLive, hx, e0, e1, sR]
    exact k.dno s1 (no fun g => qW hu2 rfl g.2)
   | true =>
   simp only [wK, seval, wLive, hx, e0, e1, sR]
   have next : risU (·.house) x.told (i + 1) -> ∃ m, m < x.told.length - i /\ ∃ g, Tk.Sub g ((j, blk (zJ x lk tl) 103) :: h) /\ ∃ i' : Nat, [Value.int .i64 ((i : Int) + 1)] = [Value.int .i64 i'] /\ g = (j, blk (zJ x lk tl) 103) :: h /\ i' <= x.told.length /\ m = x.told.length - i' /\ (∀ t ∈ x.told.take i', xH t.house /\ xI t.pairs) /\ risU (·.house) x.told i' := fun g =>
    ⟨x.told.length - (i + 1), by omega, _, .refl _, i + 1, by simp, rfl, by omega, rfl, more ⟨hu1.1 rfl, hu2.1 rfl⟩, g⟩
   refine qF (fun g1 => ?_) fun g1 => ?_
   ·have hi3 : i - 1 < x.told.length := by omega
    obtain ⟨b3, o3, cs3, hx3, e3, rt3⟩ := zU r1.2 hi3
    obtain ⟨pv3, e03, e13, sp3⟩ := qXL (rTold.sub (Sub.refl _) rt3) e3
    have hw3 : IntKind.i64.wrap ((i : Int) - 1) = ((i - 1 : Nat) : Int) := by rw [qK _ ⟨by omega, by omega⟩]; omega
    simp only [wK, seval, wLive, hx, hx3, e03, e0, sR, hw3]
    refine xA (fun g2 => k.dno s1 fun p => vM (k := (·.house)) hi2 (by omega) (by show ¬ x.told[i - 1].house < x.told[i].house; omega) p.2.2.2.2.2.2.2.1.2) fun g2 => ?_
    simp (disch := omega) only [wK, seval, qK, sR]
    exact next (xR hi2 (by omega) hris g2)
   ·simp (disch := omega) only [wK, seval, qK, sR]
    exact next (wG (by omega) hris)
  ·have ht : qXM x.told := ⟨by rw [List.take_of_length_le (by omega)] at hall; exact hall, xS (by omega) hris⟩
   refine qP [6] (fun n vs h' => ∃ i : Nat, vs = [.int .i64 i] /\ h' = (j, blk (zJ x lk tl) 103) :: h /\ i <= x.locked.length /\ n = x.locked.length - i /\ allP xH (x.locked.take i) /\ risU id x.locked i) x.locked.length rfl ⟨0, rfl, rfl, by omega, rfl, xF _ _, xD _ _⟩ ?_
   rintro n f2 h' ⟨i, hv2, rfl, hi, rfl, hall2, hris2⟩
   simp only [lm4] at hv2
   simp only [wK, seval, wr, hv2, wLive, r1.2.len, r1.1.len]
   refine qF (fun d1 => ?_) fun d1 => ?_
   ·have hi2 : i < x.locked.length := by omega
    obtain ⟨b, o, hx, e⟩ := yU yM r1.1 hi2
    have e0 := yR e
    have sR := Sub.refl ((j, blk (zJ x lk tl) 103) :: h)
    refine zC _ (Sub.refl _) ?_
    simp only [wK, seval, wLive, hx, e0, sR]
    refine jR fun u1 hu1 => ?_
    cases u1 with
    | false =>
     simp only [wK, seval, wLive, hx, e0, sR]
     exact k.dno s1 fun p => vB hi2 (qW hu1 rfl) p.2.2.2.2.2.2.2.2.1
    | true =>
    simp only [wK, seval, wLive, hx, e0, sR]
    have next : risU id x.locked (i + 1) -> ∃ m, m < x.locked.length - i /\ ∃ g, Tk.Sub g ((j, blk (zJ x lk tl) 103) :: h) /\ ∃ i' : Nat, [Value.int .i64 ((i : Int) + 1)] = [Value.int .i64 i'] /\ g = (j, blk (zJ x lk tl) 103) :: h /\ i' <= x.locked.length /\ m = x.locked.length - i' /\ allP xH (x.locked.take i') /\ risU id x.locked i' := fun g =>
     ⟨x.locked.length - (i + 1), by omega, _, .refl _, i + 1, by simp, rfl, by omega, rfl, yJ hi2 hall2 (hu1.1 rfl), g⟩
    refine qF (fun g1 => ?_) fun g1 => ?_
    ·have hi3 : i - 1 < x.locked.length := by omega
     obtain ⟨b3, o3, hx3, e3⟩ := yU yM r1.1 hi3
     have e03 := yR e3
     have hw3 : IntKind.i64.wrap ((i : Int) - 1) = ((i - 1 : Nat) : Int) := by rw [qK _ ⟨by omega, by omega⟩]; omega
     simp only [wK, seval, wLive, hx, hx3, e03, e0, sR, hw3]
     refine xA (fun g2 => k.dno s1 fun p => vM (k := id) hi2 (by omega) (by simp only [id]; omega) p.2.2.2.2.2.2.2.2.2) fun g2 => ?_
     simp (disch := omega) only [wK, seval, qK, sR]
     exact next (xR hi2 (by omega) hris2 g2)
    ·simp (disch := omega) only [wK, seval, qK, sR]
     exact next (wG (by omega) hris2)
   ·exact ⟨h, s1, k.yes ⟨hq1.1 rfl, hq2.1 rfl, hq3.1 rfl, hq4.1 rfl, hq5.1 rfl, hp2, hp1, ht, xM (by omega) hall2, xS (by omega) hris2⟩⟩
end Go.Proofs.YtjioiemhgbkbfaaGreatDoor
end
