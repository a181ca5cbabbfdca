/- Parts of the proof, put together: V10, Y4, Y6, Y8, Y9, A34, Z1. -/
import Derived.Test.YtmfhlkkligcgdaaGreatDoorK1217
import Derived.Test.YtmfhlkkligcgdaaGreatDoorK1214
import Derived.Test.YtmfhlkkligcgdaaGreatDoorK1213
import Derived.Test.YtmfhlkkligcgdaaGreatDoorK1216
/- Which calls are ok. -/
section
set_option linter.unusedVariables false
set_option linter.unusedSimpArgs false
set_option maxRecDepth 20000
attribute [local irreducible] Go.Tk.vc Go.Tk.vops Go.Tk.vdr Go.Tk.vop Go.Tk.vfl Go.Tk.HCalls
namespace Go.Proofs.YtmfhlkkligcgdaaGreatDoor
open Go Go.Tk


theorem l3Form_c {h : H} {c : DCall} {R : Ending → H → Prop} (k : Asks R (formP c) h) : HCalls Tryz.prog 119 #[.agg (cCall c).toArray] h R := by
  refine HCalls_ir (args := [.agg (cCall c).toArray]) Tryz.func119 ir119 ?_
  simp only [walk, lists, acts, mem, plain, seqs, maps, cells, resL, resV, intBin, seval, wCall]
  refine newB_intro fun j hj => ?_
  have s1 := Sub.cons (o := blk (cCall c) 58) hj (Sub.refl h)
  simp only [walk, lists, acts, mem, plain, seqs, maps, cells, resL, resV, intBin, seval, wCall]
  refine l6In_c fun b1 hb1 => ?_
  simp only [walk, lists, acts, mem, plain, seqs, maps, cells, resL, resV, intBin, seval, wCall]
  refine ite_f (fun e => k.dno s1 fun p => not_b hb1 e p.1) fun e1 => ?_
  refine l6In_c fun b2 hb2 => ?_
  simp only [walk, lists, acts, mem, plain, seqs, maps, cells, resL, resV, intBin, seval, wCall]
  refine ite_f (fun e => k.dno s1 fun p => not_b hb2 e p.2.1) fun e2 => ?_
  have p1 := hb1.1 e1
  have p2 := hb2.1 e2
  refine ite_pos (fun c1 => ?_) fun c1 => ?_
  · refine ite_pos (fun c2 => ?_) fun c2 => ?_
    · refine ite_pos (fun c3 => ?_) fun c3 => ?_
      · refine ⟨h, s1, k _ ?_⟩
        rw [decide_eq_true_eq]
        exact ⟨fun x => ⟨p1, p2, .inl ⟨c1, c2, c3, by omega⟩⟩, fun p => by
          rcases p.2.2 with q | q
          · have := q.2.2.2; omega
          · have := q.1; omega⟩
      · exact k.dno s1 fun p => by
          rcases p.2.2 with q | q
          · exact c3 q.2.2.1
          · have := q.1; omega
    · exact k.dno s1 fun p => by
        rcases p.2.2 with q | q
        · exact c2 q.2.1
        · have := q.1; omega
  · have el : ((⟨c.text.toArray⟩ : ByteArray) = ⟨#[]⟩) = (c.text = []) := propext ⟨fun e => by simpa using congrArg (fun a : ByteArray => a.data.toList) e, fun e => by rw [e]⟩
    refine ite_pos (fun c2 => ?_) fun c2 => ?_
    · simp only [walk, lists, acts, mem, plain, seqs, maps, cells, resL, resV, intBin, seval, wCall, str, strBin, el]
      refine ite_pos (fun c3 => ?_) fun c3 => ?_
      · refine l6In_c fun b3 hb3 => ?_
        simp only [walk, lists, acts, mem, plain, seqs, maps, cells, resL, resV, intBin, seval, wCall]
        cases b3 with
        | false =>
          simp only [walk, lists, acts, mem, plain, seqs, maps, cells, resL, resV, intBin, seval]
          exact k.dno s1 fun p => by
            rcases p.2.2 with q | q
            · exact c1 q.1
            · exact not_b hb3 rfl q.2.2.1
        | true =>
          simp only [walk, lists, acts, mem, plain, seqs, maps, cells, resL, resV, intBin, seval, wCall]
          refine l6In_c fun b4 hb4 => ?_
          simp only [walk, lists, acts, mem, plain, seqs, maps, cells, resL, resV, intBin, seval, wCall]
          refine ⟨h, s1, k _ ?_⟩
          rw [hb4]
          exact ⟨fun x => ⟨p1, p2, .inr ⟨c2, c3, hb3.1 rfl, x⟩⟩, fun p => by
            rcases p.2.2 with q | q
            · exact absurd q.1 c1
            · exact q.2.2.2⟩
      · exact k.dno s1 fun p => by
          rcases p.2.2 with q | q
          · exact c1 q.1
          · exact c3 q.2.1
    · exact k.dno s1 fun p => by
        rcases p.2.2 with q | q
        · exact c1 q.1
        · exact c2 q.1

theorem specCallOk_c {h : H} {c : DCall} (ht : c.text.length ≤ 4194304) {R : Ending → H → Prop} (k : Asks R (callOkP c) h) : HCalls Tryz.prog 89 #[.agg (cCall c).toArray] h R := by
  refine HCalls_ir (args := [.agg (cCall c).toArray]) Tryz.func89 ir89 ?_
  simp only [walk, lists, acts, mem, plain, seqs, maps, cells, resL, resV, intBin, seval, wCall]
  refine newB_intro fun j hj => ?_
  have s1 := Sub.cons (o := blk (cCall c) 58) hj (Sub.refl h)
  simp only [walk, lists, acts, mem, plain, seqs, maps, cells, resL, resV, intBin, seval, wCall]
  refine ite_pos (fun c1 => ?_) fun c1 => ?_
  · refine specRead_c ht fun v g l ok O o d => ?_
    have n := d
    simp only [subs] at n
    have s2 := s1.trans (Sub.right d)
    simp only [walk, lists, acts, mem, plain, seqs, maps, cells, resL, resV, intBin, seval, wCall]
    cases ok with
    | false =>
      simp only [walk, lists, acts, mem, plain, seqs, maps, cells, resL, resV, intBin, seval]
      refine ⟨h, s2, k.no fun p => ?_⟩
      have := O.iff.2 (p.2 c1)
      cases this
    | true =>
      simp only [walk, lists, acts, mem, plain, seqs, maps, cells, resL, resV, intBin, seval, wCall, apps, n]
      refine l3Form_c fun b hb => ?_
      simp only [walk, lists, acts, mem, plain, seqs, maps, cells, resL, resV, intBin, seval, wCall]
      refine ⟨h, s2, k _ ?_⟩
      rw [hb]
      exact ⟨fun x => ⟨x, fun _ => O.iff.1 rfl⟩, fun p => p.1⟩
  · refine l3Form_c fun b hb => ?_
    simp only [walk, lists, acts, mem, plain, seqs, maps, cells, resL, resV, intBin, seval, wCall]
    refine ⟨h, s1, k _ ?_⟩
    rw [hb]
    exact ⟨fun x => ⟨x, fun y => absurd y c1⟩, fun p => p.1⟩

theorem implCallOk_c {h : H} {c : DCall} (gl : Gl h) (gm : MxL h) (ht : c.text.length ≤ 4194304) {R : Ending → H → Prop} (k : Asks R (callOkP c) h) : HCalls Tryz.prog 99 #[.agg (cCall c).toArray] h R := by
  refine HCalls_ir (args := [.agg (cCall c).toArray]) Tryz.func99 ir99 ?_
  have el : ((⟨c.text.toArray⟩ : ByteArray) = ⟨#[]⟩) = (c.text = []) := propext ⟨fun e => by simpa using congrArg (fun a : ByteArray => a.data.toList) e, fun e => by rw [e]⟩
  simp only [walk, lists, acts, mem, plain, seqs, maps, cells, resL, resV, intBin, seval, wCall]
  refine newB_intro fun j hj => ?_
  have s1 := Sub.cons (o := blk (cCall c) 58) hj (Sub.refl h)
  simp only [walk, lists, acts, mem, plain, seqs, maps, cells, resL, resV, intBin, seval, wCall]
  refine isSession_c fun b1 hb1 => ?_
  simp only [walk, lists, acts, mem, plain, seqs, maps, cells, resL, resV, intBin, seval, wCall]
  refine ite_f (fun e => k.dno s1 fun p => not_b hb1 e p.1.1) fun e1 => ?_
  refine within_c fun b2 hb2 => ?_
  simp only [walk, lists, acts, mem, plain, seqs, maps, cells, resL, resV, intBin, seval, wCall]
  refine ite_f (fun e => k.dno s1 fun p => not_b hb2 e p.1.2.1) fun e2 => ?_
  have p1 := hb1.1 e1
  have p2 := hb2.1 e2
  refine ite_pos (fun c1 => ?_) fun c1 => ?_
  · refine implRead_c (gl.sub s1) (gm.sub s1) ht fun v g l ok O o d => ?_
    have n := d
    simp only [subs] at n
    have s2 := s1.trans (Sub.right d)
    simp only [walk, lists, acts, mem, plain, seqs, maps, cells, resL, resV, intBin, seval, wCall]
    cases ok with
    | false =>
      simp only [walk, lists, acts, mem, plain, seqs, maps, cells, resL, resV, intBin, seval]
      refine ⟨h, s2, k.no fun p => ?_⟩
      have := O.iff.2 (p.2 c1)
      cases this
    | true =>
      have hd := O.iff.1 rfl
      have h80 : c.text.length ≤ 80 := by obtain ⟨_, _, _, z⟩ := hd; exact z
      simp only [walk, lists, acts, mem, plain, seqs, maps, cells, resL, resV, intBin, seval, wCall, apps, n]
      refine ite_pos (fun c2 => ?_) fun c2 => ?_
      · refine ⟨h, s2, k _ ?_⟩
        rw [decide_eq_true_eq]
        exact ⟨fun x => ⟨⟨p1, p2, .inl ⟨c1, c2, x, h80⟩⟩, fun _ => hd⟩, fun p => by
          rcases p.1.2.2 with q | q
          · exact q.2.2.1
          · have := q.1; omega⟩
      · refine ⟨h, s2, k.no fun p => ?_⟩
        rcases p.1.2.2 with q | q
        · exact c2 q.2.1
        · have := q.1; omega
  · refine ite_pos (fun c2 => ?_) fun c2 => ?_
    · simp only [walk, lists, acts, mem, plain, seqs, maps, cells, resL, resV, intBin, seval, wCall, str, strBin, el]
      refine ite_pos (fun c3 => ?_) fun c3 => ?_
      · refine isSlot_c fun b3 hb3 => ?_
        simp only [walk, lists, acts, mem, plain, seqs, maps, cells, resL, resV, intBin, seval, wCall]
        cases b3 with
        | false =>
          simp only [walk, lists, acts, mem, plain, seqs, maps, cells, resL, resV, intBin, seval]
          exact k.dno s1 fun p => by
            rcases p.1.2.2 with q | q
            · exact c1 q.1
            · exact not_b hb3 rfl q.2.2.1
        | true =>
          simp only [walk, lists, acts, mem, plain, seqs, maps, cells, resL, resV, intBin, seval, wCall]
          refine isHouse_c fun b4 hb4 => ?_
          simp only [walk, lists, acts, mem, plain, seqs, maps, cells, resL, resV, intBin, seval, wCall]
          refine ⟨h, s1, k _ ?_⟩
          rw [hb4]
          exact ⟨fun x => ⟨⟨p1, p2, .inr ⟨c2, c3, hb3.1 rfl, x⟩⟩, fun y => absurd y c1⟩, fun p => by
            rcases p.1.2.2 with q | q
            · exact absurd q.1 c1
            · exact q.2.2.2⟩
      · exact k.dno s1 fun p => by
          rcases p.1.2.2 with q | q
          · exact c1 q.1
          · exact c3 q.2.1
    · exact k.dno s1 fun p => by
        rcases p.1.2.2 with q | q
        · exact c1 q.1
        · exact c2 q.1
end Go.Proofs.YtmfhlkkligcgdaaGreatDoor
end

/- Gates: the reference's. -/
section
set_option linter.unusedVariables false
set_option linter.unusedSimpArgs false
set_option maxRecDepth 20000
attribute [local irreducible] Go.Tk.vc Go.Tk.vops Go.Tk.vdr Go.Tk.vop Go.Tk.vfl Go.Tk.HCalls
namespace Go.Tk
open Go
theorem lastOf_zero (l : List DRecord) (s : Int) : lastOf (l.take 0) s = none := by simp [lastOf]
theorem lastOf_more {l : List DRecord} {n : Nat} (h : n < l.length) (s : Int) : lastOf (l.take (n + 1)) s = if l[n].call.session = s then some l[n] else lastOf (l.take n) s := by
  unfold lastOf
  rw [List.take_succ_eq_append_getElem h, List.reverse_append]
  simp only [List.reverse_cons, List.reverse_nil, List.nil_append, List.singleton_append, List.find?_cons]
  by_cases c : l[n].call.session = s
  · simp [c]
  · simp [c]
theorem last_at (l : List DRecord) (s : Int) : ∀ n, n ≤ l.length → ∃ m, m ≤ n ∧ (∀ j (hj : j < l.length), m ≤ j → j < n → ¬ l[j].call.session = s) ∧
    ((m = 0 ∧ lastOf (l.take n) s = none) ∨ ∃ i, ∃ (hi : i < l.length), m = i + 1 ∧ l[i].call.session = s ∧ lastOf (l.take n) s = some l[i]) := by
  intro n
  induction n with
  | zero => intro _; exact ⟨0, Nat.le_refl _, fun j _ _ h => absurd h (Nat.not_lt_zero _), .inl ⟨rfl, lastOf_zero l s⟩⟩
  | succ n ih =>
    intro hn
    have hn2 : n < l.length := hn
    by_cases c : l[n].call.session = s
    · exact ⟨n + 1, Nat.le_refl _, fun j _ h1 h2 => absurd h2 (by omega), .inr ⟨n, hn2, rfl, c, by rw [lastOf_more hn2, if_pos c]⟩⟩
    · obtain ⟨m, h1, h2, h3⟩ := ih (by omega)
      refine ⟨m, by omega, fun j hj a b => ?_, ?_⟩
      · by_cases e : j = n
        · subst e; exact c
        · exact h2 j hj a (by omega)
      · rw [lastOf_more hn2, if_neg c]; exact h3
end Go.Tk
namespace Go.Proofs.YtmfhlkkligcgdaaGreatDoor
open Go Go.Tk

theorem l22Last_x {h : H} {v : Value} {l : List DRecord} {s : Int} (r : rRs h (rRecord h) 11 v l) (hl : l.length ≤ 1099511627776) :
    ∃ d a b ok, sRecord h d a b ∧ lastOf l s = (if ok = true then some d else none) ∧ ∀ R : Ending → H → Prop, R (.returned (.tuple #[.agg (cRecord d a b).toArray, .bool ok])) h → HCalls Tryz.prog 59 #[v, .int .i64 s] h R := by
  obtain ⟨m, hm, hno, hat⟩ := last_at l s l.length (Nat.le_refl _)
  rw [List.take_length] at hat
  have zr := zRecord_eq
  have walk : ∀ (d : DRecord) (a b : Value) (ok : Bool) (R : Ending → H → Prop), ((m = 0 ∧ d = zRecord ∧ a = .slice none 0 0 ∧ b = .slice none 0 0 ∧ ok = false) ∨ (ok = true ∧ ∃ i bb oo, m = i + 1 ∧ i < l.length ∧ d.call.session = s ∧ vone a = true ∧ vone b = true ∧ (∀ (kd : IntKind) (f : Value → Prop), idxSK v (.int kd (i : Int)) 11 f = f (.pointer (some ⟨bb, oo, none⟩))) ∧ hread h bb oo 11 = some (cRecord d a b))) →
      R (.returned (.tuple #[.agg (cRecord d a b).toArray, .bool ok])) h → HCalls Tryz.prog 59 #[v, .int .i64 s] h R := by
    intro d a b ok R hc k
    refine HCalls_ir (args := [v, .int .i64 s]) Tryz.func59 ir59 ?_
    simp only [walk, lists, acts, mem, plain, seqs, maps, cells, resL, resV, intBin, seval, zr]
    refine newB_intro (o := blk (cRecord zRecord (.slice none 0 0) (.slice none 0 0)) 86) fun j hj => ?_
    simp (disch := omega) only [walk, lists, acts, mem, plain, seqs, maps, cells, resL, resV, intBin, seval, zr, r.len, wrapI]
    have s1 := fun o => Sub.cons (o := o) hj (Sub.refl h)
    refine vc_loop [6] (fun n vs h' => n ≤ l.length ∧ m ≤ n ∧ vs = [.int .i64 ((n : Int) - 1)] ∧ h' = (j, blk (cRecord zRecord (.slice none 0 0) (.slice none 0 0)) 86) :: h) l.length rfl ⟨by omega, hm, rfl, rfl⟩ ?_
    rintro n f h' ⟨hn, hmn, hv, rfl⟩
    simp only [List.map_cons, List.map_nil, List.cons.injEq, and_true] at hv
    have r1 : rRs ((j, blk (cRecord zRecord (.slice none 0 0) (.slice none 0 0)) 86) :: h) (rRecord h) 11 v l := r.subH (s1 _)
    simp only [walk, lists, acts, mem, plain, seqs, maps, cells, resL, resV, intBin, seval, wr, hv, zr]
    refine ite_ge (fun c => ?_) fun c => ?_
    · obtain ⟨i, rfl⟩ : ∃ i, n = i + 1 := ⟨n - 1, by omega⟩
      have hi : i < l.length := by omega
      rw [show ((i + 1 : Nat) : Int) - 1 = (i : Int) by omega]
      by_cases hmi : m = i + 1
      · rcases hc with ⟨c0, _⟩ | ⟨rfl, i', bb, oo, e1, e2, e3, oa, ob, hx, e⟩
        · omega
        · have : i' = i := by omega
          subst this
          have e' : hread ((j, blk (cRecord zRecord (.slice none 0 0) (.slice none 0 0)) 86) :: h) bb oo 11 = some (cRecord d a b) := hread_sub (s1 _) e
          have c2 : hcel ((j, blk (cRecord zRecord (.slice none 0 0) (.slice none 0 0)) 86) :: h) bb (oo + 2) = some (.int .i64 d.call.session) := hread_c e' 2 rfl
          have hone := wRecord.2.2.2.2.2.2.2.2.2.2.2.2.2.2.1 d a b oa ob
          simp only [walk, lists, acts, mem, plain, seqs, maps, cells, resL, resV, intBin, seval, hx, c2, zr, e3, e', wRecord, hone]
          exact ⟨h, s1 _, k⟩
      · obtain ⟨bb, oo, cs, hx, e, a1, a2, rfl, sr⟩ := rs_at r1 hi
        have c2 : hcel ((j, blk (cRecord zRecord (.slice none 0 0) (.slice none 0 0)) 86) :: h) bb (oo + 2) = some (.int .i64 l[i].call.session) := hread_c e 2 rfl
        have hne := hno i hi (by omega) hi
        simp (disch := omega) only [walk, lists, acts, mem, plain, seqs, maps, cells, resL, resV, intBin, seval, hx, c2, zr, hne, wrapI]
        exact ⟨i, by omega, _, .refl _, by omega, by omega, by simp, rfl⟩
    · have : m = 0 := by omega
      rcases hc with ⟨c0, rfl, rfl, rfl, rfl⟩ | ⟨rfl, i', bb, oo, e1, _⟩
      · simp only [walk, lists, acts, mem, plain, seqs, maps, cells, resL, resV, intBin, seval, zr, wRecord]
        exact ⟨h, s1 _, k⟩
      · omega
  rcases hat with ⟨m0, hn⟩ | ⟨i, hi, hmi, hsi, hs⟩
  · exact ⟨zRecord, .slice none 0 0, .slice none 0 0, false, ⟨(oLs_nil (e := 0)).rd.sub (Sub.nil _), (oLs_nil (e := 0)).rd.sub (Sub.nil _)⟩, hn, fun R k => walk _ _ _ _ R (.inl ⟨m0, rfl, rfl, rfl, rfl⟩) k⟩
  · obtain ⟨bb, oo, cs, hx, e, a1, a2, rfl, sr⟩ := rs_at r hi
    exact ⟨l[i], a1, a2, true, sr, hs, fun R k => walk _ _ _ _ R (.inr ⟨rfl, i, bb, oo, hmi, hi, hsi, rdS.one sr.1, rdS.one sr.2, hx, e⟩) k⟩

theorem l22LogOk_c {h : H} {v : Value} {l : List DRecord} {nx : Int} (r : rRs h (rRecord h) 11 v l) (hl : l.length ≤ 1048576) (hb : allP bRecord l) (hn : inP 1 9999 nx) {R : Ending → H → Prop} (k : Asks R (glogP l nx) h) :
    HCalls Tryz.prog 57 #[v, .int .i64 nx] h R := by
  refine HCalls_ir (args := [v, .int .i64 nx]) Tryz.func57 ir57 ?_
  have zr := zRecord_eq
  have hn2 : IntKind.i64.wrap (nx - 1) = nx - 1 := wrapI _ (by have := hn.1; have := hn.2; omega)
  simp only [walk, lists, acts, mem, plain, seqs, maps, cells, resL, resV, intBin, seval, zr, r.len]
  refine ite_lt (fun c => .of (k.no fun p => by have := p.1; omega)) fun c0 => ?_
  refine vc_loop [5] (fun n vs h' => ∃ i : Nat, vs = [.int .i64 i] ∧ h' = h ∧ i ≤ l.length ∧ n = l.length - i ∧ ∀ j (hj : j < i) (hj2 : j < l.length), recordP (l.take j) nx l[j]) l.length rfl ⟨0, rfl, rfl, by omega, rfl, fun j hj => absurd hj (Nat.not_lt_zero _)⟩ ?_
  rintro n f h' ⟨i, hv, rfl, hi, rfl, hok⟩
  simp only [List.map_cons, List.map_nil, List.cons.injEq, and_true] at hv
  simp only [walk, lists, acts, mem, plain, seqs, maps, cells, resL, resV, intBin, seval, wr, hv, zr, r.len]
  refine ite_lt (fun c => ?_) fun c => ?_
  · have hi2 : i < l.length := by omega
    have bR := hb _ (List.getElem_mem hi2)
    have b1 := bR.v; have b2 := bR.p; have b3 := bR.c
    unfold bCall at b3
    unfold lim at b1 b2 b3
    obtain ⟨b, o, cs, hx, e, a1, a2, rfl, sr⟩ := rs_at r hi2
    have hone := wRecord.2.2.2.2.2.2.2.2.2.2.2.2.2.2.1 l[i] a1 a2 (rdS.one sr.1) (rdS.one sr.2)
    have no : ∀ {P : Prop}, (recordP (l.take i) nx l[i] → P) → ¬ P → ¬ glogP l nx := fun f g p => g (f (p.2 i hi2))
    simp only [walk, lists, acts, mem, plain, seqs, maps, cells, resL, resV, intBin, seval, hx, e, zr, wRecord]
    refine newB_intro (o := blk (cRecord zRecord (.slice none 0 0) (.slice none 0 0)) 86) fun j hj => ?_
    simp only [walk, lists, acts, mem, plain, seqs, maps, cells, resL, resV, intBin, seval, zr, wRecord, hone, hn2]
    have s1 := fun o => Sub.cons (o := o) hj (Sub.refl h')
    have ec : ∀ c, (cRecord l[i] a1 a2).drop 2 = cCall l[i].call ++ c → True := fun _ _ => trivial
    refine l6In_c fun q1 hq1 => ?_
    cases q1 with
    | false =>
      simp only [walk, lists, acts, mem, plain, seqs, maps, cells, resL, resV, intBin, seval, zr, wRecord]
      exact k.dno (s1 _) (no (fun p => p.1) (not_b hq1 rfl))
    | true =>
      simp only [walk, lists, acts, mem, plain, seqs, maps, cells, resL, resV, intBin, seval, zr, wRecord]
      refine l6In_c fun q2 hq2 => ?_
      cases q2 with
      | false =>
        simp only [walk, lists, acts, mem, plain, seqs, maps, cells, resL, resV, intBin, seval, zr, wRecord]
        exact k.dno (s1 _) (no (fun p => p.2.1) (not_b hq2 rfl))
      | true =>
        simp only [walk, lists, acts, mem, plain, seqs, maps, cells, resL, resV, intBin, seval, zr, wRecord]
        refine specCallOk_c (by omega) fun q3 hq3 => ?_
        cases q3 with
        | false =>
          simp only [walk, lists, acts, mem, plain, seqs, maps, cells, resL, resV, intBin, seval, zr, wRecord]
          exact k.dno (s1 _) (no (fun p => p.2.2.1) (not_b hq3 rfl))
        | true =>
          simp only [walk, lists, acts, mem, plain, seqs, maps, cells, resL, resV, intBin, seval, zr, wRecord]
          refine l6In_c fun q4 hq4 => ?_
          cases q4 with
          | false =>
            simp only [walk, lists, acts, mem, plain, seqs, maps, cells, resL, resV, intBin, seval, zr, wRecord]
            exact k.dno (s1 _) (no (fun p => p.2.2.2.1) (not_b hq4 rfl))
          | true =>
            simp only [walk, lists, acts, mem, plain, seqs, maps, cells, resL, resV, intBin, seval, zr, wRecord]
            refine l3Vals_c (sr.1.sub (s1 _)) (by omega) fun q5 hq5 => ?_
            cases q5 with
            | false =>
              simp only [walk, lists, acts, mem, plain, seqs, maps, cells, resL, resV, intBin, seval, zr, wRecord]
              exact k.dno (s1 _) (no (fun p => p.2.2.2.2.1) (not_b hq5 rfl))
            | true =>
              simp only [walk, lists, acts, mem, plain, seqs, maps, cells, resL, resV, intBin, seval, zr, wRecord]
              refine l1Pairs_c (sr.2.sub (s1 _)) (by omega) fun q6 hq6 => ?_
              cases q6 with
              | false =>
                simp only [walk, lists, acts, mem, plain, seqs, maps, cells, resL, resV, intBin, seval, zr, wRecord]
                exact k.dno (s1 _) (no (fun p => p.2.2.2.2.2.1) (not_b hq6 rfl))
              | true =>
                simp only [walk, lists, acts, mem, plain, seqs, maps, cells, resL, resV, intBin, seval, zr, wRecord]
                obtain ⟨M, hM⟩ : ∃ M, M = (j, blk (cRecord l[i] a1 a2) 86) :: h' := ⟨_, rfl⟩
                have sM : Tk.Sub h' M := by rw [hM]; exact s1 _
                have f0 : hcel M j 0 = some (.int .i64 l[i].stamp) := by rw [hM]; simp only [walk, lists, acts, mem, plain, seqs, maps, cells, resL, resV, intBin, seval, wRecord]
                have f2 : hcel M j 2 = some (.int .i64 l[i].call.session) := by rw [hM]; simp only [walk, lists, acts, mem, plain, seqs, maps, cells, resL, resV, intBin, seval, wRecord]
                have f3 : hcel M j 3 = some (.int .i64 l[i].call.number) := by rw [hM]; simp only [walk, lists, acts, mem, plain, seqs, maps, cells, resL, resV, intBin, seval, wRecord]
                have rM : rRs M (rRecord h') 11 v l := r.subH sM
                rw [← hM]
                refine vc_loop [7] (fun n vs g' => ∃ p : Nat, vs = [.int .i64 p] ∧ g' = M ∧ p ≤ i ∧ n = i - p ∧ ∀ x ∈ l.take p, x.stamp ≠ l[i].stamp) i rfl ⟨0, rfl, rfl, by omega, rfl, fun x hx => by simp at hx⟩ ?_
                rintro n2 f' g' ⟨p, hv2, rfl, hp, rfl, hst⟩
                simp only [List.map_cons, List.map_nil, List.cons.injEq, and_true] at hv2
                simp only [walk, lists, acts, mem, plain, seqs, maps, cells, resL, resV, intBin, seval, wr, hv2]
                refine ite_lt (fun c4 => ?_) fun c4 => ?_
                · have hp2 : p < l.length := by omega
                  obtain ⟨b', o', cs', hx', e', a1', a2', rfl, sr'⟩ := rs_at rM hp2
                  have g0 : hcel g' b' o' = some (.int .i64 l[p].stamp) := by have := hread_c e' 0 rfl; rw [Nat.add_zero] at this; exact this
                  refine vc_draw _ (Sub.refl _) ?_
                  simp only [walk, lists, acts, mem, plain, seqs, maps, cells, resL, resV, intBin, seval, hx', g0, f0, Sub.refl]
                  have hin : l[p] ∈ l.take i := by
                    rw [List.mem_take_iff_getElem]
                    exact ⟨p, by omega, rfl⟩
                  refine ite_pos (fun c5 => k.dno sM (no (fun p => p.2.2.2.2.2.2.1) fun q => q _ hin c5)) fun c5 => ?_
                  simp (disch := omega) only [wrapI]
                  refine ⟨i - (p + 1), by omega, _, .refl _, p + 1, by simp, rfl, by omega, rfl, fun x hx => ?_⟩
                  rw [List.take_succ_eq_append_getElem hp2] at hx
                  rcases List.mem_append.1 hx with hx | hx
                  · exact hst x hx
                  · rw [List.mem_singleton.1 hx]; exact c5
                · have hpi : p = i := by omega
                  have hst2 : ∀ x ∈ l.take i, x.stamp ≠ l[i].stamp := fun x hx => hst x (by rw [hpi]; exact hx)
                  refine vc_draw _ (Sub.refl _) ?_
                  simp only [walk, lists, acts, mem, plain, seqs, maps, cells, resL, resV, intBin, seval]
                  refine slc_rs_pre rM (by omega) (by omega) fun v2 r2 => ?_
                  rw [Int.toNat_natCast] at r2
                  simp only [walk, lists, acts, mem, plain, seqs, maps, cells, resL, resV, intBin, seval, f2]
                  obtain ⟨d, x1, x2, ok, sd, hlast, hc⟩ := l22Last_x (s := l[i].call.session) (r2.relImp fun _ _ x => rRecord.sub sM x) (by rw [List.length_take]; omega)
                  refine ⟨_, hc, ?_⟩
                  simp only [walk, lists, acts, mem, plain, seqs, maps, cells, resL, resV, intBin, seval, zr]
                  refine newB_intro (o := blk (cRecord zRecord (.slice none 0 0) (.slice none 0 0)) 86) fun j8 hj8 => ?_
                  have s8 := Sub_new (o := blk (cRecord zRecord (.slice none 0 0) (.slice none 0 0)) 86) hj8
                  have hone8 := wRecord.2.2.2.2.2.2.2.2.2.2.2.2.2.2.1 d x1 x2 (rdS.one sd.1) (rdS.one sd.2)
                  have s9 : ∀ o, Tk.Sub g' ((j8, o) :: g') := fun o => Sub.cons hj8 (Sub.refl _)
                  have f3' := hcel_sub (s9 (blk (cRecord d x1 x2) 86)) f3
                  have fin : (∀ x, lastOf (l.take i) l[i].call.session = some x → x.call.number < l[i].call.number) → ∃ m, m < l.length - i ∧ ∃ g, Tk.Sub g ((j8, blk (cRecord d x1 x2) 86) :: g') ∧ ∃ i' : Nat, [Value.int .i64 ((i : Int) + 1)] = [Value.int .i64 i'] ∧ g = h' ∧ i' ≤ l.length ∧ m = l.length - i' ∧ ∀ (j : Nat), j < i' → ∀ (hj2 : j < l.length), recordP (l.take j) nx l[j] := fun hfin =>
                    ⟨l.length - (i + 1), by omega, h', sM.trans (s9 _), i + 1, by simp, rfl, by omega, rfl, fun q hq hq' => by
                      by_cases e : q = i
                      · subst e; exact ⟨hq1.1 rfl, hq2.1 rfl, hq3.1 rfl, hq4.1 rfl, hq5.1 rfl, hq6.1 rfl, hst2, hfin⟩
                      · exact hok q (by omega) hq'⟩
                  simp only [walk, lists, acts, mem, plain, seqs, maps, cells, resL, resV, intBin, seval, s8, zr, wRecord, hone8]
                  cases ok with
                  | false =>
                    simp (disch := omega) only [walk, lists, acts, mem, plain, seqs, maps, cells, resL, resV, intBin, seval, wrapI]
                    exact fin fun x hx => by rw [hlast] at hx; simp at hx
                  | true =>
                    simp only [walk, lists, acts, mem, plain, seqs, maps, cells, resL, resV, intBin, seval, f3']
                    refine ite_ge (fun c7 => k.dno (sM.trans (s9 _)) (no (fun p => p.2.2.2.2.2.2.2) fun q => ?_)) fun c7 => ?_
                    · have := q d (by rw [hlast]; rfl)
                      omega
                    · simp (disch := omega) only [walk, lists, acts, mem, plain, seqs, maps, cells, resL, resV, intBin, seval, wrapI]
                      refine fin fun x hx => ?_
                      rw [hlast] at hx
                      cases hx
                      exact c7
  · exact .of (k.yes ⟨by omega, fun j hj => hok j (by omega) hj⟩)
end Go.Proofs.YtmfhlkkligcgdaaGreatDoor
end

/- Gates: the reference's ways, and which are ok. -/
section
set_option linter.unusedVariables false
set_option linter.unusedSimpArgs false
set_option maxRecDepth 20000
attribute [local irreducible] Go.Tk.vc Go.Tk.vops Go.Tk.vdr Go.Tk.vop Go.Tk.vfl Go.Tk.HCalls
namespace Go.Tk
open Go
/-- The place of a stamp's call. -/
def liveI (l : List DLive) (s : Int) : Int := match l.findIdx? fun x => decide (x.stamp = s) with
  | some i => i
  | none => -1
theorem findIdx_no' {α : Type} {p : α → Bool} {l : List α} (h : ∀ x ∈ l, p x = false) : l.findIdx? p = none := by
  rw [List.findIdx?_eq_none_iff]; exact h
theorem findIdx_at' {α : Type} {p : α → Bool} {l : List α} {i : Nat} (hi : i < l.length) (h : ∀ x ∈ l.take i, p x = false) (hp : p l[i] = true) : l.findIdx? p = some i := by
  rw [List.findIdx?_eq_some_iff_getElem]
  refine ⟨hi, hp, fun j hj => ?_⟩
  have : l[j] ∈ l.take i := by
    rw [List.mem_take_iff_getElem]
    exact ⟨j, by omega, rfl⟩
  rw [h _ this]; simp
theorem none_more' {α : Type} {p : α → Bool} {l : List α} {i : Nat} (hi : i < l.length) (h : ∀ x ∈ l.take i, p x = false) (hp : p l[i] = false) : ∀ x ∈ l.take (i + 1), p x = false := by
  intro x hx
  rw [List.take_succ_eq_append_getElem hi] at hx
  rcases List.mem_append.1 hx with hx | hx
  · exact h x hx
  · rw [List.mem_singleton.1 hx]; exact hp
theorem liveI_at (l : List DLive) (s : Int) : (liveI l s = -1 ∧ liveOf l s = none) ∨ ∃ i, ∃ (hi : i < l.length), liveI l s = i ∧ liveOf l s = some l[i] := by
  unfold liveI liveOf
  induction l with
  | nil => exact .inl ⟨rfl, rfl⟩
  | cons x l ih =>
    rw [List.findIdx?_cons, List.find?_cons]
    by_cases c : x.stamp = s
    · exact .inr ⟨0, by simp, by simp [c], by simp [c]⟩
    · rcases ih with ⟨h1, h2⟩ | ⟨i, hi, h1, h2⟩
      · refine .inl ⟨?_, by simp [c, h2]⟩
        cases e : l.findIdx? (fun x => decide (x.stamp = s)) with
        | none => simp [c, e]
        | some k => rw [e] at h1; simp only at h1; omega
      · refine .inr ⟨i + 1, by simpa using hi, ?_, by simp [c, h2]⟩
        cases e : l.findIdx? (fun x => decide (x.stamp = s)) with
        | none => rw [e] at h1; simp only at h1; omega
        | some k => rw [e] at h1; simp only at h1; simp [c, e]; omega
end Go.Tk
namespace Go.Proofs.YtmfhlkkligcgdaaGreatDoor
open Go Go.Tk

theorem l22Live_c {h : H} {v : Value} {l : List DLive} {s : Int} (r : rRs h (rLive h) 12 v l) (hl : l.length ≤ 1099511627776) {R : Ending → H → Prop} (k : R (.returned (.int .i64 (liveI l s))) h) : HCalls Tryz.prog 93 #[v, .int .i64 s] h R := by
  refine HCalls_ir (args := [v, .int .i64 s]) Tryz.func93 ir93 ?_
  simp only [walk, lists, acts, mem, plain, seqs, maps, cells, resL, resV, intBin, seval, r.len]
  refine vc_loop [5] (fun n vs h' => ∃ i : Nat, vs = [.int .i64 i] ∧ h' = h ∧ i ≤ l.length ∧ n = l.length - i ∧ ∀ x ∈ l.take i, decide (x.stamp = s) = false) l.length rfl ⟨0, rfl, rfl, by omega, by omega, by simp⟩ ?_
  rintro n f h' ⟨i, hv, rfl, hi, rfl, ht⟩
  simp only [List.map_cons, List.map_nil, List.cons.injEq, and_true] at hv
  simp only [walk, lists, acts, mem, plain, seqs, maps, cells, resL, resV, intBin, seval, wr, hv, r.len]
  refine ite_lt (fun c => ?_) fun c => ?_
  · have hi2 : i < l.length := by omega
    obtain ⟨b, o, cs, hx, e, a1, a2, rfl, sr⟩ := rs_at r hi2
    have f1 : hcel h' b o = some (.int .i64 l[i].stamp) := by have := hread_c e 0 rfl; rw [Nat.add_zero] at this; exact this
    simp only [walk, lists, acts, mem, plain, seqs, maps, cells, resL, resV, intBin, seval, hx, f1]
    refine ite_pos (fun c1 => ?_) fun c1 => ?_
    · refine .of ?_
      rw [liveI, findIdx_at' hi2 ht (by simpa using c1)] at k
      exact k
    · simp (disch := omega) only [wrapI]
      exact ⟨l.length - (i + 1), by omega, h', .refl _, i + 1, by simp, rfl, by omega, rfl, fun x hx => by simpa using none_more' (p := fun x => decide (x.stamp = s)) hi2 ht (by simpa using c1) x hx⟩
  · have hi2 : i = l.length := by omega
    subst hi2
    rw [List.take_length] at ht
    rw [liveI, findIdx_no' ht] at k
    exact .of k

theorem l22Used_c {h : H} {v : Value} {l : List DWay} {s : Int} (r : rLs h cWay 2 v l) (hl : l.length ≤ 1099511627776) {R : Ending → H → Prop} (k : R (.returned (.int .i64 (usedN l s))) h) : HCalls Tryz.prog 94 #[v, .int .i64 s] h R := by
  refine HCalls_ir (args := [v, .int .i64 s]) Tryz.func94 ir94 ?_
  simp only [walk, lists, acts, mem, plain, seqs, maps, cells, resL, resV, intBin, seval, r.len]
  refine vc_loop [6, 5] (fun n vs h' => ∃ i : Nat, vs = [.int .i64 i, .int .i64 (usedN (l.take i) s)] ∧ h' = h ∧ i ≤ l.length ∧ n = l.length - i) l.length rfl ⟨0, rfl, rfl, by omega, by omega⟩ ?_
  rintro n f h' ⟨i, hv, rfl, hi, rfl⟩
  simp only [List.map_cons, List.map_nil, List.cons.injEq, and_true] at hv
  simp only [walk, lists, acts, mem, plain, seqs, maps, cells, resL, resV, intBin, seval, wr, hv.1, hv.2, r.len]
  refine ite_lt (fun c => ?_) fun c => ?_
  · have hi2 : i < l.length := by omega
    obtain ⟨b, o, hx, e⟩ := ls_at (enc := cWay) (sz := 2) (fun _ => rfl) r hi2
    have f1 : hcel h' b o = some (.int .i64 l[i].house) := by have := hread_c e 0 rfl; rw [Nat.add_zero] at this; exact this
    have hu : usedN (l.take i) s ≤ i := Nat.le_trans List.countP_le_length (by rw [List.length_take]; omega)
    have hm : usedN (l.take (i + 1)) s = usedN (l.take i) s + if l[i].house = s then 1 else 0 := by
      unfold usedN
      rw [List.take_succ_eq_append_getElem hi2, List.countP_append, List.countP_singleton]
      simp only [decide_eq_true_eq]
    simp only [walk, lists, acts, mem, plain, seqs, maps, cells, resL, resV, intBin, seval, hx, f1]
    refine ite_pos (fun c1 => ?_) fun c1 => ?_
    · rw [if_pos c1] at hm
      simp (disch := omega) only [walk, lists, acts, mem, plain, seqs, maps, cells, resL, resV, intBin, seval, wrapI]
      exact ⟨l.length - (i + 1), by omega, h', .refl _, i + 1, by rw [hm]; simp, rfl, by omega, rfl⟩
    · rw [if_neg c1] at hm
      simp (disch := omega) only [walk, lists, acts, mem, plain, seqs, maps, cells, resL, resV, intBin, seval, wrapI]
      exact ⟨l.length - (i + 1), by omega, h', .refl _, i + 1, by rw [hm]; simp, rfl, by omega, rfl⟩
  · have hi2 : i = l.length := by omega
    subst hi2
    rw [List.take_length] at *
    exact .of k

theorem l22WaysOk_c {h : H} {g : DGate} {lg lv wy : Value} (r : sGate h g lg lv wy) (hb : bGate g) {R : Ending → H → Prop} (k : Asks R (waysP g.lives g.ways) h) : HCalls Tryz.prog 60 #[.agg (cGate g lg lv wy).toArray] h R := by
  refine HCalls_ir (args := [.agg (cGate g lg lv wy).toArray]) Tryz.func60 ir60 ?_
  have b1 := hb.lives; have b2 := hb.ways
  unfold lim at b1 b2
  simp only [walk, lists, acts, mem, plain, seqs, maps, cells, resL, resV, intBin, seval, wGate]
  refine newB_intro (o := blk (cGate g lg lv wy) 34) fun j hj => ?_
  have s1 := Sub.cons (o := blk (cGate g lg lv wy) 34) hj (Sub.refl h)
  have r1 := r.sub s1
  obtain ⟨M, hM⟩ : ∃ M, M = (j, blk (cGate g lg lv wy) 34) :: h := ⟨_, rfl⟩
  have f4 : hcel M j 4 = some lv := by rw [hM]; simp only [walk, lists, acts, mem, plain, seqs, maps, cells, resL, resV, intBin, seval, wGate]
  have f5 : hcel M j 5 = some wy := by rw [hM]; simp only [walk, lists, acts, mem, plain, seqs, maps, cells, resL, resV, intBin, seval, wGate]
  have zw := zWay_eq
  rw [← hM] at r1 s1
  simp only [walk, lists, acts, mem, plain, seqs, maps, cells, resL, resV, intBin, seval, wGate, ← hM]
  refine vc_loop [3] (fun n vs h' => ∃ i : Nat, vs = [.int .i64 i] ∧ h' = M ∧ i ≤ g.ways.length ∧ n = g.ways.length - i ∧ (∀ w ∈ g.ways.take i, houseP w.house ∧ (∃ x, liveOf g.lives w.stamp = some x ∧ x.phase ≠ 0) ∧ usedN g.ways w.house ≤ 2) ∧ ∀ q (hq : q + 1 < g.ways.length), q + 1 < i → wayLt (g.ways[q]'(by omega)) g.ways[q + 1]) g.ways.length rfl ⟨0, rfl, rfl, by omega, by omega, by simp, by simp⟩ ?_
  rintro n f h' ⟨i, hv, rfl, hi, rfl, hall, hlt⟩
  simp only [List.map_cons, List.map_nil, List.cons.injEq, and_true] at hv
  simp only [walk, lists, acts, mem, plain, seqs, maps, cells, resL, resV, intBin, seval, wr, hv, f5, r1.2.2.len]
  refine ite_lt (fun c => ?_) fun c => ?_
  · have hi2 : i < g.ways.length := by omega
    obtain ⟨b, o, hx, e⟩ := ls_at (enc := cWay) (sz := 2) (fun _ => rfl) r1.2.2 hi2
    simp only [walk, lists, acts, mem, plain, seqs, maps, cells, resL, resV, intBin, seval, hx, e, f5, wWay, zw]
    refine newB_intro (o := blk (cWay zWay) 92) fun j4 hj4 => ?_
    obtain ⟨B, hB⟩ : ∃ B, B = (j4, blk (cWay g.ways[i]) 92) :: h' := ⟨_, rfl⟩
    have sB : Tk.Sub h' B := by rw [hB]; exact Sub.cons hj4 (Sub.refl _)
    have f4' := hcel_sub sB f4
    have f5' := hcel_sub sB f5
    have w0 : hcel B j4 0 = some (.int .i64 g.ways[i].house) := by rw [hB]; simp only [walk, lists, acts, mem, plain, seqs, maps, cells, resL, resV, intBin, seval, wWay]
    have w1 : hcel B j4 1 = some (.int .i64 g.ways[i].stamp) := by rw [hB]; simp only [walk, lists, acts, mem, plain, seqs, maps, cells, resL, resV, intBin, seval, wWay]
    have rl := r1.2.1.subH sB
    have rw' := r1.2.2.sub sB
    simp only [walk, lists, acts, mem, plain, seqs, maps, cells, resL, resV, intBin, seval, hx, e, f5, wWay, zw, ← hB, f4', f5', w0, w1]
    have no : ¬ (houseP g.ways[i].house ∧ (∃ x, liveOf g.lives g.ways[i].stamp = some x ∧ x.phase ≠ 0) ∧ usedN g.ways g.ways[i].house ≤ 2) → ¬ waysP g.lives g.ways := fun q p => q (p.1 _ (List.getElem_mem hi2))
    have s2 := s1.trans sB
    refine l22Live_c (rl.relImp fun _ _ x => rLive.sub sB x) (by omega) ?_
    simp only [walk, lists, acts, mem, plain, seqs, maps, cells, resL, resV, intBin, seval, f4', f5', w0, w1]
    refine l12House_c fun u hu => ?_
    cases u with
    | false =>
      simp only [walk, lists, acts, mem, plain, seqs, maps, cells, resL, resV, intBin, seval, f4', f5', w0, w1]
      exact k.dno s2 (no fun q => not_b hu rfl q.1)
    | true =>
    simp only [walk, lists, acts, mem, plain, seqs, maps, cells, resL, resV, intBin, seval, f4', f5', w0, w1]
    rcases liveI_at g.lives g.ways[i].stamp with ⟨h1, h2⟩ | ⟨p, hp, h1, h2⟩
    · simp only [walk, lists, acts, mem, plain, seqs, maps, cells, resL, resV, intBin, seval, h1, f4', f5', w0, w1]
      exact k.dno s2 (no fun q => by obtain ⟨_, ⟨x, hx, _⟩, _⟩ := q; rw [h2] at hx; cases hx)
    · obtain ⟨b6, o6, cs6, hx6, e6, a61, a62, rfl, sr6⟩ := rs_at rl hp
      have f6 : hcel B b6 (o6 + 3) = some (.int .i64 g.lives[p].phase) := hread_c e6 3 rfl
      have hp0 : ¬ (p : Int) < 0 := by omega
      simp only [walk, lists, acts, mem, plain, seqs, maps, cells, resL, resV, intBin, seval, h1, hp0, hx6, f6, f4', f5', w0, w1]
      have hlx : ∀ x, liveOf g.lives g.ways[i].stamp = some x → x = g.lives[p] := fun x hx => by rw [h2] at hx; cases hx; rfl
      refine ite_pos (fun c7 => k.dno s2 (no fun q => by obtain ⟨_, ⟨x, hx, hx2⟩, _⟩ := q; exact hx2 (by rw [hlx x hx]; exact c7))) fun c7 => ?_
      refine l22Used_c rw' (by omega) ?_
      have hu7 : usedN g.ways g.ways[i].house ≤ g.ways.length := List.countP_le_length
      simp only [walk, lists, acts, mem, plain, seqs, maps, cells, resL, resV, intBin, seval, f4', f5', w0, w1]
      refine ite_lt (fun c8 => k.dno s2 (no fun q => by have := q.2.2; omega)) fun c8 => ?_
      have good : houseP g.ways[i].house ∧ (∃ x, liveOf g.lives g.ways[i].stamp = some x ∧ x.phase ≠ 0) ∧ usedN g.ways g.ways[i].house ≤ 2 := ⟨hu.1 rfl, ⟨_, h2, c7⟩, by omega⟩
      have next : (∀ (hq : 0 < i), wayLt (g.ways[i - 1]'(by omega)) g.ways[i]) → ∃ m, m < g.ways.length - i ∧ ∃ gg, Tk.Sub gg B ∧ ∃ i' : Nat, [Value.int .i64 ((i : Int) + 1)] = [Value.int .i64 i'] ∧ gg = h' ∧ i' ≤ g.ways.length ∧ m = g.ways.length - i' ∧ (∀ w ∈ g.ways.take i', houseP w.house ∧ (∃ x, liveOf g.lives w.stamp = some x ∧ x.phase ≠ 0) ∧ usedN g.ways w.house ≤ 2) ∧ ∀ q (hq : q + 1 < g.ways.length), q + 1 < i' → wayLt (g.ways[q]'(by omega)) g.ways[q + 1] := fun hw =>
        ⟨g.ways.length - (i + 1), by omega, h', sB, i + 1, by simp, rfl, by omega, rfl, fun w hw2 => by
          rw [List.take_succ_eq_append_getElem hi2] at hw2
          rcases List.mem_append.1 hw2 with hw2 | hw2
          · exact hall w hw2
          · rw [List.mem_singleton.1 hw2]; exact good, fun q hq hq2 => by
          by_cases e : q + 1 = i
          · subst e; exact hw (by omega)
          · exact hlt q hq (by omega)⟩
      refine vc_draw _ (Sub.refl _) ?_
      simp only [walk, lists, acts, mem, plain, seqs, maps, cells, resL, resV, intBin, seval, f4', f5', w0, w1, Sub.refl B]
      refine ite_lt (fun g1 => ?_) fun g1 => ?_
      · have hi3 : i - 1 < g.ways.length := by omega
        obtain ⟨b3, o3, hx3, e3⟩ := ls_at (enc := cWay) (sz := 2) (fun _ => rfl) rw' hi3
        have y0 : hcel B b3 o3 = some (.int .i64 g.ways[i - 1].house) := by have := hread_c e3 0 rfl; rw [Nat.add_zero] at this; exact this
        have y1 : hcel B b3 (o3 + 1) = some (.int .i64 g.ways[i - 1].stamp) := hread_c e3 1 rfl
        have hw3 : IntKind.i64.wrap ((i : Int) - 1) = ((i - 1 : Nat) : Int) := by rw [wrapI _ ⟨by omega, by omega⟩]; omega
        simp only [walk, lists, acts, mem, plain, seqs, maps, cells, resL, resV, intBin, seval, hx3, y0, y1, hw3, f4', f5', w0, w1, Sub.refl B]
        have bad : ¬ wayLt g.ways[i - 1] g.ways[i] → ¬ waysP g.lives g.ways := fun q p => q (by
          have e : i - 1 + 1 = i := by omega
          have := p.2 (i - 1) (by omega)
          simpa only [e] using this)
        refine ite_lt (fun g2 => k.dno s2 (bad fun q => by unfold wayLt at q; omega)) fun g2 => ?_
        refine ite_pos (fun g3 => ?_) fun g3 => ?_
        · refine ite_ge (fun g4 => k.dno s2 (bad fun q => by unfold wayLt at q; omega)) fun g4 => ?_
          simp (disch := omega) only [walk, lists, acts, mem, plain, seqs, maps, cells, resL, resV, intBin, seval, wrapI, Sub.refl B]
          exact next fun _ => .inr ⟨g3, g4⟩
        · simp (disch := omega) only [walk, lists, acts, mem, plain, seqs, maps, cells, resL, resV, intBin, seval, wrapI, Sub.refl B]
          exact next fun _ => .inl (by omega)
      · simp (disch := omega) only [walk, lists, acts, mem, plain, seqs, maps, cells, resL, resV, intBin, seval, wrapI, Sub.refl B]
        exact next fun hq => absurd hq (by omega)
  · exact k.dyes s1 (⟨by rw [List.take_of_length_le (by omega)] at hall; exact hall, fun q hq => hlt q hq (by omega)⟩)
end Go.Proofs.YtmfhlkkligcgdaaGreatDoor
end

/- Gates: the program's; small words, places in sorted rows, calls under way. -/
section
set_option linter.unusedVariables false
set_option linter.unusedSimpArgs false
set_option maxRecDepth 20000
attribute [local irreducible] Go.Tk.vc Go.Tk.vops Go.Tk.vdr Go.Tk.vop Go.Tk.vfl Go.Tk.HCalls
namespace Go.Tk
open Go
def cmpI (a b : Int) : Int := if a < b then -1 else if b < a then 1 else 0
theorem cmpI_lt {a b : Int} : cmpI a b < 0 ↔ a < b := by unfold cmpI; split <;> (try split) <;> omega
theorem cmpI_eq {a b : Int} : cmpI a b = 0 ↔ a = b := by unfold cmpI; split <;> (try split) <;> omega
def codeP1 (n : Int) : Prop := inP 0 9 n
theorem risP_lt {α : Type} {k : α → Int} {l : List α} (h : risP k l) : ∀ j i (hj : j < l.length) (hi : i < j), k (l[i]'(by omega)) < k l[j] := by
  intro j
  induction j with
  | zero => intro i _ h; omega
  | succ j ih =>
    intro i hj hi
    have := h j hj
    by_cases e : i = j
    · subst e; exact this
    · exact Int.lt_trans (ih i (by omega) (by omega)) this
theorem shr1 (a b : Nat) (h : a + b ≤ 4611686018427387904) : IntKind.i64.wrap ((IntKind.u64.wrap ((a : Int) + b)).fdiv (2 ^ (min 1 IntKind.u64.bits))) = ((a + b) / 2 : Nat) := by
  have e1 : IntKind.u64.wrap ((a : Int) + b) = ((a + b : Nat) : Int) := by
    show ((a : Int) + b) % (2 ^ 64 : Nat) = _
    rw [show ((2 ^ 64 : Nat) : Int) = 18446744073709551616 from rfl]; omega
  rw [e1]
  have e2 : (2 : Int) ^ (min 1 IntKind.u64.bits) = 2 := rfl
  rw [e2]
  have e3 : ((a + b : Nat) : Int).fdiv 2 = (((a + b) / 2 : Nat) : Int) := by
    rw [Int.fdiv_eq_ediv_of_nonneg _ (by omega)]; omega
  rw [e3, wrapI _ ⟨by omega, by omega⟩]
/-- A call under way that is ok by itself. -/
def liveQ (x : DLive) : Prop := stampP1 x.try_ ∧ inP 1 99 x.version ∧ inP 0 2 x.phase ∧ callOkP x.call ∧ (allP houseP x.locked ∧ risP id x.locked) ∧ toldP x.told ∧ (x.phase = 0 → x.locked = []) ∧ (x.phase ≠ 2 → x.told = [])
theorem liveQ_P {x : DLive} {nx : Int} : liveP x nx ↔ inP 1 (nx - 1) x.stamp ∧ liveQ x := by
  unfold liveP liveQ
  constructor
  · rintro ⟨h1, h2, h3, h4, h5, h6, h7, h8, h9, h10⟩
    have := h4.1; have := h4.2
    exact ⟨h1, h2, h3, h4, h5, ⟨h9, h10⟩, h8, fun e => h7 (by omega), fun e => h6 (by omega)⟩
  · rintro ⟨h1, h2, h3, h4, h5, ⟨h9, h10⟩, h8, h7, h6⟩
    have := h4.1; have := h4.2
    exact ⟨h1, h2, h3, h4, h5, fun e => h6 (by omega), fun e => h7 (by omega), h8, h9, h10⟩
theorem liveOf_at {l : List DLive} {s : Int} {i : Nat} (hr : risP (·.stamp) l) (hi : i < l.length) (h : l[i].stamp = s) : liveOf l s = some l[i] := by
  unfold liveOf
  rw [List.find?_eq_some_iff_getElem]
  refine ⟨by simpa using h, i, hi, rfl, fun j hj => ?_⟩
  have := risP_lt hr i j hi hj
  have : l[j].stamp ≠ s := by have h2 : l[j].stamp < l[i].stamp := this; omega
  simpa using this
theorem liveOf_no {l : List DLive} {s : Int} (h : ∀ i (hi : i < l.length), l[i].stamp ≠ s) : liveOf l s = none := by
  unfold liveOf
  rw [List.find?_eq_none]
  intro x hx
  obtain ⟨i, hi, rfl⟩ := List.getElem_of_mem hx
  simpa using h i hi
end Go.Tk
namespace Go.Proofs.YtmfhlkkligcgdaaGreatDoor
open Go Go.Tk

theorem isStamp_c {a : Int} {h : H} {R : Ending → H → Prop} (k : Asks R (stampP1 a) h) : HCalls Tryz.prog 65 #[.int .i64 a] h R := by
  refine HCalls_ir (args := [.int .i64 a]) Tryz.func65 ir65 ?_
  simp only [walk, lists, acts, mem, plain, seqs, maps, cells, resL, resV, intBin, seval]
  refine within_c fun b hb => ?_
  simp only [walk, lists, acts, mem, plain, seqs, maps, cells, resL, resV, intBin, seval]
  exact .of (k b hb)
theorem isCode_c {a : Int} {h : H} {R : Ending → H → Prop} (k : Asks R (codeP1 a) h) : HCalls Tryz.prog 100 #[.int .i64 a] h R := by
  refine HCalls_ir (args := [.int .i64 a]) Tryz.func100 ir100 ?_
  simp only [walk, lists, acts, mem, plain, seqs, maps, cells, resL, resV, intBin, seval]
  refine within_c fun b hb => ?_
  simp only [walk, lists, acts, mem, plain, seqs, maps, cells, resL, resV, intBin, seval]
  exact .of (k b hb)

theorem isNaN_c {a : Int} {h : H} {R : Ending → H → Prop} (k : R (.returned (.bool false)) h) : HCalls Tryz.prog 141 #[.int .i64 a] h R := by
  refine HCalls_ir (args := [.int .i64 a]) Tryz.func141 ir141 ?_
  simp only [walk, lists, acts, mem, plain, seqs, maps, cells, resL, resV, intBin, seval]
  refine .of ?_
  have : (!decide (a = a)) = false := by simp
  first | exact k | (simp only [this]; exact k)
theorem compare_c {a b : Int} {h : H} {R : Ending → H → Prop} (k : R (.returned (.int .i64 (cmpI a b))) h) : HCalls Tryz.prog 128 #[.int .i64 a, .int .i64 b] h R := by
  refine HCalls_ir (args := [.int .i64 a, .int .i64 b]) Tryz.func128 ir128 ?_
  simp only [walk, lists, acts, mem, plain, seqs, maps, cells, resL, resV, intBin, seval]
  refine isNaN_c ?_
  simp only [walk, lists, acts, mem, plain, seqs, maps, cells, resL, resV, intBin, seval]
  refine isNaN_c ?_
  simp only [walk, lists, acts, mem, plain, seqs, maps, cells, resL, resV, intBin, seval]
  unfold cmpI at k
  refine ite_lt (fun c => ?_) fun c => ?_
  · rw [if_pos c] at k; exact .of k
  · rw [if_neg (by omega)] at k
    refine ite_lt (fun c2 => ?_) fun c2 => ?_
    · rw [if_pos c2] at k; exact .of k
    · rw [if_neg (by omega)] at k; exact .of k

theorem compareS_c {h : H} {v w : Value} {a0 a1 b0 b1 : Int} (r : rInts h v [a0, a1]) (r2 : rInts h w [b0, b1]) {R : Ending → H → Prop} (k : R (.returned (.int .i64 (if a0 = b0 then cmpI a1 b1 else cmpI a0 b0))) h) :
    HCalls Tryz.prog 105 #[v, w] h R := by
  refine HCalls_ir (args := [v, w]) Tryz.func105 ir105 ?_
  simp only [walk, lists, acts, mem, plain, seqs, maps, cells, resL, resV, intBin, seval, r.len]
  refine vc_loop [11] (fun n vs h' => ∃ i : Nat, vs = [.int .i64 i] ∧ h' = h ∧ i ≤ 2 ∧ n = 2 - i ∧ (0 < i → a0 = b0) ∧ (1 < i → a1 = b1)) 2 rfl ⟨0, rfl, rfl, by omega, rfl, by omega, by omega⟩ ?_
  rintro n f h' ⟨i, hv, rfl, hi, rfl, h0, h1⟩
  simp only [List.map_cons, List.map_nil, List.cons.injEq, and_true] at hv
  simp only [walk, lists, acts, mem, plain, seqs, maps, cells, resL, resV, intBin, seval, wr, hv, r.len, r2.len]
  refine ite_lt (fun c => ?_) fun c => ?_
  · obtain ⟨b, o, hx, e⟩ := ls_at (enc := eI) (sz := 1) eI_len r (i := i) (by simp; omega)
    obtain ⟨b', o', hx', e'⟩ := ls_at (enc := eI) (sz := 1) eI_len r2 (i := i) (by simp; omega)
    have f1 := hread_1 e
    have f2 := hread_1 e'
    simp only [walk, lists, acts, mem, plain, seqs, maps, cells, resL, resV, intBin, seval, hx, f1, r2.len]
    refine ite_ge (fun c2 => absurd c2 (by simp at c ⊢; omega)) fun c2 => ?_
    simp only [walk, lists, acts, mem, plain, seqs, maps, cells, resL, resV, intBin, seval, hx', f2]
    refine compare_c ?_
    simp only [walk, lists, acts, mem, plain, seqs, maps, cells, resL, resV, intBin, seval]
    have hcase : i = 0 ∨ i = 1 := by omega
    rcases hcase with rfl | rfl
    · have e1 : ([a0, a1] : List Int)[0] = a0 := rfl
      have e2 : ([b0, b1] : List Int)[0] = b0 := rfl
      simp only [e1, e2]
      refine ite_ne (fun c3 => ?_) fun c3 => ?_
      · rw [if_neg (fun e => c3 (cmpI_eq.2 e))] at k; exact .of k
      · simp (disch := omega) only [walk, lists, acts, mem, plain, seqs, maps, cells, resL, resV, intBin, seval, wrapI]
        exact ⟨1, by omega, _, .refl _, 1, rfl, rfl, by omega, rfl, fun _ => cmpI_eq.1 c3, by omega⟩
    · have e1 : ([a0, a1] : List Int)[1] = a1 := rfl
      have e2 : ([b0, b1] : List Int)[1] = b1 := rfl
      simp only [e1, e2]
      refine ite_ne (fun c3 => ?_) fun c3 => ?_
      · rw [if_pos (h0 (by omega))] at k; exact .of k
      · simp (disch := omega) only [walk, lists, acts, mem, plain, seqs, maps, cells, resL, resV, intBin, seval, wrapI]
        exact ⟨0, by omega, _, .refl _, 2, rfl, rfl, by omega, rfl, fun _ => h0 (by omega), fun _ => cmpI_eq.1 c3⟩
  · have hi2 : i = 2 := by
      (try simp at c); omega
    subst hi2
    rw [if_pos (h0 (by omega)), cmpI_eq.2 (h1 (by omega))] at k
    try simp only [walk, lists, acts, mem, plain, seqs, maps, cells, resL, resV, intBin, seval, r2.len]
    try simp only [List.length_cons, List.length_nil, walk, lists, acts, mem, plain, seqs, maps, cells, resL, resV, intBin, seval]
    exact .of k

theorem liveStamp_c {h : H} {d : DLive} {a b : Value} {R : Ending → H → Prop} (k : R (.returned (.int .i64 d.stamp)) h) : HCalls Tryz.prog 107 #[.agg (cLive d a b).toArray] h R := by
  refine HCalls_ir (args := [.agg (cLive d a b).toArray]) Tryz.func107 ir107 ?_
  simp only [walk, lists, acts, mem, plain, seqs, maps, cells, resL, resV, intBin, seval, wLive]
  refine newB_intro (o := blk (cLive d a b) 82) fun j hj => ?_
  simp only [walk, lists, acts, mem, plain, seqs, maps, cells, resL, resV, intBin, seval, wLive]
  exact ⟨h, Sub.cons hj (Sub.refl h), k⟩
theorem placeLive1_c {h : H} {d : DLive} {a b : Value} {s : Int} {j : Nat} (hj5 : hcel h j 0 = some (.func (.func 107) #[] #[])) {R : Ending → H → Prop} (k : R (.returned (.int .i64 (cmpI d.stamp s))) h) :
    HCalls Tryz.prog 130 #[.agg (cLive d a b).toArray, .int .i64 s, .pointer (some ⟨j, 0, none⟩)] h R := by
  refine HCalls_ir (args := [.agg (cLive d a b).toArray, .int .i64 s, .pointer (some ⟨j, 0, none⟩)]) Tryz.func130 ir130 ?_
  simp only [walk, lists, acts, mem, plain, seqs, maps, cells, resL, resV, intBin, seval, wLive]
  refine newB_intro (o := blk (cLive d a b) 82) fun j3 hj3 => ?_
  have hj5' : hcel ((j3, blk (cLive d a b) 82) :: h) j 0 = some (.func (.func 107) #[] #[]) := hcel_sub (Sub.cons hj3 (Sub.refl h)) hj5
  simp only [walk, lists, acts, mem, plain, seqs, maps, cells, resL, resV, intBin, seval, wLive, hj5']
  refine ⟨by kernel_rfl, liveStamp_c ?_⟩
  simp only [walk, lists, acts, mem, plain, seqs, maps, cells, resL, resV, intBin, seval, wLive]
  refine compare_c ?_
  simp only [walk, lists, acts, mem, plain, seqs, maps, cells, resL, resV, intBin, seval]
  exact ⟨h, Sub.cons hj3 (Sub.refl h), k⟩

theorem searchLive_c {h : H} {v : Value} {l : List DLive} {s : Int} {j : Nat} (r : rRs h (rLive h) 12 v l) (hl : l.length ≤ 1099511627776) (hr : risP (·.stamp) l) (hj5 : hcel h j 0 = some (.func (.func 107) #[] #[])) {R : Ending → H → Prop}
    (k : ∀ (p : Nat) (has : Bool), p ≤ l.length → (has = true → ∃ hp : p < l.length, liveOf l s = some l[p]) → (has = false → liveOf l s = none) → R (.returned (.tuple #[.int .i64 p, .bool has])) h) :
    HCalls Tryz.prog 129 #[v, .int .i64 s, .func (.func 130) #[] #[.pointer (some ⟨j, 0, none⟩)]] h R := by
  refine HCalls_ir (args := [v, .int .i64 s, .func (.func 130) #[] #[.pointer (some ⟨j, 0, none⟩)]]) Tryz.func129 ir129 ?_
  simp only [walk, lists, acts, mem, plain, seqs, maps, cells, resL, resV, intBin, seval, r.len]
  refine vc_loop [9, 10] (fun n vs h' => ∃ i q : Nat, vs = [.int .i64 i, .int .i64 q] ∧ h' = h ∧ i ≤ q ∧ q ≤ l.length ∧ n = q - i ∧ (∀ p (hp : p < l.length), p < i → l[p].stamp < s) ∧ (∀ p (hp : p < l.length), q ≤ p → s ≤ l[p].stamp)) l.length rfl
    ⟨0, l.length, rfl, rfl, by omega, by omega, rfl, fun p hp h => absurd h (Nat.not_lt_zero _), fun p hp h => by omega⟩ ?_
  rintro n f h' ⟨i, q, hv, rfl, hiq, hq, rfl, hlo, hhi⟩
  simp only [List.map_cons, List.map_nil, List.cons.injEq, and_true] at hv
  simp only [walk, lists, acts, mem, plain, seqs, maps, cells, resL, resV, intBin, seval, wr, hv.1, hv.2, r.len]
  refine ite_lt (fun c => ?_) fun c => ?_
  · have hm : (i + q) / 2 < l.length := by omega
    have hw : IntKind.i64.wrap ((i : Int) + q) = (i : Int) + q := wrapI _ ⟨by omega, by omega⟩
    have hs := shr1 i q (by omega)
    obtain ⟨b, o, cs, hx, e, a1, a2, rfl, sr⟩ := rs_at r hm
    simp only [walk, lists, acts, mem, plain, seqs, maps, cells, resL, resV, intBin, seval, hw, hs, hx, e]
    refine ⟨by kernel_rfl, placeLive1_c hj5 ?_⟩
    simp only [walk, lists, acts, mem, plain, seqs, maps, cells, resL, resV, intBin, seval]
    refine ite_lt (fun c2 => ?_) fun c2 => ?_
    · have h2 := cmpI_lt.1 c2
      simp (disch := omega) only [walk, lists, acts, mem, plain, seqs, maps, cells, resL, resV, intBin, seval, wrapI]
      refine ⟨q - ((i + q) / 2 + 1), by omega, _, .refl _, (i + q) / 2 + 1, q, by simp, rfl, by omega, hq, rfl, fun p hp hpi => ?_, hhi⟩
      by_cases e : p = (i + q) / 2
      · subst e; exact h2
      · have := risP_lt hr ((i + q) / 2) p hm (by omega)
        have : l[p].stamp < l[(i + q) / 2].stamp := this
        omega
    · have h2 : ¬ l[(i + q) / 2].stamp < s := fun x => by have := cmpI_lt.2 x; omega
      refine ⟨(i + q) / 2 - i, by omega, _, .refl _, i, (i + q) / 2, rfl, rfl, by omega, by omega, rfl, hlo, fun p hp hpi => ?_⟩
      by_cases e : p = (i + q) / 2
      · subst e; omega
      · have := risP_lt hr p ((i + q) / 2) hp (by omega)
        have : l[(i + q) / 2].stamp < l[p].stamp := this
        omega
  · have hiq2 : i = q := by omega
    subst hiq2
    refine ite_lt (fun c2 => ?_) fun c2 => ?_
    · have hi2 : i < l.length := by omega
      obtain ⟨b, o, cs, hx, e, a1, a2, rfl, sr⟩ := rs_at r hi2
      simp only [walk, lists, acts, mem, plain, seqs, maps, cells, resL, resV, intBin, seval, hx, e]
      refine ⟨by kernel_rfl, placeLive1_c hj5 ?_⟩
      simp only [walk, lists, acts, mem, plain, seqs, maps, cells, resL, resV, intBin, seval]
      refine .of (k i _ hq (fun hb => ⟨hi2, liveOf_at hr hi2 (cmpI_eq.1 (by simpa using hb))⟩) fun hb => liveOf_no fun p hp => ?_)
      have hne : ¬ l[i].stamp = s := fun x => by rw [cmpI_eq.2 x] at hb; simp at hb
      by_cases e : p = i
      · subst e; exact hne
      · by_cases e2 : p < i
        · have := hlo p hp e2; omega
        · have := risP_lt hr p i hp (by omega)
          have : l[i].stamp < l[p].stamp := this
          have := hhi i hi2 (by omega)
          omega
    · try simp only [walk, lists, acts, mem, plain, seqs, maps, cells, resL, resV, intBin, seval]
      refine .of (k i false hq (fun hb => by cases hb) fun _ => liveOf_no fun p hp => ?_)
      have := hlo p hp (by omega)
      omega

theorem placeLive_c {h : H} {v : Value} {l : List DLive} {s : Int} (r : rRs h (rLive h) 12 v l) (hl : l.length ≤ 1099511627776) (hr : risP (·.stamp) l) {R : Ending → H → Prop}
    (k : ∀ (p : Nat) (has : Bool), p ≤ l.length → (has = true → ∃ hp : p < l.length, liveOf l s = some l[p]) → (has = false → liveOf l s = none) → R (.returned (.tuple #[.int .i64 p, .bool has])) h) :
    HCalls Tryz.prog 106 #[v, .int .i64 s, .func (.func 107) #[] #[]] h R := by
  refine HCalls_ir (args := [v, .int .i64 s, .func (.func 107) #[] #[]]) Tryz.func106 ir106 ?_
  simp only [walk, lists, acts, mem, plain, seqs, maps, cells, resL, resV, intBin, seval]
  refine newB_intro fun j hj => ?_
  simp only [walk, lists, acts, mem, plain, seqs, maps, cells, resL, resV, intBin, seval]
  refine searchLive_c ((r.subH (Sub.cons hj (Sub.refl h))).relImp fun _ _ x => rLive.sub (Sub.cons hj (Sub.refl h)) x) hl hr (by simp only [walk, lists, acts, mem, plain, seqs, maps, cells, resL, resV, intBin, seval]) fun p has h1 h2 h3 => ?_
  simp only [walk, lists, acts, mem, plain, seqs, maps, cells, resL, resV, intBin, seval]
  exact ⟨h, Sub.cons hj (Sub.refl h), k p has h1 h2 h3⟩
end Go.Proofs.YtmfhlkkligcgdaaGreatDoor
end

/- Gates: the program's; which calls under way are ok by themselves. -/
section
set_option linter.unusedVariables false
set_option linter.unusedSimpArgs false
set_option maxRecDepth 20000
attribute [local irreducible] Go.Tk.vc Go.Tk.vops Go.Tk.vdr Go.Tk.vop Go.Tk.vfl Go.Tk.HCalls
namespace Go.Proofs.YtmfhlkkligcgdaaGreatDoor
open Go Go.Tk

set_option maxHeartbeats 2000000 in
theorem liveOk_c {h : H} {x : DLive} {lk tl : Value} (gl : Gl h) (gm : MxL h) (r : sLive h x lk tl) (hb : bLive x) {R : Ending → H → Prop} (k : Asks R (liveQ x) h) :
    HCalls Tryz.prog 67 #[.agg (cLive x lk tl).toArray] h R := by
  refine HCalls_ir (args := [.agg (cLive x lk tl).toArray]) Tryz.func67 ir67 ?_
  have b1 := hb.l; have b2 := hb.t; have b3 := hb.c
  unfold bCall at b3
  unfold lim at b1 b2 b3
  simp only [walk, lists, acts, mem, plain, seqs, maps, cells, resL, resV, intBin, seval, wLive]
  refine newB_intro (o := blk (cLive x lk tl) 82) fun j hj => ?_
  have s1 := Sub.cons (o := blk (cLive x lk tl) 82) hj (Sub.refl h)
  have r1 := r.sub s1
  obtain ⟨M, hM⟩ : ∃ M, M = (j, blk (cLive x lk tl) 82) :: h := ⟨_, rfl⟩
  have hMj : hget M j = some (blk (cLive x lk tl) 82) := by rw [hM]; exact hget_same _ _ _
  have f1 : hcel M j 1 = some (.int .i64 x.try_) := hcel_of hMj rfl
  have f2 : hcel M j 2 = some (.int .i64 x.version) := hcel_of hMj rfl
  have f3 : hcel M j 3 = some (.int .i64 x.phase) := hcel_of hMj rfl
  have f4 : hread M j 4 6 = some (cCall x.call) := by rw [hM]; simp only [walk, lists, acts, mem, plain, seqs, maps, cells, resL, resV, intBin, seval, wLive]
  have f10 : hcel M j 10 = some lk := hcel_of hMj rfl
  have f11 : hcel M j 11 = some tl := hcel_of hMj rfl
  rw [← hM] at r1 s1 ⊢
  simp only [walk, lists, acts, mem, plain, seqs, maps, cells, resL, resV, intBin, seval, wLive, f1, f2, f3, f4, f10, f11]
  refine isStamp_c fun q1 hq1 => ?_
  cases q1 with
  | false =>
    simp only [walk, lists, acts, mem, plain, seqs, maps, cells, resL, resV, intBin, seval, wLive, f1, f2, f3, f4, f10, f11]
    exact k.dno s1 fun p => not_b hq1 rfl p.1
  | true =>
  simp only [walk, lists, acts, mem, plain, seqs, maps, cells, resL, resV, intBin, seval, wLive, f1, f2, f3, f4, f10, f11]
  refine within_c fun q2 hq2 => ?_
  cases q2 with
  | false =>
    simp only [walk, lists, acts, mem, plain, seqs, maps, cells, resL, resV, intBin, seval, wLive, f1, f2, f3, f4, f10, f11]
    exact k.dno s1 fun p => not_b hq2 rfl p.2.1
  | true =>
  simp only [walk, lists, acts, mem, plain, seqs, maps, cells, resL, resV, intBin, seval, wLive, f1, f2, f3, f4, f10, f11]
  refine within_c fun q3 hq3 => ?_
  cases q3 with
  | false =>
    simp only [walk, lists, acts, mem, plain, seqs, maps, cells, resL, resV, intBin, seval, wLive, f1, f2, f3, f4, f10, f11]
    exact k.dno s1 fun p => not_b hq3 rfl p.2.2.1
  | true =>
  simp only [walk, lists, acts, mem, plain, seqs, maps, cells, resL, resV, intBin, seval, wLive, f1, f2, f3, f4, f10, f11]
  refine implCallOk_c (gl.sub s1) (gm.sub s1) (by omega) fun q4 hq4 => ?_
  cases q4 with
  | false =>
    simp only [walk, lists, acts, mem, plain, seqs, maps, cells, resL, resV, intBin, seval, wLive, f1, f2, f3, f4, f10, f11]
    exact k.dno s1 fun p => not_b hq4 rfl p.2.2.2.1
  | true =>
  simp only [walk, lists, acts, mem, plain, seqs, maps, cells, resL, resV, intBin, seval, wLive, f1, f2, f3, f4, f10, f11]
  refine rising_c (g := 104) (P := houseP) (by kernel_rfl) (fun {a h R} k => isHouse_c k) r1.1 (by omega) fun q5 hq5 => ?_
  cases q5 with
  | false =>
    simp only [walk, lists, acts, mem, plain, seqs, maps, cells, resL, resV, intBin, seval, wLive, f1, f2, f3, f4, f10, f11]
    exact k.dno s1 fun p => not_b hq5 rfl p.2.2.2.2.1
  | true =>
  simp only [walk, lists, acts, mem, plain, seqs, maps, cells, resL, resV, intBin, seval, wLive, f1, f2, f3, f4, f10, f11, r1.2.len]
  refine vc_loop [36] (fun n vs h' => ∃ i : Nat, vs = [.int .i64 i] ∧ h' = M ∧ i ≤ x.told.length ∧ n = x.told.length - i ∧ (∀ t ∈ x.told.take i, houseP t.house ∧ pairsP t.pairs) ∧ risU (·.house) x.told i) x.told.length rfl ⟨0, rfl, rfl, by omega, rfl, fun t ht => by simp at ht, risU_zero _ _⟩ ?_
  rintro n f h' ⟨i, hv, rfl, hi, rfl, hall, hris⟩
  simp only [List.map_cons, List.map_nil, List.cons.injEq, and_true] at hv
  simp only [walk, lists, acts, mem, plain, seqs, maps, cells, resL, resV, intBin, seval, wr, hv]
  refine ite_lt (fun d1 => ?_) fun d1 => ?_
  · have hi2 : i < x.told.length := by omega
    obtain ⟨b, o, cs, hx, e, pv, rfl, sp⟩ := rs_at r1.2 hi2
    have zt := zTold_eq
    have hone := wTold.2.2.2.2.2.1 x.told[i] pv (rdS.one sp)
    simp only [walk, lists, acts, mem, plain, seqs, maps, cells, resL, resV, intBin, seval, hx, e, zt, wTold]
    refine newB_intro (o := blk (cTold zTold (.slice none 0 0)) 112) fun j4 hj4 => ?_
    simp only [walk, lists, acts, mem, plain, seqs, maps, cells, resL, resV, intBin, seval, zt, wTold, hone]
    obtain ⟨B, hB⟩ : ∃ B, B = (j4, blk (cTold x.told[i] pv) 112) :: h' := ⟨_, rfl⟩
    have sB : Tk.Sub h' B := by rw [hB]; exact Sub.cons hj4 (Sub.refl _)
    have g11 := hcel_sub sB f11
    have l0 : hcel B j4 0 = some (.int .i64 x.told[i].house) := by rw [hB]; simp only [walk, lists, acts, mem, plain, seqs, maps, cells, resL, resV, intBin, seval, wTold]
    have l1 : hcel B j4 1 = some pv := by rw [hB]; simp only [walk, lists, acts, mem, plain, seqs, maps, cells, resL, resV, intBin, seval, wTold]
    have rt : rRs B (rTold h') 2 tl x.told := r1.2.subH sB
    have s2 := s1.trans sB
    have sBB := Sub.refl B
    rw [← hB]
    have bt : x.told[i].pairs.length ≤ 1048576 := hb.ts _ (List.getElem_mem hi2)
    have no : ¬ (houseP x.told[i].house ∧ pairsP x.told[i].pairs) → ¬ liveQ x := fun g p => g (p.2.2.2.2.2.1.1 _ (List.getElem_mem hi2))
    refine vc_draw _ (Sub.refl _) ?_
    simp only [walk, lists, acts, mem, plain, seqs, maps, cells, resL, resV, intBin, seval, g11, l0, l1, sBB]
    refine isHouse_c fun u1 hu1 => ?_
    cases u1 with
    | false =>
      simp only [walk, lists, acts, mem, plain, seqs, maps, cells, resL, resV, intBin, seval, g11, l0, l1, sBB]
      exact k.dno s2 (no fun g => not_b hu1 rfl g.1)
    | true =>
    simp only [walk, lists, acts, mem, plain, seqs, maps, cells, resL, resV, intBin, seval, g11, l0, l1, sBB]
    refine pairsOk_c (rLs.sub sB sp) (by omega) fun u2 hu2 => ?_
    cases u2 with
    | false =>
      simp only [walk, lists, acts, mem, plain, seqs, maps, cells, resL, resV, intBin, seval, g11, l0, l1, sBB]
      exact k.dno s2 (no fun g => not_b hu2 rfl g.2)
    | true =>
    simp only [walk, lists, acts, mem, plain, seqs, maps, cells, resL, resV, intBin, seval, g11, l0, l1, sBB]
    refine ite_lt (fun g1 => ?_) fun g1 => ?_
    · have hi3 : i - 1 < x.told.length := by omega
      obtain ⟨b3, o3, cs3, hx3, e3, pv3, rfl, sp3⟩ := rs_at rt hi3
      have y0 : hcel B b3 o3 = some (.int .i64 x.told[i - 1].house) := by have := hread_c e3 0 rfl; rw [Nat.add_zero] at this; exact this
      have hw3 : IntKind.i64.wrap ((i : Int) - 1) = ((i - 1 : Nat) : Int) := by rw [wrapI _ ⟨by omega, by omega⟩]; omega
      simp only [walk, lists, acts, mem, plain, seqs, maps, cells, resL, resV, intBin, seval, hx3, y0, hw3, g11, l0, l1, sBB]
      refine ite_ge (fun g2 => k.dno s2 fun p => risU_not (k := (·.house)) hi2 (by omega) (by show ¬ x.told[i - 1].house < x.told[i].house; omega) p.2.2.2.2.2.1.2) fun g2 => ?_
      have hris2 := risU_more hi2 (by omega) hris g2
      simp (disch := omega) only [walk, lists, acts, mem, plain, seqs, maps, cells, resL, resV, intBin, seval, wrapI, sBB]
      exact ⟨x.told.length - (i + 1), by omega, _, sB, i + 1, by simp, rfl, by omega, rfl, fun t ht => (by
        rw [List.take_succ_eq_append_getElem hi2] at ht
        rcases List.mem_append.1 ht with ht | ht
        · exact hall t ht
        · rw [List.mem_singleton.1 ht]; exact ⟨hu1.1 rfl, hu2.1 rfl⟩), hris2⟩
    · have hris2 : risU (·.house) x.told (i + 1) := risU_one (by omega) hris
      simp (disch := omega) only [walk, lists, acts, mem, plain, seqs, maps, cells, resL, resV, intBin, seval, wrapI, sBB]
      exact ⟨x.told.length - (i + 1), by omega, _, sB, i + 1, by simp, rfl, by omega, rfl, fun t ht => (by
        rw [List.take_succ_eq_append_getElem hi2] at ht
        rcases List.mem_append.1 ht with ht | ht
        · exact hall t ht
        · rw [List.mem_singleton.1 ht]; exact ⟨hu1.1 rfl, hu2.1 rfl⟩), hris2⟩
  · have ht : toldP x.told := ⟨by rw [List.take_of_length_le (by omega)] at hall; exact hall, risU_done (by omega) hris⟩
    have fin : ((x.phase = 0 → x.locked = []) ∧ (x.phase ≠ 2 → x.told = [])) → liveQ x := fun g => ⟨hq1.1 rfl, hq2.1 rfl, hq3.1 rfl, hq4.1 rfl, hq5.1 rfl, ht, g.1, g.2⟩
    simp only [walk, lists, acts, mem, plain, seqs, maps, cells, resL, resV, intBin, seval, f3, f10, f11, r1.1.len, r1.2.len]
    have two : (x.phase = 0 → x.locked = []) → Asks R (liveQ x) h → dP R (if x.phase = 2 then Ending.returned (Value.bool true) else Ending.returned (Value.bool (decide ((x.told.length : Int) = 0)))) h' := fun e0 k => by
      split
      · rename_i e2; exact k.dyes s1 (fin ⟨e0, fun e => absurd e2 e⟩)
      · rename_i e2
        have : ((x.told.length : Int) = 0) ↔ liveQ x := ⟨fun e => fin ⟨e0, fun _ => List.eq_nil_of_length_eq_zero (by omega)⟩, fun q => by rw [q.2.2.2.2.2.2.2 e2]; rfl⟩
        exact ⟨h, s1, k _ (by simpa using this)⟩
    have two' := fun e0 => two e0 k
    split
    · rename_i e1
      have := two' fun e => absurd e e1
      split at this <;> split <;> first | exact this | contradiction
    · rename_i e1
      split
      · rename_i e3
        have := two' fun e => List.eq_nil_of_length_eq_zero (by omega)
        split at this <;> split <;> first | exact this | contradiction
      · rename_i e3
        refine k.dno s1 fun q => e3 ?_
        rw [q.2.2.2.2.2.2.1 (Classical.not_not.1 e1)]; rfl
end Go.Proofs.YtmfhlkkligcgdaaGreatDoor
end

/- Maps: made, asked, written into. -/
section
set_option linter.unusedVariables false
set_option linter.unusedSimpArgs false
set_option maxRecDepth 20000
attribute [local irreducible] Go.Tk.vc Go.Tk.vops Go.Tk.vdr Go.Tk.vop Go.Tk.vfl Go.Tk.HCalls
namespace Go.Tk
open Go
section
variable {P : Program} {κ : Type} [DecidableEq κ] {enc : κ → Value} {kt et t ty : TypeId} {i : TypeInfo} {z : Value} {ρ : Operand → Value} {h : H} {K : Value → H → Prop} {X : List PanicEntry → H → Prop} {x y w : Operand} {r : Nat} {es : Array MapEntry} {c : Nat} {m : List (κ × Value)}
theorem raw_make (k : ∀ r, hget h r = none → K (.map (some r)) ((r, .map #[] 0) :: h)) : rawK P (.makeMap t none) ty ρ h K X := by
  unfold rawK
  simp only [execOp, mkO, wrap_v, Option.map_none, Instr.makeMap, newObj, SH_bind', SH_pure]
  intro j hj
  exact k j hj
theorem raw_lookup (Kt : KeyT P kt enc) (ht : P.underlying t = some (.map kt et)) (hi : P.info? et = some i) (hz : i.zero = some z) (hx : ρ x = .map (some r)) {k : κ} (hk : ρ y = enc k) (hr : hget h r = some (.map es c)) (hm : mapO enc es m) {v : Value} (hv : (mget m k).getD z = v)
    (q : K v h) : rawK P (.lookup t x y false) ty ρ h K X := by
  unfold rawK
  simp only [execOp, mkO, wrap_v, hx, hk]
  exact SH_lookup Kt ht hi hz hr hm k (by rw [hv]; exact q)
theorem raw_update (Kt : KeyT P kt enc) (ht : P.underlying t = some (.map kt et)) (hx : ρ x = .map (some r)) {k : κ} (hk : ρ y = enc k) {v : Value} (hw : ρ w = v) (hr : hget h r = some (.map es c)) (hm : mapO enc es m)
    (q : ∀ es' c', mapO enc es' (mput m k v) → K undef (hupd h r (.map es' c'))) : rawK P (.mapUpdate t x y w) ty ρ h K X := by
  unfold rawK
  simp only [execOp, mkO, wrap_u, hx, hk, hw]
  exact SH_mapUpdate Kt ht hr hm k v q
end
/-- The number of a session's last call, 0 if there is none. -/
def lastN (log : List DRecord) (s : Int) : Int := match lastOf log s with
  | some r => r.call.number
  | none => 0
def lastA (log : List DRecord) : List Int := [lastN log 0, lastN log 1, lastN log 2]
theorem lastA_at (log : List DRecord) {s : Int} (h : 0 ≤ s ∧ s ≤ 2) (hi : s.toNat < (lastA log).length) : (lastA log)[s.toNat] = lastN log s := by
  have : s = 0 ∨ s = 1 ∨ s = 2 := by omega
  rcases this with rfl | rfl | rfl <;> rfl
theorem lastN_app (log : List DRecord) (r : DRecord) (s : Int) : lastN (log ++ [r]) s = if r.call.session = s then r.call.number else lastN log s := by
  unfold lastN lastOf
  rw [List.reverse_append]
  simp only [List.reverse_cons, List.reverse_nil, List.nil_append, List.singleton_append, List.find?_cons]
  by_cases c : r.call.session = s
  · simp [c]
  · simp [c]
theorem lastA_app (log : List DRecord) (r : DRecord) (h : 0 ≤ r.call.session ∧ r.call.session ≤ 2) : (lastA log).set r.call.session.toNat r.call.number = lastA (log ++ [r]) := by
  have : r.call.session = 0 ∨ r.call.session = 1 ∨ r.call.session = 2 := by omega
  unfold lastA
  simp only [lastN_app]
  rcases this with e | e | e <;> simp [e]
theorem lastN_lt {log : List DRecord} {s n : Int} (hn : 1 ≤ n) : lastN log s < n ↔ ∀ x, lastOf log s = some x → x.call.number < n := by
  unfold lastN
  cases e : lastOf log s with
  | none => simp; omega
  | some r => simp
/-- Which stamps a map holds. -/
def stampM (m : List (Int × Value)) (log : List DRecord) : Prop := ∀ s, mget m s = if log.any (fun x => decide (x.stamp = s)) = true then some (.int .i64 1) else none
theorem stampM_nil : stampM [] [] := fun s => rfl
theorem stampM_app {m : List (Int × Value)} {log : List DRecord} {r : DRecord} (h : stampM m log) : stampM (mput m r.stamp (.int .i64 1)) (log ++ [r]) := fun s => by
  rw [mget_put, h s, List.any_append]
  by_cases c : r.stamp = s
  · simp [c]
  · simp [c]
theorem stampM_get {m : List (Int × Value)} {log : List DRecord} (h : stampM m log) (s : Int) : ((mget m s).getD (.int .i64 0) = .int .i64 1 ∧ ∃ x ∈ log, x.stamp = s) ∨ ((mget m s).getD (.int .i64 0) = .int .i64 0 ∧ ∀ x ∈ log, x.stamp ≠ s) := by
  rw [h s]
  cases e : log.any (fun x => decide (x.stamp = s)) with
  | true =>
    refine .inl ⟨rfl, ?_⟩
    obtain ⟨x, hx, h2⟩ := List.any_eq_true.1 e
    exact ⟨x, hx, by simpa using h2⟩
  | false =>
    refine .inr ⟨rfl, fun x hx c => ?_⟩
    have := List.any_eq_false.1 e x hx
    simp [c] at this
end Go.Tk
end

/- Gates: the program's; which logs are ok. -/
section
set_option linter.unusedVariables false
set_option linter.unusedSimpArgs false
set_option maxRecDepth 20000
attribute [local irreducible] Go.Tk.vc Go.Tk.vops Go.Tk.vdr Go.Tk.vop Go.Tk.vfl Go.Tk.HCalls
namespace Go.Proofs.YtmfhlkkligcgdaaGreatDoor
open Go Go.Tk

theorem tIntD : Tryz.prog.underlying 3 = some (.int .i64) := by kernel_rfl
theorem tMapII : Tryz.prog.underlying 96 = some (.map 3 3) := by kernel_rfl
theorem keyII : KeyT Tryz.prog 3 (Value.int .i64) := keyInt tIntD
theorem iInt0 : ∃ i, Tryz.prog.info? 3 = some i ∧ i.zero = some (.int .i64 0) := by
  obtain ⟨i, hi⟩ := Option.isSome_iff_exists.1 (show (Tryz.prog.info? 3).isSome = true by kernel_rfl)
  have : (Tryz.prog.info? 3).bind (·.zero) = some (.int .i64 0) := by kernel_rfl
  rw [hi] at this
  exact ⟨i, hi, this⟩

set_option maxHeartbeats 2000000 in
theorem gateLogOk_c {h : H} {g : DGate} {lg lv wy : Value} (gl : Gl h) (gm : MxL h) (r : rRs h (rRecord h) 11 lg g.log) (hb : allP bRecord g.log) (hl : g.log.length ≤ 1048576) (hn : inP 1 9999 g.next) {R : Ending → H → Prop}
    (kno : ¬ glogP g.log g.next → ∀ v L h', L.length = 3 → Tk.Sub h h' → R (.returned (.tuple #[v, .agg (fl eI L).toArray, .bool false])) h')
    (kyes : glogP g.log g.next → ∀ r es c m h', Tk.Sub h h' → hget h' r = some (.map es c) → mapO (Value.int .i64) es m → stampM m g.log → R (.returned (.tuple #[.map (some r), .agg (fl eI (lastA g.log)).toArray, .bool true])) h') :
    HCalls Tryz.prog 66 #[.agg (cGate g lg lv wy).toArray] h R := by
  refine HCalls_ir (args := [.agg (cGate g lg lv wy).toArray]) Tryz.func66 ir66 ?_
  simp only [walk, lists, acts, mem, plain, seqs, maps, cells, resL, resV, intBin, seval, wGate]
  refine newB_intro (o := blk (cGate g lg lv wy) 34) fun j1 h1 => ?_
  simp only [walk, lists, acts, mem, plain, seqs, maps, cells, resL, resV, intBin, seval, wGate]
  have z3 : [Value.int .i64 0, .int .i64 0, .int .i64 0] = fl eI [0, 0, 0] := rfl
  simp only [z3]
  refine newB_intro (o := blk (fl eI [0, 0, 0]) 97) fun j3 h3 => ?_
  simp only [walk, lists, acts, mem, plain, seqs, maps, cells, resL, resV, intBin, seval, wGate]
  refine raw_make fun rr hr => ?_
  simp only [walk, lists, acts, mem, plain, seqs, maps, cells, resL, resV, intBin, seval, wGate, z3]
  refine newB_intro (o := blk (fl eI [0, 0, 0]) 97) fun j6 h6 => ?_
  have n3 := h3
  have nr := hr
  have n6 := h6
  simp only [subs] at n3 nr n6
  obtain ⟨B, hB⟩ : ∃ B, B = (j1, blk (cGate g lg lv wy) 34) :: h := ⟨_, rfl⟩
  have sB : Tk.Sub h B := by rw [hB]; exact Sub.cons h1 (Sub.refl _)
  have gB : hget B j1 = some (blk (cGate g lg lv wy) 34) := by rw [hB]; exact hget_same _ _ _
  have nB3 : hget B j3 = none := by rw [hB]; simp only [subs, n3]
  have nBr : hget B rr = none := by rw [hB]; simp only [subs, nr]
  have nB6 : hget B j6 = none := by rw [hB]; simp only [subs, n6]
  obtain ⟨i0, hi0, hz0⟩ := iInt0
  obtain ⟨M, hM⟩ : ∃ M, M = (j6, blk (fl eI [0, 0, 0]) 97) :: (rr, Obj.map #[] 0) :: (j3, blk (fl eI [0, 0, 0]) 97) :: B := ⟨_, rfl⟩
  have m6 : hget M j6 = some (blk (fl eI (lastA [])) 97) := by rw [hM]; exact hget_same _ _ _
  have mr : hget M rr = some (.map #[] 0) := by rw [hM, hget_next _ _ _ (fun e => n6.1 e.symm)]; exact hget_same _ _ _
  have m3 : hget M j3 = some (blk (fl eI [0, 0, 0]) 97) := by rw [hM, hget_next _ _ _ (fun e => n6.2.1 e.symm), hget_next _ _ _ (fun e => nr.1 e.symm)]; exact hget_same _ _ _
  have sM : Tk.Sub B M := by rw [hM]; exact Sub.cons (by simp only [subs, nB6, n6]) (Sub.cons (by simp only [subs, nBr, nr]) (Sub.cons nB3 (Sub.refl _)))
  have jne : j3 ≠ j6 ∧ j3 ≠ rr ∧ rr ≠ j6 := ⟨fun e => n6.2.1 e.symm, fun e => nr.1 e.symm, fun e => n6.1 e.symm⟩
  have hc3 : ∀ {N : H}, Tk.Sub B N → hcel N j1 3 = some lg := fun s => hcel_of (s _ _ gB) rfl
  have hc2 : ∀ {N : H}, Tk.Sub B N → hcel N j1 2 = some (.int .i64 g.next) := fun s => hcel_of (s _ _ gB) rfl
  have hlen3 : ∀ L : List Int, L.length = 3 → (fl eI L).length = 3 := fun L h => by rw [fl_len eI_len, h]
  have ret3 : ∀ (N : H) (L : List Int), L.length = 3 → hget N j3 = some (blk (fl eI [0, 0, 0]) 97) → hwrite N j3 0 (fl eI L) = some (hupd N j3 (blk (fl eI L) 97)) ∧ hread (hupd N j3 (blk (fl eI L) 97)) j3 0 3 = some (fl eI L) := fun N L hL hN => by
    have h3 := hlen3 L hL
    have hw := hwrite_of (j := 0) (vs := fl eI L) hN (by rw [h3]; exact Nat.le_refl _)
    rw [splice_all (by rw [h3]; rfl)] at hw
    exact ⟨hw, hread_of (hget_hupd_same hN) h3⟩
  have sub3 : ∀ (N : H) (o : Obj), Tk.Sub B N → Tk.Sub B (hupd N j3 o) := fun N o s => Sub.wr s nB3
  rw [← hB, ← hM]
  simp only [walk, lists, acts, mem, plain, seqs, maps, cells, resL, resV, intBin, seval, hc3 sM, r.len]
  refine ite_lt (fun c0 => ?_) fun c0 => ?_
  · have rd6 : hread M j6 0 3 = some (fl eI (lastA [])) := hread_of m6 rfl
    obtain ⟨w1, w2⟩ := ret3 M (lastA []) rfl m3
    refine vc_draw _ (Sub.refl _) ?_
    have hl3 := hlen3 (lastA []) rfl
    have ho3 := eI_one (lastA [])
    simp only [walk, lists, acts, mem, plain, seqs, maps, cells, resL, resV, intBin, seval, rd6, hl3, ho3, w1, w2, Sub.refl M]
    refine .of (kno (fun q => ?_) _ (lastA []) _ rfl (sB.trans (sub3 _ _ sM)))
    have := q.1; omega
  · refine vc_loop [19] (fun n vs M' => ∃ (i : Nat) (es : Array MapEntry) (c : Nat) (m : List (Int × Value)), vs = [.int .i64 i] ∧ Tk.Sub B M' ∧ hget M' j3 = some (blk (fl eI [0, 0, 0]) 97) ∧ hget M' rr = some (.map es c) ∧ hget M' j6 = some (blk (fl eI (lastA (g.log.take i))) 97) ∧ mapO (Value.int .i64) es m ∧ stampM m (g.log.take i) ∧ i ≤ g.log.length ∧ n = g.log.length - i ∧ ∀ q (hq : q < g.log.length), q < i → recordP (g.log.take q) g.next g.log[q]) g.log.length rfl
      ⟨0, _, _, [], rfl, sM, m3, mr, by simpa using m6, rfl, by simpa using stampM_nil, by omega, rfl, fun q _ hq => absurd hq (Nat.not_lt_zero _)⟩ ?_
    rintro n f M' ⟨i, es, c, m, hv, sM', m3', mr', m6', hmo, hst, hi, rfl, hok⟩
    simp only [List.map_cons, List.map_nil, List.cons.injEq, and_true] at hv
    simp only [walk, lists, acts, mem, plain, seqs, maps, cells, resL, resV, intBin, seval, wr, hv]
    have hL3 : (lastA (g.log.take i)).length = 3 := rfl
    have hl3 := hlen3 (lastA (g.log.take i)) rfl
    have ho3 := eI_one (lastA (g.log.take i))
    refine ite_lt (fun c1 => ?_) fun c1 => ?_
    · have hi2 : i < g.log.length := by omega
      have zr := zRecord_eq
      obtain ⟨b, o, cs, hx, e, a1, a2, rfl, sr⟩ := rs_at (r.subH (sB.trans sM')) hi2
      have hone := wRecord.2.2.2.2.2.2.2.2.2.2.2.2.2.2.1 g.log[i] a1 a2 (rdS.one sr.1) (rdS.one sr.2)
      simp only [walk, lists, acts, mem, plain, seqs, maps, cells, resL, resV, intBin, seval, hx, e, zr, wRecord]
      refine newB_intro (o := blk (cRecord zRecord (.slice none 0 0) (.slice none 0 0)) 86) fun j8 hj8 => ?_
      simp only [walk, lists, acts, mem, plain, seqs, maps, cells, resL, resV, intBin, seval, zr, wRecord, hone]
      obtain ⟨N, hN⟩ : ∃ N, N = (j8, blk (cRecord g.log[i] a1 a2) 86) :: M' := ⟨_, rfl⟩
      have sN : Tk.Sub M' N := by rw [hN]; exact Sub.cons hj8 (Sub.refl _)
      have gN : hget N j8 = some (blk (cRecord g.log[i] a1 a2) 86) := by rw [hN]; exact hget_same _ _ _
      have p0 : hcel N j8 0 = some (.int .i64 g.log[i].stamp) := hcel_of gN rfl
      have p1 : hcel N j8 1 = some (.int .i64 g.log[i].try_) := hcel_of gN rfl
      have p2 : hcel N j8 2 = some (.int .i64 g.log[i].call.session) := hcel_of gN rfl
      have p3 : hcel N j8 3 = some (.int .i64 g.log[i].call.number) := hcel_of gN rfl
      have p26 : hread N j8 2 6 = some (cCall g.log[i].call) := by rw [hN]; simp only [walk, lists, acts, mem, plain, seqs, maps, cells, resL, resV, intBin, seval, wRecord]
      have p8 : hcel N j8 8 = some (.int .i64 g.log[i].code) := hcel_of gN rfl
      have p9 : hcel N j8 9 = some a1 := hcel_of gN rfl
      have p10 : hcel N j8 10 = some a2 := hcel_of gN rfl
      have pn := hc2 (sM'.trans sN)
      have m6N := sN _ _ m6'
      have m3N := sN _ _ m3'
      have mrN := sN _ _ mr'
      have rd6 : hread N j6 0 3 = some (fl eI (lastA (g.log.take i))) := hread_of m6N rfl
      obtain ⟨w1, w2⟩ := ret3 N (lastA (g.log.take i)) rfl m3N
      have sNN := Sub.refl N
      have bb := hb _ (List.getElem_mem hi2)
      have bv := bb.v; have bp := bb.p; have bc := bb.c
      unfold bCall at bc
      unfold lim at bv bp bc
      have hnx : IntKind.i64.wrap (g.next - 1) = g.next - 1 := wrapI _ (by have := hn.1; have := hn.2; omega)
      have bad : ¬ recordP (g.log.take i) g.next g.log[i] → ¬ glogP g.log g.next := fun q p => q (p.2 i hi2)
      have no : ¬ recordP (g.log.take i) g.next g.log[i] → dP R (.returned (.tuple #[.map (some rr), .agg (fl eI (lastA (g.log.take i))).toArray, .bool false])) (hupd N j3 (blk (fl eI (lastA (g.log.take i))) 97)) := fun q => .of (kno (bad q) _ _ _ rfl (sB.trans (sub3 _ _ (sM'.trans sN))))
      rw [← hN]
      refine vc_draw _ (Sub.refl _) ?_
      simp only [walk, lists, acts, mem, plain, seqs, maps, cells, resL, resV, intBin, seval, p0, p1, p2, p3, p26, p8, p9, p10, pn, sNN, hnx]
      refine raw_lookup keyII tMapII hi0 hz0 (k := g.log[i].stamp) (by simp only [walk, lists, acts, mem, plain, seqs, maps, cells, resL, resV, intBin, seval]) (by simp only [walk, lists, acts, mem, plain, seqs, maps, cells, resL, resV, intBin, seval]) mrN hmo rfl ?_
      rcases stampM_get hst g.log[i].stamp with ⟨hg, x, hxm, hxs⟩ | ⟨hg, hnos⟩
      · simp only [walk, lists, acts, mem, plain, seqs, maps, cells, resL, resV, intBin, seval, hg, p0, p1, p2, p3, p26, p8, p9, p10, pn, sNN, hnx]
        refine vc_draw _ (Sub.refl _) ?_
        simp only [walk, lists, acts, mem, plain, seqs, maps, cells, resL, resV, intBin, seval, rd6, hl3, ho3, w1, w2, sNN]
        exact no fun p => p.2.2.2.2.2.2.1 x hxm hxs
      · simp only [walk, lists, acts, mem, plain, seqs, maps, cells, resL, resV, intBin, seval, hg, p0, p1, p2, p3, p26, p8, p9, p10, pn, sNN, hnx]
        refine within_c fun q1 hq1 => ?_
        cases q1 with
        | false =>
          simp only [walk, lists, acts, mem, plain, seqs, maps, cells, resL, resV, intBin, seval, p0, p1, p2, p3, p26, p8, p9, p10, pn, sNN, hnx]
          refine vc_draw _ (Sub.refl _) ?_
          simp only [walk, lists, acts, mem, plain, seqs, maps, cells, resL, resV, intBin, seval, rd6, hl3, ho3, w1, w2, sNN]
          exact no fun p => not_b hq1 rfl p.1
        | true =>
        simp only [walk, lists, acts, mem, plain, seqs, maps, cells, resL, resV, intBin, seval, p0, p1, p2, p3, p26, p8, p9, p10, pn, sNN, hnx]
        refine isStamp_c fun q2 hq2 => ?_
        cases q2 with
        | false =>
          simp only [walk, lists, acts, mem, plain, seqs, maps, cells, resL, resV, intBin, seval, p0, p1, p2, p3, p26, p8, p9, p10, pn, sNN, hnx]
          refine vc_draw _ (Sub.refl _) ?_
          simp only [walk, lists, acts, mem, plain, seqs, maps, cells, resL, resV, intBin, seval, rd6, hl3, ho3, w1, w2, sNN]
          exact no fun p => not_b hq2 rfl p.2.1
        | true =>
        simp only [walk, lists, acts, mem, plain, seqs, maps, cells, resL, resV, intBin, seval, p0, p1, p2, p3, p26, p8, p9, p10, pn, sNN, hnx]
        refine implCallOk_c (gl.sub (sB.trans (sM'.trans sN))) (gm.sub (sB.trans (sM'.trans sN))) (by omega) fun q3 hq3 => ?_
        cases q3 with
        | false =>
          simp only [walk, lists, acts, mem, plain, seqs, maps, cells, resL, resV, intBin, seval, p0, p1, p2, p3, p26, p8, p9, p10, pn, sNN, hnx]
          refine vc_draw _ (Sub.refl _) ?_
          simp only [walk, lists, acts, mem, plain, seqs, maps, cells, resL, resV, intBin, seval, rd6, hl3, ho3, w1, w2, sNN]
          exact no fun p => not_b hq3 rfl p.2.2.1
        | true =>
        simp only [walk, lists, acts, mem, plain, seqs, maps, cells, resL, resV, intBin, seval, p0, p1, p2, p3, p26, p8, p9, p10, pn, sNN, hnx]
        have hfm := (hq3.1 rfl).1
        have hse : 0 ≤ g.log[i].call.session ∧ g.log[i].call.session ≤ 2 := hfm.1
        have hnu : 1 ≤ g.log[i].call.number := hfm.2.1.1
        have hsl : g.log[i].call.session.toNat < (lastA (g.log.take i)).length := by show _ < 3; omega
        have pl : hcel N j6 g.log[i].call.session.toNat = some (.int .i64 (lastN (g.log.take i) g.log[i].call.session)) := by
          rw [← lastA_at _ hse hsl]; exact hcel_of m6N (flI_at hsl)
        refine ⟨⟨by omega, by omega⟩, ?_⟩
        simp only [walk, lists, acts, mem, plain, seqs, maps, cells, resL, resV, intBin, seval, pl, p0, p1, p2, p3, p26, p8, p9, p10, pn, sNN, hnx]
        refine ite_ge (fun c4 => ?_) fun c4 => ?_
        · try simp only [walk, lists, acts, mem, plain, seqs, maps, cells, resL, resV, intBin, seval, p0, p1, p2, p3, p26, p8, p9, p10, pn, sNN, hnx]
          refine vc_draw _ (Sub.refl _) ?_
          simp only [walk, lists, acts, mem, plain, seqs, maps, cells, resL, resV, intBin, seval, rd6, hl3, ho3, w1, w2, sNN]
          exact no fun p => by have := (lastN_lt hnu).2 p.2.2.2.2.2.2.2; omega
        have hlt := (lastN_lt (log := g.log.take i) (s := g.log[i].call.session) hnu).1 (by omega)
        try simp only [walk, lists, acts, mem, plain, seqs, maps, cells, resL, resV, intBin, seval, p0, p1, p2, p3, p26, p8, p9, p10, pn, sNN, hnx]
        refine isCode_c fun q5 hq5 => ?_
        cases q5 with
        | false =>
          simp only [walk, lists, acts, mem, plain, seqs, maps, cells, resL, resV, intBin, seval, p0, p1, p2, p3, p26, p8, p9, p10, pn, sNN, hnx]
          refine vc_draw _ (Sub.refl _) ?_
          simp only [walk, lists, acts, mem, plain, seqs, maps, cells, resL, resV, intBin, seval, rd6, hl3, ho3, w1, w2, sNN]
          exact no fun p => not_b hq5 rfl p.2.2.2.1
        | true =>
        simp only [walk, lists, acts, mem, plain, seqs, maps, cells, resL, resV, intBin, seval, p0, p1, p2, p3, p26, p8, p9, p10, pn, sNN, hnx]
        refine valsOk_c (sr.1.sub (sB.trans (sM'.trans sN))) (by omega) fun q6 hq6 => ?_
        cases q6 with
        | false =>
          simp only [walk, lists, acts, mem, plain, seqs, maps, cells, resL, resV, intBin, seval, p0, p1, p2, p3, p26, p8, p9, p10, pn, sNN, hnx]
          refine vc_draw _ (Sub.refl _) ?_
          simp only [walk, lists, acts, mem, plain, seqs, maps, cells, resL, resV, intBin, seval, rd6, hl3, ho3, w1, w2, sNN]
          exact no fun p => not_b hq6 rfl p.2.2.2.2.1
        | true =>
        simp only [walk, lists, acts, mem, plain, seqs, maps, cells, resL, resV, intBin, seval, p0, p1, p2, p3, p26, p8, p9, p10, pn, sNN, hnx]
        refine pairsOk_c (sr.2.sub (sB.trans (sM'.trans sN))) (by omega) fun q7 hq7 => ?_
        cases q7 with
        | false =>
          simp only [walk, lists, acts, mem, plain, seqs, maps, cells, resL, resV, intBin, seval, p0, p1, p2, p3, p26, p8, p9, p10, pn, sNN, hnx]
          refine vc_draw _ (Sub.refl _) ?_
          simp only [walk, lists, acts, mem, plain, seqs, maps, cells, resL, resV, intBin, seval, rd6, hl3, ho3, w1, w2, sNN]
          exact no fun p => not_b hq7 rfl p.2.2.2.2.2.1
        | true =>
        simp only [walk, lists, acts, mem, plain, seqs, maps, cells, resL, resV, intBin, seval, p0, p1, p2, p3, p26, p8, p9, p10, pn, sNN, hnx]
        refine raw_update keyII tMapII (k := g.log[i].stamp) (v := .int .i64 1) (by simp only [walk, lists, acts, mem, plain, seqs, maps, cells, resL, resV, intBin, seval]) (by simp only [walk, lists, acts, mem, plain, seqs, maps, cells, resL, resV, intBin, seval]) (by simp only [walk, lists, acts, mem, plain, seqs, maps, cells, resL, resV, intBin, seval]) mrN hmo fun es' c' hmo' => ?_
        have j8r : j8 ≠ rr := fun e => by rw [e, mr'] at hj8; cases hj8
        have j86 : j8 ≠ j6 := fun e => by rw [e, m6'] at hj8; cases hj8
        have j83 : j8 ≠ j3 := fun e => by rw [e, m3'] at hj8; cases hj8
        obtain ⟨N2, hN2⟩ : ∃ N2, N2 = hupd N rr (.map es' c') := ⟨_, rfl⟩
        have gN2 : hget N2 j8 = some (blk (cRecord g.log[i] a1 a2) 86) := by rw [hN2, hget_hupd_ne j8r]; exact gN
        have p2' : hcel N2 j8 2 = some (.int .i64 g.log[i].call.session) := hcel_of gN2 rfl
        have p3' : hcel N2 j8 3 = some (.int .i64 g.log[i].call.number) := hcel_of gN2 rfl
        have m6N2 : hget N2 j6 = some (blk (fl eI (lastA (g.log.take i))) 97) := by rw [hN2, hget_hupd_ne (Ne.symm jne.2.2)]; exact m6N
        have htk : g.log.take (i + 1) = g.log.take i ++ [g.log[i]] := List.take_succ_eq_append_getElem hi2
        obtain ⟨N3, hN3⟩ : ∃ N3, N3 = hupd N2 j6 (blk (fl eI (lastA (g.log.take (i + 1)))) 97) := ⟨_, rfl⟩
        have wt6 : hwrite N2 j6 g.log[i].call.session.toNat [.int .i64 g.log[i].call.number] = some N3 := by
          rw [hwrite_of (j := g.log[i].call.session.toNat) (vs := [.int .i64 g.log[i].call.number]) m6N2 (by rw [hl3]; simp only [List.length_singleton]; omega), hN3, htk, ← lastA_app _ _ hse]
          have : g.log[i].call.session = 0 ∨ g.log[i].call.session = 1 ∨ g.log[i].call.session = 2 := by omega
          rcases this with e | e | e <;> rw [e] <;> rfl
        rw [← hN2]
        simp only [walk, lists, acts, mem, plain, seqs, maps, cells, resL, resV, intBin, seval, p2', p3']
        refine ⟨⟨by omega, by omega⟩, ?_⟩
        simp only [walk, lists, acts, mem, plain, seqs, maps, cells, resL, resV, intBin, seval, wt6]
        simp (disch := omega) only [walk, lists, acts, mem, plain, seqs, maps, cells, resL, resV, intBin, seval, wrapI]
        refine ⟨g.log.length - (i + 1), by omega, N3, .refl _, i + 1, es', c', mput m g.log[i].stamp (.int .i64 1), by simp, ?_, ?_, ?_, ?_, hmo', by rw [htk]; exact stampM_app hst, by omega, rfl, fun q hq hqi => ?_⟩
        · rw [hN3, hN2]; exact Sub.wr (Sub.wr (sM'.trans sN) nBr) nB6
        · rw [hN3, hget_hupd_ne jne.1, hN2, hget_hupd_ne jne.2.1]; exact m3N
        · rw [hN3, hget_hupd_ne jne.2.2, hN2]; exact hget_hupd_same mrN
        · rw [hN3]; exact hget_hupd_same m6N2
        · by_cases e : q = i
          · subst e
            exact ⟨hq1.1 rfl, hq2.1 rfl, hq3.1 rfl, hq5.1 rfl, hq6.1 rfl, hq7.1 rfl, hnos, hlt⟩
          · exact hok q hq (by omega)
    · have hil : i = g.log.length := by omega
      subst hil
      rw [List.take_length] at *
      have rd6 : hread M' j6 0 3 = some (fl eI (lastA g.log)) := hread_of m6' rfl
      obtain ⟨w1, w2⟩ := ret3 M' (lastA g.log) rfl m3'
      refine vc_draw _ (Sub.refl _) ?_
      simp only [walk, lists, acts, mem, plain, seqs, maps, cells, resL, resV, intBin, seval, rd6, hl3, ho3, w1, w2, Sub.refl M']
      exact .of (kyes ⟨by omega, fun q hq => hok q hq hq⟩ rr es c m _ (sB.trans (sub3 _ _ sM')) (by rw [hget_hupd_ne (Ne.symm jne.2.1)]; exact mr') hmo hst)
end Go.Proofs.YtmfhlkkligcgdaaGreatDoor
end
