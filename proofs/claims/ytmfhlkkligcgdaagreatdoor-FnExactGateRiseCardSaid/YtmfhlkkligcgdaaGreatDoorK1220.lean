/- Parts of the proof, put together: Y5, Y7, Z4, Z5, GG. -/
import Derived.ChangeArms
import Derived.Test.YtmfhlkkligcgdaaGreatDoorK1218
import Derived.Test.YtmfhlkkligcgdaaGreatDoorK1219
import Derived.Test.YtmfhlkkligcgdaaGreatDoorK1216
import Derived.Test.YtmfhlkkligcgdaaGreatDoorK1213
import Derived.Test.YtmfhlkkligcgdaaGreatDoorK1214
/- Gates: the reference's, calls under way and ways. -/
section
set_option linter.unusedVariables false
set_option linter.unusedSimpArgs false
set_option maxRecDepth 20000
attribute [local irreducible] Go.Tk.vc Go.Tk.vops Go.Tk.vdr Go.Tk.vop Go.Tk.vfl Go.Tk.HCalls
namespace Go.Proofs.YtmfhlkkligcgdaaGreatDoor
open Go Go.Tk

theorem told_at {h : H} {b o : Nat} {cs : List Value} {d : DTold} (r : rTold h cs d) (e : hread h b o 2 = some cs) : ∃ p, hcel h b o = some (.int .i64 d.house) ∧ hcel h b (o + 1) = some p ∧ rPairs h p d.pairs := by
  obtain ⟨p, rfl, s⟩ := r
  have e0 := hread_c e 0 rfl
  have e1 := hread_c e 1 rfl
  exact ⟨p, e0, e1, s⟩
set_option maxHeartbeats 2000000 in
theorem l22LiveOk_c {h : H} {x : DLive} {lk tl : Value} {nx : Int} (r : sLive h x lk tl) (hb : bLive x) (hn : inP 1 9999 nx) {R : Ending → H → Prop} (k : Asks R (liveP x nx) h) :
    HCalls Tryz.prog 58 #[.agg (cLive x lk tl).toArray, .int .i64 nx] h R := by
  refine HCalls_ir (args := [.agg (cLive x lk tl).toArray, .int .i64 nx]) Tryz.func58 ir58 ?_
  have hn2 : IntKind.i64.wrap (nx - 1) = nx - 1 := wrapI _ (by have := hn.1; have := hn.2; omega)
  have b1 := hb.l; have b2 := hb.t; have b3 := hb.c
  unfold bCall at b3
  unfold lim at b1 b2 b3
  simp only [walk, lists, acts, mem, plain, seqs, maps, cells, resL, resV, intBin, seval, wLive]
  refine newB_intro (o := blk (cLive x lk tl) 82) fun j hj => ?_
  have s1 := Sub.cons (o := blk (cLive x lk tl) 82) hj (Sub.refl h)
  simp only [walk, lists, acts, mem, plain, seqs, maps, cells, resL, resV, intBin, seval, wLive, hn2]
  refine l6In_c fun q1 hq1 => ?_
  cases q1 with
  | false =>
    simp only [walk, lists, acts, mem, plain, seqs, maps, cells, resL, resV, intBin, seval, wLive]
    exact k.dno s1 fun p => not_b hq1 rfl p.1
  | true =>
  simp only [walk, lists, acts, mem, plain, seqs, maps, cells, resL, resV, intBin, seval, wLive]
  refine l6In_c fun q2 hq2 => ?_
  cases q2 with
  | false =>
    simp only [walk, lists, acts, mem, plain, seqs, maps, cells, resL, resV, intBin, seval, wLive]
    exact k.dno s1 fun p => not_b hq2 rfl p.2.1
  | true =>
  simp only [walk, lists, acts, mem, plain, seqs, maps, cells, resL, resV, intBin, seval, wLive]
  refine l6In_c fun q3 hq3 => ?_
  cases q3 with
  | false =>
    simp only [walk, lists, acts, mem, plain, seqs, maps, cells, resL, resV, intBin, seval, wLive]
    exact k.dno s1 fun p => not_b hq3 rfl p.2.2.1
  | true =>
  simp only [walk, lists, acts, mem, plain, seqs, maps, cells, resL, resV, intBin, seval, wLive]
  refine l6In_c fun q4 hq4 => ?_
  cases q4 with
  | false =>
    simp only [walk, lists, acts, mem, plain, seqs, maps, cells, resL, resV, intBin, seval, wLive]
    exact k.dno s1 fun p => not_b hq4 rfl p.2.2.2.1
  | true =>
  simp only [walk, lists, acts, mem, plain, seqs, maps, cells, resL, resV, intBin, seval, wLive]
  refine specCallOk_c (by omega) fun q5 hq5 => ?_
  cases q5 with
  | false =>
    simp only [walk, lists, acts, mem, plain, seqs, maps, cells, resL, resV, intBin, seval, wLive]
    exact k.dno s1 fun p => not_b hq5 rfl p.2.2.2.2.1
  | true =>
  simp only [walk, lists, acts, mem, plain, seqs, maps, cells, resL, resV, intBin, seval, wLive]
  have r1 := r.sub s1
  simp only [walk, lists, acts, mem, plain, seqs, maps, cells, resL, resV, intBin, seval, wLive, r1.2.len, r1.1.len]
  refine ite_lt (fun c1 => ?_) fun c1 => ?_
  · refine ite_lt (fun c2 => k.dno s1 fun p => ?_) fun c2 => ?_
    · have := p.2.2.2.2.2.1 c1
      rw [this] at c2; simp at c2
    · have hp2 : x.phase < 2 → x.told = [] := fun _ => List.eq_nil_of_length_eq_zero (by omega)
      refine ite_lt (fun c3 => ?_) fun c3 => ?_
      · refine ite_lt (fun c4 => k.dno s1 fun p => ?_) fun c4 => ?_
        · have := p.2.2.2.2.2.2.1 c3
          rw [this] at c4; simp at c4
        · have hp1 : x.phase < 1 → x.locked = [] := fun _ => List.eq_nil_of_length_eq_zero (by omega)
          refine vc_loop [5] (fun n vs h' => ∃ i : Nat, vs = [.int .i64 i] ∧ h' = (j, blk (cLive x lk tl) 82) :: h ∧ i ≤ x.told.length ∧ n = x.told.length - i ∧ (∀ t ∈ x.told.take i, houseP t.house ∧ pairsP t.pairs) ∧ risU (·.house) x.told i) x.told.length rfl ⟨0, rfl, rfl, by omega, rfl, fun t ht => by simp at ht, risU_zero _ _⟩ ?_
          rintro n f h' ⟨i, hv, rfl, hi, rfl, hall, hris⟩
          simp only [List.map_cons, List.map_nil, List.cons.injEq, and_true] at hv
          simp only [walk, lists, acts, mem, plain, seqs, maps, cells, resL, resV, intBin, seval, wr, hv, wLive, r1.2.len, r1.1.len]
          refine ite_lt (fun d1 => ?_) fun d1 => ?_
          · have hi2 : i < x.told.length := by omega
            obtain ⟨b, o, cs, hx, e, rt⟩ := rs_at r1.2 hi2
            obtain ⟨pv, e0, e1, sp⟩ := told_at (rTold.sub (Sub.refl _) rt) e
            have sR := Sub.refl ((j, blk (cLive x lk tl) 82) :: h)
            have bt : x.told[i].pairs.length ≤ 1048576 := hb.ts _ (List.getElem_mem hi2)
            have no : ¬ (houseP x.told[i].house ∧ pairsP x.told[i].pairs) → ¬ liveP x nx := fun g p => g (p.2.2.2.2.2.2.2.1.1 _ (List.getElem_mem hi2))
            have more : (houseP x.told[i].house ∧ pairsP x.told[i].pairs) → ∀ t ∈ x.told.take (i + 1), houseP t.house ∧ pairsP t.pairs := fun g t ht => by
              rw [List.take_succ_eq_append_getElem hi2] at ht
              rcases List.mem_append.1 ht with ht | ht
              · exact hall t ht
              · rw [List.mem_singleton.1 ht]; exact g
            refine vc_draw _ (Sub.refl _) ?_
            simp only [walk, lists, acts, mem, plain, seqs, maps, cells, resL, resV, intBin, seval, wLive, hx, e0, e1, sR]
            refine l12House_c fun u1 hu1 => ?_
            cases u1 with
            | false =>
              simp only [walk, lists, acts, mem, plain, seqs, maps, cells, resL, resV, intBin, seval, wLive, hx, e0, e1, sR]
              exact k.dno s1 (no fun g => not_b hu1 rfl g.1)
            | true =>
            simp only [walk, lists, acts, mem, plain, seqs, maps, cells, resL, resV, intBin, seval, wLive, hx, e0, e1, sR]
            refine l1Pairs_c sp (by omega) fun u2 hu2 => ?_
            cases u2 with
            | false =>
              simp only [walk, lists, acts, mem, plain, seqs, maps, cells, resL, resV, intBin, seval, wLive, hx, e0, e1, sR]
              exact k.dno s1 (no fun g => not_b hu2 rfl g.2)
            | true =>
            simp only [walk, lists, acts, mem, plain, seqs, maps, cells, resL, resV, intBin, seval, wLive, hx, e0, e1, sR]
            have next : risU (·.house) x.told (i + 1) → ∃ m, m < x.told.length - i ∧ ∃ g, Tk.Sub g ((j, blk (cLive x lk tl) 82) :: h) ∧ ∃ i' : Nat, [Value.int .i64 ((i : Int) + 1)] = [Value.int .i64 i'] ∧ g = (j, blk (cLive x lk tl) 82) :: h ∧ i' ≤ x.told.length ∧ m = x.told.length - i' ∧ (∀ t ∈ x.told.take i', houseP t.house ∧ pairsP t.pairs) ∧ risU (·.house) x.told i' := fun g =>
              ⟨x.told.length - (i + 1), by omega, _, .refl _, i + 1, by simp, rfl, by omega, rfl, more ⟨hu1.1 rfl, hu2.1 rfl⟩, g⟩
            refine ite_lt (fun g1 => ?_) fun g1 => ?_
            · have hi3 : i - 1 < x.told.length := by omega
              obtain ⟨b3, o3, cs3, hx3, e3, rt3⟩ := rs_at r1.2 hi3
              obtain ⟨pv3, e03, e13, sp3⟩ := told_at (rTold.sub (Sub.refl _) rt3) e3
              have hw3 : IntKind.i64.wrap ((i : Int) - 1) = ((i - 1 : Nat) : Int) := by rw [wrapI _ ⟨by omega, by omega⟩]; omega
              simp only [walk, lists, acts, mem, plain, seqs, maps, cells, resL, resV, intBin, seval, wLive, hx, hx3, e03, e0, sR, hw3]
              refine ite_ge (fun g2 => k.dno s1 fun p => risU_not (k := (·.house)) hi2 (by omega) (by show ¬ x.told[i - 1].house < x.told[i].house; omega) p.2.2.2.2.2.2.2.1.2) fun g2 => ?_
              simp (disch := omega) only [walk, lists, acts, mem, plain, seqs, maps, cells, resL, resV, intBin, seval, wrapI, sR]
              exact next (risU_more hi2 (by omega) hris g2)
            · simp (disch := omega) only [walk, lists, acts, mem, plain, seqs, maps, cells, resL, resV, intBin, seval, wrapI, sR]
              exact next (risU_one (by omega) hris)
          · have ht : toldP x.told := ⟨by rw [List.take_of_length_le (by omega)] at hall; exact hall, risU_done (by omega) hris⟩
            refine vc_loop [6] (fun n vs h' => ∃ i : Nat, vs = [.int .i64 i] ∧ h' = (j, blk (cLive x lk tl) 82) :: h ∧ i ≤ x.locked.length ∧ n = x.locked.length - i ∧ allP houseP (x.locked.take i) ∧ risU id x.locked i) x.locked.length rfl ⟨0, rfl, rfl, by omega, rfl, allP_zero _ _, risU_zero _ _⟩ ?_
            rintro n f2 h' ⟨i, hv2, rfl, hi, rfl, hall2, hris2⟩
            simp only [List.map_cons, List.map_nil, List.cons.injEq, and_true] at hv2
            simp only [walk, lists, acts, mem, plain, seqs, maps, cells, resL, resV, intBin, seval, wr, hv2, wLive, r1.2.len, r1.1.len]
            refine ite_lt (fun d1 => ?_) fun d1 => ?_
            · have hi2 : i < x.locked.length := by omega
              obtain ⟨b, o, hx, e⟩ := ls_at eI_len r1.1 hi2
              have e0 := hread_1 e
              have sR := Sub.refl ((j, blk (cLive x lk tl) 82) :: h)
              refine vc_draw _ (Sub.refl _) ?_
              simp only [walk, lists, acts, mem, plain, seqs, maps, cells, resL, resV, intBin, seval, wLive, hx, e0, sR]
              refine l12House_c fun u1 hu1 => ?_
              cases u1 with
              | false =>
                simp only [walk, lists, acts, mem, plain, seqs, maps, cells, resL, resV, intBin, seval, wLive, hx, e0, sR]
                exact k.dno s1 fun p => allP_not hi2 (not_b hu1 rfl) p.2.2.2.2.2.2.2.2.1
              | true =>
              simp only [walk, lists, acts, mem, plain, seqs, maps, cells, resL, resV, intBin, seval, wLive, hx, e0, sR]
              have next : risU id x.locked (i + 1) → ∃ m, m < x.locked.length - i ∧ ∃ g, Tk.Sub g ((j, blk (cLive x lk tl) 82) :: h) ∧ ∃ i' : Nat, [Value.int .i64 ((i : Int) + 1)] = [Value.int .i64 i'] ∧ g = (j, blk (cLive x lk tl) 82) :: h ∧ i' ≤ x.locked.length ∧ m = x.locked.length - i' ∧ allP houseP (x.locked.take i') ∧ risU id x.locked i' := fun g =>
                ⟨x.locked.length - (i + 1), by omega, _, .refl _, i + 1, by simp, rfl, by omega, rfl, allP_more hi2 hall2 (hu1.1 rfl), g⟩
              refine ite_lt (fun g1 => ?_) fun g1 => ?_
              · have hi3 : i - 1 < x.locked.length := by omega
                obtain ⟨b3, o3, hx3, e3⟩ := ls_at eI_len r1.1 hi3
                have e03 := hread_1 e3
                have hw3 : IntKind.i64.wrap ((i : Int) - 1) = ((i - 1 : Nat) : Int) := by rw [wrapI _ ⟨by omega, by omega⟩]; omega
                simp only [walk, lists, acts, mem, plain, seqs, maps, cells, resL, resV, intBin, seval, wLive, hx, hx3, e03, e0, sR, hw3]
                refine ite_ge (fun g2 => k.dno s1 fun p => risU_not (k := id) hi2 (by omega) (by simp only [id]; omega) p.2.2.2.2.2.2.2.2.2) fun g2 => ?_
                simp (disch := omega) only [walk, lists, acts, mem, plain, seqs, maps, cells, resL, resV, intBin, seval, wrapI, sR]
                exact next (risU_more hi2 (by omega) hris2 g2)
              · simp (disch := omega) only [walk, lists, acts, mem, plain, seqs, maps, cells, resL, resV, intBin, seval, wrapI, sR]
                exact next (risU_one (by omega) hris2)
            · exact ⟨h, s1, k.yes ⟨hq1.1 rfl, hq2.1 rfl, hq3.1 rfl, hq4.1 rfl, hq5.1 rfl, hp2, hp1, ht, allP_done (by omega) hall2, risU_done (by omega) hris2⟩⟩
      · have hp1 : x.phase < 1 → x.locked = [] := fun c => absurd c (by omega)
        refine vc_loop [5] (fun n vs h' => ∃ i : Nat, vs = [.int .i64 i] ∧ h' = (j, blk (cLive x lk tl) 82) :: h ∧ i ≤ x.told.length ∧ n = x.told.length - i ∧ (∀ t ∈ x.told.take i, houseP t.house ∧ pairsP t.pairs) ∧ risU (·.house) x.told i) x.told.length rfl ⟨0, rfl, rfl, by omega, rfl, fun t ht => by simp at ht, risU_zero _ _⟩ ?_
        rintro n f h' ⟨i, hv, rfl, hi, rfl, hall, hris⟩
        simp only [List.map_cons, List.map_nil, List.cons.injEq, and_true] at hv
        simp only [walk, lists, acts, mem, plain, seqs, maps, cells, resL, resV, intBin, seval, wr, hv, wLive, r1.2.len, r1.1.len]
        refine ite_lt (fun d1 => ?_) fun d1 => ?_
        · have hi2 : i < x.told.length := by omega
          obtain ⟨b, o, cs, hx, e, rt⟩ := rs_at r1.2 hi2
          obtain ⟨pv, e0, e1, sp⟩ := told_at (rTold.sub (Sub.refl _) rt) e
          have sR := Sub.refl ((j, blk (cLive x lk tl) 82) :: h)
          have bt : x.told[i].pairs.length ≤ 1048576 := hb.ts _ (List.getElem_mem hi2)
          have no : ¬ (houseP x.told[i].house ∧ pairsP x.told[i].pairs) → ¬ liveP x nx := fun g p => g (p.2.2.2.2.2.2.2.1.1 _ (List.getElem_mem hi2))
          have more : (houseP x.told[i].house ∧ pairsP x.told[i].pairs) → ∀ t ∈ x.told.take (i + 1), houseP t.house ∧ pairsP t.pairs := fun g t ht => by
            rw [List.take_succ_eq_append_getElem hi2] at ht
            rcases List.mem_append.1 ht with ht | ht
            · exact hall t ht
            · rw [List.mem_singleton.1 ht]; exact g
          refine vc_draw _ (Sub.refl _) ?_
          simp only [walk, lists, acts, mem, plain, seqs, maps, cells, resL, resV, intBin, seval, wLive, hx, e0, e1, sR]
          refine l12House_c fun u1 hu1 => ?_
          cases u1 with
          | false =>
            simp only [walk, lists, acts, mem, plain, seqs, maps, cells, resL, resV, intBin, seval, wLive, hx, e0, e1, sR]
            exact k.dno s1 (no fun g => not_b hu1 rfl g.1)
          | true =>
          simp only [walk, lists, acts, mem, plain, seqs, maps, cells, resL, resV, intBin, seval, wLive, hx, e0, e1, sR]
          refine l1Pairs_c sp (by omega) fun u2 hu2 => ?_
          cases u2 with
          | false =>
            simp only [walk, lists, acts, mem, plain, seqs, maps, cells, resL, resV, intBin, seval, wLive, hx, e0, e1, sR]
            exact k.dno s1 (no fun g => not_b hu2 rfl g.2)
          | true =>
          simp only [walk, lists, acts, mem, plain, seqs, maps, cells, resL, resV, intBin, seval, wLive, hx, e0, e1, sR]
          have next : risU (·.house) x.told (i + 1) → ∃ m, m < x.told.length - i ∧ ∃ g, Tk.Sub g ((j, blk (cLive x lk tl) 82) :: h) ∧ ∃ i' : Nat, [Value.int .i64 ((i : Int) + 1)] = [Value.int .i64 i'] ∧ g = (j, blk (cLive x lk tl) 82) :: h ∧ i' ≤ x.told.length ∧ m = x.told.length - i' ∧ (∀ t ∈ x.told.take i', houseP t.house ∧ pairsP t.pairs) ∧ risU (·.house) x.told i' := fun g =>
            ⟨x.told.length - (i + 1), by omega, _, .refl _, i + 1, by simp, rfl, by omega, rfl, more ⟨hu1.1 rfl, hu2.1 rfl⟩, g⟩
          refine ite_lt (fun g1 => ?_) fun g1 => ?_
          · have hi3 : i - 1 < x.told.length := by omega
            obtain ⟨b3, o3, cs3, hx3, e3, rt3⟩ := rs_at r1.2 hi3
            obtain ⟨pv3, e03, e13, sp3⟩ := told_at (rTold.sub (Sub.refl _) rt3) e3
            have hw3 : IntKind.i64.wrap ((i : Int) - 1) = ((i - 1 : Nat) : Int) := by rw [wrapI _ ⟨by omega, by omega⟩]; omega
            simp only [walk, lists, acts, mem, plain, seqs, maps, cells, resL, resV, intBin, seval, wLive, hx, hx3, e03, e0, sR, hw3]
            refine ite_ge (fun g2 => k.dno s1 fun p => risU_not (k := (·.house)) hi2 (by omega) (by show ¬ x.told[i - 1].house < x.told[i].house; omega) p.2.2.2.2.2.2.2.1.2) fun g2 => ?_
            simp (disch := omega) only [walk, lists, acts, mem, plain, seqs, maps, cells, resL, resV, intBin, seval, wrapI, sR]
            exact next (risU_more hi2 (by omega) hris g2)
          · simp (disch := omega) only [walk, lists, acts, mem, plain, seqs, maps, cells, resL, resV, intBin, seval, wrapI, sR]
            exact next (risU_one (by omega) hris)
        · have ht : toldP x.told := ⟨by rw [List.take_of_length_le (by omega)] at hall; exact hall, risU_done (by omega) hris⟩
          refine vc_loop [6] (fun n vs h' => ∃ i : Nat, vs = [.int .i64 i] ∧ h' = (j, blk (cLive x lk tl) 82) :: h ∧ i ≤ x.locked.length ∧ n = x.locked.length - i ∧ allP houseP (x.locked.take i) ∧ risU id x.locked i) x.locked.length rfl ⟨0, rfl, rfl, by omega, rfl, allP_zero _ _, risU_zero _ _⟩ ?_
          rintro n f2 h' ⟨i, hv2, rfl, hi, rfl, hall2, hris2⟩
          simp only [List.map_cons, List.map_nil, List.cons.injEq, and_true] at hv2
          simp only [walk, lists, acts, mem, plain, seqs, maps, cells, resL, resV, intBin, seval, wr, hv2, wLive, r1.2.len, r1.1.len]
          refine ite_lt (fun d1 => ?_) fun d1 => ?_
          · have hi2 : i < x.locked.length := by omega
            obtain ⟨b, o, hx, e⟩ := ls_at eI_len r1.1 hi2
            have e0 := hread_1 e
            have sR := Sub.refl ((j, blk (cLive x lk tl) 82) :: h)
            refine vc_draw _ (Sub.refl _) ?_
            simp only [walk, lists, acts, mem, plain, seqs, maps, cells, resL, resV, intBin, seval, wLive, hx, e0, sR]
            refine l12House_c fun u1 hu1 => ?_
            cases u1 with
            | false =>
              simp only [walk, lists, acts, mem, plain, seqs, maps, cells, resL, resV, intBin, seval, wLive, hx, e0, sR]
              exact k.dno s1 fun p => allP_not hi2 (not_b hu1 rfl) p.2.2.2.2.2.2.2.2.1
            | true =>
            simp only [walk, lists, acts, mem, plain, seqs, maps, cells, resL, resV, intBin, seval, wLive, hx, e0, sR]
            have next : risU id x.locked (i + 1) → ∃ m, m < x.locked.length - i ∧ ∃ g, Tk.Sub g ((j, blk (cLive x lk tl) 82) :: h) ∧ ∃ i' : Nat, [Value.int .i64 ((i : Int) + 1)] = [Value.int .i64 i'] ∧ g = (j, blk (cLive x lk tl) 82) :: h ∧ i' ≤ x.locked.length ∧ m = x.locked.length - i' ∧ allP houseP (x.locked.take i') ∧ risU id x.locked i' := fun g =>
              ⟨x.locked.length - (i + 1), by omega, _, .refl _, i + 1, by simp, rfl, by omega, rfl, allP_more hi2 hall2 (hu1.1 rfl), g⟩
            refine ite_lt (fun g1 => ?_) fun g1 => ?_
            · have hi3 : i - 1 < x.locked.length := by omega
              obtain ⟨b3, o3, hx3, e3⟩ := ls_at eI_len r1.1 hi3
              have e03 := hread_1 e3
              have hw3 : IntKind.i64.wrap ((i : Int) - 1) = ((i - 1 : Nat) : Int) := by rw [wrapI _ ⟨by omega, by omega⟩]; omega
              simp only [walk, lists, acts, mem, plain, seqs, maps, cells, resL, resV, intBin, seval, wLive, hx, hx3, e03, e0, sR, hw3]
              refine ite_ge (fun g2 => k.dno s1 fun p => risU_not (k := id) hi2 (by omega) (by simp only [id]; omega) p.2.2.2.2.2.2.2.2.2) fun g2 => ?_
              simp (disch := omega) only [walk, lists, acts, mem, plain, seqs, maps, cells, resL, resV, intBin, seval, wrapI, sR]
              exact next (risU_more hi2 (by omega) hris2 g2)
            · simp (disch := omega) only [walk, lists, acts, mem, plain, seqs, maps, cells, resL, resV, intBin, seval, wrapI, sR]
              exact next (risU_one (by omega) hris2)
          · exact ⟨h, s1, k.yes ⟨hq1.1 rfl, hq2.1 rfl, hq3.1 rfl, hq4.1 rfl, hq5.1 rfl, hp2, hp1, ht, allP_done (by omega) hall2, risU_done (by omega) hris2⟩⟩
  · have hp2 : x.phase < 2 → x.told = [] := fun c => absurd c (by omega)
    refine ite_lt (fun c => absurd c (by omega)) fun c3 => ?_
    have hp1 : x.phase < 1 → x.locked = [] := fun c => absurd c (by omega)
    refine vc_loop [5] (fun n vs h' => ∃ i : Nat, vs = [.int .i64 i] ∧ h' = (j, blk (cLive x lk tl) 82) :: h ∧ i ≤ x.told.length ∧ n = x.told.length - i ∧ (∀ t ∈ x.told.take i, houseP t.house ∧ pairsP t.pairs) ∧ risU (·.house) x.told i) x.told.length rfl ⟨0, rfl, rfl, by omega, rfl, fun t ht => by simp at ht, risU_zero _ _⟩ ?_
    rintro n f h' ⟨i, hv, rfl, hi, rfl, hall, hris⟩
    simp only [List.map_cons, List.map_nil, List.cons.injEq, and_true] at hv
    simp only [walk, lists, acts, mem, plain, seqs, maps, cells, resL, resV, intBin, seval, wr, hv, wLive, r1.2.len, r1.1.len]
    refine ite_lt (fun d1 => ?_) fun d1 => ?_
    · have hi2 : i < x.told.length := by omega
      obtain ⟨b, o, cs, hx, e, rt⟩ := rs_at r1.2 hi2
      obtain ⟨pv, e0, e1, sp⟩ := told_at (rTold.sub (Sub.refl _) rt) e
      have sR := Sub.refl ((j, blk (cLive x lk tl) 82) :: h)
      have bt : x.told[i].pairs.length ≤ 1048576 := hb.ts _ (List.getElem_mem hi2)
      have no : ¬ (houseP x.told[i].house ∧ pairsP x.told[i].pairs) → ¬ liveP x nx := fun g p => g (p.2.2.2.2.2.2.2.1.1 _ (List.getElem_mem hi2))
      have more : (houseP x.told[i].house ∧ pairsP x.told[i].pairs) → ∀ t ∈ x.told.take (i + 1), houseP t.house ∧ pairsP t.pairs := fun g t ht => by
        rw [List.take_succ_eq_append_getElem hi2] at ht
        rcases List.mem_append.1 ht with ht | ht
        · exact hall t ht
        · rw [List.mem_singleton.1 ht]; exact g
      refine vc_draw _ (Sub.refl _) ?_
      simp only [walk, lists, acts, mem, plain, seqs, maps, cells, resL, resV, intBin, seval, wLive, hx, e0, e1, sR]
      refine l12House_c fun u1 hu1 => ?_
      cases u1 with
      | false =>
        simp only [walk, lists, acts, mem, plain, seqs, maps, cells, resL, resV, intBin, seval, wLive, hx, e0, e1, sR]
        exact k.dno s1 (no fun g => not_b hu1 rfl g.1)
      | true =>
      simp only [walk, lists, acts, mem, plain, seqs, maps, cells, resL, resV, intBin, seval, wLive, hx, e0, e1, sR]
      refine l1Pairs_c sp (by omega) fun u2 hu2 => ?_
      cases u2 with
      | false =>
        simp only [walk, lists, acts, mem, plain, seqs, maps, cells, resL, resV, intBin, seval, wLive, hx, e0, e1, sR]
        exact k.dno s1 (no fun g => not_b hu2 rfl g.2)
      | true =>
      simp only [walk, lists, acts, mem, plain, seqs, maps, cells, resL, resV, intBin, seval, wLive, hx, e0, e1, sR]
      have next : risU (·.house) x.told (i + 1) → ∃ m, m < x.told.length - i ∧ ∃ g, Tk.Sub g ((j, blk (cLive x lk tl) 82) :: h) ∧ ∃ i' : Nat, [Value.int .i64 ((i : Int) + 1)] = [Value.int .i64 i'] ∧ g = (j, blk (cLive x lk tl) 82) :: h ∧ i' ≤ x.told.length ∧ m = x.told.length - i' ∧ (∀ t ∈ x.told.take i', houseP t.house ∧ pairsP t.pairs) ∧ risU (·.house) x.told i' := fun g =>
        ⟨x.told.length - (i + 1), by omega, _, .refl _, i + 1, by simp, rfl, by omega, rfl, more ⟨hu1.1 rfl, hu2.1 rfl⟩, g⟩
      refine ite_lt (fun g1 => ?_) fun g1 => ?_
      · have hi3 : i - 1 < x.told.length := by omega
        obtain ⟨b3, o3, cs3, hx3, e3, rt3⟩ := rs_at r1.2 hi3
        obtain ⟨pv3, e03, e13, sp3⟩ := told_at (rTold.sub (Sub.refl _) rt3) e3
        have hw3 : IntKind.i64.wrap ((i : Int) - 1) = ((i - 1 : Nat) : Int) := by rw [wrapI _ ⟨by omega, by omega⟩]; omega
        simp only [walk, lists, acts, mem, plain, seqs, maps, cells, resL, resV, intBin, seval, wLive, hx, hx3, e03, e0, sR, hw3]
        refine ite_ge (fun g2 => k.dno s1 fun p => risU_not (k := (·.house)) hi2 (by omega) (by show ¬ x.told[i - 1].house < x.told[i].house; omega) p.2.2.2.2.2.2.2.1.2) fun g2 => ?_
        simp (disch := omega) only [walk, lists, acts, mem, plain, seqs, maps, cells, resL, resV, intBin, seval, wrapI, sR]
        exact next (risU_more hi2 (by omega) hris g2)
      · simp (disch := omega) only [walk, lists, acts, mem, plain, seqs, maps, cells, resL, resV, intBin, seval, wrapI, sR]
        exact next (risU_one (by omega) hris)
    · have ht : toldP x.told := ⟨by rw [List.take_of_length_le (by omega)] at hall; exact hall, risU_done (by omega) hris⟩
      refine vc_loop [6] (fun n vs h' => ∃ i : Nat, vs = [.int .i64 i] ∧ h' = (j, blk (cLive x lk tl) 82) :: h ∧ i ≤ x.locked.length ∧ n = x.locked.length - i ∧ allP houseP (x.locked.take i) ∧ risU id x.locked i) x.locked.length rfl ⟨0, rfl, rfl, by omega, rfl, allP_zero _ _, risU_zero _ _⟩ ?_
      rintro n f2 h' ⟨i, hv2, rfl, hi, rfl, hall2, hris2⟩
      simp only [List.map_cons, List.map_nil, List.cons.injEq, and_true] at hv2
      simp only [walk, lists, acts, mem, plain, seqs, maps, cells, resL, resV, intBin, seval, wr, hv2, wLive, r1.2.len, r1.1.len]
      refine ite_lt (fun d1 => ?_) fun d1 => ?_
      · have hi2 : i < x.locked.length := by omega
        obtain ⟨b, o, hx, e⟩ := ls_at eI_len r1.1 hi2
        have e0 := hread_1 e
        have sR := Sub.refl ((j, blk (cLive x lk tl) 82) :: h)
        refine vc_draw _ (Sub.refl _) ?_
        simp only [walk, lists, acts, mem, plain, seqs, maps, cells, resL, resV, intBin, seval, wLive, hx, e0, sR]
        refine l12House_c fun u1 hu1 => ?_
        cases u1 with
        | false =>
          simp only [walk, lists, acts, mem, plain, seqs, maps, cells, resL, resV, intBin, seval, wLive, hx, e0, sR]
          exact k.dno s1 fun p => allP_not hi2 (not_b hu1 rfl) p.2.2.2.2.2.2.2.2.1
        | true =>
        simp only [walk, lists, acts, mem, plain, seqs, maps, cells, resL, resV, intBin, seval, wLive, hx, e0, sR]
        have next : risU id x.locked (i + 1) → ∃ m, m < x.locked.length - i ∧ ∃ g, Tk.Sub g ((j, blk (cLive x lk tl) 82) :: h) ∧ ∃ i' : Nat, [Value.int .i64 ((i : Int) + 1)] = [Value.int .i64 i'] ∧ g = (j, blk (cLive x lk tl) 82) :: h ∧ i' ≤ x.locked.length ∧ m = x.locked.length - i' ∧ allP houseP (x.locked.take i') ∧ risU id x.locked i' := fun g =>
          ⟨x.locked.length - (i + 1), by omega, _, .refl _, i + 1, by simp, rfl, by omega, rfl, allP_more hi2 hall2 (hu1.1 rfl), g⟩
        refine ite_lt (fun g1 => ?_) fun g1 => ?_
        · have hi3 : i - 1 < x.locked.length := by omega
          obtain ⟨b3, o3, hx3, e3⟩ := ls_at eI_len r1.1 hi3
          have e03 := hread_1 e3
          have hw3 : IntKind.i64.wrap ((i : Int) - 1) = ((i - 1 : Nat) : Int) := by rw [wrapI _ ⟨by omega, by omega⟩]; omega
          simp only [walk, lists, acts, mem, plain, seqs, maps, cells, resL, resV, intBin, seval, wLive, hx, hx3, e03, e0, sR, hw3]
          refine ite_ge (fun g2 => k.dno s1 fun p => risU_not (k := id) hi2 (by omega) (by simp only [id]; omega) p.2.2.2.2.2.2.2.2.2) fun g2 => ?_
          simp (disch := omega) only [walk, lists, acts, mem, plain, seqs, maps, cells, resL, resV, intBin, seval, wrapI, sR]
          exact next (risU_more hi2 (by omega) hris2 g2)
        · simp (disch := omega) only [walk, lists, acts, mem, plain, seqs, maps, cells, resL, resV, intBin, seval, wrapI, sR]
          exact next (risU_one (by omega) hris2)
      · exact ⟨h, s1, k.yes ⟨hq1.1 rfl, hq2.1 rfl, hq3.1 rfl, hq4.1 rfl, hq5.1 rfl, hp2, hp1, ht, allP_done (by omega) hall2, risU_done (by omega) hris2⟩⟩
end Go.Proofs.YtmfhlkkligcgdaaGreatDoor
end

/- Gates: which are ok, by the reference. -/
section
set_option linter.unusedVariables false
set_option linter.unusedSimpArgs false
set_option maxRecDepth 20000
attribute [local irreducible] Go.Tk.vc Go.Tk.vops Go.Tk.vdr Go.Tk.vop Go.Tk.vfl Go.Tk.HCalls
namespace Go.Proofs.YtmfhlkkligcgdaaGreatDoor
open Go Go.Tk

set_option maxHeartbeats 2000000 in
theorem specGateOk_c {h : H} {g : DGate} {lg lv wy : Value} (r : sGate h g lg lv wy) (hb : bGate g) {R : Ending → H → Prop} (k : Asks R (gateOkP g) h) : HCalls Tryz.prog 29 #[.agg (cGate g lg lv wy).toArray] h R := by
  refine HCalls_ir (args := [.agg (cGate g lg lv wy).toArray]) Tryz.func29 ir29 ?_
  have b1 := hb.lives; have b2 := hb.ways; have b3 := hb.log
  unfold lim at b1 b2 b3
  simp only [walk, lists, acts, mem, plain, seqs, maps, cells, resL, resV, intBin, seval, wGate]
  refine newB_intro (o := blk (cGate g lg lv wy) 34) fun j hj => ?_
  have s1 := Sub.cons (o := blk (cGate g lg lv wy) 34) hj (Sub.refl h)
  have r1 := r.sub s1
  obtain ⟨M, hM⟩ : ∃ M, M = (j, blk (cGate g lg lv wy) 34) :: h := ⟨_, rfl⟩
  have f0 : hcel M j 0 = some (.bool g.up) := by rw [hM]; simp only [walk, lists, acts, mem, plain, seqs, maps, cells, resL, resV, intBin, seval, wGate]
  have f1 : hcel M j 1 = some (.int .i64 g.life) := by rw [hM]; simp only [walk, lists, acts, mem, plain, seqs, maps, cells, resL, resV, intBin, seval, wGate]
  have f2 : hcel M j 2 = some (.int .i64 g.next) := by rw [hM]; simp only [walk, lists, acts, mem, plain, seqs, maps, cells, resL, resV, intBin, seval, wGate]
  have f3 : hcel M j 3 = some lg := by rw [hM]; simp only [walk, lists, acts, mem, plain, seqs, maps, cells, resL, resV, intBin, seval, wGate]
  have f4 : hcel M j 4 = some lv := by rw [hM]; simp only [walk, lists, acts, mem, plain, seqs, maps, cells, resL, resV, intBin, seval, wGate]
  have f5 : hcel M j 5 = some wy := by rw [hM]; simp only [walk, lists, acts, mem, plain, seqs, maps, cells, resL, resV, intBin, seval, wGate]
  have fa : hread M j 0 6 = some (cGate g lg lv wy) := by rw [hM]; simp only [walk, lists, acts, mem, plain, seqs, maps, cells, resL, resV, intBin, seval, wGate]
  rw [← hM] at r1 s1 ⊢
  simp only [walk, lists, acts, mem, plain, seqs, maps, cells, resL, resV, intBin, seval, wGate, f0, f1, f2, f3, f4, f5]
  refine l6In_c fun q1 hq1 => ?_
  cases q1 with
  | false =>
    simp only [walk, lists, acts, mem, plain, seqs, maps, cells, resL, resV, intBin, seval, wGate, f0, f1, f2, f3, f4, f5]
    exact k.dno s1 fun p => not_b hq1 rfl p.1
  | true =>
  simp only [walk, lists, acts, mem, plain, seqs, maps, cells, resL, resV, intBin, seval, wGate, f0, f1, f2, f3, f4, f5]
  refine l6In_c fun q2 hq2 => ?_
  cases q2 with
  | false =>
    simp only [walk, lists, acts, mem, plain, seqs, maps, cells, resL, resV, intBin, seval, wGate, f0, f1, f2, f3, f4, f5]
    exact k.dno s1 fun p => not_b hq2 rfl p.2.1
  | true =>
  simp only [walk, lists, acts, mem, plain, seqs, maps, cells, resL, resV, intBin, seval, wGate, f0, f1, f2, f3, f4, f5]
  refine l22LogOk_c r1.1 (by omega) hb.recs (hq2.1 rfl) fun q3 hq3 => ?_
  cases q3 with
  | false =>
    simp only [walk, lists, acts, mem, plain, seqs, maps, cells, resL, resV, intBin, seval, wGate, f0, f1, f2, f3, f4, f5]
    exact k.dno s1 fun p => not_b hq3 rfl p.2.2.1
  | true =>
  simp only [walk, lists, acts, mem, plain, seqs, maps, cells, resL, resV, intBin, seval, wGate, f0, f1, f2, f3, f4, f5, r1.2.1.len, r1.2.2.len]
  refine ite_lt (fun c1 => k.dno s1 fun p => ?_) fun c1 => ?_
  · have := p.2.2.2.1.1; omega
  cases hup : g.up with
  | false =>
    simp (disch := omega) only [walk, lists, acts, mem, plain, seqs, maps, cells, resL, resV, intBin, seval, wGate, f0, f1, f2, f3, f4, f5, r1.2.1.len, r1.2.2.len, wrapI]
    refine ite_lt (fun c2 => k.dno s1 fun p => ?_) fun c2 => ?_
    · have := p.2.2.2.2.1 hup
      rw [this.1, this.2] at c2; simp at c2
    · have hemp : g.up = false → g.lives = [] ∧ g.ways = [] := fun _ => ⟨List.eq_nil_of_length_eq_zero (by omega), List.eq_nil_of_length_eq_zero (by omega)⟩
      refine vc_loop [3] (fun n vs h' => ∃ i : Nat, vs = [.int .i64 i] ∧ h' = M ∧ i ≤ g.lives.length ∧ n = g.lives.length - i ∧ (∀ x ∈ g.lives.take i, liveP x g.next ∧ (∀ r ∈ g.log, r.stamp ≠ x.stamp) ∧ ∀ r, lastOf g.log x.call.session = some r → r.call.number < x.call.number) ∧ risU (·.stamp) g.lives i ∧
          ∀ q p (hp : p < g.lives.length) (hq : q < p), p < i → (g.lives[q]'(by omega)).call.session ≠ g.lives[p].call.session) g.lives.length rfl ⟨0, rfl, rfl, by omega, by omega, by simp, risU_zero _ _, fun q p hp hq h => absurd h (Nat.not_lt_zero _)⟩ ?_
      rintro n f h' ⟨i, hv, rfl, hi, rfl, hall, hris, hses⟩
      simp only [List.map_cons, List.map_nil, List.cons.injEq, and_true] at hv
      simp only [walk, lists, acts, mem, plain, seqs, maps, cells, resL, resV, intBin, seval, wr, hv, f4, r1.2.1.len]
      refine ite_lt (fun d1 => ?_) fun d1 => ?_
      · have hi2 : i < g.lives.length := by omega
        have zl := zLive_eq
        obtain ⟨b, o, cs, hx, e, a1, a2, rfl, sr⟩ := rs_at r1.2.1 hi2
        have hone := wLive.2.2.2.2.2.2.2.2.2.2.2.2.2.2.2.1 g.lives[i] a1 a2 (rdS.one sr.1) (rRs.one sr.2)
        simp only [walk, lists, acts, mem, plain, seqs, maps, cells, resL, resV, intBin, seval, hx, e, zl, wLive]
        refine newB_intro (o := blk (cLive zLive (.slice none 0 0) (.slice none 0 0)) 82) fun j4 hj4 => ?_
        simp only [walk, lists, acts, mem, plain, seqs, maps, cells, resL, resV, intBin, seval, zl, wLive, hone]
        obtain ⟨B, hB⟩ : ∃ B, B = (j4, blk (cLive g.lives[i] a1 a2) 82) :: h' := ⟨_, rfl⟩
        have sB : Tk.Sub h' B := by rw [hB]; exact Sub.cons hj4 (Sub.refl _)
        have g2' := hcel_sub sB f2
        have g3' := hcel_sub sB f3
        have g4' := hcel_sub sB f4
        have la : hread B j4 0 12 = some (cLive g.lives[i] a1 a2) := by rw [hB]; simp only [walk, lists, acts, mem, plain, seqs, maps, cells, resL, resV, intBin, seval, wLive]
        have l0 : hcel B j4 0 = some (.int .i64 g.lives[i].stamp) := by rw [hB]; simp only [walk, lists, acts, mem, plain, seqs, maps, cells, resL, resV, intBin, seval, wLive]
        have l4 : hcel B j4 4 = some (.int .i64 g.lives[i].call.session) := by rw [hB]; simp only [walk, lists, acts, mem, plain, seqs, maps, cells, resL, resV, intBin, seval, wLive]
        have l5 : hcel B j4 5 = some (.int .i64 g.lives[i].call.number) := by rw [hB]; simp only [walk, lists, acts, mem, plain, seqs, maps, cells, resL, resV, intBin, seval, wLive]
        have rl : rRs B (rLive h') 12 lv g.lives := r1.2.1.subH sB
        have rg : rRs B (rRecord B) 11 lg g.log := (r1.1.subH sB).relImp fun _ _ x => rRecord.sub sB x
        have s2 := s1.trans sB
        have sBB := Sub.refl B
        rw [← hB]
        refine vc_draw _ (Sub.refl _) ?_
        simp only [walk, lists, acts, mem, plain, seqs, maps, cells, resL, resV, intBin, seval, la, g2', g3', g4', l0, l4, l5, sBB]
        have bad : ¬ (liveP g.lives[i] g.next ∧ (∀ r ∈ g.log, r.stamp ≠ g.lives[i].stamp) ∧ ∀ r, lastOf g.log g.lives[i].call.session = some r → r.call.number < g.lives[i].call.number) → ¬ gateOkP g := fun q p => q (p.2.2.2.1.2.1 _ (List.getElem_mem hi2))
        refine l22LiveOk_c (sLive.sub sB sr) (hb.live _ (List.getElem_mem hi2)) (hq2.1 rfl) fun u1 hu1 => ?_
        cases u1 with
        | false =>
          simp only [walk, lists, acts, mem, plain, seqs, maps, cells, resL, resV, intBin, seval, la, g2', g3', g4', l0, l4, l5, sBB]
          exact k.dno s2 (bad fun q => not_b hu1 rfl q.1)
        | true =>
        simp only [walk, lists, acts, mem, plain, seqs, maps, cells, resL, resV, intBin, seval, la, g2', g3', g4', l0, l4, l5, sBB]
        refine ite_lt (fun y1 => ?_) fun y1 => ?_
        · have hi3 : i - 1 < g.lives.length := by omega
          obtain ⟨b3, o3, cs3, hx3, e3, a13, a23, rfl, sr3⟩ := rs_at rl hi3
          have y0 : hcel B b3 o3 = some (.int .i64 g.lives[i - 1].stamp) := by have := hread_c e3 0 rfl; rw [Nat.add_zero] at this; exact this
          have hw3 : IntKind.i64.wrap ((i : Int) - 1) = ((i - 1 : Nat) : Int) := by rw [wrapI _ ⟨by omega, by omega⟩]; omega
          simp only [walk, lists, acts, mem, plain, seqs, maps, cells, resL, resV, intBin, seval, hx3, y0, hw3, la, g2', g3', g4', l0, l4, l5, sBB]
          refine ite_ge (fun y2 => k.dno s2 fun p => risU_not (k := (·.stamp)) hi2 (by omega) (by show ¬ g.lives[i - 1].stamp < g.lives[i].stamp; omega) p.2.2.2.1.2.2.1) fun y2 => ?_
          have hris2 := risU_more hi2 (by omega) hris y2
          try simp only [walk, lists, acts, mem, plain, seqs, maps, cells, resL, resV, intBin, seval, la, g2', g3', g4', l0, l4, l5, sBB]
          refine vc_loop [5] (fun n vs h2 => ∃ p : Nat, vs = [.int .i64 p] ∧ h2 = B ∧ p ≤ g.log.length ∧ n = g.log.length - p ∧ ∀ r ∈ g.log.take p, r.stamp ≠ g.lives[i].stamp) g.log.length rfl ⟨0, rfl, rfl, by omega, by omega, by simp⟩ ?_
          rintro n2 f2 h2 ⟨p, hv2, rfl, hp, rfl, hst⟩
          simp only [List.map_cons, List.map_nil, List.cons.injEq, and_true] at hv2
          simp only [walk, lists, acts, mem, plain, seqs, maps, cells, resL, resV, intBin, seval, wr, hv2, g3', rg.len]
          refine ite_lt (fun e1 => ?_) fun e1 => ?_
          · have hp2 : p < g.log.length := by omega
            obtain ⟨b', o', cs', hx', e', a1', a2', rfl, sr'⟩ := rs_at rg hp2
            have q0 : hcel h2 b' o' = some (.int .i64 g.log[p].stamp) := by have := hread_c e' 0 rfl; rw [Nat.add_zero] at this; exact this
            refine vc_draw _ (Sub.refl _) ?_
            simp only [walk, lists, acts, mem, plain, seqs, maps, cells, resL, resV, intBin, seval, g3', hx', q0, l0, Sub.refl h2]
            refine ite_pos (fun c5 => k.dno s2 (bad fun q => q.2.1 _ (List.getElem_mem hp2) c5)) fun c5 => ?_
            simp (disch := omega) only [wrapI]
            exact ⟨g.log.length - (p + 1), by omega, _, .refl _, p + 1, by simp, rfl, by omega, rfl, fun x hx => by
              rw [List.take_succ_eq_append_getElem hp2] at hx
              rcases List.mem_append.1 hx with hx | hx
              · exact hst x hx
              · rw [List.mem_singleton.1 hx]; exact c5⟩
          · rw [List.take_of_length_le (by omega)] at hst
            refine vc_loop [6] (fun n vs h3 => ∃ p : Nat, vs = [.int .i64 p] ∧ h3 = h2 ∧ p ≤ i ∧ n = i - p ∧ ∀ q (hq : q < p) (hq2 : q < g.lives.length), g.lives[q].call.session ≠ g.lives[i].call.session) i rfl ⟨0, rfl, rfl, by omega, by omega, fun q hq => absurd hq (by omega)⟩ ?_
            rintro n3 f3 h3 ⟨p3, hv3, rfl, hp3, rfl, hss⟩
            simp only [List.map_cons, List.map_nil, List.cons.injEq, and_true] at hv3
            simp only [walk, lists, acts, mem, plain, seqs, maps, cells, resL, resV, intBin, seval, wr, hv3]
            refine ite_lt (fun e2 => ?_) fun e2 => ?_
            · have hp4 : p3 < g.lives.length := by omega
              obtain ⟨b', o', cs', hx', e', a1', a2', rfl, sr'⟩ := rs_at rl hp4
              have q4 : hcel h3 b' (o' + 4) = some (.int .i64 g.lives[p3].call.session) := hread_c e' 4 rfl
              refine vc_draw _ (Sub.refl _) ?_
              simp only [walk, lists, acts, mem, plain, seqs, maps, cells, resL, resV, intBin, seval, g4', hx', q4, l4, Sub.refl h3]
              refine ite_pos (fun c5 => k.dno s2 (fun q => q.2.2.2.1.2.2.2 p3 i hi2 (by omega) c5)) fun c5 => ?_
              simp (disch := omega) only [wrapI]
              exact ⟨i - (p3 + 1), by omega, _, .refl _, p3 + 1, by simp, rfl, by omega, rfl, fun q hq hq2 => by
                by_cases c : q = p3
                · subst c; exact c5
                · exact hss q (by omega) hq2⟩
            · have hpi : p3 = i := by omega
              subst hpi
              simp only [walk, lists, acts, mem, plain, seqs, maps, cells, resL, resV, intBin, seval, g3', l4]
              obtain ⟨d, x1, x2, ok, sd, hlast, hcl⟩ := l22Last_x (s := g.lives[p3].call.session) rg (by omega)
              refine hcl _ ?_
              have zr := zRecord_eq
              simp only [walk, lists, acts, mem, plain, seqs, maps, cells, resL, resV, intBin, seval, zr]
              refine newB_intro (o := blk (cRecord zRecord (.slice none 0 0) (.slice none 0 0)) 86) fun j8 hj8 => ?_
              have hone8 := wRecord.2.2.2.2.2.2.2.2.2.2.2.2.2.2.1 d x1 x2 (rdS.one sd.1) (rdS.one sd.2)
              have s9 : ∀ o, Tk.Sub h3 ((j8, o) :: h3) := fun o => Sub.cons hj8 (Sub.refl _)
              have l5' := hcel_sub (s9 (blk (cRecord d x1 x2) 86)) l5
              have fin : (∀ r, lastOf g.log g.lives[p3].call.session = some r → r.call.number < g.lives[p3].call.number) → ∃ m, m < g.lives.length - p3 ∧ ∃ gg, Tk.Sub gg ((j8, blk (cRecord d x1 x2) 86) :: h3) ∧ ∃ i' : Nat, [Value.int .i64 ((p3 : Int) + 1)] = [Value.int .i64 i'] ∧ gg = h' ∧ i' ≤ g.lives.length ∧ m = g.lives.length - i' ∧ (∀ x ∈ g.lives.take i', liveP x g.next ∧ (∀ r ∈ g.log, r.stamp ≠ x.stamp) ∧ ∀ r, lastOf g.log x.call.session = some r → r.call.number < x.call.number) ∧ risU (·.stamp) g.lives i' ∧
                  ∀ q p (hp : p < g.lives.length) (hq : q < p), p < i' → (g.lives[q]'(by omega)).call.session ≠ g.lives[p].call.session := fun hlst =>
                ⟨g.lives.length - (p3 + 1), by omega, h', sB.trans (s9 _), p3 + 1, by simp, rfl, by omega, rfl, fun x hx => by
                  rw [List.take_succ_eq_append_getElem hi2] at hx
                  rcases List.mem_append.1 hx with hx | hx
                  · exact hall x hx
                  · rw [List.mem_singleton.1 hx]; exact ⟨hu1.1 rfl, hst, hlst⟩, hris2, fun q p hp hq hpi => by
                  by_cases c : p = p3
                  · subst c; exact hss q hq (by omega)
                  · exact hses q p hp hq (by omega)⟩
              have s8 := Sub_new (o := blk (cRecord zRecord (.slice none 0 0) (.slice none 0 0)) 86) hj8
              simp only [walk, lists, acts, mem, plain, seqs, maps, cells, resL, resV, intBin, seval, s8, zr, wRecord, hone8]
              cases ok with
              | false =>
                simp (disch := omega) only [walk, lists, acts, mem, plain, seqs, maps, cells, resL, resV, intBin, seval, wrapI]
                exact fin fun x hx => by rw [hlast] at hx; simp at hx
              | true =>
                simp only [walk, lists, acts, mem, plain, seqs, maps, cells, resL, resV, intBin, seval, l5', wRecord]
                refine ite_ge (fun c7 => k.dno (s2.trans (s9 _)) (bad fun q => ?_)) fun c7 => ?_
                · have := q.2.2 d (by rw [hlast]; rfl)
                  omega
                · simp (disch := omega) only [walk, lists, acts, mem, plain, seqs, maps, cells, resL, resV, intBin, seval, wrapI]
                  refine fin fun x hx => ?_
                  rw [hlast] at hx
                  cases hx
                  omega
        · have hris2 : risU (·.stamp) g.lives (i + 1) := risU_one (by omega) hris
          try simp only [walk, lists, acts, mem, plain, seqs, maps, cells, resL, resV, intBin, seval, la, g2', g3', g4', l0, l4, l5, sBB]
          refine vc_loop [5] (fun n vs h2 => ∃ p : Nat, vs = [.int .i64 p] ∧ h2 = B ∧ p ≤ g.log.length ∧ n = g.log.length - p ∧ ∀ r ∈ g.log.take p, r.stamp ≠ g.lives[i].stamp) g.log.length rfl ⟨0, rfl, rfl, by omega, by omega, by simp⟩ ?_
          rintro n2 f2 h2 ⟨p, hv2, rfl, hp, rfl, hst⟩
          simp only [List.map_cons, List.map_nil, List.cons.injEq, and_true] at hv2
          simp only [walk, lists, acts, mem, plain, seqs, maps, cells, resL, resV, intBin, seval, wr, hv2, g3', rg.len]
          refine ite_lt (fun e1 => ?_) fun e1 => ?_
          · have hp2 : p < g.log.length := by omega
            obtain ⟨b', o', cs', hx', e', a1', a2', rfl, sr'⟩ := rs_at rg hp2
            have q0 : hcel h2 b' o' = some (.int .i64 g.log[p].stamp) := by have := hread_c e' 0 rfl; rw [Nat.add_zero] at this; exact this
            refine vc_draw _ (Sub.refl _) ?_
            simp only [walk, lists, acts, mem, plain, seqs, maps, cells, resL, resV, intBin, seval, g3', hx', q0, l0, Sub.refl h2]
            refine ite_pos (fun c5 => k.dno s2 (bad fun q => q.2.1 _ (List.getElem_mem hp2) c5)) fun c5 => ?_
            simp (disch := omega) only [wrapI]
            exact ⟨g.log.length - (p + 1), by omega, _, .refl _, p + 1, by simp, rfl, by omega, rfl, fun x hx => by
              rw [List.take_succ_eq_append_getElem hp2] at hx
              rcases List.mem_append.1 hx with hx | hx
              · exact hst x hx
              · rw [List.mem_singleton.1 hx]; exact c5⟩
          · rw [List.take_of_length_le (by omega)] at hst
            refine vc_loop [6] (fun n vs h3 => ∃ p : Nat, vs = [.int .i64 p] ∧ h3 = h2 ∧ p ≤ i ∧ n = i - p ∧ ∀ q (hq : q < p) (hq2 : q < g.lives.length), g.lives[q].call.session ≠ g.lives[i].call.session) i rfl ⟨0, rfl, rfl, by omega, by omega, fun q hq => absurd hq (by omega)⟩ ?_
            rintro n3 f3 h3 ⟨p3, hv3, rfl, hp3, rfl, hss⟩
            simp only [List.map_cons, List.map_nil, List.cons.injEq, and_true] at hv3
            simp only [walk, lists, acts, mem, plain, seqs, maps, cells, resL, resV, intBin, seval, wr, hv3]
            refine ite_lt (fun e2 => ?_) fun e2 => ?_
            · have hp4 : p3 < g.lives.length := by omega
              obtain ⟨b', o', cs', hx', e', a1', a2', rfl, sr'⟩ := rs_at rl hp4
              have q4 : hcel h3 b' (o' + 4) = some (.int .i64 g.lives[p3].call.session) := hread_c e' 4 rfl
              refine vc_draw _ (Sub.refl _) ?_
              simp only [walk, lists, acts, mem, plain, seqs, maps, cells, resL, resV, intBin, seval, g4', hx', q4, l4, Sub.refl h3]
              refine ite_pos (fun c5 => k.dno s2 (fun q => q.2.2.2.1.2.2.2 p3 i hi2 (by omega) c5)) fun c5 => ?_
              simp (disch := omega) only [wrapI]
              exact ⟨i - (p3 + 1), by omega, _, .refl _, p3 + 1, by simp, rfl, by omega, rfl, fun q hq hq2 => by
                by_cases c : q = p3
                · subst c; exact c5
                · exact hss q (by omega) hq2⟩
            · have hpi : p3 = i := by omega
              subst hpi
              simp only [walk, lists, acts, mem, plain, seqs, maps, cells, resL, resV, intBin, seval, g3', l4]
              obtain ⟨d, x1, x2, ok, sd, hlast, hcl⟩ := l22Last_x (s := g.lives[p3].call.session) rg (by omega)
              refine hcl _ ?_
              have zr := zRecord_eq
              simp only [walk, lists, acts, mem, plain, seqs, maps, cells, resL, resV, intBin, seval, zr]
              refine newB_intro (o := blk (cRecord zRecord (.slice none 0 0) (.slice none 0 0)) 86) fun j8 hj8 => ?_
              have hone8 := wRecord.2.2.2.2.2.2.2.2.2.2.2.2.2.2.1 d x1 x2 (rdS.one sd.1) (rdS.one sd.2)
              have s9 : ∀ o, Tk.Sub h3 ((j8, o) :: h3) := fun o => Sub.cons hj8 (Sub.refl _)
              have l5' := hcel_sub (s9 (blk (cRecord d x1 x2) 86)) l5
              have fin : (∀ r, lastOf g.log g.lives[p3].call.session = some r → r.call.number < g.lives[p3].call.number) → ∃ m, m < g.lives.length - p3 ∧ ∃ gg, Tk.Sub gg ((j8, blk (cRecord d x1 x2) 86) :: h3) ∧ ∃ i' : Nat, [Value.int .i64 ((p3 : Int) + 1)] = [Value.int .i64 i'] ∧ gg = h' ∧ i' ≤ g.lives.length ∧ m = g.lives.length - i' ∧ (∀ x ∈ g.lives.take i', liveP x g.next ∧ (∀ r ∈ g.log, r.stamp ≠ x.stamp) ∧ ∀ r, lastOf g.log x.call.session = some r → r.call.number < x.call.number) ∧ risU (·.stamp) g.lives i' ∧
                  ∀ q p (hp : p < g.lives.length) (hq : q < p), p < i' → (g.lives[q]'(by omega)).call.session ≠ g.lives[p].call.session := fun hlst =>
                ⟨g.lives.length - (p3 + 1), by omega, h', sB.trans (s9 _), p3 + 1, by simp, rfl, by omega, rfl, fun x hx => by
                  rw [List.take_succ_eq_append_getElem hi2] at hx
                  rcases List.mem_append.1 hx with hx | hx
                  · exact hall x hx
                  · rw [List.mem_singleton.1 hx]; exact ⟨hu1.1 rfl, hst, hlst⟩, hris2, fun q p hp hq hpi => by
                  by_cases c : p = p3
                  · subst c; exact hss q hq (by omega)
                  · exact hses q p hp hq (by omega)⟩
              have s8 := Sub_new (o := blk (cRecord zRecord (.slice none 0 0) (.slice none 0 0)) 86) hj8
              simp only [walk, lists, acts, mem, plain, seqs, maps, cells, resL, resV, intBin, seval, s8, zr, wRecord, hone8]
              cases ok with
              | false =>
                simp (disch := omega) only [walk, lists, acts, mem, plain, seqs, maps, cells, resL, resV, intBin, seval, wrapI]
                exact fin fun x hx => by rw [hlast] at hx; simp at hx
              | true =>
                simp only [walk, lists, acts, mem, plain, seqs, maps, cells, resL, resV, intBin, seval, l5', wRecord]
                refine ite_ge (fun c7 => k.dno (s2.trans (s9 _)) (bad fun q => ?_)) fun c7 => ?_
                · have := q.2.2 d (by rw [hlast]; rfl)
                  omega
                · simp (disch := omega) only [walk, lists, acts, mem, plain, seqs, maps, cells, resL, resV, intBin, seval, wrapI]
                  refine fin fun x hx => ?_
                  rw [hlast] at hx
                  cases hx
                  omega
      · have hil : i = g.lives.length := by omega
        simp only [walk, lists, acts, mem, plain, seqs, maps, cells, resL, resV, intBin, seval, fa]
        refine l22WaysOk_c r1 hb fun u2 hu2 => ?_
        simp only [walk, lists, acts, mem, plain, seqs, maps, cells, resL, resV, intBin, seval]
        refine ⟨h, s1, k u2 (hu2.trans ⟨fun w => ⟨hq1.1 rfl, hq2.1 rfl, hq3.1 rfl, ⟨by omega, ?_, risU_done (by omega) hris, fun q p hp hq => hses q p hp hq (by omega)⟩, hemp, w⟩, fun w => w.2.2.2.2.2⟩)⟩
        rw [List.take_of_length_le (by omega)] at hall
        exact hall
  | true =>
    simp only [walk, lists, acts, mem, plain, seqs, maps, cells, resL, resV, intBin, seval, wGate, f0, f1, f2, f3, f4, f5, r1.2.1.len, r1.2.2.len]
    have hemp : g.up = false → g.lives = [] ∧ g.ways = [] := fun c => (by rw [hup] at c; cases c)
    refine vc_loop [3] (fun n vs h' => ∃ i : Nat, vs = [.int .i64 i] ∧ h' = M ∧ i ≤ g.lives.length ∧ n = g.lives.length - i ∧ (∀ x ∈ g.lives.take i, liveP x g.next ∧ (∀ r ∈ g.log, r.stamp ≠ x.stamp) ∧ ∀ r, lastOf g.log x.call.session = some r → r.call.number < x.call.number) ∧ risU (·.stamp) g.lives i ∧
        ∀ q p (hp : p < g.lives.length) (hq : q < p), p < i → (g.lives[q]'(by omega)).call.session ≠ g.lives[p].call.session) g.lives.length rfl ⟨0, rfl, rfl, by omega, by omega, by simp, risU_zero _ _, fun q p hp hq h => absurd h (Nat.not_lt_zero _)⟩ ?_
    rintro n f h' ⟨i, hv, rfl, hi, rfl, hall, hris, hses⟩
    simp only [List.map_cons, List.map_nil, List.cons.injEq, and_true] at hv
    simp only [walk, lists, acts, mem, plain, seqs, maps, cells, resL, resV, intBin, seval, wr, hv, f4, r1.2.1.len]
    refine ite_lt (fun d1 => ?_) fun d1 => ?_
    · have hi2 : i < g.lives.length := by omega
      have zl := zLive_eq
      obtain ⟨b, o, cs, hx, e, a1, a2, rfl, sr⟩ := rs_at r1.2.1 hi2
      have hone := wLive.2.2.2.2.2.2.2.2.2.2.2.2.2.2.2.1 g.lives[i] a1 a2 (rdS.one sr.1) (rRs.one sr.2)
      simp only [walk, lists, acts, mem, plain, seqs, maps, cells, resL, resV, intBin, seval, hx, e, zl, wLive]
      refine newB_intro (o := blk (cLive zLive (.slice none 0 0) (.slice none 0 0)) 82) fun j4 hj4 => ?_
      simp only [walk, lists, acts, mem, plain, seqs, maps, cells, resL, resV, intBin, seval, zl, wLive, hone]
      obtain ⟨B, hB⟩ : ∃ B, B = (j4, blk (cLive g.lives[i] a1 a2) 82) :: h' := ⟨_, rfl⟩
      have sB : Tk.Sub h' B := by rw [hB]; exact Sub.cons hj4 (Sub.refl _)
      have g2' := hcel_sub sB f2
      have g3' := hcel_sub sB f3
      have g4' := hcel_sub sB f4
      have la : hread B j4 0 12 = some (cLive g.lives[i] a1 a2) := by rw [hB]; simp only [walk, lists, acts, mem, plain, seqs, maps, cells, resL, resV, intBin, seval, wLive]
      have l0 : hcel B j4 0 = some (.int .i64 g.lives[i].stamp) := by rw [hB]; simp only [walk, lists, acts, mem, plain, seqs, maps, cells, resL, resV, intBin, seval, wLive]
      have l4 : hcel B j4 4 = some (.int .i64 g.lives[i].call.session) := by rw [hB]; simp only [walk, lists, acts, mem, plain, seqs, maps, cells, resL, resV, intBin, seval, wLive]
      have l5 : hcel B j4 5 = some (.int .i64 g.lives[i].call.number) := by rw [hB]; simp only [walk, lists, acts, mem, plain, seqs, maps, cells, resL, resV, intBin, seval, wLive]
      have rl : rRs B (rLive h') 12 lv g.lives := r1.2.1.subH sB
      have rg : rRs B (rRecord B) 11 lg g.log := (r1.1.subH sB).relImp fun _ _ x => rRecord.sub sB x
      have s2 := s1.trans sB
      have sBB := Sub.refl B
      rw [← hB]
      refine vc_draw _ (Sub.refl _) ?_
      simp only [walk, lists, acts, mem, plain, seqs, maps, cells, resL, resV, intBin, seval, la, g2', g3', g4', l0, l4, l5, sBB]
      have bad : ¬ (liveP g.lives[i] g.next ∧ (∀ r ∈ g.log, r.stamp ≠ g.lives[i].stamp) ∧ ∀ r, lastOf g.log g.lives[i].call.session = some r → r.call.number < g.lives[i].call.number) → ¬ gateOkP g := fun q p => q (p.2.2.2.1.2.1 _ (List.getElem_mem hi2))
      refine l22LiveOk_c (sLive.sub sB sr) (hb.live _ (List.getElem_mem hi2)) (hq2.1 rfl) fun u1 hu1 => ?_
      cases u1 with
      | false =>
        simp only [walk, lists, acts, mem, plain, seqs, maps, cells, resL, resV, intBin, seval, la, g2', g3', g4', l0, l4, l5, sBB]
        exact k.dno s2 (bad fun q => not_b hu1 rfl q.1)
      | true =>
      simp only [walk, lists, acts, mem, plain, seqs, maps, cells, resL, resV, intBin, seval, la, g2', g3', g4', l0, l4, l5, sBB]
      refine ite_lt (fun y1 => ?_) fun y1 => ?_
      · have hi3 : i - 1 < g.lives.length := by omega
        obtain ⟨b3, o3, cs3, hx3, e3, a13, a23, rfl, sr3⟩ := rs_at rl hi3
        have y0 : hcel B b3 o3 = some (.int .i64 g.lives[i - 1].stamp) := by have := hread_c e3 0 rfl; rw [Nat.add_zero] at this; exact this
        have hw3 : IntKind.i64.wrap ((i : Int) - 1) = ((i - 1 : Nat) : Int) := by rw [wrapI _ ⟨by omega, by omega⟩]; omega
        simp only [walk, lists, acts, mem, plain, seqs, maps, cells, resL, resV, intBin, seval, hx3, y0, hw3, la, g2', g3', g4', l0, l4, l5, sBB]
        refine ite_ge (fun y2 => k.dno s2 fun p => risU_not (k := (·.stamp)) hi2 (by omega) (by show ¬ g.lives[i - 1].stamp < g.lives[i].stamp; omega) p.2.2.2.1.2.2.1) fun y2 => ?_
        have hris2 := risU_more hi2 (by omega) hris y2
        try simp only [walk, lists, acts, mem, plain, seqs, maps, cells, resL, resV, intBin, seval, la, g2', g3', g4', l0, l4, l5, sBB]
        refine vc_loop [5] (fun n vs h2 => ∃ p : Nat, vs = [.int .i64 p] ∧ h2 = B ∧ p ≤ g.log.length ∧ n = g.log.length - p ∧ ∀ r ∈ g.log.take p, r.stamp ≠ g.lives[i].stamp) g.log.length rfl ⟨0, rfl, rfl, by omega, by omega, by simp⟩ ?_
        rintro n2 f2 h2 ⟨p, hv2, rfl, hp, rfl, hst⟩
        simp only [List.map_cons, List.map_nil, List.cons.injEq, and_true] at hv2
        simp only [walk, lists, acts, mem, plain, seqs, maps, cells, resL, resV, intBin, seval, wr, hv2, g3', rg.len]
        refine ite_lt (fun e1 => ?_) fun e1 => ?_
        · have hp2 : p < g.log.length := by omega
          obtain ⟨b', o', cs', hx', e', a1', a2', rfl, sr'⟩ := rs_at rg hp2
          have q0 : hcel h2 b' o' = some (.int .i64 g.log[p].stamp) := by have := hread_c e' 0 rfl; rw [Nat.add_zero] at this; exact this
          refine vc_draw _ (Sub.refl _) ?_
          simp only [walk, lists, acts, mem, plain, seqs, maps, cells, resL, resV, intBin, seval, g3', hx', q0, l0, Sub.refl h2]
          refine ite_pos (fun c5 => k.dno s2 (bad fun q => q.2.1 _ (List.getElem_mem hp2) c5)) fun c5 => ?_
          simp (disch := omega) only [wrapI]
          exact ⟨g.log.length - (p + 1), by omega, _, .refl _, p + 1, by simp, rfl, by omega, rfl, fun x hx => by
            rw [List.take_succ_eq_append_getElem hp2] at hx
            rcases List.mem_append.1 hx with hx | hx
            · exact hst x hx
            · rw [List.mem_singleton.1 hx]; exact c5⟩
        · rw [List.take_of_length_le (by omega)] at hst
          refine vc_loop [6] (fun n vs h3 => ∃ p : Nat, vs = [.int .i64 p] ∧ h3 = h2 ∧ p ≤ i ∧ n = i - p ∧ ∀ q (hq : q < p) (hq2 : q < g.lives.length), g.lives[q].call.session ≠ g.lives[i].call.session) i rfl ⟨0, rfl, rfl, by omega, by omega, fun q hq => absurd hq (by omega)⟩ ?_
          rintro n3 f3 h3 ⟨p3, hv3, rfl, hp3, rfl, hss⟩
          simp only [List.map_cons, List.map_nil, List.cons.injEq, and_true] at hv3
          simp only [walk, lists, acts, mem, plain, seqs, maps, cells, resL, resV, intBin, seval, wr, hv3]
          refine ite_lt (fun e2 => ?_) fun e2 => ?_
          · have hp4 : p3 < g.lives.length := by omega
            obtain ⟨b', o', cs', hx', e', a1', a2', rfl, sr'⟩ := rs_at rl hp4
            have q4 : hcel h3 b' (o' + 4) = some (.int .i64 g.lives[p3].call.session) := hread_c e' 4 rfl
            refine vc_draw _ (Sub.refl _) ?_
            simp only [walk, lists, acts, mem, plain, seqs, maps, cells, resL, resV, intBin, seval, g4', hx', q4, l4, Sub.refl h3]
            refine ite_pos (fun c5 => k.dno s2 (fun q => q.2.2.2.1.2.2.2 p3 i hi2 (by omega) c5)) fun c5 => ?_
            simp (disch := omega) only [wrapI]
            exact ⟨i - (p3 + 1), by omega, _, .refl _, p3 + 1, by simp, rfl, by omega, rfl, fun q hq hq2 => by
              by_cases c : q = p3
              · subst c; exact c5
              · exact hss q (by omega) hq2⟩
          · have hpi : p3 = i := by omega
            subst hpi
            simp only [walk, lists, acts, mem, plain, seqs, maps, cells, resL, resV, intBin, seval, g3', l4]
            obtain ⟨d, x1, x2, ok, sd, hlast, hcl⟩ := l22Last_x (s := g.lives[p3].call.session) rg (by omega)
            refine hcl _ ?_
            have zr := zRecord_eq
            simp only [walk, lists, acts, mem, plain, seqs, maps, cells, resL, resV, intBin, seval, zr]
            refine newB_intro (o := blk (cRecord zRecord (.slice none 0 0) (.slice none 0 0)) 86) fun j8 hj8 => ?_
            have hone8 := wRecord.2.2.2.2.2.2.2.2.2.2.2.2.2.2.1 d x1 x2 (rdS.one sd.1) (rdS.one sd.2)
            have s9 : ∀ o, Tk.Sub h3 ((j8, o) :: h3) := fun o => Sub.cons hj8 (Sub.refl _)
            have l5' := hcel_sub (s9 (blk (cRecord d x1 x2) 86)) l5
            have fin : (∀ r, lastOf g.log g.lives[p3].call.session = some r → r.call.number < g.lives[p3].call.number) → ∃ m, m < g.lives.length - p3 ∧ ∃ gg, Tk.Sub gg ((j8, blk (cRecord d x1 x2) 86) :: h3) ∧ ∃ i' : Nat, [Value.int .i64 ((p3 : Int) + 1)] = [Value.int .i64 i'] ∧ gg = h' ∧ i' ≤ g.lives.length ∧ m = g.lives.length - i' ∧ (∀ x ∈ g.lives.take i', liveP x g.next ∧ (∀ r ∈ g.log, r.stamp ≠ x.stamp) ∧ ∀ r, lastOf g.log x.call.session = some r → r.call.number < x.call.number) ∧ risU (·.stamp) g.lives i' ∧
                ∀ q p (hp : p < g.lives.length) (hq : q < p), p < i' → (g.lives[q]'(by omega)).call.session ≠ g.lives[p].call.session := fun hlst =>
              ⟨g.lives.length - (p3 + 1), by omega, h', sB.trans (s9 _), p3 + 1, by simp, rfl, by omega, rfl, fun x hx => by
                rw [List.take_succ_eq_append_getElem hi2] at hx
                rcases List.mem_append.1 hx with hx | hx
                · exact hall x hx
                · rw [List.mem_singleton.1 hx]; exact ⟨hu1.1 rfl, hst, hlst⟩, hris2, fun q p hp hq hpi => by
                by_cases c : p = p3
                · subst c; exact hss q hq (by omega)
                · exact hses q p hp hq (by omega)⟩
            have s8 := Sub_new (o := blk (cRecord zRecord (.slice none 0 0) (.slice none 0 0)) 86) hj8
            simp only [walk, lists, acts, mem, plain, seqs, maps, cells, resL, resV, intBin, seval, s8, zr, wRecord, hone8]
            cases ok with
            | false =>
              simp (disch := omega) only [walk, lists, acts, mem, plain, seqs, maps, cells, resL, resV, intBin, seval, wrapI]
              exact fin fun x hx => by rw [hlast] at hx; simp at hx
            | true =>
              simp only [walk, lists, acts, mem, plain, seqs, maps, cells, resL, resV, intBin, seval, l5', wRecord]
              refine ite_ge (fun c7 => k.dno (s2.trans (s9 _)) (bad fun q => ?_)) fun c7 => ?_
              · have := q.2.2 d (by rw [hlast]; rfl)
                omega
              · simp (disch := omega) only [walk, lists, acts, mem, plain, seqs, maps, cells, resL, resV, intBin, seval, wrapI]
                refine fin fun x hx => ?_
                rw [hlast] at hx
                cases hx
                omega
      · have hris2 : risU (·.stamp) g.lives (i + 1) := risU_one (by omega) hris
        try simp only [walk, lists, acts, mem, plain, seqs, maps, cells, resL, resV, intBin, seval, la, g2', g3', g4', l0, l4, l5, sBB]
        refine vc_loop [5] (fun n vs h2 => ∃ p : Nat, vs = [.int .i64 p] ∧ h2 = B ∧ p ≤ g.log.length ∧ n = g.log.length - p ∧ ∀ r ∈ g.log.take p, r.stamp ≠ g.lives[i].stamp) g.log.length rfl ⟨0, rfl, rfl, by omega, by omega, by simp⟩ ?_
        rintro n2 f2 h2 ⟨p, hv2, rfl, hp, rfl, hst⟩
        simp only [List.map_cons, List.map_nil, List.cons.injEq, and_true] at hv2
        simp only [walk, lists, acts, mem, plain, seqs, maps, cells, resL, resV, intBin, seval, wr, hv2, g3', rg.len]
        refine ite_lt (fun e1 => ?_) fun e1 => ?_
        · have hp2 : p < g.log.length := by omega
          obtain ⟨b', o', cs', hx', e', a1', a2', rfl, sr'⟩ := rs_at rg hp2
          have q0 : hcel h2 b' o' = some (.int .i64 g.log[p].stamp) := by have := hread_c e' 0 rfl; rw [Nat.add_zero] at this; exact this
          refine vc_draw _ (Sub.refl _) ?_
          simp only [walk, lists, acts, mem, plain, seqs, maps, cells, resL, resV, intBin, seval, g3', hx', q0, l0, Sub.refl h2]
          refine ite_pos (fun c5 => k.dno s2 (bad fun q => q.2.1 _ (List.getElem_mem hp2) c5)) fun c5 => ?_
          simp (disch := omega) only [wrapI]
          exact ⟨g.log.length - (p + 1), by omega, _, .refl _, p + 1, by simp, rfl, by omega, rfl, fun x hx => by
            rw [List.take_succ_eq_append_getElem hp2] at hx
            rcases List.mem_append.1 hx with hx | hx
            · exact hst x hx
            · rw [List.mem_singleton.1 hx]; exact c5⟩
        · rw [List.take_of_length_le (by omega)] at hst
          refine vc_loop [6] (fun n vs h3 => ∃ p : Nat, vs = [.int .i64 p] ∧ h3 = h2 ∧ p ≤ i ∧ n = i - p ∧ ∀ q (hq : q < p) (hq2 : q < g.lives.length), g.lives[q].call.session ≠ g.lives[i].call.session) i rfl ⟨0, rfl, rfl, by omega, by omega, fun q hq => absurd hq (by omega)⟩ ?_
          rintro n3 f3 h3 ⟨p3, hv3, rfl, hp3, rfl, hss⟩
          simp only [List.map_cons, List.map_nil, List.cons.injEq, and_true] at hv3
          simp only [walk, lists, acts, mem, plain, seqs, maps, cells, resL, resV, intBin, seval, wr, hv3]
          refine ite_lt (fun e2 => ?_) fun e2 => ?_
          · have hp4 : p3 < g.lives.length := by omega
            obtain ⟨b', o', cs', hx', e', a1', a2', rfl, sr'⟩ := rs_at rl hp4
            have q4 : hcel h3 b' (o' + 4) = some (.int .i64 g.lives[p3].call.session) := hread_c e' 4 rfl
            refine vc_draw _ (Sub.refl _) ?_
            simp only [walk, lists, acts, mem, plain, seqs, maps, cells, resL, resV, intBin, seval, g4', hx', q4, l4, Sub.refl h3]
            refine ite_pos (fun c5 => k.dno s2 (fun q => q.2.2.2.1.2.2.2 p3 i hi2 (by omega) c5)) fun c5 => ?_
            simp (disch := omega) only [wrapI]
            exact ⟨i - (p3 + 1), by omega, _, .refl _, p3 + 1, by simp, rfl, by omega, rfl, fun q hq hq2 => by
              by_cases c : q = p3
              · subst c; exact c5
              · exact hss q (by omega) hq2⟩
          · have hpi : p3 = i := by omega
            subst hpi
            simp only [walk, lists, acts, mem, plain, seqs, maps, cells, resL, resV, intBin, seval, g3', l4]
            obtain ⟨d, x1, x2, ok, sd, hlast, hcl⟩ := l22Last_x (s := g.lives[p3].call.session) rg (by omega)
            refine hcl _ ?_
            have zr := zRecord_eq
            simp only [walk, lists, acts, mem, plain, seqs, maps, cells, resL, resV, intBin, seval, zr]
            refine newB_intro (o := blk (cRecord zRecord (.slice none 0 0) (.slice none 0 0)) 86) fun j8 hj8 => ?_
            have hone8 := wRecord.2.2.2.2.2.2.2.2.2.2.2.2.2.2.1 d x1 x2 (rdS.one sd.1) (rdS.one sd.2)
            have s9 : ∀ o, Tk.Sub h3 ((j8, o) :: h3) := fun o => Sub.cons hj8 (Sub.refl _)
            have l5' := hcel_sub (s9 (blk (cRecord d x1 x2) 86)) l5
            have fin : (∀ r, lastOf g.log g.lives[p3].call.session = some r → r.call.number < g.lives[p3].call.number) → ∃ m, m < g.lives.length - p3 ∧ ∃ gg, Tk.Sub gg ((j8, blk (cRecord d x1 x2) 86) :: h3) ∧ ∃ i' : Nat, [Value.int .i64 ((p3 : Int) + 1)] = [Value.int .i64 i'] ∧ gg = h' ∧ i' ≤ g.lives.length ∧ m = g.lives.length - i' ∧ (∀ x ∈ g.lives.take i', liveP x g.next ∧ (∀ r ∈ g.log, r.stamp ≠ x.stamp) ∧ ∀ r, lastOf g.log x.call.session = some r → r.call.number < x.call.number) ∧ risU (·.stamp) g.lives i' ∧
                ∀ q p (hp : p < g.lives.length) (hq : q < p), p < i' → (g.lives[q]'(by omega)).call.session ≠ g.lives[p].call.session := fun hlst =>
              ⟨g.lives.length - (p3 + 1), by omega, h', sB.trans (s9 _), p3 + 1, by simp, rfl, by omega, rfl, fun x hx => by
                rw [List.take_succ_eq_append_getElem hi2] at hx
                rcases List.mem_append.1 hx with hx | hx
                · exact hall x hx
                · rw [List.mem_singleton.1 hx]; exact ⟨hu1.1 rfl, hst, hlst⟩, hris2, fun q p hp hq hpi => by
                by_cases c : p = p3
                · subst c; exact hss q hq (by omega)
                · exact hses q p hp hq (by omega)⟩
            have s8 := Sub_new (o := blk (cRecord zRecord (.slice none 0 0) (.slice none 0 0)) 86) hj8
            simp only [walk, lists, acts, mem, plain, seqs, maps, cells, resL, resV, intBin, seval, s8, zr, wRecord, hone8]
            cases ok with
            | false =>
              simp (disch := omega) only [walk, lists, acts, mem, plain, seqs, maps, cells, resL, resV, intBin, seval, wrapI]
              exact fin fun x hx => by rw [hlast] at hx; simp at hx
            | true =>
              simp only [walk, lists, acts, mem, plain, seqs, maps, cells, resL, resV, intBin, seval, l5', wRecord]
              refine ite_ge (fun c7 => k.dno (s2.trans (s9 _)) (bad fun q => ?_)) fun c7 => ?_
              · have := q.2.2 d (by rw [hlast]; rfl)
                omega
              · simp (disch := omega) only [walk, lists, acts, mem, plain, seqs, maps, cells, resL, resV, intBin, seval, wrapI]
                refine fin fun x hx => ?_
                rw [hlast] at hx
                cases hx
                omega
    · have hil : i = g.lives.length := by omega
      simp only [walk, lists, acts, mem, plain, seqs, maps, cells, resL, resV, intBin, seval, fa]
      refine l22WaysOk_c r1 hb fun u2 hu2 => ?_
      simp only [walk, lists, acts, mem, plain, seqs, maps, cells, resL, resV, intBin, seval]
      refine ⟨h, s1, k u2 (hu2.trans ⟨fun w => ⟨hq1.1 rfl, hq2.1 rfl, hq3.1 rfl, ⟨by omega, ?_, risU_done (by omega) hris, fun q p hp hq => hses q p hp hq (by omega)⟩, hemp, w⟩, fun w => w.2.2.2.2.2⟩)⟩
      rw [List.take_of_length_le (by omega)] at hall
      exact hall
end Go.Proofs.YtmfhlkkligcgdaaGreatDoor
end

/- Gates: their calls and their map, by both. -/
section
set_option linter.unusedVariables false
set_option linter.unusedSimpArgs false
set_option maxRecDepth 20000
attribute [local irreducible] Go.Tk.vc Go.Tk.vops Go.Tk.vdr Go.Tk.vop Go.Tk.vfl Go.Tk.HCalls
namespace Go.Proofs.YtmfhlkkligcgdaaGreatDoor
open Go Go.Tk

end Go.Proofs.YtmfhlkkligcgdaaGreatDoor
end

/- Gates, how great they are. -/
section
set_option linter.unusedVariables false
set_option linter.unusedSimpArgs false
set_option maxRecDepth 20000
attribute [local irreducible] Go.Tk.vc Go.Tk.vops Go.Tk.vdr Go.Tk.vop Go.Tk.vfl Go.Tk.HCalls
namespace Go.Tk
open Go
theorem cnRec_le (r : DRecord) : cnRec r ≤ 9 + 2 * szRec r := by unfold cnRec szRec; omega
theorem cnTold_le (t : DTold) : cnTold t ≤ 1 + 2 * szTold t := by unfold cnTold szTold; omega
theorem cnLive_le (x : DLive) : cnLive x ≤ 10 + 2 * szLive x := by
  have := sumL_le (cnt := cnTold) (f := szTold) (l := x.told) (c := 1) (d := 2) fun t _ => cnTold_le t
  unfold cnLive szLive; omega
theorem cnGate_of {g : DGate} (h : szGateN g ≤ 1048576) : cnGate g ≤ 16777216 := by
  have h1 := sumL_le (cnt := cnRec) (f := szRec) (l := g.log) (c := 9) (d := 2) fun t _ => cnRec_le t
  have h2 := sumL_le (cnt := cnLive) (f := szLive) (l := g.lives) (c := 10) (d := 2) fun t _ => cnLive_le t
  unfold szGateN at h; unfold cnGate; omega
theorem bGate_of {g : DGate} (h : szGateN g ≤ 1048576) : bGate g := by
  unfold szGateN at h
  refine ⟨by unfold lim; omega, fun r hr => ?_, by unfold lim; omega, fun x hx => ?_, by unfold lim; omega⟩
  · have := sumL_mem szRec hr
    have h3 : szRec r ≤ 1048576 := by omega
    unfold szRec at h3
    exact ⟨by unfold lim; omega, by unfold lim; omega, by unfold bCall lim; omega⟩
  · have := sumL_mem szLive hx
    have h2 : szLive x ≤ 1048576 := by omega
    unfold szLive at h2
    refine ⟨by unfold lim; omega, by unfold lim; omega, fun t ht => ?_, by unfold bCall lim; omega⟩
    have := sumL_mem szTold ht
    have h3 : szTold t ≤ 1048576 := by omega
    unfold szTold at h3
    unfold bTold lim; omega
theorem rise_sz {g : DGate} (h : szGateN g ≤ 1048576) : szGateN (gateRise g) ≤ 1048576 := by
  unfold szGateN at *
  unfold gateRise
  split
  · split <;> exact h
  · simp [zGate, sumL]
theorem gateRise_b {g : DGate} (_ : bGate g) (h : szGateN g ≤ 1048576) : bGate (gateRise g) := bGate_of (rise_sz h)
theorem gateRise_cn {g : DGate} (_ : bGate g) (h : szGateN g ≤ 1048576) : cnGate (gateRise g) ≤ 16777216 := cnGate_of (rise_sz h)
end Go.Tk
namespace Go.Proofs.YtmfhlkkligcgdaaGreatDoor
open Go Go.Tk

theorem WGate.one {M : H} {d e : DGate} {a b c : Value} {S : Nat → Prop} (w : WGate M d a b c S) : (cGate e a b c).all vone = true := by
  obtain ⟨S1, S2, S3, w1, w2, w3, _⟩ := w
  simp only [cGate, List.all_cons, List.all_nil, w1.one, w2.one, w3.one]; rfl

end Go.Proofs.YtmfhlkkligcgdaaGreatDoor
end

/- What comes in for a law, as data: gates. -/
section
set_option linter.unusedVariables false
set_option linter.unusedSimpArgs false
namespace Go.Proofs.YtmfhlkkligcgdaaGreatDoor
open Go Go.Tk

theorem cells_bool : Tryz.prog.cellsOf 4 = 1 := by kernel_rfl
theorem cells_lPair : Tryz.prog.cellsOf 151 = 2 := by kernel_rfl
theorem cells_lRecord : Tryz.prog.cellsOf 73 = 11 := by kernel_rfl
theorem cells_lTold : Tryz.prog.cellsOf 146 = 2 := by kernel_rfl
theorem cells_lLive : Tryz.prog.cellsOf 77 = 12 := by kernel_rfl
theorem cells_lWay : Tryz.prog.cellsOf 94 = 2 := by kernel_rfl
section
variable {X : Type} {enc : TypeId × Value → X} {w : World} {base : Nat} {sp : Nat → Bool} {held : Bool}
theorem in_bool {m : Nat} {c : Value} {y : DataW X × List MemPlace} (h : DataW.trod enc Tryz.prog w base sp held m 4 [c] = some y) : ∃ b, c = .bool b := by
  obtain ⟨b, e, _⟩ := DataW.trod_bool Tryz.underlying4 h
  exact ⟨b, by simpa using e⟩
theorem in_pair {m : Nat} {cs : List Value} {y : DataW X × List MemPlace} (hl : cs.length = 2) (h : DataW.trod enc Tryz.prog w base sp held m 151 cs = some y) : ∃ p : Int × Int, cs = eP p ∧ True := by
  match cs, hl with
  | [c0, c1], _ =>
    obtain ⟨_, _, h0⟩ := field_at Tryz.underlying151 h 0 0 1 (ty := 3) rfl cells_int rfl
    obtain ⟨_, _, h1⟩ := field_at Tryz.underlying151 h 1 1 1 (ty := 3) rfl cells_int rfl
    obtain ⟨n0, rfl, _⟩ := in_int h0
    obtain ⟨n1, rfl, _⟩ := in_int h1
    exact ⟨(n0, n1), rfl, trivial⟩
theorem in_ints {m : Nat} {c : Value} {y : DataW X × List MemPlace} (h : DataW.trod enc Tryz.prog w base sp held m 41 [c] = some y) : ∃ l : List Int, rIn (full w) eI 1 c l ∧ l.length ≤ maxLen := by
  obtain ⟨a, len, cap, rfl⟩ := slice_val Tryz.underlying41 h
  obtain ⟨l, h1, h2, _⟩ := slice_in (encA := eI) (ok := fun _ => True) Tryz.underlying41 cells_int (by decide) h fun cs m y hl ht => by
    match cs, hl with
    | [c0], _ => obtain ⟨n, rfl, _⟩ := in_int ht; exact ⟨n, rfl, trivial⟩
  exact ⟨l, h1, h2⟩
theorem in_pairs {m : Nat} {c : Value} {y : DataW X × List MemPlace} (h : DataW.trod enc Tryz.prog w base sp held m 71 [c] = some y) : ∃ l : List (Int × Int), rIn (full w) eP 2 c l ∧ l.length ≤ maxLen := by
  obtain ⟨a, len, cap, rfl⟩ := slice_val Tryz.underlying71 h
  obtain ⟨l, h1, h2, _⟩ := slice_in (encA := eP) (ok := fun _ => True) Tryz.underlying71 cells_lPair (by decide) h fun cs m y hl ht => in_pair hl ht
  exact ⟨l, h1, h2⟩
theorem maxB {n : Nat} (h : n ≤ maxLen) : n ≤ 9223372036854775807 := Nat.le_trans h (by decide)
theorem in_record {m : Nat} {cs : List Value} {y : DataW X × List MemPlace} (hl : cs.length = 11) (h : DataW.trod enc Tryz.prog w base sp held m 73 cs = some y) : ∃ d : DRecord, nRecord (full w) cs d ∧ uRecord d := by
  match cs, hl with
  | [c0, c1, c2, c3, c4, c5, c6, c7, c8, c9, c10], _ =>
    obtain ⟨_, _, h0⟩ := field_at Tryz.underlying73 h 0 0 1 (ty := 3) rfl cells_int rfl
    obtain ⟨_, _, h1⟩ := field_at Tryz.underlying73 h 1 1 1 (ty := 3) rfl cells_int rfl
    obtain ⟨_, _, h2⟩ := field_at Tryz.underlying73 h 2 2 6 (ty := 70) rfl cells_lCall rfl
    obtain ⟨_, _, h3⟩ := field_at Tryz.underlying73 h 3 8 1 (ty := 3) rfl cells_int rfl
    obtain ⟨_, _, h4⟩ := field_at Tryz.underlying73 h 4 9 1 (ty := 41) rfl (by kernel_rfl) rfl
    obtain ⟨_, _, h5⟩ := field_at Tryz.underlying73 h 5 10 1 (ty := 71) rfl (by kernel_rfl) rfl
    obtain ⟨n0, rfl, _⟩ := in_int h0
    obtain ⟨n1, rfl, _⟩ := in_int h1
    obtain ⟨c, hc, _, _, _, _, _, ht⟩ := in_call rfl h2
    obtain ⟨n3, rfl, _⟩ := in_int h3
    obtain ⟨l4, r4, b4⟩ := in_ints h4
    obtain ⟨l5, r5, b5⟩ := in_pairs h5
    simp only [cCall, List.cons.injEq, and_true] at hc
    obtain ⟨rfl, rfl, rfl, rfl, rfl, rfl⟩ := hc
    exact ⟨⟨n0, n1, c, n3, l4, l5⟩, ⟨_, _, rfl, r4, r5⟩, maxB ht, maxB b4, maxB b5⟩
theorem in_told {m : Nat} {cs : List Value} {y : DataW X × List MemPlace} (hl : cs.length = 2) (h : DataW.trod enc Tryz.prog w base sp held m 146 cs = some y) : ∃ d : DTold, nTold (full w) cs d ∧ uTold d := by
  match cs, hl with
  | [c0, c1], _ =>
    obtain ⟨_, _, h0⟩ := field_at Tryz.underlying146 h 0 0 1 (ty := 3) rfl cells_int rfl
    obtain ⟨_, _, h1⟩ := field_at Tryz.underlying146 h 1 1 1 (ty := 71) rfl (by kernel_rfl) rfl
    obtain ⟨n0, rfl, _⟩ := in_int h0
    obtain ⟨l1, r1, b1⟩ := in_pairs h1
    exact ⟨⟨n0, l1⟩, ⟨_, rfl, r1⟩, maxB b1⟩
theorem in_tolds {m : Nat} {c : Value} {y : DataW X × List MemPlace} (h : DataW.trod enc Tryz.prog w base sp held m 75 [c] = some y) : ∃ l : List DTold, rIRs (full w) (nTold (full w)) 2 c l ∧ l.length ≤ maxLen ∧ ∀ t ∈ l, uTold t := by
  obtain ⟨a, len, cap, rfl⟩ := slice_val Tryz.underlying75 h
  exact slice_rel Tryz.underlying75 cells_lTold (by decide) h fun cs m y hl ht => in_told hl ht
theorem in_live {m : Nat} {cs : List Value} {y : DataW X × List MemPlace} (hl : cs.length = 12) (h : DataW.trod enc Tryz.prog w base sp held m 77 cs = some y) : ∃ d : DLive, nLive (full w) cs d ∧ uLive d := by
  match cs, hl with
  | [c0, c1, c2, c3, c4, c5, c6, c7, c8, c9, c10, c11], _ =>
    obtain ⟨_, _, h0⟩ := field_at Tryz.underlying77 h 0 0 1 (ty := 3) rfl cells_int rfl
    obtain ⟨_, _, h1⟩ := field_at Tryz.underlying77 h 1 1 1 (ty := 3) rfl cells_int rfl
    obtain ⟨_, _, h2⟩ := field_at Tryz.underlying77 h 2 2 1 (ty := 3) rfl cells_int rfl
    obtain ⟨_, _, h3⟩ := field_at Tryz.underlying77 h 3 3 1 (ty := 3) rfl cells_int rfl
    obtain ⟨_, _, h4⟩ := field_at Tryz.underlying77 h 4 4 6 (ty := 70) rfl cells_lCall rfl
    obtain ⟨_, _, h5⟩ := field_at Tryz.underlying77 h 5 10 1 (ty := 41) rfl (by kernel_rfl) rfl
    obtain ⟨_, _, h6⟩ := field_at Tryz.underlying77 h 6 11 1 (ty := 75) rfl (by kernel_rfl) rfl
    obtain ⟨n0, rfl, _⟩ := in_int h0
    obtain ⟨n1, rfl, _⟩ := in_int h1
    obtain ⟨n2, rfl, _⟩ := in_int h2
    obtain ⟨n3, rfl, _⟩ := in_int h3
    obtain ⟨c, hc, _, _, _, _, _, ht⟩ := in_call rfl h4
    obtain ⟨l5, r5, b5⟩ := in_ints h5
    obtain ⟨l6, r6, b6, u6⟩ := in_tolds h6
    simp only [cCall, List.cons.injEq, and_true] at hc
    obtain ⟨rfl, rfl, rfl, rfl, rfl, rfl⟩ := hc
    exact ⟨⟨n0, n1, n2, n3, c, l5, l6⟩, ⟨_, _, rfl, r5, r6⟩, maxB ht, maxB b5, maxB b6, u6⟩
theorem in_way {m : Nat} {cs : List Value} {y : DataW X × List MemPlace} (hl : cs.length = 2) (h : DataW.trod enc Tryz.prog w base sp held m 94 cs = some y) : ∃ d : DWay, cs = cWay d ∧ True := by
  match cs, hl with
  | [c0, c1], _ =>
    obtain ⟨_, _, h0⟩ := field_at Tryz.underlying94 h 0 0 1 (ty := 3) rfl cells_int rfl
    obtain ⟨_, _, h1⟩ := field_at Tryz.underlying94 h 1 1 1 (ty := 3) rfl cells_int rfl
    obtain ⟨n0, rfl, _⟩ := in_int h0
    obtain ⟨n1, rfl, _⟩ := in_int h1
    exact ⟨⟨n0, n1⟩, rfl, trivial⟩
theorem in_gate {m : Nat} {cs : List Value} {y : DataW X × List MemPlace} (hl : cs.length = 6) (h : DataW.trod enc Tryz.prog w base sp held m 26 cs = some y) : ∃ (d : DGate) (v1 v2 v3 : Value), cs = cGate d v1 v2 v3 ∧ nGate (full w) d v1 v2 v3 ∧ uGate d := by
  match cs, hl with
  | [c0, c1, c2, c3, c4, c5], _ =>
    obtain ⟨_, _, h0⟩ := field_at Tryz.underlying26 h 0 0 1 (ty := 4) rfl cells_bool rfl
    obtain ⟨_, _, h1⟩ := field_at Tryz.underlying26 h 1 1 1 (ty := 3) rfl cells_int rfl
    obtain ⟨_, _, h2⟩ := field_at Tryz.underlying26 h 2 2 1 (ty := 3) rfl cells_int rfl
    obtain ⟨_, _, h3⟩ := field_at Tryz.underlying26 h 3 3 1 (ty := 22) rfl (by kernel_rfl) rfl
    obtain ⟨_, _, h4⟩ := field_at Tryz.underlying26 h 4 4 1 (ty := 23) rfl (by kernel_rfl) rfl
    obtain ⟨_, _, h5⟩ := field_at Tryz.underlying26 h 5 5 1 (ty := 24) rfl (by kernel_rfl) rfl
    obtain ⟨b0, rfl⟩ := in_bool h0
    obtain ⟨n1, rfl, _⟩ := in_int h1
    obtain ⟨n2, rfl, _⟩ := in_int h2
    obtain ⟨a3, len3, cap3, rfl⟩ := slice_val Tryz.underlying22 h3
    obtain ⟨l3, r3, m3, u3⟩ := slice_rel (rel := nRecord (full w)) Tryz.underlying22 cells_lRecord (by decide) h3 fun cs m y hl ht => in_record hl ht
    obtain ⟨a4, len4, cap4, rfl⟩ := slice_val Tryz.underlying23 h4
    obtain ⟨l4, r4, m4, u4⟩ := slice_rel (rel := nLive (full w)) Tryz.underlying23 cells_lLive (by decide) h4 fun cs m y hl ht => in_live hl ht
    obtain ⟨a5, len5, cap5, rfl⟩ := slice_val Tryz.underlying24 h5
    obtain ⟨l5, r5, m5, _⟩ := slice_in (encA := cWay) (ok := fun _ => True) Tryz.underlying24 cells_lWay (by decide) h5 fun cs m y hl ht => in_way hl ht
    exact ⟨⟨b0, n1, n2, l3, l4, l5⟩, _, _, _, rfl, ⟨r3, r4, r5⟩, maxB m3, u3, maxB m4, u4, maxB m5⟩
end
end Go.Proofs.YtmfhlkkligcgdaaGreatDoor
end
