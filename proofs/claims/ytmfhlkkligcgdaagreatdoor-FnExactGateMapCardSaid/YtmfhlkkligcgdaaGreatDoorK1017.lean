/- Parts of the proof, put together: Y3, Y1, V0, V1, V2, V3. -/
import Derived.Shelf.Vars
import Derived.Test.YtmfhlkkligcgdaaGreatDoorK1013
import Derived.Test.YtmfhlkkligcgdaaGreatDoorK1014
import Derived.Test.YtmfhlkkligcgdaaGreatDoorK105
import Derived.Test.YtmfhlkkligcgdaaGreatDoorK106
/- Maps: both. -/
section
set_option linter.unusedVariables false
set_option linter.unusedSimpArgs false
set_option maxRecDepth 20000
attribute [local irreducible] Go.Tk.vc Go.Tk.vops Go.Tk.vdr Go.Tk.vop Go.Tk.vfl Go.Tk.HCalls
namespace Go.Tk
open Go
def mapN (n : Nat) : List Int := (List.range n).map fun (i : Nat) => (i : Int).tmod 3
theorem mapN_more (n : Nat) : mapN (n + 1) = mapN n ++ [(n : Int).tmod 3] := by simp [mapN, List.range_succ]
theorem mapN_set {i : Nat} (h : i < 8) : (mapN i ++ List.replicate (8 - i) 0).set i ((i % 3 : Nat) : Int) = mapN (i + 1) ++ List.replicate (8 - (i + 1)) 0 := by
  rw [List.set_append_right _ _ (by simp [mapN]), mapN_more]
  obtain ⟨n, hn⟩ : ∃ n, 8 - i = n + 1 := ⟨8 - i - 1, by omega⟩
  have : 8 - (i + 1) = n := by omega
  rw [hn, this, List.replicate_succ]
  simp [mapN]
  rfl
theorem mapN_len (n : Nat) : (mapN n).length = n := by simp [mapN]
theorem map0_eq : map0 = ⟨1, mapN 8⟩ := rfl
end Go.Tk
namespace Go.Proofs.YtmfhlkkligcgdaaGreatDoor
open Go Go.Tk

theorem specMapStart_c {h : H} {R : Ending → H → Prop} (k : ∀ ow g, oLs 3 eI 1 ow map0.owners g → Dj g h → R (.returned (.agg (cMap map0 ow).toArray)) (g ++ h)) : HCalls Tryz.prog 74 #[] h R := by
  refine HCalls_ir (args := []) Tryz.func74 ir74 ?_
  have zm := zMap_eq
  simp only [walk, lists, acts, mem, plain, seqs, maps, cells, resL, resV, intBin, seval, zm]
  refine newB_intro (o := blk (cMap zMap (.slice none 0 0)) 43) fun j0 hj0 => ?_
  simp only [walk, lists, acts, mem, plain, seqs, maps, cells, resL, resV, intBin, seval, wMap, zm]
  refine newB_intro (o := blk (cMap zMap (.slice none 0 0)) 43) fun j1 hj1 => ?_
  have n1 := hj1
  simp only [subs] at n1
  have e1 : ¬ j0 = j1 := fun e => n1.1 e.symm
  have s01 : ∀ v : Value, Tk.Sub h ((j1, blk (cMap ⟨1, []⟩ v) 43) :: (j0, blk (cMap zMap (.slice none 0 0)) 43) :: h) := fun v => by (repeat' first | exact Sub.refl _ | exact Sub.nil _ | assumption | refine Sub.both ?_ ?_ | refine Sub.cons_of (by simp only [subs, n1, hj0]) ?_ | exact Sub.left _ _ | refine Sub.app (by simp only [subs, n1, hj0]) ?_ | refine Sub.cons (by simp only [subs, n1, hj0]) ?_)
  have zb : ∀ v : Value, [Value.int .i64 1, v] = cMap ⟨1, []⟩ v := fun _ => rfl
  simp only [walk, lists, acts, mem, plain, seqs, maps, cells, resL, resV, intBin, seval, wMap, zm, zb, e1]
  refine vc_loopS (g0 := ([] ++ ((j1, blk (cMap ⟨1, []⟩ (.slice none 0 0)) 43) :: (j0, blk (cMap zMap (.slice none 0 0)) 43) :: h))) [2] (fun n vs h' => ∃ (i : Nat) (v' : Value) (G : H), vs = [.int .i64 i] ∧ h' = G ++ ((j1, blk (cMap ⟨1, []⟩ v') 43) :: (j0, blk (cMap zMap (.slice none 0 0)) 43) :: h) ∧
      Dj G ((j1, blk (cMap ⟨1, []⟩ (.slice none 0 0)) 43) :: (j0, blk (cMap zMap (.slice none 0 0)) 43) :: h) ∧ oLs 3 eI 1 v' (mapN i) G ∧ i ≤ 8 ∧ n = 8 - i) 8 rfl (Sub.refl _)
    ⟨0, .slice none 0 0, [], rfl, rfl, Dj.nil _, oLs_nil, by omega, rfl⟩ ?_
  rintro n f h' ⟨i, v', G, hv, rfl, dG, oG, hi, rfl⟩
  simp only [List.map_cons, List.map_nil, List.cons.injEq, and_true] at hv
  have nG := dG
  simp only [subs] at nG
  simp only [walk, lists, acts, mem, plain, seqs, maps, cells, resL, resV, intBin, seval, wr, hv, wMap, nG, apps]
  refine ite_lt (fun c => ?_) fun c => ?_
  · rw [show (i : Int).tmod 3 = ((i % 3 : Nat) : Int) from rfl]
    refine newB_intro (o := blk (fl eI [((i % 3 : Nat) : Int)]) 3) fun j5 hj5 => ?_
    have n5 := hj5
    simp only [subs] at n5
    have e51 : ¬ j1 = j5 := fun e => n5.2.1 e.symm
    simp only [walk, lists, acts, mem, plain, seqs, maps, cells, resL, resV, intBin, seval, wMap, nG, apps, e51]
    refine app_leaf (g := G) (h := (j1, blk (cMap ⟨1, []⟩ v') 43) :: (j0, blk (cMap zMap (.slice none 0 0)) 43) :: h) eI_len eI_one tInts iInt (Sub.cons hj5 (Sub.refl _)) (by simp only [subs, nG]) oG (rI_lit (e := 3) [((i % 3 : Nat) : Int)]) (by rw [mapN_len]; simp; omega) (by rw [mapN_len]; simp; omega) fun v2 g2 o2 d2 => ?_
    have n2 := d2
    simp only [subs] at n2
    have ov := rdS.one o2.rd
    have vc2 := vc1 ov
    simp only [walk, lists, acts, mem, plain, seqs, maps, cells, resL, resV, intBin, seval, wMap, n2, apps, ov, vc2]
    simp (disch := omega) only [walk, lists, acts, mem, plain, seqs, maps, cells, resL, resV, intBin, seval, wrapI]
    refine ⟨8 - (i + 1), by omega, _, .refl _, i + 1, v2, g2, by simp, rfl, by simp only [subs, n2], by rw [mapN_more]; exact o2, by omega, rfl⟩
  · have : i = 8 := by omega
    subst this
    simp only [walk, lists, acts, mem, plain, seqs, maps, cells, resL, resV, intBin, seval, wMap, nG, n1, e1, apps]
    exact ⟨wMap.2.2.2.2.2.1 _ _ (rdS.one oG.rd), _, by (repeat' first | exact Sub.refl _ | exact Sub.nil _ | assumption | refine Sub.both ?_ ?_ | refine Sub.cons_of (by simp only [subs, nG, n1, hj0]) ?_ | exact Sub.left _ _ | refine Sub.app (by simp only [subs, nG, n1, hj0]) ?_ | refine Sub.cons (by simp only [subs, nG, n1, hj0]) ?_), k v' G (by rw [map0_eq]; exact oG) (by simp only [nG])⟩
theorem cloneInts_c {h : H} {v : Value} {l : List Int} (r : rInts h v l) (hl : l.length ≤ 1099511627776) {R : Ending → H → Prop} (k : ∀ v' g, oLs 3 eI 1 v' l g → Dj g h → R (.returned v') (g ++ h)) :
    HCalls Tryz.prog 112 #[v] h R := clone_l Tryz.func112 ir112 eI_one tInts iInt r (by omega) (by omega) k

theorem specMapOk_c {h : H} {d : DMap} {ow : Value} (r : rInts h ow d.owners) (hl : d.owners.length ≤ 1099511627776) {R : Ending → H → Prop} (k : Asks R (mapP d) h) : HCalls Tryz.prog 110 #[.agg (cMap d ow).toArray] h R := by
  refine HCalls_ir (args := [.agg (cMap d ow).toArray]) Tryz.func110 ir110 ?_
  simp only [walk, lists, acts, mem, plain, seqs, maps, cells, resL, resV, intBin, seval, wMap]
  refine newB_intro (o := blk (cMap d ow) 43) fun j hj => ?_
  have s1 := Sub.cons (o := blk (cMap d ow) 43) hj (Sub.refl h)
  have r1 := r.sub s1
  simp only [walk, lists, acts, mem, plain, seqs, maps, cells, resL, resV, intBin, seval, wMap]
  refine l6In_c fun b1 hb1 => ?_
  simp only [walk, lists, acts, mem, plain, seqs, maps, cells, resL, resV, intBin, seval, wMap, r1.len]
  cases b1 with
  | false =>
    simp only [walk, lists, acts, mem, plain, seqs, maps, cells, resL, resV, intBin, seval, wMap]
    exact k.dno s1 fun p => not_b hb1 rfl p.1
  | true =>
    simp only [walk, lists, acts, mem, plain, seqs, maps, cells, resL, resV, intBin, seval, wMap, r1.len]
    refine ite_ne (fun c => ?_) fun c => ?_
    · exact k.dno s1 fun p => c (by rw [p.2.1]; rfl)
    · have hl8 : d.owners.length = 8 := by omega
      refine vc_loop [3] (fun n vs h' => ∃ i : Nat, vs = [.int .i64 i] ∧ h' = (j, blk (cMap d ow) 43) :: h ∧ i ≤ d.owners.length ∧ n = d.owners.length - i ∧ allP houseP (d.owners.take i)) d.owners.length rfl ⟨0, rfl, rfl, by omega, by omega, allP_zero _ _⟩ ?_
      rintro n f h' ⟨i, hv, rfl, hi, rfl, ht⟩
      simp only [List.map_cons, List.map_nil, List.cons.injEq, and_true] at hv
      simp only [walk, lists, acts, mem, plain, seqs, maps, cells, resL, resV, intBin, seval, wr, hv, wMap, r1.len]
      refine ite_lt (fun c1 => ?_) fun c1 => ?_
      · refine idx_leaf (i := i) eI_len r1 rfl (by omega) fun b1 o1 e1 => ?_
        simp only [walk, lists, acts, mem, plain, seqs, maps, cells, resL, resV, intBin, seval, hread_1 e1]
        refine l6In_c fun b hb => ?_
        simp (disch := omega) only [walk, lists, acts, mem, plain, seqs, maps, cells, resL, resV, intBin, seval, wrapI]
        refine ite_f (fun e => k.dno s1 fun p => allP_not (by omega) (not_b hb e) p.2.2) fun e => ?_
        exact ⟨d.owners.length - (i + 1), by omega, _, .refl _, i + 1, by simp, rfl, by omega, rfl, allP_more (by omega) ht (hb.1 e)⟩
      · exact ⟨h, s1, k.yes ⟨hb1.1 rfl, hl8, allP_done (by omega) ht⟩⟩

theorem implMapOk_c {h : H} {d : DMap} {ow : Value} (r : rInts h ow d.owners) (hl : d.owners.length ≤ 1099511627776) {R : Ending → H → Prop} (k : Asks R (mapP d) h) : HCalls Tryz.prog 133 #[.agg (cMap d ow).toArray] h R := by
  refine HCalls_ir (args := [.agg (cMap d ow).toArray]) Tryz.func133 ir133 ?_
  simp only [walk, lists, acts, mem, plain, seqs, maps, cells, resL, resV, intBin, seval, wMap]
  refine newB_intro (o := blk (cMap d ow) 43) fun j hj => ?_
  have s1 := Sub.cons (o := blk (cMap d ow) 43) hj (Sub.refl h)
  have r1 := r.sub s1
  simp only [walk, lists, acts, mem, plain, seqs, maps, cells, resL, resV, intBin, seval, wMap]
  refine within_c fun b1 hb1 => ?_
  cases b1 with
  | false =>
    simp only [walk, lists, acts, mem, plain, seqs, maps, cells, resL, resV, intBin, seval, wMap]
    exact k.dno s1 fun p => not_b hb1 rfl p.1
  | true =>
    simp only [walk, lists, acts, mem, plain, seqs, maps, cells, resL, resV, intBin, seval, wMap, r1.len]
    refine ite_ne (fun c => ?_) fun c => ?_
    · exact k.dno s1 fun p => c (by rw [p.2.1]; rfl)
    · have hl8 : d.owners.length = 8 := by omega
      refine vc_loop [18] (fun n vs h' => ∃ i : Nat, vs = [.int .i64 i] ∧ h' = (j, blk (cMap d ow) 43) :: h ∧ i ≤ d.owners.length ∧ n = d.owners.length - i ∧ allP houseP (d.owners.take i)) d.owners.length rfl ⟨0, rfl, rfl, by omega, by omega, allP_zero _ _⟩ ?_
      rintro n f h' ⟨i, hv, rfl, hi, rfl, ht⟩
      simp only [List.map_cons, List.map_nil, List.cons.injEq, and_true] at hv
      simp only [walk, lists, acts, mem, plain, seqs, maps, cells, resL, resV, intBin, seval, wr, hv, wMap, r1.len]
      refine ite_lt (fun c1 => ?_) fun c1 => ?_
      · refine idx_leaf (i := i) eI_len r1 rfl (by omega) fun b1 o1 e1 => ?_
        simp only [walk, lists, acts, mem, plain, seqs, maps, cells, resL, resV, intBin, seval, hread_1 e1]
        refine isHouse_c fun b hb => ?_
        simp (disch := omega) only [walk, lists, acts, mem, plain, seqs, maps, cells, resL, resV, intBin, seval, wrapI]
        refine ite_f (fun e => k.dno s1 fun p => allP_not (by omega) (not_b hb e) p.2.2) fun e => ?_
        exact ⟨d.owners.length - (i + 1), by omega, _, .refl _, i + 1, by simp, rfl, by omega, rfl, allP_more (by omega) ht (hb.1 e)⟩
      · exact ⟨h, s1, k.yes ⟨hb1.1 rfl, hl8, allP_done (by omega) ht⟩⟩

theorem l2Copy_c {h : H} {d : DMap} {ow : Value} (r : rInts h ow d.owners) (hl : d.owners.length ≤ 1099511627776) {R : Ending → H → Prop} (k : ∀ v g, oLs 3 eI 1 v d.owners g → Dj g h → R (.returned (.agg (cMap d v).toArray)) (g ++ h)) :
    HCalls Tryz.prog 111 #[.agg (cMap d ow).toArray] h R := by
  refine HCalls_ir (args := [.agg (cMap d ow).toArray]) Tryz.func111 ir111 ?_
  have zm := zMap_eq
  simp only [walk, lists, acts, mem, plain, seqs, maps, cells, resL, resV, intBin, seval, wMap, zm]
  refine newB_intro (o := blk (cMap d ow) 43) fun j hj => ?_
  simp only [walk, lists, acts, mem, plain, seqs, maps, cells, resL, resV, intBin, seval, wMap, zm]
  refine newB_intro (o := blk (cMap zMap (.slice none 0 0)) 43) fun j2 hj2 => ?_
  have n2 := hj2
  simp only [subs] at n2
  have e2 : ¬ j = j2 := fun e => n2.1 e.symm
  simp only [walk, lists, acts, mem, plain, seqs, maps, cells, resL, resV, intBin, seval, wMap, zm, e2]
  refine vc_draw _ (Sub.refl _) ?_
  simp only [walk, lists, acts, mem, plain, seqs, maps, cells, resL, resV, intBin, seval, wMap, zm, e2]
  refine newB_intro (o := blk (fl eI []) 3) fun j5 hj5 => ?_
  have s5 := Sub_new (o := blk (fl eI []) 3) hj5
  simp only [walk, lists, acts, mem, plain, seqs, maps, cells, resL, resV, intBin, seval, wMap, zm, e2, s5]
  refine app_leaf (g := [(j5, blk (fl eI []) 3)]) (h := (j2, blk (cMap zMap (.slice none 0 0)) 43) :: (j, blk (cMap d ow) 43) :: h) (l := []) eI_len eI_one tInts iInt (Sub.refl _) (Dj.one hj5) (oLs_new eI_len) (r.sub (by (repeat' first | exact Sub.refl _ | exact Sub.nil _ | assumption | refine Sub.both ?_ ?_ | refine Sub.cons_of (by simp only [subs, n2, hj, e2, hj5]) ?_ | exact Sub.left _ _ | refine Sub.app (by simp only [subs, n2, hj, e2, hj5]) ?_ | refine Sub.cons (by simp only [subs, n2, hj, e2, hj5]) ?_))) (by simp; omega) (by simp; omega) fun v2 g2 o2 d2 => ?_
  have m2 := d2
  simp only [subs] at m2
  have ov := rdS.one o2.rd
  have vc2 := vc1 ov
  simp only [walk, lists, acts, mem, plain, seqs, maps, cells, resL, resV, intBin, seval, Sub.right d2, apps, m2, wMap, zm, e2, ov, vc2]
  have zb : ∀ v : Value, [Value.int .i64 d.version, v] = cMap d v := fun _ => rfl
  exact ⟨g2 ++ h, by (repeat' first | exact Sub.refl _ | exact Sub.nil _ | assumption | refine Sub.both ?_ ?_ | refine Sub.cons_of (by simp only [subs, m2, n2, hj, e2]) ?_ | exact Sub.left _ _ | refine Sub.app (by simp only [subs, m2, n2, hj, e2]) ?_ | refine Sub.cons (by simp only [subs, m2, n2, hj, e2]) ?_), k v2 g2 (by simpa using o2) (by simp only [m2])⟩

theorem mapMove_bad {m : DMap} {slot to : Int} (h : ¬ mapP m) : mapMove m slot to = (zMap, 9) := by unfold mapMove; rw [if_pos h]
theorem mapMove_off {m : DMap} {slot to : Int} (h : mapP m) (x : ¬ slotP slot ∨ ¬ houseP to) : mapMove m slot to = (m, 9) := by unfold mapMove; rw [if_neg (fun c => c h), if_pos x]
theorem mapMove_over {m : DMap} {slot to : Int} (h : mapP m) (x : slotP slot) (y : houseP to) (z : 99 ≤ m.version) : mapMove m slot to = (m, 2) := by
  unfold mapMove; rw [if_neg (fun c => c h), if_neg (fun c => c.elim (· x) (· y)), if_pos z]
theorem mapMove_same {m : DMap} {slot to : Int} (h : mapP m) (x : slotP slot) (y : houseP to) (z : ¬ 99 ≤ m.version) (w : m.owners.getD slot.toNat 0 = to) : mapMove m slot to = (m, 3) := by
  unfold mapMove; rw [if_neg (fun c => c h), if_neg (fun c => c.elim (· x) (· y)), if_neg z, if_pos w]
theorem mapMove_done {m : DMap} {slot to : Int} (h : mapP m) (x : slotP slot) (y : houseP to) (z : ¬ 99 ≤ m.version) (w : ¬ m.owners.getD slot.toNat 0 = to) : mapMove m slot to = (⟨m.version + 1, m.owners.set slot.toNat to⟩, 0) := by
  unfold mapMove; rw [if_neg (fun c => c h), if_neg (fun c => c.elim (· x) (· y)), if_neg z, if_neg w]
theorem specMapMove_c {h : H} {d : DMap} {ow : Value} {slot to : Int} (r : rInts h ow d.owners) (hl : d.owners.length ≤ 1099511627776) {R : Ending → H → Prop}
    (k : ∀ v g, oLs 3 eI 1 v (mapMove d slot to).1.owners g → Dj g h → R (.returned (.tuple #[.agg (cMap (mapMove d slot to).1 v).toArray, .int .i64 (mapMove d slot to).2])) (g ++ h)) :
    HCalls Tryz.prog 75 #[.agg (cMap d ow).toArray, .int .i64 slot, .int .i64 to] h R := by
  refine HCalls_ir (args := [.agg (cMap d ow).toArray, .int .i64 slot, .int .i64 to]) Tryz.func75 ir75 ?_
  have zm := zMap_eq
  simp only [walk, lists, acts, mem, plain, seqs, maps, cells, resL, resV, intBin, seval, wMap, zm]
  refine newB_intro (o := blk (cMap d ow) 43) fun j hj => ?_
  simp only [walk, lists, acts, mem, plain, seqs, maps, cells, resL, resV, intBin, seval, wMap, zm]
  refine newB_intro (o := blk (cMap zMap (.slice none 0 0)) 43) fun j2 hj2 => ?_
  have n2 := hj2
  simp only [subs] at n2
  have e2 : ¬ j = j2 := fun e => n2.1 e.symm
  have r2 : ∀ x, rInts ((j2, x) :: (j, blk (cMap d ow) 43) :: h) ow d.owners := fun x => r.sub (by (repeat' first | exact Sub.refl _ | exact Sub.nil _ | assumption | refine Sub.both ?_ ?_ | refine Sub.cons_of (by simp only [subs, n2, hj, e2]) ?_ | exact Sub.left _ _ | refine Sub.app (by simp only [subs, n2, hj, e2]) ?_ | refine Sub.cons (by simp only [subs, n2, hj, e2]) ?_))
  simp only [walk, lists, acts, mem, plain, seqs, maps, cells, resL, resV, intBin, seval, wMap, zm, e2]
  refine specMapOk_c (r2 _) hl fun b1 hb1 => ?_
  simp only [walk, lists, acts, mem, plain, seqs, maps, cells, resL, resV, intBin, seval, wMap, zm, e2]
  refine ite_f (fun e => ?_) fun e => ?_
  · have hno := not_b hb1 e
    refine ⟨h, by (repeat' first | exact Sub.refl _ | exact Sub.nil _ | assumption | refine Sub.both ?_ ?_ | refine Sub.cons_of (by simp only [subs, n2, hj, e2]) ?_ | exact Sub.left _ _ | refine Sub.app (by simp only [subs, n2, hj, e2]) ?_ | refine Sub.cons (by simp only [subs, n2, hj, e2]) ?_), ?_⟩
    have := k (.slice none 0 0) [] (by rw [mapMove_bad hno]; exact oLs_nil) (Dj.nil _)
    rw [mapMove_bad hno] at this
    exact this
  · have hok := hb1.1 e
    refine l2Copy_c (r2 _) hl fun v4 g4 o4 d4 => ?_
    have n4 := d4
    simp only [subs] at n4
    simp only [walk, lists, acts, mem, plain, seqs, maps, cells, resL, resV, intBin, seval, wMap, zm, e2, n4, apps]
    refine newB_intro (o := blk (cMap zMap (.slice none 0 0)) 43) fun j8 hj8 => ?_
    have n8 := hj8
    simp only [subs] at n8
    have e8 : (¬ j = j8 ∧ ¬ j2 = j8) := ⟨fun e => n8.2.2.1 e.symm, fun e => n8.2.1 e.symm⟩
    have ov := rdS.one o4.rd
    have av := wMap.2.2.2.2.2.1 d v4 ov
    simp only [walk, lists, acts, mem, plain, seqs, maps, cells, resL, resV, intBin, seval, wMap, zm, e2, n4, apps, av]
    have fin : ∀ w : Int, mapMove d slot to = (d, w) → dP R (.returned (.tuple #[.agg (cMap d v4).toArray, .int .i64 w])) ((j8, blk (cMap d v4) 43) :: (g4 ++ (j2, blk (cMap d v4) 43) :: (j, blk (cMap d ow) 43) :: h)) := fun w hw => by
      refine ⟨g4 ++ h, by (repeat' first | exact Sub.refl _ | exact Sub.nil _ | assumption | refine Sub.both ?_ ?_ | refine Sub.cons_of (by simp only [subs, n8, e8, n4, n2, hj, e2]) ?_ | exact Sub.left _ _ | refine Sub.app (by simp only [subs, n8, e8, n4, n2, hj, e2]) ?_ | refine Sub.cons (by simp only [subs, n8, e8, n4, n2, hj, e2]) ?_), ?_⟩
      have := k v4 g4 (by rw [hw]; exact o4) (by simp only [n4])
      rw [hw] at this
      exact this
    refine l6In_c fun b2 hb2 => ?_
    cases b2 with
    | false =>
      simp only [walk, lists, acts, mem, plain, seqs, maps, cells, resL, resV, intBin, seval, wMap, zm, e2, n4, e8, apps, av]
      exact fin 9 (mapMove_off hok (.inl (not_b hb2 rfl)))
    | true =>
      simp only [walk, lists, acts, mem, plain, seqs, maps, cells, resL, resV, intBin, seval, wMap, zm, e2, n4, e8, apps, av]
      refine l6In_c fun b3 hb3 => ?_
      simp only [walk, lists, acts, mem, plain, seqs, maps, cells, resL, resV, intBin, seval, wMap, zm, e2, n4, e8, apps, av]
      have hsl : slotP slot := hb2.1 rfl
      refine ite_f (fun e3 => fin 9 (mapMove_off hok (.inr (not_b hb3 e3)))) fun e3 => ?_
      have hto := hb3.1 e3
      refine ite_ge (fun c4 => fin 2 (mapMove_over hok hsl hto c4)) fun c4 => ?_
      have hnv : ¬ 99 ≤ d.version := by omega
      have hl8 := hok.2.1
      have hs7 : 0 ≤ slot ∧ slot ≤ 7 := hsl
      have hsn : slot.toNat < d.owners.length := by omega
      have hg : d.owners.getD slot.toNat 0 = d.owners[slot.toNat] := by rw [List.getD_eq_getElem?_getD, List.getElem?_eq_getElem hsn]; rfl
      have r8 : rInts ((j8, blk (cMap d v4) 43) :: (g4 ++ (j2, blk (cMap zMap (.slice none 0 0)) 43) :: (j, blk (cMap d ow) 43) :: h)) ow d.owners := r.sub (by (repeat' first | exact Sub.refl _ | exact Sub.nil _ | assumption | refine Sub.both ?_ ?_ | refine Sub.cons_of (by simp only [subs, n8, e8, n4, n2, hj, e2]) ?_ | exact Sub.left _ _ | refine Sub.app (by simp only [subs, n8, e8, n4, n2, hj, e2]) ?_ | refine Sub.cons (by simp only [subs, n8, e8, n4, n2, hj, e2]) ?_))
      refine idx_leaf (i := slot.toNat) eI_len r8 (by omega) hsn fun b5 o5 e5 => ?_
      simp only [walk, lists, acts, mem, plain, seqs, maps, cells, resL, resV, intBin, seval, hread_1 e5]
      refine ite_pos (fun c6 => ?_) fun c6 => ?_
      · simp only [walk, lists, acts, mem, plain, seqs, maps, cells, resL, resV, intBin, seval, wMap, zm, e2, n4, e8, apps, av]
        exact fin 3 (mapMove_same hok hsl hto hnv (by rw [hg]; exact c6))
      · simp only [walk, lists, acts, mem, plain, seqs, maps, cells, resL, resV, intBin, seval, wMap, zm, e2, n4, e8, apps, av]
        refine own_idx (i := slot.toNat) eI_len o4 (by omega) hsn fun b cap sp hv' hc hs hg4 => ?_
        subst hg4
        have nb := n4
        simp only [subs] at nb n8
        have eb : ¬ b = j8 := fun e => n8.1.1 e.symm
        simp only [walk, lists, acts, mem, plain, seqs, maps, cells, resL, resV, intBin, seval, nb, n8, eb]
        rw [hK_map]
        refine st_own (i := slot.toNat) (a' := to) (off := 0) eI_len (by omega) hsn rfl (by omega) rfl ?_
        have hw : IntKind.i64.wrap (d.version + 1) = d.version + 1 := wrapI _ (by have := hok.1.1; omega)
        have hjb := nb
        simp only [walk, lists, acts, mem, plain, seqs, maps, cells, resL, resV, intBin, seval, wMap, zm, e2, nb, n8, e8, eb, av, hw]
        have eb2 : ¬ b = j2 ∧ ¬ b = j := ⟨fun e => nb.1.1 e.symm, fun e => nb.2.1.1 e.symm⟩
        have hmm := mapMove_done hok hsl hto hnv (by rw [hg]; exact c6)
        refine ⟨wMap.2.2.2.2.2.1 _ _ ov, [(b, blk (fl eI (d.owners.set slot.toNat to) ++ sp) 3)] ++ h, by (repeat' first | exact Sub.refl _ | exact Sub.nil _ | assumption | refine Sub.both ?_ ?_ | refine Sub.cons_of (by simp only [subs, n8, e8, nb, n2, hj, e2, eb, eb2]) ?_ | exact Sub.left _ _ | refine Sub.app (by simp only [subs, n8, e8, nb, n2, hj, e2, eb, eb2]) ?_ | refine Sub.cons (by simp only [subs, n8, e8, nb, n2, hj, e2, eb, eb2]) ?_), ?_⟩
        have := k v4 [(b, blk (fl eI (d.owners.set slot.toNat to) ++ sp) 3)] (by rw [hmm]; exact own_set eI_len hv' hc hs) (Dj.one nb.2.2)
        rw [hmm] at this
        exact this

theorem tOwn : Tryz.prog.underlying 140 = some (.array 8 3) := by kernel_rfl
theorem iInt' : ∃ i, Tryz.prog.info? 3 = some i := ⟨_, iInt.choose_spec.choose_spec.1⟩
theorem implMapStart_c {h : H} {R : Ending → H → Prop} (k : ∀ ow g, oLs 3 eI 1 ow map0.owners g → Dj g h → R (.returned (.agg (cMap map0 ow).toArray)) (g ++ h)) : HCalls Tryz.prog 76 #[] h R := by
  refine HCalls_ir (args := []) Tryz.func76 ir76 ?_
  have zm := zMap_eq
  simp only [walk, lists, acts, mem, plain, seqs, maps, cells, resL, resV, intBin, seval, zm]
  refine newB_intro (o := blk (cMap zMap (.slice none 0 0)) 43) fun j0 hj0 => ?_
  simp only [walk, lists, acts, mem, plain, seqs, maps, cells, resL, resV, intBin, seval, wMap, zm]
  refine newB_intro (o := blk (fl eI (mapN 0 ++ List.replicate (8 - 0) 0)) 140) fun j1 hj1 => ?_
  have n1 := hj1
  simp only [subs] at n1
  have e1 : ¬ j0 = j1 := fun e => n1.1 e.symm
  simp only [walk, lists, acts, mem, plain, seqs, maps, cells, resL, resV, intBin, seval, wMap, zm, e1]
  refine vc_loop [3] (fun n vs h' => ∃ i : Nat, vs = [.int .i64 i] ∧ h' = (j1, blk (fl eI (mapN i ++ List.replicate (8 - i) 0)) 140) :: (j0, blk (cMap zMap (.slice none 0 0)) 43) :: h ∧ i ≤ 8 ∧ n = 8 - i) 8 rfl ⟨0, rfl, rfl, by omega, rfl⟩ ?_
  rintro n f h' ⟨i, hv, rfl, hi, rfl⟩
  simp only [List.map_cons, List.map_nil, List.cons.injEq, and_true] at hv
  simp only [walk, lists, acts, mem, plain, seqs, maps, cells, resL, resV, intBin, seval, wr, hv, wMap]
  refine ite_lt (fun c => ?_) fun c => ?_
  · rw [show (i : Int).tmod 3 = ((i % 3 : Nat) : Int) from rfl]
    refine ⟨⟨by omega, by omega⟩, ?_⟩
    refine st_row (i := i) (a' := ((i % 3 : Nat) : Int)) (off := 0) eI_len (by omega) (by rw [List.length_append, mapN_len, List.length_replicate]; omega) rfl (by omega) rfl ?_
    simp (disch := omega) only [walk, lists, acts, mem, plain, seqs, maps, cells, resL, resV, intBin, seval, wrapI]
    refine ⟨8 - (i + 1), by omega, _, .refl _, i + 1, by simp, ?_, by omega, rfl⟩
    rw [mapN_set (by omega)]
  · have : i = 8 := by omega
    subst this
    refine raw_all (b := j1) (o := 0) (by simp only [walk, lists, acts, mem, plain, seqs, maps, cells, resL, resV, intBin, seval]) tOwn iInt'.choose_spec ?_
    simp only [walk, lists, acts, mem, plain, seqs, maps, cells, resL, resV, intBin, seval]
    refine cloneInts_c (l := mapN 8) ?_ (by rw [mapN_len]; omega) fun v2 g2 o2 d2 => ?_
    · exact (oLs_new (e := 140) (j := j1) (l := mapN 8) eI_len).rd.sub (by (repeat' first | exact Sub.refl _ | exact Sub.nil _ | assumption | refine Sub.both ?_ ?_ | refine Sub.cons_of (by simp only [subs, n1]) ?_ | exact Sub.left _ _ | refine Sub.app (by simp only [subs, n1]) ?_ | refine Sub.cons (by simp only [subs, n1]) ?_))
    · have m2 := d2
      simp only [subs] at m2
      have ov := rdS.one o2.rd
      have vc2 := vc1 ov
      simp only [walk, lists, acts, mem, plain, seqs, maps, cells, resL, resV, intBin, seval, wMap, m2, apps, ov, vc2, e1]
      exact ⟨g2 ++ h, by (repeat' first | exact Sub.refl _ | exact Sub.nil _ | assumption | refine Sub.both ?_ ?_ | refine Sub.cons_of (by simp only [subs, m2, n1, hj0]) ?_ | exact Sub.left _ _ | refine Sub.app (by simp only [subs, m2, n1, hj0]) ?_ | refine Sub.cons (by simp only [subs, m2, n1, hj0]) ?_), k v2 g2 (by rw [map0_eq]; exact o2) (by simp only [m2])⟩

theorem implMapMove_c {h : H} {d : DMap} {ow : Value} {slot to : Int} (r : rInts h ow d.owners) (hl : d.owners.length ≤ 1099511627776) {R : Ending → H → Prop}
    (k : ∀ v g, oLs 3 eI 1 v (mapMove d slot to).1.owners g → Dj g h → R (.returned (.tuple #[.agg (cMap (mapMove d slot to).1 v).toArray, .int .i64 (mapMove d slot to).2])) (g ++ h)) :
    HCalls Tryz.prog 113 #[.agg (cMap d ow).toArray, .int .i64 slot, .int .i64 to] h R := by
  refine HCalls_ir (args := [.agg (cMap d ow).toArray, .int .i64 slot, .int .i64 to]) Tryz.func113 ir113 ?_
  have zm := zMap_eq
  simp only [walk, lists, acts, mem, plain, seqs, maps, cells, resL, resV, intBin, seval, wMap, zm]
  refine newB_intro (o := blk (cMap d ow) 43) fun j hj => ?_
  simp only [walk, lists, acts, mem, plain, seqs, maps, cells, resL, resV, intBin, seval, wMap, zm]
  refine newB_intro (o := blk (cMap zMap (.slice none 0 0)) 43) fun j2 hj2 => ?_
  have n2 := hj2
  simp only [subs] at n2
  have e2 : ¬ j = j2 := fun e => n2.1 e.symm
  have r2 : ∀ x, rInts ((j2, x) :: (j, blk (cMap d ow) 43) :: h) ow d.owners := fun x => r.sub (by (repeat' first | exact Sub.refl _ | exact Sub.nil _ | assumption | refine Sub.both ?_ ?_ | refine Sub.cons_of (by simp only [subs, n2, hj, e2]) ?_ | exact Sub.left _ _ | refine Sub.app (by simp only [subs, n2, hj, e2]) ?_ | refine Sub.cons (by simp only [subs, n2, hj, e2]) ?_))
  simp only [walk, lists, acts, mem, plain, seqs, maps, cells, resL, resV, intBin, seval, wMap, zm, e2]
  refine implMapOk_c (r2 _) hl fun b1 hb1 => ?_
  simp only [walk, lists, acts, mem, plain, seqs, maps, cells, resL, resV, intBin, seval, wMap, zm, e2]
  refine ite_f (fun e => ?_) fun e => ?_
  · have hno := not_b hb1 e
    refine ⟨h, by (repeat' first | exact Sub.refl _ | exact Sub.nil _ | assumption | refine Sub.both ?_ ?_ | refine Sub.cons_of (by simp only [subs, n2, hj, e2]) ?_ | exact Sub.left _ _ | refine Sub.app (by simp only [subs, n2, hj, e2]) ?_ | refine Sub.cons (by simp only [subs, n2, hj, e2]) ?_), ?_⟩
    have := k (.slice none 0 0) [] (by rw [mapMove_bad hno]; exact oLs_nil) (Dj.nil _)
    rw [mapMove_bad hno] at this
    exact this
  · have hok := hb1.1 e
    have hl8 := hok.2.1
    obtain ⟨b0, o0, cap, hv0, hcap, rd⟩ : ∃ b o cap, ow = .slice (some ⟨b, o, none⟩) 8 cap ∧ 8 ≤ cap ∧ hread h b o 8 = some (fl eI d.owners) := by
      obtain ⟨hlen, ⟨_, h0⟩ | ⟨b, o, cap, hv, hc, e⟩⟩ := r
      · omega
      · rw [hl8] at hv hc e
        exact ⟨b, o, cap, hv, hc, e⟩
    refine raw_arr (b := b0) (o := o0) (len := 8) (cap := cap) (by simp only [walk, lists, acts, mem, plain, seqs, maps, cells, resL, resV, intBin, seval, hv0]) tOwn (Nat.le_refl _) ?_
    have rd2 : hread ((j2, blk (cMap zMap (.slice none 0 0)) 43) :: (j, blk (cMap d ow) 43) :: h) b0 o0 8 = some (fl eI d.owners) := hread_sub (by (repeat' first | exact Sub.refl _ | exact Sub.nil _ | assumption | refine Sub.both ?_ ?_ | refine Sub.cons_of (by simp only [subs, n2, hj, e2]) ?_ | exact Sub.left _ _ | refine Sub.app (by simp only [subs, n2, hj, e2]) ?_ | refine Sub.cons (by simp only [subs, n2, hj, e2]) ?_)) rd
    simp only [walk, lists, acts, mem, plain, seqs, maps, cells, resL, resV, intBin, seval, rd2]
    have hlen : (fl eI d.owners).length = 8 := by rw [fl_len eI_len, hl8]
    have hone := eI_one d.owners
    obtain ⟨Z, hZ, hl0⟩ : ∃ Z : List Value, [Value.int .i64 0, Value.int .i64 0, Value.int .i64 0, Value.int .i64 0, Value.int .i64 0, Value.int .i64 0, Value.int .i64 0, Value.int .i64 0] = Z ∧ Z.length = 8 := ⟨_, rfl, rfl⟩
    have hsp : splice Z 0 (fl eI d.owners) = fl eI d.owners := by
      rw [splice_eq _ _ _ (by omega), hlen, List.take_zero, List.drop_eq_nil_of_le (by omega)]
      simp
    simp only [hZ]
    refine newB_intro (o := blk Z 140) fun j8 hj8 => ?_
    have n8 := hj8
    simp only [subs] at n8
    have e8 : ¬ j2 = j8 ∧ ¬ j = j8 := ⟨fun e => n8.1 e.symm, fun e => n8.2.1 e.symm⟩
    simp only [walk, lists, acts, mem, plain, seqs, maps, cells, resL, resV, intBin, seval, hlen, hone, hsp, hl0]
    obtain ⟨rest, hrest⟩ : ∃ rest, rest = (j8, blk (fl eI d.owners) 140) :: (j2, blk (cMap zMap (.slice none 0 0)) 43) :: (j, blk (cMap d ow) 43) :: h := ⟨_, rfl⟩
    rw [← hrest]
    have hver : hcel rest j 0 = some (.int .i64 d.version) := by rw [hrest]; simp only [walk, lists, acts, mem, plain, seqs, maps, cells, resL, resV, intBin, seval, e8, e2, wMap]
    have hrow : rInts rest (.slice (some ⟨j8, 0, none⟩) 8 8) d.owners := by
      have := (oLs_new (e := 140) (j := j8) (l := d.owners) eI_len).rd.sub (h := rest) (by rw [hrest]; (repeat' first | exact Sub.refl _ | exact Sub.nil _ | assumption | refine Sub.both ?_ ?_ | refine Sub.cons_of (by simp only [subs, n8]) ?_ | exact Sub.left _ _ | refine Sub.app (by simp only [subs, n8]) ?_ | refine Sub.cons (by simp only [subs, n8]) ?_))
      rw [hl8] at this; exact this
    refine vc_anyR mG [aV (.pointer (some ⟨j, 0, none⟩)), aV (.int .i64 d.version), aV (.slice (some ⟨j8, 0, none⟩) 8 8), aS rest 3 eI 1 d.owners, fun g v => ∃ w, v = .agg (cMap d w).toArray ∧ aS rest 3 eI 1 d.owners g w, aB rest (blk (cMap zMap (.slice none 0 0)) 43)] rest ?_ (Sub.refl _) rfl fun ρ hi ho hc => ?_
    · repeat' first | exact fun _ h => absurd h List.not_mem_nil | refine List.forall_mem_cons.2 ⟨?_, ?_⟩ | exact aMono_V _ | exact aMono_S _ _ _ _ _ | exact aMono_B _ _ | exact fun g g' v s ⟨w, a, b⟩ => ⟨w, a, aMono_S _ _ _ _ _ g g' w s b⟩
    simp only [anysR, andr, maps, lists, plain, Nat.reduceAdd]
    refine ⟨aF_fld fun f g _ _ => ⟨j, 0, ho f 3 rfl, rfl⟩, aF_load fun f g hs hd => ⟨j, 0, _, (hi f 18 rfl).trans hd, hcel_sub hs hver, rfl⟩, aF_raw_all tOwn iInt'.choose_spec fun f g _ _ => ⟨ho f 8 rfl, rfl⟩,
      aF_call (vs := [.slice (some ⟨j8, 0, none⟩) 8 8]) fun f g hs hd => ⟨by simp only [List.map_cons, List.map_nil, (hi f 20 rfl).trans hd], fun h hg => cloneInts_c (hrow.sub (hs.trans hg)) (by omega) fun v' G o d => ⟨v', rfl, G ++ h, Sub.refl _, hg.trans (Sub.right d), G, o, Sub.left _ _, d.sub (.refl _) (hs.trans hg)⟩⟩,
      aF_build fun f g hs hd => ?b, aF_alloc, ?last⟩
    case b =>
      obtain ⟨h1, G, o, s1, d1⟩ := hd
      refine ⟨cMap d (f 21), ?_, f 21, rfl, G, o, s1, d1⟩
      have hv2 : vcells (ρ f (.tmp 21)) = [f 21] := by rw [hi f 21 rfl]; exact vc1 (rdS.one o.rd)
      simp only [maps, (hi f 19 rfl).trans h1, hv2]
      rfl
    intro m2 f2 h2 g2 hm hs2 hd
    obtain ⟨-, -, -, -, ⟨w, ew, G, oG, sG, dG⟩, j9, e9, h9, n9⟩ := hd
    obtain ⟨b, cap9, sp, hw, hcap9, hsz, hG⟩ : ∃ b cap sp, w = .slice (some ⟨b, 0, none⟩) d.owners.length cap ∧ d.owners.length ≤ cap ∧ (fl eI d.owners ++ sp).length = cap * 1 ∧ G = [(b, blk (fl eI d.owners ++ sp) 3)] := by
      obtain ⟨hl', ⟨_, h0, _⟩ | ⟨b, cap, sp, a, b', c, e⟩⟩ := oG
      · omega
      · exact ⟨b, cap, sp, a, b', c, e⟩
    have nG : hget G j9 = none := by
      rw [hG, hget_cons]
      split
      · rename_i c
        have c : j9 = b := c
        subst c
        have h1 := sG _ _ (show hget G j9 = some _ by rw [hG]; exact hget_same _ _ _)
        have := h9.symm.trans h1
        injection this with this
        exact absurd (blk_ty this) (by decide)
      · rfl
    refine ⟨(j9, blk (cMap zMap (.slice none 0 0)) 43) :: (G ++ rest), Sub.cons_of (hm _ _ h9) (Sub.both (sG.trans hm) (hs2.trans hm)), ?_⟩
    have ov := rdS.one oG.rd
    have av := wMap.2.2.2.2.2.1 d w ov
    subst hrest
    have m9 := n9
    have mG' := dG
    simp only [subs] at m9 mG'
    have e9' : ¬ j = j9 ∧ ¬ j2 = j9 ∧ ¬ j8 = j9 := ⟨fun e => m9.2.2.1 e.symm, fun e => m9.2.1 e.symm, fun e => m9.1 e.symm⟩
    simp only [walk, lists, acts, mem, plain, seqs, maps, cells, resL, resV, intBin, seval, wr, hi f2 9 rfl, hi f2 22 rfl, ew, e9, wMap, av]
    have fin : ∀ x : Int, mapMove d slot to = (d, x) → dP R (.returned (.tuple #[.agg (cMap d w).toArray, .int .i64 x])) ((j9, blk (cMap d w) 43) :: (G ++ (j8, blk (fl eI d.owners) 140) :: (j2, blk (cMap d w) 43) :: (j, blk (cMap d ow) 43) :: h)) := fun x hx => by
      refine ⟨G ++ h, by (repeat' first | exact Sub.refl _ | exact Sub.nil _ | assumption | refine Sub.both ?_ ?_ | refine Sub.cons_of (by simp only [subs, m9, mG', n8, e8, n2, hj, e2, nG]) ?_ | exact Sub.left _ _ | refine Sub.app (by simp only [subs, m9, mG', n8, e8, n2, hj, e2, nG]) ?_ | refine Sub.cons (by simp only [subs, m9, mG', n8, e8, n2, hj, e2, nG]) ?_), ?_⟩
      have := k w G (by rw [hx]; exact oG) (by simp only [mG'])
      rw [hx] at this
      exact this
    refine isSlot_c fun b2 hb2 => ?_
    cases b2 with
    | false =>
      simp only [walk, lists, acts, mem, plain, seqs, maps, cells, resL, resV, intBin, seval, wMap, zm, e2, e8, e9', mG', apps, av]
      exact fin 9 (mapMove_off hok (.inl (not_b hb2 rfl)))
    | true =>
      have hsl : slotP slot := hb2.1 rfl
      have hs7 : 0 ≤ slot ∧ slot ≤ 7 := hsl
      simp only [walk, lists, acts, mem, plain, seqs, maps, cells, resL, resV, intBin, seval, wMap, zm, e2, e8, e9', mG', apps, av]
      refine isHouse_c fun b3 hb3 => ?_
      simp only [walk, lists, acts, mem, plain, seqs, maps, cells, resL, resV, intBin, seval, wMap, zm, e2, e8, e9', mG', apps, av]
      refine ite_f (fun e3 => fin 9 (mapMove_off hok (.inr (not_b hb3 e3)))) fun e3 => ?_
      have hto := hb3.1 e3
      refine ite_pos (fun c4 => fin 2 (mapMove_over hok hsl hto (by omega))) fun c4 => ?_
      have hnv : ¬ 99 ≤ d.version := by have := hok.1.2; omega
      have hsn : slot.toNat < d.owners.length := by omega
      have hg : d.owners.getD slot.toNat 0 = d.owners[slot.toNat] := by rw [List.getD_eq_getElem?_getD, List.getElem?_eq_getElem hsn]; rfl
      refine ⟨⟨by omega, by omega⟩, ?_⟩
      simp only [walk, lists, acts, mem, plain, seqs, maps, cells, resL, resV, intBin, seval, flI_at hsn]
      refine ite_pos (fun c6 => ?_) fun c6 => ?_
      · simp only [walk, lists, acts, mem, plain, seqs, maps, cells, resL, resV, intBin, seval, wMap, zm, e2, e8, e9', mG', apps, av]
        exact fin 3 (mapMove_same hok hsl hto hnv (by rw [hg]; exact c6))
      · simp only [walk, lists, acts, mem, plain, seqs, maps, cells, resL, resV, intBin, seval, wMap, zm, e2, e8, e9', mG', apps, av]
        refine ⟨⟨by omega, by omega⟩, ?_⟩
        rw [hK_map, hK_map]
        refine st_row (i := slot.toNat) (a' := to) (off := 0) eI_len (by omega) hsn rfl (by omega) rfl ?_
        simp only [walk, lists, acts, mem, plain, seqs, maps, cells, resL, resV, intBin, seval, wMap, zm, e2, e8, e9', mG', apps, av]
        have hw1 : IntKind.i64.wrap (d.version + 1) = d.version + 1 := wrapI _ (by have := hok.1.1; omega)
        have hl9 : (d.owners.set slot.toNat to).length = 8 := by rw [List.length_set]; exact hl8
        refine vc_draw _ (Sub.refl _) ?_
        simp only [walk, lists, acts, mem, plain, seqs, maps, cells, resL, resV, intBin, seval, wMap, zm, e2, e8, e9', mG', apps, av, hw1]
        refine raw_all (b := j8) (o := 0) (by simp only [walk, lists, acts, mem, plain, seqs, maps, cells, resL, resV, intBin, seval]) tOwn iInt'.choose_spec ?_
        simp only [walk, lists, acts, mem, plain, seqs, maps, cells, resL, resV, intBin, seval, Sub.refl]
        have row5 : rInts ((j9, blk (cMap d w) 43) :: (G ++ (j8, blk (fl eI (d.owners.set slot.toNat to)) 140) :: (j2, blk (cMap zMap (.slice none 0 0)) 43) :: (j, blk (cMap d ow) 43) :: h)) (.slice (some ⟨j8, 0, none⟩) 8 8) (d.owners.set slot.toNat to) := by
          have := (oLs_new (e := 140) (j := j8) (l := d.owners.set slot.toNat to) eI_len).rd.sub (h := (j9, blk (cMap d w) 43) :: (G ++ (j8, blk (fl eI (d.owners.set slot.toNat to)) 140) :: (j2, blk (cMap zMap (.slice none 0 0)) 43) :: (j, blk (cMap d ow) 43) :: h)) (by (repeat' first | exact Sub.refl _ | exact Sub.nil _ | assumption | refine Sub.both ?_ ?_ | refine Sub.cons_of (by simp only [subs, m9, mG', n8, e8, n2, e2, nG, e9']) ?_ | exact Sub.left _ _ | refine Sub.app (by simp only [subs, m9, mG', n8, e8, n2, e2, nG, e9']) ?_ | refine Sub.cons (by simp only [subs, m9, mG', n8, e8, n2, e2, nG, e9']) ?_))
          rw [hl9] at this; exact this
        refine cloneInts_c row5 (by omega) fun v5 g5 o5 d5 => ?_
        have m5 := d5
        simp only [subs] at m5
        have ov5 := rdS.one o5.rd
        have av5 := wMap.2.2.2.2.2.1 ⟨d.version + 1, []⟩ v5 ov5
        have vc5 := vc1 ov5
        simp only [walk, lists, acts, mem, plain, seqs, maps, cells, resL, resV, intBin, seval, wMap, zm, e2, e8, e9', mG', m5, apps, av, ov5, vc5, Sub.right d5]
        have hmm := mapMove_done hok hsl hto hnv (by rw [hg]; exact c6)
        refine ⟨g5 ++ h, by (repeat' first | exact Sub.refl _ | exact Sub.nil _ | assumption | refine Sub.both ?_ ?_ | refine Sub.cons_of (by simp only [subs, m9, m5, mG', n8, e8, n2, hj, e2, nG, e9']) ?_ | exact Sub.left _ _ | refine Sub.app (by simp only [subs, m9, m5, mG', n8, e8, n2, hj, e2, nG, e9']) ?_ | refine Sub.cons (by simp only [subs, m9, m5, mG', n8, e8, n2, hj, e2, nG, e9']) ?_), ?_⟩
        have := k v5 g5 (by rw [hmm]; exact o5) (by simp only [m5])
        rw [hmm] at this
        exact this
end Go.Proofs.YtmfhlkkligcgdaaGreatDoor
end

/- What words are made of, when that is ok. -/
section
set_option linter.unusedVariables false
set_option linter.unusedSimpArgs false
set_option maxRecDepth 20000
attribute [local irreducible] Go.Tk.vc Go.Tk.vops Go.Tk.vdr Go.Tk.vop Go.Tk.vfl Go.Tk.HCalls
namespace Go.Proofs.YtmfhlkkligcgdaaGreatDoor
open Go Go.Tk

theorem valsOk_c {h : H} {v : Value} {l : List Int} (r : rInts h v l) (hl : l.length ≤ 1099511627776) {R : Ending → H → Prop} (k : Asks R (valsP l) h) : HCalls Tryz.prog 101 #[v] h R := by
  refine HCalls_ir (args := [v]) Tryz.func101 ir101 ?_
  simp only [walk, lists, acts, mem, plain, seqs, maps, cells, resL, resV, intBin, seval, r.len]
  refine vc_loop [7] (fun n vs h' => ∃ i : Nat, vs = [.int .i64 i] ∧ h' = h ∧ i ≤ l.length ∧ n = l.length - i ∧ allP valP (l.take i)) l.length rfl ⟨0, rfl, rfl, by omega, by omega, allP_zero _ _⟩ ?_
  rintro n f h' ⟨i, hv, rfl, hi, rfl, ht⟩
  simp only [List.map_cons, List.map_nil, List.cons.injEq, and_true] at hv
  simp only [walk, lists, acts, mem, plain, seqs, maps, cells, resL, resV, intBin, seval, wr, hv, r.len]
  refine ite_lt (fun c1 => ?_) fun c1 => ?_
  · refine idx_leaf (i := i) eI_len r rfl (by omega) fun b1 o1 e1 => ?_
    simp only [walk, lists, acts, mem, plain, seqs, maps, cells, resL, resV, intBin, seval, hread_1 e1]
    refine isVal_c fun b hb => ?_
    simp only [walk, lists, acts, mem, plain, seqs, maps, cells, resL, resV, intBin, seval]
    refine ite_f (fun e => .of (k.no fun p => allP_not (by omega) (not_b hb e) p.2)) fun e => ?_
    simp (disch := omega) only [wrapI]
    exact ⟨l.length - (i + 1), by omega, h', .refl _, i + 1, by simp, rfl, by omega, rfl, allP_more (by omega) ht (hb.1 e)⟩
  · have := allP_done (by omega) ht
    exact .of (k _ (by simp [valsP, this]; omega))

theorem l3Vals_c {h : H} {v : Value} {l : List Int} (r : rInts h v l) (hl : l.length ≤ 1099511627776) {R : Ending → H → Prop} (k : Asks R (valsP l) h) : HCalls Tryz.prog 90 #[v] h R := by
  refine HCalls_ir (args := [v]) Tryz.func90 ir90 ?_
  simp only [walk, lists, acts, mem, plain, seqs, maps, cells, resL, resV, intBin, seval, r.len]
  refine ite_lt (fun c1 => .of (k.no fun p => ?_)) fun c1 => ?_
  · have := p.1; omega
  refine vc_loop [3] (fun n vs h' => ∃ i : Nat, vs = [.int .i64 i] ∧ h' = h ∧ i ≤ l.length ∧ n = l.length - i ∧ allP valP (l.take i)) l.length rfl ⟨0, rfl, rfl, by omega, by omega, allP_zero _ _⟩ ?_
  rintro n f h' ⟨i, hv, rfl, hi, rfl, ht⟩
  simp only [List.map_cons, List.map_nil, List.cons.injEq, and_true] at hv
  simp only [walk, lists, acts, mem, plain, seqs, maps, cells, resL, resV, intBin, seval, wr, hv, r.len]
  refine ite_lt (fun c1 => ?_) fun c1 => ?_
  · refine idx_leaf (i := i) eI_len r rfl (by omega) fun b1 o1 e1 => ?_
    simp only [walk, lists, acts, mem, plain, seqs, maps, cells, resL, resV, intBin, seval, hread_1 e1]
    refine l1Val_c fun b hb => ?_
    simp only [walk, lists, acts, mem, plain, seqs, maps, cells, resL, resV, intBin, seval]
    refine ite_f (fun e => .of (k.no fun p => allP_not (by omega) (not_b hb e) p.2)) fun e => ?_
    simp (disch := omega) only [wrapI]
    exact ⟨l.length - (i + 1), by omega, h', .refl _, i + 1, by simp, rfl, by omega, rfl, allP_more (by omega) ht (hb.1 e)⟩
  · exact .of (k.yes ⟨by omega, allP_done (by omega) ht⟩)

theorem rising_c {g : FuncId} {P : Int → Prop} (hg : callOk Tryz.prog g = true) (hc : ∀ {a : Int} {h : H} {R : Ending → H → Prop}, Asks R (P a) h → HCalls Tryz.prog g #[.int .i64 a] h R)
    {h : H} {v : Value} {l : List Int} (r : rInts h v l) (hl : l.length ≤ 1099511627776) {R : Ending → H → Prop} (k : Asks R (allP P l ∧ risP id l) h) : HCalls Tryz.prog 103 #[v, .func (.func g) #[] #[]] h R := by
  refine HCalls_ir (args := [v, .func (.func g) #[] #[]]) Tryz.func103 ir103 ?_
  simp only [walk, lists, acts, mem, plain, seqs, maps, cells, resL, resV, intBin, seval, r.len]
  refine vc_loop [9] (fun n vs h' => ∃ i : Nat, vs = [.int .i64 i] ∧ h' = h ∧ i ≤ l.length ∧ n = l.length - i ∧ allP P (l.take i) ∧ risU id l i) l.length rfl ⟨0, rfl, rfl, by omega, by omega, allP_zero _ _, risU_zero _ _⟩ ?_
  rintro n f h' ⟨i, hv, rfl, hi, rfl, ht, hu⟩
  simp only [List.map_cons, List.map_nil, List.cons.injEq, and_true] at hv
  simp only [walk, lists, acts, mem, plain, seqs, maps, cells, resL, resV, intBin, seval, wr, hv, r.len]
  refine ite_lt (fun c1 => ?_) fun c1 => ?_
  · refine idx_leaf (i := i) eI_len r rfl (by omega) fun b1 o1 e1 => ?_
    simp only [walk, lists, acts, mem, plain, seqs, maps, cells, resL, resV, intBin, seval, hread_1 e1]
    refine ⟨hg, hc fun b hb => ?_⟩
    simp (disch := omega) only [walk, lists, acts, mem, plain, seqs, maps, cells, resL, resV, intBin, seval, wrapI]
    refine ite_f (fun e => .of (k.no fun p => allP_not (by omega) (not_b hb e) p.1)) fun e => ?_
    refine ite_lt (fun c2 => ?_) fun c2 => ?_
    · refine idx_leaf (i := i - 1) eI_len r (by omega) (by omega) fun b2 o2 e2 => ?_
      simp (disch := omega) only [walk, lists, acts, mem, plain, seqs, maps, cells, resL, resV, intBin, seval, hread_1 e2, wrapI]
      refine ite_ge (fun c3 => .of (k.no fun p => risU_not (i := i) (by omega) (by omega) (fun x => ?_) p.2)) fun c3 => ?_
      · simp only [id] at x; omega
      · exact ⟨l.length - (i + 1), by omega, h', .refl _, i + 1, by simp, rfl, by omega, rfl, allP_more (by omega) ht (hb.1 e), risU_more (by omega) (by omega) hu c3⟩
    · exact ⟨l.length - (i + 1), by omega, h', .refl _, i + 1, by simp, rfl, by omega, rfl, allP_more (by omega) ht (hb.1 e), risU_one (by omega) hu⟩
  · exact .of (k.yes ⟨allP_done (by omega) ht, risU_done (by omega) hu⟩)

theorem pair_cells {h : H} {b o : Nat} {p : Int × Int} (e : hread h b o 2 = some (eP p)) : hcel h b o = some (.int .i64 p.1) ∧ hcel h b (o + 1) = some (.int .i64 p.2) := ⟨hread_c e 0 rfl, hread_c e 1 rfl⟩

theorem pairsOk_c {h : H} {v : Value} {l : List (Int × Int)} (r : rPairs h v l) (hl : l.length ≤ 1099511627776) {R : Ending → H → Prop} (k : Asks R (pairsP l) h) : HCalls Tryz.prog 102 #[v] h R := by
  refine HCalls_ir (args := [v]) Tryz.func102 ir102 ?_
  simp only [walk, lists, acts, mem, plain, seqs, maps, cells, resL, resV, intBin, seval, r.len]
  refine ite_lt (fun c0 => .of (k.no fun p => ?_)) fun c0 => ?_
  · have := p.1; omega
  refine vc_loop [10] (fun n vs h' => ∃ i : Nat, vs = [.int .i64 i] ∧ h' = h ∧ i ≤ l.length ∧ n = l.length - i ∧ allP pairP (l.take i) ∧ risU (·.1) l i) l.length rfl ⟨0, rfl, rfl, by omega, by omega, allP_zero _ _, risU_zero _ _⟩ ?_
  rintro n f h' ⟨i, hv, rfl, hi, rfl, ht, hu⟩
  simp only [List.map_cons, List.map_nil, List.cons.injEq, and_true] at hv
  simp only [walk, lists, acts, mem, plain, seqs, maps, cells, resL, resV, intBin, seval, wr, hv, r.len]
  refine ite_lt (fun c1 => ?_) fun c1 => ?_
  · refine idx_leaf (i := i) eP_len r rfl (by omega) fun b1 o1 e1 => ?_
    simp only [walk, lists, acts, mem, plain, seqs, maps, cells, resL, resV, intBin, seval, e1]
    refine newB_intro fun j hj => ?_
    have sj := fun o => Sub.cons (o := o) hj (Sub.refl h')
    have hi2 : i < l.length := by omega
    generalize hx : l[i] = x at *
    have zp : [Value.int .i64 0, .int .i64 0] = eP (0, 0) := rfl
    simp only [zp, walk, lists, acts, mem, plain, seqs, maps, cells, resL, resV, intBin, seval, wPair]
    refine vc_draw _ (Sub.refl _) ?_
    simp only [walk, lists, acts, mem, plain, seqs, maps, cells, resL, resV, intBin, seval, wPair]
    refine isKey_c fun b hb => ?_
    simp (disch := omega) only [walk, lists, acts, mem, plain, seqs, maps, cells, resL, resV, intBin, seval, wPair, wrapI]
    refine ite_f (fun e => ⟨h', sj _, k.no fun p => allP_not hi2 (fun y => not_b hb e (by rw [hx] at y; exact y.1)) p.2.1⟩) fun e => ?_
    refine isVal_c fun b2 hb2 => ?_
    simp (disch := omega) only [walk, lists, acts, mem, plain, seqs, maps, cells, resL, resV, intBin, seval, wPair, wrapI]
    refine ite_f (fun e => ⟨h', sj _, k.no fun p => allP_not hi2 (fun y => not_b hb2 e (by rw [hx] at y; exact y.2)) p.2.1⟩) fun e' => ?_
    have hok : pairP l[i] := by rw [hx]; exact ⟨hb.1 e, hb2.1 e'⟩
    refine ite_lt (fun c2 => ?_) fun c2 => ?_
    · refine idx_leaf (i := i - 1) eP_len (r.sub (sj (blk (eP x) 136))) (by omega) (by omega) fun b2 o2 e2 => ?_
      simp (disch := omega) only [walk, lists, acts, mem, plain, seqs, maps, cells, resL, resV, intBin, seval, wPair, (pair_cells e2).1, wrapI]
      refine ite_ge (fun c3 => ⟨h', sj _, k.no fun p => risU_not (i := i) hi2 (by omega) (fun y => ?_) p.2.2⟩) fun c3 => ?_
      · simp only [hx] at y; omega
      · exact ⟨l.length - (i + 1), by omega, h', sj _, i + 1, by simp, rfl, by omega, rfl, allP_more (by omega) ht hok, risU_more (by omega) (by omega) hu (by simp only [hx]; exact c3)⟩
    · exact ⟨l.length - (i + 1), by omega, h', sj _, i + 1, by simp, rfl, by omega, rfl, allP_more (by omega) ht hok, risU_one (by omega) hu⟩
  · exact .of (k.yes ⟨by omega, allP_done (by omega) ht, risU_done (by omega) hu⟩)

theorem l1Pairs_c {h : H} {v : Value} {l : List (Int × Int)} (r : rPairs h v l) (hl : l.length ≤ 1099511627776) {R : Ending → H → Prop} (k : Asks R (pairsP l) h) : HCalls Tryz.prog 91 #[v] h R := by
  refine HCalls_ir (args := [v]) Tryz.func91 ir91 ?_
  simp only [walk, lists, acts, mem, plain, seqs, maps, cells, resL, resV, intBin, seval, r.len]
  refine ite_lt (fun c0 => .of (k.no fun p => ?_)) fun c0 => ?_
  · have := p.1; omega
  refine vc_loop [3] (fun n vs h' => ∃ i : Nat, vs = [.int .i64 i] ∧ h' = h ∧ i ≤ l.length ∧ n = l.length - i ∧ allP pairP (l.take i) ∧ risU (·.1) l i) l.length rfl ⟨0, rfl, rfl, by omega, by omega, allP_zero _ _, risU_zero _ _⟩ ?_
  rintro n f h' ⟨i, hv, rfl, hi, rfl, ht, hu⟩
  simp only [List.map_cons, List.map_nil, List.cons.injEq, and_true] at hv
  simp only [walk, lists, acts, mem, plain, seqs, maps, cells, resL, resV, intBin, seval, wr, hv, r.len]
  refine ite_lt (fun c1 => ?_) fun c1 => ?_
  · refine vc_draw _ (Sub.refl _) ?_
    have hi2 : i < l.length := by omega
    simp only [walk, lists, acts, mem, plain, seqs, maps, cells, resL, resV, intBin, seval]
    refine idx_leaf (i := i) eP_len r rfl hi2 fun b1 o1 e1 => ?_
    simp only [walk, lists, acts, mem, plain, seqs, maps, cells, resL, resV, intBin, seval, (pair_cells e1).1]
    refine l6In_c fun b hb => ?_
    simp (disch := omega) only [walk, lists, acts, mem, plain, seqs, maps, cells, resL, resV, intBin, seval, wrapI]
    refine ite_f (fun e => .of (k.no fun p => allP_not hi2 (fun y => not_b hb e y.1) p.2.1)) fun e => ?_
    refine idx_leaf (i := i) eP_len r rfl hi2 fun b2 o2 e2 => ?_
    simp only [walk, lists, acts, mem, plain, seqs, maps, cells, resL, resV, intBin, seval, (pair_cells e2).2]
    refine l1Val_c fun b2 hb2 => ?_
    simp (disch := omega) only [walk, lists, acts, mem, plain, seqs, maps, cells, resL, resV, intBin, seval, wrapI]
    refine ite_f (fun e => .of (k.no fun p => allP_not hi2 (fun y => not_b hb2 e y.2) p.2.1)) fun e' => ?_
    have hok : pairP l[i] := ⟨hb.1 e, hb2.1 e'⟩
    refine ite_lt (fun c2 => ?_) fun c2 => ?_
    · refine idx_leaf (i := i - 1) eP_len r (by omega) (by omega) fun b3 o3 e3 => ?_
      simp (disch := omega) only [walk, lists, acts, mem, plain, seqs, maps, cells, resL, resV, intBin, seval, (pair_cells e3).1, wrapI]
      refine idx_leaf (i := i) eP_len r rfl (by omega) fun b4 o4 e4 => ?_
      simp (disch := omega) only [walk, lists, acts, mem, plain, seqs, maps, cells, resL, resV, intBin, seval, (pair_cells e4).1, wrapI]
      refine ite_ge (fun c3 => .of (k.no fun p => risU_not (i := i) hi2 (by omega) (fun y => ?_) p.2.2)) fun c3 => ?_
      · omega
      · exact ⟨l.length - (i + 1), by omega, h', .refl _, i + 1, by simp, rfl, by omega, rfl, allP_more (by omega) ht hok, risU_more (by omega) (by omega) hu c3⟩
    · exact ⟨l.length - (i + 1), by omega, h', .refl _, i + 1, by simp, rfl, by omega, rfl, allP_more (by omega) ht hok, risU_one (by omega) hu⟩
  · exact .of (k.yes ⟨by omega, allP_done (by omega) ht, risU_done (by omega) hu⟩)

end Go.Proofs.YtmfhlkkligcgdaaGreatDoor
end

/- The library's cuts of texts into rows. -/
section
set_option linter.unusedVariables false
set_option linter.unusedSimpArgs false
set_option maxRecDepth 20000
attribute [local irreducible] Go.Tk.vc Go.Tk.vops Go.Tk.vdr Go.Tk.vop Go.Tk.vfl Go.Tk.HCalls
namespace Go.Tk
open Go
theorem idx1 (s : List UInt8) (c : UInt8) : Lib.indexB ⟨s.toArray⟩ ⟨#[c]⟩ = Lib.indexByte s c := Lib.index_one s c
theorem split_lib (c : UInt8) : ∀ (n : Nat) (s : List UInt8), s.length ≤ n → (Lib.splitB ⟨#[c]⟩ 0 (Lib.countB ⟨s.toArray⟩ ⟨#[c]⟩) ⟨s.toArray⟩).map (fun b => b.data.toList) = splitB c s := by
  intro n
  induction n with
  | zero =>
    intro s hs
    have : s = [] := List.length_eq_zero_iff.1 (by omega)
    subst this
    have hm : Lib.indexB ⟨([] : List UInt8).toArray⟩ ⟨#[c]⟩ = -1 := by rw [idx1]; rfl
    rw [Lib.splitB_miss _ _ _ _ hm]
    rfl
  | succ n ih =>
    intro s hs
    obtain ⟨a, b, f, hc, hi⟩ := index_cut c s
    rw [← idx1] at hi
    cases f with
    | false =>
      rw [if_neg (by decide)] at hi
      rw [Lib.splitB_miss _ _ _ _ hi]
      obtain ⟨h1, ⟨h, _⟩ | ⟨_, h2, _⟩⟩ := hc
      · cases h
      · subst h2
        rw [splitB_none h1]; rfl
    | true =>
      rw [if_pos rfl] at hi
      obtain ⟨h1, ⟨_, h2⟩ | ⟨h, _⟩⟩ := hc
      · have e1 : ((⟨s.toArray⟩ : ByteArray).extract (a.length + (⟨#[c]⟩ : ByteArray).size) (⟨s.toArray⟩ : ByteArray).size) = ⟨b.toArray⟩ := by
          apply ByteArray.ext
          rw [ByteArray.data_extract]
          apply Array.ext'
          rw [Array.toList_extract]
          show (s.drop (a.length + 1)).take (s.length - (a.length + 1)) = b
          have e3 : s.drop (a.length + 1) = b := by rw [h2]; simp
          rw [e3, h2]
          exact List.take_of_length_le (by simp only [List.length_append, List.length_cons]; omega)
        have e2 : ((⟨s.toArray⟩ : ByteArray).extract 0 (a.length + 0)).data.toList = a := by
          rw [ByteArray.data_extract, Array.toList_extract]
          show (s.drop 0).take (a.length + 0 - 0) = a
          rw [h2]; simp
        rw [Lib.countB_hit ⟨s.toArray⟩ ⟨#[c]⟩ a.length (Nat.le_refl 1) hi, Nat.add_comm, Lib.splitB_hit _ _ _ _ _ hi, e1, List.map_cons, e2, ih b (by rw [h2, List.length_append, List.length_cons] at hs; omega), h2, splitB_app b h1]
      · cases h
theorem fl_eT : ∀ l : List (List UInt8), fl eT l = l.map fun t => .string ⟨t.toArray⟩ := by
  intro l
  induction l with
  | nil => rfl
  | cons a l ih => rw [fl_cons, ih]; rfl
end Go.Tk
namespace Go.Proofs.YtmfhlkkligcgdaaGreatDoor
open Go Go.Tk Go.RowKit

/-- Some number stands where the library keeps how long a short text is. -/
def MxL (h : H) : Prop := ∃ c e f m, hget h 0 = some (.cells c e f) ∧ c[0]? = some (.int .i64 m)
theorem MxL.sub {g h : H} (k : MxL g) (s : Tk.Sub g h) : MxL h := by
  obtain ⟨c, e, f, m, h1, h2⟩ := k
  exact ⟨c, e, f, m, s _ _ h1, h2⟩
theorem mxl_of {w : World} (h : w.ShapedOpen Tryz.prog) : MxL (full w) := by
  obtain ⟨m, hm⟩ := Go.Proofs.cell_of_shapedOpen_int (g := 0) (k := .i64) (zero := #[.int .i64 0]) (t := 3) h (of_decide_eq_true (by kernel_rfl)) (by kernel_rfl) rfl (by kernel_rfl) (by kernel_rfl) Tryz.underlying3
  obtain ⟨b, off, c, e, f, h1, h2, h3⟩ := cell_plain hm
  cases h1
  exact ⟨c, e, f, m, by rw [hget_full]; exact h2, by simpa using h3⟩

theorem split_c {h : H} {s : List UInt8} {c : UInt8} (gm : MxL h) (hs : s.length ≤ 4194304) {R : Ending → H → Prop} (k : ∀ v g, oLs 9 eT 1 v (splitB c s) g → Dj g h → R (.returned v) (g ++ h)) :
    HCalls Tryz.prog 146 #[.string ⟨s.toArray⟩, .string ⟨#[c]⟩] h R := by
  refine .of_calls fun w sa => ?_
  obtain ⟨cs, e, f, m, h1, h2⟩ := gm
  have hc : w.cell? ⟨0, 0, none⟩ = some (.int .i64 m) := by
    have := sa _ _ h1
    simp only [World.cell?, this, Option.isSome_none, Bool.false_eq_true, if_false, h2]
  have hz : (⟨s.toArray⟩ : ByteArray).size = s.length := rfl
  refine (Tryz.strings_Split ⟨s.toArray⟩ ⟨#[c]⟩ m w (by rw [hz]; omega) hc (Nat.le_refl 1)).mono ?_
  rintro e' w' ⟨rfl, hw⟩
  have hl := split_lib c s.length s (Nat.le_refl _)
  have hv : ((Lib.splitB ⟨#[c]⟩ 0 (Lib.countB ⟨s.toArray⟩ ⟨#[c]⟩) ⟨s.toArray⟩).map Value.string) = fl eT (splitB c s) := by
    rw [fl_eT, ← hl, List.map_map]
    apply List.map_congr_left
    intro x _
    rfl
  have hn : Lib.countB ⟨s.toArray⟩ ⟨#[c]⟩ + 1 = (splitB c s).length := by
    rw [← Lib.splitB_all ⟨#[c]⟩ (Nat.le_refl 1) 0 _ ⟨s.toArray⟩ rfl, ← hl, List.length_map]
  rw [hv] at hw
  rw [hn]
  have hnew : hget h w.heap.size = none := by
    cases e : hget h w.heap.size with
    | none => rfl
    | some o => exact absurd (sa.lt (by rw [e]; simp)) (by omega)
  have := k (.slice (some ⟨w.heap.size, 0, none⟩) (splitB c s).length (splitB c s).length) [(w.heap.size, blk (fl eT (splitB c s)) 9)] (oLs_new eT_len) (by simp only [subs, hnew])
  exact ⟨_, this, Pst.push sa (blk (fl eT (splitB c s)) 9) hw⟩

end Go.Proofs.YtmfhlkkligcgdaaGreatDoor
end

/- What stands first in a row. -/
section
set_option linter.unusedVariables false
set_option linter.unusedSimpArgs false
set_option maxRecDepth 20000
attribute [local irreducible] Go.Tk.vc Go.Tk.vops Go.Tk.vdr Go.Tk.vop Go.Tk.vfl Go.Tk.HCalls
namespace Go.Proofs.YtmfhlkkligcgdaaGreatDoor
open Go Go.Tk Go.RowKit
/-- Where a text stands in a row of texts. -/
theorem index_of_c {h : H} {v : Value} {l : List (List UInt8)} {s : List UInt8} (r : rLs h eT 1 v l) (hl : l.length ≤ 1048576) {R : Ending → H → Prop} (k : ∀ n : Int, (∀ i (hi : i < l.length), l[i] = s → (∀ j (hj : j < i), l[j] ≠ s) → n = (i : Int)) → ((∀ x ∈ l, x ≠ s) → n = -1) → (-1 ≤ n ∧ n < l.length) → R (.returned (.int .i64 n)) h) :
    HCalls Tryz.prog 147 #[v, .string ⟨s.toArray⟩] h R := by
  refine HCalls_ir (args := [v, .string ⟨s.toArray⟩]) Tryz.func147 ir147 ?_
  simp only [walk, lists, acts, mem, plain, seqs, maps, cells, resL, resV, intBin, seval, r.len]
  refine vc_loop [8] (fun n vs h' => ∃ (i : Nat), vs = [.int .i64 i] ∧ h' = h ∧ (∀ x ∈ l.take i, x ≠ s) ∧ i ≤ l.length ∧ n = l.length - i) l.length rfl
    ⟨0, rfl, rfl, by simp, by omega, rfl⟩ ?_
  rintro n f h' ⟨i, hv, rfl, hn, hi, rfl⟩
  simp only [List.map_cons, List.map_nil, List.cons.injEq, and_true] at hv
  simp only [walk, lists, acts, mem, plain, seqs, maps, cells, resL, resV, intBin, seval, wr, hv, r.len]
  refine ite_lt (fun c => ?_) fun c => ?_
  · have hi2 : i < l.length := by omega
    refine idx_leaf (i := i) eT_len r rfl hi2 fun b1 o1 e1 => ?_
    have e1' : hread h' b1 o1 1 = some [.string ⟨(l[i]).toArray⟩] := e1
    simp only [walk, lists, acts, mem, plain, seqs, maps, cells, resL, resV, intBin, seval, hread_1 e1', strBin, str_inj]
    refine ite_pos (fun ce => ?_) fun ce => ?_
    · refine .of (k i (fun j hj he hf => ?_) (fun hx => absurd ce.symm (hx _ (List.getElem_mem hi2))) (by omega))
      rcases Nat.lt_trichotomy i j with x | x | x
      · exact absurd ce.symm (hf i x)
      · rw [x]
      · exact absurd he (hn _ (by rw [List.mem_take_iff_getElem]; exact ⟨j, by omega, rfl⟩))
    · simp (disch := omega) only [walk, lists, acts, mem, plain, seqs, maps, cells, resL, resV, intBin, seval, wrapI]
      refine ⟨l.length - (i + 1), by omega, h', .refl _, i + 1, by simp, rfl, fun x hx => ?_, by omega, rfl⟩
      rw [List.take_succ_eq_append_getElem hi2] at hx
      rcases List.mem_append.1 hx with hx | hx
      · exact hn x hx
      · rw [List.mem_singleton] at hx
        rw [hx]; exact fun e => ce e.symm
  · have hi2 : i = l.length := by omega
    subst hi2
    rw [List.take_length] at hn
    exact .of (k (-1) (fun i hi he _ => absurd he (hn _ (List.getElem_mem hi))) (fun _ => rfl) (by omega))
end Go.Proofs.YtmfhlkkligcgdaaGreatDoor
end

/- What both call ok; how the reference writes deals. -/
section
set_option linter.unusedVariables false
set_option linter.unusedSimpArgs false
set_option maxRecDepth 20000
attribute [local irreducible] Go.Tk.vc Go.Tk.vops Go.Tk.vdr Go.Tk.vop Go.Tk.vfl Go.Tk.HCalls
namespace Go.Proofs.YtmfhlkkligcgdaaGreatDoor
open Go Go.Tk

theorem cStatement_len (s : DStatement) : (cStatement s).length = 3 := rfl
theorem dealOk_c {h : H} {v : Value} {l : List DStatement} (r : rLs h cStatement 3 v l) (hl : l.length ≤ 1099511627776) {R : Ending → H → Prop} (k : Asks R (dealP l) h) : HCalls Tryz.prog 143 #[v] h R := by
  refine HCalls_ir (args := [v]) Tryz.func143 ir143 ?_
  have zs := zStatement_eq
  simp only [walk, lists, acts, mem, plain, seqs, maps, cells, resL, resV, intBin, seval, r.len, zs]
  refine ite_lt (fun c => .of (k.no fun p => by have := p.1; omega)) fun c0 => ?_
  refine ite_lt (fun c => .of (k.no fun p => by have := p.2.1; omega)) fun c1 => ?_
  refine vc_loopS [3] (fun n vs h' => ∃ i : Nat, vs = [.int .i64 i] ∧ h' = h ∧ i ≤ l.length ∧ n = l.length - i ∧ allP stP (l.take i)) l.length rfl (Sub.refl _) ⟨0, rfl, rfl, by omega, by omega, allP_zero _ _⟩ ?_
  rintro n f h' ⟨i, hv, rfl, hi, rfl, ht⟩
  simp only [List.map_cons, List.map_nil, List.cons.injEq, and_true] at hv
  simp only [walk, lists, acts, mem, plain, seqs, maps, cells, resL, resV, intBin, seval, wr, hv, r.len, zs]
  refine ite_lt (fun c2 => ?_) fun c2 => ?_
  · refine idx_leaf (i := i) cStatement_len r rfl (by omega) fun b1 o1 e1 => ?_
    simp only [walk, lists, acts, mem, plain, seqs, maps, cells, resL, resV, intBin, seval, e1, zs]
    refine newB_intro fun j hj => ?_
    have hi2 : i < l.length := by omega
    obtain ⟨s, hs⟩ : ∃ s, s = l[i] := ⟨_, rfl⟩
    have sj := fun o => Sub.cons (o := o) hj (Sub.refl h')
    simp only [walk, lists, acts, mem, plain, seqs, maps, cells, resL, resV, intBin, seval, wStatement, zs]
    have no : ¬ stP l[i] → ∀ o, dP R (.returned (.bool false)) ((j, o) :: h') := fun hn o => ⟨h', sj o, k.no fun p => hn (p.2.2 _ (List.getElem_mem hi2))⟩
    refine l6In_c fun b hb => ?_
    simp only [walk, lists, acts, mem, plain, seqs, maps, cells, resL, resV, intBin, seval, wStatement]
    refine ite_f (fun e => no (fun p => not_b hb e p.1) _) fun e1 => ?_
    refine l6In_c fun b2 hb2 => ?_
    simp only [walk, lists, acts, mem, plain, seqs, maps, cells, resL, resV, intBin, seval, wStatement]
    refine ite_f (fun e => no (fun p => not_b hb2 e p.2.1) _) fun e2 => ?_
    refine l1Val_c fun b3 hb3 => ?_
    simp only [walk, lists, acts, mem, plain, seqs, maps, cells, resL, resV, intBin, seval, wStatement]
    refine ite_f (fun e => no (fun p => not_b hb3 e p.2.2.1) _) fun e3 => ?_
    have go : stP l[i] → ∀ o, ∃ m, m < l.length - i ∧ ∃ g, Tk.Sub g ((j, o) :: h') ∧ ∃ i' : Nat, [Value.int IntKind.i64 (IntKind.i64.wrap ((i : Int) + 1))] = [Value.int IntKind.i64 i'] ∧ g = h' ∧ i' ≤ l.length ∧ m = l.length - i' ∧ allP stP (l.take i') := fun p o =>
      ⟨l.length - (i + 1), by omega, h', sj o, i + 1, by simp (disch := omega) only [wrapI]; simp, rfl, by omega, rfl, allP_more (by omega) ht p⟩
    refine ite_pos (fun e4 => ?_) fun e4 => ?_
    · refine ite_pos (fun e5 => no (fun p => e5 (p.2.2.2 e4)) _) fun e5 => ?_
      exact go ⟨hb.1 e1, hb2.1 e2, hb3.1 e3, fun _ => Classical.not_not.1 e5⟩ _
    · exact go ⟨hb.1 e1, hb2.1 e2, hb3.1 e3, fun x => absurd x e4⟩ _
  · exact .of (k.yes ⟨by omega, by omega, allP_done (by omega) ht⟩)

theorem opName_at {n : Int} (h : 1 ≤ n ∧ n ≤ 4) : (fl eT [[], [103, 101, 116, 32], [112, 117, 116, 32], [97, 100, 100, 32], [110, 101, 101, 100, 32]])[n.toNat]? = some (.string ⟨(opName n).toArray⟩) := by
  have : n = 1 ∨ n = 2 ∨ n = 3 ∨ n = 4 := by omega
  rcases this with rfl | rfl | rfl | rfl <;> rfl
def dealT (l : List DStatement) (t : List UInt8) : Prop := (dealP l ∧ t = dealText l) ∨ (¬ dealP l ∧ t = [])
theorem dealWrite_c {h : H} {v : Value} {l : List DStatement} (r : rLs h cStatement 3 v l) (hl : l.length ≤ 1099511627776) {R : Ending → H → Prop} (k : ∀ t, dealT l t → R (.returned (.string ⟨t.toArray⟩)) h) : HCalls Tryz.prog 136 #[v] h R := by
  refine HCalls_ir (args := [v]) Tryz.func136 ir136 ?_
  have zs := zStatement_eq
  simp only [walk, lists, acts, mem, plain, seqs, maps, cells, resL, resV, intBin, seval, str, r.len, zs]
  refine dealOk_c r hl fun b hb => ?_
  simp only [walk, lists, acts, mem, plain, seqs, maps, cells, resL, resV, intBin, seval]
  refine ite_f (fun e => .of (k [] (.inr ⟨not_b hb e, rfl⟩))) fun e => ?_
  have dp := hb.1 e
  have hl6 := dp.2.1
  refine vc_loopS [3, 4] (fun n vs h' => ∃ i : Nat, vs = [.string ⟨(dealText (l.take i)).toArray⟩, .int .i64 i] ∧ h' = h ∧ i ≤ l.length ∧ n = l.length - i) l.length rfl (Sub.refl _) ⟨0, by simp [dealText], rfl, by omega, by omega⟩ ?_
  rintro n f h' ⟨i, hv, rfl, hi, rfl⟩
  simp only [List.map_cons, List.map_nil, List.cons.injEq, and_true] at hv
  simp only [walk, lists, acts, mem, plain, seqs, maps, cells, resL, resV, intBin, seval, wr, hv.1, hv.2, r.len, zs]
  refine ite_lt (fun c2 => ?_) fun c2 => ?_
  · refine idx_leaf (i := i) cStatement_len r rfl (by omega) fun b1 o1 e1 => ?_
    simp only [walk, lists, acts, mem, plain, seqs, maps, cells, resL, resV, intBin, seval, e1, zs]
    refine newB_intro fun j hj => ?_
    have hi2 : i < l.length := by omega
    have sj := fun o => Sub.cons (o := o) hj (Sub.refl h')
    have st : stP l[i] := dp.2.2 _ (List.getElem_mem hi2)
    have hlen := dealText_len (l := l.take i) fun x hx => dp.2.2 x (List.mem_of_mem_take hx)
    rw [List.length_take] at hlen
    have hon := opName_len l[i].do_
    have hdk := decI_len (i := l[i].key) (by have := st.2.1; simp only [inP] at this; omega)
    have hdn := decI_len (i := l[i].num) (by have := st.2.2.1; simp only [valP, inP] at this; omega)
    have hdo := st.1
    simp only [inP] at hdo
    simp only [walk, lists, acts, mem, plain, seqs, maps, cells, resL, resV, intBin, seval, wStatement, zs]
    refine vc_draw _ (Sub.refl _) ?_
    simp only [walk, lists, acts, mem, plain, seqs, maps, cells, resL, resV, intBin, seval, wStatement]
    refine pcall_intro (.string ⟨(decI l[i].key).toArray⟩) (fun R r => l6Dec_c (by unfold i64P; have := st.2.1; simp only [inP] at this; omega) r) ?_
    simp only [walk, lists, acts, mem, plain, seqs, maps, cells, resL, resV, intBin, seval, str]
    refine newB_intro (o := blk (fl eT [[], [103, 101, 116, 32], [112, 117, 116, 32], [97, 100, 100, 32], [110, 101, 101, 100, 32]]) 9) fun j2 hj2 => ?_
    have sj2 := Sub_new (o := blk (fl eT [[], [103, 101, 116, 32], [112, 117, 116, 32], [97, 100, 100, 32], [110, 101, 101, 100, 32]]) 9) hj2
    simp only [walk, lists, acts, mem, plain, seqs, maps, cells, resL, resV, intBin, seval, sj2]
    refine ⟨⟨by omega, by omega⟩, ?_⟩
    rw [opName_at hdo]
    have z1 : (dealText (l.take i)).length + (opName l[i].do_).length ≤ 9223372036854775807 := by omega
    have z2 : (dealText (l.take i) ++ opName l[i].do_).length + (decI l[i].key).length ≤ 9223372036854775807 := by rw [List.length_append]; omega
    have n2 := fresh hj2
    simp only [walk, lists, acts, mem, plain, seqs, maps, cells, resL, resV, intBin, seval, sj2, str_add _ _ z1, str_add _ _ z2, wStatement, n2.1, n2.2.1]
    have go : ∀ t, t = dealText (l.take i) ++ stText l[i] → ∀ m, Tk.Sub h' m → ∃ m', m' < l.length - i ∧ ∃ g, Tk.Sub g m ∧ ∃ i' : Nat, [Value.string ⟨t.toArray⟩, Value.int IntKind.i64 (IntKind.i64.wrap ((i : Int) + 1))] = [Value.string ⟨(dealText (l.take i')).toArray⟩, Value.int IntKind.i64 i'] ∧ g = h' ∧ i' ≤ l.length ∧ m' = l.length - i' := fun t ht m hm =>
      ⟨l.length - (i + 1), by omega, h', hm, i + 1, by
        simp (disch := omega) only [wrapI]
        rw [ht, take_app_one hi2, dealText_app, dealText_one]; simp, rfl, by omega, rfl⟩
    have sM : Tk.Sub h' ((j2, blk (fl eT [[], [103, 101, 116, 32], [112, 117, 116, 32], [97, 100, 100, 32], [110, 101, 101, 100, 32]]) 9) :: (j, blk (cStatement l[i]) 161) :: h') := Sub.cons hj2 (sj _)
    obtain ⟨A, hA⟩ : ∃ A, A = dealText (l.take i) ++ opName l[i].do_ ++ decI l[i].key := ⟨_, rfl⟩
    have hAl : A.length ≤ 400 := by rw [hA]; simp only [List.length_append]; omega
    rw [← hA]
    refine ite_pos (fun c3 => ?_) fun c3 => ?_
    · have z3 : A.length + ([32] : List UInt8).length ≤ 9223372036854775807 := by simp only [List.length_cons, List.length_nil]; omega
      simp only [walk, lists, acts, mem, plain, seqs, maps, cells, resL, resV, intBin, seval, str_add _ _ z3, wStatement, n2.1, n2.2.1]
      refine l1Int_c (by have := st.2.2.1; simp only [valP, inP] at this; omega) ?_
      have z4 : (A ++ [32]).length + (decI l[i].num).length ≤ 9223372036854775807 := by simp only [List.length_append, List.length_cons, List.length_nil]; omega
      have z5 : (A ++ [32] ++ decI l[i].num).length + ([59] : List UInt8).length ≤ 9223372036854775807 := by simp only [List.length_append, List.length_cons, List.length_nil]; omega
      simp only [walk, lists, acts, mem, plain, seqs, maps, cells, resL, resV, intBin, seval, str_add _ _ z4, str_add _ _ z5]
      refine go _ ?_ _ sM
      rw [hA, stText, if_neg c3]; simp
    · have z5 : A.length + ([59] : List UInt8).length ≤ 9223372036854775807 := by simp only [List.length_cons, List.length_nil]; omega
      simp only [walk, lists, acts, mem, plain, seqs, maps, cells, resL, resV, intBin, seval, str_add _ _ z5]
      refine go _ ?_ _ sM
      rw [hA, stText, if_pos (Classical.not_not.1 c3)]; simp
  · rw [List.take_of_length_le (by omega)]
    exact .of (k _ (.inl ⟨dp, rfl⟩))
end Go.Proofs.YtmfhlkkligcgdaaGreatDoor
end

/- How the reference reads deals. -/
section
set_option linter.unusedVariables false
set_option linter.unusedSimpArgs false
set_option maxRecDepth 20000
attribute [local irreducible] Go.Tk.vc Go.Tk.vops Go.Tk.vdr Go.Tk.vop Go.Tk.vfl Go.Tk.HCalls
namespace Go.Tk
open Go
/-- Names by number, the first being none. -/
def tbD : List (List UInt8) := [[], [103, 101, 116], [112, 117, 116], [97, 100, 100], [110, 101, 101, 100]]
theorem tbD_get {k : Nat} (h : 1 ≤ k ∧ k ≤ 4) : (fl eT tbD)[k]? = some (.string ⟨(nmD k).toArray⟩) := by
  have : k = 1 ∨ k = 2 ∨ k = 3 ∨ k = 4 := by omega
  rcases this with rfl | rfl | rfl | rfl <;> rfl
theorem words_len (s : DStatement) : (wordsD s).length = if s.do_ = 1 then 2 else 3 := by
  unfold wordsD
  split <;> rfl
theorem deal_part {d : List DStatement} {s : List UInt8} (h : s = dealText d) {i : Nat} (hi : i + 1 < (splitB 59 s).length) : ∃ hd : i < d.length, (splitB 59 s)[i] = stW d[i] := by
  have e : splitB 59 s = d.map stW ++ [[]] := by rw [h, deal_split]
  have hl := congrArg List.length e
  rw [List.length_append, List.length_map, List.length_singleton] at hl
  refine ⟨by omega, ?_⟩
  have : ∀ (m : List (List UInt8)) (hm : i < m.length), m = d.map stW ++ [[]] → m[i] = stW (d[i]'(by omega)) := by
    rintro m hm rfl
    rw [List.getElem_append_left (by rw [List.length_map]; omega), List.getElem_map]
  exact this _ (by omega) e
end Go.Tk
namespace Go.Proofs.YtmfhlkkligcgdaaGreatDoor
open Go Go.Tk

theorem cStatement_one (l : List DStatement) : (fl cStatement l).all vone = true := by induction l <;> simp_all [fl, cStatement, vone]

theorem specRead_c {h : H} {s : List UInt8} (hs : s.length ≤ 4194304) {R : Ending → H → Prop} (k : ∀ v g l ok, OutD s l ok → oLs 161 cStatement 3 v l g → Dj g h → R (.returned (.tuple #[v, .bool ok])) (g ++ h)) :
    HCalls Tryz.prog 118 #[.string ⟨s.toArray⟩] h R := by
  refine HCalls_ir (args := [.string ⟨s.toArray⟩]) Tryz.func118 ir118 ?_
  have zs := zStatement_eq
  simp only [walk, lists, acts, mem, plain, seqs, maps, cells, resL, resV, intBin, seval, str, zs]
  refine newB_intro (o := blk (fl cStatement []) 161) fun jn hjn => ?_
  have on : oLs 161 cStatement 3 (.slice (some ⟨jn, 0, none⟩) 0 0) [] [(jn, blk (fl cStatement []) 161)] := oLs_new cStatement_len
  have sn := Sub.cons (o := blk (fl cStatement []) 161) hjn (Sub.refl h)
  have bad : ∀ {M : H}, Tk.Sub ((jn, blk (fl cStatement []) 161) :: h) M → (∀ d, dealP d → s = dealText d → s.length ≤ 80 → False) → dP R (.returned (.tuple #[.slice (some ⟨jn, 0, none⟩) 0 0, .bool false])) M := fun {M} sM e => ⟨_, sM, k _ _ [] false (.inr ⟨rfl, rfl, e⟩) on (by simp only [subs, hjn])⟩
  simp only [walk, lists, acts, mem, plain, seqs, maps, cells, resL, resV, intBin, seval, str, zs]
  refine ite_lt (fun c => bad (.refl _) fun d _ _ h => by omega) fun c => ?_
  refine newB_intro (o := blk (fl cStatement []) 161) fun jo hjo => ?_
  have no := hjo
  simp only [subs] at no
  have ejn : ¬ jn = jo := fun e => no.1 e.symm
  have oo : oLs 161 cStatement 3 (.slice (some ⟨jo, 0, none⟩) 0 0) [] [(jo, blk (fl cStatement []) 161)] := oLs_new cStatement_len
  simp only [walk, lists, acts, mem, plain, seqs, maps, cells, resL, resV, intBin, seval, str, zs]
  refine (l1Cut_c (c := 59) (by omega) fun pv gp op dp => ?_)
  obtain ⟨ps, hps⟩ : ∃ ps, ps = splitB 59 s := ⟨_, rfl⟩
  rw [← hps] at op
  have dpx := dp
  simp only [subs] at dpx
  obtain ⟨B, hB⟩ : ∃ B, B = gp ++ ((jn, blk (fl cStatement []) 161) :: h) := ⟨_, rfl⟩
  have sB : Tk.Sub ((jn, blk (fl cStatement []) 161) :: h) B := by rw [hB]; (repeat' first | exact Sub.refl _ | exact Sub.nil _ | assumption | refine Sub.both ?_ ?_ | refine Sub.cons_of (by simp only [subs, dpx, hjn]) ?_ | exact Sub.left _ _ | refine Sub.app (by simp only [subs, dpx, hjn]) ?_ | refine Sub.cons (by simp only [subs, dpx, hjn]) ?_)
  have rpB : rLs B eT 1 pv ps := op.rd.sub (by rw [hB]; exact Sub.left _ _)
  have hpl : ps.length ≤ 82 ∧ ∀ w ∈ ps, w.length ≤ 80 := by
    have := splitB_len 59 s
    rw [hps]
    exact ⟨by omega, fun w hw => by have := this.2 w hw; omega⟩
  have hBo : hget B jo = none := by rw [hB]; simp only [subs, dpx, no]
  simp only [walk, lists, acts, mem, plain, seqs, maps, cells, resL, resV, intBin, seval, str, zs, op.rd.len]
  refine vc_loopS [7, 5] (fun n vs h' => ∃ (i : Nat) (v : Value) (xs : List DStatement) (G : H), vs = [.int .i64 i, v] ∧ h' = G ++ B ∧ Dj G B ∧ oLs 161 cStatement 3 v xs G ∧ xs.length = i ∧ (∀ d, dealP d → s = dealText d → xs = d.take i) ∧ i ≤ ps.length ∧ n = ps.length - i) ps.length rfl
    (g0 := [(jo, blk (fl cStatement []) 161)] ++ B) (by rw [hB]; (repeat' first | exact Sub.refl _ | exact Sub.nil _ | assumption | refine Sub.both ?_ ?_ | refine Sub.cons_of (by simp only [subs, dpx, hjn, no, ejn]) ?_ | exact Sub.left _ _ | refine Sub.app (by simp only [subs, dpx, hjn, no, ejn]) ?_ | refine Sub.cons (by simp only [subs, dpx, hjn, no, ejn]) ?_)) ⟨0, _, [], _, rfl, rfl, by simp only [subs, hBo], oo, rfl, by simp, by omega, rfl⟩ ?_
  rintro n f h' ⟨i, v, xs, G, hv, rfl, dG, oG, hxl, hin, hi, rfl⟩
  simp only [List.map_cons, List.map_nil, List.cons.injEq, and_true] at hv
  have sG := Sub.right dG
  simp (disch := omega) only [walk, lists, acts, mem, plain, seqs, maps, cells, resL, resV, intBin, seval, wr, hv.1, hv.2, (rpB.sub sG).len, wrapI, str, zs]
  refine ite_lt (fun c1 => ?_) fun c1 => ?_
  · have hi2 : i < ps.length := by omega
    refine idx_leaf (i := i) eT_len (rpB.sub sG) rfl hi2 fun b1 o1 e1 => ?_
    have e1' : hread (G ++ B) b1 o1 1 = some [.string ⟨ps[i].toArray⟩] := e1
    simp only [walk, lists, acts, mem, plain, seqs, maps, cells, resL, resV, intBin, seval, hread_1 e1', str, zs]
    have hwl := hpl.2 _ (List.getElem_mem hi2)
    refine (l1Cut_c (c := 32) (by omega) fun wv gw ow dw => ?_)
    obtain ⟨ws, hws⟩ : ∃ ws, ws = splitB 32 ps[i] := ⟨_, rfl⟩
    rw [← hws] at ow
    obtain ⟨w0, wr0, hw0⟩ : ∃ w0 wr0, ws = w0 :: wr0 := by
      cases e : ws with
      | nil => exact absurd (hws.symm.trans e) (splitB_ne _ _)
      | cons a b => exact ⟨a, b, rfl⟩
    have hwsl : ws.length ≤ 82 ∧ ∀ w ∈ ws, w.length ≤ 80 := by
      have := splitB_len 32 ps[i]
      rw [hws]
      exact ⟨by omega, fun w hw => by have := this.2 w hw; omega⟩
    simp only [walk, lists, acts, mem, plain, seqs, maps, cells, resL, resV, intBin, seval, str, zs]
    refine newB_intro fun j9 hj9 => ?_
    have n9 := hj9
    simp only [subs] at n9
    simp only [walk, lists, acts, mem, plain, seqs, maps, cells, resL, resV, intBin, seval, wStatement, str, zs]
    have sW : Tk.Sub (gw ++ (G ++ B)) (gw ++ (G ++ B)) := .refl _
    have rW : rLs (gw ++ (G ++ B)) eT 1 wv ws := ow.rd.sub (Sub.left _ _)
    have sGw := Sub.right dw
    have sj9 : ∀ x, Tk.Sub (gw ++ (G ++ B)) ((j9, blk (cStatement x) 161) :: (gw ++ (G ++ B))) := fun x => Sub.cons hj9 (Sub.refl _)
    obtain ⟨M, hM⟩ : ∃ M, M = gw ++ (G ++ B) := ⟨_, rfl⟩
    rw [← hM] at hj9 rW sGw sj9 ⊢
    have stw : ∀ st, ps[i] = stW st → ws = wordsD st := fun st e => by rw [hws, e, stW_split]
    refine vc_loop [10] (fun n vs h' => ∃ (q : Nat) (x : DStatement), vs = [.int .i64 q] ∧ h' = (j9, blk (cStatement x) 161) :: M ∧ x.key = 0 ∧ x.num = 0 ∧ 1 ≤ q ∧ q ≤ 5 ∧ (∀ st, stP st → ps[i] = stW st → x.do_ = if st.do_ < q then st.do_ else 0) ∧ n = 5 - q) 4 rfl
      ⟨1, zStatement, rfl, rfl, rfl, rfl, by omega, by omega, fun st hst _ => by rw [if_neg (by have := hst.1; unfold inP at this; omega)]; rfl, rfl⟩ ?_
    rintro n f' h' ⟨q, x, hv', rfl, hx1, hx2, hq1, hq2, hxd, rfl⟩
    simp only [List.map_cons, List.map_nil, List.cons.injEq, and_true] at hv'
    simp only [walk, lists, acts, mem, plain, seqs, maps, cells, resL, resV, intBin, seval, wr, hv', wStatement, str, zs]
    refine ite_ge (fun c2 => ?_) fun c2 => ?_
    · have hq4 : q ≤ 4 := by omega
      refine vc_draw _ (Sub.refl _) ?_
      simp only [walk, lists, acts, mem, plain, seqs, maps, cells, resL, resV, intBin, seval, wStatement, str]
      refine idx_leaf (i := 0) eT_len (rW.sub (sj9 x)) rfl (by rw [hw0]; simp) fun b2 o2 e2 => ?_
      have e2' : hread ((j9, blk (cStatement x) 161) :: M) b2 o2 1 = some [.string ⟨w0.toArray⟩] := by rw [e2]; simp only [hw0]; rfl
      simp only [walk, lists, acts, mem, plain, seqs, maps, cells, resL, resV, intBin, seval, hread_1 e2', wStatement, str]
      refine newB_intro (o := blk (fl eT tbD) 9) fun j5 hj5 => ?_
      have sj5 := Sub_new (o := blk (fl eT tbD) 9) hj5
      simp only [walk, lists, acts, mem, plain, seqs, maps, cells, resL, resV, intBin, seval, sj5]
      refine ⟨⟨by omega, by omega⟩, ?_⟩
      rw [tbD_get ⟨hq1, hq4⟩]
      have n5 := hj5
      simp only [subs] at n5
      have e95 : ¬ j9 = j5 := fun e => n5.1 e.symm
      simp only [walk, lists, acts, mem, plain, seqs, maps, cells, resL, resV, intBin, seval, sj5, wStatement, str, strBin, str_inj, e95]
      have nx : ∀ x' : DStatement, x'.key = 0 → x'.num = 0 → (∀ st, stP st → ps[i] = stW st → x'.do_ = if st.do_ < ((q + 1 : Nat) : Int) then st.do_ else 0) →
          ∃ m, m < 5 - q ∧ ∃ g', Tk.Sub g' ((j5, blk (fl eT tbD) 9) :: (j9, blk (cStatement x') 161) :: M) ∧ ∃ (q' : Nat) (x'' : DStatement), [Value.int IntKind.i64 (IntKind.i64.wrap ((q : Int) + 1))] = [Value.int IntKind.i64 q'] ∧ g' = (j9, blk (cStatement x'') 161) :: M ∧ x''.key = 0 ∧ x''.num = 0 ∧ 1 ≤ q' ∧ q' ≤ 5 ∧ (∀ st, stP st → ps[i] = stW st → x''.do_ = if st.do_ < q' then st.do_ else 0) ∧ m = 5 - q' := fun x' h1 h2 h3 =>
        ⟨5 - (q + 1), by omega, _, Sub.cons (by simp only [subs, n5]) (Sub.refl _), q + 1, x', by simp (disch := omega) only [wrapI]; simp, rfl, h1, h2, by omega, by omega, h3, rfl⟩
      refine ite_pos (fun c4 => ?_) fun c4 => ?_
      · refine nx { x with do_ := q } hx1 hx2 fun st hst e => ?_
        have hw := stw st e
        rw [hw0] at hw
        have hnm : w0 = nmD st.do_ := (List.cons.inj hw).1
        have hd := hst.1
        unfold inP at hd
        have := nmD_inj (m := (q : Int)) (n := st.do_) (by omega) (by omega) (by rw [← c4, hnm])
        rw [if_pos (by omega), this]
      · refine nx x hx1 hx2 fun st hst e => ?_
        have hw := stw st e
        rw [hw0] at hw
        have hnm : w0 = nmD st.do_ := (List.cons.inj hw).1
        rw [hxd st hst e]
        have hne : st.do_ ≠ (q : Int) := fun e2 => c4 (by rw [hnm, e2])
        by_cases c5 : st.do_ < (q : Int)
        · rw [if_pos c5, if_pos (by omega)]
        · rw [if_neg c5, if_neg (by omega)]
    · have hq5 : q = 5 := by omega
      subst hq5
      have hdo : ∀ st, stP st → ps[i] = stW st → x.do_ = st.do_ := fun st hst e => by
        rw [hxd st hst e, if_pos]
        have := hst.1
        unfold inP at this
        omega
      have rWl : ∀ {f : Value → Prop}, lenSK wv f = f (.int .i64 ws.length) := fun {f} => rW.len (f := f)
      have hwlen : ∀ st, ps[i] = stW st → ws.length = if st.do_ = 1 then 2 else 3 := fun st e => by rw [stw st e, words_len]
      simp only [walk, lists, acts, mem, plain, seqs, maps, cells, resL, resV, intBin, seval, wStatement, str, zs, rWl]
      have nxt : ∀ x', (∀ st, stP st → ps[i] = stW st → x' = st) → ∀ d, dealP d → s = dealText d → xs ++ [x'] = d.take (i + 1) := fun x' hx' d hd e => by
        obtain ⟨hdl, hp⟩ := deal_part e (i := i) (by rw [← hps]; omega)
        have hp' : ps[i] = stW d[i] := by
          have : ∀ (m : List (List UInt8)) (hm : i < m.length), m = splitB 59 s → m[i] = stW d[i] := by rintro m hm rfl; exact hp
          exact this ps hi2 hps
        rw [List.take_succ_eq_append_getElem hdl, hin d hd e, hx' _ (hd.2.2 _ (List.getElem_mem hdl)) hp']
      have w1 : ∀ st, ps[i] = stW st → ∀ (h1 : 1 < ws.length), ws[1] = decI st.key := fun st e h1 => by
        have : ∀ (m : List (List UInt8)) (hm : 1 < m.length), m = wordsD st → m[1] = decI st.key := by rintro m hm rfl; rfl
        exact this ws h1 (stw st e)
      have w2 : ∀ st, ps[i] = stW st → ∀ (h1 : 2 < ws.length), ws[2] = decI st.num := fun st e h1 => by
        have : ∀ (m : List (List UInt8)) (hm : 2 < m.length), m = wordsD st → m[2] = decI st.num := by
          rintro m hm rfl
          unfold wordsD at hm ⊢
          by_cases c : st.do_ = 1
          · simp only [if_pos c, List.length_cons, List.length_nil] at hm; omega
          · simp only [if_neg c]; rfl
        exact this ws h1 (stw st e)
      have eqS : ∀ {a b : DStatement}, a.do_ = b.do_ → a.key = b.key → a.num = b.num → a = b := fun {a b} h1 h2 h3 => by
        obtain ⟨a1, a2, a3⟩ := a
        obtain ⟨b1, b2, b3⟩ := b
        simp only at h1 h2 h3
        rw [h1, h2, h3]
      refine ite_lt (fun c5 => ?_) fun c5 => ?_
      · have l1 : 1 < ws.length := by omega
        refine idx_leaf (i := 1) eT_len (rW.sub (sj9 x)) rfl l1 fun b3 o3 e3 => ?_
        have e3' : hread ((j9, blk (cStatement x) 161) :: M) b3 o3 1 = some [.string ⟨(ws[1]).toArray⟩] := e3
        simp only [walk, lists, acts, mem, plain, seqs, maps, cells, resL, resV, intBin, seval, hread_1 e3', wStatement, str, zs]
        refine l1NumI_c (by have := hwsl.2 _ (List.getElem_mem l1); omega) fun n1 ok1 hn1 _ hb1 => ?_
        simp only [walk, lists, acts, mem, plain, seqs, maps, cells, resL, resV, intBin, seval, wStatement, str, zs, rWl]
        have hk1 : ∀ st, stP st → ps[i] = stW st → n1 = st.key := fun st hst e => (hn1 st.key (stP_sm hst).1 (w1 st e l1)).2
        refine ite_lt (fun c6 => ?_) fun c6 => ?_
        · have l2 : 2 < ws.length := by omega
          refine idx_leaf (i := 2) eT_len (rW.sub (sj9 { x with key := n1 })) rfl l2 fun b4 o4 e4 => ?_
          have e4' : hread ((j9, blk (cStatement { x with key := n1 }) 161) :: M) b4 o4 1 = some [.string ⟨(ws[2]).toArray⟩] := e4
          simp only [walk, lists, acts, mem, plain, seqs, maps, cells, resL, resV, intBin, seval, hread_1 e4', wStatement, str, zs]
          refine l1NumI_c (by have := hwsl.2 _ (List.getElem_mem l2); omega) fun n2 ok2 hn2 _ hb2 => ?_
          simp only [walk, lists, acts, mem, plain, seqs, maps, cells, resL, resV, intBin, seval, wStatement, str, zs, rWl]
          have hm : ∀ st, stP st → ps[i] = stW st → { x with key := n1, num := n2 } = st := fun st hst e => eqS (hdo st hst e) (hk1 st hst e) (hn2 st.num (stP_sm hst).2 (w2 st e l2)).2
          refine newB_intro (o := blk (fl cStatement [{ x with key := n1, num := n2 }]) 161) fun j7 hj7 => ?_
          simp only [walk, lists, acts, mem, plain, seqs, maps, cells, resL, resV, intBin, seval, wStatement, str, zs]
          refine app_leaf (g := G) (h := B) cStatement_len cStatement_one tStatements iStatement (sGw.trans ((sj9 _).trans (Sub.cons hj7 (Sub.refl _)))) dG oG (rL_lit (e := 161) cStatement_len [{ x with key := n1, num := n2 }]) (by simp; omega) (by simp; omega) fun v2 g2 o2 d2 => ?_
          simp (disch := omega) only [walk, lists, acts, mem, plain, seqs, maps, cells, resL, resV, intBin, seval, wrapI]
          refine ⟨ps.length - (i + 1), by omega, _, .refl _, i + 1, v2, _, g2, by simp, rfl, d2, o2, by simp [hxl], fun d hd e => ?_, by omega, rfl⟩
          exact nxt { x with key := n1, num := n2 } hm d hd e
        · have hm : ∀ st, stP st → ps[i] = stW st → { x with key := n1 } = st := fun st hst e => eqS (hdo st hst e) (hk1 st hst e) (by
            have hl := hwlen st e
            have hd1 : st.do_ = 1 := by
              by_cases c : st.do_ = 1
              · exact c
              · rw [if_neg c] at hl; omega
            rw [hst.2.2.2 hd1]; exact hx2)
          refine newB_intro (o := blk (fl cStatement [{ x with key := n1 }]) 161) fun j7 hj7 => ?_
          simp only [walk, lists, acts, mem, plain, seqs, maps, cells, resL, resV, intBin, seval, wStatement, str, zs]
          refine app_leaf (g := G) (h := B) cStatement_len cStatement_one tStatements iStatement (sGw.trans ((sj9 _).trans (Sub.cons hj7 (Sub.refl _)))) dG oG (rL_lit (e := 161) cStatement_len [{ x with key := n1 }]) (by simp; omega) (by simp; omega) fun v2 g2 o2 d2 => ?_
          simp (disch := omega) only [walk, lists, acts, mem, plain, seqs, maps, cells, resL, resV, intBin, seval, wrapI]
          refine ⟨ps.length - (i + 1), by omega, _, .refl _, i + 1, v2, _, g2, by simp, rfl, d2, o2, by simp [hxl], fun d hd e => ?_, by omega, rfl⟩
          exact nxt { x with key := n1 } hm d hd e
      · have c6 : ¬ (2 : Int) < ws.length := by omega
        simp only [walk, lists, acts, mem, plain, seqs, maps, cells, resL, resV, intBin, seval, wStatement, str, zs, rWl, c6, if_false]
        have hm : ∀ st, stP st → ps[i] = stW st → x = st := fun st hst e => by
          have hl := hwlen st e
          split at hl <;> omega
        refine newB_intro (o := blk (fl cStatement [x]) 161) fun j7 hj7 => ?_
        simp only [walk, lists, acts, mem, plain, seqs, maps, cells, resL, resV, intBin, seval, wStatement, str, zs]
        refine app_leaf (g := G) (h := B) cStatement_len cStatement_one tStatements iStatement (sGw.trans ((sj9 _).trans (Sub.cons hj7 (Sub.refl _)))) dG oG (rL_lit (e := 161) cStatement_len [x]) (by simp; omega) (by simp; omega) fun v2 g2 o2 d2 => ?_
        simp (disch := omega) only [walk, lists, acts, mem, plain, seqs, maps, cells, resL, resV, intBin, seval, wrapI]
        refine ⟨ps.length - (i + 1), by omega, _, .refl _, i + 1, v2, _, g2, by simp, rfl, d2, o2, by simp [hxl], fun d hd e => ?_, by omega, rfl⟩
        exact nxt x hm d hd e
  · have fin : ∀ d, dealP d → s = dealText d → xs = d := fun d hd e => by
      rw [hin d hd e]
      refine List.take_of_length_le ?_
      have := congrArg List.length (hps.trans (by rw [e, deal_split]))
      rw [List.length_append, List.length_map, List.length_singleton] at this
      omega
    have hx82 : xs.length ≤ 82 := by omega
    simp only [walk, lists, acts, mem, plain, seqs, maps, cells, resL, resV, intBin, seval, str, strBin, str_inj]
    refine ite_pos (fun c2 => bad (sB.trans sG) fun d hd e _ => ?_) fun c2 => ?_
    · have h1 := hd.1
      cases d with
      | nil => simp at h1
      | cons a d =>
        rw [c2, dealText_cons] at e
        have := congrArg List.length e
        simp at this
    · refine dealWrite_c (oG.rd.sub (Sub.left _ _)) (by omega) fun t ht => ?_
      simp only [walk, lists, acts, mem, plain, seqs, maps, cells, resL, resV, intBin, seval, str, strBin, str_inj]
      refine ite_ne (fun c3 => bad (sB.trans sG) fun d hd e _ => ?_) fun c3 => ?_
      · have := fin d hd e
        rcases ht with ⟨_, ht⟩ | ⟨hn, _⟩
        · rw [this, ← e] at ht
          exact c3 ht
        · rw [this] at hn
          exact hn hd
      · rcases ht with ⟨hp, ht⟩ | ⟨_, ht⟩
        · have dh : Dj G h := by
            have := dG
            rw [hB] at this
            simp only [subs] at this
            exact this.2.2
          refine ⟨G ++ h, ?_, k v G xs true (.inl ⟨rfl, hp, by rw [← c3, ht], by omega⟩) oG dh⟩
          rw [hB] at dG ⊢
          have dg := dG
          simp only [subs] at dg
          (repeat' first | exact Sub.refl _ | exact Sub.nil _ | assumption | refine Sub.both ?_ ?_ | refine Sub.cons_of (by simp only [subs, dg, dpx, hjn]) ?_ | exact Sub.left _ _ | refine Sub.app (by simp only [subs, dg, dpx, hjn]) ?_ | refine Sub.cons (by simp only [subs, dg, dpx, hjn]) ?_)
        · exact absurd (by rw [← c3, ht]) c2
end Go.Proofs.YtmfhlkkligcgdaaGreatDoor
end
