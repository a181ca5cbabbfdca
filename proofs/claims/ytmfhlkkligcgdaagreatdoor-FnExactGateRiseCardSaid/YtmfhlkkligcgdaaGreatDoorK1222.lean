/- Parts of the proof, put together: Z8B, Z8, ZR. -/
import Derived.Test.YtmfhlkkligcgdaaGreatDoorK1221
/- Gates: the reference's copy. -/
section
set_option linter.unusedVariables false
set_option linter.unusedSimpArgs false
set_option maxRecDepth 20000
attribute [local irreducible] Go.Tk.vc Go.Tk.vops Go.Tk.vdr Go.Tk.vop Go.Tk.vfl Go.Tk.HCalls
namespace Go.Proofs.YtmfhlkkligcgdaaGreatDoor
open Go Go.Tk

/-- The copy's scalars and ways, with no log and no calls yet. -/
def cpG (g : DGate) : DGate := ⟨g.up, g.life, g.next, [], [], g.ways⟩
theorem rdS_one {M : H} {j sz : Nat} {cs : List Value} {e : TypeId} (g : hget M j = some (blk cs e)) (hl : cs.length = sz) : rdS M sz (.slice (some ⟨j, 0, none⟩) 1 1) 1 cs :=
  ⟨by omega, .inr ⟨j, 0, 1, rfl, Nat.le_refl _, by rw [Nat.one_mul]; exact hread_of g hl⟩⟩
theorem dR_empty {α : Type} {W : H → List Value → α → (Nat → Prop) → Prop} {sz : Nat} {M : H} {b : Nat} {e : TypeId} (g : hget M b = some (blk [] e)) : dR e W sz M (.slice (some ⟨b, 0, none⟩) 0 0) ([] : List α) (fun x => x = b) :=
  .inr ⟨b, 0, [], [], fun _ _ => False, rfl, Nat.le_refl _, by simp, ⟨g, rfl, fun c q => (by cases q), fun i h1 => (by simp at h1), fun i h1 => (by simp at h1), fun i j h1 => (by simp at h1), fun x => by simp⟩⟩
set_option maxHeartbeats 2000000 in
theorem specCopy_c {h : H} {g : DGate} {lg lv wy : Value} (r : sGate h g lg lv wy) (hb : bGate g) {R : Ending → H → Prop} (k : ∀ M' a b c S, Tk.Sub h M' → WGate M' g a b c S → (∀ x, S x → hget h x = none) → R (.returned (.agg (cGate g a b c).toArray)) M') :
    HCalls Tryz.prog 49 #[.agg (cGate g lg lv wy).toArray] h R := by
  refine HCalls_ir (args := [.agg (cGate g lg lv wy).toArray]) Tryz.func49 ir49 ?_
  have zg := zGate_eq
  simp only [walk, lists, acts, mem, plain, seqs, maps, cells, resL, resV, intBin, seval, wGate, zg]
  refine newB_intro (o := blk (cGate g lg lv wy) 34) fun j1 h1 => ?_
  simp only [walk, lists, acts, mem, plain, seqs, maps, cells, resL, resV, intBin, seval, wGate, zg]
  refine newB_intro (o := blk (cGate zGate (.slice none 0 0) (.slice none 0 0) (.slice none 0 0)) 34) fun j2 h2 => ?_
  have n2 := h2
  simp only [subs] at n2
  have ne12 : j1 ≠ j2 := fun e => n2.1 e.symm
  obtain ⟨A, hA⟩ : ∃ A, A = (j2, blk (cGate zGate (.slice none 0 0) (.slice none 0 0) (.slice none 0 0)) 34) :: (j1, blk (cGate g lg lv wy) 34) :: h := ⟨_, rfl⟩
  have sA : Tk.Sub h A := by rw [hA]; exact Sub.cons h2 (Sub.cons h1 (Sub.refl _))
  have g2 : hget A j2 = some (blk (cGate zGate (.slice none 0 0) (.slice none 0 0) (.slice none 0 0)) 34) := by rw [hA]; exact hget_same _ _ _
  have g1 : hget A j1 = some (blk (cGate g lg lv wy) 34) := by rw [hA, hget_next _ _ _ ne12]; exact hget_same _ _ _
  have c0 : hcel A j1 0 = some (.bool g.up) := hcel_of g1 rfl
  have c1 : hcel A j1 1 = some (.int .i64 g.life) := hcel_of g1 rfl
  have c2 : hcel A j1 2 = some (.int .i64 g.next) := hcel_of g1 rfl
  have c5 : hcel A j1 5 = some wy := hcel_of g1 rfl
  have bw := hb.ways
  unfold lim at bw
  rw [← hA]
  simp only [walk, lists, acts, mem, plain, seqs, maps, cells, resL, resV, intBin, seval, wGate, zg]
  refine vc_anyR mG [aV (.pointer (some ⟨j1, 0, none⟩)), aV (.bool g.up), aV (.pointer (some ⟨j1, 1, none⟩)), aV (.int .i64 g.life), aV (.pointer (some ⟨j1, 2, none⟩)), aV (.int .i64 g.next), aE A 92, aV (.pointer (some ⟨j1, 5, none⟩)), aV wy, aS A 92 cWay 2 g.ways,
    fun g' v => ∃ w, v = .agg (cGate (cpG g) (.slice none 0 0) (.slice none 0 0) w).toArray ∧ aS A 92 cWay 2 g.ways g' w, aB A (blk (cGate zGate (.slice none 0 0) (.slice none 0 0) (.slice none 0 0)) 34)] A ?_ (Sub.refl _) rfl fun ρ hi ho hc => ?_
  · repeat' first | exact fun _ h => absurd h List.not_mem_nil | refine List.forall_mem_cons.2 ⟨?_, ?_⟩ | exact aMono_V _ | exact aMono_E _ _ | exact aMono_S _ _ _ _ _ | exact aMono_B _ _ | exact fun g g' v s ⟨w, a, b⟩ => ⟨w, a, aMono_S _ _ _ _ _ g g' w s b⟩
  simp only [anysR, andr, maps, lists, plain, Nat.reduceAdd]
  refine ⟨aF_fld fun f g _ _ => ⟨j1, 0, ho f 1 rfl, rfl⟩, aF_load fun f g hs hd => ⟨j1, 0, _, (hi f 10 rfl).trans hd, hcel_sub hs c0, rfl⟩,
    aF_fld fun f g _ _ => ⟨j1, 0, ho f 1 rfl, rfl⟩, aF_load fun f g hs hd => ⟨j1, 1, _, (hi f 12 rfl).trans hd, hcel_sub hs c1, rfl⟩,
    aF_fld fun f g _ _ => ⟨j1, 0, ho f 1 rfl, rfl⟩, aF_load fun f g hs hd => ⟨j1, 2, _, (hi f 14 rfl).trans hd, hcel_sub hs c2, rfl⟩, aF_row0,
    aF_fld fun f g _ _ => ⟨j1, 0, ho f 1 rfl, rfl⟩, aF_load fun f g hs hd => ⟨j1, 5, _, (hi f 17 rfl).trans hd, hcel_sub hs c5, rfl⟩,
    aF_app cWay_ones tWays iWay (by omega) (by omega) fun f g hs hd => ⟨by rw [hi f 16 rfl]; exact hd.1, by rw [(hi f 18 rfl).trans hd.2]; exact r.2.2.sub (sA.trans hs)⟩,
    aF_build fun f g hs hd => ?b, aF_alloc, ?last⟩
  case b =>
    obtain ⟨x1, x2, x3, G, o, s1, d1⟩ := hd
    refine ⟨cGate (cpG _) (.slice none 0 0) (.slice none 0 0) (f 19), ?_, f 19, rfl, G, o, s1, d1⟩
    have hv2 : vcells (ρ f (.tmp 19)) = [f 19] := by rw [hi f 19 rfl]; exact vc1 (rdS.one o.rd)
    simp only [maps, (hi f 11 rfl).trans x1, (hi f 13 rfl).trans x2, (hi f 15 rfl).trans x3, hv2]
    rfl
  intro m2 f2 hh2 gg2 hm hs2 hd
  obtain ⟨-, -, -, -, -, -, -, -, -, -, ⟨w, ew, G, oG, sG, dG⟩, j3, e3, g3, n3⟩ := hd
  have nG : hget G j3 = none := by
    obtain ⟨_, ⟨_, _, e⟩ | ⟨b, cap, sp, _, _, _, e⟩⟩ := id oG
    · rw [e]; rfl
    · rw [e, hget_cons]
      split
      · rename_i c
        have c : j3 = b := c
        subst c
        have h1 := sG _ _ (show hget G j3 = some _ by rw [e]; exact hget_same _ _ _)
        have := g3.symm.trans h1
        injection this with this
        exact absurd (blk_ty this) (by decide)
      · rfl
  have one0 : (cGate (cpG g) (.slice none 0 0) (.slice none 0 0) w).all vone = true := by simp only [cGate, List.all_cons, List.all_nil, rdS.one oG.rd]; rfl
  obtain ⟨N, wN, gN, fN⟩ := box_st (vs := cGate (cpG g) (.slice none 0 0) (.slice none 0 0) w) (cs' := cGate (cpG g) (.slice none 0 0) (.slice none 0 0) w) (o := 0) g3 (by show 0 + 6 ≤ 6; omega) rfl
  refine ⟨gg2, hm, ?_⟩
  simp only [walk, lists, acts, mem, plain, seqs, maps, cells, resL, resV, intBin, seval, wr, hi f2 3 rfl, hi f2 20 rfl, ew, e3, one0, wN, wGate]
  have sAN : Tk.Sub A N := fun x o e => by rw [fN x (fun c => by rw [c, n3] at e; cases e)]; exact hs2 x o e
  obtain ⟨S3, hS3⟩ : ∃ S3 : Nat → Prop, S3 = fun i => hget G i ≠ none := ⟨_, rfl⟩
  have dW : dL 92 cWay 2 N w g.ways S3 := by
    have : dL 92 cWay 2 gg2 w g.ways S3 := ⟨G, oG, sG, fun i => by rw [hS3]⟩
    exact this.frame fun x q => fN x fun c => by rw [hS3, c] at q; exact q nG
  have fW : ∀ x, S3 x → hget A x = none ∧ x ≠ j3 := fun x q => by
    rw [hS3] at q
    exact ⟨dG x q, fun c => q (c ▸ nG)⟩
  clear hi ho hc
  have rl := (r.1.subH sA).relImp fun _ _ x => rRecord.sub sA x
  have rv := (r.2.1.subH sA).relImp fun _ _ x => rLive.sub sA x
  refine vc_loop [4] (fun n vs M' => ∃ (i : Nat) (v : Value) (S : Nat → Prop), vs = [.int .i64 i] ∧ Tk.Sub A M' ∧ hget M' j3 = some (blk (cGate (cpG g) v (.slice none 0 0) w) 34) ∧ dL 92 cWay 2 M' w g.ways S3 ∧ dR 86 WRecord 11 M' v (g.log.take i) S ∧
      (∀ x, S x → hget A x = none ∧ x ≠ j3 ∧ ¬ S3 x) ∧ i ≤ g.log.length ∧ n = g.log.length - i) g.log.length rfl ⟨0, .slice none 0 0, _, rfl, sAN, gN, dW, dR.nil, fun _ q => q.elim, by omega, rfl⟩ ?_
  rintro n f' M' ⟨i, v, S, hv, s, g3', dW', dS', fS, hi', rfl⟩
  simp only [List.map_cons, List.map_nil, List.cons.injEq, and_true] at hv
  have c3 : hcel M' j1 3 = some lg := hcel_of (s _ _ g1) rfl
  simp only [walk, lists, acts, mem, plain, seqs, maps, cells, resL, resV, intBin, seval, wr, hv, c3, rl.len]
  have bl := hb.log
  unfold lim at bl
  refine ite_lt (fun q1 => ?_) fun q1 => ?_
  · have hi2 : i < g.log.length := by omega
    obtain ⟨b, oo, cs, hx, e1, va, vb, rfl, ra, rb⟩ := rs_at ((rl.subH s).relImp fun _ _ q => rRecord.sub s q) hi2
    have z1 := zRecord_eq
    try simp only [str] at z1
    simp only [walk, lists, acts, mem, plain, seqs, maps, cells, resL, resV, intBin, seval, c3, hx, e1, wRecord, str, z1]
    obtain ⟨d, hd⟩ : ∃ d, d = g.log[i] := ⟨_, rfl⟩
    have hbd : bRecord d := hd ▸ hb.recs _ (List.getElem_mem hi2)
    have bv := hbd.v
    have bp := hbd.p
    unfold lim at bv bp
    rw [← hd] at ra rb e1 ⊢
    refine newB_intro (o := blk (cRecord zRecord (.slice none 0 0) (.slice none 0 0)) 86) fun j5 h5 => ?_
    obtain ⟨B', hB'⟩ : ∃ B', B' = (j5, blk (cRecord zRecord (.slice none 0 0) (.slice none 0 0)) 86) :: M' := ⟨_, rfl⟩
    have gB' : hget B' j5 = some (blk (cRecord zRecord (.slice none 0 0) (.slice none 0 0)) 86) := by rw [hB']; exact hget_same _ _ _
    have sB' : Tk.Sub M' B' := by rw [hB']; exact Sub.cons h5 (Sub.refl _)
    rw [← hB']
    obtain ⟨B0, wB0, gB0, fB0⟩ := box_st (vs := cRecord d va vb) (cs' := cRecord d va vb) (o := 0) gB' (by show 0 + 11 ≤ 11; omega) rfl
    have oneR : (cRecord d va vb).all vone = true := by simp only [cRecord, List.all_cons, List.all_nil, ra.one, rb.one]; rfl
    have ne5 : ∀ {x : Nat} {o : Obj}, hget M' x = some o → x ≠ j5 := fun e c => by rw [c, h5] at e; cases e
    have sB0 : Tk.Sub M' B0 := fun x o e => by rw [fB0 x (ne5 e)]; exact sB' _ _ e
    simp only [walk, lists, acts, mem, plain, seqs, maps, cells, resL, resV, intBin, seval, wRecord, wB0, oneR]
    refine newB_intro (o := blk [] 3) fun j33 h33 => ?_
    obtain ⟨B1, hB1⟩ : ∃ B1, B1 = (j33, blk [] 3) :: B0 := ⟨_, rfl⟩
    have g33 : hget B1 j33 = some (blk [] 3) := by rw [hB1]; exact hget_same _ _ _
    have sB1 : Tk.Sub B0 B1 := by rw [hB1]; exact Sub.cons h33 (Sub.refl _)
    have g5B1 := sB1 _ _ gB0
    have c59 : hcel B1 j5 9 = some va := hcel_of g5B1 rfl
    rw [← hB1]
    simp only [walk, lists, acts, mem, plain, seqs, maps, cells, resL, resV, intBin, seval, wRecord, c59]
    refine app_new_d eI_one tInts iInt g33 (ra.sub (sB0.trans sB1)) (by omega) (by omega) fun M1 w1 S1 t1 u1 f1 => ?_
    have on1 := u1.one
    have vcw1 := vc1 on1
    obtain ⟨N1, wN1, gN1, fN1⟩ := box_st (vs := [w1]) (cs' := cRecord d w1 vb) (o := 9) (t1 _ _ g5B1) (by show 9 + 1 ≤ 11; omega) rfl
    have sN1 : Tk.Sub M' N1 := fun x o e => by rw [fN1 x (ne5 e)]; exact t1 _ _ (sB1 _ _ (sB0 _ _ e))
    simp only [walk, lists, acts, mem, plain, seqs, maps, cells, resL, resV, intBin, seval, wRecord, wN1, on1, vcw1]
    refine newB_intro (o := blk [] 136) fun j38 h38 => ?_
    obtain ⟨B2, hB2⟩ : ∃ B2, B2 = (j38, blk [] 136) :: N1 := ⟨_, rfl⟩
    have g38 : hget B2 j38 = some (blk [] 136) := by rw [hB2]; exact hget_same _ _ _
    have sB2 : Tk.Sub N1 B2 := by rw [hB2]; exact Sub.cons h38 (Sub.refl _)
    have g5B2 := sB2 _ _ gN1
    have c510 : hcel B2 j5 10 = some vb := hcel_of g5B2 rfl
    rw [← hB2]
    simp only [walk, lists, acts, mem, plain, seqs, maps, cells, resL, resV, intBin, seval, wRecord, c510]
    refine app_new_d eP_one tPairs iPair g38 (rb.sub (sN1.trans sB2)) (by omega) (by omega) fun M2 w2 S2 t2 u2 f2' => ?_
    have on2 := u2.one
    have vcw2 := vc1 on2
    obtain ⟨N2, wN2, gN2, fN2⟩ := box_st (vs := [w2]) (cs' := cRecord d w1 w2) (o := 10) (t2 _ _ g5B2) (by show 10 + 1 ≤ 11; omega) rfl
    have sN2 : Tk.Sub M' N2 := fun x o e => by rw [fN2 x (ne5 e)]; exact t2 _ _ (sB2 _ _ (sN1 _ _ e))
    simp only [walk, lists, acts, mem, plain, seqs, maps, cells, resL, resV, intBin, seval, wRecord, wN2, on2, vcw2]
    have c33 : hcel N2 j3 3 = some v := hcel_of (sN2 _ _ g3') rfl
    have r5 : hread N2 j5 0 11 = some (cRecord d w1 w2) := hread_of gN2 rfl
    have oneW : (cRecord d w1 w2).all vone = true := by simp only [cRecord, List.all_cons, List.all_nil, on1, on2]; rfl
    simp only [walk, lists, acts, mem, plain, seqs, maps, cells, resL, resV, intBin, seval, wRecord, wGate, c33, r5, oneW, z1]
    have n38 : ∀ x, S2 x → hget N1 x = none := fun x q => by
      rcases f2' x q with c | c
      · rw [c]; exact h38
      · exact sB2.none' c
    have n33 : ∀ x, S1 x → hget B0 x = none := fun x q => by
      rcases f1 x q with c | c
      · rw [c]; exact h33
      · exact sB1.none' c
    have a1 : ∀ x, S1 x → x ≠ j5 := fun x q c => by have := n33 x q; rw [c, gB0] at this; cases this
    have a2 : ∀ x, S2 x → x ≠ j5 := fun x q c => by have := n38 x q; rw [c, gN1] at this; cases this
    have i1 : ∀ x, S1 x → hget N1 x ≠ none := fun x q => by rw [fN1 x (a1 x q)]; exact u1.in q
    have d12 : ∀ x, S1 x → ¬ S2 x := fun x q q2 => i1 x q (n38 x q2)
    refine newB_intro (o := blk (cRecord d w1 w2) 86) fun j46 h46 => ?_
    obtain ⟨B3, hB3⟩ : ∃ B3, B3 = (j46, blk (cRecord d w1 w2) 86) :: N2 := ⟨_, rfl⟩
    have g46 : hget B3 j46 = some (blk (cRecord d w1 w2) 86) := by rw [hB3]; exact hget_same _ _ _
    have sB3 : Tk.Sub N2 B3 := by rw [hB3]; exact Sub.cons h46 (Sub.refl _)
    have e12 : ∀ x, S1 x → hget N2 x = hget M1 x := fun x q => by rw [fN2 x (a1 x q), Sub.eq (sB2.trans t2) (i1 x q), fN1 x (a1 x q)]
    have e22 : ∀ x, S2 x → hget N2 x = hget M2 x := fun x q => fN2 x (a2 x q)
    have w3 : WRecord B3 (cRecord d w1 w2) d (fun x => S1 x ∨ S2 x) := ⟨w1, w2, S1, S2, rfl, u1.frame fun x q => by rw [Sub.eq sB3 (by rw [e12 x q]; exact u1.in q), e12 x q], u2.frame fun x q => by rw [Sub.eq sB3 (by rw [e22 x q]; exact u2.in q), e22 x q], d12, fun _ => Iff.rfl⟩
    have fT : ∀ x, (S1 x ∨ S2 x) → hget M' x = none := fun x q => by
      rcases q with q | q
      · exact sB0.none' (n33 x q)
      · exact sN1.none' (n38 x q)
    have sM3 : Tk.Sub M' B3 := sN2.trans sB3
    have il : i + 1 ≤ 1048576 := by omega
    have hlt : (g.log.take i).length = i := by rw [List.length_take]; omega
    rw [← hB3]
    simp only [walk, lists, acts, mem, plain, seqs, maps, cells, resL, resV, intBin, seval, wRecord]
    refine app_dR (T := fun x => S1 x ∨ S2 x) (cs := cRecord d w1 w2) WRecord.fr WRecord.in (fun q => rRecord_one (WRecord.rd _ _ _ _ q)) (fun q => rRecord_len (WRecord.rd _ _ _ _ q)) tRecords iRecord (dS'.frame WRecord.fr fun x q => Sub.eq sM3 (dS'.in WRecord.in q)) (rdS_one g46 rfl) w3
      (fun x q q2 => dS'.in WRecord.in q2 (fT x q)) (by rw [hlt]; omega) (by rw [hlt]; omega) fun M3 v3 S' d3 k3 f3 => ?_
    have g3M3 := (k3 j3 (by rw [sM3 _ _ g3']; simp) (fun q => (fS j3 q).2.1 rfl)).trans (sM3 _ _ g3')
    have kA : ∀ x o, hget A x = some o → hget M3 x = some o := fun x o e => by rw [k3 x (by rw [sM3 _ _ (s _ _ e)]; simp) (fun q => by rw [(fS x q).1] at e; cases e), sM3 _ _ (s _ _ e)]
    have kW : ∀ x, S3 x → hget M3 x = hget M' x := fun x q => by rw [k3 x (by rw [Sub.eq sM3 (dW'.in q)]; exact dW'.in q) (fun q2 => (fS x q2).2.2 q), Sub.eq sM3 (dW'.in q)]
    have fS' : ∀ x, S' x → hget A x = none ∧ x ≠ j3 ∧ ¬ S3 x := fun x q => by
      rcases f3 x q with c | c | c
      · exact fS x c
      · have := fT x c
        exact ⟨s.none' this, fun c2 => (by rw [c2, g3'] at this; cases this), fun c2 => dW'.in c2 this⟩
      · have := sM3.none' c
        exact ⟨s.none' this, fun c2 => (by rw [c2, g3'] at this; cases this), fun c2 => dW'.in c2 this⟩
    have on3 := d3.one
    have vc3 := vc1 on3
    obtain ⟨N3, wN3, gN3, fN3⟩ := box_st (vs := [v3]) (cs' := cGate (cpG g) v3 (.slice none 0 0) w) (o := 3) g3M3 (by show 3 + 1 ≤ 6; omega) rfl
    simp (disch := omega) only [walk, lists, acts, mem, plain, seqs, maps, cells, resL, resV, intBin, seval, wGate, wN3, on3, vc3, wrapI]
    refine ⟨g.log.length - (i + 1), by omega, _, .refl _, i + 1, v3, S', by simp, fun x o e => ?_, gN3, ?_, ?_, fun x q => ⟨(fS' x q).1, (fS' x q).2.1, (fS' x q).2.2⟩, by omega, rfl⟩
    · rw [fN3 x (fun c => by rw [c, n3] at e; cases e), kA x o e]
    · exact dW'.frame fun x q => by rw [fN3 x (fW x q).2, kW x q]
    · have : g.log.take (i + 1) = g.log.take i ++ [d] := by rw [List.take_succ_eq_append_getElem hi2, hd]
      rw [this]
      exact d3.frame WRecord.fr fun x q => fN3 x (fS' x q).2.1
  · have hi3 : i = g.log.length := by omega
    rw [hi3, List.take_length] at dS'
    clear hv hi' q1 c3
    have mL := dS'.one
    obtain ⟨MB, hMB⟩ : ∃ MB, MB = M' := ⟨_, rfl⟩
    rw [← hMB]
    rw [← hMB] at s g3' dW' dS'
    obtain ⟨SL, hSL⟩ : ∃ SL, SL = S := ⟨_, rfl⟩
    rw [← hSL] at dS' fS
    refine vc_loop [6] (fun n vs M' => ∃ (i : Nat) (v2 : Value) (S : Nat → Prop), vs = [.int .i64 i] ∧ Tk.Sub A M' ∧ hget M' j3 = some (blk (cGate (cpG g) v v2 w) 34) ∧ dL 92 cWay 2 M' w g.ways S3 ∧ dR 86 WRecord 11 M' v g.log SL ∧ dR 82 WLive 12 M' v2 (g.lives.take i) S ∧
      (∀ x, S x → hget A x = none ∧ x ≠ j3 ∧ ¬ S3 x ∧ ¬ SL x) ∧ i ≤ g.lives.length ∧ n = g.lives.length - i) g.lives.length rfl ⟨0, .slice none 0 0, _, rfl, s, g3', dW', dS', dR.nil, fun _ q => q.elim, by omega, rfl⟩ ?_
    rintro n f'' M' ⟨i, v2, S, hv, s, g3', dW', dA', dS', fS2, hi', rfl⟩
    simp only [List.map_cons, List.map_nil, List.cons.injEq, and_true] at hv
    have c4 : hcel M' j1 4 = some lv := hcel_of (s _ _ g1) rfl
    have bl := hb.lives
    unfold lim at bl
    simp only [walk, lists, acts, mem, plain, seqs, maps, cells, resL, resV, intBin, seval, wr, hv, c4, rv.len]
    refine ite_lt (fun q1 => ?_) fun q1 => ?_
    · have hi2 : i < g.lives.length := by omega
      obtain ⟨b, oo, cs, hx, e1, va, vb, rfl, ra, rb⟩ := rs_at ((rv.subH s).relImp fun _ _ q => rLive.sub s q) hi2
      have z1 := zLive_eq
      try simp only [str] at z1
      simp only [walk, lists, acts, mem, plain, seqs, maps, cells, resL, resV, intBin, seval, c4, hx, e1, wLive, str, z1]
      obtain ⟨d, hd⟩ : ∃ d, d = g.lives[i] := ⟨_, rfl⟩
      have hbd : bLive d := hd ▸ hb.live _ (List.getElem_mem hi2)
      have bll := hbd.l
      have bt := hbd.t
      unfold lim at bll bt
      rw [← hd] at ra rb e1 ⊢
      refine newB_intro (o := blk (cLive zLive (.slice none 0 0) (.slice none 0 0)) 82) fun j7 h7 => ?_
      obtain ⟨B', hB'⟩ : ∃ B', B' = (j7, blk (cLive zLive (.slice none 0 0) (.slice none 0 0)) 82) :: M' := ⟨_, rfl⟩
      have gB' : hget B' j7 = some (blk (cLive zLive (.slice none 0 0) (.slice none 0 0)) 82) := by rw [hB']; exact hget_same _ _ _
      have sB' : Tk.Sub M' B' := by rw [hB']; exact Sub.cons h7 (Sub.refl _)
      rw [← hB']
      obtain ⟨B0, wB0, gB0, fB0⟩ := box_st (vs := cLive d va vb) (cs' := cLive d va vb) (o := 0) gB' (by show 0 + 12 ≤ 12; omega) rfl
      have oneR : (cLive d va vb).all vone = true := by simp only [cLive, List.all_cons, List.all_nil, ra.one, rb.one]; rfl
      have ne5 : ∀ {x : Nat} {o : Obj}, hget M' x = some o → x ≠ j7 := fun e c => by rw [c, h7] at e; cases e
      have sB0 : Tk.Sub M' B0 := fun x o e => by rw [fB0 x (ne5 e)]; exact sB' _ _ e
      simp only [walk, lists, acts, mem, plain, seqs, maps, cells, resL, resV, intBin, seval, wLive, wB0, oneR]
      refine newB_intro (o := blk [] 112) fun j61 h61 => ?_
      obtain ⟨B1, hB1⟩ : ∃ B1, B1 = (j61, blk [] 112) :: B0 := ⟨_, rfl⟩
      have g61 : hget B1 j61 = some (blk [] 112) := by rw [hB1]; exact hget_same _ _ _
      have sB1 : Tk.Sub B0 B1 := by rw [hB1]; exact Sub.cons h61 (Sub.refl _)
      have c711 : hcel B0 j7 11 = some vb := hcel_of gB0 rfl
      have c710 : hcel B0 j7 10 = some va := hcel_of gB0 rfl
      have rbt := (rb.subH sB0).relImp fun _ _ q => rTold.sub sB0 q
      have tl : Tk.Sub B0 B1 := sB1
      rw [← hB1]
      simp only [walk, lists, acts, mem, plain, seqs, maps, cells, resL, resV, intBin, seval, wLive]
      refine vc_loop [8, 9] (fun n vs M2 => ∃ (k : Nat) (v8 : Value) (S8 : Nat → Prop), vs = [v8, .int .i64 k] ∧ Tk.Sub B0 M2 ∧ dR 112 WTold 2 M2 v8 (d.told.take k) S8 ∧ (∀ x, S8 x → hget B0 x = none) ∧ k ≤ d.told.length ∧ n = d.told.length - k) d.told.length rfl
        ⟨0, .slice (some ⟨j61, 0, none⟩) 0 0, _, rfl, sB1, dR_empty g61, fun x e => e ▸ h61, by omega, rfl⟩ ?_
      rintro n f3 M2 ⟨k', v8, S8, hv8, s8, d8, f8, hk, rfl⟩
      simp only [List.map_cons, List.map_nil, List.cons.injEq, and_true] at hv8
      have c7a : hcel M2 j7 11 = some vb := hcel_sub s8 c711
      simp only [walk, lists, acts, mem, plain, seqs, maps, cells, resL, resV, intBin, seval, wr, hv8.1, hv8.2, c7a, rbt.len]
      refine ite_lt (fun q2 => ?_) fun q2 => ?_
      · have hk2 : k' < d.told.length := by omega
        obtain ⟨b2, o2, cs2, hx2, e2, vp, rfl, rp⟩ := rs_at rbt hk2
        have cA : hcel B0 b2 o2 = some (.int .i64 d.told[k'].house) := hread_c e2 0 rfl
        have cB : hcel B0 b2 (o2 + 1) = some vp := hread_c e2 1 rfl
        refine vc_draw B0 s8 ?_
        simp only [walk, lists, acts, mem, plain, seqs, maps, cells, resL, resV, intBin, seval, wLive, c711, hx2, cA, cB]
        have bpt := hbd.ts _ (List.getElem_mem hk2)
        unfold bTold lim at bpt
        obtain ⟨td, htd⟩ : ∃ td, td = d.told[k'] := ⟨_, rfl⟩
        rw [← htd] at rp bpt ⊢
        have zt := zTold_eq
        refine newB_intro (o := blk [] 136) fun j76 h76 => ?_
        obtain ⟨B2, hB2⟩ : ∃ B2, B2 = (j76, blk [] 136) :: M2 := ⟨_, rfl⟩
        have g76 : hget B2 j76 = some (blk [] 136) := by rw [hB2]; exact hget_same _ _ _
        have sB2 : Tk.Sub M2 B2 := by rw [hB2]; exact Sub.cons h76 (Sub.refl _)
        have s02 := s8.trans sB2
        rw [← hB2]
        simp only [walk, lists, acts, mem, plain, seqs, maps, cells, resL, resV, intBin, seval, wLive, s02]
        refine app_new_d eP_one tPairs iPair g76 (rp.sub s02) (by omega) (by omega) fun M3 w9 S9 t9 u9 f9 => ?_
        have on9 := u9.one
        have vcw9 := vc1 on9
        have one9 := wTold.2.2.2.2.2.1 td w9 on9
        have ee : cTold ⟨td.house, zTold.pairs⟩ w9 = cTold td w9 := rfl
        have s03 := s02.trans t9
        simp only [walk, lists, acts, mem, plain, seqs, maps, cells, resL, resV, intBin, seval, wTold, zt, s03, on9, vcw9, one9, ee]
        refine newB_intro (o := blk (cTold td w9) 112) fun j85 h85 => ?_
        obtain ⟨B4, hB4⟩ : ∃ B4, B4 = (j85, blk (cTold td w9) 112) :: M3 := ⟨_, rfl⟩
        have g85 : hget B4 j85 = some (blk (cTold td w9) 112) := by rw [hB4]; exact hget_same _ _ _
        have sB4 : Tk.Sub M3 B4 := by rw [hB4]; exact Sub.cons h85 (Sub.refl _)
        have s04 := s03.trans sB4
        have s24 : Tk.Sub M2 B4 := sB2.trans (t9.trans sB4)
        have f9' : ∀ x, S9 x → hget M2 x = none := fun x q => by
          rcases f9 x q with c | c
          · rw [c]; exact h76
          · exact sB2.none' c
        have w10 : WTold B4 (cTold td w9) td S9 := ⟨w9, rfl, u9.frame fun x q => Sub.eq sB4 (u9.in q)⟩
        have hlt : (d.told.take k').length = k' := by rw [List.length_take]; omega
        rw [← hB4]
        simp only [walk, lists, acts, mem, plain, seqs, maps, cells, resL, resV, intBin, seval, wTold, s04]
        refine app_dR (T := S9) (cs := cTold td w9) WTold.fr WTold.in (fun q => rTold_one (WTold.rd _ _ _ _ q)) (fun q => rTold_len (WTold.rd _ _ _ _ q)) tTolds iTold (d8.frame WTold.fr fun x q => Sub.eq s24 (d8.in WTold.in q)) (rdS_one g85 rfl) w10
          (fun x q q2 => d8.in WTold.in q2 (f9' x q)) (by rw [hlt]; omega) (by rw [hlt]; omega) fun M5 v9 S5 d5 k5 f5 => ?_
        have s05 : Tk.Sub B0 M5 := fun x o e => by rw [k5 x (by rw [s04 _ _ e]; simp) (fun q => by rw [f8 x q] at e; cases e)]; exact s04 _ _ e
        simp (disch := omega) only [walk, lists, acts, mem, plain, seqs, maps, cells, resL, resV, intBin, seval, wLive, s05, wrapI]
        refine ⟨d.told.length - (k' + 1), by omega, _, .refl _, k' + 1, v9, S5, by simp, s05, ?_, fun x q => ?_, by omega, rfl⟩
        · rw [List.take_succ_eq_append_getElem hk2, ← htd]; exact d5
        · rcases f5 x q with c | c | c
          · exact f8 x c
          · exact s8.none' (f9' x c)
          · exact s04.none' c
      · have hk3 : k' = d.told.length := by omega
        rw [hk3, List.take_length] at d8
        have on8 := d8.one
        have vc8 := vc1 on8
        obtain ⟨P1, wP1, gP1, fP1⟩ := box_st (vs := [v8]) (cs' := cLive d va v8) (o := 11) (s8 _ _ gB0) (by show 11 + 1 ≤ 12; omega) rfl
        have sP1 : Tk.Sub M' P1 := fun x o e => by rw [fP1 x (ne5 e)]; exact s8 _ _ (sB0 _ _ e)
        simp only [walk, lists, acts, mem, plain, seqs, maps, cells, resL, resV, intBin, seval, wLive, on8, vc8, wP1]
        refine newB_intro (o := blk [] 3) fun j89 h89 => ?_
        obtain ⟨B5, hB5⟩ : ∃ B5, B5 = (j89, blk [] 3) :: P1 := ⟨_, rfl⟩
        have g89 : hget B5 j89 = some (blk [] 3) := by rw [hB5]; exact hget_same _ _ _
        have sB5 : Tk.Sub P1 B5 := by rw [hB5]; exact Sub.cons h89 (Sub.refl _)
        have g7B5 := sB5 _ _ gP1
        have c7b : hcel B5 j7 10 = some va := hcel_of g7B5 rfl
        rw [← hB5]
        simp only [walk, lists, acts, mem, plain, seqs, maps, cells, resL, resV, intBin, seval, wLive, c7b]
        refine app_new_d eI_one tInts iInt g89 (ra.sub (sP1.trans sB5)) (by omega) (by omega) fun M6 w1 S1 t1 u1 f1 => ?_
        have on1 := u1.one
        have vcw1 := vc1 on1
        obtain ⟨N2, wN2, gN2, fN2⟩ := box_st (vs := [w1]) (cs' := cLive d w1 v8) (o := 10) (t1 _ _ g7B5) (by show 10 + 1 ≤ 12; omega) rfl
        have sN2 : Tk.Sub M' N2 := fun x o e => by rw [fN2 x (ne5 e)]; exact t1 _ _ (sB5 _ _ (sP1 _ _ e))
        simp only [walk, lists, acts, mem, plain, seqs, maps, cells, resL, resV, intBin, seval, wLive, wN2, on1, vcw1]
        have c34 : hcel N2 j3 4 = some v2 := hcel_of (sN2 _ _ g3') rfl
        have r7 : hread N2 j7 0 12 = some (cLive d w1 v8) := hread_of gN2 rfl
        have oneW : (cLive d w1 v8).all vone = true := by simp only [cLive, List.all_cons, List.all_nil, on1, on8]; rfl
        simp only [walk, lists, acts, mem, plain, seqs, maps, cells, resL, resV, intBin, seval, wLive, wGate, c34, r7, oneW, z1]
        have n89 : ∀ x, S1 x → hget P1 x = none := fun x q => by
          rcases f1 x q with c | c
          · rw [c]; exact h89
          · exact sB5.none' c
        have a1 : ∀ x, S1 x → x ≠ j7 := fun x q c => by have := n89 x q; rw [c, gP1] at this; cases this
        have a8 : ∀ x, S8 x → x ≠ j7 := fun x q c => by have := f8 x q; rw [c, gB0] at this; cases this
        have i8 : ∀ x, S8 x → hget P1 x ≠ none := fun x q => by rw [fP1 x (a8 x q)]; exact d8.in WTold.in q
        have d18 : ∀ x, S1 x → ¬ S8 x := fun x q q2 => i8 x q2 (n89 x q)
        refine newB_intro (o := blk (cLive d w1 v8) 82) fun j97 h97 => ?_
        obtain ⟨B3, hB3⟩ : ∃ B3, B3 = (j97, blk (cLive d w1 v8) 82) :: N2 := ⟨_, rfl⟩
        have g97 : hget B3 j97 = some (blk (cLive d w1 v8) 82) := by rw [hB3]; exact hget_same _ _ _
        have sB3 : Tk.Sub N2 B3 := by rw [hB3]; exact Sub.cons h97 (Sub.refl _)
        have e82 : ∀ x, S8 x → hget N2 x = hget M2 x := fun x q => by rw [fN2 x (a8 x q), Sub.eq (sB5.trans t1) (i8 x q), fP1 x (a8 x q)]
        have e12 : ∀ x, S1 x → hget N2 x = hget M6 x := fun x q => fN2 x (a1 x q)
        have w3 : WLive B3 (cLive d w1 v8) d (fun x => S1 x ∨ S8 x) := ⟨w1, v8, S1, S8, rfl, u1.frame fun x q => by rw [Sub.eq sB3 (by rw [e12 x q]; exact u1.in q), e12 x q], d8.frame WTold.fr fun x q => by rw [Sub.eq sB3 (by rw [e82 x q]; exact d8.in WTold.in q), e82 x q], d18, fun _ => Iff.rfl⟩
        have fT : ∀ x, (S1 x ∨ S8 x) → hget M' x = none := fun x q => by
          rcases q with q | q
          · exact sP1.none' (n89 x q)
          · exact sB0.none' (f8 x q)
        have sM3 : Tk.Sub M' B3 := sN2.trans sB3
        have hlt : (g.lives.take i).length = i := by rw [List.length_take]; omega
        have fSL := fS
        have fS : ∀ x, S x → hget A x = none ∧ x ≠ j3 ∧ ¬ S3 x := fun x q => ⟨(fS2 x q).1, (fS2 x q).2.1, (fS2 x q).2.2.1⟩
        rw [← hB3]
        simp only [walk, lists, acts, mem, plain, seqs, maps, cells, resL, resV, intBin, seval, wLive]
        refine app_dR (T := fun x => S1 x ∨ S8 x) (cs := cLive d w1 v8) WLive.fr WLive.in (fun q => rLive_one (WLive.rd _ _ _ _ q)) (fun q => rLive_len (WLive.rd _ _ _ _ q)) tLives iLive (dS'.frame WLive.fr fun x q => Sub.eq sM3 (dS'.in WLive.in q)) (rdS_one g97 rfl) w3
          (fun x q q2 => dS'.in WLive.in q2 (fT x q)) (by rw [hlt]; omega) (by rw [hlt]; omega) fun M3 v3 S' d3 k3 f3 => ?_
        have g3M3 := (k3 j3 (by rw [sM3 _ _ g3']; simp) (fun q => (fS j3 q).2.1 rfl)).trans (sM3 _ _ g3')
        have kA : ∀ x o, hget A x = some o → hget M3 x = some o := fun x o e => by rw [k3 x (by rw [sM3 _ _ (s _ _ e)]; simp) (fun q => by rw [(fS x q).1] at e; cases e), sM3 _ _ (s _ _ e)]
        have kW : ∀ x, S3 x → hget M3 x = hget M' x := fun x q => by rw [k3 x (by rw [Sub.eq sM3 (dW'.in q)]; exact dW'.in q) (fun q2 => (fS x q2).2.2 q), Sub.eq sM3 (dW'.in q)]
        have fS' : ∀ x, S' x → hget A x = none ∧ x ≠ j3 ∧ ¬ S3 x := fun x q => by
          rcases f3 x q with c | c | c
          · exact fS x c
          · have := fT x c
            exact ⟨s.none' this, fun c2 => (by rw [c2, g3'] at this; cases this), fun c2 => dW'.in c2 this⟩
          · have := sM3.none' c
            exact ⟨s.none' this, fun c2 => (by rw [c2, g3'] at this; cases this), fun c2 => dW'.in c2 this⟩
        have inL : ∀ x, SL x → hget M' x ≠ none := fun x q => dA'.in WRecord.in q
        have kL : ∀ x, SL x → hget M3 x = hget M' x := fun x q => by rw [k3 x (by rw [Sub.eq sM3 (inL x q)]; exact inL x q) (fun q2 => (fS2 x q2).2.2.2 q), Sub.eq sM3 (inL x q)]
        have fL' : ∀ x, S' x → ¬ SL x := fun x q q2 => by
          rcases f3 x q with c | c | c
          · exact (fS2 x c).2.2.2 q2
          · exact inL x q2 (fT x c)
          · exact inL x q2 (sM3.none' c)
        have on3 := d3.one
        have vc3 := vc1 on3
        obtain ⟨N3, wN3, gN3, fN3⟩ := box_st (vs := [v3]) (cs' := cGate (cpG g) v v3 w) (o := 4) g3M3 (by show 4 + 1 ≤ 6; omega) rfl
        simp (disch := omega) only [walk, lists, acts, mem, plain, seqs, maps, cells, resL, resV, intBin, seval, wGate, wN3, on3, vc3, wrapI]
        refine ⟨g.lives.length - (i + 1), by omega, _, .refl _, i + 1, v3, S', by simp, fun x o e => ?_, gN3, ?_, ?_, ?_, fun x q => ⟨(fS' x q).1, (fS' x q).2.1, (fS' x q).2.2, fL' x q⟩, by omega, rfl⟩
        · rw [fN3 x (fun c => by rw [c, n3] at e; cases e), kA x o e]
        · exact dW'.frame fun x q => by rw [fN3 x (fW x q).2, kW x q]
        · exact dA'.frame WRecord.fr fun x q => by rw [fN3 x (fSL x q).2.1, kL x q]
        · have : g.lives.take (i + 1) = g.lives.take i ++ [d] := by rw [List.take_succ_eq_append_getElem hi2, hd]
          rw [this]
          exact d3.frame WLive.fr fun x q => fN3 x (fS' x q).2.1
    · have hi4 : i = g.lives.length := by omega
      rw [hi4, List.take_length] at dS'
      have g2M := s _ _ g2
      obtain ⟨N6, w6, gN6, f6⟩ := box_st (vs := cGate g v v2 w) (cs' := cGate g v v2 w) (o := 0) g2M (by show 0 + 6 ≤ 6; omega) rfl
      have r3 : hread M' j3 0 6 = some (cGate g v v2 w) := hread_of g3' rfl
      have one6 : (cGate g v v2 w).all vone = true := by simp only [cGate, List.all_cons, List.all_nil, dA'.one, dS'.one, dW'.one]; rfl
      have r6 : hread N6 j2 0 6 = some (cGate g v v2 w) := hread_of gN6 rfl
      simp only [walk, lists, acts, mem, plain, seqs, maps, cells, resL, resV, intBin, seval, wGate, r3, one6, w6]
      try simp only [walk, lists, acts, mem, plain, seqs, maps, cells, resL, resV, intBin, seval, wGate, r6]
      have nj : ∀ x, hget A x = none → x ≠ j2 := fun x q c => by rw [c, g2] at q; cases q
      refine .of (k N6 v v2 w (fun x => SL x ∨ S x ∨ S3 x) (fun x o e => by rw [f6 x (fun c => by subst c; rw [n2.2] at e; cases e)]; exact s _ _ (sA _ _ e)) ⟨SL, S, S3, dA'.frame WRecord.fr fun x q => f6 x (nj x (fS x q).1), dS'.frame WLive.fr fun x q => f6 x (nj x (fS2 x q).1), dW'.frame fun x q => f6 x (nj x (fW x q).1),
        fun x q q2 => (fS2 x q2).2.2.2 q, fun x q q2 => (fS x q).2.2 q2, fun x q q2 => (fS2 x q).2.2.1 q2, fun _ => Iff.rfl⟩ ?_)
      rintro x (q | q | q)
      · exact sA.none' (fS x q).1
      · exact sA.none' (fS2 x q).1
      · exact sA.none' (fW x q).1
end Go.Proofs.YtmfhlkkligcgdaaGreatDoor
end

/- Gates: fall and rise, by the reference. -/
section
set_option linter.unusedVariables false
set_option linter.unusedSimpArgs false
set_option maxRecDepth 20000
attribute [local irreducible] Go.Tk.vc Go.Tk.vops Go.Tk.vdr Go.Tk.vop Go.Tk.vfl Go.Tk.HCalls
namespace Go.Proofs.YtmfhlkkligcgdaaGreatDoor
open Go Go.Tk

set_option maxHeartbeats 1000000 in
theorem specGateRise_c {h : H} {g : DGate} {lg lv wy : Value} (r : sGate h g lg lv wy) (hb : bGate g) {R : Ending → H → Prop} (k : ∀ M' a b c S, Tk.Sub h M' → WGate M' (gateRise g) a b c S → (∀ x, S x → hget h x = none) → R (.returned (.agg (cGate (gateRise g) a b c).toArray)) M') :
    HCalls Tryz.prog 24 #[.agg (cGate g lg lv wy).toArray] h R := by
  refine HCalls_ir (args := [.agg (cGate g lg lv wy).toArray]) Tryz.func24 ir24 ?_
  have zg := zGate_eq
  simp only [walk, lists, acts, mem, plain, seqs, maps, cells, resL, resV, intBin, seval, wGate, zg]
  refine newB_intro (o := blk (cGate g lg lv wy) 34) fun j1 h1 => ?_
  simp only [walk, lists, acts, mem, plain, seqs, maps, cells, resL, resV, intBin, seval, wGate, zg]
  refine newB_intro (o := blk (cGate zGate (.slice none 0 0) (.slice none 0 0) (.slice none 0 0)) 34) fun j2 h2 => ?_
  have n2 := h2
  simp only [subs] at n2
  have ne12 : j1 ≠ j2 := fun e => n2.1 e.symm
  obtain ⟨A, hA⟩ : ∃ A, A = (j2, blk (cGate zGate (.slice none 0 0) (.slice none 0 0) (.slice none 0 0)) 34) :: (j1, blk (cGate g lg lv wy) 34) :: h := ⟨_, rfl⟩
  have sA : Tk.Sub h A := by rw [hA]; exact Sub.cons h2 (Sub.cons h1 (Sub.refl _))
  have g2 : hget A j2 = some (blk (cGate zGate (.slice none 0 0) (.slice none 0 0) (.slice none 0 0)) 34) := by rw [hA]; exact hget_same _ _ _
  have g1 : hget A j1 = some (blk (cGate g lg lv wy) 34) := by rw [hA, hget_next _ _ _ ne12]; exact hget_same _ _ _
  have ra : hread A j1 0 6 = some (cGate g lg lv wy) := hread_of g1 rfl
  rw [← hA]
  simp only [walk, lists, acts, mem, plain, seqs, maps, cells, resL, resV, intBin, seval, wGate, ra]
  refine specGateOk_c (r.sub sA) hb fun q hq => ?_
  unfold gateRise at k
  cases q with
  | false =>
    rw [if_neg (not_b hq rfl)] at k
    obtain ⟨N, wN, gN, fN⟩ := box_st (vs := cGate zGate (.slice none 0 0) (.slice none 0 0) (.slice none 0 0)) (o := 0) g2 (by show 0 + 6 ≤ 6; omega) rfl
    have one0 : (cGate zGate (.slice none 0 0) (.slice none 0 0) (.slice none 0 0)).all vone = true := rfl
    have rN : hread N j2 0 6 = some (cGate zGate (.slice none 0 0) (.slice none 0 0) (.slice none 0 0)) := hread_of gN rfl
    simp only [walk, lists, acts, mem, plain, seqs, maps, cells, resL, resV, intBin, seval, wGate, zg, one0, wN, rN]
    try simp only [walk, lists, acts, mem, plain, seqs, maps, cells, resL, resV, intBin, seval, wGate, rN]
    refine .of (k N _ _ _ (fun _ => False) (fun x o e => by rw [fN x (fun c => by subst c; rw [n2.2] at e; cases e)]; exact sA x o e) ⟨fun _ => False, fun _ => False, fun _ => False, dR.nil, dR.nil, dL.nil, fun _ q => q.elim, fun _ q => q.elim, fun _ q => q.elim, fun _ => by simp⟩ fun x q => q.elim)
  | true =>
    have hok := hq.1 rfl
    rw [if_pos hok] at k
    have hlife := hok.1
    simp only [walk, lists, acts, mem, plain, seqs, maps, cells, resL, resV, intBin, seval, wGate, ra]
    refine specCopy_c (r.sub sA) hb fun M a b c S sM w fS => ?_
    have oneg := WGate.one (e := g) w
    simp only [walk, lists, acts, mem, plain, seqs, maps, cells, resL, resV, intBin, seval, wGate, zg]
    refine newB_intro (o := blk (cGate zGate (.slice none 0 0) (.slice none 0 0) (.slice none 0 0)) 34) fun j3 h3 => ?_
    obtain ⟨M0, hM0⟩ : ∃ M0, M0 = (j3, blk (cGate zGate (.slice none 0 0) (.slice none 0 0) (.slice none 0 0)) 34) :: M := ⟨_, rfl⟩
    have g3M0 : hget M0 j3 = some (blk (cGate zGate (.slice none 0 0) (.slice none 0 0) (.slice none 0 0)) 34) := by rw [hM0]; exact hget_same _ _ _
    have sM0 : Tk.Sub M M0 := by rw [hM0]; exact Sub.cons h3 (Sub.refl _)
    rw [← hM0]
    have ne3 : ∀ {x : Nat} {o : Obj}, hget M x = some o → x ≠ j3 := fun e c => by rw [c, h3] at e; cases e
    obtain ⟨N1, w1, gN1, f1⟩ := box_st (vs := cGate g a b c) (cs' := cGate g a b c) (o := 0) g3M0 (by show 0 + 6 ≤ 6; omega) rfl
    have sN1 : Tk.Sub M N1 := fun x o e => by rw [f1 x (ne3 e)]; exact sM0 _ _ e
    have nS : ∀ x, S x → x ≠ j2 := fun x q e => by have := fS x q; rw [e, g2] at this; cases this
    have cl0 : hcel N1 j1 0 = some (.bool g.up) := hcel_of (sN1 _ _ (sM _ _ g1)) rfl
    have cl1 : hcel N1 j1 1 = some (.int .i64 g.life) := hcel_of (sN1 _ _ (sM _ _ g1)) rfl
    simp only [walk, lists, acts, mem, plain, seqs, maps, cells, resL, resV, intBin, seval, wGate, zg, oneg, w1, cl0, cl1]
    obtain ⟨u, hu⟩ : ∃ u, u = g.up := ⟨_, rfl⟩
    rw [← hu]
    cases u with
    | true =>
      rw [if_neg (fun c => by rw [← hu] at c; cases c.1)] at k
      obtain ⟨G, hG⟩ : ∃ G, G = g := ⟨_, rfl⟩
      obtain ⟨N4, hN4⟩ : ∃ N4, N4 = N1 := ⟨_, rfl⟩
      have sN4 : Tk.Sub M N4 := by rw [hN4]; exact sN1
      have gN4 : hget N4 j3 = some (blk (cGate G a b c) 34) := by rw [hN4, hG]; exact gN1
      obtain ⟨N5, w5, gN5, f5⟩ := box_st (vs := cGate G a b c) (cs' := cGate G a b c) (o := 0) (sN4 _ _ (sM _ _ g2)) (by show 0 + 6 ≤ 6; omega) rfl
      have r4 : hread N4 j3 0 6 = some (cGate G a b c) := hread_of gN4 rfl
      have r5 : hread N5 j2 0 6 = some (cGate G a b c) := hread_of gN5 rfl
      have one5 : (cGate G a b c).all vone = true := WGate.one (e := G) w
      have sZ : Tk.Sub h N5 := fun x o e => by rw [f5 x (fun c => by subst c; rw [n2.2] at e; cases e)]; exact sN4 _ _ (sM _ _ (sA _ _ e))
      have fz : ∀ x, S x → hget N5 x = hget M x := fun x q => by rw [f5 x (nS x q), Sub.eq sN4 (w.in q)]
      rw [hN4, hG] at r4
      rw [hN4] at w5
      rw [hG] at one5 w5 r5
      try simp only [walk, lists, acts, mem, plain, seqs, maps, cells, resL, resV, intBin, seval, wGate, zg]
      try simp only [walk, lists, acts, mem, plain, seqs, maps, cells, resL, resV, intBin, seval, wGate, zg, r4, one5, w5, r5]
      exact .of (k N5 a b c S sZ (w.frame fz) fun x q => sA.none' (fS x q))
    | false =>
      simp only [walk, lists, acts, mem, plain, seqs, maps, cells, resL, resV, intBin, seval, wGate]
      refine ite_lt (fun c1 => ?_) fun c1 => ?_
      · rw [if_pos ⟨hu.symm, by omega⟩] at k
        obtain ⟨N2, w2, gN2, f2⟩ := box_st (vs := [.bool true]) (o := 0) (cs' := cGate { g with up := true } a b c) gN1 (by show 0 + 1 ≤ 6; omega) rfl
        have sN2 : Tk.Sub M N2 := fun x o e => by rw [f2 x (ne3 e)]; exact sN1 _ _ e
        obtain ⟨N4, w4, gN4, f4⟩ := box_st (vs := [.int .i64 (g.life + 1)]) (o := 1) (cs' := cGate { g with up := true, life := g.life + 1 } a b c) gN2 (by show 1 + 1 ≤ 6; omega) rfl
        have sN4 : Tk.Sub M N4 := fun x o e => by rw [f4 x (ne3 e)]; exact sN2 _ _ e
        have cl2 : hcel N2 j1 1 = some (.int .i64 g.life) := hcel_of (sN2 _ _ (sM _ _ g1)) rfl
        have hw : IntKind.i64.wrap (g.life + 1) = g.life + 1 := wrapI _ (by have := hlife.1; have := hlife.2; omega)
        obtain ⟨G, hG⟩ : ∃ G, G = { g with up := true, life := g.life + 1 } := ⟨_, rfl⟩
        rw [← hG] at gN4
        obtain ⟨N5, w5, gN5, f5⟩ := box_st (vs := cGate G a b c) (cs' := cGate G a b c) (o := 0) (sN4 _ _ (sM _ _ g2)) (by show 0 + 6 ≤ 6; omega) rfl
        have r4 : hread N4 j3 0 6 = some (cGate G a b c) := hread_of gN4 rfl
        have r5 : hread N5 j2 0 6 = some (cGate G a b c) := hread_of gN5 rfl
        have one5 : (cGate G a b c).all vone = true := WGate.one (e := G) w
        have sZ : Tk.Sub h N5 := fun x o e => by rw [f5 x (fun c => by subst c; rw [n2.2] at e; cases e)]; exact sN4 _ _ (sM _ _ (sA _ _ e))
        have fz : ∀ x, S x → hget N5 x = hget M x := fun x q => by rw [f5 x (nS x q), Sub.eq sN4 (w.in q)]
        rw [hG] at r4 one5 w5 r5
        simp only [walk, lists, acts, mem, plain, seqs, maps, cells, resL, resV, intBin, seval, wGate, zg, w2, cl2, hw, w4]
        try simp only [walk, lists, acts, mem, plain, seqs, maps, cells, resL, resV, intBin, seval, wGate, zg, r4, one5, w5, r5]
        exact .of (k N5 a b c S sZ ((w.data rfl rfl rfl).frame fz) fun x q => sA.none' (fS x q))
      · rw [if_neg (fun c => by omega)] at k
        obtain ⟨G, hG⟩ : ∃ G, G = g := ⟨_, rfl⟩
        obtain ⟨N4, hN4⟩ : ∃ N4, N4 = N1 := ⟨_, rfl⟩
        have sN4 : Tk.Sub M N4 := by rw [hN4]; exact sN1
        have gN4 : hget N4 j3 = some (blk (cGate G a b c) 34) := by rw [hN4, hG]; exact gN1
        obtain ⟨N5, w5, gN5, f5⟩ := box_st (vs := cGate G a b c) (cs' := cGate G a b c) (o := 0) (sN4 _ _ (sM _ _ g2)) (by show 0 + 6 ≤ 6; omega) rfl
        have r4 : hread N4 j3 0 6 = some (cGate G a b c) := hread_of gN4 rfl
        have r5 : hread N5 j2 0 6 = some (cGate G a b c) := hread_of gN5 rfl
        have one5 : (cGate G a b c).all vone = true := WGate.one (e := G) w
        have sZ : Tk.Sub h N5 := fun x o e => by rw [f5 x (fun c => by subst c; rw [n2.2] at e; cases e)]; exact sN4 _ _ (sM _ _ (sA _ _ e))
        have fz : ∀ x, S x → hget N5 x = hget M x := fun x q => by rw [f5 x (nS x q), Sub.eq sN4 (w.in q)]
        rw [hN4, hG] at r4
        rw [hN4] at w5
        rw [hG] at one5 w5 r5
        try simp only [walk, lists, acts, mem, plain, seqs, maps, cells, resL, resV, intBin, seval, wGate, zg]
        try simp only [walk, lists, acts, mem, plain, seqs, maps, cells, resL, resV, intBin, seval, wGate, zg, r4, one5, w5, r5]
        exact .of (k N5 a b c S sZ (w.frame fz) fun x q => sA.none' (fS x q))
end Go.Proofs.YtmfhlkkligcgdaaGreatDoor
end

/- The law: the program's GateRise says what the reference's says. -/
section
set_option linter.unusedVariables false
set_option linter.unusedSimpArgs false
set_option maxRecDepth 20000
attribute [local irreducible] Go.Tk.vc Go.Tk.vops Go.Tk.vdr Go.Tk.vop Go.Tk.vfl Go.Tk.HCalls
namespace Go.Proofs.YtmfhlkkligcgdaaGreatDoor
open Go Go.Tk

set_option maxHeartbeats 2000000 in
theorem exactGateRise_c {h : H} {d : DGate} {v1 v2 v3 : Value} (gl : Gl h) (gm : MxL h) (r : nGate h d v1 v2 v3) (hu : uGate d) {R : Ending → H → Prop} (k : R (.returned (.bool true)) h) :
    HCalls Tryz.prog 6 #[.agg (cGate d v1 v2 v3).toArray] h R := by
  refine HCalls_ir (args := [.agg (cGate d v1 v2 v3).toArray]) Tryz.func6 ir6 ?_
  have zg := zGate_eq
  have zm := zMap_eq
  simp only [walk, lists, acts, mem, plain, seqs, maps, cells, resL, resV, intBin, seval, wGate]
  refine newB_intro (o := blk (cGate d v1 v2 v3) 26) fun j1 h1 => ?_
  obtain ⟨M0, hM0⟩ : ∃ M0, M0 = (j1, blk (cGate d v1 v2 v3) 26) :: h := ⟨_, rfl⟩
  have s0 : Tk.Sub h M0 := by rw [hM0]; exact Sub.cons h1 (Sub.refl _)
  have g0 : hget M0 j1 = some (blk (cGate d v1 v2 v3) 26) := by rw [hM0]; exact hget_same _ _ _
  have a0 : hread M0 j1 0 6 = some (cGate d v1 v2 v3) := hread_of g0 rfl
  rw [← hM0]
  simp only [walk, lists, acts, mem, plain, seqs, maps, cells, resL, resV, intBin, seval, wGate, a0]
  refine szGate_c (r.sub s0) ⟨by omega, by omega⟩ hu fun x hx hx2 => ?_
  simp only [walk, lists, acts, mem, plain, seqs, maps, cells, resL, resV, intBin, seval]
  refine ite_lt (fun c => ⟨h, s0, k⟩) fun c => ?_
  have hsz : szGateN d ≤ 1048576 := by have := hx (by omega); omega
  have hb := bGate_of hsz
  have hcn := cnGate_of hsz
  have hbF := gateRise_b hb hsz
  have hcF := gateRise_cn hb hsz
  try simp only [walk, lists, acts, mem, plain, seqs, maps, cells, resL, resV, intBin, seval, a0]
  refine toGate_c (r.sub s0) hb fun M1 w1 w2 w3 S1 s1 W1 f1 => ?_
  simp only [walk, lists, acts, mem, plain, seqs, maps, cells, resL, resV, intBin, seval]
  refine specGateRise_c W1.rd hb fun M2 ava avb avc S2 s2 D2 f2 => ?_
  simp only [walk, lists, acts, mem, plain, seqs, maps, cells, resL, resV, intBin, seval, zg, zm]
  refine newB_intro (o := blk (cGate zGate (.slice none 0 0) (.slice none 0 0) (.slice none 0 0)) 34) fun j4 h4 => ?_
  have one4 := WGate.one (e := gateRise d) D2
  obtain ⟨M2', hM2'⟩ : ∃ M2', M2' = (j4, blk (cGate (gateRise d) ava avb avc) 34) :: M2 := ⟨_, rfl⟩
  have s2' : Tk.Sub M2 M2' := by rw [hM2']; exact Sub.cons h4 (Sub.refl _)
  have g4 : hget M2' j4 = some (blk (cGate (gateRise d) ava avb avc) 34) := by rw [hM2']; exact hget_same _ _ _
  simp only [walk, lists, acts, mem, plain, seqs, maps, cells, resL, resV, intBin, seval, wGate, one4, ← hM2']
  have s02 : Tk.Sub M0 M2' := (s1.trans (s2.trans s2'))
  have a2 : hread M2' j1 0 6 = some (cGate d v1 v2 v3) := hread_of (s02 _ _ g0) rfl
  try simp only [walk, lists, acts, mem, plain, seqs, maps, cells, resL, resV, intBin, seval, a2]
  refine toGate_c (r.sub (s0.trans s02)) hb fun M3 x1 x2 x3 S3 s3 W3 f3 => ?_
  simp only [walk, lists, acts, mem, plain, seqs, maps, cells, resL, resV, intBin, seval, zg, zm]
  refine newB_intro (o := blk (cGate zGate (.slice none 0 0) (.slice none 0 0) (.slice none 0 0)) 34) fun j5 h5 => ?_
  have one5 := WGate.one (e := d) W3
  obtain ⟨M4, hM4⟩ : ∃ M4, M4 = (j5, blk (cGate d x1 x2 x3) 34) :: M3 := ⟨_, rfl⟩
  have s4 : Tk.Sub M3 M4 := by rw [hM4]; exact Sub.cons h5 (Sub.refl _)
  have g5 : hget M4 j5 = some (blk (cGate d x1 x2 x3) 34) := by rw [hM4]; exact hget_same _ _ _
  have a5 : hread M4 j5 0 6 = some (cGate d x1 x2 x3) := hread_of g5 rfl
  have s24 : Tk.Sub M2' M4 := s3.trans s4
  have s04 : Tk.Sub h M4 := s0.trans (s02.trans s24)
  simp only [walk, lists, acts, mem, plain, seqs, maps, cells, resL, resV, intBin, seval, wGate, one5, ← hM4]
  try simp only [walk, lists, acts, mem, plain, seqs, maps, cells, resL, resV, intBin, seval, a5]
  have W4 := W3.frame (M' := M4) fun x q => Sub.eq s4 (W3.in q)
  refine implGateRise_c (gl.sub s04) (gm.sub s04) W4.rd hb fun M5 bva bvb bvc S5 s5 D5 f5 => ?_
  simp only [walk, lists, acts, mem, plain, seqs, maps, cells, resL, resV, intBin, seval, zg, zm]
  refine newB_intro (o := blk (cGate zGate (.slice none 0 0) (.slice none 0 0) (.slice none 0 0)) 34) fun j6 h6 => ?_
  have one6 := WGate.one (e := gateRise d) D5
  obtain ⟨M5', hM5'⟩ : ∃ M5', M5' = (j6, blk (cGate (gateRise d) bva bvb bvc) 34) :: M5 := ⟨_, rfl⟩
  have s5' : Tk.Sub M5 M5' := by rw [hM5']; exact Sub.cons h6 (Sub.refl _)
  have g6 : hget M5' j6 = some (blk (cGate (gateRise d) bva bvb bvc) 34) := by rw [hM5']; exact hget_same _ _ _
  simp only [walk, lists, acts, mem, plain, seqs, maps, cells, resL, resV, intBin, seval, wGate, one6, ← hM5']
  have r6 : hread M5' j6 0 6 = some (cGate (gateRise d) bva bvb bvc) := hread_of g6 rfl
  have r4 : hread M5' j4 0 6 = some (cGate (gateRise d) ava avb avc) := hread_of (s5' _ _ (s5 _ _ (s24 _ _ g4))) rfl
  try simp only [walk, lists, acts, mem, plain, seqs, maps, cells, resL, resV, intBin, seval, r6, r4]
  have D5old := D5
  have D5 := D5.frame (M' := M5') fun x q => Sub.eq s5' (D5.in q)
  have s45 : Tk.Sub M4 M5' := (s5.trans s5')
  have s25 : Tk.Sub M2 M5' := (s2'.trans (s24.trans (s5.trans s5')))
  have D2' := D2.frame (M' := M5') fun x q => Sub.eq s25 (D2.in q)
  refine eqGate_c D5.rd D2'.rd hbF ?_
  simp only [walk, lists, acts, mem, plain, seqs, maps, cells, resL, resV, intBin, seval, decide_true]
  have a1' : hread M5' j1 0 6 = some (cGate d v1 v2 v3) := hread_of (s45 _ _ (s24 _ _ (s02 _ _ g0))) rfl
  have a5' : hread M5' j5 0 6 = some (cGate d x1 x2 x3) := hread_of (s45 _ _ g5) rfl
  have s55 := Sub.refl M5'
  refine vc_draw _ (Sub.refl _) ?_
  simp only [walk, lists, acts, mem, plain, seqs, maps, cells, resL, resV, intBin, seval, a1', a5', s55]
  refine toGate_c (r.sub (s04.trans s45)) hb fun M6 y1 y2 y3 S6 s6 W6 f6 => ?_
  simp only [walk, lists, acts, mem, plain, seqs, maps, cells, resL, resV, intBin, seval, a1', a5', s6]
  have W6x := W4.frame (M' := M6) fun x q => Sub.eq (s45.trans s6) (W4.in q)
  refine eqGate_c W6x.rd W6.rd hb ?_
  simp only [walk, lists, acts, mem, plain, seqs, maps, cells, resL, resV, intBin, seval, decide_true, s6]
  have s46 : Tk.Sub M4 M6 := s45.trans s6
  have a5'' : hread M6 j5 0 6 = some (cGate d x1 x2 x3) := hread_of (s46 _ _ g5) rfl
  try simp only [walk, lists, acts, mem, plain, seqs, maps, cells, resL, resV, intBin, seval, a5'']
  refine markGate_c W6x hcn ⟨by omega, by omega⟩ fun M7 W7 ch7 => ?_
  simp only [walk, lists, acts, mem, plain, seqs, maps, cells, resL, resV, intBin, seval]
  have hS3 : ∀ x, S3 x → hget M2' x = none ∧ hget M4 x ≠ none := fun x q => ⟨f3 x q, W4.in q⟩
  have n7 : ∀ x o, hget M2' x = some o → hget M7 x = some o := fun x o e => by
    rw [ch7 x fun q => by rw [(hS3 x q).1] at e; cases e]; exact s46 _ _ (s24 _ _ e)
  have hj6 : ¬ S3 j6 := fun q => by have := s5.none' h6; exact (hS3 j6 q).2 this
  have r6' : hread M7 j6 0 6 = some (cGate (gateRise d) bva bvb bvc) := hread_of (by rw [ch7 j6 hj6]; exact s6 _ _ g6) rfl
  have r4' : hread M7 j4 0 6 = some (cGate (gateRise d) ava avb avc) := hread_of (n7 _ _ g4) rfl
  refine ite_lt (fun c => absurd c (by omega)) fun _ => ?_
  try simp only [walk, lists, acts, mem, plain, seqs, maps, cells, resL, resV, intBin, seval, r6', r4']
  have D5' := D5.frame (M' := M7) fun x q => by rw [ch7 x fun q2 => (hS3 x q2).2 (f5 x q)]; exact Sub.eq s6 (D5.in q)
  have D2'' := D2.frame (M' := M7) fun x q => by
    cases e : hget M2 x with
    | none => exact absurd e (D2.in q)
    | some o => exact n7 x o (s2' _ _ e)
  refine eqGate_c D5'.rd D2''.rd hbF ?_
  simp only [walk, lists, acts, mem, plain, seqs, maps, cells, resL, resV, intBin, seval, decide_true]
  try simp only [walk, lists, acts, mem, plain, seqs, maps, cells, resL, resV, intBin, seval, r6', r4']
  refine markGate_c D5' hcF (by omega) fun M8 D8 ch8 => ?_
  have n8 : ∀ x o, hget M2' x = some o → hget M8 x = some o := fun x o e => by
    rw [ch8 x fun q => by have := f5 x q; rw [s24 _ _ e] at this; cases this]; exact n7 x o e
  have hj6' : ¬ S5 j6 := fun q => (D5old.in q) h6
  have r68 : hread M8 j6 0 6 = some (cGate (gateRise d) bva bvb bvc) := hread_of (by rw [ch8 j6 hj6', ch7 j6 hj6]; exact s6 _ _ g6) rfl
  have r48 : hread M8 j4 0 6 = some (cGate (gateRise d) ava avb avc) := hread_of (n8 _ _ g4) rfl
  simp only [walk, lists, acts, mem, plain, seqs, maps, cells, resL, resV, intBin, seval, r68]
  refine heldGate_c (k := 1) D8.rd hcF (by omega) ?_
  skip
  simp only [walk, lists, acts, mem, plain, seqs, maps, cells, resL, resV, intBin, seval]
  refine ite_lt (fun c => absurd c (by omega)) fun _ => ?_
  try simp only [walk, lists, acts, mem, plain, seqs, maps, cells, resL, resV, intBin, seval]
  try refine ite_ne (fun c => absurd rfl c) fun _ => ?_
  have sh8 : Tk.Sub h M8 := fun x o e => n8 x o (s02 _ _ (s0 _ _ e))
  have a8 : hread M8 j1 0 6 = some (cGate d v1 v2 v3) := hread_of (n8 _ _ (s02 _ _ g0)) rfl
  try simp only [walk, lists, acts, mem, plain, seqs, maps, cells, resL, resV, intBin, seval, a8]
  refine toGate_c (r.sub sh8) hb fun M9 z1 z2 z3 S9 s9 W9 f9 => ?_
  simp only [walk, lists, acts, mem, plain, seqs, maps, cells, resL, resV, intBin, seval]
  refine implGateRise_c (gl.sub (sh8.trans s9)) (gm.sub (sh8.trans s9)) W9.rd hb fun M10 cva cvb cvc S10 s10 D10 f10 => ?_
  simp only [walk, lists, acts, mem, plain, seqs, maps, cells, resL, resV, intBin, seval, zg, zm]
  refine newB_intro (o := blk (cGate zGate (.slice none 0 0) (.slice none 0 0) (.slice none 0 0)) 34) fun j10 h10 => ?_
  have one10 := WGate.one (e := gateRise d) D10
  obtain ⟨M10', hM10'⟩ : ∃ M10', M10' = (j10, blk (cGate (gateRise d) cva cvb cvc) 34) :: M10 := ⟨_, rfl⟩
  have s10' : Tk.Sub M10 M10' := by rw [hM10']; exact Sub.cons h10 (Sub.refl _)
  have g10 : hget M10' j10 = some (blk (cGate (gateRise d) cva cvb cvc) 34) := by rw [hM10']; exact hget_same _ _ _
  simp only [walk, lists, acts, mem, plain, seqs, maps, cells, resL, resV, intBin, seval, wGate, one10, ← hM10']
  have r10 : hread M10' j10 0 6 = some (cGate (gateRise d) cva cvb cvc) := hread_of g10 rfl
  have s8T : Tk.Sub M8 M10' := s9.trans (s10.trans s10')
  have r410 : hread M10' j4 0 6 = some (cGate (gateRise d) ava avb avc) := hread_of (s8T _ _ (n8 _ _ g4)) rfl
  have r610 : hread M10' j6 0 6 = some (cGate (gateRise d) bva bvb bvc) := hread_of (s8T _ _ (by rw [ch8 j6 hj6', ch7 j6 hj6]; exact s6 _ _ g6)) rfl
  try simp only [walk, lists, acts, mem, plain, seqs, maps, cells, resL, resV, intBin, seval, r10, r410]
  have D10 := D10.frame (M' := M10') fun x q => Sub.eq s10' (D10.in q)
  have D2T := D2.frame (M' := M10') fun x q => by
    cases e : hget M2 x with
    | none => exact absurd e (D2.in q)
    | some o => exact s8T _ _ (n8 x o (s2' _ _ e))
  have D8T := D8.frame (M' := M10') fun x q => Sub.eq s8T (D8.in q)
  refine eqGate_c D10.rd D2T.rd hbF ?_
  simp only [walk, lists, acts, mem, plain, seqs, maps, cells, resL, resV, intBin, seval, decide_true]
  try simp only [walk, lists, acts, mem, plain, seqs, maps, cells, resL, resV, intBin, seval, r610]
  refine heldGate_c (k := 1) D8T.rd hcF (by omega) ?_
  skip
  simp only [walk, lists, acts, mem, plain, seqs, maps, cells, resL, resV, intBin, seval]
  refine ite_lt (fun c => absurd c (by omega)) fun _ => ?_
  try simp only [walk, lists, acts, mem, plain, seqs, maps, cells, resL, resV, intBin, seval]
  try refine ite_ne (fun c => absurd rfl c) fun _ => ?_
  try simp only [walk, lists, acts, mem, plain, seqs, maps, cells, resL, resV, intBin, seval]
  exact ⟨h, sh8.trans s8T, k⟩

end Go.Proofs.YtmfhlkkligcgdaaGreatDoor
end
