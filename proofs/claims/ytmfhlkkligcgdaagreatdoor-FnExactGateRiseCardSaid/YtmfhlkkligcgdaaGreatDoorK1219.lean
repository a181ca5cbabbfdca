/- Parts of the proof, put together: A35, Z2, Z3. -/
import Derived.Test.YtmfhlkkligcgdaaGreatDoorK1214
import Derived.Test.YtmfhlkkligcgdaaGreatDoorK1218
import Derived.Test.YtmfhlkkligcgdaaGreatDoorK125
/- Steps in any order: more of what each gives; steps under conditions. -/
section
set_option linter.unusedVariables false
set_option linter.unusedSimpArgs false
namespace Go.Tk
open Go
section
variable {P : Program} {rest : H} {ρ : (Nat → Value) → Operand → Value} {D : H → (Nat → Value) → Prop} {q : H → Value → Prop}
theorem aF_on {t : Nat} {w : Bool} {i : I} (k : ∀ f g, D g f → ρ f (.tmp t) = .bool w) (s : stA P mG q rest ρ D i) : stG P mG q rest ρ D (some (t, w)) i := fun m f h g hm hs hd => by
  have : wantR (ρ f) (some (t, w)) = true := by simp only [wantR, k f g hd, isB, beq_self_eq_true]
  rw [if_pos this]
  exact s m f h g hm hs hd
theorem aF_off {t : Nat} {w : Bool} {i : I} (k : ∀ f g, D g f → ρ f (.tmp t) = .bool (!w)) (hq : ∀ g, q g undef) : stG P mG q rest ρ D (some (t, w)) i := fun m f h g hm hs hd => by
  have : wantR (ρ f) (some (t, w)) = false := by simp only [wantR, k f g hd, isB]; cases w <;> rfl
  rw [if_neg (by rw [this]; simp)]
  exact ⟨g, hm, Sub.refl _, hq g⟩
theorem aF_bin {op : BinOp} {t : TypeId} {x y : Operand} (k : ∀ f g, Sub rest g → D g f → ∃ (a b : Int) (v : Value), ρ f x = .int .i64 a ∧ ρ f y = .int .i64 b ∧ intBin op .i64 a b = some v ∧ q g v) : stA P mG q rest ρ D (.bin op t x y) := fun m f h g hm hs hd => by
  obtain ⟨a, b, v, e1, e2, hv, hq⟩ := k f g hs hd
  show vop _ _ _ _ _ _
  unfold vop
  simp only [e1, e2, hv]
  exact ⟨.inl trivial, g, hm, Sub.refl _, hq⟩
theorem aF_idx {x i : Operand} {sz : Nat} {V : Value} {n : Int} {p : Value} (hx : ∀ (kd : IntKind) (F : Value → Prop), idxSK V (.int kd n) sz F = F p) (k : ∀ f g, Sub rest g → D g f → ρ f x = V ∧ ρ f i = .int .i64 n ∧ q g p) : stA P mG q rest ρ D (.idxS x i sz) := fun m f h g hm hs hd => by
  obtain ⟨e1, e2, hq⟩ := k f g hs hd
  show vop _ _ _ _ _ _
  rw [vop_idxS, e1, e2, hx]
  exact ⟨g, hm, Sub.refl _, hq⟩
theorem aF_row {α : Type} {enc : α → List Value} {sz : Nat} (he : ∀ a, (enc a).length = sz) {e n : Nat} {z : List Value} {L : List α} {ps : List (Nat × Nat × Operand)} (hn : L.length = n) (k : ∀ f g, Sub rest g → D g f → fillL (zrep z n) (ps.map fun p => (p.1, p.2.1, vcells (ρ f p.2.2))) = some (fl enc L)) :
    stA P mG (aS rest e enc sz L) rest ρ D (.bslice e z n ps) := fun m f h g hm hs hd => by
  have hf := k f g hs hd
  show vop _ _ _ _ _ _
  unfold vop
  simp only [hf]
  intro j hj
  have hjg : hget g j = none := Sub.none' hm hj
  refine ⟨(j, blk (fl enc L) e) :: g, Sub.cons2 hm, Sub.cons hjg (Sub.refl _), [(j, blk (fl enc L) e)], ?_, Sub.cons2 (Sub.nil _), Dj.one (hs.none' hjg)⟩
  have := oLs_new (e := e) (j := j) (l := L) he
  rw [hn] at this; exact this
theorem aF_call2 {F : FuncId} {xs : List Operand} (k : ∀ f g, Sub rest g → D g f → ∀ h, Sub g h → HCalls P F (xs.map (ρ f)).toArray h fun e h' => ∃ v, e = .returned v ∧ ∃ g', Sub g' h' ∧ Sub g g' ∧ q g' v) : stA P mG q rest ρ D (.call F xs) := fun m f h g hm hs hd => by
  show HCalls P F (xs.map (ρ f)).toArray h _
  refine HCalls.mono (k f g hs hd h hm) fun e h' hx => ?_
  obtain ⟨v, rfl, g', s1, s2, hq⟩ := hx
  exact ⟨g', s1, s2, hq⟩
end
theorem usedN_more {l : List DWay} {i : Nat} (h : i < l.length) (s : Int) : usedN (l.take (i + 1)) s = usedN (l.take i) s + if l[i].house = s then 1 else 0 := by
  unfold usedN
  rw [List.take_succ_eq_append_getElem h, List.countP_append, List.countP_singleton]
  simp only [decide_eq_true_eq]
theorem usedN_take (l : List DWay) (i : Nat) (s : Int) : usedN (l.take i) s ≤ usedN l s := by
  unfold usedN
  have := List.countP_append (p := fun w : DWay => decide (w.house = s)) (l₁ := l.take i) (l₂ := l.drop i)
  rw [List.take_append_drop] at this; omega
/-- How many ways to each house. -/
def cntA (l : List DWay) : List Int := [(usedN l 0 : Int), (usedN l 1 : Int), (usedN l 2 : Int)]
theorem cntA_at (l : List DWay) {s : Int} (h : 0 ≤ s ∧ s ≤ 2) (hi : s.toNat < (cntA l).length) : (cntA l)[s.toNat] = (usedN l s : Int) := by
  have : s = 0 ∨ s = 1 ∨ s = 2 := by omega
  rcases this with rfl | rfl | rfl <;> rfl
theorem cntA_more {l : List DWay} {i : Nat} (hi : i < l.length) (h : 0 ≤ l[i].house ∧ l[i].house ≤ 2) : (cntA (l.take i)).set l[i].house.toNat ((usedN (l.take i) l[i].house : Int) + 1) = cntA (l.take (i + 1)) := by
  have : l[i].house = 0 ∨ l[i].house = 1 ∨ l[i].house = 2 := by omega
  unfold cntA
  simp only [usedN_more hi]
  rcases this with e | e | e <;> simp [e]
end Go.Tk
end

/- Gates: the program's; which ways are ok. -/
section
set_option linter.unusedVariables false
set_option linter.unusedSimpArgs false
set_option maxRecDepth 20000
attribute [local irreducible] Go.Tk.vc Go.Tk.vops Go.Tk.vdr Go.Tk.vop Go.Tk.vfl Go.Tk.HCalls
namespace Go.Proofs.YtmfhlkkligcgdaaGreatDoor
open Go Go.Tk

set_option maxHeartbeats 4000000 in
theorem waysOk_c {h : H} {g : DGate} {lg lv wy : Value} (r : sGate h g lg lv wy) (b1 : g.lives.length ≤ 1048576) (b2 : g.ways.length ≤ 1048576) (hris : risP (·.stamp) g.lives) {R : Ending → H → Prop} (k : Asks R (waysP g.lives g.ways) h) :
    HCalls Tryz.prog 68 #[.agg (cGate g lg lv wy).toArray] h R := by
  refine HCalls_ir (args := [.agg (cGate g lg lv wy).toArray]) Tryz.func68 ir68 ?_
  simp only [walk, lists, acts, mem, plain, seqs, maps, cells, resL, resV, intBin, seval, wGate]
  refine newB_intro (o := blk (cGate g lg lv wy) 34) fun j1 h1 => ?_
  simp only [walk, lists, acts, mem, plain, seqs, maps, cells, resL, resV, intBin, seval, wGate]
  have z3 : [Value.int .i64 0, .int .i64 0, .int .i64 0] = fl eI (cntA []) := rfl
  simp only [z3]
  refine newB_intro (o := blk (fl eI (cntA [])) 97) fun j3 h3 => ?_
  obtain ⟨B, hB⟩ : ∃ B, B = (j1, blk (cGate g lg lv wy) 34) :: h := ⟨_, rfl⟩
  have sB : Tk.Sub h B := by rw [hB]; exact Sub.cons h1 (Sub.refl _)
  have gB : hget B j1 = some (blk (cGate g lg lv wy) 34) := by rw [hB]; exact hget_same _ _ _
  rw [← hB] at h3 ⊢
  have nB3 := h3
  obtain ⟨M, hM⟩ : ∃ M, M = (j3, blk (fl eI (cntA [])) 97) :: B := ⟨_, rfl⟩
  have m3 : hget M j3 = some (blk (fl eI (cntA [])) 97) := by rw [hM]; exact hget_same _ _ _
  have sM : Tk.Sub B M := by rw [hM]; exact Sub.cons nB3 (Sub.refl _)
  have hc5 : ∀ {N : H}, Tk.Sub B N → hcel N j1 5 = some wy := fun s => hcel_of (s _ _ gB) rfl
  have zw := zWay_eq
  rw [← hM]
  simp only [walk, lists, acts, mem, plain, seqs, maps, cells, resL, resV, intBin, seval, hc5 sM, r.2.2.len]
  refine vc_loop [11] (fun n vs M' => ∃ (i : Nat), vs = [.int .i64 i] ∧ Tk.Sub B M' ∧ hget M' j3 = some (blk (fl eI (cntA (g.ways.take i))) 97) ∧ i ≤ g.ways.length ∧ n = g.ways.length - i ∧ (∀ w ∈ g.ways.take i, houseP w.house ∧ (∃ x, liveOf g.lives w.stamp = some x ∧ x.phase ≠ 0)) ∧ (∀ s, usedN (g.ways.take i) s ≤ 2) ∧
      ∀ q (hq : q + 1 < g.ways.length), q + 1 < i → wayLt (g.ways[q]'(by omega)) g.ways[q + 1]) g.ways.length rfl
    ⟨0, rfl, sM, by simpa using m3, by omega, rfl, by simp, fun s => by simp [usedN], by simp⟩ ?_
  rintro n f M' ⟨i, hv, sM', m3', hi, rfl, hall, hcnt, hlt⟩
  simp only [List.map_cons, List.map_nil, List.cons.injEq, and_true] at hv
  simp only [walk, lists, acts, mem, plain, seqs, maps, cells, resL, resV, intBin, seval, wr, hv]
  refine ite_lt (fun c1 => ?_) fun c1 => ?_
  · have hi2 : i < g.ways.length := by omega
    have rw' := r.2.2.sub (sB.trans sM')
    obtain ⟨b, o, hx, e⟩ := ls_at (enc := cWay) (sz := 2) (fun _ => rfl) rw' hi2
    simp only [walk, lists, acts, mem, plain, seqs, maps, cells, resL, resV, intBin, seval, hx, e, wWay, zw]
    refine newB_intro (o := blk (cWay zWay) 92) fun j5 hj5 => ?_
    obtain ⟨N, hN⟩ : ∃ N, N = (j5, blk (cWay g.ways[i]) 92) :: M' := ⟨_, rfl⟩
    have sN : Tk.Sub M' N := by rw [hN]; exact Sub.cons hj5 (Sub.refl _)
    have gN : hget N j5 = some (blk (cWay g.ways[i]) 92) := by rw [hN]; exact hget_same _ _ _
    have w0N : hcel N j5 0 = some (.int .i64 g.ways[i].house) := hcel_of gN rfl
    have w1N : hcel N j5 1 = some (.int .i64 g.ways[i].stamp) := hcel_of gN rfl
    have m3N := sN _ _ m3'
    have rN := rw'.sub sN
    have c5N := hc5 (sM'.trans sN)
    have s0 : Tk.Sub h N := sB.trans (sM'.trans sN)
    simp only [walk, lists, acts, mem, plain, seqs, maps, cells, resL, resV, intBin, seval, wWay, zw, ← hN, w0N]
    refine isHouse_c fun q1 hq1 => ?_
    cases q1 with
    | false =>
      simp only [walk, lists, acts, mem, plain, seqs, maps, cells, resL, resV, intBin, seval]
      exact k.dno s0 fun p => not_b hq1 rfl (p.1 _ (List.getElem_mem hi2)).1
    | true =>
    simp only [walk, lists, acts, mem, plain, seqs, maps, cells, resL, resV, intBin, seval]
    by_cases hi0 : i = 0
    · have hord : ∀ (hq : 0 < i), wayLt (g.ways[i - 1]'(by omega)) g.ways[i] := fun hq => absurd hq (by omega)
      refine vc_anyR mG [aV (.int .i64 i), aV (.bool false), aV (.bool false)] N ?_ (Sub.refl _) rfl fun ρ hi' ho hc => ?_
      · repeat' first | exact fun _ h => absurd h List.not_mem_nil | refine List.forall_mem_cons.2 ⟨?_, ?_⟩ | exact aMono_V _
      simp only [anysR, andr, maps, lists, plain, Nat.reduceAdd]
      refine ⟨aF_mov fun f g _ _ => ho f 4 rfl, aF_bin fun f g _ hd => ⟨i, 0, .bool false, (hi' f 20 rfl).trans hd, hc f _, by simp [intBin, hi0], rfl⟩, aF_mov fun f g _ hd => (hi' f 21 rfl).trans hd,
        aF_off (fun f g hd => (hi' f 22 rfl).trans (by first | exact hd | exact hd.2 | exact hd.2.2 | exact hd.2.2.1)) fun _ => trivial,
        aF_off (fun f g hd => (hi' f 22 rfl).trans (by first | exact hd | exact hd.2 | exact hd.2.2 | exact hd.2.2.1)) fun _ => trivial,
        aF_off (fun f g hd => (hi' f 22 rfl).trans (by first | exact hd | exact hd.2 | exact hd.2.2 | exact hd.2.2.1)) fun _ => trivial,
        aF_off (fun f g hd => (hi' f 22 rfl).trans (by first | exact hd | exact hd.2 | exact hd.2.2 | exact hd.2.2.1)) fun _ => trivial,
        aF_off (fun f g hd => (hi' f 22 rfl).trans (by first | exact hd | exact hd.2 | exact hd.2.2 | exact hd.2.2.1)) fun _ => trivial,
        aF_off (fun f g hd => (hi' f 22 rfl).trans (by first | exact hd | exact hd.2 | exact hd.2.2 | exact hd.2.2.1)) fun _ => trivial,
        aF_off (fun f g hd => (hi' f 22 rfl).trans (by first | exact hd | exact hd.2 | exact hd.2.2 | exact hd.2.2.1)) fun _ => trivial,
        aF_off (fun f g hd => (hi' f 22 rfl).trans (by first | exact hd | exact hd.2 | exact hd.2.2 | exact hd.2.2.1)) fun _ => trivial,
        aF_off (fun f g hd => (hi' f 22 rfl).trans (by first | exact hd | exact hd.2 | exact hd.2.2 | exact hd.2.2.1)) fun _ => trivial,
        aF_off (fun f g hd => (hi' f 22 rfl).trans (by first | exact hd | exact hd.2 | exact hd.2.2 | exact hd.2.2.1)) fun _ => trivial,
        aF_off (fun f g hd => (hi' f 22 rfl).trans (by first | exact hd | exact hd.2 | exact hd.2.2 | exact hd.2.2.1)) fun _ => trivial,
        aF_off (fun f g hd => (hi' f 22 rfl).trans (by first | exact hd | exact hd.2 | exact hd.2.2 | exact hd.2.2.1)) fun _ => trivial,
        aF_off (fun f g hd => (hi' f 22 rfl).trans (by first | exact hd | exact hd.2 | exact hd.2.2 | exact hd.2.2.1)) fun _ => trivial,
        aF_off (fun f g hd => (hi' f 22 rfl).trans (by first | exact hd | exact hd.2 | exact hd.2.2 | exact hd.2.2.1)) fun _ => trivial,
        aF_off (fun f g hd => (hi' f 22 rfl).trans (by first | exact hd | exact hd.2 | exact hd.2.2 | exact hd.2.2.1)) fun _ => trivial,
        aF_off (fun f g hd => (hi' f 22 rfl).trans (by first | exact hd | exact hd.2 | exact hd.2.2 | exact hd.2.2.1)) fun _ => trivial,
        aF_off (fun f g hd => (hi' f 22 rfl).trans (by first | exact hd | exact hd.2 | exact hd.2.2 | exact hd.2.2.1)) fun _ => trivial,
        aF_off (fun f g hd => (hi' f 22 rfl).trans (by first | exact hd | exact hd.2 | exact hd.2.2 | exact hd.2.2.1)) fun _ => trivial,
        aF_off (fun f g hd => (hi' f 22 rfl).trans (by first | exact hd | exact hd.2 | exact hd.2.2 | exact hd.2.2.1)) fun _ => trivial,
        aF_off (fun f g hd => (hi' f 22 rfl).trans (by first | exact hd | exact hd.2 | exact hd.2.2 | exact hd.2.2.1)) fun _ => trivial,
        aF_off (fun f g hd => (hi' f 22 rfl).trans (by first | exact hd | exact hd.2 | exact hd.2.2 | exact hd.2.2.1)) fun _ => trivial,
        aF_off (fun f g hd => (hi' f 22 rfl).trans (by first | exact hd | exact hd.2 | exact hd.2.2 | exact hd.2.2.1)) fun _ => trivial, ?_⟩
      intro m2 f2 h2 g2 hm hs2 hd
      have e22 := (hi' f2 22 rfl).trans hd.2.2.1
      refine ⟨N, hs2.trans hm, ?_⟩
      have e22' : f2 22 = .bool false := hd.2.2.1
      have hcf := hc f2 (.bool false)
      simp only [walk, lists, acts, mem, plain, seqs, maps, cells, resL, resV, intBin, seval, wr, e22, e22', hcf]
      try simp only [walk, lists, acts, mem, plain, seqs, maps, cells, resL, resV, intBin, seval, w0N]
      have hh : 0 ≤ g.ways[i].house ∧ g.ways[i].house ≤ 2 := hq1.1 rfl
      have hcl : g.ways[i].house.toNat < (cntA (g.ways.take i)).length := by show _ < 3; omega
      have pl : hcel N j3 g.ways[i].house.toNat = some (.int .i64 (usedN (g.ways.take i) g.ways[i].house)) := by
        rw [← cntA_at _ hh hcl]; exact hcel_of m3N (flI_at hcl)
      have hus : usedN (g.ways.take i) g.ways[i].house ≤ i := Nat.le_trans List.countP_le_length (by rw [List.length_take]; omega)
      refine ⟨⟨by omega, by omega⟩, ?_⟩
      simp (disch := omega) only [walk, lists, acts, mem, plain, seqs, maps, cells, resL, resV, intBin, seval, pl, wrapI]
      refine ⟨⟨by omega, by omega⟩, ?_⟩
      obtain ⟨N2, hN2⟩ : ∃ N2, N2 = hupd N j3 (blk (fl eI (cntA (g.ways.take (i + 1)))) 97) := ⟨_, rfl⟩
      have wt : hwrite N j3 g.ways[i].house.toNat [.int .i64 ((usedN (g.ways.take i) g.ways[i].house : Int) + 1)] = some N2 := by
        rw [hwrite_of (j := g.ways[i].house.toNat) (vs := [.int .i64 ((usedN (g.ways.take i) g.ways[i].house : Int) + 1)]) m3N (by rw [fl_len eI_len]; show _ ≤ 3 * 1; simp only [List.length_singleton]; omega), hN2, ← cntA_more hi2 hh]
        have : g.ways[i].house = 0 ∨ g.ways[i].house = 1 ∨ g.ways[i].house = 2 := by omega
        rcases this with e | e | e <;> rw [e] <;> rfl
      have j53 : j5 ≠ j3 := fun e => by rw [e, m3'] at hj5; cases hj5
      have sBN2 : Tk.Sub B N2 := by rw [hN2]; exact Sub.wr (sM'.trans sN) nB3
      have gN2 : hget N2 j5 = some (blk (cWay g.ways[i]) 92) := by rw [hN2, hget_hupd_ne j53]; exact gN
      have x0 : hcel N2 j5 0 = some (.int .i64 g.ways[i].house) := hcel_of gN2 rfl
      have x1 : hcel N2 j5 1 = some (.int .i64 g.ways[i].stamp) := hcel_of gN2 rfl
      have x4 : hcel N2 j1 4 = some lv := hcel_of (sBN2 _ _ gB) rfl
      have m3N2 : hget N2 j3 = some (blk (fl eI (cntA (g.ways.take (i + 1)))) 97) := by rw [hN2]; exact hget_hupd_same m3N
      have hcl2 : g.ways[i].house.toNat < (cntA (g.ways.take (i + 1))).length := by show _ < 3; omega
      have pl2 : hcel N2 j3 g.ways[i].house.toNat = some (.int .i64 (usedN (g.ways.take (i + 1)) g.ways[i].house)) := by
        rw [← cntA_at _ hh hcl2]; exact hcel_of m3N2 (flI_at hcl2)
      have sh2 : Tk.Sub h N2 := sB.trans sBN2
      simp only [walk, lists, acts, mem, plain, seqs, maps, cells, resL, resV, intBin, seval, wt, x4, x1]
      refine placeLive_c ((r.2.1.subH sh2).relImp fun _ _ x => rLive.sub sh2 x) (by omega) hris fun p has hp hyes hnos => ?_
      simp only [walk, lists, acts, mem, plain, seqs, maps, cells, resL, resV, intBin, seval, x4]
      have no : ¬ (houseP g.ways[i].house ∧ (∃ x, liveOf g.lives g.ways[i].stamp = some x ∧ x.phase ≠ 0) ∧ usedN g.ways g.ways[i].house ≤ 2) → ¬ waysP g.lives g.ways := fun q p => q (p.1 _ (List.getElem_mem hi2))
      cases has with
      | false =>
        simp only [walk, lists, acts, mem, plain, seqs, maps, cells, resL, resV, intBin, seval]
        exact k.dno sh2 (no fun q => by obtain ⟨_, ⟨y, hy, _⟩, _⟩ := q; rw [hnos rfl] at hy; cases hy)
      | true =>
      obtain ⟨hp2, hlo⟩ := hyes rfl
      obtain ⟨bq, oq, csq, hxq, eq, a1q, a2q, rfl, srq⟩ := rs_at (r.2.1.subH sh2) hp2
      have yq : hcel N2 bq (oq + 3) = some (.int .i64 g.lives[p].phase) := hread_c eq 3 rfl
      simp only [walk, lists, acts, mem, plain, seqs, maps, cells, resL, resV, intBin, seval, hxq, yq, x4, reduceCtorEq]
      refine ite_pos (fun c5 => ?_) fun c5 => ?_
      · try simp only [walk, lists, acts, mem, plain, seqs, maps, cells, resL, resV, intBin, seval]
        exact k.dno sh2 (no fun q => by obtain ⟨_, ⟨y, hy, hy2⟩, _⟩ := q; rw [hlo] at hy; cases hy; exact hy2 c5)
      try simp only [walk, lists, acts, mem, plain, seqs, maps, cells, resL, resV, intBin, seval, x0]
      refine ⟨⟨by omega, by omega⟩, ?_⟩
      simp only [walk, lists, acts, mem, plain, seqs, maps, cells, resL, resV, intBin, seval, pl2]
      have hut := usedN_take g.ways (i + 1) g.ways[i].house
      refine ite_lt (fun c6 => ?_) fun c6 => ?_
      · exact k.dno sh2 (no fun q => by have := q.2.2; omega)
      have hus2 := usedN_more hi2
      simp (disch := omega) only [walk, lists, acts, mem, plain, seqs, maps, cells, resL, resV, intBin, seval, wrapI]
      refine ⟨g.ways.length - (i + 1), by omega, N2, .refl _, i + 1, by simp, sBN2, m3N2, by omega, rfl, fun w hw => ?_, fun s => ?_, fun q hq hq2 => ?_⟩
      · rw [List.take_succ_eq_append_getElem hi2] at hw
        rcases List.mem_append.1 hw with hw | hw
        · exact hall w hw
        · rw [List.mem_singleton.1 hw]; exact ⟨hh, _, hlo, c5⟩
      · by_cases e : g.ways[i].house = s
        · subst e; omega
        · have := hus2 s
          rw [if_neg e] at this
          have := hcnt s
          omega
      · by_cases e : q + 1 = i
        · subst e; exact hord (by omega)
        · exact hlt q hq (by omega)
    · have hi3 : i - 1 < g.ways.length := by omega
      obtain ⟨b3, o3, hx3, e3⟩ := ls_at (enc := cWay) (sz := 2) (fun _ => rfl) rN hi3
      have y0 : hcel N b3 o3 = some (.int .i64 g.ways[i - 1].house) := by have := hread_c e3 0 rfl; rw [Nat.add_zero] at this; exact this
      have y1 : hcel N b3 (o3 + 1) = some (.int .i64 g.ways[i - 1].stamp) := hread_c e3 1 rfl
      have hw3 : IntKind.i64.wrap ((i : Int) - 1) = ((i - 1 : Nat) : Int) := by rw [wrapI _ ⟨by omega, by omega⟩]; omega
      obtain ⟨C, hC⟩ : ∃ C : Int, C = if g.ways[i - 1].house = g.ways[i].house then cmpI g.ways[i - 1].stamp g.ways[i].stamp else cmpI g.ways[i - 1].house g.ways[i].house := ⟨_, rfl⟩
      have hCl : C < 0 ↔ wayLt g.ways[i - 1] g.ways[i] := by
        rw [hC]; unfold wayLt
        split
        · rename_i e; rw [cmpI_lt]; omega
        · rename_i e; rw [cmpI_lt]; omega
      refine vc_anyR mG [aV (.int .i64 i), aV (.bool true), aV (.bool true), aV (.pointer (some ⟨j1, 5, none⟩)), aV wy, aV (.int .i64 i), aV (.int .i64 ((i - 1 : Nat) : Int)), aV (.pointer (some ⟨b3, o3, none⟩)), aV (.pointer (some ⟨b3, o3, none⟩)), aV (.int .i64 g.ways[i - 1].house), aV (.pointer (some ⟨j1, 5, none⟩)), aV wy, aV (.int .i64 i), aV (.int .i64 ((i - 1 : Nat) : Int)), aV (.pointer (some ⟨b3, o3, none⟩)), aV (.pointer (some ⟨b3, o3 + 1, none⟩)), aV (.int .i64 g.ways[i - 1].stamp), aS N 3 eI 1 [g.ways[i - 1].house, g.ways[i - 1].stamp], aV (.pointer (some ⟨j5, 0, none⟩)), aV (.int .i64 g.ways[i].house), aV (.pointer (some ⟨j5, 1, none⟩)), aV (.int .i64 g.ways[i].stamp), aS N 3 eI 1 [g.ways[i].house, g.ways[i].stamp], aV (.int .i64 C), aV (.bool (decide (0 ≤ C)))] N ?_ (Sub.refl _) rfl fun ρ hi' ho hc => ?_
      · repeat' first | exact fun _ h => absurd h List.not_mem_nil | refine List.forall_mem_cons.2 ⟨?_, ?_⟩ | exact aMono_V _ | exact aMono_S _ _ _ _ _
      simp only [anysR, andr, maps, lists, plain, Nat.reduceAdd]
      refine ⟨aF_mov fun f g _ _ => ho f 4 rfl,
        aF_bin fun f g _ hd => ⟨i, 0, .bool true, (hi' f 20 rfl).trans hd, hc f _, by simp [intBin]; omega, rfl⟩,
        aF_mov fun f g _ hd => (hi' f 21 rfl).trans hd,
        aF_on (fun f g hd => (hi' f 22 rfl).trans (by first | exact hd | exact hd.2 | exact hd.2.2 | exact hd.2.2.1)) (aF_fld fun f g _ _ => ⟨j1, 0, ho f 1 rfl, rfl⟩),
        aF_on (fun f g hd => (hi' f 22 rfl).trans (by first | exact hd | exact hd.2 | exact hd.2.2 | exact hd.2.2.1)) (aF_load fun f g hs hd => ⟨j1, 5, _, (hi' f 23 rfl).trans hd.1, hcel_sub hs c5N, rfl⟩),
        aF_on (fun f g hd => (hi' f 22 rfl).trans (by first | exact hd | exact hd.2 | exact hd.2.2 | exact hd.2.2.1)) (aF_mov fun f g _ _ => ho f 4 rfl),
        aF_on (fun f g hd => (hi' f 22 rfl).trans (by first | exact hd | exact hd.2 | exact hd.2.2 | exact hd.2.2.1)) (aF_bin fun f g _ hd => ⟨i, 1, _, (hi' f 25 rfl).trans hd.1, hc f _, rfl, congrArg (Value.int .i64) hw3⟩),
        aF_on (fun f g hd => (hi' f 22 rfl).trans (by first | exact hd | exact hd.2 | exact hd.2.2 | exact hd.2.2.1)) (aF_idx (n := ((i - 1 : Nat) : Int)) hx3 fun f g _ hd => ⟨(hi' f 24 rfl).trans hd.1, (hi' f 26 rfl).trans hd.2.1, rfl⟩),
        aF_on (fun f g hd => (hi' f 22 rfl).trans (by first | exact hd | exact hd.2 | exact hd.2.2 | exact hd.2.2.1)) (aF_fld fun f g _ hd => ⟨b3, o3, (hi' f 27 rfl).trans hd.1, rfl⟩),
        aF_on (fun f g hd => (hi' f 22 rfl).trans (by first | exact hd | exact hd.2 | exact hd.2.2 | exact hd.2.2.1)) (aF_load fun f g hs hd => ⟨b3, o3, _, (hi' f 28 rfl).trans hd.1, hcel_sub hs y0, rfl⟩),
        aF_on (fun f g hd => (hi' f 22 rfl).trans (by first | exact hd | exact hd.2 | exact hd.2.2 | exact hd.2.2.1)) (aF_fld fun f g _ _ => ⟨j1, 0, ho f 1 rfl, rfl⟩),
        aF_on (fun f g hd => (hi' f 22 rfl).trans (by first | exact hd | exact hd.2 | exact hd.2.2 | exact hd.2.2.1)) (aF_load fun f g hs hd => ⟨j1, 5, _, (hi' f 30 rfl).trans hd.1, hcel_sub hs c5N, rfl⟩),
        aF_on (fun f g hd => (hi' f 22 rfl).trans (by first | exact hd | exact hd.2 | exact hd.2.2 | exact hd.2.2.1)) (aF_mov fun f g _ _ => ho f 4 rfl),
        aF_on (fun f g hd => (hi' f 22 rfl).trans (by first | exact hd | exact hd.2 | exact hd.2.2 | exact hd.2.2.1)) (aF_bin fun f g _ hd => ⟨i, 1, _, (hi' f 32 rfl).trans hd.1, hc f _, rfl, congrArg (Value.int .i64) hw3⟩),
        aF_on (fun f g hd => (hi' f 22 rfl).trans (by first | exact hd | exact hd.2 | exact hd.2.2 | exact hd.2.2.1)) (aF_idx (n := ((i - 1 : Nat) : Int)) hx3 fun f g _ hd => ⟨(hi' f 31 rfl).trans hd.1, (hi' f 33 rfl).trans hd.2.1, rfl⟩),
        aF_on (fun f g hd => (hi' f 22 rfl).trans (by first | exact hd | exact hd.2 | exact hd.2.2 | exact hd.2.2.1)) (aF_fld fun f g _ hd => ⟨b3, o3, (hi' f 34 rfl).trans hd.1, rfl⟩),
        aF_on (fun f g hd => (hi' f 22 rfl).trans (by first | exact hd | exact hd.2 | exact hd.2.2 | exact hd.2.2.1)) (aF_load fun f g hs hd => ⟨b3, o3 + 1, _, (hi' f 35 rfl).trans hd.1, hcel_sub hs y1, rfl⟩),
        aF_on (fun f g hd => (hi' f 22 rfl).trans (by first | exact hd | exact hd.2 | exact hd.2.2 | exact hd.2.2.1)) (aF_row (n := 2) eI_len rfl fun f g _ hd => (by simp only [maps, (hi' f 29 rfl).trans hd.1, (hi' f 36 rfl).trans hd.2.1]; rfl)),
        aF_on (fun f g hd => (hi' f 22 rfl).trans (by first | exact hd | exact hd.2 | exact hd.2.2 | exact hd.2.2.1)) (aF_fld fun f g _ _ => ⟨j5, 0, ho f 5 rfl, rfl⟩),
        aF_on (fun f g hd => (hi' f 22 rfl).trans (by first | exact hd | exact hd.2 | exact hd.2.2 | exact hd.2.2.1)) (aF_load fun f g hs hd => ⟨j5, 0, _, (hi' f 38 rfl).trans hd.1, hcel_sub hs w0N, rfl⟩),
        aF_on (fun f g hd => (hi' f 22 rfl).trans (by first | exact hd | exact hd.2 | exact hd.2.2 | exact hd.2.2.1)) (aF_fld fun f g _ _ => ⟨j5, 0, ho f 5 rfl, rfl⟩),
        aF_on (fun f g hd => (hi' f 22 rfl).trans (by first | exact hd | exact hd.2 | exact hd.2.2 | exact hd.2.2.1)) (aF_load fun f g hs hd => ⟨j5, 1, _, (hi' f 40 rfl).trans hd.1, hcel_sub hs w1N, rfl⟩),
        aF_on (fun f g hd => (hi' f 22 rfl).trans (by first | exact hd | exact hd.2 | exact hd.2.2 | exact hd.2.2.1)) (aF_row (n := 2) eI_len rfl fun f g _ hd => (by simp only [maps, (hi' f 39 rfl).trans hd.1, (hi' f 41 rfl).trans hd.2.1]; rfl)),
        aF_on (fun f g hd => (hi' f 22 rfl).trans (by first | exact hd | exact hd.2 | exact hd.2.2 | exact hd.2.2.1)) (aF_call2 fun f g hs hd h hg => (by obtain ⟨G1, a1, s1, _⟩ := hd.1; obtain ⟨G2, a2, s2, _⟩ := hd.2.1; simp only [maps, hi' f 37 rfl, hi' f 42 rfl]; exact compareS_c (a1.rd.sub (s1.trans hg)) (a2.rd.sub (s2.trans hg)) ⟨_, rfl, g, hg, Sub.refl _, congrArg (Value.int .i64) hC.symm⟩)),
        aF_on (fun f g hd => (hi' f 22 rfl).trans (by first | exact hd | exact hd.2 | exact hd.2.2 | exact hd.2.2.1)) (aF_bin fun f g _ hd => ⟨C, 0, _, (hi' f 43 rfl).trans hd.1, hc f _, rfl, by simp only [aV, ge_iff_le]⟩), ?_⟩
      intro m2 f2 h2 g2 hm hs2 hd
      have e22' : f2 22 = .bool true := hd.2.2.1
      have e44' : f2 44 = .bool (decide (0 ≤ C)) := hd.2.2.2.2.2.2.2.2.2.2.2.2.2.2.2.2.2.2.2.2.2.2.2.2
      have e22 := (hi' f2 22 rfl).trans e22'
      have e44 := (hi' f2 44 rfl).trans e44'
      refine ⟨N, hs2.trans hm, ?_⟩
      simp only [walk, lists, acts, mem, plain, seqs, maps, cells, resL, resV, intBin, seval, wr, e22, e22', e44, e44']
      refine ite_pos (fun c9 => ?_) fun c9 => ?_
      · try simp only [walk, lists, acts, mem, plain, seqs, maps, cells, resL, resV, intBin, seval]
        refine k.dno s0 fun p => ?_
        have e : i - 1 + 1 = i := by omega
        have := p.2 (i - 1) (by omega)
        simp only [e] at this
        have := hCl.2 this
        omega
      · have hord : ∀ (hq : 0 < i), wayLt (g.ways[i - 1]'(by omega)) g.ways[i] := fun _ => hCl.1 (by omega)
        try simp only [walk, lists, acts, mem, plain, seqs, maps, cells, resL, resV, intBin, seval]
        try simp only [walk, lists, acts, mem, plain, seqs, maps, cells, resL, resV, intBin, seval, w0N]
        have hh : 0 ≤ g.ways[i].house ∧ g.ways[i].house ≤ 2 := hq1.1 rfl
        have hcl : g.ways[i].house.toNat < (cntA (g.ways.take i)).length := by show _ < 3; omega
        have pl : hcel N j3 g.ways[i].house.toNat = some (.int .i64 (usedN (g.ways.take i) g.ways[i].house)) := by
          rw [← cntA_at _ hh hcl]; exact hcel_of m3N (flI_at hcl)
        have hus : usedN (g.ways.take i) g.ways[i].house ≤ i := Nat.le_trans List.countP_le_length (by rw [List.length_take]; omega)
        refine ⟨⟨by omega, by omega⟩, ?_⟩
        simp (disch := omega) only [walk, lists, acts, mem, plain, seqs, maps, cells, resL, resV, intBin, seval, pl, wrapI]
        refine ⟨⟨by omega, by omega⟩, ?_⟩
        obtain ⟨N2, hN2⟩ : ∃ N2, N2 = hupd N j3 (blk (fl eI (cntA (g.ways.take (i + 1)))) 97) := ⟨_, rfl⟩
        have wt : hwrite N j3 g.ways[i].house.toNat [.int .i64 ((usedN (g.ways.take i) g.ways[i].house : Int) + 1)] = some N2 := by
          rw [hwrite_of (j := g.ways[i].house.toNat) (vs := [.int .i64 ((usedN (g.ways.take i) g.ways[i].house : Int) + 1)]) m3N (by rw [fl_len eI_len]; show _ ≤ 3 * 1; simp only [List.length_singleton]; omega), hN2, ← cntA_more hi2 hh]
          have : g.ways[i].house = 0 ∨ g.ways[i].house = 1 ∨ g.ways[i].house = 2 := by omega
          rcases this with e | e | e <;> rw [e] <;> rfl
        have j53 : j5 ≠ j3 := fun e => by rw [e, m3'] at hj5; cases hj5
        have sBN2 : Tk.Sub B N2 := by rw [hN2]; exact Sub.wr (sM'.trans sN) nB3
        have gN2 : hget N2 j5 = some (blk (cWay g.ways[i]) 92) := by rw [hN2, hget_hupd_ne j53]; exact gN
        have x0 : hcel N2 j5 0 = some (.int .i64 g.ways[i].house) := hcel_of gN2 rfl
        have x1 : hcel N2 j5 1 = some (.int .i64 g.ways[i].stamp) := hcel_of gN2 rfl
        have x4 : hcel N2 j1 4 = some lv := hcel_of (sBN2 _ _ gB) rfl
        have m3N2 : hget N2 j3 = some (blk (fl eI (cntA (g.ways.take (i + 1)))) 97) := by rw [hN2]; exact hget_hupd_same m3N
        have hcl2 : g.ways[i].house.toNat < (cntA (g.ways.take (i + 1))).length := by show _ < 3; omega
        have pl2 : hcel N2 j3 g.ways[i].house.toNat = some (.int .i64 (usedN (g.ways.take (i + 1)) g.ways[i].house)) := by
          rw [← cntA_at _ hh hcl2]; exact hcel_of m3N2 (flI_at hcl2)
        have sh2 : Tk.Sub h N2 := sB.trans sBN2
        simp only [walk, lists, acts, mem, plain, seqs, maps, cells, resL, resV, intBin, seval, wt, x4, x1]
        refine placeLive_c ((r.2.1.subH sh2).relImp fun _ _ x => rLive.sub sh2 x) (by omega) hris fun p has hp hyes hnos => ?_
        simp only [walk, lists, acts, mem, plain, seqs, maps, cells, resL, resV, intBin, seval, x4]
        have no : ¬ (houseP g.ways[i].house ∧ (∃ x, liveOf g.lives g.ways[i].stamp = some x ∧ x.phase ≠ 0) ∧ usedN g.ways g.ways[i].house ≤ 2) → ¬ waysP g.lives g.ways := fun q p => q (p.1 _ (List.getElem_mem hi2))
        cases has with
        | false =>
          simp only [walk, lists, acts, mem, plain, seqs, maps, cells, resL, resV, intBin, seval]
          exact k.dno sh2 (no fun q => by obtain ⟨_, ⟨y, hy, _⟩, _⟩ := q; rw [hnos rfl] at hy; cases hy)
        | true =>
        obtain ⟨hp2, hlo⟩ := hyes rfl
        obtain ⟨bq, oq, csq, hxq, eq, a1q, a2q, rfl, srq⟩ := rs_at (r.2.1.subH sh2) hp2
        have yq : hcel N2 bq (oq + 3) = some (.int .i64 g.lives[p].phase) := hread_c eq 3 rfl
        simp only [walk, lists, acts, mem, plain, seqs, maps, cells, resL, resV, intBin, seval, hxq, yq, x4, reduceCtorEq]
        refine ite_pos (fun c5 => ?_) fun c5 => ?_
        · try simp only [walk, lists, acts, mem, plain, seqs, maps, cells, resL, resV, intBin, seval]
          exact k.dno sh2 (no fun q => by obtain ⟨_, ⟨y, hy, hy2⟩, _⟩ := q; rw [hlo] at hy; cases hy; exact hy2 c5)
        try simp only [walk, lists, acts, mem, plain, seqs, maps, cells, resL, resV, intBin, seval, x0]
        refine ⟨⟨by omega, by omega⟩, ?_⟩
        simp only [walk, lists, acts, mem, plain, seqs, maps, cells, resL, resV, intBin, seval, pl2]
        have hut := usedN_take g.ways (i + 1) g.ways[i].house
        refine ite_lt (fun c6 => ?_) fun c6 => ?_
        · exact k.dno sh2 (no fun q => by have := q.2.2; omega)
        have hus2 := usedN_more hi2
        simp (disch := omega) only [walk, lists, acts, mem, plain, seqs, maps, cells, resL, resV, intBin, seval, wrapI]
        refine ⟨g.ways.length - (i + 1), by omega, N2, .refl _, i + 1, by simp, sBN2, m3N2, by omega, rfl, fun w hw => ?_, fun s => ?_, fun q hq hq2 => ?_⟩
        · rw [List.take_succ_eq_append_getElem hi2] at hw
          rcases List.mem_append.1 hw with hw | hw
          · exact hall w hw
          · rw [List.mem_singleton.1 hw]; exact ⟨hh, _, hlo, c5⟩
        · by_cases e : g.ways[i].house = s
          · subst e; omega
          · have := hus2 s
            rw [if_neg e] at this
            have := hcnt s
            omega
        · by_cases e : q + 1 = i
          · subst e; exact hord (by omega)
          · exact hlt q hq (by omega)
  · refine k.dyes (sB.trans sM') ⟨fun w hw => ?_, fun q hq => hlt q hq (by omega)⟩
    rw [List.take_of_length_le (by omega)] at hall
    have := hcnt w.house
    rw [List.take_of_length_le (by omega)] at this
    exact ⟨(hall w hw).1, (hall w hw).2, this⟩
end Go.Proofs.YtmfhlkkligcgdaaGreatDoor
end

/- Gates: the program's; which are ok. -/
section
set_option linter.unusedVariables false
set_option linter.unusedSimpArgs false
set_option maxRecDepth 20000
attribute [local irreducible] Go.Tk.vc Go.Tk.vops Go.Tk.vdr Go.Tk.vop Go.Tk.vfl Go.Tk.HCalls
namespace Go.Tk
open Go
def sesN (l : List DLive) (s : Int) : Nat := l.countP fun x => decide (x.call.session = s)
theorem sesN_more {l : List DLive} {i : Nat} (h : i < l.length) (s : Int) : sesN (l.take (i + 1)) s = sesN (l.take i) s + if l[i].call.session = s then 1 else 0 := by
  unfold sesN
  rw [List.take_succ_eq_append_getElem h, List.countP_append, List.countP_singleton]
  simp only [decide_eq_true_eq]
def sesA (l : List DLive) : List Int := [(sesN l 0 : Int), (sesN l 1 : Int), (sesN l 2 : Int)]
theorem sesA_at (l : List DLive) {s : Int} (h : 0 ≤ s ∧ s ≤ 2) (hi : s.toNat < (sesA l).length) : (sesA l)[s.toNat] = (sesN l s : Int) := by
  have : s = 0 ∨ s = 1 ∨ s = 2 := by omega
  rcases this with rfl | rfl | rfl <;> rfl
theorem sesA_more {l : List DLive} {i : Nat} (hi : i < l.length) (h : 0 ≤ l[i].call.session ∧ l[i].call.session ≤ 2) : (sesA (l.take i)).set l[i].call.session.toNat ((sesN (l.take i) l[i].call.session : Int) + 1) = sesA (l.take (i + 1)) := by
  have : l[i].call.session = 0 ∨ l[i].call.session = 1 ∨ l[i].call.session = 2 := by omega
  unfold sesA
  simp only [sesN_more hi]
  rcases this with e | e | e <;> simp [e]
theorem sesN_pos {l : List DLive} {i : Nat} {s : Int} (h : 1 ≤ sesN (l.take i) s) : ∃ q, ∃ (hq : q < l.length), q < i ∧ l[q].call.session = s := by
  unfold sesN at h
  obtain ⟨x, hx, hs⟩ := List.countP_pos_iff.1 h
  obtain ⟨q, hq, rfl⟩ := List.getElem_of_mem hx
  rw [List.length_take] at hq
  exact ⟨q, by omega, by omega, by simpa using hs⟩
theorem sesN_zero {l : List DLive} {i : Nat} {s : Int} (h : sesN (l.take i) s = 0) : ∀ q (hq : q < l.length), q < i → l[q].call.session ≠ s := fun q hq hqi e => by
  unfold sesN at h
  have := List.countP_eq_zero.1 h l[q] (by rw [List.mem_take_iff_getElem]; exact ⟨q, by omega, rfl⟩)
  simp [e] at this
end Go.Tk
namespace Go.Proofs.YtmfhlkkligcgdaaGreatDoor
open Go Go.Tk

set_option maxHeartbeats 4000000 in
theorem implGateOk_c {h : H} {g : DGate} {lg lv wy : Value} (gl : Gl h) (gm : MxL h) (r : sGate h g lg lv wy) (hb : bGate g) {R : Ending → H → Prop} (k : Asks R (gateOkP g) h) : HCalls Tryz.prog 34 #[.agg (cGate g lg lv wy).toArray] h R := by
  refine HCalls_ir (args := [.agg (cGate g lg lv wy).toArray]) Tryz.func34 ir34 ?_
  have b1 := hb.lives; have b2 := hb.ways; have b3 := hb.log
  unfold lim at b1 b2 b3
  obtain ⟨i0, hi0, hz0⟩ := iInt0
  simp only [walk, lists, acts, mem, plain, seqs, maps, cells, resL, resV, intBin, seval, wGate]
  refine newB_intro (o := blk (cGate g lg lv wy) 34) fun j1 h1 => ?_
  obtain ⟨A, hA⟩ : ∃ A, A = (j1, blk (cGate g lg lv wy) 34) :: h := ⟨_, rfl⟩
  have sA : Tk.Sub h A := by rw [hA]; exact Sub.cons h1 (Sub.refl _)
  have gA : hget A j1 = some (blk (cGate g lg lv wy) 34) := by rw [hA]; exact hget_same _ _ _
  have a1' : hcel A j1 1 = some (.int .i64 g.life) := hcel_of gA rfl
  have a2' : hcel A j1 2 = some (.int .i64 g.next) := hcel_of gA rfl
  have aa : hread A j1 0 6 = some (cGate g lg lv wy) := hread_of gA rfl
  rw [← hA]
  simp only [walk, lists, acts, mem, plain, seqs, maps, cells, resL, resV, intBin, seval, wGate, a1', a2', aa]
  refine within_c fun q1 hq1 => ?_
  cases q1 with
  | false =>
    simp only [walk, lists, acts, mem, plain, seqs, maps, cells, resL, resV, intBin, seval, a1', a2', aa]
    exact k.dno sA fun p => not_b hq1 rfl p.1
  | true =>
  simp only [walk, lists, acts, mem, plain, seqs, maps, cells, resL, resV, intBin, seval, a1', a2', aa]
  refine isStamp_c fun q2 hq2 => ?_
  cases q2 with
  | false =>
    simp only [walk, lists, acts, mem, plain, seqs, maps, cells, resL, resV, intBin, seval, a1', a2', aa]
    exact k.dno sA fun p => not_b hq2 rfl p.2.1
  | true =>
  simp only [walk, lists, acts, mem, plain, seqs, maps, cells, resL, resV, intBin, seval, a1', a2', aa]
  have z3 : [Value.int .i64 0, .int .i64 0, .int .i64 0] = fl eI (sesA []) := rfl
  refine gateLogOk_c (gl.sub sA) (gm.sub sA) ((r.1.subH sA).relImp fun _ _ x => rRecord.sub sA x) hb.recs (by omega) (hq2.1 rfl) (fun hno v L M1 hL s1 => ?_) (fun hlog rr es c m M1 s1 mr hmo hst => ?_)
  · have hl3 : (fl eI L).length = 3 := by rw [fl_len eI_len, hL]
    have ho3 := eI_one L
    simp only [walk, lists, acts, mem, plain, seqs, maps, cells, resL, resV, intBin, seval, z3]
    refine newB_intro (o := blk (fl eI (sesA [])) 97) fun j4 hj4 => ?_
    have wt : hwrite ((j4, blk (fl eI (sesA [])) 97) :: M1) j4 0 (fl eI L) = some ((j4, blk (fl eI L) 97) :: M1) := by
      rw [hwrite_same, if_pos (by rw [hl3]; exact Nat.le_refl _), splice_all (by rw [hl3]; rfl)]
    simp only [walk, lists, acts, mem, plain, seqs, maps, cells, resL, resV, intBin, seval, hl3, ho3, wt, z3]
    exact k.dno ((sA.trans s1).trans (Sub.cons hj4 (Sub.refl _))) fun p => hno p.2.2.1
  · have hl3 : (fl eI (lastA g.log)).length = 3 := rfl
    have ho3 := eI_one (lastA g.log)
    simp only [walk, lists, acts, mem, plain, seqs, maps, cells, resL, resV, intBin, seval, z3]
    refine newB_intro (o := blk (fl eI (sesA [])) 97) fun j4 hj4 => ?_
    obtain ⟨B, hB⟩ : ∃ B, B = (j4, blk (fl eI (lastA g.log)) 97) :: M1 := ⟨_, rfl⟩
    have wt : hwrite ((j4, blk (fl eI (sesA [])) 97) :: M1) j4 0 (fl eI (lastA g.log)) = some B := by
      rw [hwrite_same, if_pos (by rw [hl3]; exact Nat.le_refl _), splice_all (x := fl eI (lastA g.log)) (y := fl eI (sesA [])) (by rfl), hB]
    have s1B : Tk.Sub M1 B := by rw [hB]; exact Sub.cons hj4 (Sub.refl _)
    have gB := s1B _ _ (s1 _ _ gA)
    have gB4 : hget B j4 = some (blk (fl eI (lastA g.log)) 97) := by rw [hB]; exact hget_same _ _ _
    have gBr := s1B _ _ mr
    have sB0 : Tk.Sub h B := sA.trans (s1.trans s1B)
    have b4 : hcel B j1 4 = some lv := hcel_of gB rfl
    have b0 : hcel B j1 0 = some (.bool g.up) := hcel_of gB rfl
    have hnx : IntKind.i64.wrap (g.next - 1) = g.next - 1 := wrapI _ (by have := (hq2.1 rfl).1; have := (hq2.1 rfl).2; omega)
    simp only [walk, lists, acts, mem, plain, seqs, maps, cells, resL, resV, intBin, seval, hl3, ho3, wt, b4, b0, r.2.1.len, z3]
    refine ite_lt (fun c1 => ?_) fun c1 => ?_
    · try simp only [walk, lists, acts, mem, plain, seqs, maps, cells, resL, resV, intBin, seval, b4, b0, r.2.1.len, z3]
      refine k.dno sB0 fun p => ?_
      have := p.2.2.2.1.1; omega
    cases hup : g.up with
    | false =>
      simp only [walk, lists, acts, mem, plain, seqs, maps, cells, resL, resV, intBin, seval, b4, b0, r.2.1.len, z3, hup]
      refine ite_lt (fun c2 => ?_) fun c2 => ?_
      · try simp only [walk, lists, acts, mem, plain, seqs, maps, cells, resL, resV, intBin, seval, b4, b0, r.2.1.len, z3]
        refine k.dno sB0 fun p => ?_
        have := (p.2.2.2.2.1 hup).1
        rw [this] at c2; simp at c2
      · have hemp : g.up = false → g.lives = [] := fun _ => List.eq_nil_of_length_eq_zero (by omega)
        try simp only [walk, lists, acts, mem, plain, seqs, maps, cells, resL, resV, intBin, seval, b4, b0, r.2.1.len, z3]
        refine newB_intro (o := blk (fl eI (sesA [])) 97) fun j6 hj6 => ?_
        have nB6 := hj6
        obtain ⟨M, hM⟩ : ∃ M, M = (j6, blk (fl eI (sesA [])) 97) :: B := ⟨_, rfl⟩
        have sM : Tk.Sub B M := by rw [hM]; exact Sub.cons nB6 (Sub.refl _)
        have m6 : hget M j6 = some (blk (fl eI (sesA [])) 97) := by rw [hM]; exact hget_same _ _ _
        have b4M : hcel M j1 4 = some lv := hcel_of (sM _ _ gB) rfl
        rw [← hM]
        simp only [walk, lists, acts, mem, plain, seqs, maps, cells, resL, resV, intBin, seval, b4M, r.2.1.len]
        refine vc_loop [47] (fun n vs M' => ∃ (i : Nat), vs = [.int .i64 i] ∧ Tk.Sub B M' ∧ hget M' j6 = some (blk (fl eI (sesA (g.lives.take i))) 97) ∧ i ≤ g.lives.length ∧ n = g.lives.length - i ∧ (∀ x ∈ g.lives.take i, liveP x g.next ∧ (∀ r ∈ g.log, r.stamp ≠ x.stamp) ∧ ∀ r, lastOf g.log x.call.session = some r → r.call.number < x.call.number) ∧ risU (·.stamp) g.lives i ∧ (∀ s, sesN (g.lives.take i) s ≤ 1) ∧
            ∀ q p (hp : p < g.lives.length) (hq : q < p), p < i → (g.lives[q]'(by omega)).call.session ≠ g.lives[p].call.session) g.lives.length rfl
          ⟨0, rfl, sM, by simpa using m6, by omega, rfl, by simp, risU_zero _ _, fun s => by simp [sesN], fun q p hp hq h => absurd h (Nat.not_lt_zero _)⟩ ?_
        rintro n f M' ⟨i, hv, sM', m6', hi, rfl, hall, hris, hcnt, hses⟩
        simp only [List.map_cons, List.map_nil, List.cons.injEq, and_true] at hv
        simp only [walk, lists, acts, mem, plain, seqs, maps, cells, resL, resV, intBin, seval, wr, hv]
        refine ite_lt (fun c1 => ?_) fun c1 => ?_
        · have hi2 : i < g.lives.length := by omega
          have zl := zLive_eq
          have sM0 : Tk.Sub h M' := sB0.trans sM'
          obtain ⟨b, o, cs, hx, e, a1, a2, rfl, sr⟩ := rs_at ((r.2.1.subH sM0).relImp fun _ _ x => rLive.sub sM0 x) hi2
          have hone := wLive.2.2.2.2.2.2.2.2.2.2.2.2.2.2.2.1 g.lives[i] a1 a2 (rdS.one sr.1) (rRs.one sr.2)
          simp only [walk, lists, acts, mem, plain, seqs, maps, cells, resL, resV, intBin, seval, hx, e, zl, wLive]
          refine newB_intro (o := blk (cLive zLive (.slice none 0 0) (.slice none 0 0)) 82) fun j8 hj8 => ?_
          simp only [walk, lists, acts, mem, plain, seqs, maps, cells, resL, resV, intBin, seval, zl, wLive, hone]
          obtain ⟨N, hN⟩ : ∃ N, N = (j8, blk (cLive g.lives[i] a1 a2) 82) :: M' := ⟨_, rfl⟩
          have sN : Tk.Sub M' N := by rw [hN]; exact Sub.cons hj8 (Sub.refl _)
          have gN : hget N j8 = some (blk (cLive g.lives[i] a1 a2) 82) := by rw [hN]; exact hget_same _ _ _
          have l0 : hcel N j8 0 = some (.int .i64 g.lives[i].stamp) := hcel_of gN rfl
          have l4 : hcel N j8 4 = some (.int .i64 g.lives[i].call.session) := hcel_of gN rfl
          have l5 : hcel N j8 5 = some (.int .i64 g.lives[i].call.number) := hcel_of gN rfl
          have la : hread N j8 0 12 = some (cLive g.lives[i] a1 a2) := hread_of gN rfl
          have sBN := sM'.trans sN
          have s0 : Tk.Sub h N := sB0.trans sBN
          have g2' : hcel N j1 2 = some (.int .i64 g.next) := hcel_of (sBN _ _ gB) rfl
          have g4' : hcel N j1 4 = some lv := hcel_of (sBN _ _ gB) rfl
          have m4N := sBN _ _ gB4
          have m6N := sN _ _ m6'
          have mrN := sBN _ _ gBr
          have sNN := Sub.refl N
          have rl : rRs N (rLive h) 12 lv g.lives := r.2.1.subH s0
          have bad : ¬ (liveP g.lives[i] g.next ∧ (∀ r ∈ g.log, r.stamp ≠ g.lives[i].stamp) ∧ ∀ r, lastOf g.log g.lives[i].call.session = some r → r.call.number < g.lives[i].call.number) → ¬ gateOkP g := fun q p => q (p.2.2.2.1.2.1 _ (List.getElem_mem hi2))
          rw [← hN]
          refine vc_draw _ (Sub.refl _) ?_
          simp only [walk, lists, acts, mem, plain, seqs, maps, cells, resL, resV, intBin, seval, g2', g4', l0, l4, l5, la, sNN, hnx]
          refine within_c fun q3 hq3 => ?_
          cases q3 with
          | false =>
            simp only [walk, lists, acts, mem, plain, seqs, maps, cells, resL, resV, intBin, seval, g2', g4', l0, l4, l5, la, sNN, hnx]
            exact k.dno s0 (bad fun q => not_b hq3 rfl (liveQ_P.1 q.1).1)
          | true =>
          simp only [walk, lists, acts, mem, plain, seqs, maps, cells, resL, resV, intBin, seval, g2', g4', l0, l4, l5, la, sNN, hnx]
          refine ite_lt (fun y1 => ?_) fun y1 => ?_
          · have hi3 : i - 1 < g.lives.length := by omega
            obtain ⟨b3, o3, cs3, hx3, e3, a13, a23, rfl, sr3⟩ := rs_at rl hi3
            have y0 : hcel N b3 o3 = some (.int .i64 g.lives[i - 1].stamp) := by have := hread_c e3 0 rfl; rw [Nat.add_zero] at this; exact this
            have hw3 : IntKind.i64.wrap ((i : Int) - 1) = ((i - 1 : Nat) : Int) := by rw [wrapI _ ⟨by omega, by omega⟩]; omega
            simp only [walk, lists, acts, mem, plain, seqs, maps, cells, resL, resV, intBin, seval, hx3, y0, hw3, g2', g4', l0, l4, l5, la, sNN, hnx]
            refine ite_ge (fun y2 => ?_) fun y2 => ?_
            · try simp only [walk, lists, acts, mem, plain, seqs, maps, cells, resL, resV, intBin, seval, g2', g4', l0, l4, l5, la, sNN, hnx]
              exact k.dno s0 fun p => risU_not (k := (·.stamp)) hi2 (by omega) (by show ¬ g.lives[i - 1].stamp < g.lives[i].stamp; omega) p.2.2.2.1.2.2.1
            have hris2 := risU_more hi2 (by omega) hris y2
            try simp only [walk, lists, acts, mem, plain, seqs, maps, cells, resL, resV, intBin, seval, g2', g4', l0, l4, l5, la, sNN, hnx]
            rcases stampM_get hst g.lives[i].stamp with ⟨hg, x, hxm, hxs⟩ | ⟨hg, hnos⟩
            · refine raw_lookup keyII tMapII hi0 hz0 (k := g.lives[i].stamp) (by simp only [walk, lists, acts, mem, plain, seqs, maps, cells, resL, resV, intBin, seval]) (by simp only [walk, lists, acts, mem, plain, seqs, maps, cells, resL, resV, intBin, seval]) mrN hmo hg ?_
              simp only [walk, lists, acts, mem, plain, seqs, maps, cells, resL, resV, intBin, seval, g2', g4', l0, l4, l5, la, sNN, hnx]
              exact k.dno s0 (bad fun q => q.2.1 x hxm hxs)
            refine raw_lookup keyII tMapII hi0 hz0 (k := g.lives[i].stamp) (by simp only [walk, lists, acts, mem, plain, seqs, maps, cells, resL, resV, intBin, seval]) (by simp only [walk, lists, acts, mem, plain, seqs, maps, cells, resL, resV, intBin, seval]) mrN hmo hg ?_
            simp only [walk, lists, acts, mem, plain, seqs, maps, cells, resL, resV, intBin, seval, g2', g4', l0, l4, l5, la, sNN, hnx]
            refine liveOk_c (gl.sub s0) (gm.sub s0) (sLive.sub sN sr) (hb.live _ (List.getElem_mem hi2)) fun q4 hq4 => ?_
            cases q4 with
            | false =>
              simp only [walk, lists, acts, mem, plain, seqs, maps, cells, resL, resV, intBin, seval, g2', g4', l0, l4, l5, la, sNN, hnx]
              exact k.dno s0 (bad fun q => not_b hq4 rfl (liveQ_P.1 q.1).2)
            | true =>
            simp only [walk, lists, acts, mem, plain, seqs, maps, cells, resL, resV, intBin, seval, g2', g4', l0, l4, l5, la, sNN, hnx]
            have hfm := (hq4.1 rfl).2.2.2.1.1
            have hse : 0 ≤ g.lives[i].call.session ∧ g.lives[i].call.session ≤ 2 := hfm.1
            have hnu : 1 ≤ g.lives[i].call.number := hfm.2.1.1
            have hsl : g.lives[i].call.session.toNat < (lastA g.log).length := by show _ < 3; omega
            have pl : hcel N j4 g.lives[i].call.session.toNat = some (.int .i64 (lastN g.log g.lives[i].call.session)) := by
              rw [← lastA_at _ hse hsl]; exact hcel_of m4N (flI_at hsl)
            refine ⟨⟨by omega, by omega⟩, ?_⟩
            simp only [walk, lists, acts, mem, plain, seqs, maps, cells, resL, resV, intBin, seval, pl, g2', g4', l0, l4, l5, la, sNN, hnx]
            refine ite_ge (fun c4 => ?_) fun c4 => ?_
            · try simp only [walk, lists, acts, mem, plain, seqs, maps, cells, resL, resV, intBin, seval, g2', g4', l0, l4, l5, la, sNN, hnx]
              exact k.dno s0 (bad fun q => by have := (lastN_lt (log := g.log) (s := g.lives[i].call.session) hnu).2 q.2.2; omega)
            have hlt := (lastN_lt (log := g.log) (s := g.lives[i].call.session) hnu).1 (by omega)
            try simp only [walk, lists, acts, mem, plain, seqs, maps, cells, resL, resV, intBin, seval, g2', g4', l0, l4, l5, la, sNN, hnx]
            have hsl2 : g.lives[i].call.session.toNat < (sesA (g.lives.take i)).length := by show _ < 3; omega
            have pl6 : hcel N j6 g.lives[i].call.session.toNat = some (.int .i64 (sesN (g.lives.take i) g.lives[i].call.session)) := by
              rw [← sesA_at _ hse hsl2]; exact hcel_of m6N (flI_at hsl2)
            have hcn := hcnt g.lives[i].call.session
            refine ⟨⟨by omega, by omega⟩, ?_⟩
            simp (disch := omega) only [walk, lists, acts, mem, plain, seqs, maps, cells, resL, resV, intBin, seval, pl6, wrapI]
            refine ⟨⟨by omega, by omega⟩, ?_⟩
            obtain ⟨N2, hN2⟩ : ∃ N2, N2 = hupd N j6 (blk (fl eI (sesA (g.lives.take (i + 1)))) 97) := ⟨_, rfl⟩
            have wt : hwrite N j6 g.lives[i].call.session.toNat [.int .i64 ((sesN (g.lives.take i) g.lives[i].call.session : Int) + 1)] = some N2 := by
              rw [hwrite_of (j := g.lives[i].call.session.toNat) (vs := [.int .i64 ((sesN (g.lives.take i) g.lives[i].call.session : Int) + 1)]) m6N (by rw [fl_len eI_len]; show _ ≤ 3 * 1; simp only [List.length_singleton]; omega), hN2, ← sesA_more hi2 hse]
              have : g.lives[i].call.session = 0 ∨ g.lives[i].call.session = 1 ∨ g.lives[i].call.session = 2 := by omega
              rcases this with e | e | e <;> rw [e] <;> rfl
            have j86 : j8 ≠ j6 := fun e => by rw [e, m6'] at hj8; cases hj8
            have sBN2 : Tk.Sub B N2 := by rw [hN2]; exact Sub.wr (sM'.trans sN) nB6
            have gN2 : hget N2 j8 = some (blk (cLive g.lives[i] a1 a2) 82) := by rw [hN2, hget_hupd_ne j86]; exact gN
            have p4' : hcel N2 j8 4 = some (.int .i64 g.lives[i].call.session) := hcel_of gN2 rfl
            have m6N2 : hget N2 j6 = some (blk (fl eI (sesA (g.lives.take (i + 1)))) 97) := by rw [hN2]; exact hget_hupd_same m6N
            have hsl3 : g.lives[i].call.session.toNat < (sesA (g.lives.take (i + 1))).length := by show _ < 3; omega
            have pl7 : hcel N2 j6 g.lives[i].call.session.toNat = some (.int .i64 (sesN (g.lives.take (i + 1)) g.lives[i].call.session)) := by
              rw [← sesA_at _ hse hsl3]; exact hcel_of m6N2 (flI_at hsl3)
            have hmore := sesN_more hi2
            have hm1 := hmore g.lives[i].call.session
            rw [if_pos rfl] at hm1
            simp only [walk, lists, acts, mem, plain, seqs, maps, cells, resL, resV, intBin, seval, wt, p4']
            refine ⟨⟨by omega, by omega⟩, ?_⟩
            simp only [walk, lists, acts, mem, plain, seqs, maps, cells, resL, resV, intBin, seval, pl7]
            refine ite_lt (fun c6 => ?_) fun c6 => ?_
            · refine k.dno (sB0.trans sBN2) fun q => ?_
              obtain ⟨q', hq', hqi, e⟩ := sesN_pos (l := g.lives) (i := i) (s := g.lives[i].call.session) (by omega)
              exact q.2.2.2.1.2.2.2 q' i hi2 hqi e
            have hz := sesN_zero (l := g.lives) (i := i) (s := g.lives[i].call.session) (by omega)
            simp (disch := omega) only [walk, lists, acts, mem, plain, seqs, maps, cells, resL, resV, intBin, seval, wrapI]
            refine ⟨g.lives.length - (i + 1), by omega, N2, .refl _, i + 1, by simp, sBN2, m6N2, by omega, rfl, fun x hx => ?_, hris2, fun s => ?_, fun q p hp hq hpi => ?_⟩
            · rw [List.take_succ_eq_append_getElem hi2] at hx
              rcases List.mem_append.1 hx with hx | hx
              · exact hall x hx
              · rw [List.mem_singleton.1 hx]; exact ⟨liveQ_P.2 ⟨hq3.1 rfl, hq4.1 rfl⟩, hnos, hlt⟩
            · by_cases e : g.lives[i].call.session = s
              · subst e; omega
              · have := hmore s
                rw [if_neg e] at this
                have := hcnt s
                omega
            · by_cases e : p = i
              · subst e; exact hz q (by omega) hq
              · exact hses q p hp hq (by omega)
          · have hris2 : risU (·.stamp) g.lives (i + 1) := risU_one (by omega) hris
            try simp only [walk, lists, acts, mem, plain, seqs, maps, cells, resL, resV, intBin, seval, g2', g4', l0, l4, l5, la, sNN, hnx]
            rcases stampM_get hst g.lives[i].stamp with ⟨hg, x, hxm, hxs⟩ | ⟨hg, hnos⟩
            · refine raw_lookup keyII tMapII hi0 hz0 (k := g.lives[i].stamp) (by simp only [walk, lists, acts, mem, plain, seqs, maps, cells, resL, resV, intBin, seval]) (by simp only [walk, lists, acts, mem, plain, seqs, maps, cells, resL, resV, intBin, seval]) mrN hmo hg ?_
              simp only [walk, lists, acts, mem, plain, seqs, maps, cells, resL, resV, intBin, seval, g2', g4', l0, l4, l5, la, sNN, hnx]
              exact k.dno s0 (bad fun q => q.2.1 x hxm hxs)
            refine raw_lookup keyII tMapII hi0 hz0 (k := g.lives[i].stamp) (by simp only [walk, lists, acts, mem, plain, seqs, maps, cells, resL, resV, intBin, seval]) (by simp only [walk, lists, acts, mem, plain, seqs, maps, cells, resL, resV, intBin, seval]) mrN hmo hg ?_
            simp only [walk, lists, acts, mem, plain, seqs, maps, cells, resL, resV, intBin, seval, g2', g4', l0, l4, l5, la, sNN, hnx]
            refine liveOk_c (gl.sub s0) (gm.sub s0) (sLive.sub sN sr) (hb.live _ (List.getElem_mem hi2)) fun q4 hq4 => ?_
            cases q4 with
            | false =>
              simp only [walk, lists, acts, mem, plain, seqs, maps, cells, resL, resV, intBin, seval, g2', g4', l0, l4, l5, la, sNN, hnx]
              exact k.dno s0 (bad fun q => not_b hq4 rfl (liveQ_P.1 q.1).2)
            | true =>
            simp only [walk, lists, acts, mem, plain, seqs, maps, cells, resL, resV, intBin, seval, g2', g4', l0, l4, l5, la, sNN, hnx]
            have hfm := (hq4.1 rfl).2.2.2.1.1
            have hse : 0 ≤ g.lives[i].call.session ∧ g.lives[i].call.session ≤ 2 := hfm.1
            have hnu : 1 ≤ g.lives[i].call.number := hfm.2.1.1
            have hsl : g.lives[i].call.session.toNat < (lastA g.log).length := by show _ < 3; omega
            have pl : hcel N j4 g.lives[i].call.session.toNat = some (.int .i64 (lastN g.log g.lives[i].call.session)) := by
              rw [← lastA_at _ hse hsl]; exact hcel_of m4N (flI_at hsl)
            refine ⟨⟨by omega, by omega⟩, ?_⟩
            simp only [walk, lists, acts, mem, plain, seqs, maps, cells, resL, resV, intBin, seval, pl, g2', g4', l0, l4, l5, la, sNN, hnx]
            refine ite_ge (fun c4 => ?_) fun c4 => ?_
            · try simp only [walk, lists, acts, mem, plain, seqs, maps, cells, resL, resV, intBin, seval, g2', g4', l0, l4, l5, la, sNN, hnx]
              exact k.dno s0 (bad fun q => by have := (lastN_lt (log := g.log) (s := g.lives[i].call.session) hnu).2 q.2.2; omega)
            have hlt := (lastN_lt (log := g.log) (s := g.lives[i].call.session) hnu).1 (by omega)
            try simp only [walk, lists, acts, mem, plain, seqs, maps, cells, resL, resV, intBin, seval, g2', g4', l0, l4, l5, la, sNN, hnx]
            have hsl2 : g.lives[i].call.session.toNat < (sesA (g.lives.take i)).length := by show _ < 3; omega
            have pl6 : hcel N j6 g.lives[i].call.session.toNat = some (.int .i64 (sesN (g.lives.take i) g.lives[i].call.session)) := by
              rw [← sesA_at _ hse hsl2]; exact hcel_of m6N (flI_at hsl2)
            have hcn := hcnt g.lives[i].call.session
            refine ⟨⟨by omega, by omega⟩, ?_⟩
            simp (disch := omega) only [walk, lists, acts, mem, plain, seqs, maps, cells, resL, resV, intBin, seval, pl6, wrapI]
            refine ⟨⟨by omega, by omega⟩, ?_⟩
            obtain ⟨N2, hN2⟩ : ∃ N2, N2 = hupd N j6 (blk (fl eI (sesA (g.lives.take (i + 1)))) 97) := ⟨_, rfl⟩
            have wt : hwrite N j6 g.lives[i].call.session.toNat [.int .i64 ((sesN (g.lives.take i) g.lives[i].call.session : Int) + 1)] = some N2 := by
              rw [hwrite_of (j := g.lives[i].call.session.toNat) (vs := [.int .i64 ((sesN (g.lives.take i) g.lives[i].call.session : Int) + 1)]) m6N (by rw [fl_len eI_len]; show _ ≤ 3 * 1; simp only [List.length_singleton]; omega), hN2, ← sesA_more hi2 hse]
              have : g.lives[i].call.session = 0 ∨ g.lives[i].call.session = 1 ∨ g.lives[i].call.session = 2 := by omega
              rcases this with e | e | e <;> rw [e] <;> rfl
            have j86 : j8 ≠ j6 := fun e => by rw [e, m6'] at hj8; cases hj8
            have sBN2 : Tk.Sub B N2 := by rw [hN2]; exact Sub.wr (sM'.trans sN) nB6
            have gN2 : hget N2 j8 = some (blk (cLive g.lives[i] a1 a2) 82) := by rw [hN2, hget_hupd_ne j86]; exact gN
            have p4' : hcel N2 j8 4 = some (.int .i64 g.lives[i].call.session) := hcel_of gN2 rfl
            have m6N2 : hget N2 j6 = some (blk (fl eI (sesA (g.lives.take (i + 1)))) 97) := by rw [hN2]; exact hget_hupd_same m6N
            have hsl3 : g.lives[i].call.session.toNat < (sesA (g.lives.take (i + 1))).length := by show _ < 3; omega
            have pl7 : hcel N2 j6 g.lives[i].call.session.toNat = some (.int .i64 (sesN (g.lives.take (i + 1)) g.lives[i].call.session)) := by
              rw [← sesA_at _ hse hsl3]; exact hcel_of m6N2 (flI_at hsl3)
            have hmore := sesN_more hi2
            have hm1 := hmore g.lives[i].call.session
            rw [if_pos rfl] at hm1
            simp only [walk, lists, acts, mem, plain, seqs, maps, cells, resL, resV, intBin, seval, wt, p4']
            refine ⟨⟨by omega, by omega⟩, ?_⟩
            simp only [walk, lists, acts, mem, plain, seqs, maps, cells, resL, resV, intBin, seval, pl7]
            refine ite_lt (fun c6 => ?_) fun c6 => ?_
            · refine k.dno (sB0.trans sBN2) fun q => ?_
              obtain ⟨q', hq', hqi, e⟩ := sesN_pos (l := g.lives) (i := i) (s := g.lives[i].call.session) (by omega)
              exact q.2.2.2.1.2.2.2 q' i hi2 hqi e
            have hz := sesN_zero (l := g.lives) (i := i) (s := g.lives[i].call.session) (by omega)
            simp (disch := omega) only [walk, lists, acts, mem, plain, seqs, maps, cells, resL, resV, intBin, seval, wrapI]
            refine ⟨g.lives.length - (i + 1), by omega, N2, .refl _, i + 1, by simp, sBN2, m6N2, by omega, rfl, fun x hx => ?_, hris2, fun s => ?_, fun q p hp hq hpi => ?_⟩
            · rw [List.take_succ_eq_append_getElem hi2] at hx
              rcases List.mem_append.1 hx with hx | hx
              · exact hall x hx
              · rw [List.mem_singleton.1 hx]; exact ⟨liveQ_P.2 ⟨hq3.1 rfl, hq4.1 rfl⟩, hnos, hlt⟩
            · by_cases e : g.lives[i].call.session = s
              · subst e; omega
              · have := hmore s
                rw [if_neg e] at this
                have := hcnt s
                omega
            · by_cases e : p = i
              · subst e; exact hz q (by omega) hq
              · exact hses q p hp hq (by omega)
        · have hil : i = g.lives.length := by omega
          have sM0 : Tk.Sub h M' := sB0.trans sM'
          have fa : hread M' j1 0 6 = some (cGate g lg lv wy) := hread_of (sM' _ _ gB) rfl
          have hr := risU_done (k := (·.stamp)) (l := g.lives) (by omega) hris
          simp only [walk, lists, acts, mem, plain, seqs, maps, cells, resL, resV, intBin, seval, fa]
          refine waysOk_c (r.sub sM0) (by omega) (by omega) hr fun u2 hu2 => ?_
          simp only [walk, lists, acts, mem, plain, seqs, maps, cells, resL, resV, intBin, seval]
          rw [List.take_of_length_le (by omega)] at hall
          refine ⟨h, sM0, k u2 (hu2.trans ⟨fun w => ⟨hq1.1 rfl, hq2.1 rfl, hlog, ⟨by omega, hall, hr, fun q p hp hq => hses q p hp hq (by omega)⟩, fun hu => ⟨hemp hu, ?_⟩, w⟩, fun w => w.2.2.2.2.2⟩)⟩
          rw [hemp hu] at w
          cases hw : g.ways with
          | nil => rfl
          | cons x l =>
            obtain ⟨_, ⟨y, hy, _⟩, _⟩ := w.1 x (by rw [hw]; exact List.mem_cons_self)
            cases hy
    | true =>
      have hemp : g.up = false → g.lives = [] := fun c => (by rw [hup] at c; cases c)
      try simp only [walk, lists, acts, mem, plain, seqs, maps, cells, resL, resV, intBin, seval, b4, b0, r.2.1.len, z3, hup]
      refine newB_intro (o := blk (fl eI (sesA [])) 97) fun j6 hj6 => ?_
      have nB6 := hj6
      obtain ⟨M, hM⟩ : ∃ M, M = (j6, blk (fl eI (sesA [])) 97) :: B := ⟨_, rfl⟩
      have sM : Tk.Sub B M := by rw [hM]; exact Sub.cons nB6 (Sub.refl _)
      have m6 : hget M j6 = some (blk (fl eI (sesA [])) 97) := by rw [hM]; exact hget_same _ _ _
      have b4M : hcel M j1 4 = some lv := hcel_of (sM _ _ gB) rfl
      rw [← hM]
      simp only [walk, lists, acts, mem, plain, seqs, maps, cells, resL, resV, intBin, seval, b4M, r.2.1.len]
      refine vc_loop [47] (fun n vs M' => ∃ (i : Nat), vs = [.int .i64 i] ∧ Tk.Sub B M' ∧ hget M' j6 = some (blk (fl eI (sesA (g.lives.take i))) 97) ∧ i ≤ g.lives.length ∧ n = g.lives.length - i ∧ (∀ x ∈ g.lives.take i, liveP x g.next ∧ (∀ r ∈ g.log, r.stamp ≠ x.stamp) ∧ ∀ r, lastOf g.log x.call.session = some r → r.call.number < x.call.number) ∧ risU (·.stamp) g.lives i ∧ (∀ s, sesN (g.lives.take i) s ≤ 1) ∧
          ∀ q p (hp : p < g.lives.length) (hq : q < p), p < i → (g.lives[q]'(by omega)).call.session ≠ g.lives[p].call.session) g.lives.length rfl
        ⟨0, rfl, sM, by simpa using m6, by omega, rfl, by simp, risU_zero _ _, fun s => by simp [sesN], fun q p hp hq h => absurd h (Nat.not_lt_zero _)⟩ ?_
      rintro n f M' ⟨i, hv, sM', m6', hi, rfl, hall, hris, hcnt, hses⟩
      simp only [List.map_cons, List.map_nil, List.cons.injEq, and_true] at hv
      simp only [walk, lists, acts, mem, plain, seqs, maps, cells, resL, resV, intBin, seval, wr, hv]
      refine ite_lt (fun c1 => ?_) fun c1 => ?_
      · have hi2 : i < g.lives.length := by omega
        have zl := zLive_eq
        have sM0 : Tk.Sub h M' := sB0.trans sM'
        obtain ⟨b, o, cs, hx, e, a1, a2, rfl, sr⟩ := rs_at ((r.2.1.subH sM0).relImp fun _ _ x => rLive.sub sM0 x) hi2
        have hone := wLive.2.2.2.2.2.2.2.2.2.2.2.2.2.2.2.1 g.lives[i] a1 a2 (rdS.one sr.1) (rRs.one sr.2)
        simp only [walk, lists, acts, mem, plain, seqs, maps, cells, resL, resV, intBin, seval, hx, e, zl, wLive]
        refine newB_intro (o := blk (cLive zLive (.slice none 0 0) (.slice none 0 0)) 82) fun j8 hj8 => ?_
        simp only [walk, lists, acts, mem, plain, seqs, maps, cells, resL, resV, intBin, seval, zl, wLive, hone]
        obtain ⟨N, hN⟩ : ∃ N, N = (j8, blk (cLive g.lives[i] a1 a2) 82) :: M' := ⟨_, rfl⟩
        have sN : Tk.Sub M' N := by rw [hN]; exact Sub.cons hj8 (Sub.refl _)
        have gN : hget N j8 = some (blk (cLive g.lives[i] a1 a2) 82) := by rw [hN]; exact hget_same _ _ _
        have l0 : hcel N j8 0 = some (.int .i64 g.lives[i].stamp) := hcel_of gN rfl
        have l4 : hcel N j8 4 = some (.int .i64 g.lives[i].call.session) := hcel_of gN rfl
        have l5 : hcel N j8 5 = some (.int .i64 g.lives[i].call.number) := hcel_of gN rfl
        have la : hread N j8 0 12 = some (cLive g.lives[i] a1 a2) := hread_of gN rfl
        have sBN := sM'.trans sN
        have s0 : Tk.Sub h N := sB0.trans sBN
        have g2' : hcel N j1 2 = some (.int .i64 g.next) := hcel_of (sBN _ _ gB) rfl
        have g4' : hcel N j1 4 = some lv := hcel_of (sBN _ _ gB) rfl
        have m4N := sBN _ _ gB4
        have m6N := sN _ _ m6'
        have mrN := sBN _ _ gBr
        have sNN := Sub.refl N
        have rl : rRs N (rLive h) 12 lv g.lives := r.2.1.subH s0
        have bad : ¬ (liveP g.lives[i] g.next ∧ (∀ r ∈ g.log, r.stamp ≠ g.lives[i].stamp) ∧ ∀ r, lastOf g.log g.lives[i].call.session = some r → r.call.number < g.lives[i].call.number) → ¬ gateOkP g := fun q p => q (p.2.2.2.1.2.1 _ (List.getElem_mem hi2))
        rw [← hN]
        refine vc_draw _ (Sub.refl _) ?_
        simp only [walk, lists, acts, mem, plain, seqs, maps, cells, resL, resV, intBin, seval, g2', g4', l0, l4, l5, la, sNN, hnx]
        refine within_c fun q3 hq3 => ?_
        cases q3 with
        | false =>
          simp only [walk, lists, acts, mem, plain, seqs, maps, cells, resL, resV, intBin, seval, g2', g4', l0, l4, l5, la, sNN, hnx]
          exact k.dno s0 (bad fun q => not_b hq3 rfl (liveQ_P.1 q.1).1)
        | true =>
        simp only [walk, lists, acts, mem, plain, seqs, maps, cells, resL, resV, intBin, seval, g2', g4', l0, l4, l5, la, sNN, hnx]
        refine ite_lt (fun y1 => ?_) fun y1 => ?_
        · have hi3 : i - 1 < g.lives.length := by omega
          obtain ⟨b3, o3, cs3, hx3, e3, a13, a23, rfl, sr3⟩ := rs_at rl hi3
          have y0 : hcel N b3 o3 = some (.int .i64 g.lives[i - 1].stamp) := by have := hread_c e3 0 rfl; rw [Nat.add_zero] at this; exact this
          have hw3 : IntKind.i64.wrap ((i : Int) - 1) = ((i - 1 : Nat) : Int) := by rw [wrapI _ ⟨by omega, by omega⟩]; omega
          simp only [walk, lists, acts, mem, plain, seqs, maps, cells, resL, resV, intBin, seval, hx3, y0, hw3, g2', g4', l0, l4, l5, la, sNN, hnx]
          refine ite_ge (fun y2 => ?_) fun y2 => ?_
          · try simp only [walk, lists, acts, mem, plain, seqs, maps, cells, resL, resV, intBin, seval, g2', g4', l0, l4, l5, la, sNN, hnx]
            exact k.dno s0 fun p => risU_not (k := (·.stamp)) hi2 (by omega) (by show ¬ g.lives[i - 1].stamp < g.lives[i].stamp; omega) p.2.2.2.1.2.2.1
          have hris2 := risU_more hi2 (by omega) hris y2
          try simp only [walk, lists, acts, mem, plain, seqs, maps, cells, resL, resV, intBin, seval, g2', g4', l0, l4, l5, la, sNN, hnx]
          rcases stampM_get hst g.lives[i].stamp with ⟨hg, x, hxm, hxs⟩ | ⟨hg, hnos⟩
          · refine raw_lookup keyII tMapII hi0 hz0 (k := g.lives[i].stamp) (by simp only [walk, lists, acts, mem, plain, seqs, maps, cells, resL, resV, intBin, seval]) (by simp only [walk, lists, acts, mem, plain, seqs, maps, cells, resL, resV, intBin, seval]) mrN hmo hg ?_
            simp only [walk, lists, acts, mem, plain, seqs, maps, cells, resL, resV, intBin, seval, g2', g4', l0, l4, l5, la, sNN, hnx]
            exact k.dno s0 (bad fun q => q.2.1 x hxm hxs)
          refine raw_lookup keyII tMapII hi0 hz0 (k := g.lives[i].stamp) (by simp only [walk, lists, acts, mem, plain, seqs, maps, cells, resL, resV, intBin, seval]) (by simp only [walk, lists, acts, mem, plain, seqs, maps, cells, resL, resV, intBin, seval]) mrN hmo hg ?_
          simp only [walk, lists, acts, mem, plain, seqs, maps, cells, resL, resV, intBin, seval, g2', g4', l0, l4, l5, la, sNN, hnx]
          refine liveOk_c (gl.sub s0) (gm.sub s0) (sLive.sub sN sr) (hb.live _ (List.getElem_mem hi2)) fun q4 hq4 => ?_
          cases q4 with
          | false =>
            simp only [walk, lists, acts, mem, plain, seqs, maps, cells, resL, resV, intBin, seval, g2', g4', l0, l4, l5, la, sNN, hnx]
            exact k.dno s0 (bad fun q => not_b hq4 rfl (liveQ_P.1 q.1).2)
          | true =>
          simp only [walk, lists, acts, mem, plain, seqs, maps, cells, resL, resV, intBin, seval, g2', g4', l0, l4, l5, la, sNN, hnx]
          have hfm := (hq4.1 rfl).2.2.2.1.1
          have hse : 0 ≤ g.lives[i].call.session ∧ g.lives[i].call.session ≤ 2 := hfm.1
          have hnu : 1 ≤ g.lives[i].call.number := hfm.2.1.1
          have hsl : g.lives[i].call.session.toNat < (lastA g.log).length := by show _ < 3; omega
          have pl : hcel N j4 g.lives[i].call.session.toNat = some (.int .i64 (lastN g.log g.lives[i].call.session)) := by
            rw [← lastA_at _ hse hsl]; exact hcel_of m4N (flI_at hsl)
          refine ⟨⟨by omega, by omega⟩, ?_⟩
          simp only [walk, lists, acts, mem, plain, seqs, maps, cells, resL, resV, intBin, seval, pl, g2', g4', l0, l4, l5, la, sNN, hnx]
          refine ite_ge (fun c4 => ?_) fun c4 => ?_
          · try simp only [walk, lists, acts, mem, plain, seqs, maps, cells, resL, resV, intBin, seval, g2', g4', l0, l4, l5, la, sNN, hnx]
            exact k.dno s0 (bad fun q => by have := (lastN_lt (log := g.log) (s := g.lives[i].call.session) hnu).2 q.2.2; omega)
          have hlt := (lastN_lt (log := g.log) (s := g.lives[i].call.session) hnu).1 (by omega)
          try simp only [walk, lists, acts, mem, plain, seqs, maps, cells, resL, resV, intBin, seval, g2', g4', l0, l4, l5, la, sNN, hnx]
          have hsl2 : g.lives[i].call.session.toNat < (sesA (g.lives.take i)).length := by show _ < 3; omega
          have pl6 : hcel N j6 g.lives[i].call.session.toNat = some (.int .i64 (sesN (g.lives.take i) g.lives[i].call.session)) := by
            rw [← sesA_at _ hse hsl2]; exact hcel_of m6N (flI_at hsl2)
          have hcn := hcnt g.lives[i].call.session
          refine ⟨⟨by omega, by omega⟩, ?_⟩
          simp (disch := omega) only [walk, lists, acts, mem, plain, seqs, maps, cells, resL, resV, intBin, seval, pl6, wrapI]
          refine ⟨⟨by omega, by omega⟩, ?_⟩
          obtain ⟨N2, hN2⟩ : ∃ N2, N2 = hupd N j6 (blk (fl eI (sesA (g.lives.take (i + 1)))) 97) := ⟨_, rfl⟩
          have wt : hwrite N j6 g.lives[i].call.session.toNat [.int .i64 ((sesN (g.lives.take i) g.lives[i].call.session : Int) + 1)] = some N2 := by
            rw [hwrite_of (j := g.lives[i].call.session.toNat) (vs := [.int .i64 ((sesN (g.lives.take i) g.lives[i].call.session : Int) + 1)]) m6N (by rw [fl_len eI_len]; show _ ≤ 3 * 1; simp only [List.length_singleton]; omega), hN2, ← sesA_more hi2 hse]
            have : g.lives[i].call.session = 0 ∨ g.lives[i].call.session = 1 ∨ g.lives[i].call.session = 2 := by omega
            rcases this with e | e | e <;> rw [e] <;> rfl
          have j86 : j8 ≠ j6 := fun e => by rw [e, m6'] at hj8; cases hj8
          have sBN2 : Tk.Sub B N2 := by rw [hN2]; exact Sub.wr (sM'.trans sN) nB6
          have gN2 : hget N2 j8 = some (blk (cLive g.lives[i] a1 a2) 82) := by rw [hN2, hget_hupd_ne j86]; exact gN
          have p4' : hcel N2 j8 4 = some (.int .i64 g.lives[i].call.session) := hcel_of gN2 rfl
          have m6N2 : hget N2 j6 = some (blk (fl eI (sesA (g.lives.take (i + 1)))) 97) := by rw [hN2]; exact hget_hupd_same m6N
          have hsl3 : g.lives[i].call.session.toNat < (sesA (g.lives.take (i + 1))).length := by show _ < 3; omega
          have pl7 : hcel N2 j6 g.lives[i].call.session.toNat = some (.int .i64 (sesN (g.lives.take (i + 1)) g.lives[i].call.session)) := by
            rw [← sesA_at _ hse hsl3]; exact hcel_of m6N2 (flI_at hsl3)
          have hmore := sesN_more hi2
          have hm1 := hmore g.lives[i].call.session
          rw [if_pos rfl] at hm1
          simp only [walk, lists, acts, mem, plain, seqs, maps, cells, resL, resV, intBin, seval, wt, p4']
          refine ⟨⟨by omega, by omega⟩, ?_⟩
          simp only [walk, lists, acts, mem, plain, seqs, maps, cells, resL, resV, intBin, seval, pl7]
          refine ite_lt (fun c6 => ?_) fun c6 => ?_
          · refine k.dno (sB0.trans sBN2) fun q => ?_
            obtain ⟨q', hq', hqi, e⟩ := sesN_pos (l := g.lives) (i := i) (s := g.lives[i].call.session) (by omega)
            exact q.2.2.2.1.2.2.2 q' i hi2 hqi e
          have hz := sesN_zero (l := g.lives) (i := i) (s := g.lives[i].call.session) (by omega)
          simp (disch := omega) only [walk, lists, acts, mem, plain, seqs, maps, cells, resL, resV, intBin, seval, wrapI]
          refine ⟨g.lives.length - (i + 1), by omega, N2, .refl _, i + 1, by simp, sBN2, m6N2, by omega, rfl, fun x hx => ?_, hris2, fun s => ?_, fun q p hp hq hpi => ?_⟩
          · rw [List.take_succ_eq_append_getElem hi2] at hx
            rcases List.mem_append.1 hx with hx | hx
            · exact hall x hx
            · rw [List.mem_singleton.1 hx]; exact ⟨liveQ_P.2 ⟨hq3.1 rfl, hq4.1 rfl⟩, hnos, hlt⟩
          · by_cases e : g.lives[i].call.session = s
            · subst e; omega
            · have := hmore s
              rw [if_neg e] at this
              have := hcnt s
              omega
          · by_cases e : p = i
            · subst e; exact hz q (by omega) hq
            · exact hses q p hp hq (by omega)
        · have hris2 : risU (·.stamp) g.lives (i + 1) := risU_one (by omega) hris
          try simp only [walk, lists, acts, mem, plain, seqs, maps, cells, resL, resV, intBin, seval, g2', g4', l0, l4, l5, la, sNN, hnx]
          rcases stampM_get hst g.lives[i].stamp with ⟨hg, x, hxm, hxs⟩ | ⟨hg, hnos⟩
          · refine raw_lookup keyII tMapII hi0 hz0 (k := g.lives[i].stamp) (by simp only [walk, lists, acts, mem, plain, seqs, maps, cells, resL, resV, intBin, seval]) (by simp only [walk, lists, acts, mem, plain, seqs, maps, cells, resL, resV, intBin, seval]) mrN hmo hg ?_
            simp only [walk, lists, acts, mem, plain, seqs, maps, cells, resL, resV, intBin, seval, g2', g4', l0, l4, l5, la, sNN, hnx]
            exact k.dno s0 (bad fun q => q.2.1 x hxm hxs)
          refine raw_lookup keyII tMapII hi0 hz0 (k := g.lives[i].stamp) (by simp only [walk, lists, acts, mem, plain, seqs, maps, cells, resL, resV, intBin, seval]) (by simp only [walk, lists, acts, mem, plain, seqs, maps, cells, resL, resV, intBin, seval]) mrN hmo hg ?_
          simp only [walk, lists, acts, mem, plain, seqs, maps, cells, resL, resV, intBin, seval, g2', g4', l0, l4, l5, la, sNN, hnx]
          refine liveOk_c (gl.sub s0) (gm.sub s0) (sLive.sub sN sr) (hb.live _ (List.getElem_mem hi2)) fun q4 hq4 => ?_
          cases q4 with
          | false =>
            simp only [walk, lists, acts, mem, plain, seqs, maps, cells, resL, resV, intBin, seval, g2', g4', l0, l4, l5, la, sNN, hnx]
            exact k.dno s0 (bad fun q => not_b hq4 rfl (liveQ_P.1 q.1).2)
          | true =>
          simp only [walk, lists, acts, mem, plain, seqs, maps, cells, resL, resV, intBin, seval, g2', g4', l0, l4, l5, la, sNN, hnx]
          have hfm := (hq4.1 rfl).2.2.2.1.1
          have hse : 0 ≤ g.lives[i].call.session ∧ g.lives[i].call.session ≤ 2 := hfm.1
          have hnu : 1 ≤ g.lives[i].call.number := hfm.2.1.1
          have hsl : g.lives[i].call.session.toNat < (lastA g.log).length := by show _ < 3; omega
          have pl : hcel N j4 g.lives[i].call.session.toNat = some (.int .i64 (lastN g.log g.lives[i].call.session)) := by
            rw [← lastA_at _ hse hsl]; exact hcel_of m4N (flI_at hsl)
          refine ⟨⟨by omega, by omega⟩, ?_⟩
          simp only [walk, lists, acts, mem, plain, seqs, maps, cells, resL, resV, intBin, seval, pl, g2', g4', l0, l4, l5, la, sNN, hnx]
          refine ite_ge (fun c4 => ?_) fun c4 => ?_
          · try simp only [walk, lists, acts, mem, plain, seqs, maps, cells, resL, resV, intBin, seval, g2', g4', l0, l4, l5, la, sNN, hnx]
            exact k.dno s0 (bad fun q => by have := (lastN_lt (log := g.log) (s := g.lives[i].call.session) hnu).2 q.2.2; omega)
          have hlt := (lastN_lt (log := g.log) (s := g.lives[i].call.session) hnu).1 (by omega)
          try simp only [walk, lists, acts, mem, plain, seqs, maps, cells, resL, resV, intBin, seval, g2', g4', l0, l4, l5, la, sNN, hnx]
          have hsl2 : g.lives[i].call.session.toNat < (sesA (g.lives.take i)).length := by show _ < 3; omega
          have pl6 : hcel N j6 g.lives[i].call.session.toNat = some (.int .i64 (sesN (g.lives.take i) g.lives[i].call.session)) := by
            rw [← sesA_at _ hse hsl2]; exact hcel_of m6N (flI_at hsl2)
          have hcn := hcnt g.lives[i].call.session
          refine ⟨⟨by omega, by omega⟩, ?_⟩
          simp (disch := omega) only [walk, lists, acts, mem, plain, seqs, maps, cells, resL, resV, intBin, seval, pl6, wrapI]
          refine ⟨⟨by omega, by omega⟩, ?_⟩
          obtain ⟨N2, hN2⟩ : ∃ N2, N2 = hupd N j6 (blk (fl eI (sesA (g.lives.take (i + 1)))) 97) := ⟨_, rfl⟩
          have wt : hwrite N j6 g.lives[i].call.session.toNat [.int .i64 ((sesN (g.lives.take i) g.lives[i].call.session : Int) + 1)] = some N2 := by
            rw [hwrite_of (j := g.lives[i].call.session.toNat) (vs := [.int .i64 ((sesN (g.lives.take i) g.lives[i].call.session : Int) + 1)]) m6N (by rw [fl_len eI_len]; show _ ≤ 3 * 1; simp only [List.length_singleton]; omega), hN2, ← sesA_more hi2 hse]
            have : g.lives[i].call.session = 0 ∨ g.lives[i].call.session = 1 ∨ g.lives[i].call.session = 2 := by omega
            rcases this with e | e | e <;> rw [e] <;> rfl
          have j86 : j8 ≠ j6 := fun e => by rw [e, m6'] at hj8; cases hj8
          have sBN2 : Tk.Sub B N2 := by rw [hN2]; exact Sub.wr (sM'.trans sN) nB6
          have gN2 : hget N2 j8 = some (blk (cLive g.lives[i] a1 a2) 82) := by rw [hN2, hget_hupd_ne j86]; exact gN
          have p4' : hcel N2 j8 4 = some (.int .i64 g.lives[i].call.session) := hcel_of gN2 rfl
          have m6N2 : hget N2 j6 = some (blk (fl eI (sesA (g.lives.take (i + 1)))) 97) := by rw [hN2]; exact hget_hupd_same m6N
          have hsl3 : g.lives[i].call.session.toNat < (sesA (g.lives.take (i + 1))).length := by show _ < 3; omega
          have pl7 : hcel N2 j6 g.lives[i].call.session.toNat = some (.int .i64 (sesN (g.lives.take (i + 1)) g.lives[i].call.session)) := by
            rw [← sesA_at _ hse hsl3]; exact hcel_of m6N2 (flI_at hsl3)
          have hmore := sesN_more hi2
          have hm1 := hmore g.lives[i].call.session
          rw [if_pos rfl] at hm1
          simp only [walk, lists, acts, mem, plain, seqs, maps, cells, resL, resV, intBin, seval, wt, p4']
          refine ⟨⟨by omega, by omega⟩, ?_⟩
          simp only [walk, lists, acts, mem, plain, seqs, maps, cells, resL, resV, intBin, seval, pl7]
          refine ite_lt (fun c6 => ?_) fun c6 => ?_
          · refine k.dno (sB0.trans sBN2) fun q => ?_
            obtain ⟨q', hq', hqi, e⟩ := sesN_pos (l := g.lives) (i := i) (s := g.lives[i].call.session) (by omega)
            exact q.2.2.2.1.2.2.2 q' i hi2 hqi e
          have hz := sesN_zero (l := g.lives) (i := i) (s := g.lives[i].call.session) (by omega)
          simp (disch := omega) only [walk, lists, acts, mem, plain, seqs, maps, cells, resL, resV, intBin, seval, wrapI]
          refine ⟨g.lives.length - (i + 1), by omega, N2, .refl _, i + 1, by simp, sBN2, m6N2, by omega, rfl, fun x hx => ?_, hris2, fun s => ?_, fun q p hp hq hpi => ?_⟩
          · rw [List.take_succ_eq_append_getElem hi2] at hx
            rcases List.mem_append.1 hx with hx | hx
            · exact hall x hx
            · rw [List.mem_singleton.1 hx]; exact ⟨liveQ_P.2 ⟨hq3.1 rfl, hq4.1 rfl⟩, hnos, hlt⟩
          · by_cases e : g.lives[i].call.session = s
            · subst e; omega
            · have := hmore s
              rw [if_neg e] at this
              have := hcnt s
              omega
          · by_cases e : p = i
            · subst e; exact hz q (by omega) hq
            · exact hses q p hp hq (by omega)
      · have hil : i = g.lives.length := by omega
        have sM0 : Tk.Sub h M' := sB0.trans sM'
        have fa : hread M' j1 0 6 = some (cGate g lg lv wy) := hread_of (sM' _ _ gB) rfl
        have hr := risU_done (k := (·.stamp)) (l := g.lives) (by omega) hris
        simp only [walk, lists, acts, mem, plain, seqs, maps, cells, resL, resV, intBin, seval, fa]
        refine waysOk_c (r.sub sM0) (by omega) (by omega) hr fun u2 hu2 => ?_
        simp only [walk, lists, acts, mem, plain, seqs, maps, cells, resL, resV, intBin, seval]
        rw [List.take_of_length_le (by omega)] at hall
        refine ⟨h, sM0, k u2 (hu2.trans ⟨fun w => ⟨hq1.1 rfl, hq2.1 rfl, hlog, ⟨by omega, hall, hr, fun q p hp hq => hses q p hp hq (by omega)⟩, fun hu => ⟨hemp hu, ?_⟩, w⟩, fun w => w.2.2.2.2.2⟩)⟩
        rw [hemp hu] at w
        cases hw : g.ways with
        | nil => rfl
        | cons x l =>
          obtain ⟨_, ⟨y, hy, _⟩, _⟩ := w.1 x (by rw [hw]; exact List.mem_cons_self)
          cases hy
end Go.Proofs.YtmfhlkkligcgdaaGreatDoor
end
