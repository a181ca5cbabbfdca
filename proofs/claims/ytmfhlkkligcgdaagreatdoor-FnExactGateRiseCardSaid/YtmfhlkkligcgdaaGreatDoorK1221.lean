/- Parts of the proof, put together: A33, Z7, Z8A, A37. -/
import Derived.Test.YtmfhlkkligcgdaaGreatDoorK1214
import Derived.Test.YtmfhlkkligcgdaaGreatDoorK1220
import Derived.Test.YtmfhlkkligcgdaaGreatDoorK1219
import Derived.Test.YtmfhlkkligcgdaaGreatDoorK125
/- A row anew, and what is in it likewise. -/
section
set_option linter.unusedVariables false
set_option linter.unusedSimpArgs false
set_option maxRecDepth 20000
attribute [local irreducible] Go.Tk.vc Go.Tk.vops Go.Tk.vdr Go.Tk.vop Go.Tk.vfl Go.Tk.HCalls
namespace Go.Tk
open Go
/-- The program's own copy of a row, whatever it holds. -/
def eachIR (ti e T : TypeId) (z : List Value) (sz : Nat) : IR := ⟨(.seq (.ops [.s 4 (.mov (.const (.slice none 0 0)))]) (.seq (.ops [.s 5 (.mov (.const (.slice none 0 0)))]) (.seq (.seq (.ops [.v 8 0, .s 9 (.lenS (.t 8)), .s 10 (.mov (.i 0))]) (.block 0 (.loop (.seq (.ops [.s 11 (.bin .lss ti (.t 10) (.t 9))]) (.seq (.cond (.t 11) .skip (.exit 0)) (.seq (.block 1 (.seq (.ops [.s 12 (.idxS (.t 8) (.t 10) sz), .s 13 (.load (.t 12) sz true), .s 7 (.alloc e z), .n (.store (.t 7) (.t 13) sz)]) (.ops [.v 14 5, .v 15 1, .s 16 (.load (.t 7) sz true), .s 17 (.callv (.t 15) [(.t 16)]), .s 18 (.bslice e z 1 [(0, sz, (.t 17))]), .s 19 (.app T T 0 (.t 14) (.t 18)), .v 5 19]))) (.ops [.s 20 (.bin .add ti (.t 10) (.i 1)), .v 10 20]))))))) (.seq (.ops [.v 21 5, .v 4 21]) .ret)))), [.tmp 4], 22⟩

theorem All2.imp' {α β : Type} {r s : α → β → Prop} {l : List α} {m : List β} (h : All2 r l m) (f : ∀ a b, b ∈ m → r a b → s a b) : All2 s l m := by
  induction h with
  | nil => exact .nil
  | cons x _ ih => exact .cons (f _ _ List.mem_cons_self x) (ih fun a b hb => f a b (List.mem_cons_of_mem _ hb))
theorem oRs.relImp' {α : Type} {sz : Nat} {rel rel' : List Value → α → Prop} {e : TypeId} {v : Value} {l : List α} {g : H} (r : oRs e rel sz v l g) (f : ∀ c a, a ∈ l → rel c a → rel' c a) : oRs e rel' sz v l g := by
  obtain ⟨css, r, g⟩ := r; exact ⟨css, r, g.imp' fun c a ha x => ⟨x.1, f _ _ ha x.2⟩⟩
/-- A deep row, as one whose elements bear their blocks. -/
theorem dR_of {α : Type} {e : TypeId} {W : H → List Value → α → (Nat → Prop) → Prop} {sz : Nat} {M G : H} {v : Value} {l : List α} {ps : List (α × (Nat → Prop))} (hl : ps.map (·.1) = l) (o : oRs e (fun cs p => W M cs p.1 p.2) sz v ps G) (s : Sub G M)
    (nb : ∀ p ∈ ps, ∀ x, p.2 x → hget G x = none) (dj : ∀ i j (hi : i < ps.length) (hj : j < ps.length), i ≠ j → ∀ x, ps[i].2 x → ¬ ps[j].2 x) :
    dR e W sz M v l (fun x => hget G x ≠ none ∨ ∃ p ∈ ps, p.2 x) := by
  subst hl
  obtain ⟨css, ⟨hcl, h⟩, a⟩ := o
  have hlen := a.len
  rcases h with ⟨rfl, h0, rfl⟩ | ⟨j, cap, sp, rfl, hc, hs, rfl⟩
  · have : ps = [] := List.eq_nil_of_length_eq_zero h0
    subst this
    refine .inl ⟨rfl, rfl, ?_⟩
    rintro i (x | ⟨p, hp, _⟩)
    · exact x rfl
    · cases hp
  · refine .inr ⟨j, cap, css, sp, fun i => (ps[i]?.map (·.2)).getD (fun _ => False), by rw [List.length_map], by rw [List.length_map]; exact hc, hs, ⟨s _ _ (hget_same _ _ _), by rw [List.length_map]; exact hlen, fun c hm => ?_, fun i h1 h2 => ?_, fun i hi => ?_, fun i k hi hk hik x => ?_, fun x => ?_⟩⟩
    · exact (a.left (P := fun c => c.length = sz) fun _ _ q => q.1) c hm
    · rw [List.length_map] at h2
      simp only [List.getElem?_eq_getElem h2, Option.map_some, Option.getD_some, List.getElem_map]
      exact (a.at h1 h2).2
    · rw [List.length_map] at hi
      simp only [List.getElem?_eq_getElem hi, Option.map_some, Option.getD_some]
      intro q
      have := nb _ (List.getElem_mem hi) j q
      rw [hget_same] at this; cases this
    · rw [List.length_map] at hi hk
      simp only [List.getElem?_eq_getElem hi, List.getElem?_eq_getElem hk, Option.map_some, Option.getD_some]
      exact dj i k hi hk hik x
    · rw [List.length_map]
      have e1 : hget [(j, blk (css.flatten ++ sp) e)] x ≠ none ↔ x = j := by
        rw [hget_cons, hget_nil]
        split <;> simp_all
      rw [e1]
      constructor
      · rintro (h | ⟨p, hp, q⟩)
        · exact .inl h
        · obtain ⟨i, hi, rfl⟩ := List.getElem_of_mem hp
          exact .inr ⟨i, hi, by simp only [List.getElem?_eq_getElem hi, Option.map_some, Option.getD_some]; exact q⟩
      · rintro (h | ⟨i, hi, q⟩)
        · exact .inl h
        · simp only [List.getElem?_eq_getElem hi, Option.map_some, Option.getD_some] at q
          exact .inr ⟨_, List.getElem_mem hi, q⟩

set_option maxHeartbeats 1000000 in
theorem each_c {α : Type} {P : Program} {f c : FuncId} {fn : Func} {ti e T : TypeId} {z : List Value} {sz bytes : Nat} {rel : H → List Value → α → Prop} {W : H → List Value → α → (Nat → Prop) → Prop} {bd : α → Prop} (hf : P.funcs[f]? = some fn) (hi : irOf P fn = some (eachIR ti e T z sz))
    (hz : z.length = sz) (ht : P.underlying T = some (.slice e)) (hI : InfoIs P e sz bytes) (hW : dFr W) (hin : ∀ M cs a S i, W M cs a S → S i → hget M i ≠ none) (hrs : ∀ {g h : H}, Sub g h → ∀ {cs a}, rel g cs a → rel h cs a) (hlen : ∀ {h cs a}, rel h cs a → cs.length = sz) (hone : ∀ {h cs a}, rel h cs a → cs.all vone = true)
    (hWo : ∀ {M cs a S}, W M cs a S → cs.all vone = true) (hcall : callOk P c = true)
    (hc : ∀ (h : H) (cs : List Value) (d : α), rel h cs d → bd d → ∀ R : Ending → H → Prop, (∀ M' cs' S, Sub h M' → W M' cs' d S → (∀ x, S x → hget h x = none) → cs'.length = sz → cs'.all vone = true → R (.returned (.agg cs'.toArray)) M') → HCalls P c #[.agg cs.toArray] h R)
    {h : H} {v : Value} {l : List α} (r : rRs h (rel h) sz v l) (hl : l.length ≤ 1048576) (hb : ∀ a ∈ l, bd a) (hby : bytes ≤ 1048576) {R : Ending → H → Prop}
    (k : ∀ M' v' S, Sub h M' → dR e W sz M' v' l S → (∀ x, S x → hget h x = none) → R (.returned v') M') : HCalls P f #[v, .func (.func c) #[] #[]] h R := by
  refine HCalls_ir (args := [v, .func (.func c) #[] #[]]) hf hi ?_
  unfold eachIR
  simp only [walk, lists, acts, mem, plain, seqs, maps, cells, resL, resV, intBin, seval, r.len]
  refine vc_loop [5, 10] (fun n vs h' => ∃ (i : Nat) (v' : Value) (G H1 : H) (ps : List (α × (Nat → Prop))), vs = [v', .int .i64 i] ∧ h' = G ++ H1 ∧ Dj G H1 ∧ Sub h H1 ∧ oRs e (fun cs p => W H1 cs p.1 p.2) sz v' ps G ∧ ps.map (·.1) = l.take i ∧ (∀ p ∈ ps, ∀ x, p.2 x → hget h x = none ∧ hget H1 x ≠ none) ∧
      (∀ i j (hi : i < ps.length) (hj : j < ps.length), i ≠ j → ∀ x, ps[i].2 x → ¬ ps[j].2 x) ∧ i ≤ l.length ∧ n = l.length - i) l.length rfl ⟨0, _, [], h, [], rfl, rfl, Dj.nil _, Sub.refl _, oRs.nil _ _ _, by simp, fun p hp => (by cases hp), fun i j hi => (by simp at hi), by omega, rfl⟩ ?_
  rintro n f' h' ⟨i, v', G, H1, ps, hv, rfl, dG, s1, o, hmap, hfr, hdj, hi', rfl⟩
  simp only [List.map_cons, List.map_nil, List.cons.injEq, and_true] at hv
  have sG := Sub.right dG
  simp only [walk, lists, acts, mem, plain, seqs, maps, cells, resL, resV, intBin, seval, wr, hv.1, hv.2]
  refine ite_lt (fun c1 => ?_) fun c1 => ?_
  · have hi2 : i < l.length := by omega
    obtain ⟨b, oo, cs, hx, e1, rr⟩ := rs_at ((r.subH (s1.trans sG)).relImp fun _ _ q => hrs (s1.trans sG) q) hi2
    have hcl := hlen rr
    have hco := hone rr
    simp only [walk, lists, acts, mem, plain, seqs, maps, cells, resL, resV, intBin, seval, hx, e1]
    refine newB_intro (o := blk z e) fun j7 hj7 => ?_
    have wt : hwrite ((j7, blk z e) :: (G ++ H1)) j7 0 cs = some ((j7, blk cs e) :: (G ++ H1)) := by
      rw [hwrite_same, if_pos (by omega), splice_all (by omega)]
    have htk : cs.take sz = cs := by rw [← hcl, List.take_length]
    simp only [walk, lists, acts, mem, plain, seqs, maps, cells, resL, resV, intBin, seval, hcl, hco, wt, Nat.le_refl, htk]
    have rd7 : hread ((j7, blk cs e) :: (G ++ H1)) j7 0 sz = some cs := by rw [hread_same, if_pos (by omega), List.drop_zero, ← hcl, List.take_length]
    try simp only [walk, lists, acts, mem, plain, seqs, maps, cells, resL, resV, intBin, seval, rd7]
    have s7 : Sub (G ++ H1) ((j7, blk cs e) :: (G ++ H1)) := Sub.cons hj7 (Sub.refl _)
    refine ⟨hcall, hc _ cs l[i] (hrs s7 rr) (hb _ (List.getElem_mem hi2)) _ fun M2 cs' S s2 w2 f2 hl2 ho2 => ?_⟩
    have hfill : fillL z [(0, sz, cs')] = some cs' := by
      unfold fillL
      rw [if_pos ⟨hl2, by omega⟩]
      unfold fillL
      rw [splice_all (by omega)]
    have hz0 : zrep z 1 = z := by simp [zrep]
    simp only [walk, lists, acts, mem, plain, seqs, maps, cells, resL, resV, intBin, seval, hz0, hfill, hl2]
    refine newB_intro (o := blk cs' e) fun j8 hj8 => ?_
    simp only [walk, lists, acts, mem, plain, seqs, maps, cells, resL, resV, intBin, seval]
    have sA : Sub (G ++ H1) M2 := s7.trans s2
    have sGM : Sub G M2 := (Sub.left G H1).trans sA
    have fr : ∀ x, hget H1 x ≠ none → hget (hdel M2 G) x = hget H1 x := fun x hx => by
      have hG : hget G x = none := dG.of hx
      have e3 : hget (G ++ H1) x = hget H1 x := by rw [hget_app, hG]; rfl
      rw [hget_hdel, if_pos (by rw [hG]; rfl), Sub.eq sA (by rw [e3]; exact hx), e3]
    have nS : ∀ x, S x → hget G x = none ∧ hget H1 x = none := fun x q => by
      have := s7.none' (f2 x q)
      rw [hget_app] at this
      cases hg : hget G x with
      | none => rw [hg] at this; exact ⟨rfl, by simpa using this⟩
      | some o => rw [hg] at this; simp at this
    have frS : ∀ x, S x → hget (hdel M2 G) x = hget M2 x := fun x q => by rw [hget_hdel, if_pos (by rw [(nS x q).1]; rfl)]
    have w3 : W (hdel M2 G) cs' l[i] S := hW _ _ _ _ _ frS w2
    have s8 : Sub M2 ((j8, blk cs' e) :: M2) := Sub.cons hj8 (Sub.refl _)
    have hpl : ps.length = i := by have := congrArg List.length hmap; rw [List.length_map, List.length_take] at this; omega
    refine app_rs (bytes := bytes) (g := G) (h := hdel M2 G) (rel := fun cs (p : α × (Nat → Prop)) => W (hdel M2 G) cs p.1 p.2) (l := ps) (m := [(l[i], S)]) (fun c a q => hWo q) ht hI ((Sub_hdel sGM).trans s8) (Dj_hdel _ _)
      (o.relImp' fun c p hp q => hW _ _ _ _ _ (fun x hx => fr x (hfr p hp x hx).2) q) (rRs_lit (hget_same _ _ _) hl2 w3) (by
        rw [hpl, List.length_singleton]
        calc (i + 1) * bytes ≤ 1048576 * 1048576 := Nat.mul_le_mul (by omega) hby
          _ ≤ 140737488355328 := by omega) (by rw [hpl, List.length_singleton]; omega) fun v2 G2 o2 d2 => ?_
    simp (disch := omega) only [walk, lists, acts, mem, plain, seqs, maps, cells, resL, resV, intBin, seval, wrapI]
    refine ⟨l.length - (i + 1), by omega, _, .refl _, i + 1, v2, G2, hdel M2 G, ps ++ [(l[i], S)], by simp, rfl, d2, fun x oo e4 => ?_, o2, ?_, fun p hp x hx => ?_, fun a b ha hb' hab x hx hy => ?_, by omega, rfl⟩
    · have := s1 x oo e4
      rw [fr x (by rw [this]; simp), this]
    · rw [List.map_append, hmap, List.take_succ_eq_append_getElem hi2]; rfl
    · rcases List.mem_append.1 hp with hp | hp
      · exact ⟨(hfr p hp x hx).1, by rw [fr x (hfr p hp x hx).2]; exact (hfr p hp x hx).2⟩
      · rw [List.mem_singleton.1 hp] at hx
        have hx : S x := hx
        exact ⟨s1.none' (nS x hx).2, by rw [frS x hx]; exact hin _ _ _ _ _ w2 hx⟩
    · rw [List.length_append, List.length_singleton] at ha hb'
      have key : ∀ a (ha : a < (ps ++ [(l[i], S)]).length), (ps ++ [(l[i], S)])[a].2 x → (a < ps.length ∧ hget H1 x ≠ none) ∨ (a = ps.length ∧ S x) := fun a ha q => by
        by_cases c : a < ps.length
        · rw [List.getElem_append_left c] at q
          exact .inl ⟨c, (hfr _ (List.getElem_mem c) x q).2⟩
        · have : a = ps.length := by rw [List.length_append, List.length_singleton] at ha; omega
          subst this
          rw [List.getElem_append_right (Nat.le_refl _)] at q
          simp only [Nat.sub_self, List.getElem_cons_zero] at q
          exact .inr ⟨rfl, q⟩
      rcases key a (by rw [List.length_append, List.length_singleton]; exact ha) hx with ⟨c1', q1⟩ | ⟨c1', q1⟩ <;> rcases key b (by rw [List.length_append, List.length_singleton]; exact hb') hy with ⟨c2', q2⟩ | ⟨c2', q2⟩
      · rw [List.getElem_append_left c1'] at hx
        rw [List.getElem_append_left c2'] at hy
        exact hdj a b c1' c2' hab x hx hy
      · exact q1 (nS x q2).2
      · exact q2 (nS x q1).2
      · omega
  · have hi3 : i = l.length := by omega
    subst hi3
    rw [List.take_length] at hmap
    try simp only [walk, lists, acts, mem, plain, seqs, maps, cells, resL, resV, intBin, seval]
    refine .of (k (G ++ H1) v' _ (s1.trans sG) (dR_of (M := G ++ H1) hmap (o.relImp' fun c p hp q => hW _ _ _ _ _ (fun x hx => Sub.eq sG (hfr p hp x hx).2) q) (Sub.left _ _) (fun p hp x hx => ?_) hdj) ?_)
    · exact dG.of (hfr p hp x hx).2
    · rintro x (q | ⟨p, hp, q⟩)
      · exact s1.none' (dG x q)
      · exact (hfr p hp x q).1
end Go.Tk
end

/- The program's copies of records, calls under way and gates. -/
section
set_option linter.unusedVariables false
set_option linter.unusedSimpArgs false
set_option maxRecDepth 20000
attribute [local irreducible] Go.Tk.vc Go.Tk.vops Go.Tk.vdr Go.Tk.vop Go.Tk.vfl Go.Tk.HCalls
namespace Go.Proofs.YtmfhlkkligcgdaaGreatDoor
open Go Go.Tk

theorem cWay_ones (l : List DWay) : (fl cWay l).all vone = true := by induction l <;> simp_all [fl, cWay, vone]
theorem cloneInt_d {h : H} {v : Value} {l : List Int} (r : rLs h eI 1 v l) (hl : l.length ≤ 1048576) {R : Ending → H → Prop} (k : ∀ M' v' S, Tk.Sub h M' → dL 3 eI 1 M' v' l S → (∀ x, S x → hget h x = none) → R (.returned v') M') :
    HCalls Tryz.prog 112 #[v] h R := clone_l Tryz.func112 ir112 eI_one tInts iInt r (by omega) (by omega) fun v' g o d => k _ v' _ (Sub.right d) (dL.of (h := h) o (Sub.left _ _)) fun x q => d x q
theorem clonePair_d {h : H} {v : Value} {l : List (Int × Int)} (r : rLs h eP 2 v l) (hl : l.length ≤ 1048576) {R : Ending → H → Prop} (k : ∀ M' v' S, Tk.Sub h M' → dL 136 eP 2 M' v' l S → (∀ x, S x → hget h x = none) → R (.returned v') M') :
    HCalls Tryz.prog 114 #[v] h R := clone_l Tryz.func114 ir114 eP_one tPairs iPair r (by omega) (by omega) fun v' g o d => k _ v' _ (Sub.right d) (dL.of (h := h) o (Sub.left _ _)) fun x q => d x q
theorem cloneWay_d {h : H} {v : Value} {l : List DWay} (r : rLs h cWay 2 v l) (hl : l.length ≤ 1048576) {R : Ending → H → Prop} (k : ∀ M' v' S, Tk.Sub h M' → dL 92 cWay 2 M' v' l S → (∀ x, S x → hget h x = none) → R (.returned v') M') :
    HCalls Tryz.prog 82 #[v] h R := clone_l Tryz.func82 ir82 cWay_ones tWays iWay r (by omega) (by omega) fun v' g o d => k _ v' _ (Sub.right d) (dL.of (h := h) o (Sub.left _ _)) fun x q => d x q
theorem rRecord_len {h : H} {cs : List Value} {d : DRecord} (r : rRecord h cs d) : cs.length = 11 := by obtain ⟨v, p, rfl, r1, r2⟩ := r; rfl
theorem rRecord_one {h : H} {cs : List Value} {d : DRecord} (r : rRecord h cs d) : cs.all vone = true := by
  obtain ⟨v, p, rfl, r1, r2⟩ := r
  simp only [cRecord, List.all_cons, List.all_nil, r1.one, r2.one]; rfl
theorem rTold_len {h : H} {cs : List Value} {d : DTold} (r : rTold h cs d) : cs.length = 2 := by obtain ⟨p, rfl, r1⟩ := r; rfl
theorem rTold_one {h : H} {cs : List Value} {d : DTold} (r : rTold h cs d) : cs.all vone = true := by
  obtain ⟨p, rfl, r1⟩ := r
  simp only [cTold, List.all_cons, List.all_nil, r1.one]; rfl
theorem rLive_len {h : H} {cs : List Value} {d : DLive} (r : rLive h cs d) : cs.length = 12 := by obtain ⟨v, p, rfl, r1, r2⟩ := r; rfl
theorem rLive_one {h : H} {cs : List Value} {d : DLive} (r : rLive h cs d) : cs.all vone = true := by
  obtain ⟨v, p, rfl, r1, r2⟩ := r
  simp only [cLive, List.all_cons, List.all_nil, r1.one, r2.one]; rfl
set_option maxHeartbeats 1000000 in
theorem recordClone_c {h : H} {cs : List Value} {d : DRecord} (r : rRecord h cs d) (hx : bRecord d) {R : Ending → H → Prop} (k : ∀ M' cs' S, Tk.Sub h M' → WRecord M' cs' d S → (∀ x, S x → hget h x = none) → cs'.length = 11 → cs'.all vone = true → R (.returned (.agg cs'.toArray)) M') :
    HCalls Tryz.prog 79 #[.agg cs.toArray] h R := by
  obtain ⟨v1, v2, rfl, r1, r2⟩ := r
  refine HCalls_ir (args := [.agg (cRecord d v1 v2).toArray]) Tryz.func79 ir79 ?_
  have z1 := zRecord_eq
  try simp only [str] at z1
  simp only [walk, lists, acts, mem, plain, seqs, maps, cells, resL, resV, intBin, seval, wRecord, str, z1]
  refine newB_intro (o := blk (cRecord d v1 v2) 86) fun j1 h1 => ?_
  simp only [walk, lists, acts, mem, plain, seqs, maps, cells, resL, resV, intBin, seval, wRecord, z1]
  refine newB_intro (o := blk (cRecord zRecord (.slice none 0 0) (.slice none 0 0)) 86) fun j2 h2 => ?_
  have n2 := h2
  simp only [subs] at n2
  have ne12 : j1 ≠ j2 := fun e => n2.1 e.symm
  obtain ⟨N0, hN0⟩ : ∃ N0, N0 = (j2, blk (cRecord zRecord (.slice none 0 0) (.slice none 0 0)) 86) :: (j1, blk (cRecord d v1 v2) 86) :: h := ⟨_, rfl⟩
  have sN0 : Tk.Sub h N0 := by rw [hN0]; exact Sub.cons h2 (Sub.cons h1 (Sub.refl _))
  have g2_0 : hget N0 j2 = some (blk (cRecord zRecord (.slice none 0 0) (.slice none 0 0)) 86) := by rw [hN0]; exact hget_same _ _ _
  have g1_0 : hget N0 j1 = some (blk (cRecord d v1 v2) 86) := by rw [hN0, hget_next _ _ _ ne12]; exact hget_same _ _ _
  rw [← hN0]
  have cl1 : hcel N0 j1 9 = some v1 := hcel_of g1_0 rfl
  try simp only [walk, lists, acts, mem, plain, seqs, maps, cells, resL, resV, intBin, seval, wRecord, cl1]
  refine cloneInt_d (r1.sub sN0) (by have := hx.v; unfold lim at this; omega) fun M1 w1 S1 t1 u1 f1 => ?_
  have g1_1' := t1 _ _ g1_0
  have g2_1' := t1 _ _ g2_0
  obtain ⟨N1, hN1⟩ : ∃ N1, N1 = hupd M1 j1 (blk (cRecord d w1 v2) 86) := ⟨_, rfl⟩
  have wt1 : hwrite M1 j1 9 [w1] = some N1 := by
    rw [hN1]; exact hwrite_of g1_1' (by show 9 + 1 ≤ 11; omega)
  have on1 := u1.one
  have vcw1 := vc1 on1
  have g1_1 : hget N1 j1 = some (blk (cRecord d w1 v2) 86) := by rw [hN1]; exact hget_hupd_same g1_1'
  have g2_1 : hget N1 j2 = some (blk (cRecord zRecord (.slice none 0 0) (.slice none 0 0)) 86) := by rw [hN1, hget_hupd_ne ne12.symm]; exact g2_1'
  have fr1 : ∀ x, x ≠ j1 → hget N1 x = hget M1 x := fun x e => by rw [hN1, hget_hupd_ne e]
  have sN1 : Tk.Sub h N1 := fun x o e => by
    rw [fr1 x (fun c => by subst c; rw [h1] at e; cases e)]; exact t1 _ _ (sN0 _ _ e)
  simp only [walk, lists, acts, mem, plain, seqs, maps, cells, resL, resV, intBin, seval, wRecord, wt1, on1, vcw1]
  have cl2 : hcel N1 j1 10 = some v2 := hcel_of g1_1 rfl
  try simp only [walk, lists, acts, mem, plain, seqs, maps, cells, resL, resV, intBin, seval, wRecord, cl2]
  refine clonePair_d (r2.sub sN1) (by have := hx.p; unfold lim at this; omega) fun M2 w2 S2 t2 u2 f2 => ?_
  have g1_2' := t2 _ _ g1_1
  have g2_2' := t2 _ _ g2_1
  obtain ⟨N2, hN2⟩ : ∃ N2, N2 = hupd M2 j1 (blk (cRecord d w1 w2) 86) := ⟨_, rfl⟩
  have wt2 : hwrite M2 j1 10 [w2] = some N2 := by
    rw [hN2]; exact hwrite_of g1_2' (by show 10 + 1 ≤ 11; omega)
  have on2 := u2.one
  have vcw2 := vc1 on2
  have g1_2 : hget N2 j1 = some (blk (cRecord d w1 w2) 86) := by rw [hN2]; exact hget_hupd_same g1_2'
  have g2_2 : hget N2 j2 = some (blk (cRecord zRecord (.slice none 0 0) (.slice none 0 0)) 86) := by rw [hN2, hget_hupd_ne ne12.symm]; exact g2_2'
  have fr2 : ∀ x, x ≠ j1 → hget N2 x = hget M2 x := fun x e => by rw [hN2, hget_hupd_ne e]
  have sN2 : Tk.Sub h N2 := fun x o e => by
    rw [fr2 x (fun c => by subst c; rw [h1] at e; cases e)]; exact t2 _ _ (sN1 _ _ e)
  simp only [walk, lists, acts, mem, plain, seqs, maps, cells, resL, resV, intBin, seval, wRecord, wt2, on2, vcw2]
  have rd3 : hread N2 j1 0 11 = some (cRecord d w1 w2) := hread_of g1_2 rfl
  obtain ⟨Z3, hZ3⟩ : ∃ Z3, Z3 = hupd N2 j2 (blk (cRecord d w1 w2) 86) := ⟨_, rfl⟩
  have wtz : hwrite N2 j2 0 (cRecord d w1 w2) = some Z3 := by
    rw [hZ3]; exact hwrite_of g2_2 (by show 0 + 11 ≤ 11; omega)
  have hone : (cRecord d w1 w2).all vone = true := by simp only [cRecord, List.all_cons, List.all_nil, on1, on2]; rfl
  simp only [walk, lists, acts, mem, plain, seqs, maps, cells, resL, resV, intBin, seval, wRecord, rd3, wtz, hone]
  have rdz : hread Z3 j2 0 11 = some (cRecord d w1 w2) := hread_of (by rw [hZ3]; exact hget_hupd_same g2_2) rfl
  try simp only [walk, lists, acts, mem, plain, seqs, maps, cells, resL, resV, intBin, seval, wRecord, rdz]
  have frz : ∀ x, x ≠ j2 → hget Z3 x = hget N2 x := fun x e => by rw [hZ3, hget_hupd_ne e]
  have ne1 : ∀ x, S1 x → x ≠ j2 ∧ x ≠ j1 := fun x q => ⟨fun e => (by have := f1 x q; rw [e, g2_0] at this; cases this), fun e => (by have := f1 x q; rw [e, g1_0] at this; cases this)⟩
  have ne2 : ∀ x, S2 x → x ≠ j2 ∧ x ≠ j1 := fun x q => ⟨fun e => (by have := f2 x q; rw [e, g2_1] at this; cases this), fun e => (by have := f2 x q; rw [e, g1_1] at this; cases this)⟩
  have e1_1 : ∀ x, S1 x → hget N1 x = hget M1 x := fun x q => fr1 x (ne1 x q).2
  have e1_2 : ∀ x, S1 x → hget N2 x = hget M1 x := fun x q => by rw [fr2 x (ne1 x q).2, Sub.eq t2 (by rw [e1_1 x q]; exact u1.in q), e1_1 x q]
  have e2_2 : ∀ x, S2 x → hget N2 x = hget M2 x := fun x q => fr2 x (ne2 x q).2
  have d12 : ∀ x, S1 x → ¬ S2 x := fun x q q2 => by
    have := f2 x q2
    rw [e1_1 x q] at this
    exact u1.in q this
  refine .of (k _ _ _ (fun x o e => by rw [frz x (fun c => by subst c; rw [n2.2] at e; cases e)]; exact sN2 x o e) ⟨w1, w2, S1, S2, rfl, (u1.frame fun x q => by rw [frz x (ne1 x q).1, e1_2 x q]), (u2.frame fun x q => by rw [frz x (ne2 x q).1, e2_2 x q]), d12, fun _ => Iff.rfl⟩ ?_ rfl hone)
  rintro x (q | q)
  · exact sN0.none' (f1 x q)
  · exact sN1.none' (f2 x q)

theorem toldClone_c {h : H} {cs : List Value} {d : DTold} (r : rTold h cs d) (hx : bTold d) {R : Ending → H → Prop} (k : ∀ M' cs' S, Tk.Sub h M' → WTold M' cs' d S → (∀ x, S x → hget h x = none) → cs'.length = 2 → cs'.all vone = true → R (.returned (.agg cs'.toArray)) M') :
    HCalls Tryz.prog 116 #[.agg cs.toArray] h R := by
  obtain ⟨v1, rfl, r1⟩ := r
  refine HCalls_ir (args := [.agg (cTold d v1).toArray]) Tryz.func116 ir116 ?_
  have z1 := zTold_eq
  simp only [walk, lists, acts, mem, plain, seqs, maps, cells, resL, resV, intBin, seval, wTold, z1]
  refine newB_intro (o := blk (cTold d v1) 112) fun j1 h1 => ?_
  simp only [walk, lists, acts, mem, plain, seqs, maps, cells, resL, resV, intBin, seval, wTold, z1]
  refine newB_intro (o := blk (cTold zTold (.slice none 0 0)) 112) fun j2 h2 => ?_
  have n2 := h2
  simp only [subs] at n2
  have ne12 : j1 ≠ j2 := fun e => n2.1 e.symm
  obtain ⟨N0, hN0⟩ : ∃ N0, N0 = (j2, blk (cTold zTold (.slice none 0 0)) 112) :: (j1, blk (cTold d v1) 112) :: h := ⟨_, rfl⟩
  have sN0 : Tk.Sub h N0 := by rw [hN0]; exact Sub.cons h2 (Sub.cons h1 (Sub.refl _))
  have g2_0 : hget N0 j2 = some (blk (cTold zTold (.slice none 0 0)) 112) := by rw [hN0]; exact hget_same _ _ _
  have g1_0 : hget N0 j1 = some (blk (cTold d v1) 112) := by rw [hN0, hget_next _ _ _ ne12]; exact hget_same _ _ _
  rw [← hN0]
  have cl0 : hcel N0 j1 0 = some (.int .i64 d.house) := hcel_of g1_0 rfl
  have cl1 : hcel N0 j1 1 = some v1 := hcel_of g1_0 rfl
  simp only [walk, lists, acts, mem, plain, seqs, maps, cells, resL, resV, intBin, seval, wTold]
  refine vc_draw _ (Sub.refl _) ?_
  simp only [walk, lists, acts, mem, plain, seqs, maps, cells, resL, resV, intBin, seval, wTold, cl0, cl1]
  refine clonePair_d (r1.sub sN0) (by have := hx; unfold bTold lim at this; omega) fun M1 w1 S1 t1 u1 f1 => ?_
  have on1 := u1.one
  have vcw1 := vc1 on1
  have one1 := wTold.2.2.2.2.2.1 d w1 on1
  have g2_1 := t1 _ _ g2_0
  obtain ⟨Z3, hZ3⟩ : ∃ Z3, Z3 = hupd M1 j2 (blk (cTold d w1) 112) := ⟨_, rfl⟩
  have wtz : hwrite M1 j2 0 (cTold d w1) = some Z3 := by
    rw [hZ3]; exact hwrite_of g2_1 (by show 0 + 2 ≤ 2; omega)
  have ee : cTold ⟨d.house, zTold.pairs⟩ w1 = cTold d w1 := rfl
  have rdz : hread Z3 j2 0 2 = some (cTold d w1) := hread_of (by rw [hZ3]; exact hget_hupd_same g2_1) rfl
  simp only [walk, lists, acts, mem, plain, seqs, maps, cells, resL, resV, intBin, seval, wTold, t1, on1, vcw1, one1, ee, wtz]
  try simp only [walk, lists, acts, mem, plain, seqs, maps, cells, resL, resV, intBin, seval, wTold, rdz]
  have nj : ∀ x, S1 x → x ≠ j2 := fun x q e => by have := f1 x q; rw [e, g2_0] at this; cases this
  have frz : ∀ x, x ≠ j2 → hget Z3 x = hget M1 x := fun x e => by rw [hZ3, hget_hupd_ne e]
  exact .of (k _ _ _ (fun x o e => by rw [frz x (fun c => by subst c; rw [n2.2] at e; cases e)]; exact t1 _ _ (sN0 _ _ e)) ⟨w1, rfl, u1.frame fun x q => frz x (nj x q)⟩ (fun x q => sN0.none' (f1 x q)) rfl one1)

theorem eachRecord_c {h : H} {v : Value} {l : List DRecord} (r : rRs h (rRecord h) 11 v l) (hl : l.length ≤ 1048576) (hb : ∀ d ∈ l, bRecord d) {R : Ending → H → Prop} (k : ∀ M' v' S, Tk.Sub h M' → dR 86 WRecord 11 M' v' l S → (∀ x, S x → hget h x = none) → R (.returned v') M') :
    HCalls Tryz.prog 78 #[v, .func (.func 79) #[] #[]] h R :=
  each_c (rel := rRecord) (W := WRecord) (bd := bRecord) (z := [.int .i64 0, .int .i64 0, .int .i64 0, .int .i64 0, .int .i64 0, str [], .int .i64 0, .int .i64 0, .int .i64 0, .slice none 0 0, .slice none 0 0]) Tryz.func78 ir78 rfl tRecords iRecord WRecord.fr WRecord.in (fun s _ _ q => rRecord.sub s q) (fun q => rRecord_len q) (fun q => rRecord_one q) (fun q => rRecord_one (WRecord.rd _ _ _ _ q)) (by kernel_rfl)
    (fun h cs d q b R k => recordClone_c q b k) r hl hb (by omega) k
theorem eachTold_c {h : H} {v : Value} {l : List DTold} (r : rRs h (rTold h) 2 v l) (hl : l.length ≤ 1048576) (hb : ∀ d ∈ l, bTold d) {R : Ending → H → Prop} (k : ∀ M' v' S, Tk.Sub h M' → dR 112 WTold 2 M' v' l S → (∀ x, S x → hget h x = none) → R (.returned v') M') :
    HCalls Tryz.prog 115 #[v, .func (.func 116) #[] #[]] h R :=
  each_c (rel := rTold) (W := WTold) (bd := bTold) (z := [.int .i64 0, .slice none 0 0]) Tryz.func115 ir115 rfl tTolds iTold WTold.fr WTold.in (fun s _ _ q => rTold.sub s q) (fun q => rTold_len q) (fun q => rTold_one q) (fun q => rTold_one (WTold.rd _ _ _ _ q)) (by kernel_rfl)
    (fun h cs d q b R k => toldClone_c q b k) r hl hb (by omega) k
set_option maxHeartbeats 1000000 in
theorem liveClone_c {h : H} {cs : List Value} {d : DLive} (r : rLive h cs d) (hx : bLive d) {R : Ending → H → Prop} (k : ∀ M' cs' S, Tk.Sub h M' → WLive M' cs' d S → (∀ x, S x → hget h x = none) → cs'.length = 12 → cs'.all vone = true → R (.returned (.agg cs'.toArray)) M') :
    HCalls Tryz.prog 81 #[.agg cs.toArray] h R := by
  obtain ⟨v1, v2, rfl, r1, r2⟩ := r
  refine HCalls_ir (args := [.agg (cLive d v1 v2).toArray]) Tryz.func81 ir81 ?_
  have z1 := zLive_eq
  try simp only [str] at z1
  simp only [walk, lists, acts, mem, plain, seqs, maps, cells, resL, resV, intBin, seval, wLive, str, z1]
  refine newB_intro (o := blk (cLive d v1 v2) 82) fun j1 h1 => ?_
  simp only [walk, lists, acts, mem, plain, seqs, maps, cells, resL, resV, intBin, seval, wLive, z1]
  refine newB_intro (o := blk (cLive zLive (.slice none 0 0) (.slice none 0 0)) 82) fun j2 h2 => ?_
  have n2 := h2
  simp only [subs] at n2
  have ne12 : j1 ≠ j2 := fun e => n2.1 e.symm
  obtain ⟨N0, hN0⟩ : ∃ N0, N0 = (j2, blk (cLive zLive (.slice none 0 0) (.slice none 0 0)) 82) :: (j1, blk (cLive d v1 v2) 82) :: h := ⟨_, rfl⟩
  have sN0 : Tk.Sub h N0 := by rw [hN0]; exact Sub.cons h2 (Sub.cons h1 (Sub.refl _))
  have g2_0 : hget N0 j2 = some (blk (cLive zLive (.slice none 0 0) (.slice none 0 0)) 82) := by rw [hN0]; exact hget_same _ _ _
  have g1_0 : hget N0 j1 = some (blk (cLive d v1 v2) 82) := by rw [hN0, hget_next _ _ _ ne12]; exact hget_same _ _ _
  rw [← hN0]
  have cl1 : hcel N0 j1 10 = some v1 := hcel_of g1_0 rfl
  try simp only [walk, lists, acts, mem, plain, seqs, maps, cells, resL, resV, intBin, seval, wLive, cl1]
  refine cloneInt_d (r1.sub sN0) (by have := hx.l; unfold lim at this; omega) fun M1 w1 S1 t1 u1 f1 => ?_
  have g1_1' := t1 _ _ g1_0
  have g2_1' := t1 _ _ g2_0
  obtain ⟨N1, hN1⟩ : ∃ N1, N1 = hupd M1 j1 (blk (cLive d w1 v2) 82) := ⟨_, rfl⟩
  have wt1 : hwrite M1 j1 10 [w1] = some N1 := by
    rw [hN1]; exact hwrite_of g1_1' (by show 10 + 1 ≤ 12; omega)
  have on1 := u1.one
  have vcw1 := vc1 on1
  have g1_1 : hget N1 j1 = some (blk (cLive d w1 v2) 82) := by rw [hN1]; exact hget_hupd_same g1_1'
  have g2_1 : hget N1 j2 = some (blk (cLive zLive (.slice none 0 0) (.slice none 0 0)) 82) := by rw [hN1, hget_hupd_ne ne12.symm]; exact g2_1'
  have fr1 : ∀ x, x ≠ j1 → hget N1 x = hget M1 x := fun x e => by rw [hN1, hget_hupd_ne e]
  have sN1 : Tk.Sub h N1 := fun x o e => by
    rw [fr1 x (fun c => by subst c; rw [h1] at e; cases e)]; exact t1 _ _ (sN0 _ _ e)
  simp only [walk, lists, acts, mem, plain, seqs, maps, cells, resL, resV, intBin, seval, wLive, wt1, on1, vcw1]
  have cl2 : hcel N1 j1 11 = some v2 := hcel_of g1_1 rfl
  try simp only [walk, lists, acts, mem, plain, seqs, maps, cells, resL, resV, intBin, seval, wLive, cl2]
  refine eachTold_c (r2.sub sN1 fun _ _ q => rTold.sub sN1 q) (by have := hx.t; unfold lim at this; omega) hx.ts fun M2 w2 S2 t2 u2 f2 => ?_
  have g1_2' := t2 _ _ g1_1
  have g2_2' := t2 _ _ g2_1
  obtain ⟨N2, hN2⟩ : ∃ N2, N2 = hupd M2 j1 (blk (cLive d w1 w2) 82) := ⟨_, rfl⟩
  have wt2 : hwrite M2 j1 11 [w2] = some N2 := by
    rw [hN2]; exact hwrite_of g1_2' (by show 11 + 1 ≤ 12; omega)
  have on2 := u2.one
  have vcw2 := vc1 on2
  have g1_2 : hget N2 j1 = some (blk (cLive d w1 w2) 82) := by rw [hN2]; exact hget_hupd_same g1_2'
  have g2_2 : hget N2 j2 = some (blk (cLive zLive (.slice none 0 0) (.slice none 0 0)) 82) := by rw [hN2, hget_hupd_ne ne12.symm]; exact g2_2'
  have fr2 : ∀ x, x ≠ j1 → hget N2 x = hget M2 x := fun x e => by rw [hN2, hget_hupd_ne e]
  have sN2 : Tk.Sub h N2 := fun x o e => by
    rw [fr2 x (fun c => by subst c; rw [h1] at e; cases e)]; exact t2 _ _ (sN1 _ _ e)
  simp only [walk, lists, acts, mem, plain, seqs, maps, cells, resL, resV, intBin, seval, wLive, wt2, on2, vcw2]
  have rd3 : hread N2 j1 0 12 = some (cLive d w1 w2) := hread_of g1_2 rfl
  obtain ⟨Z3, hZ3⟩ : ∃ Z3, Z3 = hupd N2 j2 (blk (cLive d w1 w2) 82) := ⟨_, rfl⟩
  have wtz : hwrite N2 j2 0 (cLive d w1 w2) = some Z3 := by
    rw [hZ3]; exact hwrite_of g2_2 (by show 0 + 12 ≤ 12; omega)
  have hone : (cLive d w1 w2).all vone = true := by simp only [cLive, List.all_cons, List.all_nil, on1, on2]; rfl
  simp only [walk, lists, acts, mem, plain, seqs, maps, cells, resL, resV, intBin, seval, wLive, rd3, wtz, hone]
  have rdz : hread Z3 j2 0 12 = some (cLive d w1 w2) := hread_of (by rw [hZ3]; exact hget_hupd_same g2_2) rfl
  try simp only [walk, lists, acts, mem, plain, seqs, maps, cells, resL, resV, intBin, seval, wLive, rdz]
  have frz : ∀ x, x ≠ j2 → hget Z3 x = hget N2 x := fun x e => by rw [hZ3, hget_hupd_ne e]
  have ne1 : ∀ x, S1 x → x ≠ j2 ∧ x ≠ j1 := fun x q => ⟨fun e => (by have := f1 x q; rw [e, g2_0] at this; cases this), fun e => (by have := f1 x q; rw [e, g1_0] at this; cases this)⟩
  have ne2 : ∀ x, S2 x → x ≠ j2 ∧ x ≠ j1 := fun x q => ⟨fun e => (by have := f2 x q; rw [e, g2_1] at this; cases this), fun e => (by have := f2 x q; rw [e, g1_1] at this; cases this)⟩
  have e1_1 : ∀ x, S1 x → hget N1 x = hget M1 x := fun x q => fr1 x (ne1 x q).2
  have e1_2 : ∀ x, S1 x → hget N2 x = hget M1 x := fun x q => by rw [fr2 x (ne1 x q).2, Sub.eq t2 (by rw [e1_1 x q]; exact u1.in q), e1_1 x q]
  have e2_2 : ∀ x, S2 x → hget N2 x = hget M2 x := fun x q => fr2 x (ne2 x q).2
  have d12 : ∀ x, S1 x → ¬ S2 x := fun x q q2 => by
    have := f2 x q2
    rw [e1_1 x q] at this
    exact u1.in q this
  refine .of (k _ _ _ (fun x o e => by rw [frz x (fun c => by subst c; rw [n2.2] at e; cases e)]; exact sN2 x o e) ⟨w1, w2, S1, S2, rfl, (u1.frame fun x q => by rw [frz x (ne1 x q).1, e1_2 x q]), (u2.frame WTold.fr fun x q => by rw [frz x (ne2 x q).1, e2_2 x q]), d12, fun _ => Iff.rfl⟩ ?_ rfl hone)
  rintro x (q | q)
  · exact sN0.none' (f1 x q)
  · exact sN1.none' (f2 x q)

theorem eachLive_c {h : H} {v : Value} {l : List DLive} (r : rRs h (rLive h) 12 v l) (hl : l.length ≤ 1048576) (hb : ∀ d ∈ l, bLive d) {R : Ending → H → Prop} (k : ∀ M' v' S, Tk.Sub h M' → dR 82 WLive 12 M' v' l S → (∀ x, S x → hget h x = none) → R (.returned v') M') :
    HCalls Tryz.prog 80 #[v, .func (.func 81) #[] #[]] h R :=
  each_c (rel := rLive) (W := WLive) (bd := bLive) (z := [.int .i64 0, .int .i64 0, .int .i64 0, .int .i64 0, .int .i64 0, .int .i64 0, .int .i64 0, str [], .int .i64 0, .int .i64 0, .slice none 0 0, .slice none 0 0]) Tryz.func80 ir80 rfl tLives iLive WLive.fr WLive.in (fun s _ _ q => rLive.sub s q) (fun q => rLive_len q) (fun q => rLive_one q) (fun q => rLive_one (WLive.rd _ _ _ _ q)) (by kernel_rfl)
    (fun h cs d q b R k => liveClone_c q b k) r hl hb (by omega) k
set_option maxHeartbeats 1000000 in
theorem implGateClone_c {h : H} {d : DGate} {v1 v2 v3 : Value} (r : sGate h d v1 v2 v3) (hx : bGate d) {R : Ending → H → Prop} (k : ∀ M' a b c S, Tk.Sub h M' → WGate M' d a b c S → (∀ x, S x → hget h x = none) → R (.returned (.agg (cGate d a b c).toArray)) M') :
    HCalls Tryz.prog 50 #[.agg (cGate d v1 v2 v3).toArray] h R := by
  obtain ⟨r1, r2, r3⟩ := r
  refine HCalls_ir (args := [.agg (cGate d v1 v2 v3).toArray]) Tryz.func50 ir50 ?_
  have z1 := zGate_eq
  try simp only [str] at z1
  simp only [walk, lists, acts, mem, plain, seqs, maps, cells, resL, resV, intBin, seval, wGate, str, z1]
  refine newB_intro (o := blk (cGate d v1 v2 v3) 34) fun j1 h1 => ?_
  simp only [walk, lists, acts, mem, plain, seqs, maps, cells, resL, resV, intBin, seval, wGate, z1]
  refine newB_intro (o := blk (cGate zGate (.slice none 0 0) (.slice none 0 0) (.slice none 0 0)) 34) fun j2 h2 => ?_
  have n2 := h2
  simp only [subs] at n2
  have ne12 : j1 ≠ j2 := fun e => n2.1 e.symm
  obtain ⟨N0, hN0⟩ : ∃ N0, N0 = (j2, blk (cGate zGate (.slice none 0 0) (.slice none 0 0) (.slice none 0 0)) 34) :: (j1, blk (cGate d v1 v2 v3) 34) :: h := ⟨_, rfl⟩
  have sN0 : Tk.Sub h N0 := by rw [hN0]; exact Sub.cons h2 (Sub.cons h1 (Sub.refl _))
  have g2_0 : hget N0 j2 = some (blk (cGate zGate (.slice none 0 0) (.slice none 0 0) (.slice none 0 0)) 34) := by rw [hN0]; exact hget_same _ _ _
  have g1_0 : hget N0 j1 = some (blk (cGate d v1 v2 v3) 34) := by rw [hN0, hget_next _ _ _ ne12]; exact hget_same _ _ _
  rw [← hN0]
  have cl1 : hcel N0 j1 3 = some v1 := hcel_of g1_0 rfl
  try simp only [walk, lists, acts, mem, plain, seqs, maps, cells, resL, resV, intBin, seval, wGate, cl1]
  refine eachRecord_c (r1.sub sN0 fun _ _ q => rRecord.sub sN0 q) (by have := hx.log; unfold lim at this; omega) hx.recs fun M1 w1 S1 t1 u1 f1 => ?_
  have g1_1' := t1 _ _ g1_0
  have g2_1' := t1 _ _ g2_0
  obtain ⟨N1, hN1⟩ : ∃ N1, N1 = hupd M1 j1 (blk (cGate d w1 v2 v3) 34) := ⟨_, rfl⟩
  have wt1 : hwrite M1 j1 3 [w1] = some N1 := by
    rw [hN1]; exact hwrite_of g1_1' (by show 3 + 1 ≤ 6; omega)
  have on1 := u1.one
  have vcw1 := vc1 on1
  have g1_1 : hget N1 j1 = some (blk (cGate d w1 v2 v3) 34) := by rw [hN1]; exact hget_hupd_same g1_1'
  have g2_1 : hget N1 j2 = some (blk (cGate zGate (.slice none 0 0) (.slice none 0 0) (.slice none 0 0)) 34) := by rw [hN1, hget_hupd_ne ne12.symm]; exact g2_1'
  have fr1 : ∀ x, x ≠ j1 → hget N1 x = hget M1 x := fun x e => by rw [hN1, hget_hupd_ne e]
  have sN1 : Tk.Sub h N1 := fun x o e => by
    rw [fr1 x (fun c => by subst c; rw [h1] at e; cases e)]; exact t1 _ _ (sN0 _ _ e)
  simp only [walk, lists, acts, mem, plain, seqs, maps, cells, resL, resV, intBin, seval, wGate, wt1, on1, vcw1]
  have cl2 : hcel N1 j1 4 = some v2 := hcel_of g1_1 rfl
  try simp only [walk, lists, acts, mem, plain, seqs, maps, cells, resL, resV, intBin, seval, wGate, cl2]
  refine eachLive_c (r2.sub sN1 fun _ _ q => rLive.sub sN1 q) (by have := hx.lives; unfold lim at this; omega) hx.live fun M2 w2 S2 t2 u2 f2 => ?_
  have g1_2' := t2 _ _ g1_1
  have g2_2' := t2 _ _ g2_1
  obtain ⟨N2, hN2⟩ : ∃ N2, N2 = hupd M2 j1 (blk (cGate d w1 w2 v3) 34) := ⟨_, rfl⟩
  have wt2 : hwrite M2 j1 4 [w2] = some N2 := by
    rw [hN2]; exact hwrite_of g1_2' (by show 4 + 1 ≤ 6; omega)
  have on2 := u2.one
  have vcw2 := vc1 on2
  have g1_2 : hget N2 j1 = some (blk (cGate d w1 w2 v3) 34) := by rw [hN2]; exact hget_hupd_same g1_2'
  have g2_2 : hget N2 j2 = some (blk (cGate zGate (.slice none 0 0) (.slice none 0 0) (.slice none 0 0)) 34) := by rw [hN2, hget_hupd_ne ne12.symm]; exact g2_2'
  have fr2 : ∀ x, x ≠ j1 → hget N2 x = hget M2 x := fun x e => by rw [hN2, hget_hupd_ne e]
  have sN2 : Tk.Sub h N2 := fun x o e => by
    rw [fr2 x (fun c => by subst c; rw [h1] at e; cases e)]; exact t2 _ _ (sN1 _ _ e)
  simp only [walk, lists, acts, mem, plain, seqs, maps, cells, resL, resV, intBin, seval, wGate, wt2, on2, vcw2]
  have cl3 : hcel N2 j1 5 = some v3 := hcel_of g1_2 rfl
  try simp only [walk, lists, acts, mem, plain, seqs, maps, cells, resL, resV, intBin, seval, wGate, cl3]
  refine cloneWay_d (r3.sub sN2) (by have := hx.ways; unfold lim at this; omega) fun M3 w3 S3 t3 u3 f3 => ?_
  have g1_3' := t3 _ _ g1_2
  have g2_3' := t3 _ _ g2_2
  obtain ⟨N3, hN3⟩ : ∃ N3, N3 = hupd M3 j1 (blk (cGate d w1 w2 w3) 34) := ⟨_, rfl⟩
  have wt3 : hwrite M3 j1 5 [w3] = some N3 := by
    rw [hN3]; exact hwrite_of g1_3' (by show 5 + 1 ≤ 6; omega)
  have on3 := u3.one
  have vcw3 := vc1 on3
  have g1_3 : hget N3 j1 = some (blk (cGate d w1 w2 w3) 34) := by rw [hN3]; exact hget_hupd_same g1_3'
  have g2_3 : hget N3 j2 = some (blk (cGate zGate (.slice none 0 0) (.slice none 0 0) (.slice none 0 0)) 34) := by rw [hN3, hget_hupd_ne ne12.symm]; exact g2_3'
  have fr3 : ∀ x, x ≠ j1 → hget N3 x = hget M3 x := fun x e => by rw [hN3, hget_hupd_ne e]
  have sN3 : Tk.Sub h N3 := fun x o e => by
    rw [fr3 x (fun c => by subst c; rw [h1] at e; cases e)]; exact t3 _ _ (sN2 _ _ e)
  simp only [walk, lists, acts, mem, plain, seqs, maps, cells, resL, resV, intBin, seval, wGate, wt3, on3, vcw3]
  have rd3 : hread N3 j1 0 6 = some (cGate d w1 w2 w3) := hread_of g1_3 rfl
  obtain ⟨Z3, hZ3⟩ : ∃ Z3, Z3 = hupd N3 j2 (blk (cGate d w1 w2 w3) 34) := ⟨_, rfl⟩
  have wtz : hwrite N3 j2 0 (cGate d w1 w2 w3) = some Z3 := by
    rw [hZ3]; exact hwrite_of g2_3 (by show 0 + 6 ≤ 6; omega)
  have hone : (cGate d w1 w2 w3).all vone = true := by simp only [cGate, List.all_cons, List.all_nil, on1, on2, on3]; rfl
  simp only [walk, lists, acts, mem, plain, seqs, maps, cells, resL, resV, intBin, seval, wGate, rd3, wtz, hone]
  have rdz : hread Z3 j2 0 6 = some (cGate d w1 w2 w3) := hread_of (by rw [hZ3]; exact hget_hupd_same g2_3) rfl
  try simp only [walk, lists, acts, mem, plain, seqs, maps, cells, resL, resV, intBin, seval, wGate, rdz]
  have frz : ∀ x, x ≠ j2 → hget Z3 x = hget N3 x := fun x e => by rw [hZ3, hget_hupd_ne e]
  have ne1 : ∀ x, S1 x → x ≠ j2 ∧ x ≠ j1 := fun x q => ⟨fun e => (by have := f1 x q; rw [e, g2_0] at this; cases this), fun e => (by have := f1 x q; rw [e, g1_0] at this; cases this)⟩
  have ne2 : ∀ x, S2 x → x ≠ j2 ∧ x ≠ j1 := fun x q => ⟨fun e => (by have := f2 x q; rw [e, g2_1] at this; cases this), fun e => (by have := f2 x q; rw [e, g1_1] at this; cases this)⟩
  have ne3 : ∀ x, S3 x → x ≠ j2 ∧ x ≠ j1 := fun x q => ⟨fun e => (by have := f3 x q; rw [e, g2_2] at this; cases this), fun e => (by have := f3 x q; rw [e, g1_2] at this; cases this)⟩
  have e1_1 : ∀ x, S1 x → hget N1 x = hget M1 x := fun x q => fr1 x (ne1 x q).2
  have e1_2 : ∀ x, S1 x → hget N2 x = hget M1 x := fun x q => by rw [fr2 x (ne1 x q).2, Sub.eq t2 (by rw [e1_1 x q]; exact u1.in WRecord.in q), e1_1 x q]
  have e1_3 : ∀ x, S1 x → hget N3 x = hget M1 x := fun x q => by rw [fr3 x (ne1 x q).2, Sub.eq t3 (by rw [e1_2 x q]; exact u1.in WRecord.in q), e1_2 x q]
  have e2_2 : ∀ x, S2 x → hget N2 x = hget M2 x := fun x q => fr2 x (ne2 x q).2
  have e2_3 : ∀ x, S2 x → hget N3 x = hget M2 x := fun x q => by rw [fr3 x (ne2 x q).2, Sub.eq t3 (by rw [e2_2 x q]; exact u2.in WLive.in q), e2_2 x q]
  have e3_3 : ∀ x, S3 x → hget N3 x = hget M3 x := fun x q => fr3 x (ne3 x q).2
  have d12 : ∀ x, S1 x → ¬ S2 x := fun x q q2 => by
    have := f2 x q2
    rw [e1_1 x q] at this
    exact u1.in WRecord.in q this
  have d13 : ∀ x, S1 x → ¬ S3 x := fun x q q2 => by
    have := f3 x q2
    rw [e1_2 x q] at this
    exact u1.in WRecord.in q this
  have d23 : ∀ x, S2 x → ¬ S3 x := fun x q q2 => by
    have := f3 x q2
    rw [e2_2 x q] at this
    exact u2.in WLive.in q this
  refine .of (k _ _ _ _ _ (fun x o e => by rw [frz x (fun c => by subst c; rw [n2.2] at e; cases e)]; exact sN3 x o e) ⟨S1, S2, S3, (u1.frame WRecord.fr fun x q => by rw [frz x (ne1 x q).1, e1_3 x q]), (u2.frame WLive.fr fun x q => by rw [frz x (ne2 x q).1, e2_3 x q]), (u3.frame fun x q => by rw [frz x (ne3 x q).1, e3_3 x q]), d12, d13, d23, fun _ => Iff.rfl⟩ ?_)
  rintro x (q | q | q)
  · exact sN0.none' (f1 x q)
  · exact sN1.none' (f2 x q)
  · exact sN2.none' (f3 x q)

end Go.Proofs.YtmfhlkkligcgdaaGreatDoor
end

/- Gates: fall and rise, by the program. -/
section
set_option linter.unusedVariables false
set_option linter.unusedSimpArgs false
set_option maxRecDepth 20000
attribute [local irreducible] Go.Tk.vc Go.Tk.vops Go.Tk.vdr Go.Tk.vop Go.Tk.vfl Go.Tk.HCalls
namespace Go.Proofs.YtmfhlkkligcgdaaGreatDoor
open Go Go.Tk

theorem box_st {M : H} {j o : Nat} {cs vs cs' : List Value} {e : TypeId} (g : hget M j = some (blk cs e)) (hl : o + vs.length ≤ cs.length) (hs : splice cs o vs = cs') :
    ∃ N, hwrite M j o vs = some N ∧ hget N j = some (blk cs' e) ∧ ∀ x, x ≠ j → hget N x = hget M x :=
  ⟨_, hwrite_of g hl, by rw [hs]; exact hget_hupd_same g, fun x e => hget_hupd_ne e⟩
/-- A gate whose scalars change, in the same blocks. -/
theorem WGate.data {M : H} {d e : DGate} {a b c : Value} {S : Nat → Prop} (w : WGate M d a b c S) (h1 : e.log = d.log) (h2 : e.lives = d.lives) (h3 : e.ways = d.ways) : WGate M e a b c S := by
  obtain ⟨S1, S2, S3, u1, u2, u3, x⟩ := w
  exact ⟨S1, S2, S3, by rw [h1]; exact u1, by rw [h2]; exact u2, by rw [h3]; exact u3, x⟩
set_option maxHeartbeats 1000000 in
theorem implGateRise_c {h : H} {g : DGate} {lg lv wy : Value} (gl : Gl h) (gm : MxL h) (r : sGate h g lg lv wy) (hb : bGate g) {R : Ending → H → Prop} (k : ∀ M' a b c S, Tk.Sub h M' → WGate M' (gateRise g) a b c S → (∀ x, S x → hget h x = none) → R (.returned (.agg (cGate (gateRise g) a b c).toArray)) M') :
    HCalls Tryz.prog 25 #[.agg (cGate g lg lv wy).toArray] h R := by
  refine HCalls_ir (args := [.agg (cGate g lg lv wy).toArray]) Tryz.func25 ir25 ?_
  have zg := zGate_eq
  simp only [walk, lists, acts, mem, plain, seqs, maps, cells, resL, resV, intBin, seval, wGate, zg]
  refine newB_intro (o := blk (cGate g lg lv wy) 34) fun j1 h1 => ?_
  simp only [walk, lists, acts, mem, plain, seqs, maps, cells, resL, resV, intBin, seval, wGate, zg]
  refine newB_intro (o := blk (cGate zGate (.slice none 0 0) (.slice none 0 0) (.slice none 0 0)) 34) fun j2 h2 => ?_
  have n2 := h2
  simp only [subs] at n2
  have ne12 : j1 ≠ j2 := fun e => n2.1 e.symm
  obtain ⟨A, hA⟩ : ∃ A, A = (j2, blk (cGate zGate (.slice none 0 0) (.slice none 0 0) (.slice none 0 0)) 34) :: (j1, blk (cGate g lg lv wy) 34) :: h := ⟨_, rfl⟩
  have sA : Tk.Sub h A := by rw [hA]; exact Sub.cons h2 (Sub.cons h1 (Sub.refl _))
  have g2 : hget A j2 = some (blk (cGate zGate (.slice none 0 0) (.slice none 0 0) (.slice none 0 0)) 34) := by rw [hA]; exact hget_same _ _ _
  have g1 : hget A j1 = some (blk (cGate g lg lv wy) 34) := by rw [hA, hget_next _ _ _ ne12]; exact hget_same _ _ _
  have ra : hread A j1 0 6 = some (cGate g lg lv wy) := hread_of g1 rfl
  rw [← hA]
  simp only [walk, lists, acts, mem, plain, seqs, maps, cells, resL, resV, intBin, seval, wGate, ra]
  refine implGateOk_c (gl.sub sA) (gm.sub sA) (r.sub sA) hb fun q hq => ?_
  unfold gateRise at k
  cases q with
  | false =>
    rw [if_neg (not_b hq rfl)] at k
    obtain ⟨N, wN, gN, fN⟩ := box_st (vs := cGate zGate (.slice none 0 0) (.slice none 0 0) (.slice none 0 0)) (o := 0) g2 (by show 0 + 6 ≤ 6; omega) rfl
    have one0 : (cGate zGate (.slice none 0 0) (.slice none 0 0) (.slice none 0 0)).all vone = true := rfl
    have rN : hread N j2 0 6 = some (cGate zGate (.slice none 0 0) (.slice none 0 0) (.slice none 0 0)) := hread_of gN rfl
    simp only [walk, lists, acts, mem, plain, seqs, maps, cells, resL, resV, intBin, seval, wGate, zg, one0, wN, rN]
    try simp only [walk, lists, acts, mem, plain, seqs, maps, cells, resL, resV, intBin, seval, wGate, rN]
    refine .of (k N _ _ _ (fun _ => False) (fun x o e => by rw [fN x (fun c => by subst c; rw [n2.2] at e; cases e)]; exact sA x o e) ⟨fun _ => False, fun _ => False, fun _ => False, dR.nil, dR.nil, dL.nil, fun _ q => q.elim, fun _ q => q.elim, fun _ q => q.elim, fun _ => by simp⟩ fun x q => q.elim)
  | true =>
    have hok := hq.1 rfl
    rw [if_pos hok] at k
    have hlife := hok.1
    simp only [walk, lists, acts, mem, plain, seqs, maps, cells, resL, resV, intBin, seval, wGate, ra]
    refine implGateClone_c (r.sub sA) hb fun M a b c S sM w fS => ?_
    have g1M := sM _ _ g1
    have g2M := sM _ _ g2
    have oneg := WGate.one (e := g) w
    have nS : ∀ x, S x → x ≠ j1 ∧ x ≠ j2 := fun x q => ⟨fun e => (by have := fS x q; rw [e, g1] at this; cases this), fun e => (by have := fS x q; rw [e, g2] at this; cases this)⟩
    obtain ⟨N1, w1, gN1, f1⟩ := box_st (vs := cGate g a b c) (cs' := cGate g a b c) (o := 0) g1M (by show 0 + 6 ≤ 6; omega) rfl
    have g2N1 : hget N1 j2 = some (blk (cGate zGate (.slice none 0 0) (.slice none 0 0) (.slice none 0 0)) 34) := by rw [f1 _ ne12.symm]; exact g2M
    have cl0 : hcel N1 j1 0 = some (.bool g.up) := hcel_of gN1 rfl
    have cl1 : hcel N1 j1 1 = some (.int .i64 g.life) := hcel_of gN1 rfl
    simp only [walk, lists, acts, mem, plain, seqs, maps, cells, resL, resV, intBin, seval, wGate, zg, oneg, w1, cl0, cl1]
    obtain ⟨u, hu⟩ : ∃ u, u = g.up := ⟨_, rfl⟩
    rw [← hu]
    cases u with
    | true =>
      rw [if_neg (fun c => by rw [← hu] at c; cases c.1)] at k
      obtain ⟨G, hG⟩ : ∃ G, G = g := ⟨_, rfl⟩
      obtain ⟨N4, hN4⟩ : ∃ N4, N4 = N1 := ⟨_, rfl⟩
      have f14 : ∀ x, x ≠ j1 → hget N4 x = hget M x := fun x e => by rw [hN4]; exact f1 x e
      have g2N4 : hget N4 j2 = some (blk (cGate zGate (.slice none 0 0) (.slice none 0 0) (.slice none 0 0)) 34) := by rw [hN4]; exact g2N1
      have gN4 : hget N4 j1 = some (blk (cGate G a b c) 34) := by rw [hN4, hG]; exact gN1
      obtain ⟨N5, w5, gN5, f5⟩ := box_st (vs := cGate G a b c) (o := 0) g2N4 (by show 0 + 6 ≤ 6; omega) rfl
      have r4 : hread N4 j1 0 6 = some (cGate G a b c) := hread_of gN4 rfl
      have r5 : hread N5 j2 0 6 = some (cGate G a b c) := hread_of gN5 rfl
      have one5 : (cGate G a b c).all vone = true := WGate.one (e := G) w
      have fz : ∀ x, x ≠ j1 → x ≠ j2 → hget N5 x = hget M x := fun x e1 e2 => by rw [f5 x e2, f14 x e1]
      have sZ : Tk.Sub h N5 := fun x o e => by rw [fz x (fun c => by subst c; rw [h1] at e; cases e) (fun c => by subst c; rw [n2.2] at e; cases e)]; exact sM _ _ (sA _ _ e)
      rw [hN4, hG] at r4
      rw [hN4] at w5
      rw [hG] at one5 w5 r5
      try simp only [walk, lists, acts, mem, plain, seqs, maps, cells, resL, resV, intBin, seval, wGate, zg]
      try simp only [walk, lists, acts, mem, plain, seqs, maps, cells, resL, resV, intBin, seval, wGate, zg, r4, one5, w5, r5]
      exact .of (k N5 a b c S sZ (w.frame fun x q => fz x (nS x q).1 (nS x q).2) fun x q => sA.none' (fS x q))
    | false =>
      simp only [walk, lists, acts, mem, plain, seqs, maps, cells, resL, resV, intBin, seval, wGate]
      refine ite_lt (fun c1 => ?_) fun c1 => ?_
      · rw [if_pos ⟨hu.symm, by omega⟩] at k
        obtain ⟨N2, w2, gN2, f2⟩ := box_st (vs := [.bool true]) (o := 0) (cs' := cGate { g with up := true } a b c) gN1 (by show 0 + 1 ≤ 6; omega) rfl
        obtain ⟨N4, w4, gN4, f4⟩ := box_st (vs := [.int .i64 (g.life + 1)]) (o := 1) (cs' := cGate { g with up := true, life := g.life + 1 } a b c) gN2 (by show 1 + 1 ≤ 6; omega) rfl
        have cl2 : hcel N2 j1 1 = some (.int .i64 g.life) := hcel_of gN2 rfl
        have hw : IntKind.i64.wrap (g.life + 1) = g.life + 1 := wrapI _ (by have := hlife.1; have := hlife.2; omega)
        have f14 : ∀ x, x ≠ j1 → hget N4 x = hget M x := fun x e => by rw [f4 x e, f2 x e, f1 x e]
        have g2N4 : hget N4 j2 = some (blk (cGate zGate (.slice none 0 0) (.slice none 0 0) (.slice none 0 0)) 34) := by rw [f14 _ ne12.symm]; exact g2M
        obtain ⟨G, hG⟩ : ∃ G, G = { g with up := true, life := g.life + 1 } := ⟨_, rfl⟩
        rw [← hG] at gN4
        obtain ⟨N5, w5, gN5, f5⟩ := box_st (vs := cGate G a b c) (o := 0) g2N4 (by show 0 + 6 ≤ 6; omega) rfl
        have r4 : hread N4 j1 0 6 = some (cGate G a b c) := hread_of gN4 rfl
        have r5 : hread N5 j2 0 6 = some (cGate G a b c) := hread_of gN5 rfl
        have one5 : (cGate G a b c).all vone = true := WGate.one (e := G) w
        have fz : ∀ x, x ≠ j1 → x ≠ j2 → hget N5 x = hget M x := fun x e1 e2 => by rw [f5 x e2, f14 x e1]
        have sZ : Tk.Sub h N5 := fun x o e => by rw [fz x (fun c => by subst c; rw [h1] at e; cases e) (fun c => by subst c; rw [n2.2] at e; cases e)]; exact sM _ _ (sA _ _ e)
        rw [hG] at r4 one5 w5 r5
        simp only [walk, lists, acts, mem, plain, seqs, maps, cells, resL, resV, intBin, seval, wGate, zg, w2, cl2, hw, w4]
        try simp only [walk, lists, acts, mem, plain, seqs, maps, cells, resL, resV, intBin, seval, wGate, zg, r4, one5, w5, r5]
        exact .of (k N5 a b c S sZ ((w.data rfl rfl rfl).frame fun x q => fz x (nS x q).1 (nS x q).2) fun x q => sA.none' (fS x q))
      · rw [if_neg (fun c => by omega)] at k
        obtain ⟨G, hG⟩ : ∃ G, G = g := ⟨_, rfl⟩
        obtain ⟨N4, hN4⟩ : ∃ N4, N4 = N1 := ⟨_, rfl⟩
        have f14 : ∀ x, x ≠ j1 → hget N4 x = hget M x := fun x e => by rw [hN4]; exact f1 x e
        have g2N4 : hget N4 j2 = some (blk (cGate zGate (.slice none 0 0) (.slice none 0 0) (.slice none 0 0)) 34) := by rw [hN4]; exact g2N1
        have gN4 : hget N4 j1 = some (blk (cGate G a b c) 34) := by rw [hN4, hG]; exact gN1
        obtain ⟨N5, w5, gN5, f5⟩ := box_st (vs := cGate G a b c) (o := 0) g2N4 (by show 0 + 6 ≤ 6; omega) rfl
        have r4 : hread N4 j1 0 6 = some (cGate G a b c) := hread_of gN4 rfl
        have r5 : hread N5 j2 0 6 = some (cGate G a b c) := hread_of gN5 rfl
        have one5 : (cGate G a b c).all vone = true := WGate.one (e := G) w
        have fz : ∀ x, x ≠ j1 → x ≠ j2 → hget N5 x = hget M x := fun x e1 e2 => by rw [f5 x e2, f14 x e1]
        have sZ : Tk.Sub h N5 := fun x o e => by rw [fz x (fun c => by subst c; rw [h1] at e; cases e) (fun c => by subst c; rw [n2.2] at e; cases e)]; exact sM _ _ (sA _ _ e)
        rw [hN4, hG] at r4
        rw [hN4] at w5
        rw [hG] at one5 w5 r5
        try simp only [walk, lists, acts, mem, plain, seqs, maps, cells, resL, resV, intBin, seval, wGate, zg]
        try simp only [walk, lists, acts, mem, plain, seqs, maps, cells, resL, resV, intBin, seval, wGate, zg, r4, one5, w5, r5]
        exact .of (k N5 a b c S sZ (w.frame fun x q => fz x (nS x q).1 (nS x q).2) fun x q => sA.none' (fS x q))
end Go.Proofs.YtmfhlkkligcgdaaGreatDoor
end

/- A copy put onto an empty row; one more onto a deep row. -/
section
set_option linter.unusedVariables false
set_option linter.unusedSimpArgs false
set_option maxRecDepth 20000
attribute [local irreducible] Go.Tk.vc Go.Tk.vops Go.Tk.vdr Go.Tk.vop Go.Tk.vfl Go.Tk.HCalls
namespace Go.Tk
open Go

/-- What is put onto an empty row of one's own: the memory keeps all that it had. -/
theorem app_new {P : Program} {t1 t2 ty e : TypeId} {d2 : TypeDesc} {i : TypeInfo} {z : Value} {b : Nat} {y : Value} {M : H} {m : Nat} {ds : List Value} {K : Value → H → Prop} {X : List PanicEntry → H → Prop}
    (h1 : P.underlying t1 = some (.slice e)) (h2 : P.underlying t2 = some d2) (hd : intD d2 = false) (hi : P.info? e = some i) (hz : i.zero = some z) (hs : (vcells z).length = i.size)
    (hg : hget M b = some (blk [] e)) (src : Src P M i.size y m ds) (ho : ds.all vone = true) (hb : m * i.bytes ≤ 140737488355328) (hn : m ≤ 140737488355328)
    (k0 : m = 0 → ds = [] → K (.slice (some ⟨b, 0, none⟩) 0 0) M) (k : ∀ v' g', ows e i.size v' m ds g' → Dj g' M → K v' (g' ++ M)) : appK P t1 t2 ty (.slice (some ⟨b, 0, none⟩) 0 0) y M K X := by
  obtain ⟨hdl, hlen, hfc⟩ := src
  have ow : ows e i.size (.slice (some ⟨b, 0, none⟩) 0 0) 0 [] [(b, blk [] e)] := ows.blk (j := b) (n := 0) (by simp)
  have new : ∀ c, m ≤ c → SH P (do pure (Value.slice (some (← newRow e (([] : List Value).toArray ++ ds.toArray ++ Builtin.zeroCells z.cells (c - m)))) m c)) (dP K) (pK X) M := by
    intro c hc
    simp only [newRow, SH_bind', SH_newObj, SH_pure]
    intro j hj
    rw [vcells_cells, show Builtin.zeroCells (vcells z).toArray (c - m) = (zrep (vcells z) (c - m)).toArray from by simpa [Builtin.zeroCells] using zeros_eq (vcells z) (c - m)]
    refine ⟨[(j, blk (ds ++ zrep (vcells z) (c - m)) e)] ++ M, ?_, k _ _ ⟨hdl, .inr ⟨j, c, zrep (vcells z) (c - m), rfl, hc, ?_, rfl⟩⟩ (.one hj)⟩
    · have : (([] : List Value).toArray ++ ds.toArray ++ (zrep (vcells z) (c - m)).toArray) = (ds ++ zrep (vcells z) (c - m)).toArray := by apply Array.ext'; simp
      rw [this]
      exact Sub.refl _
    · rw [List.length_append, hdl, zrep_len hs, ← Nat.add_mul]; congr 1; omega
  have hnl : ¬ (((0 + m : Nat) : Int) > IntKind.i64.max) := by show ¬ (((0 + m : Nat) : Int) > 9223372036854775807); omega
  unfold appK Builtin.append_
  simp only [List.getElem?_toArray, List.getElem?_cons_zero, List.getElem?_cons_succ, SH_bind', SH_underlying h1, SH_underlying h2, SH_sizeOf hi, SH_pure]
  cases d2 <;> simp only [intD, Bool.true_eq_false] at hd
  all_goals
  simp only [Bool.false_eq_true, if_false, hlen, Bool.not_false, if_true, SH_bind', SH_pure]
  all_goals
  simp only [SH_pure0]
  by_cases hc : 0 + m ≤ 0
  · rw [if_pos hc]
    have hm : m = 0 := by omega
    subst hm
    have hd0 : ds = [] := List.eq_nil_of_length_eq_zero (by simpa using hdl)
    subst hd0
    simp only [SH_bind', SH_pure]
    refine hfc ?_
    have hw : hwrite M b (0 * i.size) ([] : List Value) = some M := by
      simp only [hwrite, hg, Option.bind_some, wrObj_blk, Nat.zero_mul, List.length_nil, Nat.add_zero, Nat.le_refl, if_true, Option.map_some]
      rw [show splice ([] : List Value) 0 [] = [] from rfl, hupd_self _ _ _ hg]
    simp only [add_none, Nat.zero_add]
    rw [SH_storeCells rfl hw]
    exact ⟨M, Sub.refl _, k0 rfl rfl⟩
  · rw [if_neg hc]
    have h48 : ¬ (Builtin.nextslicecap (0 + m) 0 * i.bytes > 2 ^ 48) := by
      have := growslice_fits (need := 0 + m) (old := 0) (bytes := i.bytes) (by omega) (by simpa using hb)
      rw [show (2 : Nat) ^ 48 = 281474976710656 from rfl]; omega
    simp only [SH_bind', SH_typeInfo hi, hnl, false_and, if_false, h48, SH_pure]
    refine SH_cap fun c hc' => ?_
    refine SH_room ?_
    refine firstOwn ow (fun x o e => ?_) ?_
    · rw [hget_cons, hget_nil] at e
      split at e
      · rename_i q; rw [q, hg]; exact e
      · cases e
    refine hfc ?_
    simp only [SH_zeroValue hi hz]
    have := new c (by omega)
    simp only [SH_bind', SH_pure, Nat.zero_add] at this ⊢
    exact this
theorem app_new_d {α : Type} {enc : α → List Value} {sz bytes : Nat} (ho : ∀ l, (fl enc l).all vone = true) {P : Program} {t ty e : TypeId} {b : Nat} {y : Value} {M : H} {l : List α} {K : Value → H → Prop} {X : List PanicEntry → H → Prop}
    (h1 : P.underlying t = some (.slice e)) (hi : InfoIs P e sz bytes) (hg : hget M b = some (blk [] e)) (r : rLs M enc sz y l) (hb : l.length * bytes ≤ 140737488355328) (hn : l.length ≤ 140737488355328)
    (k : ∀ M' v' S, Sub M M' → dL e enc sz M' v' l S → (∀ x, S x → x = b ∨ hget M x = none) → K v' M') : appK P t t ty (.slice (some ⟨b, 0, none⟩) 0 0) y M K X := by
  obtain ⟨i, z, hi, hz, rfl, rfl, hl⟩ := hi
  refine app_new h1 h1 rfl hi hz hl hg (Src_slice r) (ho _) hb hn (fun h0 _ => ?_) fun v' g' o' d' => ?_
  · have hl0 : l = [] := List.eq_nil_of_length_eq_zero h0
    subst hl0
    refine k M _ (fun x => x = b) (Sub.refl _) ⟨[(b, blk [] e)], by unfold oLs; rw [show fl enc ([] : List α) = [] by simp [fl]]; exact ows.blk (j := b) (n := 0) (by simp), fun x o q => ?_, fun x => ?_⟩ fun x q => .inl q
    · rw [hget_cons, hget_nil] at q
      split at q
      · rename_i c; rw [c, hg]; exact q
      · cases q
    · rw [hget_cons, hget_nil]; split <;> simp_all
  · exact k (g' ++ M) v' _ (Sub.right d') (dL.of (h := M) o' (Sub.left _ _)) fun x q => .inr (d' x q)

/-- One more onto a deep row. -/
theorem app_dR {α : Type} {W : H → List Value → α → (Nat → Prop) → Prop} {sz bytes : Nat} (hW : dFr W) (hin : ∀ M cs a S i, W M cs a S → S i → hget M i ≠ none) (hWo : ∀ {M cs a S}, W M cs a S → cs.all vone = true) (hWl : ∀ {M cs a S}, W M cs a S → cs.length = sz)
    {P : Program} {t ty e : TypeId} {v y : Value} {M : H} {l : List α} {d : α} {cs : List Value} {S T : Nat → Prop} {K : Value → H → Prop} {X : List PanicEntry → H → Prop}
    (h1 : P.underlying t = some (.slice e)) (hi : InfoIs P e sz bytes) (D : dR e W sz M v l S) (r : rdS M sz y 1 cs) (w : W M cs d T) (hd : ∀ x, T x → ¬ S x) (hb : (l.length + 1) * bytes ≤ 140737488355328) (hn : l.length + 1 ≤ 140737488355328)
    (k : ∀ M' v' S', dR e W sz M' v' (l ++ [d]) S' → (∀ x, hget M x ≠ none → ¬ S x → hget M' x = hget M x) → (∀ x, S' x → S x ∨ T x ∨ hget M x = none) → K v' M') : appK P t t ty v y M K X := by
  obtain ⟨i, z, hi, hz, rfl, rfl, hl⟩ := hi
  have hcl := hWl w
  have hco := hWo w
  rcases D with ⟨rfl, rfl, hS⟩ | ⟨b, cap, css, sp, Ss, rfl, h2, h3, D⟩
  · refine app_own (g := []) (h := M) h1 h1 rfl hi hz hl (Sub.refl _) (Dj.nil _) (ows.nil _ _) (Src_slice r) hco (by simpa using hb) (by simp) fun v' g' o' d' => ?_
    obtain ⟨ho1, ⟨_, h0, _⟩ | ⟨j, cap', sp', rfl, hc, hs, rfl⟩⟩ := o'
    · omega
    · rw [Nat.zero_add, List.nil_append] at *
      have hj : hget M j = none := d' j (by rw [hget_same]; simp)
      refine k _ _ (fun x => x = j ∨ T x) (.inr ⟨j, cap', [cs], sp', fun _ => T, rfl, hc, by simpa using hs, ⟨by simp [hget_same], rfl, fun c hm => by rw [List.mem_singleton.1 hm]; exact hcl, fun n a1 a2 => ?_, fun n _ q => hin _ _ _ _ _ w q hj, fun n m a1 a2 a3 => by simp at a1 a2; omega, fun x => ?_⟩⟩) (fun x q _ => Sub.eq (Sub.right d') q) fun x q => ?_
      · have : n = 0 := by simpa using a2
        subst this
        exact hW _ _ _ _ _ (fun x q => Sub.eq (Sub.right d') (hin _ _ _ _ _ w q)) w
      · simp
      · rcases q with q | q
        · exact .inr (.inr (q ▸ hj))
        · exact .inr (.inl q)
  · have hb0 : hget M b = some (blk (css.flatten ++ sp) e) := D.get
    have hfl := flat_len D.sz
    have hsub : Sub [(b, blk (css.flatten ++ sp) e)] M := fun x o q => by
      rw [hget_cons, hget_nil] at q
      split at q
      · rename_i c; rw [c, hb0]; exact q
      · cases q
    refine app_own (g := [(b, blk (css.flatten ++ sp) e)]) (h := hdel M [(b, blk (css.flatten ++ sp) e)]) (cs := css.flatten) (n := l.length) h1 h1 rfl hi hz hl (Sub_hdel hsub) (Dj_hdel _ _) ⟨by rw [hfl, D.len], .inr ⟨b, cap, sp, rfl, h2, h3, rfl⟩⟩ (Src_slice r) hco hb hn fun v' g' o' d' => ?_
    have hh : ∀ x, x ≠ b → hget (hdel M [(b, blk (css.flatten ++ sp) e)]) x = hget M x := fun x q => by
      rw [hget_hdel, if_pos]; simp [hget_cons, hget_nil, q]
    have hSb : S b := (D.dom b).2 (.inl rfl)
    obtain ⟨ho1, ⟨_, h0, _⟩ | ⟨j, cap', sp', rfl, hc, hs, rfl⟩⟩ := o'
    · omega
    · have hj : hget (hdel M [(b, blk (css.flatten ++ sp) e)]) j = none := d' j (by rw [hget_same]; simp)
      have hj2 : j = b ∨ hget M j = none := by
        by_cases c : j = b
        · exact .inl c
        · right; rw [← hh j c]; exact hj
      have hM : ∀ x, x ≠ b → hget M x ≠ none → hget ([(j, blk (css.flatten ++ cs ++ sp') e)] ++ hdel M [(b, blk (css.flatten ++ sp) e)]) x = hget M x := fun x q1 q2 => by
        rw [Sub.eq (Sub.right d') (by rw [hh x q1]; exact q2), hh x q1]
      have hinS : ∀ n, n < l.length → ∀ x, Ss n x → x ≠ b ∧ x ≠ j ∧ hget M x ≠ none := fun n hn2 x q => by
        have q2 := hin _ _ _ _ _ (D.el n (by rw [D.len]; exact hn2) hn2) q
        refine ⟨fun c => D.nb n hn2 (c ▸ q), fun c => ?_, q2⟩
        rcases hj2 with c2 | c2
        · exact D.nb n hn2 ((c.trans c2) ▸ q)
        · exact q2 (c ▸ c2)
      have hinT : ∀ x, T x → x ≠ b ∧ x ≠ j ∧ hget M x ≠ none := fun x q => by
        have q2 := hin _ _ _ _ _ w q
        refine ⟨fun c => hd x q (c ▸ hSb), fun c => ?_, q2⟩
        rcases hj2 with c2 | c2
        · exact hd x q ((c.trans c2) ▸ hSb)
        · exact q2 (c ▸ c2)
      refine k _ _ (fun x => x = j ∨ ∃ n, n < (l ++ [d]).length ∧ (if n = l.length then T else Ss n) x) (.inr ⟨j, cap', css ++ [cs], sp', fun n => if n = l.length then T else Ss n, by simp, by simpa using hc, by simpa using hs,
        ⟨by simp [hget_same], by simp [D.len], fun c hm => ?_, fun n a1 a2 => ?_, fun n a1 q => ?_, fun n m a1 a2 a3 x q1 q2 => ?_, fun x => Iff.rfl⟩⟩) (fun x q1 q2 => hM x (fun c => q2 (c ▸ hSb)) q1) fun x q => ?_
      · rcases List.mem_append.1 hm with hm | hm
        · exact D.sz c hm
        · rw [List.mem_singleton.1 hm]; exact hcl
      · by_cases c : n = l.length
        · subst c
          rw [if_pos rfl, List.getElem_append_right (by rw [D.len]; exact Nat.le_refl _), List.getElem_append_right (Nat.le_refl _)]
          simp only [D.len, Nat.sub_self, List.getElem_cons_zero]
          exact hW _ _ _ _ _ (fun x q => hM x (hinT x q).1 (hinT x q).2.2) w
        · have hn2 : n < l.length := by rw [List.length_append, List.length_singleton] at a2; omega
          rw [if_neg c, List.getElem_append_left (by rw [D.len]; exact hn2), List.getElem_append_left hn2]
          exact hW _ _ _ _ _ (fun x q => hM x (hinS n hn2 x q).1 (hinS n hn2 x q).2.2) (D.el n (by rw [D.len]; exact hn2) hn2)
      · by_cases c : n = l.length
        · rw [if_pos c] at q; exact (hinT j q).2.1 rfl
        · rw [if_neg c] at q
          exact (hinS n (by rw [List.length_append, List.length_singleton] at a1; omega) j q).2.1 rfl
      · rw [List.length_append, List.length_singleton] at a1 a2
        by_cases c : n = l.length
        · rw [if_pos c] at q1
          rw [if_neg (fun c2 => a3 (c.trans c2.symm))] at q2
          exact hd x q1 ((D.dom x).2 (.inr ⟨m, by omega, q2⟩))
        · rw [if_neg c] at q1
          by_cases c2 : m = l.length
          · rw [if_pos c2] at q2
            exact hd x q2 ((D.dom x).2 (.inr ⟨n, by omega, q1⟩))
          · rw [if_neg c2] at q2
            exact D.dj n m (by omega) (by omega) a3 x q1 q2
      · rcases q with q | ⟨n, a1, q⟩
        · subst q
          rcases hj2 with c | c
          · exact .inl (c ▸ hSb)
          · exact .inr (.inr c)
        · by_cases c : n = l.length
          · rw [if_pos c] at q; exact .inr (.inl q)
          · rw [if_neg c] at q
            exact .inl ((D.dom x).2 (.inr ⟨n, by rw [List.length_append, List.length_singleton] at a1; omega, q⟩))

section
variable {P : Program} {rest : H} {ρ : (Nat → Value) → Operand → Value} {D : H → (Nat → Value) → Prop}
/-- An empty row of one's own. -/
def aE (rest : H) (e : TypeId) : H → Value → Prop := fun g v => ∃ b, v = .slice (some ⟨b, 0, none⟩) 0 0 ∧ hget g b = some (blk [] e) ∧ hget rest b = none
theorem aMono_E (rest : H) (e : TypeId) : aMono (aE rest e) := fun _ _ _ s ⟨b, x, y, z⟩ => ⟨b, x, s _ _ y, z⟩
theorem aF_row0 {e : TypeId} {z : List Value} : stA P mG (aE rest e) rest ρ D (.bslice e z 0 []) := fun m f h g hm hs hd => by
  show vop _ _ _ _ _ _
  unfold vop
  simp only [List.map_nil, fillL]
  intro j hj
  have hjg : hget g j = none := Sub.none' hm hj
  exact ⟨(j, blk [] e) :: g, Sub.cons2 hm, Sub.cons hjg (Sub.refl _), j, rfl, hget_same _ _ _, hs.none' hjg⟩
theorem aF_app {α : Type} {enc : α → List Value} {sz bytes : Nat} (ho : ∀ l, (fl enc l).all vone = true) {t ty e : TypeId} {x y : Operand} {l : List α} (h1 : P.underlying t = some (.slice e)) (hi : InfoIs P e sz bytes) (hb : l.length * bytes ≤ 140737488355328) (hn : l.length ≤ 140737488355328)
    (k : ∀ f g, Sub rest g → D g f → aE rest e g (ρ f x) ∧ rLs g enc sz (ρ f y) l) : stA P mG (aS rest e enc sz l) rest ρ D (.app t t ty x y) := fun m f h g hm hs hd => by
  obtain ⟨⟨b, e1, hg, hr⟩, r⟩ := k f g hs hd
  obtain ⟨i, z, hi, hz, rfl, rfl, hl⟩ := hi
  show vop _ _ _ _ _ _
  rw [vop_app, e1]
  refine app_new h1 h1 rfl hi hz hl (hm _ _ hg) (Src_slice (r.sub hm)) (ho _) hb hn (fun h0 _ => ?_) fun v' G o' d' => ?_
  · have hl0 : l = [] := List.eq_nil_of_length_eq_zero h0
    subst hl0
    refine ⟨g, hm, Sub.refl _, [(b, blk [] e)], by unfold oLs; rw [show fl enc ([] : List α) = [] by simp [fl]]; exact ows.blk (j := b) (n := 0) (by simp), fun x o q => ?_, Dj.one hr⟩
    rw [hget_cons, hget_nil] at q
    split at q
    · rename_i c; rw [c, hg]; exact q
    · cases q
  · exact ⟨G ++ g, Sub.both (Sub.left _ _) (hm.trans (Sub.right d')), Sub.right (d'.sub (.refl _) hm), G, o', Sub.left _ _, d'.sub (.refl _) (hs.trans hm)⟩
end
end Go.Tk
end
