/- Parts of the proof, put together: Q0, Q1, Q2, Q4, Q3, Q5, Q6, Q7. -/
import Derived.Test.YtmfhlkkligcgdaaGreatDoorK1214
import Derived.Test.YtmfhlkkligcgdaaGreatDoorK125
import Derived.Test.YtmfhlkkligcgdaaGreatDoorK126
import Derived.Test.YtmfhlkkligcgdaaGreatDoorK1213
/- What the laws compare and mark: rows of pairs. -/
section
set_option linter.unusedVariables false
set_option linter.unusedSimpArgs false
set_option maxRecDepth 20000
attribute [local irreducible] Go.Tk.vc Go.Tk.vops Go.Tk.vdr Go.Tk.vop Go.Tk.vfl Go.Tk.HCalls
namespace Go.Proofs.YtmfhlkkligcgdaaGreatDoor
open Go Go.Tk

theorem eqPair_c {h : H} {x y : Int × Int} {R : Ending → H → Prop} (k : R (.returned (.bool (decide (x = y)))) h) : HCalls Tryz.prog 131 #[.agg (eP x).toArray, .agg (eP y).toArray] h R := by
  refine HCalls_ir (args := [.agg (eP x).toArray, .agg (eP y).toArray]) Tryz.func131 ir131 ?_
  simp only [walk, lists, acts, mem, plain, seqs, maps, cells, resL, resV, intBin, seval, wPair]
  refine newB_intro fun j1 h1 => ?_
  simp only [walk, lists, acts, mem, plain, seqs, maps, cells, resL, resV, intBin, seval, wPair]
  refine newB_intro fun j2 h2 => ?_
  have n := fresh h2
  simp only [walk, lists, acts, mem, plain, seqs, maps, cells, resL, resV, intBin, seval, wPair, n.1, n.2.1]
  refine ite_ne (fun d => ⟨h, Sub.cons h2 (Sub.cons h1 (Sub.refl h)), kF k (fun e => d (by rw [e]))⟩) fun d0 => ?_
  refine ite_ne (fun d => ⟨h, Sub.cons h2 (Sub.cons h1 (Sub.refl h)), kF k (fun e => d (by rw [e]))⟩) fun d1 => ?_
  exact ⟨h, Sub.cons h2 (Sub.cons h1 (Sub.refl h)), kT k (Prod.ext d0 d1)⟩

theorem eqPairS_c {h : H} {a b : Value} {la lb : List (Int × Int)} (ra : rPairs h a la) (rb : rPairs h b lb) (ha : la.length ≤ 1099511627776) {R : Ending → H → Prop} (k : R (.returned (.bool (decide (la = lb)))) h) :
    HCalls Tryz.prog 108 #[a, b] h R := by
  refine HCalls_ir (args := [a, b]) Tryz.func108 ir108 ?_
  simp only [walk, lists, acts, mem, plain, seqs, maps, cells, resL, resV, intBin, seval, ra.len, rb.len]
  split
  · rename_i c
    exact .of (kF k fun e => c (by rw [e]))
  · rename_i c
    have hl : la.length = lb.length := by omega
    refine vc_loop [5] (fun n vs h' => ∃ i : Nat, vs = [.int .i64 i] ∧ h' = h ∧ i ≤ la.length ∧ n = la.length - i ∧ la.take i = lb.take i) la.length rfl ⟨0, rfl, rfl, by omega, by omega, by simp⟩ ?_
    rintro n f h' ⟨i, hv, rfl, hi, rfl, ht⟩
    simp only [List.map_cons, List.map_nil, List.cons.injEq, and_true] at hv
    simp only [walk, lists, acts, mem, plain, seqs, maps, cells, resL, resV, intBin, seval, wr, hv, ra.len, rb.len]
    split
    · rename_i c1
      refine vc_draw h' (Sub.refl _) ?_
      simp only [walk, lists, acts, mem, plain, seqs, maps, cells, resL, resV, intBin, seval]
      refine idx_leaf (i := i) eP_len ra rfl (by omega) fun b1 o1 e1 => ?_
      simp only [walk, lists, acts, mem, plain, seqs, maps, cells, resL, resV, intBin, seval, e1]
      refine idx_leaf (i := i) eP_len rb rfl (by omega) fun b2 o2 e2 => ?_
      simp only [walk, lists, acts, mem, plain, seqs, maps, cells, resL, resV, intBin, seval, e2]
      refine eqPair_c ?_
      simp only [walk, lists, acts, mem, plain, seqs, maps, cells, resL, resV, intBin, seval]
      refine ite_ne (fun d => .of (kF k (ne_at _ _ d))) fun d => ?_
      simp (disch := omega) only [wrapI]
      exact ⟨la.length - (i + 1), by omega, h', .refl _, i + 1, by simp, rfl, by omega, rfl, take_more _ _ ht d⟩
    · rename_i c1
      exact .of (kT k (take_all (by omega) hl ht))

theorem markPairS_c {e : TypeId} {g h0 : H} {v : Value} {l : List (Int × Int)} {k : Int} (o : oLs e eP 2 v l g) (dj : Dj g h0) (hl : l.length ≤ 1099511627776) (hk : 0 ≤ k ∧ k ≤ 1099511627776000) {R : Ending → H → Prop}
    (kr : ∀ g', oLs e eP 2 v (mkp k l.length) g' → Dj g' h0 → R (.returned (.int .i64 (k + 2 * l.length))) (g' ++ h0)) :
    HCalls Tryz.prog 72 #[v, .int .i64 k] (g ++ h0) R := by
  refine HCalls_ir (args := [v, .int .i64 k]) Tryz.func72 ir72 ?_
  simp only [walk, lists, acts, mem, plain, seqs, maps, cells, resL, resV, intBin, seval]
  refine vc_loop [5, 1] (fun n vs h' => ∃ (i : Nat) (g' : H), vs = [.int .i64 i, .int .i64 (k + 2 * i)] ∧ h' = g' ++ h0 ∧ Dj g' h0 ∧ oLs e eP 2 v (mkp k i ++ l.drop i) g' ∧ i ≤ l.length ∧ n = l.length - i) l.length rfl ⟨0, g, by simp, rfl, dj, by simpa [mkp] using o, by omega, rfl⟩ ?_
  rintro n f h' ⟨i, g', hv, rfl, dj', o', hi, rfl⟩
  simp only [List.map_cons, List.map_nil, List.cons.injEq, and_true] at hv
  have hll : (mkp k i ++ l.drop i).length = l.length := by simp [mkp_len]; omega
  have hlen : ∀ {f : Value → Prop}, lenSK v f = f (.int .i64 l.length) := fun {f} => by rw [← hll]; exact o'.rd.len
  simp only [walk, lists, acts, mem, plain, seqs, maps, cells, resL, resV, intBin, seval, wr, hv.1, hv.2, hlen]
  split
  · rename_i c1
    refine own_idx (i := i) eP_len o' rfl (by omega) fun b cap sp hv' hc hs hg => ?_
    subst hg
    simp only [walk, lists, acts, mem, plain, seqs, maps, cells, resL, resV, intBin, seval]
    have hb : i < (mkp k i ++ l.drop i).length := by omega
    refine st_own (i := i) (a' := (k + 2 * i, ((mkp k i ++ l.drop i)[i]).2)) (off := 0) eP_len (by omega) hb rfl (by omega) rfl ?_
    simp only [walk, lists, acts, mem, plain, seqs, maps, cells, resL, resV, intBin, seval]
    have o2 := own_set (e := e) (i := i) (a' := (k + 2 * i, ((mkp k i ++ l.drop i)[i]).2)) eP_len hv' hc hs
    refine own_idx (i := i) eP_len o2 rfl (by rw [List.length_set]; omega) fun b2 cap2 sp2 hv2 hc2 hs2 hg2 => ?_
    simp only [List.singleton_append, List.cons.injEq, Prod.mk.injEq, and_true] at hg2
    obtain ⟨rfl, hg2⟩ := hg2
    rw [hg2]
    simp only [walk, lists, acts, mem, plain, seqs, maps, cells, resL, resV, intBin, seval]
    simp (disch := omega) only [wrapI]
    refine st_own (i := i) (a' := (k + 2 * i, k + 2 * i + 1)) (off := 1) eP_len (by omega) (by rw [List.length_set]; omega) rfl (by omega) (by simp [eP, splice, vcells]) ?_
    simp only [walk, lists, acts, mem, plain, seqs, maps, cells, resL, resV, intBin, seval]
    simp (disch := omega) only [wrapI]
    have o3 := own_set (e := e) (i := i) (a' := (k + 2 * i, k + 2 * i + 1)) eP_len hv2 hc2 hs2
    refine ⟨l.length - (i + 1), by omega, _, .refl _, i + 1, _, ?_, rfl, Dj.one dj'.one', ?_, by omega, rfl⟩
    · simp; omega
    · rw [← mkp_set k l i (by omega)]; rw [List.set_set] at o3; rw [List.set_set]; exact o3
  · rename_i c1
    have hi' : i = l.length := by omega
    subst hi'
    simp only [List.drop_length, List.append_nil] at o'
    exact .of (kr g' o' dj')

theorem heldPairS_c {h : H} {v : Value} {l : List (Int × Int)} {k : Int} (r : rPairs h v l) (hm : l = mkp k l.length) (hl : l.length ≤ 1099511627776) (hk : 0 ≤ k ∧ k ≤ 1099511627776000) {R : Ending → H → Prop}
    (kr : R (.returned (.int .i64 (k + 2 * l.length))) h) : HCalls Tryz.prog 83 #[v, .int .i64 k] h R := by
  refine HCalls_ir (args := [v, .int .i64 k]) Tryz.func83 ir83 ?_
  simp only [walk, lists, acts, mem, plain, seqs, maps, cells, resL, resV, intBin, seval]
  refine vc_loop [5, 1] (fun n vs h' => ∃ (i : Nat), vs = [.int .i64 i, .int .i64 (k + 2 * i)] ∧ h' = h ∧ i ≤ l.length ∧ n = l.length - i) l.length rfl ⟨0, by simp, rfl, by omega, rfl⟩ ?_
  rintro n f h' ⟨i, hv, rfl, hi, rfl⟩
  simp only [List.map_cons, List.map_nil, List.cons.injEq, and_true] at hv
  simp only [walk, lists, acts, mem, plain, seqs, maps, cells, resL, resV, intBin, seval, wr, hv.1, hv.2, r.len]
  split
  · rename_i c1
    have hx : l[i]'(by omega) = (k + 2 * i, k + 2 * i + 1) := by
      have : ∀ (m : List (Int × Int)) (hi : i < m.length), m = mkp k l.length → m[i] = (k + 2 * i, k + 2 * i + 1) := by rintro m hi rfl; exact mkp_at _ _ _ _
      exact this l _ hm
    refine idx_leaf (i := i) eP_len r rfl (by omega) fun b1 o1 e1 => ?_
    rw [hx] at e1
    have e10 := hread_c e1 0 rfl
    have e11 := hread_c e1 1 rfl
    rw [Nat.add_zero] at e10
    simp only [walk, lists, acts, mem, plain, seqs, maps, cells, resL, resV, intBin, seval, e10]
    refine idx_leaf (i := i) eP_len r rfl (by omega) fun b2 o2 e2 => ?_
    rw [hx] at e2
    have e21 := hread_c e2 1 rfl
    simp (disch := omega) only [walk, lists, acts, mem, plain, seqs, maps, cells, resL, resV, intBin, seval, e21, wrapI]
    exact ⟨l.length - (i + 1), by omega, h', .refl _, i + 1, by simp; omega, rfl, by omega, rfl⟩
  · rename_i c1
    have hi' : i = l.length := by omega
    subst hi'
    exact .of kr

theorem szIntS_c {h : H} {v : Value} {l : List Int} {left : Int} (r : rIn h eI 1 v l) (hl : 0 ≤ left ∧ left ≤ 1048576) (hb : l.length ≤ 9223372036854775807) {R : Ending → H → Prop} (k : ∀ x, (0 ≤ x → x = left - l.length) → x ≤ 1048576 → R (.returned (.int .i64 x)) h) : HCalls Tryz.prog 86 #[v, .int .i64 left] h R := by
  refine HCalls_ir (args := [v, .int .i64 left]) Tryz.func86 ir86 ?_
  simp (disch := omega) only [walk, lists, acts, mem, plain, seqs, maps, cells, resL, resV, intBin, seval, r.len, wrapI]
  refine ite_lt (fun c => .of (k _ (fun q => by omega) (by omega))) fun c => .of (k _ (fun _ => rfl) (by omega))
theorem szPairS_c {h : H} {v : Value} {l : List (Int × Int)} {left : Int} (r : rIn h eP 2 v l) (hl : 0 ≤ left ∧ left ≤ 1048576) (hb : l.length ≤ 9223372036854775807) {R : Ending → H → Prop} (k : ∀ x, (0 ≤ x → x = left - l.length) → x ≤ 1048576 → R (.returned (.int .i64 x)) h) : HCalls Tryz.prog 87 #[v, .int .i64 left] h R := by
  refine HCalls_ir (args := [v, .int .i64 left]) Tryz.func87 ir87 ?_
  simp (disch := omega) only [walk, lists, acts, mem, plain, seqs, maps, cells, resL, resV, intBin, seval, r.len, wrapI]
  refine ite_lt (fun c => .of (k _ (fun q => by omega) (by omega))) fun c => .of (k _ (fun _ => rfl) (by omega))

theorem toPair_c {h : H} {p : Int × Int} {R : Ending → H → Prop} (k : R (.returned (.agg (eP p).toArray)) h) : HCalls Tryz.prog 121 #[.agg (eP p).toArray] h R := by
  refine HCalls_ir (args := [.agg (eP p).toArray]) Tryz.func121 ir121 ?_
  have zp : [Value.int .i64 0, .int .i64 0] = eP (0, 0) := rfl
  simp only [walk, lists, acts, mem, plain, seqs, maps, cells, resL, resV, intBin, seval, zp, wPair]
  refine newB_intro fun j1 h1 => ?_
  simp only [walk, lists, acts, mem, plain, seqs, maps, cells, resL, resV, intBin, seval, zp, wPair]
  refine newB_intro fun j2 h2 => ?_
  simp only [walk, lists, acts, mem, plain, seqs, maps, cells, resL, resV, intBin, seval, zp, wPair]
  refine newB_intro fun j3 h3 => ?_
  have n2 := fresh h2
  have n3 := fresh h3
  simp only [subs] at h2 h3
  have e31 : ¬ j1 = j3 := fun e => h3.2.1 e.symm
  have e32 : ¬ j2 = j3 := fun e => h3.1 e.symm
  have e21 : ¬ j1 = j2 := fun e => h2.1 e.symm
  simp only [walk, lists, acts, mem, plain, seqs, maps, cells, resL, resV, intBin, seval, zp, wPair, e31, e32, e21, h3, h2]
  refine ⟨h, ?_, k⟩
  (repeat' first | exact Sub.refl _ | exact Sub.nil _ | assumption | refine Sub.both ?_ ?_ | refine Sub.cons_of (by simp only [subs, h1, h2, h3, e31, e32, e21]) ?_ | exact Sub.left _ _ | refine Sub.app (by simp only [subs, h1, h2, h3, e31, e32, e21]) ?_ | refine Sub.cons (by simp only [subs, h1, h2, h3, e31, e32, e21]) ?_)

theorem toIntS_c {h : H} {a : Value} {l : List Int} (r : rIn h eI 1 a l) (hl : l.length ≤ 1048576) {R : Ending → H → Prop} (k : ∀ v g, oLs 3 eI 1 v l g → Dj g h → R (.returned v) (g ++ h)) : HCalls Tryz.prog 96 #[a] h R := by
  refine HCalls_ir (args := [a]) Tryz.func96 ir96 ?_
  simp only [walk, lists, acts, mem, plain, seqs, maps, cells, resL, resV, intBin, seval, r.len, str]
  refine ⟨⟨by omega, by omega, by omega, by omega⟩, newB_intro fun j hj => ?_⟩
  rw [zI]
  simp only [walk, lists, acts, mem, plain, seqs, maps, cells, resL, resV, intBin, seval]
  have hr : (List.replicate l.length (0 : Int)).length = l.length := by simp
  have o0 : oLs 3 eI 1 (.slice (some ⟨j, 0, none⟩) l.length l.length) (List.replicate l.length (0 : Int)) [(j, blk (fl eI (List.replicate l.length (0 : Int))) 3)] := by
    have := oLs_new (e := 3) eI_len (j := j) (l := List.replicate l.length (0 : Int))
    rw [hr] at this; exact this
  obtain ⟨V, hV⟩ : ∃ V, V = Value.slice (some ⟨j, 0, none⟩) l.length l.length := ⟨_, rfl⟩
  rw [← hV] at o0 ⊢
  refine vc_loop [4] (fun n vs h' => ∃ (i : Nat) (g' : H), vs = [.int .i64 i] ∧ h' = g' ++ h ∧ Dj g' h ∧ oLs 3 eI 1 V (l.take i ++ (List.replicate l.length (0 : Int)).drop i) g' ∧ i ≤ l.length ∧ n = l.length - i) l.length rfl
    ⟨0, _, rfl, rfl, Dj.one hj, by simpa using o0, by omega, rfl⟩ ?_
  rintro n f h' ⟨i, g', hv, rfl, dj', o', hi, rfl⟩
  simp only [List.map_cons, List.map_nil, List.cons.injEq, and_true] at hv
  simp only [walk, lists, acts, mem, plain, seqs, maps, cells, resL, resV, intBin, seval, wr, hv, r.len]
  refine ite_lt (fun c1 => ?_) fun c1 => ?_
  · have hi2 : i < l.length := by omega
    refine idx_in (i := i) eI_len (r.sub (Sub.right dj')) rfl hi2 fun b1 o1 e1 => ?_
    have f1 := hread_1 e1
    simp only [walk, lists, acts, mem, plain, seqs, maps, cells, resL, resV, intBin, seval, f1]
    refine own_idx (i := i) eI_len o' rfl (by simp; omega) fun b cap sp hv' hc hs hg => ?_
    subst hg
    simp only [walk, lists, acts, mem, plain, seqs, maps, cells, resL, resV, intBin, seval]
    refine st_own (i := i) (a' := l[i]'hi2) (off := 0) eI_len (by omega) (by simp; omega) rfl (by omega) rfl ?_
    simp only [walk, lists, acts, mem, plain, seqs, maps, cells, resL, resV, intBin, seval]
    simp (disch := omega) only [wrapI]
    refine ⟨l.length - (i + 1), by omega, _, .refl _, i + 1, _, by simp, rfl, Dj.one dj'.one', ?_, by omega, rfl⟩
    rw [← take_set (by omega) hr]
    exact own_set eI_len hv' hc hs
  · have hi' : i = l.length := by omega
    subst hi'
    have o2 : oLs 3 eI 1 V l g' := by simpa using o'
    exact .of (k _ g' o2 dj')

theorem toPairS_c {h : H} {a : Value} {l : List (Int × Int)} (r : rIn h eP 2 a l) (hl : l.length ≤ 1048576) {R : Ending → H → Prop} (k : ∀ v g, oLs 136 eP 2 v l g → Dj g h → R (.returned v) (g ++ h)) : HCalls Tryz.prog 97 #[a] h R := by
  refine HCalls_ir (args := [a]) Tryz.func97 ir97 ?_
  have zp : [Value.int .i64 0, .int .i64 0] = eP (0, 0) := rfl
  simp only [walk, lists, acts, mem, plain, seqs, maps, cells, resL, resV, intBin, seval, r.len, str, zp]
  refine ⟨⟨by omega, by omega, by omega, by omega⟩, newB_intro fun j hj => ?_⟩
  rw [zrep_fl (enc := eP) (a := ((0 : Int), (0 : Int))) rfl]
  simp only [walk, lists, acts, mem, plain, seqs, maps, cells, resL, resV, intBin, seval]
  have hr : (List.replicate l.length ((0 : Int), (0 : Int))).length = l.length := by simp
  have o0 : oLs 136 eP 2 (.slice (some ⟨j, 0, none⟩) l.length l.length) (List.replicate l.length ((0 : Int), (0 : Int))) [(j, blk (fl eP (List.replicate l.length ((0 : Int), (0 : Int)))) 136)] := by
    have := oLs_new (e := 136) eP_len (j := j) (l := List.replicate l.length ((0 : Int), (0 : Int)))
    rw [hr] at this; exact this
  obtain ⟨V, hV⟩ : ∃ V, V = Value.slice (some ⟨j, 0, none⟩) l.length l.length := ⟨_, rfl⟩
  rw [← hV] at o0 ⊢
  refine vc_loop [4] (fun n vs h' => ∃ (i : Nat) (g' : H), vs = [.int .i64 i] ∧ h' = g' ++ h ∧ Dj g' h ∧ oLs 136 eP 2 V (l.take i ++ (List.replicate l.length ((0 : Int), (0 : Int))).drop i) g' ∧ i ≤ l.length ∧ n = l.length - i) l.length rfl
    ⟨0, _, rfl, rfl, Dj.one hj, by simpa using o0, by omega, rfl⟩ ?_
  rintro n f h' ⟨i, g', hv, rfl, dj', o', hi, rfl⟩
  simp only [List.map_cons, List.map_nil, List.cons.injEq, and_true] at hv
  simp only [walk, lists, acts, mem, plain, seqs, maps, cells, resL, resV, intBin, seval, wr, hv, r.len]
  refine ite_lt (fun c1 => ?_) fun c1 => ?_
  · have hi2 : i < l.length := by omega
    refine idx_in (i := i) eP_len (r.sub (Sub.right dj')) rfl hi2 fun b1 o1 e1 => ?_
    simp only [walk, lists, acts, mem, plain, seqs, maps, cells, resL, resV, intBin, seval, e1, wPair]
    refine toPair_c ?_
    simp only [walk, lists, acts, mem, plain, seqs, maps, cells, resL, resV, intBin, seval, wPair]
    refine own_idx (i := i) eP_len o' rfl (by simp; omega) fun b cap sp hv' hc hs hg => ?_
    subst hg
    simp only [walk, lists, acts, mem, plain, seqs, maps, cells, resL, resV, intBin, seval, wPair]
    refine st_own (i := i) (a' := l[i]'hi2) (off := 0) eP_len (by omega) (by simp; omega) rfl (by omega) rfl ?_
    simp only [walk, lists, acts, mem, plain, seqs, maps, cells, resL, resV, intBin, seval]
    simp (disch := omega) only [wrapI]
    refine ⟨l.length - (i + 1), by omega, _, .refl _, i + 1, _, by simp, rfl, Dj.one dj'.one', ?_, by omega, rfl⟩
    rw [← take_set (by omega) hr]
    exact own_set eP_len hv' hc hs
  · have hi' : i = l.length := by omega
    subst hi'
    have o2 : oLs 136 eP 2 V l g' := by simpa using o'
    exact .of (k _ g' o2 dj')
end Go.Proofs.YtmfhlkkligcgdaaGreatDoor
end

/- Gates, owned in all depth: records, what houses told, calls under way. -/
section
set_option linter.unusedVariables false
set_option linter.unusedSimpArgs false
set_option maxRecDepth 20000
attribute [local irreducible] Go.Tk.vc Go.Tk.vops Go.Tk.vdr Go.Tk.vop Go.Tk.vfl Go.Tk.HCalls
namespace Go.Proofs.YtmfhlkkligcgdaaGreatDoor
open Go Go.Tk

def WRecord (M : H) (cs : List Value) (d : DRecord) (S : Nat → Prop) : Prop := ∃ v p S1 S2, cs = cRecord d v p ∧ dL 3 eI 1 M v d.vals S1 ∧ dL 136 eP 2 M p d.pairs S2 ∧ sU S S1 S2
theorem WRecord.fr : dFr WRecord := by
  rintro M M' cs d S hx ⟨v, p, S1, S2, e, w1, w2, su⟩
  exact ⟨v, p, S1, S2, e, w1.frame fun x q => hx x ((su.2 x).2 (.inl q)), w2.frame fun x q => hx x ((su.2 x).2 (.inr q)), su⟩
theorem WRecord.rd : ∀ M cs a S, WRecord M cs a S → rRecord M cs a := by
  rintro M cs d S ⟨v, p, S1, S2, e, w1, w2, su⟩
  exact ⟨v, p, e, w1.rd, w2.rd⟩
theorem WRecord.in : ∀ M cs a S i, WRecord M cs a S → S i → hget M i ≠ none := by
  rintro M cs d S i ⟨v, p, S1, S2, e, w1, w2, su⟩ hi
  rcases (su.2 i).1 hi with q | q
  · exact w1.in q
  · exact w2.in q

def WTold (M : H) (cs : List Value) (d : DTold) (S : Nat → Prop) : Prop := ∃ p, cs = cTold d p ∧ dL 136 eP 2 M p d.pairs S
theorem WTold.fr : dFr WTold := by
  rintro M M' cs d S hx ⟨p, e, w1⟩
  exact ⟨p, e, w1.frame hx⟩
theorem WTold.rd : ∀ M cs a S, WTold M cs a S → rTold M cs a := by
  rintro M cs d S ⟨p, e, w1⟩
  exact ⟨p, e, w1.rd⟩
theorem WTold.in : ∀ M cs a S i, WTold M cs a S → S i → hget M i ≠ none := by
  rintro M cs d S i ⟨p, e, w1⟩ hi
  exact w1.in hi

def WLive (M : H) (cs : List Value) (d : DLive) (S : Nat → Prop) : Prop := ∃ v p S1 S2, cs = cLive d v p ∧ dL 3 eI 1 M v d.locked S1 ∧ dR 112 WTold 2 M p d.told S2 ∧ sU S S1 S2
theorem WLive.fr : dFr WLive := by
  rintro M M' cs d S hx ⟨v, p, S1, S2, e, w1, w2, su⟩
  exact ⟨v, p, S1, S2, e, w1.frame fun x q => hx x ((su.2 x).2 (.inl q)), w2.frame WTold.fr fun x q => hx x ((su.2 x).2 (.inr q)), su⟩
theorem WLive.rd : ∀ M cs a S, WLive M cs a S → rLive M cs a := by
  rintro M cs d S ⟨v, p, S1, S2, e, w1, w2, su⟩
  exact ⟨v, p, e, w1.rd, w2.rd WTold.rd⟩
theorem WLive.in : ∀ M cs a S i, WLive M cs a S → S i → hget M i ≠ none := by
  rintro M cs d S i ⟨v, p, S1, S2, e, w1, w2, su⟩ hi
  rcases (su.2 i).1 hi with q | q
  · exact w1.in q
  · exact w2.in WTold.in q

/-- A gate, in just these blocks. -/
def WGate (M : H) (d : DGate) (lg lv wy : Value) (S : Nat → Prop) : Prop := ∃ S1 S2 S3, dR 86 WRecord 11 M lg d.log S1 ∧ dR 82 WLive 12 M lv d.lives S2 ∧ dL 92 cWay 2 M wy d.ways S3 ∧
  (∀ i, S1 i → ¬ S2 i) ∧ (∀ i, S1 i → ¬ S3 i) ∧ (∀ i, S2 i → ¬ S3 i) ∧ ∀ i, S i ↔ S1 i ∨ S2 i ∨ S3 i
theorem WGate.frame {M M' : H} {d : DGate} {lg lv wy : Value} {S : Nat → Prop} (w : WGate M d lg lv wy S) (hx : ∀ i, S i → hget M' i = hget M i) : WGate M' d lg lv wy S := by
  obtain ⟨S1, S2, S3, w1, w2, w3, d1, d2, d3, su⟩ := w
  exact ⟨S1, S2, S3, w1.frame WRecord.fr fun x q => hx x ((su x).2 (.inl q)), w2.frame WLive.fr fun x q => hx x ((su x).2 (.inr (.inl q))), w3.frame fun x q => hx x ((su x).2 (.inr (.inr q))), d1, d2, d3, su⟩
theorem WGate.rd {M : H} {d : DGate} {lg lv wy : Value} {S : Nat → Prop} (w : WGate M d lg lv wy S) : sGate M d lg lv wy := by
  obtain ⟨S1, S2, S3, w1, w2, w3, d1, d2, d3, su⟩ := w
  exact ⟨w1.rd WRecord.rd, w2.rd WLive.rd, w3.rd⟩
theorem WGate.in {M : H} {d : DGate} {lg lv wy : Value} {S : Nat → Prop} (w : WGate M d lg lv wy S) {i : Nat} (h : S i) : hget M i ≠ none := by
  obtain ⟨S1, S2, S3, w1, w2, w3, d1, d2, d3, su⟩ := w
  rcases (su i).1 h with q | q | q
  · exact w1.in WRecord.in q
  · exact w2.in WLive.in q
  · exact w3.in q
end Go.Proofs.YtmfhlkkligcgdaaGreatDoor
end

/- What the laws mark: gates' records. -/
section
set_option linter.unusedVariables false
set_option linter.unusedSimpArgs false
set_option maxRecDepth 20000
attribute [local irreducible] Go.Tk.vc Go.Tk.vops Go.Tk.vdr Go.Tk.vop Go.Tk.vfl Go.Tk.HCalls
namespace Go.Proofs.YtmfhlkkligcgdaaGreatDoor
open Go Go.Tk

set_option maxHeartbeats 1000000 in
theorem markRecordS_c {M : H} {v : Value} {l : List DRecord} {S : Nat → Prop} {k : Int} (d : dR 86 WRecord 11 M v l S) (hl : sumL cnRec l ≤ 33554432) (hk : 1 ≤ k ∧ k ≤ 1073741824) {R : Ending → H → Prop}
    (kr : ∀ M', dR 86 WRecord 11 M' v (mkL (mkRec mT) cnRec k l) S → Ch S M M' → R (.returned (.int .i64 (k + sumL cnRec l))) M') : HCalls Tryz.prog 40 #[v, .int .i64 k] M R := by
  refine HCalls_ir (args := [v, .int .i64 k]) Tryz.func40 ir40 ?_
  have hlen : ∀ {f : Value → Prop}, lenSK v f = f (.int .i64 l.length) := by rcases d with ⟨rfl, rfl, _⟩ | ⟨b, cap, css, sp, Ss, rfl, _⟩ <;> exact fun {f} => rfl
  have hll0 : l.length ≤ 33554432 := by
    have h1 := sumL_le (f := fun _ => 1) (cnt := fun _ => 1) (l := l) (c := 0) (d := 1) (fun a _ => by omega)
    have h2 : l.length ≤ sumL cnRec l := by
      clear hlen d kr hl h1
      induction l with
      | nil => simp
      | cons a l ih => simp only [List.length_cons, sumL]; have : 1 ≤ cnRec a := by unfold cnRec; omega
                       omega
    omega
  simp only [walk, lists, acts, mem, plain, seqs, maps, cells, resL, resV, intBin, seval]
  refine vc_loop [5, 1] (fun n vs M' => ∃ (i : Nat), vs = [.int .i64 i, .int .i64 (k + sumL cnRec (l.take i))] ∧ Ch S M M' ∧ dR 86 WRecord 11 M' v (mkL (mkRec mT) cnRec k (l.take i) ++ l.drop i) S ∧ i ≤ l.length ∧ n = l.length - i) l.length rfl ⟨0, by simp [sumL], Ch.refl _ _, by simpa [mkL] using d, by omega, rfl⟩ ?_
  rintro n f M' ⟨i, hv, hch, hd, hi, rfl⟩
  simp only [List.map_cons, List.map_nil, List.cons.injEq, and_true] at hv
  simp only [walk, lists, acts, mem, plain, seqs, maps, cells, resL, resV, intBin, seval, wr, hv.1, hv.2, hlen]
  refine ite_lt (fun c1 => ?_) fun c1 => ?_
  · have hi2 : i < l.length := by omega
    have hset := mkL_set (mkRec mT) cnRec k l i hi2
    have hsum := sumL_more cnRec hi2
    have hle := sumL_take cnRec l (i + 1)
    obtain ⟨L, hL⟩ : ∃ L, L = mkL (mkRec mT) cnRec k (l.take i) ++ l.drop i := ⟨_, rfl⟩
    have hll : L.length = l.length := by rw [hL, List.length_append, mkL_len, List.length_take, List.length_drop]; omega
    have hcur : ∀ h2 : i < L.length, L[i] = l[i] := by subst hL; exact fun h2 => mkL_cur (mkRec mT) cnRec k l i hi2 h2
    obtain ⟨q, hq⟩ : ∃ q : Int, q = k + sumL cnRec (l.take i) := ⟨_, rfl⟩
    rw [← hL] at hd hset
    rw [← hq] at hset ⊢
    rcases hd with ⟨_, e0, _⟩ | ⟨b, cap, css, sp, Ss, hv0, hc, hs, D⟩
    · rw [e0] at hll; simp at hll; omega
    have hiL : i < L.length := by omega
    obtain ⟨A, B, hAB, hA, hset2⟩ := D.split hiL
    have hW := D.el i (by rw [D.len]; exact hiL) hiL
    rw [hcur hiL] at hW
    obtain ⟨E, hE⟩ : ∃ E, E = l[i] := ⟨_, rfl⟩
    rw [← hE] at hW hset hsum
    have hcn : cnRec E = 9 + E.vals.length + 2 * E.pairs.length := rfl
    have hqb : 1 ≤ q ∧ q + cnRec E ≤ 1107296256 := by omega
    obtain ⟨v1, v2, S1, S2, hcs, w1, w2, su⟩ := hW
    have i1 : ∀ x, S1 x → Ss i x := fun x hx => (su.2 x).2 (.inl hx)
    have i2 : ∀ x, S2 x → Ss i x := fun x hx => (su.2 x).2 (.inr hx)
    have hget : hget M' b = some (blk (A ++ (cRecord E v1 v2 ++ B)) 86) := by rw [D.get, hAB, hcs]
    have hx := idx_top (sz := 11) hv0 hiL
    have nbb : ∀ x, Ss i x → x ≠ b := fun x hx e => D.nb i hiL (e ▸ hx)
    have wr0 : ∀ d x, hwrite (slot M' b 86 A B (cRecord d v1 v2)) b (i * 11) [x] = some (slot M' b 86 A B (splice (cRecord d v1 v2) 0 [x])) := fun d x => slot_wr (j := 0) hget hA (by show 0 + 1 ≤ 11; omega)
    have wr1 : ∀ d x, hwrite (slot M' b 86 A B (cRecord d v1 v2)) b (i * 11 + 1) [x] = some (slot M' b 86 A B (splice (cRecord d v1 v2) 1 [x])) := fun d x => slot_wr (j := 1) hget hA (by show 1 + 1 ≤ 11; omega)
    have wr2 : ∀ d x, hwrite (slot M' b 86 A B (cRecord d v1 v2)) b (i * 11 + 2) [x] = some (slot M' b 86 A B (splice (cRecord d v1 v2) 2 [x])) := fun d x => slot_wr (j := 2) hget hA (by show 2 + 1 ≤ 11; omega)
    have wr3 : ∀ d x, hwrite (slot M' b 86 A B (cRecord d v1 v2)) b (i * 11 + 3) [x] = some (slot M' b 86 A B (splice (cRecord d v1 v2) 3 [x])) := fun d x => slot_wr (j := 3) hget hA (by show 3 + 1 ≤ 11; omega)
    have wr4 : ∀ d x, hwrite (slot M' b 86 A B (cRecord d v1 v2)) b (i * 11 + 4) [x] = some (slot M' b 86 A B (splice (cRecord d v1 v2) 4 [x])) := fun d x => slot_wr (j := 4) hget hA (by show 4 + 1 ≤ 11; omega)
    have wr5 : ∀ d x, hwrite (slot M' b 86 A B (cRecord d v1 v2)) b (i * 11 + 5) [x] = some (slot M' b 86 A B (splice (cRecord d v1 v2) 5 [x])) := fun d x => slot_wr (j := 5) hget hA (by show 5 + 1 ≤ 11; omega)
    have wr6 : ∀ d x, hwrite (slot M' b 86 A B (cRecord d v1 v2)) b (i * 11 + 6) [x] = some (slot M' b 86 A B (splice (cRecord d v1 v2) 6 [x])) := fun d x => slot_wr (j := 6) hget hA (by show 6 + 1 ≤ 11; omega)
    have wr7 : ∀ d x, hwrite (slot M' b 86 A B (cRecord d v1 v2)) b (i * 11 + 7) [x] = some (slot M' b 86 A B (splice (cRecord d v1 v2) 7 [x])) := fun d x => slot_wr (j := 7) hget hA (by show 7 + 1 ≤ 11; omega)
    have wr8 : ∀ d x, hwrite (slot M' b 86 A B (cRecord d v1 v2)) b (i * 11 + 8) [x] = some (slot M' b 86 A B (splice (cRecord d v1 v2) 8 [x])) := fun d x => slot_wr (j := 8) hget hA (by show 8 + 1 ≤ 11; omega)
    have cl1 : ∀ d, hcel (slot M' b 86 A B (cRecord d v1 v2)) b (i * 11 + 9) = some v1 := fun d => slot_cel (j := 9) hget hA rfl
    rw [(slot_self hget).symm]
    simp (disch := omega) only [walk, lists, acts, mem, plain, seqs, maps, cells, resL, resV, intBin, seval, hx, wr0, wr1, wr2, wr3, wr4, wr5, wr6, wr7, wr8, wRecord, cl1, wrapI, Int.add_assoc, Int.reduceAdd]
    refine markText_c (k := q + 5) (by omega) ?_
    simp (disch := omega) only [walk, lists, acts, mem, plain, seqs, maps, cells, resL, resV, intBin, seval, hx, wr0, wr1, wr2, wr3, wr4, wr5, wr6, wr7, wr8, wRecord, cl1, wrapI, Int.add_assoc, Int.reduceAdd]
    obtain ⟨N1, hN1⟩ : ∃ N1, N1 = slot M' b 86 A B (cRecord ⟨q, q + 1, ⟨q + 2, q + 3, q + 4, mT (q + 5), q + 6, q + 7⟩, q + 8, E.vals, E.pairs⟩ v1 v2) := ⟨_, rfl⟩
    have n1 : ∀ x, x ≠ b → Tk.hget N1 x = Tk.hget M' x := fun x hx => by rw [hN1]; exact slot_ne hx
    have g1 : Tk.hget N1 b = some (blk (A ++ (cRecord ⟨q, q + 1, ⟨q + 2, q + 3, q + 4, mT (q + 5), q + 6, q + 7⟩, q + 8, E.vals, E.pairs⟩ v1 v2 ++ B)) 86) := by rw [hN1]; exact slot_get hget
    rw [← hN1]
    refine HCalls_ch (w1.frame fun x hx => n1 x (nbb x (i1 x hx))) (fun g h0 R o dj kr => markIntS_c o dj (by omega) (by omega) kr) fun N2 u1 ch1 => ?_
    have g2 : Tk.hget N2 b = some (blk (A ++ (cRecord ⟨q, q + 1, ⟨q + 2, q + 3, q + 4, mT (q + 5), q + 6, q + 7⟩, q + 8, E.vals, E.pairs⟩ v1 v2 ++ B)) 86) := by rw [ch1 b (fun c => nbb b (i1 b c) rfl)]; exact g1
    have cl2 : hcel N2 b (i * 11 + 10) = some v2 := cel_at g2 hA rfl
    simp (disch := omega) only [walk, lists, acts, mem, plain, seqs, maps, cells, resL, resV, intBin, seval, hx, cl2]
    refine HCalls_ch (w2.frame fun x hx => by rw [ch1 x (fun c => su.1 x c hx), n1 x (nbb x (i2 x hx))]) (fun g h0 R o dj kr => markPairS_c o dj (by omega) (by omega) kr) fun N3 u2 ch2 => ?_
    have g3 : Tk.hget N3 b = some (blk (A ++ (cRecord ⟨q, q + 1, ⟨q + 2, q + 3, q + 4, mT (q + 5), q + 6, q + 7⟩, q + 8, E.vals, E.pairs⟩ v1 v2 ++ B)) 86) := by rw [ch2 b (fun c => nbb b (i2 b c) rfl)]; exact g2
    simp (disch := omega) only [walk, lists, acts, mem, plain, seqs, maps, cells, resL, resV, intBin, seval, wrapI]
    have hf : ∀ x, x ≠ b → ¬ Ss i x → Tk.hget N3 x = Tk.hget M' x := fun x hb hn => by
      rw [ch2 x (fun c => hn (i2 x c)), ch1 x (fun c => hn (i1 x c)), n1 x hb]
    refine ⟨l.length - (i + 1), by omega, N3, .refl _, i + 1, ?_, ?_, ?_, by omega, rfl⟩
    · rw [hsum, hcn]
      simp only [List.cons.injEq, Value.int.injEq, and_true, true_and]
      refine ⟨by omega, by omega⟩
    · exact hch.trans fun x hn => hf x (fun c => hn ((D.dom x).2 (.inl c))) fun c => hn ((D.dom x).2 (.inr ⟨i, hiL, c⟩))
    · rw [← hset]
      refine .inr ⟨b, cap, css.set i (cRecord ⟨q, q + 1, ⟨q + 2, q + 3, q + 4, mT (q + 5), q + 6, q + 7⟩, q + 8, E.vals, E.pairs⟩ v1 v2), sp, Ss, by rw [List.length_set]; exact hv0, by rw [List.length_set]; exact hc, ?_, D.step WRecord.fr hiL (a' := (mkRec mT) q E) rfl (by rw [hset2 _ rfl]; exact g3) ?_ hf⟩
      · rw [hset2 _ rfl, ← hs, hAB, hcs]; simp only [List.length_append]; rfl
      · exact ⟨v1, v2, S1, S2, rfl, u1.frame fun x hx => ch2 x (su.1 x hx), u2, su⟩
  · have hi' : i = l.length := by omega
    subst hi'
    rw [List.take_length] at *
    rw [List.drop_length, List.append_nil] at hd
    exact .of (kr M' hd hch)

end Go.Proofs.YtmfhlkkligcgdaaGreatDoor
end

/- What stays marked: records. -/
section
set_option linter.unusedVariables false
set_option linter.unusedSimpArgs false
set_option maxRecDepth 20000
attribute [local irreducible] Go.Tk.vc Go.Tk.vops Go.Tk.vdr Go.Tk.vop Go.Tk.vfl Go.Tk.HCalls
namespace Go.Proofs.YtmfhlkkligcgdaaGreatDoor
open Go Go.Tk

set_option maxHeartbeats 1000000 in
theorem heldRecordS_c {h : H} {v : Value} {l : List DRecord} {k : Int} (r : rRs h (rRecord h) 11 v (mkL (mkRec mT) cnRec k l)) (hl : sumL cnRec l ≤ 33554432) (hll0 : l.length ≤ 33554432) (hk : 1 ≤ k ∧ k ≤ 1073741824) {R : Ending → H → Prop}
    (kr : R (.returned (.int .i64 (k + sumL cnRec l))) h) : HCalls Tryz.prog 51 #[v, .int .i64 k] h R := by
  refine HCalls_ir (args := [v, .int .i64 k]) Tryz.func51 ir51 ?_
  have hlen : ∀ {f : Value → Prop}, lenSK v f = f (.int .i64 l.length) := fun {f} => by rw [r.len, mkL_len]
  simp only [walk, lists, acts, mem, plain, seqs, maps, cells, resL, resV, intBin, seval]
  refine vc_loop [5, 1] (fun n vs h' => ∃ (i : Nat), vs = [.int .i64 i, .int .i64 (k + sumL cnRec (l.take i))] ∧ h' = h ∧ i ≤ l.length ∧ n = l.length - i) l.length rfl ⟨0, by simp [sumL], rfl, by omega, rfl⟩ ?_
  rintro n f h' ⟨i, hv, rfl, hi, rfl⟩
  simp only [List.map_cons, List.map_nil, List.cons.injEq, and_true] at hv
  simp only [walk, lists, acts, mem, plain, seqs, maps, cells, resL, resV, intBin, seval, wr, hv.1, hv.2, hlen]
  refine ite_lt (fun c1 => ?_) fun c1 => ?_
  · have hi2 : i < l.length := by omega
    have hiL : i < (mkL (mkRec mT) cnRec k l).length := by rw [mkL_len]; exact hi2
    have hsum := sumL_more cnRec hi2
    have hle := sumL_take cnRec l (i + 1)
    obtain ⟨b, o, cs, hx, e, rr⟩ := rs_at r hiL
    rw [mkL_at (mkRec mT) cnRec l k i hiL hi2] at rr
    obtain ⟨q, hq⟩ : ∃ q : Int, q = k + sumL cnRec (l.take i) := ⟨_, rfl⟩
    obtain ⟨E, hE⟩ : ∃ E, E = l[i] := ⟨_, rfl⟩
    rw [← hE, ← hq] at rr
    rw [← hE] at hsum
    rw [← hq]
    have hcn : cnRec E = 9 + E.vals.length + 2 * E.pairs.length := rfl
    have hqb : 1 ≤ q ∧ q + cnRec E ≤ 1107296256 := by omega
    obtain ⟨v1, v2, rfl, s1, s2⟩ := rr
    have f0 : hcel h' b o = some (.int .i64 (q)) := hread_c e 0 rfl
    have f1 : hcel h' b (o + 1) = some (.int .i64 (q + 1)) := hread_c e 1 rfl
    have f2 : hcel h' b (o + 2) = some (.int .i64 (q + 2)) := hread_c e 2 rfl
    have f3 : hcel h' b (o + 3) = some (.int .i64 (q + 3)) := hread_c e 3 rfl
    have f4 : hcel h' b (o + 4) = some (.int .i64 (q + 4)) := hread_c e 4 rfl
    have f5 : hcel h' b (o + 5) = some (.string ⟨(mT (q + 5)).toArray⟩) := hread_c e 5 rfl
    have f6 : hcel h' b (o + 6) = some (.int .i64 (q + 6)) := hread_c e 6 rfl
    have f7 : hcel h' b (o + 7) = some (.int .i64 (q + 7)) := hread_c e 7 rfl
    have f8 : hcel h' b (o + 8) = some (.int .i64 (q + 8)) := hread_c e 8 rfl
    have fs1 : hcel h' b (o + 9) = some v1 := hread_c e 9 rfl
    have fs2 : hcel h' b (o + 10) = some v2 := hread_c e 10 rfl
    simp (disch := omega) only [walk, lists, acts, mem, plain, seqs, maps, cells, resL, resV, intBin, seval, hx, f0, f1, f2, f3, f4, f5, f6, f7, f8, fs1, fs2, wrapI, Int.add_assoc, Int.reduceAdd, strBin, str_inj]
    refine vc_draw _ (Sub.refl _) ?_
    simp (disch := omega) only [walk, lists, acts, mem, plain, seqs, maps, cells, resL, resV, intBin, seval, hx, f0, f1, f2, f3, f4, f5, f6, f7, f8, fs1, fs2, wrapI, Int.add_assoc, Int.reduceAdd, strBin, str_inj]
    refine markText_c (k := q + 5) (by omega) ?_
    simp (disch := omega) only [walk, lists, acts, mem, plain, seqs, maps, cells, resL, resV, intBin, seval, hx, f0, f1, f2, f3, f4, f5, f6, f7, f8, fs1, fs2, wrapI, Int.add_assoc, Int.reduceAdd, strBin, str_inj]
    refine heldIntS_c s1 (by show mks (q + 9) E.vals.length = mks (q + 9) (mks (q + 9) E.vals.length).length; rw [mks_len]) (by show (mks (q + 9) E.vals.length).length ≤ _; rw [mks_len]; omega) (by omega) ?_
    rw [show (((mkRec mT) q E).vals).length = E.vals.length from mks_len _ _]
    simp (disch := omega) only [walk, lists, acts, mem, plain, seqs, maps, cells, resL, resV, intBin, seval, hx, f0, f1, f2, f3, f4, f5, f6, f7, f8, fs1, fs2, wrapI, strBin, str_inj]
    refine ite_lt (fun c => absurd c (by omega)) fun _ => ?_
    try simp (disch := omega) only [walk, lists, acts, mem, plain, seqs, maps, cells, resL, resV, intBin, seval, hx, f0, f1, f2, f3, f4, f5, f6, f7, f8, fs1, fs2, wrapI, strBin, str_inj]
    refine heldPairS_c s2 (by show mkp (q + 9 + E.vals.length) E.pairs.length = mkp (q + 9 + E.vals.length) (mkp (q + 9 + E.vals.length) E.pairs.length).length; rw [mkp_len]) (by show (mkp (q + 9 + E.vals.length) E.pairs.length).length ≤ _; rw [mkp_len]; omega) (by omega) ?_
    rw [show (((mkRec mT) q E).pairs).length = E.pairs.length from mkp_len _ _]
    simp (disch := omega) only [walk, lists, acts, mem, plain, seqs, maps, cells, resL, resV, intBin, seval, hx, f0, f1, f2, f3, f4, f5, f6, f7, f8, fs1, fs2, wrapI, strBin, str_inj]
    refine ite_lt (fun c => absurd c (by omega)) fun _ => ?_
    try simp (disch := omega) only [walk, lists, acts, mem, plain, seqs, maps, cells, resL, resV, intBin, seval, hx, f0, f1, f2, f3, f4, f5, f6, f7, f8, fs1, fs2, wrapI, strBin, str_inj]
    refine ⟨l.length - (i + 1), by omega, h', .refl _, i + 1, ?_, rfl, by omega, rfl⟩
    rw [hsum, hcn]
    simp only [List.cons.injEq, Value.int.injEq, and_true, true_and]
    refine ⟨by omega, by omega⟩
  · have hi' : i = l.length := by omega
    subst hi'
    rw [List.take_length] at *
    exact .of kr

end Go.Proofs.YtmfhlkkligcgdaaGreatDoor
end

/- What the laws mark: what houses told, and calls under way. -/
section
set_option linter.unusedVariables false
set_option linter.unusedSimpArgs false
set_option maxRecDepth 20000
attribute [local irreducible] Go.Tk.vc Go.Tk.vops Go.Tk.vdr Go.Tk.vop Go.Tk.vfl Go.Tk.HCalls
namespace Go.Proofs.YtmfhlkkligcgdaaGreatDoor
open Go Go.Tk

theorem len_le_Told (l : List DTold) : l.length ≤ sumL cnTold l := by
  induction l with
  | nil => simp
  | cons a l ih => simp only [List.length_cons, sumL]; have : 1 ≤ cnTold a := by unfold cnTold; omega
                   omega

set_option maxHeartbeats 1000000 in
theorem markToldS_c {M : H} {v : Value} {l : List DTold} {S : Nat → Prop} {k : Int} (d : dR 112 WTold 2 M v l S) (hl : sumL cnTold l ≤ 33554432) (hk : 1 ≤ k ∧ k ≤ 4294967296) {R : Ending → H → Prop}
    (kr : ∀ M', dR 112 WTold 2 M' v (mkL mkTold cnTold k l) S → Ch S M M' → R (.returned (.int .i64 (k + sumL cnTold l))) M') : HCalls Tryz.prog 73 #[v, .int .i64 k] M R := by
  refine HCalls_ir (args := [v, .int .i64 k]) Tryz.func73 ir73 ?_
  have hlen : ∀ {f : Value → Prop}, lenSK v f = f (.int .i64 l.length) := by rcases d with ⟨rfl, rfl, _⟩ | ⟨b, cap, css, sp, Ss, rfl, _⟩ <;> exact fun {f} => rfl
  have hll0 : l.length ≤ 33554432 := by
    have h1 := sumL_le (f := fun _ => 1) (cnt := fun _ => 1) (l := l) (c := 0) (d := 1) (fun a _ => by omega)
    have h2 : l.length ≤ sumL cnTold l := by
      clear hlen d kr hl h1
      induction l with
      | nil => simp
      | cons a l ih => simp only [List.length_cons, sumL]; have : 1 ≤ cnTold a := by unfold cnTold; omega
                       omega
    omega
  simp only [walk, lists, acts, mem, plain, seqs, maps, cells, resL, resV, intBin, seval]
  refine vc_loop [5, 1] (fun n vs M' => ∃ (i : Nat), vs = [.int .i64 i, .int .i64 (k + sumL cnTold (l.take i))] ∧ Ch S M M' ∧ dR 112 WTold 2 M' v (mkL mkTold cnTold k (l.take i) ++ l.drop i) S ∧ i ≤ l.length ∧ n = l.length - i) l.length rfl ⟨0, by simp [sumL], Ch.refl _ _, by simpa [mkL] using d, by omega, rfl⟩ ?_
  rintro n f M' ⟨i, hv, hch, hd, hi, rfl⟩
  simp only [List.map_cons, List.map_nil, List.cons.injEq, and_true] at hv
  simp only [walk, lists, acts, mem, plain, seqs, maps, cells, resL, resV, intBin, seval, wr, hv.1, hv.2, hlen]
  refine ite_lt (fun c1 => ?_) fun c1 => ?_
  · have hi2 : i < l.length := by omega
    have hset := mkL_set mkTold cnTold k l i hi2
    have hsum := sumL_more cnTold hi2
    have hle := sumL_take cnTold l (i + 1)
    obtain ⟨L, hL⟩ : ∃ L, L = mkL mkTold cnTold k (l.take i) ++ l.drop i := ⟨_, rfl⟩
    have hll : L.length = l.length := by rw [hL, List.length_append, mkL_len, List.length_take, List.length_drop]; omega
    have hcur : ∀ h2 : i < L.length, L[i] = l[i] := by subst hL; exact fun h2 => mkL_cur mkTold cnTold k l i hi2 h2
    obtain ⟨q, hq⟩ : ∃ q : Int, q = k + sumL cnTold (l.take i) := ⟨_, rfl⟩
    rw [← hL] at hd hset
    rw [← hq] at hset ⊢
    rcases hd with ⟨_, e0, _⟩ | ⟨b, cap, css, sp, Ss, hv0, hc, hs, D⟩
    · rw [e0] at hll; simp at hll; omega
    have hiL : i < L.length := by omega
    obtain ⟨A, B, hAB, hA, hset2⟩ := D.split hiL
    have hW := D.el i (by rw [D.len]; exact hiL) hiL
    rw [hcur hiL] at hW
    obtain ⟨E, hE⟩ : ∃ E, E = l[i] := ⟨_, rfl⟩
    rw [← hE] at hW hset hsum
    have hcn : cnTold E = 1 + 2 * E.pairs.length := rfl
    have hqb : 1 ≤ q ∧ q + cnTold E ≤ 4328521728 := by omega
    obtain ⟨v1, hcs, w1⟩ := hW
    have i1 : ∀ x, Ss i x → Ss i x := fun x hx => hx
    have hget : hget M' b = some (blk (A ++ (cTold E v1 ++ B)) 112) := by rw [D.get, hAB, hcs]
    have hx := idx_top (sz := 2) hv0 hiL
    have nbb : ∀ x, Ss i x → x ≠ b := fun x hx e => D.nb i hiL (e ▸ hx)
    have wr0 : ∀ d x, hwrite (slot M' b 112 A B (cTold d v1)) b (i * 2) [x] = some (slot M' b 112 A B (splice (cTold d v1) 0 [x])) := fun d x => slot_wr (j := 0) hget hA (by show 0 + 1 ≤ 2; omega)
    have cl1 : ∀ d, hcel (slot M' b 112 A B (cTold d v1)) b (i * 2 + 1) = some v1 := fun d => slot_cel (j := 1) hget hA rfl
    rw [(slot_self hget).symm]
    simp (disch := omega) only [walk, lists, acts, mem, plain, seqs, maps, cells, resL, resV, intBin, seval, hx, wr0, wTold, cl1, wrapI, Int.add_assoc, Int.reduceAdd]
    obtain ⟨N1, hN1⟩ : ∃ N1, N1 = slot M' b 112 A B (cTold ⟨q, E.pairs⟩ v1) := ⟨_, rfl⟩
    have n1 : ∀ x, x ≠ b → Tk.hget N1 x = Tk.hget M' x := fun x hx => by rw [hN1]; exact slot_ne hx
    have g1 : Tk.hget N1 b = some (blk (A ++ (cTold ⟨q, E.pairs⟩ v1 ++ B)) 112) := by rw [hN1]; exact slot_get hget
    rw [← hN1]
    refine HCalls_ch (w1.frame fun x hx => n1 x (nbb x (i1 x hx))) (fun g h0 R o dj kr => markPairS_c o dj (by omega) (by omega) kr) fun N2 u1 ch1 => ?_
    have g2 : Tk.hget N2 b = some (blk (A ++ (cTold ⟨q, E.pairs⟩ v1 ++ B)) 112) := by rw [ch1 b (fun c => nbb b (i1 b c) rfl)]; exact g1
    simp (disch := omega) only [walk, lists, acts, mem, plain, seqs, maps, cells, resL, resV, intBin, seval, wrapI]
    have hf : ∀ x, x ≠ b → ¬ Ss i x → Tk.hget N2 x = Tk.hget M' x := fun x hb hn => by
      rw [ch1 x (fun c => hn (i1 x c)), n1 x hb]
    refine ⟨l.length - (i + 1), by omega, N2, .refl _, i + 1, ?_, ?_, ?_, by omega, rfl⟩
    · rw [hsum, hcn]
      simp only [List.cons.injEq, Value.int.injEq, and_true, true_and]
      refine ⟨by omega, by omega⟩
    · exact hch.trans fun x hn => hf x (fun c => hn ((D.dom x).2 (.inl c))) fun c => hn ((D.dom x).2 (.inr ⟨i, hiL, c⟩))
    · rw [← hset]
      refine .inr ⟨b, cap, css.set i (cTold ⟨q, E.pairs⟩ v1), sp, Ss, by rw [List.length_set]; exact hv0, by rw [List.length_set]; exact hc, ?_, D.step WTold.fr hiL (a' := mkTold q E) rfl (by rw [hset2 _ rfl]; exact g2) ?_ hf⟩
      · rw [hset2 _ rfl, ← hs, hAB, hcs]; simp only [List.length_append]; rfl
      · exact ⟨v1, rfl, u1⟩
  · have hi' : i = l.length := by omega
    subst hi'
    rw [List.take_length] at *
    rw [List.drop_length, List.append_nil] at hd
    exact .of (kr M' hd hch)

set_option maxHeartbeats 1000000 in
theorem heldToldS_c {h : H} {v : Value} {l : List DTold} {k : Int} (r : rRs h (rTold h) 2 v (mkL mkTold cnTold k l)) (hl : sumL cnTold l ≤ 33554432) (hll0 : l.length ≤ 33554432) (hk : 1 ≤ k ∧ k ≤ 4294967296) {R : Ending → H → Prop}
    (kr : R (.returned (.int .i64 (k + sumL cnTold l))) h) : HCalls Tryz.prog 84 #[v, .int .i64 k] h R := by
  refine HCalls_ir (args := [v, .int .i64 k]) Tryz.func84 ir84 ?_
  have hlen : ∀ {f : Value → Prop}, lenSK v f = f (.int .i64 l.length) := fun {f} => by rw [r.len, mkL_len]
  simp only [walk, lists, acts, mem, plain, seqs, maps, cells, resL, resV, intBin, seval]
  refine vc_loop [5, 1] (fun n vs h' => ∃ (i : Nat), vs = [.int .i64 i, .int .i64 (k + sumL cnTold (l.take i))] ∧ h' = h ∧ i ≤ l.length ∧ n = l.length - i) l.length rfl ⟨0, by simp [sumL], rfl, by omega, rfl⟩ ?_
  rintro n f h' ⟨i, hv, rfl, hi, rfl⟩
  simp only [List.map_cons, List.map_nil, List.cons.injEq, and_true] at hv
  simp only [walk, lists, acts, mem, plain, seqs, maps, cells, resL, resV, intBin, seval, wr, hv.1, hv.2, hlen]
  refine ite_lt (fun c1 => ?_) fun c1 => ?_
  · have hi2 : i < l.length := by omega
    have hiL : i < (mkL mkTold cnTold k l).length := by rw [mkL_len]; exact hi2
    have hsum := sumL_more cnTold hi2
    have hle := sumL_take cnTold l (i + 1)
    obtain ⟨b, o, cs, hx, e, rr⟩ := rs_at r hiL
    rw [mkL_at mkTold cnTold l k i hiL hi2] at rr
    obtain ⟨q, hq⟩ : ∃ q : Int, q = k + sumL cnTold (l.take i) := ⟨_, rfl⟩
    obtain ⟨E, hE⟩ : ∃ E, E = l[i] := ⟨_, rfl⟩
    rw [← hE, ← hq] at rr
    rw [← hE] at hsum
    rw [← hq]
    have hcn : cnTold E = 1 + 2 * E.pairs.length := rfl
    have hqb : 1 ≤ q ∧ q + cnTold E ≤ 4328521728 := by omega
    obtain ⟨v1, rfl, s1⟩ := rr
    have f0 : hcel h' b o = some (.int .i64 (q)) := hread_c e 0 rfl
    have fs1 : hcel h' b (o + 1) = some v1 := hread_c e 1 rfl
    simp (disch := omega) only [walk, lists, acts, mem, plain, seqs, maps, cells, resL, resV, intBin, seval, hx, f0, fs1, wrapI, Int.add_assoc, Int.reduceAdd, strBin, str_inj]
    refine heldPairS_c s1 (by show mkp (q + 1) E.pairs.length = mkp (q + 1) (mkp (q + 1) E.pairs.length).length; rw [mkp_len]) (by show (mkp (q + 1) E.pairs.length).length ≤ _; rw [mkp_len]; omega) (by omega) ?_
    rw [show ((mkTold q E).pairs).length = E.pairs.length from mkp_len _ _]
    simp (disch := omega) only [walk, lists, acts, mem, plain, seqs, maps, cells, resL, resV, intBin, seval, hx, f0, fs1, wrapI, strBin, str_inj]
    refine ite_lt (fun c => absurd c (by omega)) fun _ => ?_
    try simp (disch := omega) only [walk, lists, acts, mem, plain, seqs, maps, cells, resL, resV, intBin, seval, hx, f0, fs1, wrapI, strBin, str_inj]
    refine ⟨l.length - (i + 1), by omega, h', .refl _, i + 1, ?_, rfl, by omega, rfl⟩
    rw [hsum, hcn]
    simp only [List.cons.injEq, Value.int.injEq, and_true, true_and]
    refine ⟨by omega, by omega⟩
  · have hi' : i = l.length := by omega
    subst hi'
    rw [List.take_length] at *
    exact .of kr

set_option maxHeartbeats 1000000 in
theorem markLiveS_c {M : H} {v : Value} {l : List DLive} {S : Nat → Prop} {k : Int} (d : dR 82 WLive 12 M v l S) (hl : sumL cnLive l ≤ 33554432) (hk : 1 ≤ k ∧ k ≤ 1073741824) {R : Ending → H → Prop}
    (kr : ∀ M', dR 82 WLive 12 M' v (mkL (mkLive mT) cnLive k l) S → Ch S M M' → R (.returned (.int .i64 (k + sumL cnLive l))) M') : HCalls Tryz.prog 41 #[v, .int .i64 k] M R := by
  refine HCalls_ir (args := [v, .int .i64 k]) Tryz.func41 ir41 ?_
  have hlen : ∀ {f : Value → Prop}, lenSK v f = f (.int .i64 l.length) := by rcases d with ⟨rfl, rfl, _⟩ | ⟨b, cap, css, sp, Ss, rfl, _⟩ <;> exact fun {f} => rfl
  have hll0 : l.length ≤ 33554432 := by
    have h1 := sumL_le (f := fun _ => 1) (cnt := fun _ => 1) (l := l) (c := 0) (d := 1) (fun a _ => by omega)
    have h2 : l.length ≤ sumL cnLive l := by
      clear hlen d kr hl h1
      induction l with
      | nil => simp
      | cons a l ih => simp only [List.length_cons, sumL]; have : 1 ≤ cnLive a := by unfold cnLive; omega
                       omega
    omega
  simp only [walk, lists, acts, mem, plain, seqs, maps, cells, resL, resV, intBin, seval]
  refine vc_loop [5, 1] (fun n vs M' => ∃ (i : Nat), vs = [.int .i64 i, .int .i64 (k + sumL cnLive (l.take i))] ∧ Ch S M M' ∧ dR 82 WLive 12 M' v (mkL (mkLive mT) cnLive k (l.take i) ++ l.drop i) S ∧ i ≤ l.length ∧ n = l.length - i) l.length rfl ⟨0, by simp [sumL], Ch.refl _ _, by simpa [mkL] using d, by omega, rfl⟩ ?_
  rintro n f M' ⟨i, hv, hch, hd, hi, rfl⟩
  simp only [List.map_cons, List.map_nil, List.cons.injEq, and_true] at hv
  simp only [walk, lists, acts, mem, plain, seqs, maps, cells, resL, resV, intBin, seval, wr, hv.1, hv.2, hlen]
  refine ite_lt (fun c1 => ?_) fun c1 => ?_
  · have hi2 : i < l.length := by omega
    have hset := mkL_set (mkLive mT) cnLive k l i hi2
    have hsum := sumL_more cnLive hi2
    have hle := sumL_take cnLive l (i + 1)
    obtain ⟨L, hL⟩ : ∃ L, L = mkL (mkLive mT) cnLive k (l.take i) ++ l.drop i := ⟨_, rfl⟩
    have hll : L.length = l.length := by rw [hL, List.length_append, mkL_len, List.length_take, List.length_drop]; omega
    have hcur : ∀ h2 : i < L.length, L[i] = l[i] := by subst hL; exact fun h2 => mkL_cur (mkLive mT) cnLive k l i hi2 h2
    obtain ⟨q, hq⟩ : ∃ q : Int, q = k + sumL cnLive (l.take i) := ⟨_, rfl⟩
    rw [← hL] at hd hset
    rw [← hq] at hset ⊢
    rcases hd with ⟨_, e0, _⟩ | ⟨b, cap, css, sp, Ss, hv0, hc, hs, D⟩
    · rw [e0] at hll; simp at hll; omega
    have hiL : i < L.length := by omega
    obtain ⟨A, B, hAB, hA, hset2⟩ := D.split hiL
    have hW := D.el i (by rw [D.len]; exact hiL) hiL
    rw [hcur hiL] at hW
    obtain ⟨E, hE⟩ : ∃ E, E = l[i] := ⟨_, rfl⟩
    rw [← hE] at hW hset hsum
    have hcn : cnLive E = 10 + E.locked.length + sumL cnTold E.told := rfl
    have hqb : 1 ≤ q ∧ q + cnLive E ≤ 1107296256 := by omega
    obtain ⟨v1, v2, S1, S2, hcs, w1, w2, su⟩ := hW
    have i1 : ∀ x, S1 x → Ss i x := fun x hx => (su.2 x).2 (.inl hx)
    have i2 : ∀ x, S2 x → Ss i x := fun x hx => (su.2 x).2 (.inr hx)
    have hget : hget M' b = some (blk (A ++ (cLive E v1 v2 ++ B)) 82) := by rw [D.get, hAB, hcs]
    have hx := idx_top (sz := 12) hv0 hiL
    have nbb : ∀ x, Ss i x → x ≠ b := fun x hx e => D.nb i hiL (e ▸ hx)
    have wr0 : ∀ d x, hwrite (slot M' b 82 A B (cLive d v1 v2)) b (i * 12) [x] = some (slot M' b 82 A B (splice (cLive d v1 v2) 0 [x])) := fun d x => slot_wr (j := 0) hget hA (by show 0 + 1 ≤ 12; omega)
    have wr1 : ∀ d x, hwrite (slot M' b 82 A B (cLive d v1 v2)) b (i * 12 + 1) [x] = some (slot M' b 82 A B (splice (cLive d v1 v2) 1 [x])) := fun d x => slot_wr (j := 1) hget hA (by show 1 + 1 ≤ 12; omega)
    have wr2 : ∀ d x, hwrite (slot M' b 82 A B (cLive d v1 v2)) b (i * 12 + 2) [x] = some (slot M' b 82 A B (splice (cLive d v1 v2) 2 [x])) := fun d x => slot_wr (j := 2) hget hA (by show 2 + 1 ≤ 12; omega)
    have wr3 : ∀ d x, hwrite (slot M' b 82 A B (cLive d v1 v2)) b (i * 12 + 3) [x] = some (slot M' b 82 A B (splice (cLive d v1 v2) 3 [x])) := fun d x => slot_wr (j := 3) hget hA (by show 3 + 1 ≤ 12; omega)
    have wr4 : ∀ d x, hwrite (slot M' b 82 A B (cLive d v1 v2)) b (i * 12 + 4) [x] = some (slot M' b 82 A B (splice (cLive d v1 v2) 4 [x])) := fun d x => slot_wr (j := 4) hget hA (by show 4 + 1 ≤ 12; omega)
    have wr5 : ∀ d x, hwrite (slot M' b 82 A B (cLive d v1 v2)) b (i * 12 + 5) [x] = some (slot M' b 82 A B (splice (cLive d v1 v2) 5 [x])) := fun d x => slot_wr (j := 5) hget hA (by show 5 + 1 ≤ 12; omega)
    have wr6 : ∀ d x, hwrite (slot M' b 82 A B (cLive d v1 v2)) b (i * 12 + 6) [x] = some (slot M' b 82 A B (splice (cLive d v1 v2) 6 [x])) := fun d x => slot_wr (j := 6) hget hA (by show 6 + 1 ≤ 12; omega)
    have wr7 : ∀ d x, hwrite (slot M' b 82 A B (cLive d v1 v2)) b (i * 12 + 7) [x] = some (slot M' b 82 A B (splice (cLive d v1 v2) 7 [x])) := fun d x => slot_wr (j := 7) hget hA (by show 7 + 1 ≤ 12; omega)
    have wr8 : ∀ d x, hwrite (slot M' b 82 A B (cLive d v1 v2)) b (i * 12 + 8) [x] = some (slot M' b 82 A B (splice (cLive d v1 v2) 8 [x])) := fun d x => slot_wr (j := 8) hget hA (by show 8 + 1 ≤ 12; omega)
    have wr9 : ∀ d x, hwrite (slot M' b 82 A B (cLive d v1 v2)) b (i * 12 + 9) [x] = some (slot M' b 82 A B (splice (cLive d v1 v2) 9 [x])) := fun d x => slot_wr (j := 9) hget hA (by show 9 + 1 ≤ 12; omega)
    have cl1 : ∀ d, hcel (slot M' b 82 A B (cLive d v1 v2)) b (i * 12 + 10) = some v1 := fun d => slot_cel (j := 10) hget hA rfl
    rw [(slot_self hget).symm]
    simp (disch := omega) only [walk, lists, acts, mem, plain, seqs, maps, cells, resL, resV, intBin, seval, hx, wr0, wr1, wr2, wr3, wr4, wr5, wr6, wr7, wr8, wr9, wLive, cl1, wrapI, Int.add_assoc, Int.reduceAdd]
    refine markText_c (k := q + 7) (by omega) ?_
    simp (disch := omega) only [walk, lists, acts, mem, plain, seqs, maps, cells, resL, resV, intBin, seval, hx, wr0, wr1, wr2, wr3, wr4, wr5, wr6, wr7, wr8, wr9, wLive, cl1, wrapI, Int.add_assoc, Int.reduceAdd]
    obtain ⟨N1, hN1⟩ : ∃ N1, N1 = slot M' b 82 A B (cLive ⟨q, q + 1, q + 2, q + 3, ⟨q + 4, q + 5, q + 6, mT (q + 7), q + 8, q + 9⟩, E.locked, E.told⟩ v1 v2) := ⟨_, rfl⟩
    have n1 : ∀ x, x ≠ b → Tk.hget N1 x = Tk.hget M' x := fun x hx => by rw [hN1]; exact slot_ne hx
    have g1 : Tk.hget N1 b = some (blk (A ++ (cLive ⟨q, q + 1, q + 2, q + 3, ⟨q + 4, q + 5, q + 6, mT (q + 7), q + 8, q + 9⟩, E.locked, E.told⟩ v1 v2 ++ B)) 82) := by rw [hN1]; exact slot_get hget
    rw [← hN1]
    refine HCalls_ch (w1.frame fun x hx => n1 x (nbb x (i1 x hx))) (fun g h0 R o dj kr => markIntS_c o dj (by omega) (by omega) kr) fun N2 u1 ch1 => ?_
    have g2 : Tk.hget N2 b = some (blk (A ++ (cLive ⟨q, q + 1, q + 2, q + 3, ⟨q + 4, q + 5, q + 6, mT (q + 7), q + 8, q + 9⟩, E.locked, E.told⟩ v1 v2 ++ B)) 82) := by rw [ch1 b (fun c => nbb b (i1 b c) rfl)]; exact g1
    have cl2 : hcel N2 b (i * 12 + 11) = some v2 := cel_at g2 hA rfl
    simp (disch := omega) only [walk, lists, acts, mem, plain, seqs, maps, cells, resL, resV, intBin, seval, hx, cl2]
    refine markToldS_c (w2.frame WTold.fr fun x hx => by rw [ch1 x (fun c => su.1 x c hx), n1 x (nbb x (i2 x hx))]) (by omega) (by omega) fun N3 u2 ch2 => ?_
    have g3 : Tk.hget N3 b = some (blk (A ++ (cLive ⟨q, q + 1, q + 2, q + 3, ⟨q + 4, q + 5, q + 6, mT (q + 7), q + 8, q + 9⟩, E.locked, E.told⟩ v1 v2 ++ B)) 82) := by rw [ch2 b (fun c => nbb b (i2 b c) rfl)]; exact g2
    simp (disch := omega) only [walk, lists, acts, mem, plain, seqs, maps, cells, resL, resV, intBin, seval, wrapI]
    have hf : ∀ x, x ≠ b → ¬ Ss i x → Tk.hget N3 x = Tk.hget M' x := fun x hb hn => by
      rw [ch2 x (fun c => hn (i2 x c)), ch1 x (fun c => hn (i1 x c)), n1 x hb]
    refine ⟨l.length - (i + 1), by omega, N3, .refl _, i + 1, ?_, ?_, ?_, by omega, rfl⟩
    · rw [hsum, hcn]
      simp only [List.cons.injEq, Value.int.injEq, and_true, true_and]
      refine ⟨by omega, by omega⟩
    · exact hch.trans fun x hn => hf x (fun c => hn ((D.dom x).2 (.inl c))) fun c => hn ((D.dom x).2 (.inr ⟨i, hiL, c⟩))
    · rw [← hset]
      refine .inr ⟨b, cap, css.set i (cLive ⟨q, q + 1, q + 2, q + 3, ⟨q + 4, q + 5, q + 6, mT (q + 7), q + 8, q + 9⟩, E.locked, E.told⟩ v1 v2), sp, Ss, by rw [List.length_set]; exact hv0, by rw [List.length_set]; exact hc, ?_, D.step WLive.fr hiL (a' := (mkLive mT) q E) rfl (by rw [hset2 _ rfl]; exact g3) ?_ hf⟩
      · rw [hset2 _ rfl, ← hs, hAB, hcs]; simp only [List.length_append]; rfl
      · exact ⟨v1, v2, S1, S2, rfl, u1.frame fun x hx => ch2 x (su.1 x hx), u2, su⟩
  · have hi' : i = l.length := by omega
    subst hi'
    rw [List.take_length] at *
    rw [List.drop_length, List.append_nil] at hd
    exact .of (kr M' hd hch)

end Go.Proofs.YtmfhlkkligcgdaaGreatDoor
end

/- What stays marked: calls under way. -/
section
set_option linter.unusedVariables false
set_option linter.unusedSimpArgs false
set_option maxRecDepth 20000
attribute [local irreducible] Go.Tk.vc Go.Tk.vops Go.Tk.vdr Go.Tk.vop Go.Tk.vfl Go.Tk.HCalls
namespace Go.Proofs.YtmfhlkkligcgdaaGreatDoor
open Go Go.Tk

set_option maxHeartbeats 1000000 in
theorem heldLiveS_c {h : H} {v : Value} {l : List DLive} {k : Int} (r : rRs h (rLive h) 12 v (mkL (mkLive mT) cnLive k l)) (hl : sumL cnLive l ≤ 33554432) (hll0 : l.length ≤ 33554432) (hk : 1 ≤ k ∧ k ≤ 1073741824) {R : Ending → H → Prop}
    (kr : R (.returned (.int .i64 (k + sumL cnLive l))) h) : HCalls Tryz.prog 52 #[v, .int .i64 k] h R := by
  refine HCalls_ir (args := [v, .int .i64 k]) Tryz.func52 ir52 ?_
  have hlen : ∀ {f : Value → Prop}, lenSK v f = f (.int .i64 l.length) := fun {f} => by rw [r.len, mkL_len]
  simp only [walk, lists, acts, mem, plain, seqs, maps, cells, resL, resV, intBin, seval]
  refine vc_loop [5, 1] (fun n vs h' => ∃ (i : Nat), vs = [.int .i64 i, .int .i64 (k + sumL cnLive (l.take i))] ∧ h' = h ∧ i ≤ l.length ∧ n = l.length - i) l.length rfl ⟨0, by simp [sumL], rfl, by omega, rfl⟩ ?_
  rintro n f h' ⟨i, hv, rfl, hi, rfl⟩
  simp only [List.map_cons, List.map_nil, List.cons.injEq, and_true] at hv
  simp only [walk, lists, acts, mem, plain, seqs, maps, cells, resL, resV, intBin, seval, wr, hv.1, hv.2, hlen]
  refine ite_lt (fun c1 => ?_) fun c1 => ?_
  · have hi2 : i < l.length := by omega
    have hiL : i < (mkL (mkLive mT) cnLive k l).length := by rw [mkL_len]; exact hi2
    have hsum := sumL_more cnLive hi2
    have hle := sumL_take cnLive l (i + 1)
    obtain ⟨b, o, cs, hx, e, rr⟩ := rs_at r hiL
    rw [mkL_at (mkLive mT) cnLive l k i hiL hi2] at rr
    obtain ⟨q, hq⟩ : ∃ q : Int, q = k + sumL cnLive (l.take i) := ⟨_, rfl⟩
    obtain ⟨E, hE⟩ : ∃ E, E = l[i] := ⟨_, rfl⟩
    rw [← hE, ← hq] at rr
    rw [← hE] at hsum
    rw [← hq]
    have hcn : cnLive E = 10 + E.locked.length + sumL cnTold E.told := rfl
    have hqb : 1 ≤ q ∧ q + cnLive E ≤ 1107296256 := by omega
    obtain ⟨v1, v2, rfl, s1, s2⟩ := rr
    have f0 : hcel h' b o = some (.int .i64 (q)) := hread_c e 0 rfl
    have f1 : hcel h' b (o + 1) = some (.int .i64 (q + 1)) := hread_c e 1 rfl
    have f2 : hcel h' b (o + 2) = some (.int .i64 (q + 2)) := hread_c e 2 rfl
    have f3 : hcel h' b (o + 3) = some (.int .i64 (q + 3)) := hread_c e 3 rfl
    have f4 : hcel h' b (o + 4) = some (.int .i64 (q + 4)) := hread_c e 4 rfl
    have f5 : hcel h' b (o + 5) = some (.int .i64 (q + 5)) := hread_c e 5 rfl
    have f6 : hcel h' b (o + 6) = some (.int .i64 (q + 6)) := hread_c e 6 rfl
    have f7 : hcel h' b (o + 7) = some (.string ⟨(mT (q + 7)).toArray⟩) := hread_c e 7 rfl
    have f8 : hcel h' b (o + 8) = some (.int .i64 (q + 8)) := hread_c e 8 rfl
    have f9 : hcel h' b (o + 9) = some (.int .i64 (q + 9)) := hread_c e 9 rfl
    have fs1 : hcel h' b (o + 10) = some v1 := hread_c e 10 rfl
    have fs2 : hcel h' b (o + 11) = some v2 := hread_c e 11 rfl
    simp (disch := omega) only [walk, lists, acts, mem, plain, seqs, maps, cells, resL, resV, intBin, seval, hx, f0, f1, f2, f3, f4, f5, f6, f7, f8, f9, fs1, fs2, wrapI, Int.add_assoc, Int.reduceAdd, strBin, str_inj]
    refine vc_draw _ (Sub.refl _) ?_
    simp (disch := omega) only [walk, lists, acts, mem, plain, seqs, maps, cells, resL, resV, intBin, seval, hx, f0, f1, f2, f3, f4, f5, f6, f7, f8, f9, fs1, fs2, wrapI, Int.add_assoc, Int.reduceAdd, strBin, str_inj]
    refine markText_c (k := q + 7) (by omega) ?_
    simp (disch := omega) only [walk, lists, acts, mem, plain, seqs, maps, cells, resL, resV, intBin, seval, hx, f0, f1, f2, f3, f4, f5, f6, f7, f8, f9, fs1, fs2, wrapI, Int.add_assoc, Int.reduceAdd, strBin, str_inj]
    refine heldIntS_c s1 (by show mks (q + 10) E.locked.length = mks (q + 10) (mks (q + 10) E.locked.length).length; rw [mks_len]) (by show (mks (q + 10) E.locked.length).length ≤ _; rw [mks_len]; omega) (by omega) ?_
    rw [show (((mkLive mT) q E).locked).length = E.locked.length from mks_len _ _]
    simp (disch := omega) only [walk, lists, acts, mem, plain, seqs, maps, cells, resL, resV, intBin, seval, hx, f0, f1, f2, f3, f4, f5, f6, f7, f8, f9, fs1, fs2, wrapI, strBin, str_inj]
    refine ite_lt (fun c => absurd c (by omega)) fun _ => ?_
    try simp (disch := omega) only [walk, lists, acts, mem, plain, seqs, maps, cells, resL, resV, intBin, seval, hx, f0, f1, f2, f3, f4, f5, f6, f7, f8, f9, fs1, fs2, wrapI, strBin, str_inj]
    refine heldToldS_c s2 (by omega) (by have := @len_le_Told E.told; omega) (by omega) ?_
    simp (disch := omega) only [walk, lists, acts, mem, plain, seqs, maps, cells, resL, resV, intBin, seval, hx, f0, f1, f2, f3, f4, f5, f6, f7, f8, f9, fs1, fs2, wrapI, strBin, str_inj]
    refine ite_lt (fun c => absurd c (by omega)) fun _ => ?_
    try simp (disch := omega) only [walk, lists, acts, mem, plain, seqs, maps, cells, resL, resV, intBin, seval, hx, f0, f1, f2, f3, f4, f5, f6, f7, f8, f9, fs1, fs2, wrapI, strBin, str_inj]
    refine ⟨l.length - (i + 1), by omega, h', .refl _, i + 1, ?_, rfl, by omega, rfl⟩
    rw [hsum, hcn]
    simp only [List.cons.injEq, Value.int.injEq, and_true, true_and]
    refine ⟨by omega, by omega⟩
  · have hi' : i = l.length := by omega
    subst hi'
    rw [List.take_length] at *
    exact .of kr

end Go.Proofs.YtmfhlkkligcgdaaGreatDoor
end

/- What the laws compare: gates. -/
section
set_option linter.unusedVariables false
set_option linter.unusedSimpArgs false
set_option maxRecDepth 20000
attribute [local irreducible] Go.Tk.vc Go.Tk.vops Go.Tk.vdr Go.Tk.vop Go.Tk.vfl Go.Tk.HCalls
namespace Go.Proofs.YtmfhlkkligcgdaaGreatDoor
open Go Go.Tk

theorem eqRecord_c {h : H} {x y : DRecord} {v1 v2 w1 w2 : Value} (rx : sRecord h x v1 v2) (ry : sRecord h y w1 w2) (hx : bRecord x) {R : Ending → H → Prop} (k : R (.returned (.bool (decide (x = y)))) h) :
    HCalls Tryz.prog 69 #[.agg (cRecord x v1 v2).toArray, .agg (cRecord y w1 w2).toArray] h R := by
  refine HCalls_ir (args := [.agg (cRecord x v1 v2).toArray, .agg (cRecord y w1 w2).toArray]) Tryz.func69 ir69 ?_
  simp only [walk, lists, acts, mem, plain, seqs, maps, cells, resL, resV, intBin, seval, wRecord]
  refine newB_intro fun j1 h1 => ?_
  simp only [walk, lists, acts, mem, plain, seqs, maps, cells, resL, resV, intBin, seval, wRecord]
  refine newB_intro fun j2 h2 => ?_
  have n := fresh h2
  have sb := fun o => Sub.cons (o := o) h2 (Sub.cons h1 (Sub.refl h))
  simp only [walk, lists, acts, mem, plain, seqs, maps, cells, resL, resV, intBin, seval, wRecord, wCall, n.1, n.2.1]
  refine ite_ne (fun d => ⟨h, Sub.cons h2 (Sub.cons h1 (Sub.refl h)), kF k (fun e => d (by rw [e]))⟩) fun d0 => ?_
  refine ite_ne (fun d => ⟨h, Sub.cons h2 (Sub.cons h1 (Sub.refl h)), kF k (fun e => d (by rw [e]))⟩) fun d1 => ?_
  refine eqCall_c (x := x.call) (y := y.call) ?_
  simp only [walk, lists, acts, mem, plain, seqs, maps, cells, resL, resV, intBin, seval, wRecord, wCall, n.1, n.2.1]
  refine ite_ne (fun d => ⟨h, Sub.cons h2 (Sub.cons h1 (Sub.refl h)), kF k (fun e => d (by rw [e]))⟩) fun d2 => ?_
  refine ite_ne (fun d => ⟨h, Sub.cons h2 (Sub.cons h1 (Sub.refl h)), kF k (fun e => d (by rw [e]))⟩) fun d3 => ?_
  refine eqIntS_c (rx.1.sub (sb _)) (ry.1.sub (sb _)) (by have := hx.v; unfold lim at this; omega) ?_
  simp only [walk, lists, acts, mem, plain, seqs, maps, cells, resL, resV, intBin, seval, wRecord, wCall, n.1, n.2.1]
  refine ite_ne (fun d => ⟨h, Sub.cons h2 (Sub.cons h1 (Sub.refl h)), kF k (fun e => d (by rw [e]))⟩) fun d4 => ?_
  refine eqPairS_c (rx.2.sub (sb _)) (ry.2.sub (sb _)) (by have := hx.p; unfold lim at this; omega) ?_
  simp only [walk, lists, acts, mem, plain, seqs, maps, cells, resL, resV, intBin, seval, wRecord, wCall, n.1, n.2.1]
  refine ite_ne (fun d => ⟨h, Sub.cons h2 (Sub.cons h1 (Sub.refl h)), kF k (fun e => d (by rw [e]))⟩) fun d5 => ?_
  refine ⟨h, Sub.cons h2 (Sub.cons h1 (Sub.refl h)), kT k ?_⟩
  cases x; cases y; simp_all

theorem eqRecordS_c {h : H} {a b : Value} {la lb : List DRecord} (ra : rRs h (rRecord h) 11 a la) (rb : rRs h (rRecord h) 11 b lb) (hb : ∀ x ∈ la, bRecord x) (ha : la.length ≤ 1099511627776) {R : Ending → H → Prop} (k : R (.returned (.bool (decide (la = lb)))) h) :
    HCalls Tryz.prog 37 #[a, b] h R := by
  refine HCalls_ir (args := [a, b]) Tryz.func37 ir37 ?_
  simp only [walk, lists, acts, mem, plain, seqs, maps, cells, resL, resV, intBin, seval, ra.len, rb.len]
  split
  · rename_i c
    exact .of (kF k fun e => c (by rw [e]))
  · rename_i c
    have hl : la.length = lb.length := by omega
    refine vc_loop [5] (fun n vs h' => ∃ i : Nat, vs = [.int .i64 i] ∧ h' = h ∧ i ≤ la.length ∧ n = la.length - i ∧ la.take i = lb.take i) la.length rfl ⟨0, rfl, rfl, by omega, by omega, by simp⟩ ?_
    rintro n f h' ⟨i, hv, rfl, hi, rfl, ht⟩
    simp only [List.map_cons, List.map_nil, List.cons.injEq, and_true] at hv
    simp only [walk, lists, acts, mem, plain, seqs, maps, cells, resL, resV, intBin, seval, wr, hv, ra.len, rb.len]
    split
    · rename_i c1
      have hia : i < la.length := by omega
      have hib : i < lb.length := by omega
      obtain ⟨b1, o1, cs1, hx1, e1, v1, v2, rfl, s1⟩ := rs_at ra hia
      obtain ⟨b2, o2, cs2, hx2, e2, w1, w2, rfl, s2⟩ := rs_at rb hib
      refine vc_draw h' (Sub.refl _) ?_
      simp only [walk, lists, acts, mem, plain, seqs, maps, cells, resL, resV, intBin, seval, hx1, hx2, e1, e2, Sub.refl h']
      refine eqRecord_c s1 s2 (hb _ (List.getElem_mem hia)) ?_
      simp only [walk, lists, acts, mem, plain, seqs, maps, cells, resL, resV, intBin, seval, Sub.refl h']
      refine ite_ne (fun d => .of (kF k (ne_at hia hib d))) fun d => ?_
      simp (disch := omega) only [wrapI]
      exact ⟨la.length - (i + 1), by omega, h', .refl _, i + 1, by simp, rfl, by omega, rfl, take_more hia hib ht d⟩
    · rename_i c1
      exact .of (kT k (take_all (by omega) hl ht))

theorem eqTold_c {h : H} {x y : DTold} {v1 w1 : Value} (rx : sTold h x v1) (ry : sTold h y w1) (hx : bTold x) {R : Ending → H → Prop} (k : R (.returned (.bool (decide (x = y)))) h) :
    HCalls Tryz.prog 132 #[.agg (cTold x v1).toArray, .agg (cTold y w1).toArray] h R := by
  refine HCalls_ir (args := [.agg (cTold x v1).toArray, .agg (cTold y w1).toArray]) Tryz.func132 ir132 ?_
  simp only [walk, lists, acts, mem, plain, seqs, maps, cells, resL, resV, intBin, seval, wTold]
  refine newB_intro fun j1 h1 => ?_
  simp only [walk, lists, acts, mem, plain, seqs, maps, cells, resL, resV, intBin, seval, wTold]
  refine newB_intro fun j2 h2 => ?_
  have n := fresh h2
  have sb := fun o => Sub.cons (o := o) h2 (Sub.cons h1 (Sub.refl h))
  simp only [walk, lists, acts, mem, plain, seqs, maps, cells, resL, resV, intBin, seval, wTold, wCall, n.1, n.2.1]
  refine ite_ne (fun d => ⟨h, Sub.cons h2 (Sub.cons h1 (Sub.refl h)), kF k (fun e => d (by rw [e]))⟩) fun d0 => ?_
  refine eqPairS_c (rx.sub (sb _)) (ry.sub (sb _)) (by have := hx; unfold bTold lim at this; omega) ?_
  simp only [walk, lists, acts, mem, plain, seqs, maps, cells, resL, resV, intBin, seval, wTold, wCall, n.1, n.2.1]
  refine ite_ne (fun d => ⟨h, Sub.cons h2 (Sub.cons h1 (Sub.refl h)), kF k (fun e => d (by rw [e]))⟩) fun d1 => ?_
  refine ⟨h, Sub.cons h2 (Sub.cons h1 (Sub.refl h)), kT k ?_⟩
  cases x; cases y; simp_all

theorem eqToldS_c {h : H} {a b : Value} {la lb : List DTold} (ra : rRs h (rTold h) 2 a la) (rb : rRs h (rTold h) 2 b lb) (hb : ∀ x ∈ la, bTold x) (ha : la.length ≤ 1099511627776) {R : Ending → H → Prop} (k : R (.returned (.bool (decide (la = lb)))) h) :
    HCalls Tryz.prog 109 #[a, b] h R := by
  refine HCalls_ir (args := [a, b]) Tryz.func109 ir109 ?_
  simp only [walk, lists, acts, mem, plain, seqs, maps, cells, resL, resV, intBin, seval, ra.len, rb.len]
  split
  · rename_i c
    exact .of (kF k fun e => c (by rw [e]))
  · rename_i c
    have hl : la.length = lb.length := by omega
    refine vc_loop [5] (fun n vs h' => ∃ i : Nat, vs = [.int .i64 i] ∧ h' = h ∧ i ≤ la.length ∧ n = la.length - i ∧ la.take i = lb.take i) la.length rfl ⟨0, rfl, rfl, by omega, by omega, by simp⟩ ?_
    rintro n f h' ⟨i, hv, rfl, hi, rfl, ht⟩
    simp only [List.map_cons, List.map_nil, List.cons.injEq, and_true] at hv
    simp only [walk, lists, acts, mem, plain, seqs, maps, cells, resL, resV, intBin, seval, wr, hv, ra.len, rb.len]
    split
    · rename_i c1
      have hia : i < la.length := by omega
      have hib : i < lb.length := by omega
      obtain ⟨b1, o1, cs1, hx1, e1, v1, rfl, s1⟩ := rs_at ra hia
      obtain ⟨b2, o2, cs2, hx2, e2, w1, rfl, s2⟩ := rs_at rb hib
      refine vc_draw h' (Sub.refl _) ?_
      simp only [walk, lists, acts, mem, plain, seqs, maps, cells, resL, resV, intBin, seval, hx1, hx2, e1, e2, Sub.refl h']
      refine eqTold_c s1 s2 (hb _ (List.getElem_mem hia)) ?_
      simp only [walk, lists, acts, mem, plain, seqs, maps, cells, resL, resV, intBin, seval, Sub.refl h']
      refine ite_ne (fun d => .of (kF k (ne_at hia hib d))) fun d => ?_
      simp (disch := omega) only [wrapI]
      exact ⟨la.length - (i + 1), by omega, h', .refl _, i + 1, by simp, rfl, by omega, rfl, take_more hia hib ht d⟩
    · rename_i c1
      exact .of (kT k (take_all (by omega) hl ht))

theorem eqLive_c {h : H} {x y : DLive} {v1 v2 w1 w2 : Value} (rx : sLive h x v1 v2) (ry : sLive h y w1 w2) (hx : bLive x) {R : Ending → H → Prop} (k : R (.returned (.bool (decide (x = y)))) h) :
    HCalls Tryz.prog 70 #[.agg (cLive x v1 v2).toArray, .agg (cLive y w1 w2).toArray] h R := by
  refine HCalls_ir (args := [.agg (cLive x v1 v2).toArray, .agg (cLive y w1 w2).toArray]) Tryz.func70 ir70 ?_
  simp only [walk, lists, acts, mem, plain, seqs, maps, cells, resL, resV, intBin, seval, wLive]
  refine newB_intro fun j1 h1 => ?_
  simp only [walk, lists, acts, mem, plain, seqs, maps, cells, resL, resV, intBin, seval, wLive]
  refine newB_intro fun j2 h2 => ?_
  have n := fresh h2
  have sb := fun o => Sub.cons (o := o) h2 (Sub.cons h1 (Sub.refl h))
  simp only [walk, lists, acts, mem, plain, seqs, maps, cells, resL, resV, intBin, seval, wLive, wCall, n.1, n.2.1]
  refine ite_ne (fun d => ⟨h, Sub.cons h2 (Sub.cons h1 (Sub.refl h)), kF k (fun e => d (by rw [e]))⟩) fun d0 => ?_
  refine ite_ne (fun d => ⟨h, Sub.cons h2 (Sub.cons h1 (Sub.refl h)), kF k (fun e => d (by rw [e]))⟩) fun d1 => ?_
  refine ite_ne (fun d => ⟨h, Sub.cons h2 (Sub.cons h1 (Sub.refl h)), kF k (fun e => d (by rw [e]))⟩) fun d2 => ?_
  refine ite_ne (fun d => ⟨h, Sub.cons h2 (Sub.cons h1 (Sub.refl h)), kF k (fun e => d (by rw [e]))⟩) fun d3 => ?_
  refine eqCall_c (x := x.call) (y := y.call) ?_
  simp only [walk, lists, acts, mem, plain, seqs, maps, cells, resL, resV, intBin, seval, wLive, wCall, n.1, n.2.1]
  refine ite_ne (fun d => ⟨h, Sub.cons h2 (Sub.cons h1 (Sub.refl h)), kF k (fun e => d (by rw [e]))⟩) fun d4 => ?_
  refine eqIntS_c (rx.1.sub (sb _)) (ry.1.sub (sb _)) (by have := hx.l; unfold lim at this; omega) ?_
  simp only [walk, lists, acts, mem, plain, seqs, maps, cells, resL, resV, intBin, seval, wLive, wCall, n.1, n.2.1]
  refine ite_ne (fun d => ⟨h, Sub.cons h2 (Sub.cons h1 (Sub.refl h)), kF k (fun e => d (by rw [e]))⟩) fun d5 => ?_
  refine eqToldS_c (rx.2.sub (sb _) fun c a q => rTold.sub (sb _) q) (ry.2.sub (sb _) fun c a q => rTold.sub (sb _) q) hx.ts (by have := hx.t; unfold lim at this; omega) ?_
  simp only [walk, lists, acts, mem, plain, seqs, maps, cells, resL, resV, intBin, seval, wLive, wCall, n.1, n.2.1]
  refine ite_ne (fun d => ⟨h, Sub.cons h2 (Sub.cons h1 (Sub.refl h)), kF k (fun e => d (by rw [e]))⟩) fun d6 => ?_
  refine ⟨h, Sub.cons h2 (Sub.cons h1 (Sub.refl h)), kT k ?_⟩
  cases x; cases y; simp_all

theorem eqLiveS_c {h : H} {a b : Value} {la lb : List DLive} (ra : rRs h (rLive h) 12 a la) (rb : rRs h (rLive h) 12 b lb) (hb : ∀ x ∈ la, bLive x) (ha : la.length ≤ 1099511627776) {R : Ending → H → Prop} (k : R (.returned (.bool (decide (la = lb)))) h) :
    HCalls Tryz.prog 38 #[a, b] h R := by
  refine HCalls_ir (args := [a, b]) Tryz.func38 ir38 ?_
  simp only [walk, lists, acts, mem, plain, seqs, maps, cells, resL, resV, intBin, seval, ra.len, rb.len]
  split
  · rename_i c
    exact .of (kF k fun e => c (by rw [e]))
  · rename_i c
    have hl : la.length = lb.length := by omega
    refine vc_loop [5] (fun n vs h' => ∃ i : Nat, vs = [.int .i64 i] ∧ h' = h ∧ i ≤ la.length ∧ n = la.length - i ∧ la.take i = lb.take i) la.length rfl ⟨0, rfl, rfl, by omega, by omega, by simp⟩ ?_
    rintro n f h' ⟨i, hv, rfl, hi, rfl, ht⟩
    simp only [List.map_cons, List.map_nil, List.cons.injEq, and_true] at hv
    simp only [walk, lists, acts, mem, plain, seqs, maps, cells, resL, resV, intBin, seval, wr, hv, ra.len, rb.len]
    split
    · rename_i c1
      have hia : i < la.length := by omega
      have hib : i < lb.length := by omega
      obtain ⟨b1, o1, cs1, hx1, e1, v1, v2, rfl, s1⟩ := rs_at ra hia
      obtain ⟨b2, o2, cs2, hx2, e2, w1, w2, rfl, s2⟩ := rs_at rb hib
      refine vc_draw h' (Sub.refl _) ?_
      simp only [walk, lists, acts, mem, plain, seqs, maps, cells, resL, resV, intBin, seval, hx1, hx2, e1, e2, Sub.refl h']
      refine eqLive_c s1 s2 (hb _ (List.getElem_mem hia)) ?_
      simp only [walk, lists, acts, mem, plain, seqs, maps, cells, resL, resV, intBin, seval, Sub.refl h']
      refine ite_ne (fun d => .of (kF k (ne_at hia hib d))) fun d => ?_
      simp (disch := omega) only [wrapI]
      exact ⟨la.length - (i + 1), by omega, h', .refl _, i + 1, by simp, rfl, by omega, rfl, take_more hia hib ht d⟩
    · rename_i c1
      exact .of (kT k (take_all (by omega) hl ht))

end Go.Proofs.YtmfhlkkligcgdaaGreatDoor
end

/- What comes in: records, what houses told, calls under way; how much it is. -/
section
set_option linter.unusedVariables false
set_option linter.unusedSimpArgs false
set_option maxRecDepth 20000
attribute [local irreducible] Go.Tk.vc Go.Tk.vops Go.Tk.vdr Go.Tk.vop Go.Tk.vfl Go.Tk.HCalls
namespace Go.Proofs.YtmfhlkkligcgdaaGreatDoor
open Go Go.Tk

theorem szCallX_c {h : H} {c : DCall} {left : Int} (hl : 0 ≤ left ∧ left ≤ 1048576) (ht : c.text.length ≤ 9223372036854775807) {R : Ending → H → Prop}
    (k : ∀ x : Int, (0 ≤ x → x = left - c.text.length) → x ≤ 1048576 → R (.returned (.int .i64 x)) h) : HCalls Tryz.prog 85 #[.agg (cCall c).toArray, .int .i64 left] h R := by
  refine HCalls_ir (args := [.agg (cCall c).toArray, .int .i64 left]) Tryz.func85 ir85 ?_
  simp only [walk, lists, acts, mem, plain, seqs, maps, cells, resL, resV, intBin, seval, wCall]
  refine newB_intro fun j hj => ?_
  simp (disch := omega) only [walk, lists, acts, mem, plain, seqs, maps, cells, resL, resV, intBin, seval, wCall, wrapI]
  refine ite_lt (fun c => ⟨h, Sub.cons hj (Sub.refl h), k (-1) (by omega) (by omega)⟩) fun c => ?_
  exact ⟨h, Sub.cons hj (Sub.refl h), k _ (fun _ => by omega) (by omega)⟩

def nRecord (h : H) (cs : List Value) (d : DRecord) : Prop := ∃ v1 v2, cs = cRecord d v1 v2 ∧ rIn h eI 1 v1 d.vals ∧ rIn h eP 2 v2 d.pairs
theorem nRecord.sub {g h : H} (s : Tk.Sub g h) {cs : List Value} {d : DRecord} (r : nRecord g cs d) : nRecord h cs d := by
  obtain ⟨v1, v2, e, r1, r2⟩ := r
  exact ⟨v1, v2, e, rIn.sub s r1, rIn.sub s r2⟩
/-- No longer than can be. -/
def uRecord (d : DRecord) : Prop := d.call.text.length ≤ 9223372036854775807 ∧ d.vals.length ≤ 9223372036854775807 ∧ d.pairs.length ≤ 9223372036854775807
def nTold (h : H) (cs : List Value) (d : DTold) : Prop := ∃ v1, cs = cTold d v1 ∧ rIn h eP 2 v1 d.pairs
theorem nTold.sub {g h : H} (s : Tk.Sub g h) {cs : List Value} {d : DTold} (r : nTold g cs d) : nTold h cs d := by
  obtain ⟨v1, e, r1⟩ := r
  exact ⟨v1, e, rIn.sub s r1⟩
/-- No longer than can be. -/
def uTold (d : DTold) : Prop := d.pairs.length ≤ 9223372036854775807
def nLive (h : H) (cs : List Value) (d : DLive) : Prop := ∃ v1 v2, cs = cLive d v1 v2 ∧ rIn h eI 1 v1 d.locked ∧ rIRs h (nTold h) 2 v2 d.told
theorem nLive.sub {g h : H} (s : Tk.Sub g h) {cs : List Value} {d : DLive} (r : nLive g cs d) : nLive h cs d := by
  obtain ⟨v1, v2, e, r1, r2⟩ := r
  exact ⟨v1, v2, e, rIn.sub s r1, rIRs.sub s (fun _ _ q => nTold.sub s q) r2⟩
/-- No longer than can be. -/
def uLive (d : DLive) : Prop := d.call.text.length ≤ 9223372036854775807 ∧ d.locked.length ≤ 9223372036854775807 ∧ d.told.length ≤ 9223372036854775807 ∧ ∀ t ∈ d.told, uTold t
theorem szRecord_c {h : H} {d : DRecord} {v1 v2 : Value} {left : Int} (r1 : rIn h eI 1 v1 d.vals) (r2 : rIn h eP 2 v2 d.pairs) (hl : 0 ≤ left ∧ left ≤ 1048576) (hu : uRecord d) {R : Ending → H → Prop} (k : ∀ x, (0 ≤ x → x = left - szRec d) → x ≤ 1048576 → R (.returned (.int .i64 x)) h) :
    HCalls Tryz.prog 54 #[.agg (cRecord d v1 v2).toArray, .int .i64 left] h R := by
  refine HCalls_ir (args := [.agg (cRecord d v1 v2).toArray, .int .i64 left]) Tryz.func54 ir54 ?_
  unfold uRecord at hu
  unfold szRec at k
  simp only [walk, lists, acts, mem, plain, seqs, maps, cells, resL, resV, intBin, seval, wRecord]
  refine newB_intro fun j hj => ?_
  have sb := fun o => Sub.cons (o := o) hj (Sub.refl h)
  simp (disch := omega) only [walk, lists, acts, mem, plain, seqs, maps, cells, resL, resV, intBin, seval, wRecord, wCall]
  refine szCallX_c ⟨by omega, by omega⟩ (by have := hu.1; omega) fun x0 a0 b0 => ?_
  simp (disch := omega) only [walk, lists, acts, mem, plain, seqs, maps, cells, resL, resV, intBin, seval, wRecord, wCall]
  refine ite_lt (fun c => ⟨h, sb _, k _ (fun q => absurd q (by omega)) (by omega)⟩) fun c0 => ?_
  have a0' := a0 (by omega)
  try simp (disch := omega) only [walk, lists, acts, mem, plain, seqs, maps, cells, resL, resV, intBin, seval, wRecord, wCall]
  refine szIntS_c (r1.sub (sb _)) ⟨by omega, by omega⟩ (by have := hu.2.1; omega) fun x1 a1 b1 => ?_
  simp (disch := omega) only [walk, lists, acts, mem, plain, seqs, maps, cells, resL, resV, intBin, seval, wRecord, wCall]
  refine ite_lt (fun c => ⟨h, sb _, k _ (fun q => absurd q (by omega)) (by omega)⟩) fun c1 => ?_
  have a1' := a1 (by omega)
  try simp (disch := omega) only [walk, lists, acts, mem, plain, seqs, maps, cells, resL, resV, intBin, seval, wRecord, wCall]
  refine szPairS_c (r2.sub (sb _)) ⟨by omega, by omega⟩ (by have := hu.2.2; omega) fun x2 a2 b2 => ?_
  simp (disch := omega) only [walk, lists, acts, mem, plain, seqs, maps, cells, resL, resV, intBin, seval, wRecord, wCall]
  refine ite_lt (fun c => ⟨h, sb _, k _ (fun q => absurd q (by omega)) (by omega)⟩) fun c2 => ?_
  have a2' := a2 (by omega)
  try simp (disch := omega) only [walk, lists, acts, mem, plain, seqs, maps, cells, resL, resV, intBin, seval, wRecord, wCall]
  exact ⟨h, sb _, k _ (fun _ => by omega) (by omega)⟩

theorem szRecordS_c {h : H} {v : Value} {l : List DRecord} {left : Int} (r : rIRs h (nRecord h) 11 v l) (hl : 0 ≤ left ∧ left ≤ 1048576) (hb : l.length ≤ 9223372036854775807) (hu : ∀ d ∈ l, uRecord d) {R : Ending → H → Prop} (k : ∀ x, (0 ≤ x → x = left - (l.length + sumL szRec l : Nat)) → x ≤ 1048576 → R (.returned (.int .i64 x)) h) :
    HCalls Tryz.prog 26 #[v, .int .i64 left] h R := by
  refine HCalls_ir (args := [v, .int .i64 left]) Tryz.func26 ir26 ?_
  simp (disch := omega) only [walk, lists, acts, mem, plain, seqs, maps, cells, resL, resV, intBin, seval, r.len, wrapI]
  refine ite_lt (fun c => .of (k _ (fun q => absurd q (by omega)) (by omega))) fun c => ?_
  refine vc_loop [5, 1] (fun n vs h' => ∃ (i : Nat) (x : Int), vs = [.int .i64 i, .int .i64 x] ∧ h' = h ∧ i ≤ l.length ∧ n = l.length - i ∧ 0 ≤ x ∧ x = left - l.length - sumL szRec (l.take i)) l.length rfl ⟨0, _, rfl, rfl, by omega, rfl, by omega, by simp [sumL]⟩ ?_
  rintro n f h' ⟨i, x, hv, rfl, hi, rfl, hx0, hx1⟩
  simp only [List.map_cons, List.map_nil, List.cons.injEq, and_true] at hv
  simp only [walk, lists, acts, mem, plain, seqs, maps, cells, resL, resV, intBin, seval, wr, hv.1, hv.2, r.len]
  refine ite_lt (fun c1 => ?_) fun c1 => ?_
  · have hi2 : i < l.length := by omega
    have hsum := sumL_more szRec hi2
    obtain ⟨b1, o1, cs1, hx2, e1, v1, v2, rfl, q1, q2⟩ := r.at hi2
    simp only [walk, lists, acts, mem, plain, seqs, maps, cells, resL, resV, intBin, seval, hx2, e1]
    refine szRecord_c q1 q2 ⟨hx0, by omega⟩ (hu _ (List.getElem_mem hi2)) fun y hy1 hy2 => ?_
    simp only [walk, lists, acts, mem, plain, seqs, maps, cells, resL, resV, intBin, seval]
    refine ite_lt (fun c => .of (k _ (fun q => absurd q (by omega)) (by omega))) fun c3 => ?_
    have := hy1 (by omega)
    simp (disch := omega) only [walk, lists, acts, mem, plain, seqs, maps, cells, resL, resV, intBin, seval, wrapI]
    exact ⟨l.length - (i + 1), by omega, h', .refl _, i + 1, y, by simp, rfl, by omega, rfl, by omega, by omega⟩
  · have hi' : i = l.length := by omega
    subst hi'
    rw [List.take_length] at *
    exact .of (k _ (fun _ => by omega) (by omega))

theorem szTold_c {h : H} {d : DTold} {v1 : Value} {left : Int} (r1 : rIn h eP 2 v1 d.pairs) (hl : 0 ≤ left ∧ left ≤ 1048576) (hu : uTold d) {R : Ending → H → Prop} (k : ∀ x, (0 ≤ x → x = left - szTold d) → x ≤ 1048576 → R (.returned (.int .i64 x)) h) :
    HCalls Tryz.prog 117 #[.agg (cTold d v1).toArray, .int .i64 left] h R := by
  refine HCalls_ir (args := [.agg (cTold d v1).toArray, .int .i64 left]) Tryz.func117 ir117 ?_
  unfold uTold at hu
  unfold szTold at k
  simp only [walk, lists, acts, mem, plain, seqs, maps, cells, resL, resV, intBin, seval, wTold]
  refine newB_intro fun j hj => ?_
  have sb := fun o => Sub.cons (o := o) hj (Sub.refl h)
  simp (disch := omega) only [walk, lists, acts, mem, plain, seqs, maps, cells, resL, resV, intBin, seval, wTold, wCall]
  refine szPairS_c (r1.sub (sb _)) ⟨by omega, by omega⟩ (by have := hu; omega) fun x0 a0 b0 => ?_
  simp (disch := omega) only [walk, lists, acts, mem, plain, seqs, maps, cells, resL, resV, intBin, seval, wTold, wCall]
  refine ite_lt (fun c => ⟨h, sb _, k _ (fun q => absurd q (by omega)) (by omega)⟩) fun c0 => ?_
  have a0' := a0 (by omega)
  try simp (disch := omega) only [walk, lists, acts, mem, plain, seqs, maps, cells, resL, resV, intBin, seval, wTold, wCall]
  exact ⟨h, sb _, k _ (fun _ => by omega) (by omega)⟩

theorem szToldS_c {h : H} {v : Value} {l : List DTold} {left : Int} (r : rIRs h (nTold h) 2 v l) (hl : 0 ≤ left ∧ left ≤ 1048576) (hb : l.length ≤ 9223372036854775807) (hu : ∀ d ∈ l, uTold d) {R : Ending → H → Prop} (k : ∀ x, (0 ≤ x → x = left - (l.length + sumL szTold l : Nat)) → x ≤ 1048576 → R (.returned (.int .i64 x)) h) :
    HCalls Tryz.prog 88 #[v, .int .i64 left] h R := by
  refine HCalls_ir (args := [v, .int .i64 left]) Tryz.func88 ir88 ?_
  simp (disch := omega) only [walk, lists, acts, mem, plain, seqs, maps, cells, resL, resV, intBin, seval, r.len, wrapI]
  refine ite_lt (fun c => .of (k _ (fun q => absurd q (by omega)) (by omega))) fun c => ?_
  refine vc_loop [5, 1] (fun n vs h' => ∃ (i : Nat) (x : Int), vs = [.int .i64 i, .int .i64 x] ∧ h' = h ∧ i ≤ l.length ∧ n = l.length - i ∧ 0 ≤ x ∧ x = left - l.length - sumL szTold (l.take i)) l.length rfl ⟨0, _, rfl, rfl, by omega, rfl, by omega, by simp [sumL]⟩ ?_
  rintro n f h' ⟨i, x, hv, rfl, hi, rfl, hx0, hx1⟩
  simp only [List.map_cons, List.map_nil, List.cons.injEq, and_true] at hv
  simp only [walk, lists, acts, mem, plain, seqs, maps, cells, resL, resV, intBin, seval, wr, hv.1, hv.2, r.len]
  refine ite_lt (fun c1 => ?_) fun c1 => ?_
  · have hi2 : i < l.length := by omega
    have hsum := sumL_more szTold hi2
    obtain ⟨b1, o1, cs1, hx2, e1, v1, rfl, q1⟩ := r.at hi2
    simp only [walk, lists, acts, mem, plain, seqs, maps, cells, resL, resV, intBin, seval, hx2, e1]
    refine szTold_c q1 ⟨hx0, by omega⟩ (hu _ (List.getElem_mem hi2)) fun y hy1 hy2 => ?_
    simp only [walk, lists, acts, mem, plain, seqs, maps, cells, resL, resV, intBin, seval]
    refine ite_lt (fun c => .of (k _ (fun q => absurd q (by omega)) (by omega))) fun c3 => ?_
    have := hy1 (by omega)
    simp (disch := omega) only [walk, lists, acts, mem, plain, seqs, maps, cells, resL, resV, intBin, seval, wrapI]
    exact ⟨l.length - (i + 1), by omega, h', .refl _, i + 1, y, by simp, rfl, by omega, rfl, by omega, by omega⟩
  · have hi' : i = l.length := by omega
    subst hi'
    rw [List.take_length] at *
    exact .of (k _ (fun _ => by omega) (by omega))

theorem szLive_c {h : H} {d : DLive} {v1 v2 : Value} {left : Int} (r1 : rIn h eI 1 v1 d.locked) (r2 : rIRs h (nTold h) 2 v2 d.told) (hl : 0 ≤ left ∧ left ≤ 1048576) (hu : uLive d) {R : Ending → H → Prop} (k : ∀ x, (0 ≤ x → x = left - szLive d) → x ≤ 1048576 → R (.returned (.int .i64 x)) h) :
    HCalls Tryz.prog 55 #[.agg (cLive d v1 v2).toArray, .int .i64 left] h R := by
  refine HCalls_ir (args := [.agg (cLive d v1 v2).toArray, .int .i64 left]) Tryz.func55 ir55 ?_
  unfold uLive at hu
  unfold szLive at k
  simp only [walk, lists, acts, mem, plain, seqs, maps, cells, resL, resV, intBin, seval, wLive]
  refine newB_intro fun j hj => ?_
  have sb := fun o => Sub.cons (o := o) hj (Sub.refl h)
  simp (disch := omega) only [walk, lists, acts, mem, plain, seqs, maps, cells, resL, resV, intBin, seval, wLive, wCall]
  refine szCallX_c ⟨by omega, by omega⟩ (by have := hu.1; omega) fun x0 a0 b0 => ?_
  simp (disch := omega) only [walk, lists, acts, mem, plain, seqs, maps, cells, resL, resV, intBin, seval, wLive, wCall]
  refine ite_lt (fun c => ⟨h, sb _, k _ (fun q => absurd q (by omega)) (by omega)⟩) fun c0 => ?_
  have a0' := a0 (by omega)
  try simp (disch := omega) only [walk, lists, acts, mem, plain, seqs, maps, cells, resL, resV, intBin, seval, wLive, wCall]
  refine szIntS_c (r1.sub (sb _)) ⟨by omega, by omega⟩ (by have := hu.2.1; omega) fun x1 a1 b1 => ?_
  simp (disch := omega) only [walk, lists, acts, mem, plain, seqs, maps, cells, resL, resV, intBin, seval, wLive, wCall]
  refine ite_lt (fun c => ⟨h, sb _, k _ (fun q => absurd q (by omega)) (by omega)⟩) fun c1 => ?_
  have a1' := a1 (by omega)
  try simp (disch := omega) only [walk, lists, acts, mem, plain, seqs, maps, cells, resL, resV, intBin, seval, wLive, wCall]
  refine szToldS_c (r2.sub (sb _) fun _ _ q => nTold.sub (sb _) q) ⟨by omega, by omega⟩ (by have := hu.2.2.1; omega) hu.2.2.2 fun x2 a2 b2 => ?_
  simp (disch := omega) only [walk, lists, acts, mem, plain, seqs, maps, cells, resL, resV, intBin, seval, wLive, wCall]
  refine ite_lt (fun c => ⟨h, sb _, k _ (fun q => absurd q (by omega)) (by omega)⟩) fun c2 => ?_
  have a2' := a2 (by omega)
  try simp (disch := omega) only [walk, lists, acts, mem, plain, seqs, maps, cells, resL, resV, intBin, seval, wLive, wCall]
  exact ⟨h, sb _, k _ (fun _ => by omega) (by omega)⟩

theorem szLiveS_c {h : H} {v : Value} {l : List DLive} {left : Int} (r : rIRs h (nLive h) 12 v l) (hl : 0 ≤ left ∧ left ≤ 1048576) (hb : l.length ≤ 9223372036854775807) (hu : ∀ d ∈ l, uLive d) {R : Ending → H → Prop} (k : ∀ x, (0 ≤ x → x = left - (l.length + sumL szLive l : Nat)) → x ≤ 1048576 → R (.returned (.int .i64 x)) h) :
    HCalls Tryz.prog 27 #[v, .int .i64 left] h R := by
  refine HCalls_ir (args := [v, .int .i64 left]) Tryz.func27 ir27 ?_
  simp (disch := omega) only [walk, lists, acts, mem, plain, seqs, maps, cells, resL, resV, intBin, seval, r.len, wrapI]
  refine ite_lt (fun c => .of (k _ (fun q => absurd q (by omega)) (by omega))) fun c => ?_
  refine vc_loop [5, 1] (fun n vs h' => ∃ (i : Nat) (x : Int), vs = [.int .i64 i, .int .i64 x] ∧ h' = h ∧ i ≤ l.length ∧ n = l.length - i ∧ 0 ≤ x ∧ x = left - l.length - sumL szLive (l.take i)) l.length rfl ⟨0, _, rfl, rfl, by omega, rfl, by omega, by simp [sumL]⟩ ?_
  rintro n f h' ⟨i, x, hv, rfl, hi, rfl, hx0, hx1⟩
  simp only [List.map_cons, List.map_nil, List.cons.injEq, and_true] at hv
  simp only [walk, lists, acts, mem, plain, seqs, maps, cells, resL, resV, intBin, seval, wr, hv.1, hv.2, r.len]
  refine ite_lt (fun c1 => ?_) fun c1 => ?_
  · have hi2 : i < l.length := by omega
    have hsum := sumL_more szLive hi2
    obtain ⟨b1, o1, cs1, hx2, e1, v1, v2, rfl, q1, q2⟩ := r.at hi2
    simp only [walk, lists, acts, mem, plain, seqs, maps, cells, resL, resV, intBin, seval, hx2, e1]
    refine szLive_c q1 q2 ⟨hx0, by omega⟩ (hu _ (List.getElem_mem hi2)) fun y hy1 hy2 => ?_
    simp only [walk, lists, acts, mem, plain, seqs, maps, cells, resL, resV, intBin, seval]
    refine ite_lt (fun c => .of (k _ (fun q => absurd q (by omega)) (by omega))) fun c3 => ?_
    have := hy1 (by omega)
    simp (disch := omega) only [walk, lists, acts, mem, plain, seqs, maps, cells, resL, resV, intBin, seval, wrapI]
    exact ⟨l.length - (i + 1), by omega, h', .refl _, i + 1, y, by simp, rfl, by omega, rfl, by omega, by omega⟩
  · have hi' : i = l.length := by omega
    subst hi'
    rw [List.take_length] at *
    exact .of (k _ (fun _ => by omega) (by omega))

end Go.Proofs.YtmfhlkkligcgdaaGreatDoor
end
