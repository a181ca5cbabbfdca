/- Parts of the proof, put together: V4, V5, V6, V7, V10, Y4, Y6. -/
import Derived.Test.YtmfhlkkligcgdaaGreatDoorK1017
import Derived.Test.YtmfhlkkligcgdaaGreatDoorK1013
import Derived.Test.YtmfhlkkligcgdaaGreatDoorK1014
import Derived.Test.YtmfhlkkligcgdaaGreatDoorK1016
/- How the program reads a statement. -/
section
set_option linter.unusedVariables false
set_option linter.unusedSimpArgs false
set_option maxRecDepth 20000
attribute [local irreducible] Go.Tk.vc Go.Tk.vops Go.Tk.vdr Go.Tk.vop Go.Tk.vfl Go.Tk.HCalls
namespace Go.Tk
open Go
def tb4 : List (List UInt8) := [[103, 101, 116], [112, 117, 116], [97, 100, 100], [110, 101, 101, 100]]
theorem tb4_nm {n : Int} (h : 1 ≤ n ∧ n ≤ 4) : ∃ (i : Nat) (hi : i < tb4.length), (i : Int) = n - 1 ∧ tb4[i] = nmD n ∧ ∀ j (hj : j < i), tb4[j]'(by omega) ≠ nmD n := by
  have : n = 1 ∨ n = 2 ∨ n = 3 ∨ n = 4 := by omega
  rcases this with rfl | rfl | rfl | rfl
  · refine ⟨0, by decide, rfl, rfl, fun j hj => ?_⟩
    exact absurd hj (Nat.not_lt_zero _)
  · refine ⟨1, by decide, rfl, rfl, fun j hj => ?_⟩
    have : j = 0 := by omega
    subst this
    show ([103, 101, 116] : List UInt8) ≠ [112, 117, 116]
    decide
  · refine ⟨2, by decide, rfl, rfl, fun j hj => ?_⟩
    have : j = 0 ∨ j = 1 := by omega
    rcases this with rfl | rfl
    · show ([103, 101, 116] : List UInt8) ≠ [97, 100, 100]
      decide
    · show ([112, 117, 116] : List UInt8) ≠ [97, 100, 100]
      decide
  · refine ⟨3, by decide, rfl, rfl, fun j hj => ?_⟩
    have : j = 0 ∨ j = 1 ∨ j = 2 := by omega
    rcases this with rfl | rfl | rfl
    · show ([103, 101, 116] : List UInt8) ≠ [110, 101, 101, 100]
      decide
    · show ([112, 117, 116] : List UInt8) ≠ [110, 101, 101, 100]
      decide
    · show ([97, 100, 100] : List UInt8) ≠ [110, 101, 101, 100]
      decide
end Go.Tk
namespace Go.Proofs.YtmfhlkkligcgdaaGreatDoor
open Go Go.Tk

theorem readStatement_c {h : H} {s : List UInt8} (gl : Gl h) (gm : MxL h) (hs : s.length ≤ 4000000) {R : Ending → H → Prop} (k : ∀ x ok, (∀ st, stP st → s = stW st → ok = true ∧ x = st) → R (.returned (.tuple #[.agg (cStatement x).toArray, .bool ok])) h) :
    HCalls Tryz.prog 138 #[.string ⟨s.toArray⟩] h R := by
  refine HCalls_ir (args := [.string ⟨s.toArray⟩]) Tryz.func138 ir138 ?_
  have zs := zStatement_eq
  simp only [walk, lists, acts, mem, plain, seqs, maps, cells, resL, resV, intBin, seval, str, zs]
  refine newB_intro fun j2 hj2 => ?_
  have s2 := fun o => Sub.cons (o := o) hj2 (Sub.refl h)
  simp only [walk, lists, acts, mem, plain, seqs, maps, cells, resL, resV, intBin, seval, str, zs]
  refine split_c (c := 32) (gm.sub (s2 _)) (by omega) fun wv gw ow dw => ?_
  obtain ⟨ws, hws⟩ : ∃ ws, ws = splitB 32 s := ⟨_, rfl⟩
  rw [← hws] at ow
  have dwx := dw
  simp only [subs] at dwx
  obtain ⟨w0, wr0, hw0⟩ : ∃ w0 wr0, ws = w0 :: wr0 := by
    cases e : ws with
    | nil => exact absurd (hws.symm.trans e) (splitB_ne _ _)
    | cons a b => exact ⟨a, b, rfl⟩
  have hwsl : ws.length ≤ 4000001 ∧ ∀ w ∈ ws, w.length ≤ 4000000 := by
    have := splitB_len 32 s
    rw [hws]
    exact ⟨by omega, fun w hw => by have := this.2 w hw; omega⟩
  have stw : ∀ st, s = stW st → ws = wordsD st := fun st e => by rw [hws, e, stW_split]
  have sM : ∀ o, Tk.Sub h (gw ++ ((j2, o) :: h)) := fun o => by (repeat' first | exact Sub.refl _ | exact Sub.nil _ | assumption | refine Sub.both ?_ ?_ | refine Sub.cons_of (by simp only [subs, dwx, hj2]) ?_ | exact Sub.left _ _ | refine Sub.app (by simp only [subs, dwx, hj2]) ?_ | refine Sub.cons (by simp only [subs, dwx, hj2]) ?_)
  have rW : ∀ o, rLs (gw ++ ((j2, o) :: h)) eT 1 wv ws := fun o => ow.rd.sub (Sub.left _ _)
  have rWl : ∀ {f : Value → Prop}, lenSK wv f = f (.int .i64 ws.length) := fun {f} => (rW (blk [] 0)).len (f := f)
  simp only [walk, lists, acts, mem, plain, seqs, maps, cells, resL, resV, intBin, seval, str, zs]
  refine newB_intro (o := blk (fl eT tb4) 9) fun j5 hj5 => ?_
  have n5 := hj5
  simp only [subs] at n5
  have s5 := Sub.cons (o := blk (fl eT tb4) 9) hj5 (Sub.refl (gw ++ ((j2, blk (cStatement zStatement) 161) :: h)))
  simp only [walk, lists, acts, mem, plain, seqs, maps, cells, resL, resV, intBin, seval, str, zs]
  refine idx_leaf (i := 0) eT_len ((rW _).sub s5) rfl (by rw [hw0]; simp) fun b2 o2 e2 => ?_
  have e2' : hread ((j5, blk (fl eT tb4) 9) :: (gw ++ ((j2, blk (cStatement zStatement) 161) :: h))) b2 o2 1 = some [.string ⟨w0.toArray⟩] := by rw [e2]; simp only [hw0]; rfl
  simp only [walk, lists, acts, mem, plain, seqs, maps, cells, resL, resV, intBin, seval, hread_1 e2', str, zs]
  refine index_of_c (rL_lit eT_len tb4) (by decide) fun n hn1 hn2 hn3 => ?_
  have hn4 : n < 4 := hn3.2
  have hdo : ∀ st, stP st → s = stW st → n + 1 = st.do_ := fun st hst e => by
    have hw := stw st e
    rw [hw0] at hw
    have hd := hst.1
    unfold inP at hd
    obtain ⟨i, hi, h1, h2, h3⟩ := tb4_nm (n := st.do_) hd
    rw [← (List.cons.inj hw).1] at h2 h3
    have := hn1 i hi h2 h3
    omega
  have wlen : ∀ st, s = stW st → ws.length = if st.do_ = 1 then 2 else 3 := fun st e => by rw [stw st e, words_len]
  have w1 : ∀ st, s = stW st → ∀ (h1 : 1 < ws.length), ws[1] = decI st.key := fun st e h1 => by
    have : ∀ (m : List (List UInt8)) (hm : 1 < m.length), m = wordsD st → m[1] = decI st.key := by rintro m hm rfl; rfl
    exact this ws h1 (stw st e)
  have w2 : ∀ st, s = stW st → ∀ (h1 : 2 < ws.length), ws[2] = decI st.num := fun st e h1 => by
    have : ∀ (m : List (List UInt8)) (hm : 2 < m.length), m = wordsD st → m[2] = decI st.num := by
      rintro m hm rfl
      unfold wordsD at hm ⊢
      by_cases c : st.do_ = 1
      · simp only [if_pos c, List.length_cons, List.length_nil] at hm; omega
      · simp only [if_neg c]; rfl
    exact this ws h1 (stw st e)
  have eqS : ∀ {a b : DStatement}, a.do_ = b.do_ → a.key = b.key → a.num = b.num → a = b := fun {a b} h1 h2 h3 => by
    obtain ⟨a1, a2, a3⟩ := a
    obtain ⟨b1, b2, b3⟩ := b
    simp only at h1 h2 h3
    rw [h1, h2, h3]
  have bad : ∀ {o : Obj} {x : DStatement} {M : H}, Tk.Sub h M → (∀ st, stP st → s = stW st → False) → dP R (.returned (.tuple #[.agg (cStatement x).toArray, .bool false])) M := fun {o x M} sm e => ⟨h, sm, k x false fun st a b => (e st a b).elim⟩
  have e25 : ¬ j2 = j5 := fun e => n5.2.1 e.symm
  have sH : ∀ o, Tk.Sub h ((j5, blk (fl eT tb4) 9) :: (gw ++ ((j2, o) :: h))) := fun o => by (repeat' first | exact Sub.refl _ | exact Sub.nil _ | assumption | refine Sub.both ?_ ?_ | refine Sub.cons_of (by simp only [subs, dwx, hj2, n5]) ?_ | exact Sub.left _ _ | refine Sub.app (by simp only [subs, dwx, hj2, n5]) ?_ | refine Sub.cons (by simp only [subs, dwx, hj2, n5]) ?_)
  simp (disch := omega) only [walk, lists, acts, mem, plain, seqs, maps, cells, resL, resV, intBin, seval, str, zs, wrapI, rWl]
  have a1 : ∀ st, stP st → s = stW st → ∀ (h1 : 1 < ws.length), Lib.atoiAll ws[1] = .ok st.key := fun st hst e h1 => by rw [w1 st e h1]; exact atoi_dec (stP_sm hst).1
  have a2 : ∀ st, stP st → s = stW st → ∀ (h1 : 2 < ws.length), Lib.atoiAll ws[2] = .ok st.num := fun st hst e h1 => by rw [w2 st e h1]; exact atoi_dec (stP_sm hst).2
  refine ite_pos (fun c1 => ?_) fun c1 => ?_
  · have c0 : ¬ (1 + n = 0) := by omega
    simp (disch := omega) only [walk, lists, acts, mem, plain, seqs, maps, cells, resL, resV, intBin, seval, wStatement, str, zs, wrapI, rWl, c0, if_false]
    simp only [walk, lists, acts, mem, plain, seqs, maps, cells, resL, resV, intBin, seval, wStatement, str, zs, apps, dwx, e25]
    refine ite_ne (fun c2 => bad (o := blk [] 0) (sH _) fun st hst e => ?_) fun c2 => ?_
    · have := wlen st e
      rw [if_pos (by have := hdo st hst e; omega)] at this
      omega
    refine newB_intro fun j7 hj7 => ?_
    have n7 := hj7
    simp only [subs] at n7
    have e75 : ¬ j5 = j7 := fun e => n7.1 e.symm
    have e72 : ¬ j2 = j7 := fun e => n7.2.2.1 e.symm
    have s7 := fun o => Sub.cons (o := o) hj7 (Sub.refl ((j5, blk (fl eT tb4) 9) :: (gw ++ ((j2, blk (cStatement zStatement) 161) :: h))))
    simp only [walk, lists, acts, mem, plain, seqs, maps, cells, resL, resV, intBin, seval, wStatement, str, zs, apps, dwx, e25, e75, e72]
    have l1 : 1 < ws.length := by omega
    refine idx_leaf (i := 1) eT_len (((rW _).sub s5).sub (s7 (blk (cStatement { zStatement with do_ := 1 + n }) 161))) rfl l1 fun b3 o3 e3 => ?_
    have e3' : hread ((j7, blk (cStatement { zStatement with do_ := 1 + n }) 161) :: ((j5, blk (fl eT tb4) 9) :: (gw ++ ((j2, blk (cStatement zStatement) 161) :: h)))) b3 o3 1 = some [.string ⟨(ws[1]).toArray⟩] := e3
    simp only [walk, lists, acts, mem, plain, seqs, maps, cells, resL, resV, intBin, seval, hread_1 e3', wStatement, str, zs]
    refine atoiL_c (gl.sub ((sH _).trans (s7 _))) (by have := hwsl.2 _ (List.getElem_mem l1); omega) fun n1 x1 hn1 rn1 tn1 => ?_
    have bd1 : x1 ≠ .nilIface → ∀ st, stP st → s = stW st → False := fun hx st hst e => hx (hn1 _ (a1 st hst e l1)).2
    simp only [walk, lists, acts, mem, plain, seqs, maps, cells, resL, resV, intBin, seval, wStatement, str, zs, apps, dwx, e25, e75, e72]
    rcases tn1 with rfl | ⟨y1, p1, rfl⟩
    rotate_left
    · simp only [walk, lists, acts, mem, plain, seqs, maps, cells, resL, resV, intBin, seval, wStatement, str, zs, apps, dwx, e25, e75, e72]
      exact bad (o := blk [] 0) ((sH _).trans (s7 _)) (bd1 (by simp))
    simp only [walk, lists, acts, mem, plain, seqs, maps, cells, resL, resV, intBin, seval, wStatement, str, zs, apps, dwx, e25, e75, e72]
    refine ⟨rfl, ⟨h, (sH _).trans (Sub.cons (by simp only [subs, n7]) (Sub.refl _)), k _ true fun st hst e => ⟨rfl, eqS ?_ ?_ ?_⟩⟩⟩
    · show 1 + n = st.do_
      have := hdo st hst e; omega
    · exact (hn1 _ (a1 st hst e l1)).1
    · exact (hst.2.2.2 (by have := hdo st hst e; omega)).symm
  · refine ite_pos (fun c0 => ?_) fun c0 => ?_
    · simp only [walk, lists, acts, mem, plain, seqs, maps, cells, resL, resV, intBin, seval, wStatement, str, zs, apps, dwx, e25]
      refine bad (o := blk [] 0) (sH _) fun st hst e => ?_
      have h1 := hdo st hst e
      have h2 := hst.1
      unfold inP at h2
      omega
    · simp (disch := omega) only [walk, lists, acts, mem, plain, seqs, maps, cells, resL, resV, intBin, seval, wStatement, str, zs, wrapI, rWl]
      simp only [walk, lists, acts, mem, plain, seqs, maps, cells, resL, resV, intBin, seval, wStatement, str, zs, apps, dwx, e25]
      refine ite_ne (fun c2 => bad (o := blk [] 0) (sH _) fun st hst e => ?_) fun c2 => ?_
      · have := wlen st e
        rw [if_neg (by have := hdo st hst e; omega)] at this
        omega
      refine newB_intro fun j7 hj7 => ?_
      have n7 := hj7
      simp only [subs] at n7
      have e75 : ¬ j5 = j7 := fun e => n7.1 e.symm
      have e72 : ¬ j2 = j7 := fun e => n7.2.2.1 e.symm
      have s7 := fun o => Sub.cons (o := o) hj7 (Sub.refl ((j5, blk (fl eT tb4) 9) :: (gw ++ ((j2, blk (cStatement zStatement) 161) :: h))))
      simp only [walk, lists, acts, mem, plain, seqs, maps, cells, resL, resV, intBin, seval, wStatement, str, zs, apps, dwx, e25, e75, e72]
      have l1 : 1 < ws.length := by omega
      have l2 : 2 < ws.length := by omega
      refine idx_leaf (i := 1) eT_len (((rW _).sub s5).sub (s7 (blk (cStatement { zStatement with do_ := 1 + n }) 161))) rfl l1 fun b3 o3 e3 => ?_
      have e3' : hread ((j7, blk (cStatement { zStatement with do_ := 1 + n }) 161) :: ((j5, blk (fl eT tb4) 9) :: (gw ++ ((j2, blk (cStatement zStatement) 161) :: h)))) b3 o3 1 = some [.string ⟨(ws[1]).toArray⟩] := e3
      simp only [walk, lists, acts, mem, plain, seqs, maps, cells, resL, resV, intBin, seval, hread_1 e3', wStatement, str, zs]
      refine atoiL_c (gl.sub ((sH _).trans (s7 _))) (by have := hwsl.2 _ (List.getElem_mem l1); omega) fun n1 x1 hn1 rn1 tn1 => ?_
      have bd1 : x1 ≠ .nilIface → ∀ st, stP st → s = stW st → False := fun hx st hst e => hx (hn1 _ (a1 st hst e l1)).2
      simp only [walk, lists, acts, mem, plain, seqs, maps, cells, resL, resV, intBin, seval, wStatement, str, zs, apps, dwx, e25, e75, e72]
      rcases tn1 with rfl | ⟨y1, p1, rfl⟩
      rotate_left
      · simp only [walk, lists, acts, mem, plain, seqs, maps, cells, resL, resV, intBin, seval, wStatement, str, zs, apps, dwx, e25, e75, e72]
        exact bad (o := blk [] 0) ((sH _).trans (s7 _)) (bd1 (by simp))
      simp only [walk, lists, acts, mem, plain, seqs, maps, cells, resL, resV, intBin, seval, wStatement, str, zs, apps, dwx, e25, e75, e72]
      refine ⟨rfl, ?_⟩
      refine idx_leaf (i := 2) eT_len (((rW _).sub s5).sub (s7 (blk (cStatement { zStatement with do_ := 1 + n, key := n1 }) 161))) rfl l2 fun b4 o4 e4 => ?_
      have e4' : hread ((j7, blk (cStatement { zStatement with do_ := 1 + n, key := n1 }) 161) :: ((j5, blk (fl eT tb4) 9) :: (gw ++ ((j2, blk (cStatement zStatement) 161) :: h)))) b4 o4 1 = some [.string ⟨(ws[2]).toArray⟩] := e4
      simp only [walk, lists, acts, mem, plain, seqs, maps, cells, resL, resV, intBin, seval, hread_1 e4', wStatement, str, zs]
      refine atoiL_c (gl.sub ((sH _).trans (s7 _))) (by have := hwsl.2 _ (List.getElem_mem l2); omega) fun n2 x2 hn2 rn2 tn2 => ?_
      have bd2 : x2 ≠ .nilIface → ∀ st, stP st → s = stW st → False := fun hx st hst e => hx (hn2 _ (a2 st hst e l2)).2
      simp only [walk, lists, acts, mem, plain, seqs, maps, cells, resL, resV, intBin, seval, wStatement, str, zs, apps, dwx, e25, e75, e72]
      rcases tn2 with rfl | ⟨y2, p2, rfl⟩
      rotate_left
      · simp only [walk, lists, acts, mem, plain, seqs, maps, cells, resL, resV, intBin, seval, wStatement, str, zs, apps, dwx, e25, e75, e72]
        exact bad (o := blk [] 0) ((sH _).trans (s7 _)) (bd2 (by simp))
      simp only [walk, lists, acts, mem, plain, seqs, maps, cells, resL, resV, intBin, seval, wStatement, str, zs, apps, dwx, e25, e75, e72]
      refine ⟨rfl, ?_⟩
      refine ⟨h, (sH _).trans (Sub.cons (by simp only [subs, n7]) (Sub.refl _)), k _ true fun st hst e => ⟨rfl, eqS ?_ ?_ ?_⟩⟩
      · show 1 + n = st.do_
        have := hdo st hst e; omega
      · exact (hn1 _ (a1 st hst e l1)).1
      · exact (hn2 _ (a2 st hst e l2)).1
end Go.Proofs.YtmfhlkkligcgdaaGreatDoor
end

/- How the program keeps and writes the statements of a deal. -/
section
set_option linter.unusedVariables false
set_option linter.unusedSimpArgs false
set_option maxRecDepth 20000
attribute [local irreducible] Go.Tk.vc Go.Tk.vops Go.Tk.vdr Go.Tk.vop Go.Tk.vfl Go.Tk.HCalls
namespace Go.Proofs.YtmfhlkkligcgdaaGreatDoor
open Go Go.Tk

/-- A statement by its kind. -/
def stepV (s : DStatement) : Value := if s.do_ = 1 then .iface 201 (.agg #[.int .i64 s.key]) else if s.do_ = 2 then .iface 203 (.agg #[.int .i64 s.key, .int .i64 s.num]) else if s.do_ = 3 then .iface 204 (.agg #[.int .i64 s.key, .int .i64 s.num]) else .iface 205 (.agg #[.int .i64 s.key, .int .i64 s.num])
def eStep (s : DStatement) : List Value := [stepV s]
theorem eStep_len (s : DStatement) : (eStep s).length = 1 := rfl
theorem stepV_one (s : DStatement) : vone (stepV s) = true := by
  unfold stepV
  repeat' split
  all_goals rfl
theorem stepV_cells (s : DStatement) : vcells (stepV s) = [stepV s] := by
  unfold stepV
  repeat' split
  all_goals rfl
theorem eStep_one (l : List DStatement) : (fl eStep l).all vone = true := by
  induction l with
  | nil => rfl
  | cons a l ih => rw [fl_cons, List.all_append, ih]; simp [eStep, stepV_one]

theorem stepOf_c {h : H} {x : DStatement} {R : Ending → H → Prop} (k1 : stP x → R (.returned (.tuple #[stepV x, .bool true])) h) (k2 : ¬ stP x → ∀ v, R (.returned (.tuple #[v, .bool false])) h) :
    HCalls Tryz.prog 156 #[.agg (cStatement x).toArray] h R := by
  refine HCalls_ir (args := [.agg (cStatement x).toArray]) Tryz.func156 ir156 ?_
  simp only [walk, lists, acts, mem, plain, seqs, maps, cells, resL, resV, intBin, seval, wStatement]
  refine newB_intro fun j1 hj1 => ?_
  have s1 := Sub.cons (o := blk (cStatement x) 161) hj1 (Sub.refl h)
  simp only [walk, lists, acts, mem, plain, seqs, maps, cells, resL, resV, intBin, seval, wStatement]
  refine isKey_c fun b1 hb1 => ?_
  simp only [walk, lists, acts, mem, plain, seqs, maps, cells, resL, resV, intBin, seval, wStatement]
  refine ite_f (fun e => ⟨h, s1, k2 (fun p => not_b hb1 e p.2.1) _⟩) fun e1 => ?_
  refine isVal_c fun b2 hb2 => ?_
  simp only [walk, lists, acts, mem, plain, seqs, maps, cells, resL, resV, intBin, seval, wStatement]
  refine ite_f (fun e => ⟨h, s1, k2 (fun p => not_b hb2 e p.2.2.1) _⟩) fun e2 => ?_
  have key := hb1.1 e1
  have val := hb2.1 e2
  have bad : ¬ (1 ≤ x.do_ ∧ x.do_ ≤ 4) → ¬ stP x := fun c p => c p.1
  refine ite_pos (fun c1 => ?_) fun c1 => ?_
  · refine vc_draw _ (Sub.refl _) ?_
    simp only [walk, lists, acts, mem, plain, seqs, maps, cells, resL, resV, intBin, seval, wStatement]
    by_cases c0 : x.num = 0
    · have sv : stepV x = .iface 201 (.agg #[.int .i64 x.key]) := by unfold stepV; rw [if_pos c1]
      rw [decide_eq_true c0]
      have := k1 ⟨by unfold inP; omega, key, val, fun _ => c0⟩
      rw [sv] at this
      exact ⟨h, s1, this⟩
    · rw [decide_eq_false c0]
      exact ⟨h, s1, k2 (fun p => c0 (p.2.2.2 c1)) _⟩
  refine ite_pos (fun c2 => ?_) fun c2 => ?_
  · have sv : stepV x = .iface 203 (.agg #[.int .i64 x.key, .int .i64 x.num]) := by unfold stepV; rw [if_neg c1, if_pos c2]
    have := k1 ⟨by unfold inP; omega, key, val, fun e => absurd e c1⟩
    rw [sv] at this
    exact ⟨h, s1, this⟩
  refine ite_pos (fun c3 => ?_) fun c3 => ?_
  · have sv : stepV x = .iface 204 (.agg #[.int .i64 x.key, .int .i64 x.num]) := by unfold stepV; rw [if_neg c1, if_neg c2, if_pos c3]
    have := k1 ⟨by unfold inP; omega, key, val, fun e => absurd e c1⟩
    rw [sv] at this
    exact ⟨h, s1, this⟩
  refine ite_pos (fun c4 => ?_) fun c4 => ?_
  · have sv : stepV x = .iface 205 (.agg #[.int .i64 x.key, .int .i64 x.num]) := by unfold stepV; rw [if_neg c1, if_neg c2, if_neg c3]
    have := k1 ⟨by unfold inP; omega, key, val, fun e => absurd e c1⟩
    rw [sv] at this
    exact ⟨h, s1, this⟩
  · exact ⟨h, s1, k2 (bad (by omega)) _⟩

theorem stepsOf_c {h : H} {v : Value} {l : List DStatement} (r : rLs h cStatement 3 v l) (hl : l.length ≤ 1099511627776) {R : Ending → H → Prop} (k1 : dealP l → ∀ v' g, oLs 183 eStep 1 v' l g → Dj g h → R (.returned (.tuple #[v', .bool true])) (g ++ h)) (k2 : ¬ dealP l → R (.returned (.tuple #[.slice none 0 0, .bool false])) h) :
    HCalls Tryz.prog 149 #[v] h R := by
  refine HCalls_ir (args := [v]) Tryz.func149 ir149 ?_
  have zs := zStatement_eq
  simp only [walk, lists, acts, mem, plain, seqs, maps, cells, resL, resV, intBin, seval, r.len, zs]
  refine within_c fun b1 hb1 => ?_
  simp only [walk, lists, acts, mem, plain, seqs, maps, cells, resL, resV, intBin, seval, r.len, zs]
  refine ite_f (fun e => .of (k2 fun p => not_b hb1 e (by have := p.1; have := p.2.1; unfold inP; omega))) fun e1 => ?_
  have hlen := hb1.1 e1
  unfold inP at hlen
  refine ⟨⟨by omega, by omega, by omega⟩, newB_intro fun js hjs => ?_⟩
  have o0 : oLs 183 eStep 1 (.slice (some ⟨js, 0, none⟩) 0 l.length) [] [(js, blk (zrep [.nilIface] l.length) 183)] :=
    ⟨rfl, .inr ⟨js, l.length, zrep [.nilIface] l.length, rfl, Nat.zero_le _, by simp [zrep, fl_nil], rfl⟩⟩
  have ss := Sub.cons (o := blk (zrep [.nilIface] l.length) 183) hjs (Sub.refl h)
  simp only [walk, lists, acts, mem, plain, seqs, maps, cells, resL, resV, intBin, seval, r.len, zs]
  refine vc_loop [18, 4] (fun n vs h' => ∃ (i : Nat) (v' : Value) (G : H), vs = [.int .i64 i, v'] ∧ h' = G ++ h ∧ Dj G h ∧ oLs 183 eStep 1 v' (l.take i) G ∧ allP stP (l.take i) ∧ i ≤ l.length ∧ n = l.length - i) l.length rfl
    ⟨0, _, _, rfl, rfl, by simp only [subs, hjs], o0, allP_zero _ _, by omega, rfl⟩ ?_
  rintro n f h' ⟨i, v', G, hv, rfl, dG, oG, ht, hi, rfl⟩
  simp only [List.map_cons, List.map_nil, List.cons.injEq, and_true] at hv
  have sG := Sub.right dG
  simp only [walk, lists, acts, mem, plain, seqs, maps, cells, resL, resV, intBin, seval, wr, hv.1, hv.2, zs]
  refine ite_lt (fun c2 => ?_) fun c2 => ?_
  · have hi2 : i < l.length := by omega
    refine idx_leaf (i := i) cStatement_len (r.sub sG) rfl hi2 fun b1 o1 e1 => ?_
    simp only [walk, lists, acts, mem, plain, seqs, maps, cells, resL, resV, intBin, seval, e1, zs, wStatement]
    refine newB_intro fun j6 hj6 => ?_
    have n6 := hj6
    simp only [subs] at n6
    have s6 := Sub.cons (o := blk (cStatement l[i]) 161) hj6 (Sub.refl (G ++ h))
    simp only [walk, lists, acts, mem, plain, seqs, maps, cells, resL, resV, intBin, seval, zs, wStatement]
    refine stepOf_c (fun p => ?_) fun p v2 => ?_
    · simp only [walk, lists, acts, mem, plain, seqs, maps, cells, resL, resV, intBin, seval, zs, wStatement, stepV_one, stepV_cells]
      refine newB_intro (o := blk (fl eStep [l[i]]) 183) fun j7 hj7 => ?_
      simp only [walk, lists, acts, mem, plain, seqs, maps, cells, resL, resV, intBin, seval, zs, wStatement]
      refine app_leaf (g := G) (h := h) eStep_len eStep_one tSteps iStep (s6.trans (Sub.cons hj7 (Sub.refl _))) dG oG (rL_lit (e := 183) eStep_len [l[i]]) (by rw [List.length_take]; simp; omega) (by rw [List.length_take]; simp; omega) fun v3 g3 o3 d3 => ?_
      simp (disch := omega) only [walk, lists, acts, mem, plain, seqs, maps, cells, resL, resV, intBin, seval, wrapI]
      refine ⟨l.length - (i + 1), by omega, _, .refl _, i + 1, v3, g3, by simp, rfl, d3, ?_, allP_more hi2 ht p, by omega, rfl⟩
      rw [List.take_succ_eq_append_getElem hi2]; exact o3
    · simp only [walk, lists, acts, mem, plain, seqs, maps, cells, resL, resV, intBin, seval, zs, wStatement]
      exact ⟨h, sG.trans s6, k2 fun q => p (q.2.2 _ (List.getElem_mem hi2))⟩
  · have hi2 : i = l.length := by omega
    subst hi2
    rw [List.take_length] at ht oG
    exact .of (k1 ⟨by omega, by omega, ht⟩ v' G oG dG)

theorem implOk_c {h : H} {v : Value} {l : List DStatement} (r : rLs h cStatement 3 v l) (hl : l.length ≤ 1099511627776) {R : Ending → H → Prop} (k : Asks R (dealP l) h) : HCalls Tryz.prog 139 #[v] h R := by
  refine HCalls_ir (args := [v]) Tryz.func139 ir139 ?_
  simp only [walk, lists, acts, mem, plain, seqs, maps, cells, resL, resV, intBin, seval]
  refine stepsOf_c r hl (fun p v' g o d => ?_) fun p => ?_
  · simp only [walk, lists, acts, mem, plain, seqs, maps, cells, resL, resV, intBin, seval]
    exact ⟨h, Sub.right d, k.yes p⟩
  · simp only [walk, lists, acts, mem, plain, seqs, maps, cells, resL, resV, intBin, seval]
    exact .of (k.no p)

theorem numText_c {h : H} {nm : List UInt8} {a b : Int} (gl : Gl h) (hn : nm.length ≤ 100) (ha : i64P a) (hb : i64P b) {R : Ending → H → Prop} (k : R (.returned (.string ⟨(nm ++ 32 :: (decI a ++ 32 :: (decI b ++ [59]))).toArray⟩)) h) :
    HCalls Tryz.prog 216 #[.string ⟨nm.toArray⟩, .int .i64 a, .int .i64 b] h R := by
  refine HCalls_ir (args := [.string ⟨nm.toArray⟩, .int .i64 a, .int .i64 b]) Tryz.func216 ir216 ?_
  have la := decI_len' ha
  have lb := decI_len' hb
  simp (disch := (first | assumption | (simp only [List.length_append, List.length_cons, List.length_nil]; omega) | omega)) only [walk, lists, acts, mem, plain, seqs, maps, cells, resL, resV, intBin, seval, str, str_add]
  refine itoa_c gl ha ?_
  simp (disch := (first | assumption | (simp only [List.length_append, List.length_cons, List.length_nil]; omega) | omega)) only [walk, lists, acts, mem, plain, seqs, maps, cells, resL, resV, intBin, seval, str, str_add]
  refine itoa_c gl hb ?_
  simp (disch := (first | assumption | (simp only [List.length_append, List.length_cons, List.length_nil]; omega) | omega)) only [walk, lists, acts, mem, plain, seqs, maps, cells, resL, resV, intBin, seval, str, str_add]
  refine .of ?_
  have e : nm ++ [32] ++ decI a ++ [32] ++ decI b ++ [59] = nm ++ 32 :: (decI a ++ 32 :: (decI b ++ [59])) := by simp
  rw [e]; exact k
end Go.Proofs.YtmfhlkkligcgdaaGreatDoor
end

/- How the program writes a deal. -/
section
set_option linter.unusedVariables false
set_option linter.unusedSimpArgs false
set_option maxRecDepth 20000
attribute [local irreducible] Go.Tk.vc Go.Tk.vops Go.Tk.vdr Go.Tk.vop Go.Tk.vfl Go.Tk.HCalls
namespace Go.Proofs.YtmfhlkkligcgdaaGreatDoor
open Go Go.Tk

theorem get_text_c {h : H} {a : Int} (gl : Gl h) (ha : i64P a) {R : Ending → H → Prop} (k : R (.returned (.string ⟨([103, 101, 116, 32] ++ decI a ++ [59]).toArray⟩)) h) :
    HCalls Tryz.prog 214 #[.agg #[.int .i64 a]] h R := by
  refine HCalls_ir (args := [.agg [.int .i64 a].toArray]) Tryz.func214 ir214 ?_
  have la := decI_len' ha
  simp only [walk, lists, acts, mem, plain, seqs, maps, cells, resL, resV, intBin, seval, str]
  refine newB_intro fun j hj => ?_
  have sj := fun o => Sub.cons (o := o) hj (Sub.refl h)
  simp only [walk, lists, acts, mem, plain, seqs, maps, cells, resL, resV, intBin, seval, str]
  refine itoa_c (gl.sub (sj _)) ha ?_
  simp (disch := (first | assumption | (simp only [List.length_append, List.length_cons, List.length_nil]; omega) | omega)) only [walk, lists, acts, mem, plain, seqs, maps, cells, resL, resV, intBin, seval, str, str_add]
  exact ⟨h, sj _, k⟩
theorem putStep_text_c {h : H} {a b : Int} (gl : Gl h) (ha : i64P a) (hb : i64P b) {R : Ending → H → Prop} (k : R (.returned (.string ⟨([112, 117, 116] ++ 32 :: (decI a ++ 32 :: (decI b ++ [59]))).toArray⟩)) h) :
    HCalls Tryz.prog 215 #[.agg #[.int .i64 a, .int .i64 b]] h R := by
  refine HCalls_ir (args := [.agg [.int .i64 a, .int .i64 b].toArray]) Tryz.func215 ir215 ?_
  simp only [walk, lists, acts, mem, plain, seqs, maps, cells, resL, resV, intBin, seval, str]
  refine newB_intro fun j hj => ?_
  have sj := fun o => Sub.cons (o := o) hj (Sub.refl h)
  simp only [walk, lists, acts, mem, plain, seqs, maps, cells, resL, resV, intBin, seval, str]
  refine numText_c (gl.sub (sj _)) (by decide) ha hb ?_
  simp only [walk, lists, acts, mem, plain, seqs, maps, cells, resL, resV, intBin, seval, str]
  exact ⟨h, sj _, k⟩
theorem addStep_text_c {h : H} {a b : Int} (gl : Gl h) (ha : i64P a) (hb : i64P b) {R : Ending → H → Prop} (k : R (.returned (.string ⟨([97, 100, 100] ++ 32 :: (decI a ++ 32 :: (decI b ++ [59]))).toArray⟩)) h) :
    HCalls Tryz.prog 217 #[.agg #[.int .i64 a, .int .i64 b]] h R := by
  refine HCalls_ir (args := [.agg [.int .i64 a, .int .i64 b].toArray]) Tryz.func217 ir217 ?_
  simp only [walk, lists, acts, mem, plain, seqs, maps, cells, resL, resV, intBin, seval, str]
  refine newB_intro fun j hj => ?_
  have sj := fun o => Sub.cons (o := o) hj (Sub.refl h)
  simp only [walk, lists, acts, mem, plain, seqs, maps, cells, resL, resV, intBin, seval, str]
  refine numText_c (gl.sub (sj _)) (by decide) ha hb ?_
  simp only [walk, lists, acts, mem, plain, seqs, maps, cells, resL, resV, intBin, seval, str]
  exact ⟨h, sj _, k⟩
theorem needStep_text_c {h : H} {a b : Int} (gl : Gl h) (ha : i64P a) (hb : i64P b) {R : Ending → H → Prop} (k : R (.returned (.string ⟨([110, 101, 101, 100] ++ 32 :: (decI a ++ 32 :: (decI b ++ [59]))).toArray⟩)) h) :
    HCalls Tryz.prog 218 #[.agg #[.int .i64 a, .int .i64 b]] h R := by
  refine HCalls_ir (args := [.agg [.int .i64 a, .int .i64 b].toArray]) Tryz.func218 ir218 ?_
  simp only [walk, lists, acts, mem, plain, seqs, maps, cells, resL, resV, intBin, seval, str]
  refine newB_intro fun j hj => ?_
  have sj := fun o => Sub.cons (o := o) hj (Sub.refl h)
  simp only [walk, lists, acts, mem, plain, seqs, maps, cells, resL, resV, intBin, seval, str]
  refine numText_c (gl.sub (sj _)) (by decide) ha hb ?_
  simp only [walk, lists, acts, mem, plain, seqs, maps, cells, resL, resV, intBin, seval, str]
  exact ⟨h, sj _, k⟩
theorem step_text_c {h : H} {s : DStatement} (gl : Gl h) (hp : stP s) {R : Ending → H → Prop} (k : R (.returned (.string ⟨(stText s).toArray⟩)) h) : invK Tryz.prog (stepV s) "loop.example/turnpike/impl.text" [] h R := by
  obtain ⟨hd, hk, hv, _⟩ := hp
  unfold inP at hd
  have ik : i64P s.key := by unfold inP at hk; unfold i64P; omega
  have iv : i64P s.num := by unfold valP inP at hv; unfold i64P; omega
  rw [stText_W] at k
  unfold stW nmD at k
  unfold stepV
  split
  · rename_i c
    rw [if_pos c, if_pos c] at k
    refine ⟨214, .agg #[.int .i64 s.key], by kernel_rfl, by kernel_rfl, get_text_c gl ik ?_⟩
    simpa using k
  · rename_i c
    rw [if_neg c, if_neg c] at k
    split
    · rename_i c2
      rw [if_pos c2] at k
      refine ⟨215, .agg #[.int .i64 s.key, .int .i64 s.num], by kernel_rfl, by kernel_rfl, putStep_text_c gl ik iv ?_⟩
      simpa using k
    · rename_i c2
      rw [if_neg c2] at k
      split
      · rename_i c3
        rw [if_pos c3] at k
        refine ⟨217, .agg #[.int .i64 s.key, .int .i64 s.num], by kernel_rfl, by kernel_rfl, addStep_text_c gl ik iv ?_⟩
        simpa using k
      · rename_i c3
        rw [if_neg c3] at k
        refine ⟨218, .agg #[.int .i64 s.key, .int .i64 s.num], by kernel_rfl, by kernel_rfl, needStep_text_c gl ik iv ?_⟩
        simpa using k

theorem implDealWrite_c {h : H} {v : Value} {l : List DStatement} (gl : Gl h) (r : rLs h cStatement 3 v l) (hl : l.length ≤ 1099511627776) {R : Ending → H → Prop} (k : ∀ t, dealT l t → R (.returned (.string ⟨t.toArray⟩)) h) :
    HCalls Tryz.prog 140 #[v] h R := by
  refine HCalls_ir (args := [v]) Tryz.func140 ir140 ?_
  simp only [walk, lists, acts, mem, plain, seqs, maps, cells, resL, resV, intBin, seval, str]
  refine stepsOf_c r hl (fun p v' g o d => ?_) fun p => ?_
  · have sg := Sub.right d
    simp only [walk, lists, acts, mem, plain, seqs, maps, cells, resL, resV, intBin, seval, str]
    refine newB_intro fun jb hjb => ?_
    have nb := hjb
    simp only [subs] at nb
    simp only [walk, lists, acts, mem, plain, seqs, maps, cells, resL, resV, intBin, seval, str, o.rd.len]
    obtain ⟨B, hB⟩ : ∃ B, B = g ++ h := ⟨_, rfl⟩
    rw [← hB] at sg
    have rB : rLs B eStep 1 v' l := o.rd.sub (by rw [hB]; exact Sub.left _ _)
    rw [← hB] at hjb ⊢
    have hlt := fun i => dealText_len (l := l.take i) fun x hx => p.2.2 x (List.mem_of_mem_take hx)
    refine vc_loop [17] (fun n vs h' => ∃ (i : Nat) (G : H), vs = [.int .i64 i] ∧ h' = G ++ B ∧ oB jb (dealText (l.take i)) G ∧ Dj G B ∧ i ≤ l.length ∧ n = l.length - i) l.length rfl
      ⟨0, _, rfl, rfl, oB_new, by simp only [subs, hjb], by omega, rfl⟩ ?_
    rintro n f h' ⟨i, G, hv, rfl, oG, dG, hi, rfl⟩
    simp only [List.map_cons, List.map_nil, List.cons.injEq, and_true] at hv
    have sG := Sub.right dG
    simp only [walk, lists, acts, mem, plain, seqs, maps, cells, resL, resV, intBin, seval, wr, hv, str]
    refine ite_lt (fun c2 => ?_) fun c2 => ?_
    · have hi2 : i < l.length := by omega
      refine idx_leaf (i := i) eStep_len (rB.sub sG) rfl hi2 fun b1 o1 e1 => ?_
      have e1' : hread (G ++ B) b1 o1 1 = some [stepV l[i]] := e1
      have st := p.2.2 _ (List.getElem_mem hi2)
      have h60 := stText_len st
      have hli := hlt i
      rw [List.length_take] at hli
      have h6 := p.2.1
      simp only [walk, lists, acts, mem, plain, seqs, maps, cells, resL, resV, intBin, seval, hread_1 e1', str]
      refine step_text_c (gl.sub (sg.trans sG)) st ?_
      simp only [walk, lists, acts, mem, plain, seqs, maps, cells, resL, resV, intBin, seval, str]
      refine bws_c oG dG (by omega) fun G2 o2 d2 => ?_
      simp (disch := omega) only [walk, lists, acts, mem, plain, seqs, maps, cells, resL, resV, intBin, seval, wrapI]
      refine ⟨l.length - (i + 1), by omega, _, .refl _, i + 1, G2, by simp, rfl, ?_, d2, by omega, rfl⟩
      rw [List.take_succ_eq_append_getElem hi2, dealText_app, dealText_one]; exact o2
    · have hi2 : i = l.length := by omega
      subst hi2
      have hli := hlt l.length
      rw [List.take_length] at oG hli
      have h6 := p.2.1
      refine bstr_c oG dG (by omega) ?_
      simp only [walk, lists, acts, mem, plain, seqs, maps, cells, resL, resV, intBin, seval]
      exact ⟨h, sg, k _ (.inl ⟨p, rfl⟩)⟩
  · simp only [walk, lists, acts, mem, plain, seqs, maps, cells, resL, resV, intBin, seval, str]
    exact .of (k _ (.inr ⟨p, rfl⟩))
end Go.Proofs.YtmfhlkkligcgdaaGreatDoor
end

/- How the program reads a deal. -/
section
set_option linter.unusedVariables false
set_option linter.unusedSimpArgs false
set_option maxRecDepth 20000
attribute [local irreducible] Go.Tk.vc Go.Tk.vops Go.Tk.vdr Go.Tk.vop Go.Tk.vfl Go.Tk.HCalls
namespace Go.Proofs.YtmfhlkkligcgdaaGreatDoor
open Go Go.Tk

theorem implRead_c {h : H} {s : List UInt8} (gl : Gl h) (gm : MxL h) (hs : s.length ≤ 4194304) {R : Ending → H → Prop} (k : ∀ v g l ok, OutD s l ok → oLs 161 cStatement 3 v l g → Dj g h → R (.returned (.tuple #[v, .bool ok])) (g ++ h)) :
    HCalls Tryz.prog 124 #[.string ⟨s.toArray⟩] h R := by
  refine HCalls_ir (args := [.string ⟨s.toArray⟩]) Tryz.func124 ir124 ?_
  have zs := zStatement_eq
  have bad : ∀ {M : H}, Tk.Sub h M → (∀ d, dealP d → s = dealText d → s.length ≤ 80 → False) → dP R (.returned (.tuple #[.slice none 0 0, .bool false])) M := fun {M} sM e => ⟨h, sM, k _ [] [] false (.inr ⟨rfl, rfl, e⟩) (ows.nil _ _) (Dj.nil _)⟩
  simp only [walk, lists, acts, mem, plain, seqs, maps, cells, resL, resV, intBin, seval, str, zs]
  refine ite_lt (fun c => bad (.refl _) fun d _ _ h => by omega) fun c => ?_
  refine vc_loop [5, 4] (fun n vs h' => ∃ (v : Value) (xs : List DStatement) (r : List UInt8) (G : H), vs = [.string ⟨r.toArray⟩, v] ∧ h' = G ++ h ∧ Dj G h ∧ oLs 161 cStatement 3 v xs G ∧ xs.length + r.length ≤ 80 ∧ (∀ d, dealP d → s = dealText d → ∃ i, i ≤ d.length ∧ xs = d.take i ∧ r = dealText (d.drop i)) ∧ n = r.length) s.length rfl
    ⟨_, [], s, [], rfl, rfl, Dj.nil _, ows.nil _ _, by simp; omega, fun d hd e => ⟨0, by omega, rfl, e⟩, rfl⟩ ?_
  rintro n f h' ⟨v, xs, r, G, hv, rfl, dG, oG, hlen, hin, rfl⟩
  simp only [List.map_cons, List.map_nil, List.cons.injEq, and_true] at hv
  have sG := Sub.right dG
  simp only [walk, lists, acts, mem, plain, seqs, maps, cells, resL, resV, intBin, seval, wr, hv.1, hv.2, str, zs, strBin, str_inj]
  refine ite_ne (fun c2 => ?_) fun c2 => ?_
  · refine cut_c (c := 59) (by omega) fun a b fd hc => ?_
    have hab : a.length ≤ r.length ∧ b.length ≤ r.length ∧ (fd = true → b.length < r.length) := by
      obtain ⟨_, ⟨_, h2⟩ | ⟨h1, h2, h3⟩⟩ := hc
      · rw [h2]; simp; omega
      · rw [h2, h3, h1]; simp
    simp only [walk, lists, acts, mem, plain, seqs, maps, cells, resL, resV, intBin, seval, str, zs]
    refine readStatement_c (gl.sub sG) (gm.sub sG) (by omega) fun x ok hx => ?_
    simp only [walk, lists, acts, mem, plain, seqs, maps, cells, resL, resV, intBin, seval, str, zs, wStatement]
    refine newB_intro fun j9 hj9 => ?_
    have s9 := Sub.cons (o := blk (cStatement x) 161) hj9 (Sub.refl (G ++ h))
    have step : ∀ d, dealP d → s = dealText d → ∃ i, ∃ hi : i < d.length, xs = d.take i ∧ a = stW d[i] ∧ b = dealText (d.drop (i + 1)) ∧ fd = true := fun d hd e => by
      obtain ⟨i, hi, h1, h2⟩ := hin d hd e
      have hi2 : i < d.length := by
        rcases Nat.lt_or_ge i d.length with q | q
        · exact q
        · rw [List.drop_eq_nil_of_le q] at h2
          exact absurd h2 c2
      rw [List.drop_eq_getElem_cons hi2, dealText_cons] at h2
      obtain ⟨e1, e2, e3⟩ := hc.at h2 (stW_no59 _)
      exact ⟨i, hi2, h1, e1, e2, e3⟩
    simp only [walk, lists, acts, mem, plain, seqs, maps, cells, resL, resV, intBin, seval, str, zs, wStatement]
    cases fd with
    | false =>
      simp only [walk, lists, acts, mem, plain, seqs, maps, cells, resL, resV, intBin, seval, str, zs, wStatement]
      exact bad (sG.trans s9) fun d hd e _ => by
        obtain ⟨i, hi, _, _, _, q⟩ := step d hd e
        cases q
    | true =>
      cases ok with
      | false =>
        simp only [walk, lists, acts, mem, plain, seqs, maps, cells, resL, resV, intBin, seval, str, zs, wStatement]
        exact bad (sG.trans s9) fun d hd e _ => by
          obtain ⟨i, hi, _, q, _, _⟩ := step d hd e
          have := (hx _ (hd.2.2 _ (List.getElem_mem hi)) q).1
          cases this
      | true =>
        simp only [walk, lists, acts, mem, plain, seqs, maps, cells, resL, resV, intBin, seval, str, zs, wStatement]
        refine newB_intro (o := blk (fl cStatement [x]) 161) fun j7 hj7 => ?_
        simp only [walk, lists, acts, mem, plain, seqs, maps, cells, resL, resV, intBin, seval, wStatement, str, zs]
        refine app_leaf (g := G) (h := h) cStatement_len cStatement_one tStatements iStatement (s9.trans (Sub.cons hj7 (Sub.refl _))) dG oG (rL_lit (e := 161) cStatement_len [x]) (by simp; omega) (by simp; omega) fun v2 g2 o2 d2 => ?_
        simp only [walk, lists, acts, mem, plain, seqs, maps, cells, resL, resV, intBin, seval]
        refine ⟨b.length, hab.2.2 rfl, _, .refl _, v2, _, b, g2, rfl, rfl, d2, o2, by rw [List.length_append]; have := hab.2.2 rfl; simp; omega, fun d hd e => ?_, rfl⟩
        obtain ⟨i, hi, h1, h2, h3, _⟩ := step d hd e
        refine ⟨i + 1, by omega, ?_, h3⟩
        rw [List.take_succ_eq_append_getElem hi, h1, (hx _ (hd.2.2 _ (List.getElem_mem hi)) h2).2]
  · subst c2
    have fin : ∀ d, dealP d → s = dealText d → xs = d := fun d hd e => by
      obtain ⟨i, hi, h1, h2⟩ := hin d hd e
      rcases Nat.lt_or_ge i d.length with q | q
      · rw [List.drop_eq_getElem_cons q, dealText_cons] at h2
        have := congrArg List.length h2
        simp at this
      · rw [h1, List.take_of_length_le q]
    have hx80 : xs.length ≤ 80 := by omega
    refine implOk_c (oG.rd.sub (Sub.left _ _)) (by omega) fun b1 hb1 => ?_
    simp only [walk, lists, acts, mem, plain, seqs, maps, cells, resL, resV, intBin, seval]
    refine ite_f (fun e => bad sG fun d hd e2 _ => not_b hb1 e (by rw [fin d hd e2]; exact hd)) fun e1 => ?_
    have hp := hb1.1 e1
    refine implDealWrite_c (gl.sub sG) (oG.rd.sub (Sub.left _ _)) (by omega) fun t ht => ?_
    simp only [walk, lists, acts, mem, plain, seqs, maps, cells, resL, resV, intBin, seval, str, strBin, str_inj]
    have ht2 : t = dealText xs := by
      rcases ht with ⟨_, ht⟩ | ⟨hn, _⟩
      · exact ht
      · exact absurd hp hn
    refine ite_ne (fun c3 => bad sG fun d hd e _ => c3 (by rw [ht2, fin d hd e, e])) fun c3 => ?_
    exact .of (k v G xs true (.inl ⟨rfl, hp, by rw [← c3, ht2], by omega⟩) oG dG)
end Go.Proofs.YtmfhlkkligcgdaaGreatDoor
end

/- Which calls are ok. -/
section
set_option linter.unusedVariables false
set_option linter.unusedSimpArgs false
set_option maxRecDepth 20000
attribute [local irreducible] Go.Tk.vc Go.Tk.vops Go.Tk.vdr Go.Tk.vop Go.Tk.vfl Go.Tk.HCalls
namespace Go.Proofs.YtmfhlkkligcgdaaGreatDoor
open Go Go.Tk


theorem l3Form_c {h : H} {c : DCall} {R : Ending → H → Prop} (k : Asks R (formP c) h) : HCalls Tryz.prog 119 #[.agg (cCall c).toArray] h R := by
  refine HCalls_ir (args := [.agg (cCall c).toArray]) Tryz.func119 ir119 ?_
  simp only [walk, lists, acts, mem, plain, seqs, maps, cells, resL, resV, intBin, seval, wCall]
  refine newB_intro fun j hj => ?_
  have s1 := Sub.cons (o := blk (cCall c) 58) hj (Sub.refl h)
  simp only [walk, lists, acts, mem, plain, seqs, maps, cells, resL, resV, intBin, seval, wCall]
  refine l6In_c fun b1 hb1 => ?_
  simp only [walk, lists, acts, mem, plain, seqs, maps, cells, resL, resV, intBin, seval, wCall]
  refine ite_f (fun e => k.dno s1 fun p => not_b hb1 e p.1) fun e1 => ?_
  refine l6In_c fun b2 hb2 => ?_
  simp only [walk, lists, acts, mem, plain, seqs, maps, cells, resL, resV, intBin, seval, wCall]
  refine ite_f (fun e => k.dno s1 fun p => not_b hb2 e p.2.1) fun e2 => ?_
  have p1 := hb1.1 e1
  have p2 := hb2.1 e2
  refine ite_pos (fun c1 => ?_) fun c1 => ?_
  · refine ite_pos (fun c2 => ?_) fun c2 => ?_
    · refine ite_pos (fun c3 => ?_) fun c3 => ?_
      · refine ⟨h, s1, k _ ?_⟩
        rw [decide_eq_true_eq]
        exact ⟨fun x => ⟨p1, p2, .inl ⟨c1, c2, c3, by omega⟩⟩, fun p => by
          rcases p.2.2 with q | q
          · have := q.2.2.2; omega
          · have := q.1; omega⟩
      · exact k.dno s1 fun p => by
          rcases p.2.2 with q | q
          · exact c3 q.2.2.1
          · have := q.1; omega
    · exact k.dno s1 fun p => by
        rcases p.2.2 with q | q
        · exact c2 q.2.1
        · have := q.1; omega
  · have el : ((⟨c.text.toArray⟩ : ByteArray) = ⟨#[]⟩) = (c.text = []) := propext ⟨fun e => by simpa using congrArg (fun a : ByteArray => a.data.toList) e, fun e => by rw [e]⟩
    refine ite_pos (fun c2 => ?_) fun c2 => ?_
    · simp only [walk, lists, acts, mem, plain, seqs, maps, cells, resL, resV, intBin, seval, wCall, str, strBin, el]
      refine ite_pos (fun c3 => ?_) fun c3 => ?_
      · refine l6In_c fun b3 hb3 => ?_
        simp only [walk, lists, acts, mem, plain, seqs, maps, cells, resL, resV, intBin, seval, wCall]
        cases b3 with
        | false =>
          simp only [walk, lists, acts, mem, plain, seqs, maps, cells, resL, resV, intBin, seval]
          exact k.dno s1 fun p => by
            rcases p.2.2 with q | q
            · exact c1 q.1
            · exact not_b hb3 rfl q.2.2.1
        | true =>
          simp only [walk, lists, acts, mem, plain, seqs, maps, cells, resL, resV, intBin, seval, wCall]
          refine l6In_c fun b4 hb4 => ?_
          simp only [walk, lists, acts, mem, plain, seqs, maps, cells, resL, resV, intBin, seval, wCall]
          refine ⟨h, s1, k _ ?_⟩
          rw [hb4]
          exact ⟨fun x => ⟨p1, p2, .inr ⟨c2, c3, hb3.1 rfl, x⟩⟩, fun p => by
            rcases p.2.2 with q | q
            · exact absurd q.1 c1
            · exact q.2.2.2⟩
      · exact k.dno s1 fun p => by
          rcases p.2.2 with q | q
          · exact c1 q.1
          · exact c3 q.2.1
    · exact k.dno s1 fun p => by
        rcases p.2.2 with q | q
        · exact c1 q.1
        · exact c2 q.1

theorem specCallOk_c {h : H} {c : DCall} (ht : c.text.length ≤ 4194304) {R : Ending → H → Prop} (k : Asks R (callOkP c) h) : HCalls Tryz.prog 89 #[.agg (cCall c).toArray] h R := by
  refine HCalls_ir (args := [.agg (cCall c).toArray]) Tryz.func89 ir89 ?_
  simp only [walk, lists, acts, mem, plain, seqs, maps, cells, resL, resV, intBin, seval, wCall]
  refine newB_intro fun j hj => ?_
  have s1 := Sub.cons (o := blk (cCall c) 58) hj (Sub.refl h)
  simp only [walk, lists, acts, mem, plain, seqs, maps, cells, resL, resV, intBin, seval, wCall]
  refine ite_pos (fun c1 => ?_) fun c1 => ?_
  · refine specRead_c ht fun v g l ok O o d => ?_
    have n := d
    simp only [subs] at n
    have s2 := s1.trans (Sub.right d)
    simp only [walk, lists, acts, mem, plain, seqs, maps, cells, resL, resV, intBin, seval, wCall]
    cases ok with
    | false =>
      simp only [walk, lists, acts, mem, plain, seqs, maps, cells, resL, resV, intBin, seval]
      refine ⟨h, s2, k.no fun p => ?_⟩
      have := O.iff.2 (p.2 c1)
      cases this
    | true =>
      simp only [walk, lists, acts, mem, plain, seqs, maps, cells, resL, resV, intBin, seval, wCall, apps, n]
      refine l3Form_c fun b hb => ?_
      simp only [walk, lists, acts, mem, plain, seqs, maps, cells, resL, resV, intBin, seval, wCall]
      refine ⟨h, s2, k _ ?_⟩
      rw [hb]
      exact ⟨fun x => ⟨x, fun _ => O.iff.1 rfl⟩, fun p => p.1⟩
  · refine l3Form_c fun b hb => ?_
    simp only [walk, lists, acts, mem, plain, seqs, maps, cells, resL, resV, intBin, seval, wCall]
    refine ⟨h, s1, k _ ?_⟩
    rw [hb]
    exact ⟨fun x => ⟨x, fun y => absurd y c1⟩, fun p => p.1⟩

theorem implCallOk_c {h : H} {c : DCall} (gl : Gl h) (gm : MxL h) (ht : c.text.length ≤ 4194304) {R : Ending → H → Prop} (k : Asks R (callOkP c) h) : HCalls Tryz.prog 99 #[.agg (cCall c).toArray] h R := by
  refine HCalls_ir (args := [.agg (cCall c).toArray]) Tryz.func99 ir99 ?_
  have el : ((⟨c.text.toArray⟩ : ByteArray) = ⟨#[]⟩) = (c.text = []) := propext ⟨fun e => by simpa using congrArg (fun a : ByteArray => a.data.toList) e, fun e => by rw [e]⟩
  simp only [walk, lists, acts, mem, plain, seqs, maps, cells, resL, resV, intBin, seval, wCall]
  refine newB_intro fun j hj => ?_
  have s1 := Sub.cons (o := blk (cCall c) 58) hj (Sub.refl h)
  simp only [walk, lists, acts, mem, plain, seqs, maps, cells, resL, resV, intBin, seval, wCall]
  refine isSession_c fun b1 hb1 => ?_
  simp only [walk, lists, acts, mem, plain, seqs, maps, cells, resL, resV, intBin, seval, wCall]
  refine ite_f (fun e => k.dno s1 fun p => not_b hb1 e p.1.1) fun e1 => ?_
  refine within_c fun b2 hb2 => ?_
  simp only [walk, lists, acts, mem, plain, seqs, maps, cells, resL, resV, intBin, seval, wCall]
  refine ite_f (fun e => k.dno s1 fun p => not_b hb2 e p.1.2.1) fun e2 => ?_
  have p1 := hb1.1 e1
  have p2 := hb2.1 e2
  refine ite_pos (fun c1 => ?_) fun c1 => ?_
  · refine implRead_c (gl.sub s1) (gm.sub s1) ht fun v g l ok O o d => ?_
    have n := d
    simp only [subs] at n
    have s2 := s1.trans (Sub.right d)
    simp only [walk, lists, acts, mem, plain, seqs, maps, cells, resL, resV, intBin, seval, wCall]
    cases ok with
    | false =>
      simp only [walk, lists, acts, mem, plain, seqs, maps, cells, resL, resV, intBin, seval]
      refine ⟨h, s2, k.no fun p => ?_⟩
      have := O.iff.2 (p.2 c1)
      cases this
    | true =>
      have hd := O.iff.1 rfl
      have h80 : c.text.length ≤ 80 := by obtain ⟨_, _, _, z⟩ := hd; exact z
      simp only [walk, lists, acts, mem, plain, seqs, maps, cells, resL, resV, intBin, seval, wCall, apps, n]
      refine ite_pos (fun c2 => ?_) fun c2 => ?_
      · refine ⟨h, s2, k _ ?_⟩
        rw [decide_eq_true_eq]
        exact ⟨fun x => ⟨⟨p1, p2, .inl ⟨c1, c2, x, h80⟩⟩, fun _ => hd⟩, fun p => by
          rcases p.1.2.2 with q | q
          · exact q.2.2.1
          · have := q.1; omega⟩
      · refine ⟨h, s2, k.no fun p => ?_⟩
        rcases p.1.2.2 with q | q
        · exact c2 q.2.1
        · have := q.1; omega
  · refine ite_pos (fun c2 => ?_) fun c2 => ?_
    · simp only [walk, lists, acts, mem, plain, seqs, maps, cells, resL, resV, intBin, seval, wCall, str, strBin, el]
      refine ite_pos (fun c3 => ?_) fun c3 => ?_
      · refine isSlot_c fun b3 hb3 => ?_
        simp only [walk, lists, acts, mem, plain, seqs, maps, cells, resL, resV, intBin, seval, wCall]
        cases b3 with
        | false =>
          simp only [walk, lists, acts, mem, plain, seqs, maps, cells, resL, resV, intBin, seval]
          exact k.dno s1 fun p => by
            rcases p.1.2.2 with q | q
            · exact c1 q.1
            · exact not_b hb3 rfl q.2.2.1
        | true =>
          simp only [walk, lists, acts, mem, plain, seqs, maps, cells, resL, resV, intBin, seval, wCall]
          refine isHouse_c fun b4 hb4 => ?_
          simp only [walk, lists, acts, mem, plain, seqs, maps, cells, resL, resV, intBin, seval, wCall]
          refine ⟨h, s1, k _ ?_⟩
          rw [hb4]
          exact ⟨fun x => ⟨⟨p1, p2, .inr ⟨c2, c3, hb3.1 rfl, x⟩⟩, fun y => absurd y c1⟩, fun p => by
            rcases p.1.2.2 with q | q
            · exact absurd q.1 c1
            · exact q.2.2.2⟩
      · exact k.dno s1 fun p => by
          rcases p.1.2.2 with q | q
          · exact c1 q.1
          · exact c3 q.2.1
    · exact k.dno s1 fun p => by
        rcases p.1.2.2 with q | q
        · exact c1 q.1
        · exact c2 q.1
end Go.Proofs.YtmfhlkkligcgdaaGreatDoor
end

/- Gates: the reference's. -/
section
set_option linter.unusedVariables false
set_option linter.unusedSimpArgs false
set_option maxRecDepth 20000
attribute [local irreducible] Go.Tk.vc Go.Tk.vops Go.Tk.vdr Go.Tk.vop Go.Tk.vfl Go.Tk.HCalls
namespace Go.Tk
open Go
theorem lastOf_zero (l : List DRecord) (s : Int) : lastOf (l.take 0) s = none := by simp [lastOf]
theorem lastOf_more {l : List DRecord} {n : Nat} (h : n < l.length) (s : Int) : lastOf (l.take (n + 1)) s = if l[n].call.session = s then some l[n] else lastOf (l.take n) s := by
  unfold lastOf
  rw [List.take_succ_eq_append_getElem h, List.reverse_append]
  simp only [List.reverse_cons, List.reverse_nil, List.nil_append, List.singleton_append, List.find?_cons]
  by_cases c : l[n].call.session = s
  · simp [c]
  · simp [c]
theorem last_at (l : List DRecord) (s : Int) : ∀ n, n ≤ l.length → ∃ m, m ≤ n ∧ (∀ j (hj : j < l.length), m ≤ j → j < n → ¬ l[j].call.session = s) ∧
    ((m = 0 ∧ lastOf (l.take n) s = none) ∨ ∃ i, ∃ (hi : i < l.length), m = i + 1 ∧ l[i].call.session = s ∧ lastOf (l.take n) s = some l[i]) := by
  intro n
  induction n with
  | zero => intro _; exact ⟨0, Nat.le_refl _, fun j _ _ h => absurd h (Nat.not_lt_zero _), .inl ⟨rfl, lastOf_zero l s⟩⟩
  | succ n ih =>
    intro hn
    have hn2 : n < l.length := hn
    by_cases c : l[n].call.session = s
    · exact ⟨n + 1, Nat.le_refl _, fun j _ h1 h2 => absurd h2 (by omega), .inr ⟨n, hn2, rfl, c, by rw [lastOf_more hn2, if_pos c]⟩⟩
    · obtain ⟨m, h1, h2, h3⟩ := ih (by omega)
      refine ⟨m, by omega, fun j hj a b => ?_, ?_⟩
      · by_cases e : j = n
        · subst e; exact c
        · exact h2 j hj a (by omega)
      · rw [lastOf_more hn2, if_neg c]; exact h3
theorem map0_ok : mapP map0 := ⟨⟨by decide, by decide⟩, rfl, fun x hx => by
  have : x ∈ [0, 1, 2, 0, 1, 2, 0, (1 : Int)] := hx
  simp only [List.mem_cons, List.not_mem_nil, or_false] at this
  unfold houseP inP
  omega⟩
theorem mapMove_ok {m : DMap} {s t : Int} (h : mapP m) : mapP (mapMove m s t).1 := by
  unfold mapMove
  rw [if_neg (fun c => c h)]
  split
  · exact h
  · rename_i c1
    split
    · exact h
    · rename_i c2
      split
      · exact h
      · refine ⟨⟨by have := h.1.1; show 1 ≤ m.version + 1; omega, by show m.version + 1 ≤ 99; omega⟩, by rw [List.length_set]; exact h.2.1, fun x hx => ?_⟩
        rcases List.mem_or_eq_of_mem_set hx with hx | rfl
        · exact h.2.2 x hx
        · exact Classical.byContradiction fun c => c1 (.inr c)
theorem mapStep_ok {m : DMap} {r : DRecord} (h : mapP m) : mapP (mapStep m r) := by
  unfold mapStep
  split
  · exact mapMove_ok h
  · exact h
theorem mapOfL_more {l : List DRecord} {i : Nat} (h : i < l.length) : mapOfL (l.take (i + 1)) = mapStep (mapOfL (l.take i)) l[i] := by
  unfold mapOfL
  rw [List.take_succ_eq_append_getElem h, List.foldl_append]; rfl
theorem foldl_ok (l : List DRecord) : ∀ m, mapP m → mapP (l.foldl mapStep m) := by
  induction l with
  | nil => intro m h; exact h
  | cons r l ih => intro m h; exact ih _ (mapStep_ok h)
theorem mapOfL_ok (l : List DRecord) : mapP (mapOfL l) := foldl_ok l _ map0_ok
end Go.Tk
namespace Go.Proofs.YtmfhlkkligcgdaaGreatDoor
open Go Go.Tk

theorem l22Last_x {h : H} {v : Value} {l : List DRecord} {s : Int} (r : rRs h (rRecord h) 11 v l) (hl : l.length ≤ 1099511627776) :
    ∃ d a b ok, sRecord h d a b ∧ lastOf l s = (if ok = true then some d else none) ∧ ∀ R : Ending → H → Prop, R (.returned (.tuple #[.agg (cRecord d a b).toArray, .bool ok])) h → HCalls Tryz.prog 59 #[v, .int .i64 s] h R := by
  obtain ⟨m, hm, hno, hat⟩ := last_at l s l.length (Nat.le_refl _)
  rw [List.take_length] at hat
  have zr := zRecord_eq
  have walk : ∀ (d : DRecord) (a b : Value) (ok : Bool) (R : Ending → H → Prop), ((m = 0 ∧ d = zRecord ∧ a = .slice none 0 0 ∧ b = .slice none 0 0 ∧ ok = false) ∨ (ok = true ∧ ∃ i bb oo, m = i + 1 ∧ i < l.length ∧ d.call.session = s ∧ vone a = true ∧ vone b = true ∧ (∀ (kd : IntKind) (f : Value → Prop), idxSK v (.int kd (i : Int)) 11 f = f (.pointer (some ⟨bb, oo, none⟩))) ∧ hread h bb oo 11 = some (cRecord d a b))) →
      R (.returned (.tuple #[.agg (cRecord d a b).toArray, .bool ok])) h → HCalls Tryz.prog 59 #[v, .int .i64 s] h R := by
    intro d a b ok R hc k
    refine HCalls_ir (args := [v, .int .i64 s]) Tryz.func59 ir59 ?_
    simp only [walk, lists, acts, mem, plain, seqs, maps, cells, resL, resV, intBin, seval, zr]
    refine newB_intro (o := blk (cRecord zRecord (.slice none 0 0) (.slice none 0 0)) 86) fun j hj => ?_
    simp (disch := omega) only [walk, lists, acts, mem, plain, seqs, maps, cells, resL, resV, intBin, seval, zr, r.len, wrapI]
    have s1 := fun o => Sub.cons (o := o) hj (Sub.refl h)
    refine vc_loop [6] (fun n vs h' => n ≤ l.length ∧ m ≤ n ∧ vs = [.int .i64 ((n : Int) - 1)] ∧ h' = (j, blk (cRecord zRecord (.slice none 0 0) (.slice none 0 0)) 86) :: h) l.length rfl ⟨by omega, hm, rfl, rfl⟩ ?_
    rintro n f h' ⟨hn, hmn, hv, rfl⟩
    simp only [List.map_cons, List.map_nil, List.cons.injEq, and_true] at hv
    have r1 : rRs ((j, blk (cRecord zRecord (.slice none 0 0) (.slice none 0 0)) 86) :: h) (rRecord h) 11 v l := r.subH (s1 _)
    simp only [walk, lists, acts, mem, plain, seqs, maps, cells, resL, resV, intBin, seval, wr, hv, zr]
    refine ite_ge (fun c => ?_) fun c => ?_
    · obtain ⟨i, rfl⟩ : ∃ i, n = i + 1 := ⟨n - 1, by omega⟩
      have hi : i < l.length := by omega
      rw [show ((i + 1 : Nat) : Int) - 1 = (i : Int) by omega]
      by_cases hmi : m = i + 1
      · rcases hc with ⟨c0, _⟩ | ⟨rfl, i', bb, oo, e1, e2, e3, oa, ob, hx, e⟩
        · omega
        · have : i' = i := by omega
          subst this
          have e' : hread ((j, blk (cRecord zRecord (.slice none 0 0) (.slice none 0 0)) 86) :: h) bb oo 11 = some (cRecord d a b) := hread_sub (s1 _) e
          have c2 : hcel ((j, blk (cRecord zRecord (.slice none 0 0) (.slice none 0 0)) 86) :: h) bb (oo + 2) = some (.int .i64 d.call.session) := hread_c e' 2 rfl
          have hone := wRecord.2.2.2.2.2.2.2.2.2.2.2.2.2.2.1 d a b oa ob
          simp only [walk, lists, acts, mem, plain, seqs, maps, cells, resL, resV, intBin, seval, hx, c2, zr, e3, e', wRecord, hone]
          exact ⟨h, s1 _, k⟩
      · obtain ⟨bb, oo, cs, hx, e, a1, a2, rfl, sr⟩ := rs_at r1 hi
        have c2 : hcel ((j, blk (cRecord zRecord (.slice none 0 0) (.slice none 0 0)) 86) :: h) bb (oo + 2) = some (.int .i64 l[i].call.session) := hread_c e 2 rfl
        have hne := hno i hi (by omega) hi
        simp (disch := omega) only [walk, lists, acts, mem, plain, seqs, maps, cells, resL, resV, intBin, seval, hx, c2, zr, hne, wrapI]
        exact ⟨i, by omega, _, .refl _, by omega, by omega, by simp, rfl⟩
    · have : m = 0 := by omega
      rcases hc with ⟨c0, rfl, rfl, rfl, rfl⟩ | ⟨rfl, i', bb, oo, e1, _⟩
      · simp only [walk, lists, acts, mem, plain, seqs, maps, cells, resL, resV, intBin, seval, zr, wRecord]
        exact ⟨h, s1 _, k⟩
      · omega
  rcases hat with ⟨m0, hn⟩ | ⟨i, hi, hmi, hsi, hs⟩
  · exact ⟨zRecord, .slice none 0 0, .slice none 0 0, false, ⟨(oLs_nil (e := 0)).rd.sub (Sub.nil _), (oLs_nil (e := 0)).rd.sub (Sub.nil _)⟩, hn, fun R k => walk _ _ _ _ R (.inl ⟨m0, rfl, rfl, rfl, rfl⟩) k⟩
  · obtain ⟨bb, oo, cs, hx, e, a1, a2, rfl, sr⟩ := rs_at r hi
    exact ⟨l[i], a1, a2, true, sr, hs, fun R k => walk _ _ _ _ R (.inr ⟨rfl, i, bb, oo, hmi, hi, hsi, rdS.one sr.1, rdS.one sr.2, hx, e⟩) k⟩

theorem l22Map_c {h : H} {v : Value} {l : List DRecord} (r : rRs h (rRecord h) 11 v l) (hl : l.length ≤ 1099511627776) {R : Ending → H → Prop} (k : ∀ ow g, oLs 3 eI 1 ow (mapOfL l).owners g → Dj g h → R (.returned (.agg (cMap (mapOfL l) ow).toArray)) (g ++ h)) :
    HCalls Tryz.prog 44 #[v] h R := by
  refine HCalls_ir (args := [v]) Tryz.func44 ir44 ?_
  have zm := zMap_eq
  simp only [walk, lists, acts, mem, plain, seqs, maps, cells, resL, resV, intBin, seval, zm]
  refine newB_intro (o := blk (cMap zMap (.slice none 0 0)) 43) fun j2 hj2 => ?_
  simp only [walk, lists, acts, mem, plain, seqs, maps, cells, resL, resV, intBin, seval, zm]
  refine specMapStart_c fun w0 g0 o0 d0 => ?_
  simp only [walk, lists, acts, mem, plain, seqs, maps, cells, resL, resV, intBin, seval, zm]
  refine newB_intro (o := blk (cMap zMap (.slice none 0 0)) 43) fun j3 hj3 => ?_
  have n3 := hj3
  have m0 := d0
  simp only [subs] at n3 m0
  have av0 := wMap.2.2.2.2.2.1 map0 w0 (rdS.one o0.rd)
  simp only [walk, lists, acts, mem, plain, seqs, maps, cells, resL, resV, intBin, seval, zm, wMap, av0]
  have e3 : ¬ j2 = j3 := fun e => n3.2.1 e.symm
  refine vc_loop [4] (fun n vs h' => ∃ (i : Nat) (v' : Value) (G : H), vs = [.int .i64 i] ∧ h' = (j3, blk (cMap (mapOfL (l.take i)) v') 43) :: (G ++ ((j2, blk (cMap zMap (.slice none 0 0)) 43) :: h)) ∧ hget G j3 = none ∧ Dj G ((j2, blk (cMap zMap (.slice none 0 0)) 43) :: h) ∧ oLs 3 eI 1 v' (mapOfL (l.take i)).owners G ∧ i ≤ l.length ∧ n = l.length - i) l.length rfl
    ⟨0, w0, g0, rfl, rfl, n3.1, d0, o0, by omega, rfl⟩ ?_
  rintro n f h' ⟨i, v', G, hv, rfl, n3G, dG, oG, hi, rfl⟩
  simp only [List.map_cons, List.map_nil, List.cons.injEq, and_true] at hv
  have mG := dG
  simp only [subs] at mG
  have ov := rdS.one oG.rd
  have av := wMap.2.2.2.2.2.1 (mapOfL (l.take i)) v' ov
  have hlm := (mapOfL_ok (l.take i)).2.1
  obtain ⟨M, hM⟩ : ∃ M, M = (j3, blk (cMap (mapOfL (l.take i)) v') 43) :: (G ++ ((j2, blk (cMap zMap (.slice none 0 0)) 43) :: h)) := ⟨_, rfl⟩
  have sM : Tk.Sub h M := by rw [hM]; (repeat' first | exact Sub.refl _ | exact Sub.nil _ | assumption | refine Sub.both ?_ ?_ | refine Sub.cons_of (by simp only [subs, n3, n3G, mG, hj2]) ?_ | exact Sub.left _ _ | refine Sub.app (by simp only [subs, n3, n3G, mG, hj2]) ?_ | refine Sub.cons (by simp only [subs, n3, n3G, mG, hj2]) ?_)
  have rM : rRs M (rRecord h) 11 v l := r.subH sM
  have rv : rInts M v' (mapOfL (l.take i)).owners := oG.rd.sub (by rw [hM]; (repeat' first | exact Sub.refl _ | exact Sub.nil _ | assumption | refine Sub.both ?_ ?_ | refine Sub.cons_of (by simp only [subs, n3G, n3]) ?_ | exact Sub.left _ _ | refine Sub.app (by simp only [subs, n3G, n3]) ?_ | refine Sub.cons (by simp only [subs, n3G, n3]) ?_))
  simp only [← hM]
  have hv3 : hread M j3 0 2 = some (cMap (mapOfL (l.take i)) v') := by rw [hM]; simp only [walk, lists, acts, mem, plain, seqs, maps, cells, resL, resV, intBin, seval, wMap]
  have hj2M : hget M j2 = some (blk (cMap zMap (.slice none 0 0)) 43) := by
    rw [hM, hget_next _ _ _ e3, hget_app, mG.1]; exact hget_same _ _ _
  simp only [walk, lists, acts, mem, plain, seqs, maps, cells, resL, resV, intBin, seval, wr, hv, rM.len]
  refine ite_lt (fun c => ?_) fun c => ?_
  · have hi2 : i < l.length := by omega
    have hmore := mapOfL_more hi2
    obtain ⟨b, o, cs, hx, e, a1, a2, rfl, sr⟩ := rs_at rM hi2
    have c4 : hcel M b (o + 4) = some (.int .i64 l[i].call.kind) := hread_c e 4 rfl
    have c6 : hcel M b (o + 6) = some (.int .i64 l[i].call.slot) := hread_c e 6 rfl
    have c7 : hcel M b (o + 7) = some (.int .i64 l[i].call.to) := hread_c e 7 rfl
    have c8 : hcel M b (o + 8) = some (.int .i64 l[i].code) := hread_c e 8 rfl
    have keep : mapStep (mapOfL (l.take i)) l[i] = mapOfL (l.take i) → ∃ m, m < l.length - i ∧ ∃ g, Tk.Sub g M ∧ ∃ (i' : Nat) (v' : Value) (G : H), [Value.int .i64 ((i : Int) + 1)] = [.int .i64 i'] ∧ g = (j3, blk (cMap (mapOfL (l.take i')) v') 43) :: (G ++ ((j2, blk (cMap zMap (.slice none 0 0)) 43) :: h)) ∧ hget G j3 = none ∧ Dj G ((j2, blk (cMap zMap (.slice none 0 0)) 43) :: h) ∧ oLs 3 eI 1 v' (mapOfL (l.take i')).owners G ∧ i' ≤ l.length ∧ m = l.length - i' := fun hk =>
      ⟨l.length - (i + 1), by omega, M, .refl _, i + 1, v', G, by simp, by rw [hmore, hk]; exact hM, n3G, dG, by rw [hmore, hk]; exact oG, by omega, rfl⟩
    simp only [walk, lists, acts, mem, plain, seqs, maps, cells, resL, resV, intBin, seval, hx, c4]
    refine ite_pos (fun k1 => ?_) fun k1 => ?_
    · simp only [walk, lists, acts, mem, plain, seqs, maps, cells, resL, resV, intBin, seval, hx, c8]
      refine ite_pos (fun k2 => ?_) fun k2 => ?_
      · refine vc_draw _ (Sub.refl _) ?_
        simp only [walk, lists, acts, mem, plain, seqs, maps, cells, resL, resV, intBin, seval, hx, hv3, c6, c7]
        refine specMapMove_c rv (by omega) fun v2 g2 o2 d2 => ?_
        have hm2 : mapOfL (l.take (i + 1)) = (mapMove (mapOfL (l.take i)) l[i].call.slot l[i].call.to).1 := by rw [hmore]; unfold mapStep; rw [if_pos ⟨k1, k2⟩]
        generalize mapMove (mapOfL (l.take i)) l[i].call.slot l[i].call.to = q at *
        have sd := Sub.right d2
        have ov2 := rdS.one o2.rd
        have av2 := wMap.2.2.2.2.2.1 q.1 v2 ov2
        have hj3M : hget M j3 = some (blk (cMap (mapOfL (l.take i)) v') 43) := by rw [hM]; exact hget_same _ _ _
        have x3 : hget g2 j3 = none := d2.of (by rw [hj3M]; simp)
        have x2 : hget g2 j2 = none := d2.of (by rw [hj2M]; simp)
        have dh : Dj g2 h := d2.sub (.refl _) sM
        have dG2 : Dj g2 G := d2.sub (.refl _) (by rw [hM]; (repeat' first | exact Sub.refl _ | exact Sub.nil _ | assumption | refine Sub.both ?_ ?_ | refine Sub.cons_of (by simp only [subs, n3G, n3]) ?_ | exact Sub.left _ _ | refine Sub.app (by simp only [subs, n3G, n3]) ?_ | refine Sub.cons (by simp only [subs, n3G, n3]) ?_))
        simp only [walk, lists, acts, mem, plain, seqs, maps, cells, resL, resV, intBin, seval, sd]
        simp only [walk, lists, acts, mem, plain, seqs, maps, cells, resL, resV, intBin, seval, apps, x3, hM, wMap, av2]
        simp (disch := omega) only [walk, lists, acts, mem, plain, seqs, maps, cells, resL, resV, intBin, seval, wrapI]
        refine ⟨l.length - (i + 1), by omega, (j3, blk (cMap q.1 v2) 43) :: (g2 ++ ((j2, blk (cMap zMap (.slice none 0 0)) 43) :: h)), ?_, i + 1, v2, g2, by simp, by rw [hm2], x3, by simp only [subs, x2, dh], by rw [hm2]; exact o2, by omega, rfl⟩
        (repeat' first | exact Sub.refl _ | exact Sub.nil _ | assumption | refine Sub.both ?_ ?_ | refine Sub.cons_of (by simp only [subs, x3, x2, dh, dG2, n3, n3G, mG, hj2, e3]) ?_ | exact Sub.left _ _ | refine Sub.app (by simp only [subs, x3, x2, dh, dG2, n3, n3G, mG, hj2, e3]) ?_ | refine Sub.cons (by simp only [subs, x3, x2, dh, dG2, n3, n3G, mG, hj2, e3]) ?_)
      · simp (disch := omega) only [walk, lists, acts, mem, plain, seqs, maps, cells, resL, resV, intBin, seval, wrapI]
        exact keep (by unfold mapStep; rw [if_neg (fun c => k2 c.2)])
    · simp (disch := omega) only [walk, lists, acts, mem, plain, seqs, maps, cells, resL, resV, intBin, seval, wrapI]
      exact keep (by unfold mapStep; rw [if_neg (fun c => k1 c.1)])
  · have hi2 : i = l.length := by omega
    subst hi2
    rw [List.take_length] at *
    simp only [walk, lists, acts, mem, plain, seqs, maps, cells, resL, resV, intBin, seval, zm, hv3, av]
    have dh := mG.2
    subst hM
    simp only [walk, lists, acts, mem, plain, seqs, maps, cells, resL, resV, intBin, seval, e3, mG, apps, wMap, av]
    exact ⟨G ++ h, by (repeat' first | exact Sub.refl _ | exact Sub.nil _ | assumption | refine Sub.both ?_ ?_ | refine Sub.cons_of (by simp only [subs, n3, n3G, mG, hj2, e3, dh]) ?_ | exact Sub.left _ _ | refine Sub.app (by simp only [subs, n3, n3G, mG, hj2, e3, dh]) ?_ | refine Sub.cons (by simp only [subs, n3, n3G, mG, hj2, e3, dh]) ?_), k v' G oG dh⟩

theorem l22LogOk_c {h : H} {v : Value} {l : List DRecord} {nx : Int} (r : rRs h (rRecord h) 11 v l) (hl : l.length ≤ 1048576) (hb : allP bRecord l) (hn : inP 1 9999 nx) {R : Ending → H → Prop} (k : Asks R (glogP l nx) h) :
    HCalls Tryz.prog 57 #[v, .int .i64 nx] h R := by
  refine HCalls_ir (args := [v, .int .i64 nx]) Tryz.func57 ir57 ?_
  have zr := zRecord_eq
  have hn2 : IntKind.i64.wrap (nx - 1) = nx - 1 := wrapI _ (by have := hn.1; have := hn.2; omega)
  simp only [walk, lists, acts, mem, plain, seqs, maps, cells, resL, resV, intBin, seval, zr, r.len]
  refine ite_lt (fun c => .of (k.no fun p => by have := p.1; omega)) fun c0 => ?_
  refine vc_loop [5] (fun n vs h' => ∃ i : Nat, vs = [.int .i64 i] ∧ h' = h ∧ i ≤ l.length ∧ n = l.length - i ∧ ∀ j (hj : j < i) (hj2 : j < l.length), recordP (l.take j) nx l[j]) l.length rfl ⟨0, rfl, rfl, by omega, rfl, fun j hj => absurd hj (Nat.not_lt_zero _)⟩ ?_
  rintro n f h' ⟨i, hv, rfl, hi, rfl, hok⟩
  simp only [List.map_cons, List.map_nil, List.cons.injEq, and_true] at hv
  simp only [walk, lists, acts, mem, plain, seqs, maps, cells, resL, resV, intBin, seval, wr, hv, zr, r.len]
  refine ite_lt (fun c => ?_) fun c => ?_
  · have hi2 : i < l.length := by omega
    have bR := hb _ (List.getElem_mem hi2)
    have b1 := bR.v; have b2 := bR.p; have b3 := bR.c
    unfold bCall at b3
    unfold lim at b1 b2 b3
    obtain ⟨b, o, cs, hx, e, a1, a2, rfl, sr⟩ := rs_at r hi2
    have hone := wRecord.2.2.2.2.2.2.2.2.2.2.2.2.2.2.1 l[i] a1 a2 (rdS.one sr.1) (rdS.one sr.2)
    have no : ∀ {P : Prop}, (recordP (l.take i) nx l[i] → P) → ¬ P → ¬ glogP l nx := fun f g p => g (f (p.2 i hi2))
    simp only [walk, lists, acts, mem, plain, seqs, maps, cells, resL, resV, intBin, seval, hx, e, zr, wRecord]
    refine newB_intro (o := blk (cRecord zRecord (.slice none 0 0) (.slice none 0 0)) 86) fun j hj => ?_
    simp only [walk, lists, acts, mem, plain, seqs, maps, cells, resL, resV, intBin, seval, zr, wRecord, hone, hn2]
    have s1 := fun o => Sub.cons (o := o) hj (Sub.refl h')
    have ec : ∀ c, (cRecord l[i] a1 a2).drop 2 = cCall l[i].call ++ c → True := fun _ _ => trivial
    refine l6In_c fun q1 hq1 => ?_
    cases q1 with
    | false =>
      simp only [walk, lists, acts, mem, plain, seqs, maps, cells, resL, resV, intBin, seval, zr, wRecord]
      exact k.dno (s1 _) (no (fun p => p.1) (not_b hq1 rfl))
    | true =>
      simp only [walk, lists, acts, mem, plain, seqs, maps, cells, resL, resV, intBin, seval, zr, wRecord]
      refine l6In_c fun q2 hq2 => ?_
      cases q2 with
      | false =>
        simp only [walk, lists, acts, mem, plain, seqs, maps, cells, resL, resV, intBin, seval, zr, wRecord]
        exact k.dno (s1 _) (no (fun p => p.2.1) (not_b hq2 rfl))
      | true =>
        simp only [walk, lists, acts, mem, plain, seqs, maps, cells, resL, resV, intBin, seval, zr, wRecord]
        refine specCallOk_c (by omega) fun q3 hq3 => ?_
        cases q3 with
        | false =>
          simp only [walk, lists, acts, mem, plain, seqs, maps, cells, resL, resV, intBin, seval, zr, wRecord]
          exact k.dno (s1 _) (no (fun p => p.2.2.1) (not_b hq3 rfl))
        | true =>
          simp only [walk, lists, acts, mem, plain, seqs, maps, cells, resL, resV, intBin, seval, zr, wRecord]
          refine l6In_c fun q4 hq4 => ?_
          cases q4 with
          | false =>
            simp only [walk, lists, acts, mem, plain, seqs, maps, cells, resL, resV, intBin, seval, zr, wRecord]
            exact k.dno (s1 _) (no (fun p => p.2.2.2.1) (not_b hq4 rfl))
          | true =>
            simp only [walk, lists, acts, mem, plain, seqs, maps, cells, resL, resV, intBin, seval, zr, wRecord]
            refine l3Vals_c (sr.1.sub (s1 _)) (by omega) fun q5 hq5 => ?_
            cases q5 with
            | false =>
              simp only [walk, lists, acts, mem, plain, seqs, maps, cells, resL, resV, intBin, seval, zr, wRecord]
              exact k.dno (s1 _) (no (fun p => p.2.2.2.2.1) (not_b hq5 rfl))
            | true =>
              simp only [walk, lists, acts, mem, plain, seqs, maps, cells, resL, resV, intBin, seval, zr, wRecord]
              refine l1Pairs_c (sr.2.sub (s1 _)) (by omega) fun q6 hq6 => ?_
              cases q6 with
              | false =>
                simp only [walk, lists, acts, mem, plain, seqs, maps, cells, resL, resV, intBin, seval, zr, wRecord]
                exact k.dno (s1 _) (no (fun p => p.2.2.2.2.2.1) (not_b hq6 rfl))
              | true =>
                simp only [walk, lists, acts, mem, plain, seqs, maps, cells, resL, resV, intBin, seval, zr, wRecord]
                obtain ⟨M, hM⟩ : ∃ M, M = (j, blk (cRecord l[i] a1 a2) 86) :: h' := ⟨_, rfl⟩
                have sM : Tk.Sub h' M := by rw [hM]; exact s1 _
                have f0 : hcel M j 0 = some (.int .i64 l[i].stamp) := by rw [hM]; simp only [walk, lists, acts, mem, plain, seqs, maps, cells, resL, resV, intBin, seval, wRecord]
                have f2 : hcel M j 2 = some (.int .i64 l[i].call.session) := by rw [hM]; simp only [walk, lists, acts, mem, plain, seqs, maps, cells, resL, resV, intBin, seval, wRecord]
                have f3 : hcel M j 3 = some (.int .i64 l[i].call.number) := by rw [hM]; simp only [walk, lists, acts, mem, plain, seqs, maps, cells, resL, resV, intBin, seval, wRecord]
                have rM : rRs M (rRecord h') 11 v l := r.subH sM
                rw [← hM]
                refine vc_loop [7] (fun n vs g' => ∃ p : Nat, vs = [.int .i64 p] ∧ g' = M ∧ p ≤ i ∧ n = i - p ∧ ∀ x ∈ l.take p, x.stamp ≠ l[i].stamp) i rfl ⟨0, rfl, rfl, by omega, rfl, fun x hx => by simp at hx⟩ ?_
                rintro n2 f' g' ⟨p, hv2, rfl, hp, rfl, hst⟩
                simp only [List.map_cons, List.map_nil, List.cons.injEq, and_true] at hv2
                simp only [walk, lists, acts, mem, plain, seqs, maps, cells, resL, resV, intBin, seval, wr, hv2]
                refine ite_lt (fun c4 => ?_) fun c4 => ?_
                · have hp2 : p < l.length := by omega
                  obtain ⟨b', o', cs', hx', e', a1', a2', rfl, sr'⟩ := rs_at rM hp2
                  have g0 : hcel g' b' o' = some (.int .i64 l[p].stamp) := by have := hread_c e' 0 rfl; rw [Nat.add_zero] at this; exact this
                  refine vc_draw _ (Sub.refl _) ?_
                  simp only [walk, lists, acts, mem, plain, seqs, maps, cells, resL, resV, intBin, seval, hx', g0, f0, Sub.refl]
                  have hin : l[p] ∈ l.take i := by
                    rw [List.mem_take_iff_getElem]
                    exact ⟨p, by omega, rfl⟩
                  refine ite_pos (fun c5 => k.dno sM (no (fun p => p.2.2.2.2.2.2.1) fun q => q _ hin c5)) fun c5 => ?_
                  simp (disch := omega) only [wrapI]
                  refine ⟨i - (p + 1), by omega, _, .refl _, p + 1, by simp, rfl, by omega, rfl, fun x hx => ?_⟩
                  rw [List.take_succ_eq_append_getElem hp2] at hx
                  rcases List.mem_append.1 hx with hx | hx
                  · exact hst x hx
                  · rw [List.mem_singleton.1 hx]; exact c5
                · have hpi : p = i := by omega
                  have hst2 : ∀ x ∈ l.take i, x.stamp ≠ l[i].stamp := fun x hx => hst x (by rw [hpi]; exact hx)
                  refine vc_draw _ (Sub.refl _) ?_
                  simp only [walk, lists, acts, mem, plain, seqs, maps, cells, resL, resV, intBin, seval]
                  refine slc_rs_pre rM (by omega) (by omega) fun v2 r2 => ?_
                  rw [Int.toNat_natCast] at r2
                  simp only [walk, lists, acts, mem, plain, seqs, maps, cells, resL, resV, intBin, seval, f2]
                  obtain ⟨d, x1, x2, ok, sd, hlast, hc⟩ := l22Last_x (s := l[i].call.session) (r2.relImp fun _ _ x => rRecord.sub sM x) (by rw [List.length_take]; omega)
                  refine ⟨_, hc, ?_⟩
                  simp only [walk, lists, acts, mem, plain, seqs, maps, cells, resL, resV, intBin, seval, zr]
                  refine newB_intro (o := blk (cRecord zRecord (.slice none 0 0) (.slice none 0 0)) 86) fun j8 hj8 => ?_
                  have s8 := Sub_new (o := blk (cRecord zRecord (.slice none 0 0) (.slice none 0 0)) 86) hj8
                  have hone8 := wRecord.2.2.2.2.2.2.2.2.2.2.2.2.2.2.1 d x1 x2 (rdS.one sd.1) (rdS.one sd.2)
                  have s9 : ∀ o, Tk.Sub g' ((j8, o) :: g') := fun o => Sub.cons hj8 (Sub.refl _)
                  have f3' := hcel_sub (s9 (blk (cRecord d x1 x2) 86)) f3
                  have fin : (∀ x, lastOf (l.take i) l[i].call.session = some x → x.call.number < l[i].call.number) → ∃ m, m < l.length - i ∧ ∃ g, Tk.Sub g ((j8, blk (cRecord d x1 x2) 86) :: g') ∧ ∃ i' : Nat, [Value.int .i64 ((i : Int) + 1)] = [Value.int .i64 i'] ∧ g = h' ∧ i' ≤ l.length ∧ m = l.length - i' ∧ ∀ (j : Nat), j < i' → ∀ (hj2 : j < l.length), recordP (l.take j) nx l[j] := fun hfin =>
                    ⟨l.length - (i + 1), by omega, h', sM.trans (s9 _), i + 1, by simp, rfl, by omega, rfl, fun q hq hq' => by
                      by_cases e : q = i
                      · subst e; exact ⟨hq1.1 rfl, hq2.1 rfl, hq3.1 rfl, hq4.1 rfl, hq5.1 rfl, hq6.1 rfl, hst2, hfin⟩
                      · exact hok q (by omega) hq'⟩
                  simp only [walk, lists, acts, mem, plain, seqs, maps, cells, resL, resV, intBin, seval, s8, zr, wRecord, hone8]
                  cases ok with
                  | false =>
                    simp (disch := omega) only [walk, lists, acts, mem, plain, seqs, maps, cells, resL, resV, intBin, seval, wrapI]
                    exact fin fun x hx => by rw [hlast] at hx; simp at hx
                  | true =>
                    simp only [walk, lists, acts, mem, plain, seqs, maps, cells, resL, resV, intBin, seval, f3']
                    refine ite_ge (fun c7 => k.dno (sM.trans (s9 _)) (no (fun p => p.2.2.2.2.2.2.2) fun q => ?_)) fun c7 => ?_
                    · have := q d (by rw [hlast]; rfl)
                      omega
                    · simp (disch := omega) only [walk, lists, acts, mem, plain, seqs, maps, cells, resL, resV, intBin, seval, wrapI]
                      refine fin fun x hx => ?_
                      rw [hlast] at hx
                      cases hx
                      exact c7
  · exact .of (k.yes ⟨by omega, fun j hj => hok j (by omega) hj⟩)
end Go.Proofs.YtmfhlkkligcgdaaGreatDoor
end

/- Gates: the reference's ways, and which are ok. -/
section
set_option linter.unusedVariables false
set_option linter.unusedSimpArgs false
set_option maxRecDepth 20000
attribute [local irreducible] Go.Tk.vc Go.Tk.vops Go.Tk.vdr Go.Tk.vop Go.Tk.vfl Go.Tk.HCalls
namespace Go.Tk
open Go
/-- The place of a stamp's call. -/
def liveI (l : List DLive) (s : Int) : Int := match l.findIdx? fun x => decide (x.stamp = s) with
  | some i => i
  | none => -1
theorem findIdx_no' {α : Type} {p : α → Bool} {l : List α} (h : ∀ x ∈ l, p x = false) : l.findIdx? p = none := by
  rw [List.findIdx?_eq_none_iff]; exact h
theorem findIdx_at' {α : Type} {p : α → Bool} {l : List α} {i : Nat} (hi : i < l.length) (h : ∀ x ∈ l.take i, p x = false) (hp : p l[i] = true) : l.findIdx? p = some i := by
  rw [List.findIdx?_eq_some_iff_getElem]
  refine ⟨hi, hp, fun j hj => ?_⟩
  have : l[j] ∈ l.take i := by
    rw [List.mem_take_iff_getElem]
    exact ⟨j, by omega, rfl⟩
  rw [h _ this]; simp
theorem none_more' {α : Type} {p : α → Bool} {l : List α} {i : Nat} (hi : i < l.length) (h : ∀ x ∈ l.take i, p x = false) (hp : p l[i] = false) : ∀ x ∈ l.take (i + 1), p x = false := by
  intro x hx
  rw [List.take_succ_eq_append_getElem hi] at hx
  rcases List.mem_append.1 hx with hx | hx
  · exact h x hx
  · rw [List.mem_singleton.1 hx]; exact hp
theorem liveI_at (l : List DLive) (s : Int) : (liveI l s = -1 ∧ liveOf l s = none) ∨ ∃ i, ∃ (hi : i < l.length), liveI l s = i ∧ liveOf l s = some l[i] := by
  unfold liveI liveOf
  induction l with
  | nil => exact .inl ⟨rfl, rfl⟩
  | cons x l ih =>
    rw [List.findIdx?_cons, List.find?_cons]
    by_cases c : x.stamp = s
    · exact .inr ⟨0, by simp, by simp [c], by simp [c]⟩
    · rcases ih with ⟨h1, h2⟩ | ⟨i, hi, h1, h2⟩
      · refine .inl ⟨?_, by simp [c, h2]⟩
        cases e : l.findIdx? (fun x => decide (x.stamp = s)) with
        | none => simp [c, e]
        | some k => rw [e] at h1; simp only at h1; omega
      · refine .inr ⟨i + 1, by simpa using hi, ?_, by simp [c, h2]⟩
        cases e : l.findIdx? (fun x => decide (x.stamp = s)) with
        | none => rw [e] at h1; simp only at h1; omega
        | some k => rw [e] at h1; simp only at h1; simp [c, e]; omega
end Go.Tk
namespace Go.Proofs.YtmfhlkkligcgdaaGreatDoor
open Go Go.Tk

theorem l22Live_c {h : H} {v : Value} {l : List DLive} {s : Int} (r : rRs h (rLive h) 12 v l) (hl : l.length ≤ 1099511627776) {R : Ending → H → Prop} (k : R (.returned (.int .i64 (liveI l s))) h) : HCalls Tryz.prog 93 #[v, .int .i64 s] h R := by
  refine HCalls_ir (args := [v, .int .i64 s]) Tryz.func93 ir93 ?_
  simp only [walk, lists, acts, mem, plain, seqs, maps, cells, resL, resV, intBin, seval, r.len]
  refine vc_loop [5] (fun n vs h' => ∃ i : Nat, vs = [.int .i64 i] ∧ h' = h ∧ i ≤ l.length ∧ n = l.length - i ∧ ∀ x ∈ l.take i, decide (x.stamp = s) = false) l.length rfl ⟨0, rfl, rfl, by omega, by omega, by simp⟩ ?_
  rintro n f h' ⟨i, hv, rfl, hi, rfl, ht⟩
  simp only [List.map_cons, List.map_nil, List.cons.injEq, and_true] at hv
  simp only [walk, lists, acts, mem, plain, seqs, maps, cells, resL, resV, intBin, seval, wr, hv, r.len]
  refine ite_lt (fun c => ?_) fun c => ?_
  · have hi2 : i < l.length := by omega
    obtain ⟨b, o, cs, hx, e, a1, a2, rfl, sr⟩ := rs_at r hi2
    have f1 : hcel h' b o = some (.int .i64 l[i].stamp) := by have := hread_c e 0 rfl; rw [Nat.add_zero] at this; exact this
    simp only [walk, lists, acts, mem, plain, seqs, maps, cells, resL, resV, intBin, seval, hx, f1]
    refine ite_pos (fun c1 => ?_) fun c1 => ?_
    · refine .of ?_
      rw [liveI, findIdx_at' hi2 ht (by simpa using c1)] at k
      exact k
    · simp (disch := omega) only [wrapI]
      exact ⟨l.length - (i + 1), by omega, h', .refl _, i + 1, by simp, rfl, by omega, rfl, fun x hx => by simpa using none_more' (p := fun x => decide (x.stamp = s)) hi2 ht (by simpa using c1) x hx⟩
  · have hi2 : i = l.length := by omega
    subst hi2
    rw [List.take_length] at ht
    rw [liveI, findIdx_no' ht] at k
    exact .of k

theorem l22Used_c {h : H} {v : Value} {l : List DWay} {s : Int} (r : rLs h cWay 2 v l) (hl : l.length ≤ 1099511627776) {R : Ending → H → Prop} (k : R (.returned (.int .i64 (usedN l s))) h) : HCalls Tryz.prog 94 #[v, .int .i64 s] h R := by
  refine HCalls_ir (args := [v, .int .i64 s]) Tryz.func94 ir94 ?_
  simp only [walk, lists, acts, mem, plain, seqs, maps, cells, resL, resV, intBin, seval, r.len]
  refine vc_loop [6, 5] (fun n vs h' => ∃ i : Nat, vs = [.int .i64 i, .int .i64 (usedN (l.take i) s)] ∧ h' = h ∧ i ≤ l.length ∧ n = l.length - i) l.length rfl ⟨0, rfl, rfl, by omega, by omega⟩ ?_
  rintro n f h' ⟨i, hv, rfl, hi, rfl⟩
  simp only [List.map_cons, List.map_nil, List.cons.injEq, and_true] at hv
  simp only [walk, lists, acts, mem, plain, seqs, maps, cells, resL, resV, intBin, seval, wr, hv.1, hv.2, r.len]
  refine ite_lt (fun c => ?_) fun c => ?_
  · have hi2 : i < l.length := by omega
    obtain ⟨b, o, hx, e⟩ := ls_at (enc := cWay) (sz := 2) (fun _ => rfl) r hi2
    have f1 : hcel h' b o = some (.int .i64 l[i].house) := by have := hread_c e 0 rfl; rw [Nat.add_zero] at this; exact this
    have hu : usedN (l.take i) s ≤ i := Nat.le_trans List.countP_le_length (by rw [List.length_take]; omega)
    have hm : usedN (l.take (i + 1)) s = usedN (l.take i) s + if l[i].house = s then 1 else 0 := by
      unfold usedN
      rw [List.take_succ_eq_append_getElem hi2, List.countP_append, List.countP_singleton]
      simp only [decide_eq_true_eq]
    simp only [walk, lists, acts, mem, plain, seqs, maps, cells, resL, resV, intBin, seval, hx, f1]
    refine ite_pos (fun c1 => ?_) fun c1 => ?_
    · rw [if_pos c1] at hm
      simp (disch := omega) only [walk, lists, acts, mem, plain, seqs, maps, cells, resL, resV, intBin, seval, wrapI]
      exact ⟨l.length - (i + 1), by omega, h', .refl _, i + 1, by rw [hm]; simp, rfl, by omega, rfl⟩
    · rw [if_neg c1] at hm
      simp (disch := omega) only [walk, lists, acts, mem, plain, seqs, maps, cells, resL, resV, intBin, seval, wrapI]
      exact ⟨l.length - (i + 1), by omega, h', .refl _, i + 1, by rw [hm]; simp, rfl, by omega, rfl⟩
  · have hi2 : i = l.length := by omega
    subst hi2
    rw [List.take_length] at *
    exact .of k

theorem l22WaysOk_c {h : H} {g : DGate} {lg lv wy : Value} (r : sGate h g lg lv wy) (hb : bGate g) {R : Ending → H → Prop} (k : Asks R (waysP g.lives g.ways) h) : HCalls Tryz.prog 60 #[.agg (cGate g lg lv wy).toArray] h R := by
  refine HCalls_ir (args := [.agg (cGate g lg lv wy).toArray]) Tryz.func60 ir60 ?_
  have b1 := hb.lives; have b2 := hb.ways
  unfold lim at b1 b2
  simp only [walk, lists, acts, mem, plain, seqs, maps, cells, resL, resV, intBin, seval, wGate]
  refine newB_intro (o := blk (cGate g lg lv wy) 34) fun j hj => ?_
  have s1 := Sub.cons (o := blk (cGate g lg lv wy) 34) hj (Sub.refl h)
  have r1 := r.sub s1
  obtain ⟨M, hM⟩ : ∃ M, M = (j, blk (cGate g lg lv wy) 34) :: h := ⟨_, rfl⟩
  have f4 : hcel M j 4 = some lv := by rw [hM]; simp only [walk, lists, acts, mem, plain, seqs, maps, cells, resL, resV, intBin, seval, wGate]
  have f5 : hcel M j 5 = some wy := by rw [hM]; simp only [walk, lists, acts, mem, plain, seqs, maps, cells, resL, resV, intBin, seval, wGate]
  have zw := zWay_eq
  rw [← hM] at r1 s1
  simp only [walk, lists, acts, mem, plain, seqs, maps, cells, resL, resV, intBin, seval, wGate, ← hM]
  refine vc_loop [3] (fun n vs h' => ∃ i : Nat, vs = [.int .i64 i] ∧ h' = M ∧ i ≤ g.ways.length ∧ n = g.ways.length - i ∧ (∀ w ∈ g.ways.take i, houseP w.house ∧ (∃ x, liveOf g.lives w.stamp = some x ∧ x.phase ≠ 0) ∧ usedN g.ways w.house ≤ 2) ∧ ∀ q (hq : q + 1 < g.ways.length), q + 1 < i → wayLt (g.ways[q]'(by omega)) g.ways[q + 1]) g.ways.length rfl ⟨0, rfl, rfl, by omega, by omega, by simp, by simp⟩ ?_
  rintro n f h' ⟨i, hv, rfl, hi, rfl, hall, hlt⟩
  simp only [List.map_cons, List.map_nil, List.cons.injEq, and_true] at hv
  simp only [walk, lists, acts, mem, plain, seqs, maps, cells, resL, resV, intBin, seval, wr, hv, f5, r1.2.2.len]
  refine ite_lt (fun c => ?_) fun c => ?_
  · have hi2 : i < g.ways.length := by omega
    obtain ⟨b, o, hx, e⟩ := ls_at (enc := cWay) (sz := 2) (fun _ => rfl) r1.2.2 hi2
    simp only [walk, lists, acts, mem, plain, seqs, maps, cells, resL, resV, intBin, seval, hx, e, f5, wWay, zw]
    refine newB_intro (o := blk (cWay zWay) 92) fun j4 hj4 => ?_
    obtain ⟨B, hB⟩ : ∃ B, B = (j4, blk (cWay g.ways[i]) 92) :: h' := ⟨_, rfl⟩
    have sB : Tk.Sub h' B := by rw [hB]; exact Sub.cons hj4 (Sub.refl _)
    have f4' := hcel_sub sB f4
    have f5' := hcel_sub sB f5
    have w0 : hcel B j4 0 = some (.int .i64 g.ways[i].house) := by rw [hB]; simp only [walk, lists, acts, mem, plain, seqs, maps, cells, resL, resV, intBin, seval, wWay]
    have w1 : hcel B j4 1 = some (.int .i64 g.ways[i].stamp) := by rw [hB]; simp only [walk, lists, acts, mem, plain, seqs, maps, cells, resL, resV, intBin, seval, wWay]
    have rl := r1.2.1.subH sB
    have rw' := r1.2.2.sub sB
    simp only [walk, lists, acts, mem, plain, seqs, maps, cells, resL, resV, intBin, seval, hx, e, f5, wWay, zw, ← hB, f4', f5', w0, w1]
    have no : ¬ (houseP g.ways[i].house ∧ (∃ x, liveOf g.lives g.ways[i].stamp = some x ∧ x.phase ≠ 0) ∧ usedN g.ways g.ways[i].house ≤ 2) → ¬ waysP g.lives g.ways := fun q p => q (p.1 _ (List.getElem_mem hi2))
    have s2 := s1.trans sB
    refine l22Live_c (rl.relImp fun _ _ x => rLive.sub sB x) (by omega) ?_
    simp only [walk, lists, acts, mem, plain, seqs, maps, cells, resL, resV, intBin, seval, f4', f5', w0, w1]
    refine l12House_c fun u hu => ?_
    cases u with
    | false =>
      simp only [walk, lists, acts, mem, plain, seqs, maps, cells, resL, resV, intBin, seval, f4', f5', w0, w1]
      exact k.dno s2 (no fun q => not_b hu rfl q.1)
    | true =>
    simp only [walk, lists, acts, mem, plain, seqs, maps, cells, resL, resV, intBin, seval, f4', f5', w0, w1]
    rcases liveI_at g.lives g.ways[i].stamp with ⟨h1, h2⟩ | ⟨p, hp, h1, h2⟩
    · simp only [walk, lists, acts, mem, plain, seqs, maps, cells, resL, resV, intBin, seval, h1, f4', f5', w0, w1]
      exact k.dno s2 (no fun q => by obtain ⟨_, ⟨x, hx, _⟩, _⟩ := q; rw [h2] at hx; cases hx)
    · obtain ⟨b6, o6, cs6, hx6, e6, a61, a62, rfl, sr6⟩ := rs_at rl hp
      have f6 : hcel B b6 (o6 + 3) = some (.int .i64 g.lives[p].phase) := hread_c e6 3 rfl
      have hp0 : ¬ (p : Int) < 0 := by omega
      simp only [walk, lists, acts, mem, plain, seqs, maps, cells, resL, resV, intBin, seval, h1, hp0, hx6, f6, f4', f5', w0, w1]
      have hlx : ∀ x, liveOf g.lives g.ways[i].stamp = some x → x = g.lives[p] := fun x hx => by rw [h2] at hx; cases hx; rfl
      refine ite_pos (fun c7 => k.dno s2 (no fun q => by obtain ⟨_, ⟨x, hx, hx2⟩, _⟩ := q; exact hx2 (by rw [hlx x hx]; exact c7))) fun c7 => ?_
      refine l22Used_c rw' (by omega) ?_
      have hu7 : usedN g.ways g.ways[i].house ≤ g.ways.length := List.countP_le_length
      simp only [walk, lists, acts, mem, plain, seqs, maps, cells, resL, resV, intBin, seval, f4', f5', w0, w1]
      refine ite_lt (fun c8 => k.dno s2 (no fun q => by have := q.2.2; omega)) fun c8 => ?_
      have good : houseP g.ways[i].house ∧ (∃ x, liveOf g.lives g.ways[i].stamp = some x ∧ x.phase ≠ 0) ∧ usedN g.ways g.ways[i].house ≤ 2 := ⟨hu.1 rfl, ⟨_, h2, c7⟩, by omega⟩
      have next : (∀ (hq : 0 < i), wayLt (g.ways[i - 1]'(by omega)) g.ways[i]) → ∃ m, m < g.ways.length - i ∧ ∃ gg, Tk.Sub gg B ∧ ∃ i' : Nat, [Value.int .i64 ((i : Int) + 1)] = [Value.int .i64 i'] ∧ gg = h' ∧ i' ≤ g.ways.length ∧ m = g.ways.length - i' ∧ (∀ w ∈ g.ways.take i', houseP w.house ∧ (∃ x, liveOf g.lives w.stamp = some x ∧ x.phase ≠ 0) ∧ usedN g.ways w.house ≤ 2) ∧ ∀ q (hq : q + 1 < g.ways.length), q + 1 < i' → wayLt (g.ways[q]'(by omega)) g.ways[q + 1] := fun hw =>
        ⟨g.ways.length - (i + 1), by omega, h', sB, i + 1, by simp, rfl, by omega, rfl, fun w hw2 => by
          rw [List.take_succ_eq_append_getElem hi2] at hw2
          rcases List.mem_append.1 hw2 with hw2 | hw2
          · exact hall w hw2
          · rw [List.mem_singleton.1 hw2]; exact good, fun q hq hq2 => by
          by_cases e : q + 1 = i
          · subst e; exact hw (by omega)
          · exact hlt q hq (by omega)⟩
      refine vc_draw _ (Sub.refl _) ?_
      simp only [walk, lists, acts, mem, plain, seqs, maps, cells, resL, resV, intBin, seval, f4', f5', w0, w1, Sub.refl B]
      refine ite_lt (fun g1 => ?_) fun g1 => ?_
      · have hi3 : i - 1 < g.ways.length := by omega
        obtain ⟨b3, o3, hx3, e3⟩ := ls_at (enc := cWay) (sz := 2) (fun _ => rfl) rw' hi3
        have y0 : hcel B b3 o3 = some (.int .i64 g.ways[i - 1].house) := by have := hread_c e3 0 rfl; rw [Nat.add_zero] at this; exact this
        have y1 : hcel B b3 (o3 + 1) = some (.int .i64 g.ways[i - 1].stamp) := hread_c e3 1 rfl
        have hw3 : IntKind.i64.wrap ((i : Int) - 1) = ((i - 1 : Nat) : Int) := by rw [wrapI _ ⟨by omega, by omega⟩]; omega
        simp only [walk, lists, acts, mem, plain, seqs, maps, cells, resL, resV, intBin, seval, hx3, y0, y1, hw3, f4', f5', w0, w1, Sub.refl B]
        have bad : ¬ wayLt g.ways[i - 1] g.ways[i] → ¬ waysP g.lives g.ways := fun q p => q (by
          have e : i - 1 + 1 = i := by omega
          have := p.2 (i - 1) (by omega)
          simpa only [e] using this)
        refine ite_lt (fun g2 => k.dno s2 (bad fun q => by unfold wayLt at q; omega)) fun g2 => ?_
        refine ite_pos (fun g3 => ?_) fun g3 => ?_
        · refine ite_ge (fun g4 => k.dno s2 (bad fun q => by unfold wayLt at q; omega)) fun g4 => ?_
          simp (disch := omega) only [walk, lists, acts, mem, plain, seqs, maps, cells, resL, resV, intBin, seval, wrapI, Sub.refl B]
          exact next fun _ => .inr ⟨g3, g4⟩
        · simp (disch := omega) only [walk, lists, acts, mem, plain, seqs, maps, cells, resL, resV, intBin, seval, wrapI, Sub.refl B]
          exact next fun _ => .inl (by omega)
      · simp (disch := omega) only [walk, lists, acts, mem, plain, seqs, maps, cells, resL, resV, intBin, seval, wrapI, Sub.refl B]
        exact next fun hq => absurd hq (by omega)
  · exact k.dyes s1 (⟨by rw [List.take_of_length_le (by omega)] at hall; exact hall, fun q hq => hlt q hq (by omega)⟩)
end Go.Proofs.YtmfhlkkligcgdaaGreatDoor
end
