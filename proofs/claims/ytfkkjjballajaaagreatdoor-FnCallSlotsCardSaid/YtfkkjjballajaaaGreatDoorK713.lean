/- Parts of the proof, put together: V35, V39, X4. -/
import Derived.Test.YtfkkjjballajaaaGreatDoorK712
/- What is drawn of calls. -/
section
set_option linter.unusedVariables false
set_option linter.unusedSimpArgs false
set_option maxRecDepth 20000
attribute [local irreducible] Go.Tk.vc Go.Tk.vops Go.Tk.vdr Go.Tk.vop Go.Tk.vfl Go.Tk.HCalls
namespace Go.Proofs.YtfkkjjballajaaaGreatDoor
open Go Go.Tk

theorem ask_c {h : H} {js jr p : Nat} {bv : Value} {l : List UInt8} (hs : hcel h js 0 = some (.pointer (some ⟨jr, 0, none⟩))) (hne : js ≠ jr) (hj : hget h jr = none) (rb : rIn h eB 1 bv l) (hl : l.length ≤ 1048576) (hp : p ≤ 274877906944) {R : Ending → H → Prop}
    (k : ∀ (c : DCall) (p' : Nat), c.text.length ≤ 400 → p ≤ p' → p' ≤ p + 300 → R (.returned (.agg (cCall c).toArray)) ((jr, blk (rdr bv p') 67) :: h)) :
    HCalls Tryz.prog 41 #[.pointer (some ⟨js, 0, none⟩)] ((jr, blk (rdr bv p) 67) :: h) R := by
  refine HCalls_ir (args := [.pointer (some ⟨js, 0, none⟩)]) Tryz.func41 ir41 ?_
  have zc := zCall_eq
  simp only [str] at zc
  simp only [walk, lists, acts, mem, plain, seqs, maps, cells, resL, resV, intBin, ↓reduceIte, Nat.reduceAdd, Nat.reduceSub, Nat.reduceMul, Nat.reduceLeDiff, Nat.reduceEqDiff, Int.reduceToNat, Int.reduceEq, Int.reduceLT, Int.reduceLE, Int.reduceNeg, Int.reduceAdd, Int.reduceSub, Int.reduceMul, Nat.reducePow, Int.reduceNegSucc, str, zc]
  refine newB_intro fun j2 hj2 => ?_
  have n2 := fresh hj2
  have hsM : ∀ o q, hcel ((jr, blk (rdr bv q) 67) :: (j2, o) :: h) js 0 = some (.pointer (some ⟨jr, 0, none⟩)) := fun o q => hcel_sub (by (repeat' first | exact Sub.refl _ | exact Sub.nil _ | assumption | refine Sub.both ?_ ?_ | refine Sub.cons_of (by simp only [subs, n2, hj]) ?_ | exact Sub.left _ _ | refine Sub.app (by simp only [subs, n2, hj]) ?_ | refine Sub.cons (by simp only [subs, n2, hj]) ?_)) hs
  have hsN : ∀ o, hcel ((j2, o) :: h) js 0 = some (.pointer (some ⟨jr, 0, none⟩)) := fun o => hcel_sub (by (repeat' first | exact Sub.refl _ | exact Sub.nil _ | assumption | refine Sub.both ?_ ?_ | refine Sub.cons_of (by simp only [subs, n2, hj]) ?_ | exact Sub.left _ _ | refine Sub.app (by simp only [subs, n2, hj]) ?_ | refine Sub.cons (by simp only [subs, n2, hj]) ?_)) hs
  have hs0 : ∀ o q, hcel ((j2, o) :: (jr, blk (rdr bv q) 67) :: h) js 0 = some (.pointer (some ⟨jr, 0, none⟩)) := fun o q => hcel_sub (by (repeat' first | exact Sub.refl _ | exact Sub.nil _ | assumption | refine Sub.both ?_ ?_ | refine Sub.cons_of (by simp only [subs, n2, hj]) ?_ | exact Sub.left _ _ | refine Sub.app (by simp only [subs, n2, hj]) ?_ | refine Sub.cons (by simp only [subs, n2, hj]) ?_)) hs
  have hj2' : ∀ o, hget ((j2, o) :: h) jr = none := fun o => by simp only [subs, n2, hj]
  have rb2 : ∀ o, rIn ((j2, o) :: h) eB 1 bv l := fun o => rb.sub (Sub.cons n2.2.2 (Sub.refl _))
  simp only [walk, lists, acts, mem, plain, seqs, maps, cells, resL, resV, intBin, ↓reduceIte, Nat.reduceAdd, Nat.reduceSub, Nat.reduceMul, Nat.reduceLeDiff, Nat.reduceEqDiff, Int.reduceToNat, Int.reduceEq, Int.reduceLT, Int.reduceLE, Int.reduceNeg, Int.reduceAdd, Int.reduceSub, Int.reduceMul, Nat.reducePow, Int.reduceNegSucc, zc, hs0]
  refine (pick_c (p := p) (hj2' _) (rb2 (blk (cCall zCall) 27)) hl (by omega) (by omega) fun x hx0 hx1 _ => ?_).weaken (by (repeat' first | exact Sub.refl _ | exact Sub.nil _ | assumption | refine Sub.both ?_ ?_ | refine Sub.cons_of (by simp only [subs, n2, hj]) ?_ | exact Sub.left _ _ | refine Sub.app (by simp only [subs, n2, hj]) ?_ | refine Sub.cons (by simp only [subs, n2, hj]) ?_))
  have hx := hx1 (by omega)
  simp only [walk, lists, acts, mem, plain, seqs, maps, cells, resL, resV, intBin, ↓reduceIte, Nat.reduceAdd, Nat.reduceSub, Nat.reduceMul, Nat.reduceLeDiff, Nat.reduceEqDiff, Int.reduceToNat, Int.reduceEq, Int.reduceLT, Int.reduceLE, Int.reduceNeg, Int.reduceAdd, Int.reduceSub, Int.reduceMul, Nat.reducePow, Int.reduceNegSucc, zc, hsM]
  have deal : ∀ {K : Ending → H → Prop} (p2 : Nat), p ≤ p2 → p2 ≤ p + 2 → (∀ v g ds (p' : Nat), oLs 40 cStatement 3 v ds g → Dj g ((jr, blk (rdr bv p') 67) :: (j2, blk (cCall zCall) 27) :: h) → ds.length ≤ 4 → p2 ≤ p' → p' ≤ p2 + 200 → K (.returned v) (g ++ ((jr, blk (rdr bv p') 67) :: (j2, blk (cCall zCall) 27) :: h))) →
      HCalls Tryz.prog 66 #[.pointer (some ⟨js, 0, none⟩)] ((jr, blk (rdr bv p2) 67) :: (j2, blk (cCall zCall) 27) :: h) K := fun p2 h1 h2 hk =>
    deal_c (hsN _) hne (hj2' _) (rb2 _) hl (by omega) fun v g ds p' o d hds => hk v g ds p' o d hds.2
  refine ite_pos (fun c0 => ?_) fun c0 => ?_
  · refine vc_draw ((j2, blk (cCall zCall) 27) :: h) (by (repeat' first | exact Sub.refl _ | exact Sub.nil _ | assumption | refine Sub.both ?_ ?_ | refine Sub.cons_of (by simp only [subs, n2, hj]) ?_ | exact Sub.left _ _ | refine Sub.app (by simp only [subs, n2, hj]) ?_ | refine Sub.cons (by simp only [subs, n2, hj]) ?_)) ?_
    have sr : ∀ q, Tk.Sub ((j2, blk (cCall zCall) 27) :: h) ((jr, blk (rdr bv q) 67) :: (j2, blk (cCall zCall) 27) :: h) := fun q => by (repeat' first | exact Sub.refl _ | exact Sub.nil _ | assumption | refine Sub.both ?_ ?_ | refine Sub.cons_of (by simp only [subs, n2, hj]) ?_ | exact Sub.left _ _ | refine Sub.app (by simp only [subs, n2, hj]) ?_ | refine Sub.cons (by simp only [subs, n2, hj]) ?_)
    simp only [walk, lists, acts, mem, plain, seqs, maps, cells, resL, resV, intBin, ↓reduceIte, Nat.reduceAdd, Nat.reduceSub, Nat.reduceMul, Nat.reduceLeDiff, Nat.reduceEqDiff, Int.reduceToNat, Int.reduceEq, Int.reduceLT, Int.reduceLE, Int.reduceNeg, Int.reduceAdd, Int.reduceSub, Int.reduceMul, Nat.reducePow, Int.reduceNegSucc, zc, hsN]
    refine pick_c (p := p + 1) (hj2' _) (rb2 (blk (cCall zCall) 27)) hl (by omega) (by omega) fun y _ _ _ => ?_
    simp only [walk, lists, acts, mem, plain, seqs, maps, cells, resL, resV, intBin, ↓reduceIte, Nat.reduceAdd, Nat.reduceSub, Nat.reduceMul, Nat.reduceLeDiff, Nat.reduceEqDiff, Int.reduceToNat, Int.reduceEq, Int.reduceLT, Int.reduceLE, Int.reduceNeg, Int.reduceAdd, Int.reduceSub, Int.reduceMul, Nat.reducePow, Int.reduceNegSucc]
    refine ⟨sr _, pick_c (p := p + 2) (hj2' _) (rb2 (blk (cCall zCall) 27)) hl (by omega) (by omega) fun z _ _ _ => ?_⟩
    simp only [walk, lists, acts, mem, plain, seqs, maps, cells, resL, resV, intBin, ↓reduceIte, Nat.reduceAdd, Nat.reduceSub, Nat.reduceMul, Nat.reduceLeDiff, Nat.reduceEqDiff, Int.reduceToNat, Int.reduceEq, Int.reduceLT, Int.reduceLE, Int.reduceNeg, Int.reduceAdd, Int.reduceSub, Int.reduceMul, Nat.reducePow, Int.reduceNegSucc, wCall, zc]
    refine ⟨sr _, sr _, ?_⟩
    simp only [walk, lists, acts, mem, plain, seqs, maps, cells, resL, resV, intBin, ↓reduceIte, Nat.reduceAdd, Nat.reduceSub, Nat.reduceMul, Nat.reduceLeDiff, Nat.reduceEqDiff, Int.reduceToNat, Int.reduceEq, Int.reduceLT, Int.reduceLE, Int.reduceNeg, Int.reduceAdd, Int.reduceSub, Int.reduceMul, Nat.reducePow, Int.reduceNegSucc, wCall, zc, n2.1, n2.2.1]
    exact ⟨(jr, blk (rdr bv (p + 3)) 67) :: h, by (repeat' first | exact Sub.refl _ | exact Sub.nil _ | assumption | refine Sub.both ?_ ?_ | refine Sub.cons_of (by simp only [subs, n2, hj]) ?_ | exact Sub.left _ _ | refine Sub.app (by simp only [subs, n2, hj]) ?_ | refine Sub.cons (by simp only [subs, n2, hj]) ?_), k { zCall with kind := 2, slot := y, to := z } (p + 3) (by show 0 ≤ _; omega) (by omega) (by omega)⟩
  · refine ite_pos (fun c1 => ?_) fun c1 => ?_
    · refine vc_draw ((j2, blk (cCall zCall) 27) :: h) (by (repeat' first | exact Sub.refl _ | exact Sub.nil _ | assumption | refine Sub.both ?_ ?_ | refine Sub.cons_of (by simp only [subs, n2, hj]) ?_ | exact Sub.left _ _ | refine Sub.app (by simp only [subs, n2, hj]) ?_ | refine Sub.cons (by simp only [subs, n2, hj]) ?_)) ?_
      have sr : ∀ q, Tk.Sub ((j2, blk (cCall zCall) 27) :: h) ((jr, blk (rdr bv q) 67) :: (j2, blk (cCall zCall) 27) :: h) := fun q => by (repeat' first | exact Sub.refl _ | exact Sub.nil _ | assumption | refine Sub.both ?_ ?_ | refine Sub.cons_of (by simp only [subs, n2, hj]) ?_ | exact Sub.left _ _ | refine Sub.app (by simp only [subs, n2, hj]) ?_ | refine Sub.cons (by simp only [subs, n2, hj]) ?_)
      simp only [walk, lists, acts, mem, plain, seqs, maps, cells, resL, resV, intBin, ↓reduceIte, Nat.reduceAdd, Nat.reduceSub, Nat.reduceMul, Nat.reduceLeDiff, Nat.reduceEqDiff, Int.reduceToNat, Int.reduceEq, Int.reduceLT, Int.reduceLE, Int.reduceNeg, Int.reduceAdd, Int.reduceSub, Int.reduceMul, Nat.reducePow, Int.reduceNegSucc, zc, hsN]
      refine pick_c (p := p + 1) (hj2' _) (rb2 (blk (cCall zCall) 27)) hl (by omega) (by omega) fun y _ _ _ => ?_
      simp only [walk, lists, acts, mem, plain, seqs, maps, cells, resL, resV, intBin, ↓reduceIte, Nat.reduceAdd, Nat.reduceSub, Nat.reduceMul, Nat.reduceLeDiff, Nat.reduceEqDiff, Int.reduceToNat, Int.reduceEq, Int.reduceLT, Int.reduceLE, Int.reduceNeg, Int.reduceAdd, Int.reduceSub, Int.reduceMul, Nat.reducePow, Int.reduceNegSucc]
      refine ⟨sr _, pick_c (p := p + 2) (hj2' _) (rb2 (blk (cCall zCall) 27)) hl (by omega) (by omega) fun z _ _ _ => ?_⟩
      simp only [walk, lists, acts, mem, plain, seqs, maps, cells, resL, resV, intBin, ↓reduceIte, Nat.reduceAdd, Nat.reduceSub, Nat.reduceMul, Nat.reduceLeDiff, Nat.reduceEqDiff, Int.reduceToNat, Int.reduceEq, Int.reduceLT, Int.reduceLE, Int.reduceNeg, Int.reduceAdd, Int.reduceSub, Int.reduceMul, Nat.reducePow, Int.reduceNegSucc, wCall, zc]
      refine ⟨sr _, sr _, ?_⟩
      simp only [walk, lists, acts, mem, plain, seqs, maps, cells, resL, resV, intBin, ↓reduceIte, Nat.reduceAdd, Nat.reduceSub, Nat.reduceMul, Nat.reduceLeDiff, Nat.reduceEqDiff, Int.reduceToNat, Int.reduceEq, Int.reduceLT, Int.reduceLE, Int.reduceNeg, Int.reduceAdd, Int.reduceSub, Int.reduceMul, Nat.reducePow, Int.reduceNegSucc, wCall, zc, n2.1, n2.2.1]
      exact ⟨(jr, blk (rdr bv (p + 3)) 67) :: h, by (repeat' first | exact Sub.refl _ | exact Sub.nil _ | assumption | refine Sub.both ?_ ?_ | refine Sub.cons_of (by simp only [subs, n2, hj]) ?_ | exact Sub.left _ _ | refine Sub.app (by simp only [subs, n2, hj]) ?_ | refine Sub.cons (by simp only [subs, n2, hj]) ?_), k { zCall with kind := 2, slot := y, to := z } (p + 3) (by show 0 ≤ _; omega) (by omega) (by omega)⟩
    · refine ite_pos (fun c2 => ?_) fun c2 => ?_
      · refine pick_c (p := p + 1) (hj2' _) (rb2 (blk (cCall zCall) 27)) hl (by omega) (by omega) fun y _ _ _ => ?_
        simp only [walk, lists, acts, mem, plain, seqs, maps, cells, resL, resV, intBin, ↓reduceIte, Nat.reduceAdd, Nat.reduceSub, Nat.reduceMul, Nat.reduceLeDiff, Nat.reduceEqDiff, Int.reduceToNat, Int.reduceEq, Int.reduceLT, Int.reduceLE, Int.reduceNeg, Int.reduceAdd, Int.reduceSub, Int.reduceMul, Nat.reducePow, Int.reduceNegSucc, str]
        refine ite_pos (fun c3 => ?_) fun c3 => ?_
        · simp only [walk, lists, acts, mem, plain, seqs, maps, cells, resL, resV, intBin, ↓reduceIte, Nat.reduceAdd, Nat.reduceSub, Nat.reduceMul, Nat.reduceLeDiff, Nat.reduceEqDiff, Int.reduceToNat, Int.reduceEq, Int.reduceLT, Int.reduceLE, Int.reduceNeg, Int.reduceAdd, Int.reduceSub, Int.reduceMul, Nat.reducePow, Int.reduceNegSucc, wCall, n2.1, n2.2.1]
          exact ⟨(jr, blk (rdr bv (p + 2)) 67) :: h, by (repeat' first | exact Sub.refl _ | exact Sub.nil _ | assumption | refine Sub.both ?_ ?_ | refine Sub.cons_of (by simp only [subs, n2, hj]) ?_ | exact Sub.left _ _ | refine Sub.app (by simp only [subs, n2, hj]) ?_ | refine Sub.cons (by simp only [subs, n2, hj]) ?_), k { zCall with kind := 1, text := [119, 104, 97, 116] } (p + 2) (by show 4 ≤ _; omega) (by omega) (by omega)⟩
        · refine deal (p + 2) (by omega) (by omega) fun v g ds p' o dj hds h1 h2 => ?_
          have d1 := dj
          have d2 := dj.symm
          simp only [subs] at d1 d2
          simp only [walk, lists, acts, mem, plain, seqs, maps, cells, resL, resV, intBin, ↓reduceIte, Nat.reduceAdd, Nat.reduceSub, Nat.reduceMul, Nat.reduceLeDiff, Nat.reduceEqDiff, Int.reduceToNat, Int.reduceEq, Int.reduceLT, Int.reduceLE, Int.reduceNeg, Int.reduceAdd, Int.reduceSub, Int.reduceMul, Nat.reducePow, Int.reduceNegSucc]
          refine dealWrite_c (o.rd.sub (Sub.left _ _)) (by omega) fun t ht => ?_
          have htl := dealT_len ht
          simp only [walk, lists, acts, mem, plain, seqs, maps, cells, resL, resV, intBin, ↓reduceIte, Nat.reduceAdd, Nat.reduceSub, Nat.reduceMul, Nat.reduceLeDiff, Nat.reduceEqDiff, Int.reduceToNat, Int.reduceEq, Int.reduceLT, Int.reduceLE, Int.reduceNeg, Int.reduceAdd, Int.reduceSub, Int.reduceMul, Nat.reducePow, Int.reduceNegSucc, wCall, apps, d1, n2.1, n2.2.1]
          exact ⟨(jr, blk (rdr bv p') 67) :: h, by (repeat' first | exact Sub.refl _ | exact Sub.nil _ | assumption | refine Sub.both ?_ ?_ | refine Sub.cons_of (by simp only [subs, n2, hj, d1, d2]) ?_ | exact Sub.left _ _ | refine Sub.app (by simp only [subs, n2, hj, d1, d2]) ?_ | refine Sub.cons (by simp only [subs, n2, hj, d1, d2]) ?_), k { zCall with kind := 1, text := t } p' (by show t.length ≤ _; omega) (by omega) (by omega)⟩
      · refine deal (p + 1) (by omega) (by omega) fun v g ds p' o dj hds h1 h2 => ?_
        have d1 := dj
        have d2 := dj.symm
        simp only [subs] at d1 d2
        simp only [walk, lists, acts, mem, plain, seqs, maps, cells, resL, resV, intBin, ↓reduceIte, Nat.reduceAdd, Nat.reduceSub, Nat.reduceMul, Nat.reduceLeDiff, Nat.reduceEqDiff, Int.reduceToNat, Int.reduceEq, Int.reduceLT, Int.reduceLE, Int.reduceNeg, Int.reduceAdd, Int.reduceSub, Int.reduceMul, Nat.reducePow, Int.reduceNegSucc]
        refine dealWrite_c (o.rd.sub (Sub.left _ _)) (by omega) fun t ht => ?_
        have htl := dealT_len ht
        simp only [walk, lists, acts, mem, plain, seqs, maps, cells, resL, resV, intBin, ↓reduceIte, Nat.reduceAdd, Nat.reduceSub, Nat.reduceMul, Nat.reduceLeDiff, Nat.reduceEqDiff, Int.reduceToNat, Int.reduceEq, Int.reduceLT, Int.reduceLE, Int.reduceNeg, Int.reduceAdd, Int.reduceSub, Int.reduceMul, Nat.reducePow, Int.reduceNegSucc, wCall, apps, d1, n2.1, n2.2.1]
        exact ⟨(jr, blk (rdr bv p') 67) :: h, by (repeat' first | exact Sub.refl _ | exact Sub.nil _ | assumption | refine Sub.both ?_ ?_ | refine Sub.cons_of (by simp only [subs, n2, hj, d1, d2]) ?_ | exact Sub.left _ _ | refine Sub.app (by simp only [subs, n2, hj, d1, d2]) ?_ | refine Sub.cons (by simp only [subs, n2, hj, d1, d2]) ?_), k { zCall with kind := 1, text := t } p' (by show t.length ≤ _; omega) (by omega) (by omega)⟩
end Go.Proofs.YtfkkjjballajaaaGreatDoor
end

/- What is drawn of calls, spoilt. -/
section
set_option linter.unusedVariables false
set_option linter.unusedSimpArgs false
set_option maxRecDepth 20000
attribute [local irreducible] Go.Tk.vc Go.Tk.vops Go.Tk.vdr Go.Tk.vop Go.Tk.vfl Go.Tk.HCalls
namespace Go.Proofs.YtfkkjjballajaaaGreatDoor
open Go Go.Tk

theorem eI_at {l : List Int} {i : Nat} (h : i < l.length) : (fl eI l)[i]? = some (.int .i64 l[i]) := by
  have := fl_at (enc := eI) (sz := 1) eI_len (l := l) h
  have h2 : ((fl eI l).drop (i * 1))[0]? = some (.int .i64 l[i]) := by
    have : (((fl eI l).drop (i * 1)).take 1)[0]? = some (.int .i64 l[i]) := by rw [this]; rfl
    rw [List.getElem?_take] at this; simpa using this
  rw [List.getElem?_drop] at h2; simpa using h2

theorem call_c {h : H} {jr p : Nat} {bv : Value} {l : List UInt8} (hj : hget h jr = none) (rb : rIn h eB 1 bv l) (hl : l.length ≤ 1048576) (hp : p ≤ 137438953472) {R : Ending → H → Prop}
    (k : ∀ (c : DCall) (p' : Nat), c.text.length ≤ 410 → p ≤ p' → p' ≤ p + 320 → R (.returned (.agg (cCall c).toArray)) ((jr, blk (rdr bv p') 67) :: h)) :
    HCalls Tryz.prog 22 #[.pointer (some ⟨jr, 0, none⟩)] ((jr, blk (rdr bv p) 67) :: h) R := by
  refine HCalls_ir (args := [.pointer (some ⟨jr, 0, none⟩)]) Tryz.func22 ir22 ?_
  have zc := zCall_eq
  simp only [str] at zc
  simp only [walk, lists, acts, mem, plain, seqs, maps, cells, resL, resV, intBin, ↓reduceIte, Nat.reduceAdd, Nat.reduceSub, Nat.reduceMul, Nat.reduceLeDiff, Nat.reduceEqDiff, Int.reduceToNat, Int.reduceEq, Int.reduceLT, Int.reduceLE, Int.reduceNeg, Int.reduceAdd, Int.reduceSub, Int.reduceMul, Nat.reducePow, Int.reduceNegSucc, str, zc]
  refine newB_intro fun j2 hj2 => ?_
  have n2 := fresh hj2
  simp only [walk, lists, acts, mem, plain, seqs, maps, cells, resL, resV, intBin, ↓reduceIte, Nat.reduceAdd, Nat.reduceSub, Nat.reduceMul, Nat.reduceLeDiff, Nat.reduceEqDiff, Int.reduceToNat, Int.reduceEq, Int.reduceLT, Int.reduceLE, Int.reduceNeg, Int.reduceAdd, Int.reduceSub, Int.reduceMul, Nat.reducePow, Int.reduceNegSucc, str, zc]
  refine sim_c rfl fun js S hjs => ?_
  simp only [subs] at hjs
  have hne : jr ≠ js ∧ j2 ≠ js := ⟨Ne.symm hjs.2.1, Ne.symm hjs.1⟩
  simp only [walk, lists, acts, mem, plain, seqs, maps, cells, resL, resV, intBin, ↓reduceIte, Nat.reduceAdd, Nat.reduceSub, Nat.reduceMul, Nat.reduceLeDiff, Nat.reduceEqDiff, Int.reduceToNat, Int.reduceEq, Int.reduceLT, Int.reduceLE, Int.reduceNeg, Int.reduceAdd, Int.reduceSub, Int.reduceMul, Nat.reducePow, Int.reduceNegSucc, str, zc]
  refine (ask_c (p := p) (js := js) (jr := jr) (h := (js, blk (.pointer (some ⟨jr, 0, none⟩) :: S) 109) :: (j2, blk (cCall zCall) 27) :: h) (by simp only [mem, seqs]) hjs.2.1 (by simp only [subs, n2, hj, hne]) (rb.sub (by (repeat' first | exact Sub.refl _ | exact Sub.nil _ | assumption | refine Sub.both ?_ ?_ | refine Sub.cons_of (by simp only [subs, n2, hj, hjs, hne]) ?_ | exact Sub.left _ _ | refine Sub.app (by simp only [subs, n2, hj, hjs, hne]) ?_ | refine Sub.cons (by simp only [subs, n2, hj, hjs, hne]) ?_))) hl (by omega) fun c q hcl hq1 hq2 => ?_).weaken (by (repeat' first | exact Sub.refl _ | exact Sub.nil _ | assumption | refine Sub.both ?_ ?_ | refine Sub.cons_of (by simp only [subs, n2, hj, hjs, hne]) ?_ | exact Sub.left _ _ | refine Sub.app (by simp only [subs, n2, hj, hjs, hne]) ?_ | refine Sub.cons (by simp only [subs, n2, hj, hjs, hne]) ?_))
  simp only [walk, lists, acts, mem, plain, seqs, maps, cells, resL, resV, intBin, ↓reduceIte, Nat.reduceAdd, Nat.reduceSub, Nat.reduceMul, Nat.reduceLeDiff, Nat.reduceEqDiff, Int.reduceToNat, Int.reduceEq, Int.reduceLT, Int.reduceLE, Int.reduceNeg, Int.reduceAdd, Int.reduceSub, Int.reduceMul, Nat.reducePow, Int.reduceNegSucc, str, zc]
  refine newB_intro fun j3 hj3 => ?_
  simp only [subs] at hj3
  have n3 : jr ≠ j3 ∧ j3 ≠ jr ∧ j2 ≠ j3 ∧ j3 ≠ j2 ∧ hget h j3 = none := ⟨Ne.symm hj3.1, hj3.1, Ne.symm hj3.2.2.1, hj3.2.2.1, hj3.2.2.2⟩
  simp only [walk, lists, acts, mem, plain, seqs, maps, cells, resL, resV, intBin, ↓reduceIte, Nat.reduceAdd, Nat.reduceSub, Nat.reduceMul, Nat.reduceLeDiff, Nat.reduceEqDiff, Int.reduceToNat, Int.reduceEq, Int.reduceLT, Int.reduceLE, Int.reduceNeg, Int.reduceAdd, Int.reduceSub, Int.reduceMul, Nat.reducePow, Int.reduceNegSucc, wCall, zc]
  have rb3 : ∀ c, rIn ((j3, blk (cCall c) 27) :: (j2, blk (cCall zCall) 27) :: h) eB 1 bv l := fun c => rb.sub (by (repeat' first | exact Sub.refl _ | exact Sub.nil _ | assumption | refine Sub.both ?_ ?_ | refine Sub.cons_of (by simp only [subs, n2, hj, n3]) ?_ | exact Sub.left _ _ | refine Sub.app (by simp only [subs, n2, hj, n3]) ?_ | refine Sub.cons (by simp only [subs, n2, hj, n3]) ?_))
  have g3 : ∀ c, hget ((j3, blk (cCall c) 27) :: (j2, blk (cCall zCall) 27) :: h) jr = none := fun c => by simp only [subs, n2, n3, hj]
  refine (pick_c (p := q) (h := (j3, blk (cCall c) 27) :: (j2, blk (cCall zCall) 27) :: h) (g3 _) (rb3 _) hl (by omega) (by omega) fun x _ _ _ => ?_).weaken (by (repeat' first | exact Sub.refl _ | exact Sub.nil _ | assumption | refine Sub.both ?_ ?_ | refine Sub.cons_of (by simp only [subs, n2, hj, n3, hjs, hne, hj3]) ?_ | exact Sub.left _ _ | refine Sub.app (by simp only [subs, n2, hj, n3, hjs, hne, hj3]) ?_ | refine Sub.cons (by simp only [subs, n2, hj, n3, hjs, hne, hj3]) ?_))
  simp only [walk, lists, acts, mem, plain, seqs, maps, cells, resL, resV, intBin, ↓reduceIte, Nat.reduceAdd, Nat.reduceSub, Nat.reduceMul, Nat.reduceLeDiff, Nat.reduceEqDiff, Int.reduceToNat, Int.reduceEq, Int.reduceLT, Int.reduceLE, Int.reduceNeg, Int.reduceAdd, Int.reduceSub, Int.reduceMul, Nat.reducePow, Int.reduceNegSucc, wCall, n3]
  refine pick_c (p := q + 1) (g3 _) (rb3 _) hl (by omega) (by omega) fun y hy0 hy1 _ => ?_
  have hy := hy1 (by omega)
  simp (disch := omega) only [walk, lists, acts, mem, plain, seqs, maps, cells, resL, resV, intBin, ↓reduceIte, Nat.reduceAdd, Nat.reduceSub, Nat.reduceMul, Nat.reduceLeDiff, Nat.reduceEqDiff, Int.reduceToNat, Int.reduceEq, Int.reduceLT, Int.reduceLE, Int.reduceNeg, Int.reduceAdd, Int.reduceSub, Int.reduceMul, Nat.reducePow, Int.reduceNegSucc, wCall, n3, wrapI]
  refine pick_c (p := q + 2) (g3 _) (rb3 _) hl (by omega) (by omega) fun z _ _ _ => ?_
  simp only [walk, lists, acts, mem, plain, seqs, maps, cells, resL, resV, intBin, ↓reduceIte, Nat.reduceAdd, Nat.reduceSub, Nat.reduceMul, Nat.reduceLeDiff, Nat.reduceEqDiff, Int.reduceToNat, Int.reduceEq, Int.reduceLT, Int.reduceLE, Int.reduceNeg, Int.reduceAdd, Int.reduceSub, Int.reduceMul, Nat.reducePow, Int.reduceNegSucc, wCall, n3]
  obtain ⟨c2, hc⟩ : ∃ c2 : DCall, c2 = { c with session := x, number := 1 + y } := ⟨_, rfl⟩
  have hc2 : c2.text.length ≤ 410 := by rw [hc]; show c.text.length ≤ 410; omega
  rw [← hc]
  refine ite_pos (fun s0 => ?_) fun s0 => ?_
  · refine newB_intro (o := blk (fl eI [0, 3]) 3) fun j6 hj6 => ?_
    have n6 := hj6
    simp only [subs] at n6
    have n6' : jr ≠ j6 ∧ j3 ≠ j6 ∧ j2 ≠ j6 := ⟨Ne.symm n6.1, Ne.symm n6.2.1, Ne.symm n6.2.2.1⟩
    simp only [walk, lists, acts, mem, plain, seqs, maps, cells, resL, resV, intBin, ↓reduceIte, Nat.reduceAdd, Nat.reduceSub, Nat.reduceMul, Nat.reduceLeDiff, Nat.reduceEqDiff, Int.reduceToNat, Int.reduceEq, Int.reduceLT, Int.reduceLE, Int.reduceNeg, Int.reduceAdd, Int.reduceSub, Int.reduceMul, Nat.reducePow, Int.reduceNegSucc]
    refine (pick_c (p := q + 3) (h := (j6, blk (fl eI [0, 3]) 3) :: (j3, blk (cCall c2) 27) :: (j2, blk (cCall zCall) 27) :: h) (by simp only [subs, n2, n3, hj, n6']) (rb.sub (by (repeat' first | exact Sub.refl _ | exact Sub.nil _ | assumption | refine Sub.both ?_ ?_ | refine Sub.cons_of (by simp only [subs, n2, n3, hj, n6, n6']) ?_ | exact Sub.left _ _ | refine Sub.app (by simp only [subs, n2, n3, hj, n6, n6']) ?_ | refine Sub.cons (by simp only [subs, n2, n3, hj, n6, n6']) ?_))) hl (by omega) (by omega) fun b hb0 hb1 _ => ?_).weaken (by (repeat' first | exact Sub.refl _ | exact Sub.nil _ | assumption | refine Sub.both ?_ ?_ | refine Sub.cons_of (by simp only [subs, n2, n3, hj, n6, n6']) ?_ | exact Sub.left _ _ | refine Sub.app (by simp only [subs, n2, n3, hj, n6, n6']) ?_ | refine Sub.cons (by simp only [subs, n2, n3, hj, n6, n6']) ?_))
    have hb := hb1 (by omega)
    have hbl : b.toNat < [0, 3].length := by simp only [List.length_cons, List.length_nil]; omega
    simp only [walk, lists, acts, mem, plain, seqs, maps, cells, resL, resV, intBin, ↓reduceIte, Nat.reduceAdd, Nat.reduceSub, Nat.reduceMul, Nat.reduceLeDiff, Nat.reduceEqDiff, Int.reduceToNat, Int.reduceEq, Int.reduceLT, Int.reduceLE, Int.reduceNeg, Int.reduceAdd, Int.reduceSub, Int.reduceMul, Nat.reducePow, Int.reduceNegSucc, n6.1, n6', wCall]
    refine ⟨⟨hb0, by omega⟩, ?_⟩
    rw [eI_at hbl]
    generalize ([0, 3] : List Int)[b.toNat] = z
    simp only [walk, lists, acts, mem, plain, seqs, maps, cells, resL, resV, intBin, ↓reduceIte, Nat.reduceAdd, Nat.reduceSub, Nat.reduceMul, Nat.reduceLeDiff, Nat.reduceEqDiff, Int.reduceToNat, Int.reduceEq, Int.reduceLT, Int.reduceLE, Int.reduceNeg, Int.reduceAdd, Int.reduceSub, Int.reduceMul, Nat.reducePow, Int.reduceNegSucc, n2.1, n2.2.1, n3, n6.1, n6.2.1, n6.2.2.1, n6', wCall]
    exact ⟨(jr, blk (rdr bv (q + 4)) 67) :: h, by (repeat' first | exact Sub.refl _ | exact Sub.nil _ | assumption | refine Sub.both ?_ ?_ | refine Sub.cons_of (by simp only [subs, n2, n3, hj, n6, n6']) ?_ | exact Sub.left _ _ | refine Sub.app (by simp only [subs, n2, n3, hj, n6, n6']) ?_ | refine Sub.cons (by simp only [subs, n2, n3, hj, n6, n6']) ?_), k { c2 with kind := z } (q + 4) hc2 (by omega) (by omega)⟩
  · refine ite_pos (fun s1 => ?_) fun s1 => ?_
    · refine newB_intro (o := blk (fl eI [-1, 3]) 3) fun j6 hj6 => ?_
      have n6 := hj6
      simp only [subs] at n6
      have n6' : jr ≠ j6 ∧ j3 ≠ j6 ∧ j2 ≠ j6 := ⟨Ne.symm n6.1, Ne.symm n6.2.1, Ne.symm n6.2.2.1⟩
      simp only [walk, lists, acts, mem, plain, seqs, maps, cells, resL, resV, intBin, ↓reduceIte, Nat.reduceAdd, Nat.reduceSub, Nat.reduceMul, Nat.reduceLeDiff, Nat.reduceEqDiff, Int.reduceToNat, Int.reduceEq, Int.reduceLT, Int.reduceLE, Int.reduceNeg, Int.reduceAdd, Int.reduceSub, Int.reduceMul, Nat.reducePow, Int.reduceNegSucc]
      refine (pick_c (p := q + 3) (h := (j6, blk (fl eI [-1, 3]) 3) :: (j3, blk (cCall c2) 27) :: (j2, blk (cCall zCall) 27) :: h) (by simp only [subs, n2, n3, hj, n6']) (rb.sub (by (repeat' first | exact Sub.refl _ | exact Sub.nil _ | assumption | refine Sub.both ?_ ?_ | refine Sub.cons_of (by simp only [subs, n2, n3, hj, n6, n6']) ?_ | exact Sub.left _ _ | refine Sub.app (by simp only [subs, n2, n3, hj, n6, n6']) ?_ | refine Sub.cons (by simp only [subs, n2, n3, hj, n6, n6']) ?_))) hl (by omega) (by omega) fun b hb0 hb1 _ => ?_).weaken (by (repeat' first | exact Sub.refl _ | exact Sub.nil _ | assumption | refine Sub.both ?_ ?_ | refine Sub.cons_of (by simp only [subs, n2, n3, hj, n6, n6']) ?_ | exact Sub.left _ _ | refine Sub.app (by simp only [subs, n2, n3, hj, n6, n6']) ?_ | refine Sub.cons (by simp only [subs, n2, n3, hj, n6, n6']) ?_))
      have hb := hb1 (by omega)
      have hbl : b.toNat < [-1, 3].length := by simp only [List.length_cons, List.length_nil]; omega
      simp only [walk, lists, acts, mem, plain, seqs, maps, cells, resL, resV, intBin, ↓reduceIte, Nat.reduceAdd, Nat.reduceSub, Nat.reduceMul, Nat.reduceLeDiff, Nat.reduceEqDiff, Int.reduceToNat, Int.reduceEq, Int.reduceLT, Int.reduceLE, Int.reduceNeg, Int.reduceAdd, Int.reduceSub, Int.reduceMul, Nat.reducePow, Int.reduceNegSucc, n6.1, n6', wCall]
      refine ⟨⟨hb0, by omega⟩, ?_⟩
      rw [eI_at hbl]
      generalize ([-1, 3] : List Int)[b.toNat] = z
      simp only [walk, lists, acts, mem, plain, seqs, maps, cells, resL, resV, intBin, ↓reduceIte, Nat.reduceAdd, Nat.reduceSub, Nat.reduceMul, Nat.reduceLeDiff, Nat.reduceEqDiff, Int.reduceToNat, Int.reduceEq, Int.reduceLT, Int.reduceLE, Int.reduceNeg, Int.reduceAdd, Int.reduceSub, Int.reduceMul, Nat.reducePow, Int.reduceNegSucc, n2.1, n2.2.1, n3, n6.1, n6.2.1, n6.2.2.1, n6', wCall]
      exact ⟨(jr, blk (rdr bv (q + 4)) 67) :: h, by (repeat' first | exact Sub.refl _ | exact Sub.nil _ | assumption | refine Sub.both ?_ ?_ | refine Sub.cons_of (by simp only [subs, n2, n3, hj, n6, n6']) ?_ | exact Sub.left _ _ | refine Sub.app (by simp only [subs, n2, n3, hj, n6, n6']) ?_ | refine Sub.cons (by simp only [subs, n2, n3, hj, n6, n6']) ?_), k { c2 with session := z } (q + 4) hc2 (by omega) (by omega)⟩
    · refine ite_pos (fun s2 => ?_) fun s2 => ?_
      · refine newB_intro (o := blk (fl eI [0, 99, 100]) 3) fun j6 hj6 => ?_
        have n6 := hj6
        simp only [subs] at n6
        have n6' : jr ≠ j6 ∧ j3 ≠ j6 ∧ j2 ≠ j6 := ⟨Ne.symm n6.1, Ne.symm n6.2.1, Ne.symm n6.2.2.1⟩
        simp only [walk, lists, acts, mem, plain, seqs, maps, cells, resL, resV, intBin, ↓reduceIte, Nat.reduceAdd, Nat.reduceSub, Nat.reduceMul, Nat.reduceLeDiff, Nat.reduceEqDiff, Int.reduceToNat, Int.reduceEq, Int.reduceLT, Int.reduceLE, Int.reduceNeg, Int.reduceAdd, Int.reduceSub, Int.reduceMul, Nat.reducePow, Int.reduceNegSucc]
        refine (pick_c (p := q + 3) (h := (j6, blk (fl eI [0, 99, 100]) 3) :: (j3, blk (cCall c2) 27) :: (j2, blk (cCall zCall) 27) :: h) (by simp only [subs, n2, n3, hj, n6']) (rb.sub (by (repeat' first | exact Sub.refl _ | exact Sub.nil _ | assumption | refine Sub.both ?_ ?_ | refine Sub.cons_of (by simp only [subs, n2, n3, hj, n6, n6']) ?_ | exact Sub.left _ _ | refine Sub.app (by simp only [subs, n2, n3, hj, n6, n6']) ?_ | refine Sub.cons (by simp only [subs, n2, n3, hj, n6, n6']) ?_))) hl (by omega) (by omega) fun b hb0 hb1 _ => ?_).weaken (by (repeat' first | exact Sub.refl _ | exact Sub.nil _ | assumption | refine Sub.both ?_ ?_ | refine Sub.cons_of (by simp only [subs, n2, n3, hj, n6, n6']) ?_ | exact Sub.left _ _ | refine Sub.app (by simp only [subs, n2, n3, hj, n6, n6']) ?_ | refine Sub.cons (by simp only [subs, n2, n3, hj, n6, n6']) ?_))
        have hb := hb1 (by omega)
        have hbl : b.toNat < [0, 99, 100].length := by simp only [List.length_cons, List.length_nil]; omega
        simp only [walk, lists, acts, mem, plain, seqs, maps, cells, resL, resV, intBin, ↓reduceIte, Nat.reduceAdd, Nat.reduceSub, Nat.reduceMul, Nat.reduceLeDiff, Nat.reduceEqDiff, Int.reduceToNat, Int.reduceEq, Int.reduceLT, Int.reduceLE, Int.reduceNeg, Int.reduceAdd, Int.reduceSub, Int.reduceMul, Nat.reducePow, Int.reduceNegSucc, n6.1, n6', wCall]
        refine ⟨⟨hb0, by omega⟩, ?_⟩
        rw [eI_at hbl]
        generalize ([0, 99, 100] : List Int)[b.toNat] = z
        simp only [walk, lists, acts, mem, plain, seqs, maps, cells, resL, resV, intBin, ↓reduceIte, Nat.reduceAdd, Nat.reduceSub, Nat.reduceMul, Nat.reduceLeDiff, Nat.reduceEqDiff, Int.reduceToNat, Int.reduceEq, Int.reduceLT, Int.reduceLE, Int.reduceNeg, Int.reduceAdd, Int.reduceSub, Int.reduceMul, Nat.reducePow, Int.reduceNegSucc, n2.1, n2.2.1, n3, n6.1, n6.2.1, n6.2.2.1, n6', wCall]
        exact ⟨(jr, blk (rdr bv (q + 4)) 67) :: h, by (repeat' first | exact Sub.refl _ | exact Sub.nil _ | assumption | refine Sub.both ?_ ?_ | refine Sub.cons_of (by simp only [subs, n2, n3, hj, n6, n6']) ?_ | exact Sub.left _ _ | refine Sub.app (by simp only [subs, n2, n3, hj, n6, n6']) ?_ | refine Sub.cons (by simp only [subs, n2, n3, hj, n6, n6']) ?_), k { c2 with number := z } (q + 4) hc2 (by omega) (by omega)⟩
      · refine ite_pos (fun s3 => ?_) fun s3 => ?_
        · refine newB_intro (o := blk (fl eI [1, 8, -1]) 3) fun j6 hj6 => ?_
          have n6 := hj6
          simp only [subs] at n6
          have n6' : jr ≠ j6 ∧ j3 ≠ j6 ∧ j2 ≠ j6 := ⟨Ne.symm n6.1, Ne.symm n6.2.1, Ne.symm n6.2.2.1⟩
          simp only [walk, lists, acts, mem, plain, seqs, maps, cells, resL, resV, intBin, ↓reduceIte, Nat.reduceAdd, Nat.reduceSub, Nat.reduceMul, Nat.reduceLeDiff, Nat.reduceEqDiff, Int.reduceToNat, Int.reduceEq, Int.reduceLT, Int.reduceLE, Int.reduceNeg, Int.reduceAdd, Int.reduceSub, Int.reduceMul, Nat.reducePow, Int.reduceNegSucc]
          refine (pick_c (p := q + 3) (h := (j6, blk (fl eI [1, 8, -1]) 3) :: (j3, blk (cCall c2) 27) :: (j2, blk (cCall zCall) 27) :: h) (by simp only [subs, n2, n3, hj, n6']) (rb.sub (by (repeat' first | exact Sub.refl _ | exact Sub.nil _ | assumption | refine Sub.both ?_ ?_ | refine Sub.cons_of (by simp only [subs, n2, n3, hj, n6, n6']) ?_ | exact Sub.left _ _ | refine Sub.app (by simp only [subs, n2, n3, hj, n6, n6']) ?_ | refine Sub.cons (by simp only [subs, n2, n3, hj, n6, n6']) ?_))) hl (by omega) (by omega) fun b hb0 hb1 _ => ?_).weaken (by (repeat' first | exact Sub.refl _ | exact Sub.nil _ | assumption | refine Sub.both ?_ ?_ | refine Sub.cons_of (by simp only [subs, n2, n3, hj, n6, n6']) ?_ | exact Sub.left _ _ | refine Sub.app (by simp only [subs, n2, n3, hj, n6, n6']) ?_ | refine Sub.cons (by simp only [subs, n2, n3, hj, n6, n6']) ?_))
          have hb := hb1 (by omega)
          have hbl : b.toNat < [1, 8, -1].length := by simp only [List.length_cons, List.length_nil]; omega
          simp only [walk, lists, acts, mem, plain, seqs, maps, cells, resL, resV, intBin, ↓reduceIte, Nat.reduceAdd, Nat.reduceSub, Nat.reduceMul, Nat.reduceLeDiff, Nat.reduceEqDiff, Int.reduceToNat, Int.reduceEq, Int.reduceLT, Int.reduceLE, Int.reduceNeg, Int.reduceAdd, Int.reduceSub, Int.reduceMul, Nat.reducePow, Int.reduceNegSucc, n6.1, n6', wCall]
          refine ⟨⟨hb0, by omega⟩, ?_⟩
          rw [eI_at hbl]
          generalize ([1, 8, -1] : List Int)[b.toNat] = z
          simp only [walk, lists, acts, mem, plain, seqs, maps, cells, resL, resV, intBin, ↓reduceIte, Nat.reduceAdd, Nat.reduceSub, Nat.reduceMul, Nat.reduceLeDiff, Nat.reduceEqDiff, Int.reduceToNat, Int.reduceEq, Int.reduceLT, Int.reduceLE, Int.reduceNeg, Int.reduceAdd, Int.reduceSub, Int.reduceMul, Nat.reducePow, Int.reduceNegSucc, n2.1, n2.2.1, n3, n6.1, n6.2.1, n6.2.2.1, n6', wCall]
          exact ⟨(jr, blk (rdr bv (q + 4)) 67) :: h, by (repeat' first | exact Sub.refl _ | exact Sub.nil _ | assumption | refine Sub.both ?_ ?_ | refine Sub.cons_of (by simp only [subs, n2, n3, hj, n6, n6']) ?_ | exact Sub.left _ _ | refine Sub.app (by simp only [subs, n2, n3, hj, n6, n6']) ?_ | refine Sub.cons (by simp only [subs, n2, n3, hj, n6, n6']) ?_), k { c2 with slot := z } (q + 4) hc2 (by omega) (by omega)⟩
        · refine ite_pos (fun s4 => ?_) fun s4 => ?_
          · have hc4 : c2.text.length ≤ 400 := by rw [hc]; exact hcl
            refine vc_draw ((j3, blk (cCall c2) 27) :: (j2, blk (cCall zCall) 27) :: h) (by (repeat' first | exact Sub.refl _ | exact Sub.nil _ | assumption | refine Sub.both ?_ ?_ | refine Sub.cons_of (by simp only [subs, n2, hj, n3]) ?_ | exact Sub.left _ _ | refine Sub.app (by simp only [subs, n2, hj, n3]) ?_ | refine Sub.cons (by simp only [subs, n2, hj, n3]) ?_)) ?_
            have sr : ∀ q, Tk.Sub ((j3, blk (cCall c2) 27) :: (j2, blk (cCall zCall) 27) :: h) ((jr, blk (rdr bv q) 67) :: (j3, blk (cCall c2) 27) :: (j2, blk (cCall zCall) 27) :: h) := fun q => by (repeat' first | exact Sub.refl _ | exact Sub.nil _ | assumption | refine Sub.both ?_ ?_ | refine Sub.cons_of (by simp only [subs, n2, hj, n3]) ?_ | exact Sub.left _ _ | refine Sub.app (by simp only [subs, n2, hj, n3]) ?_ | refine Sub.cons (by simp only [subs, n2, hj, n3]) ?_)
            simp only [walk, lists, acts, mem, plain, seqs, maps, cells, resL, resV, intBin, ↓reduceIte, Nat.reduceAdd, Nat.reduceSub, Nat.reduceMul, Nat.reduceLeDiff, Nat.reduceEqDiff, Int.reduceToNat, Int.reduceEq, Int.reduceLT, Int.reduceLE, Int.reduceNeg, Int.reduceAdd, Int.reduceSub, Int.reduceMul, Nat.reducePow, Int.reduceNegSucc, wCall]
            refine newB_intro (o := blk (fl eT [[32], [103, 101, 116, 32, 49, 59]]) 9) fun j6 hj6 => ?_
            have n6 := hj6
            simp only [subs] at n6
            have n6' : jr ≠ j6 ∧ j3 ≠ j6 ∧ j2 ≠ j6 := ⟨Ne.symm n6.1, Ne.symm n6.2.1, Ne.symm n6.2.2.1⟩
            have sr6 := eq_true (Sub.cons (o := blk (fl eT [[32], [103, 101, 116, 32, 49, 59]]) 9) hj6 (sr (q + 3)))
            simp only [walk, lists, acts, mem, plain, seqs, maps, cells, resL, resV, intBin, ↓reduceIte, Nat.reduceAdd, Nat.reduceSub, Nat.reduceMul, Nat.reduceLeDiff, Nat.reduceEqDiff, Int.reduceToNat, Int.reduceEq, Int.reduceLT, Int.reduceLE, Int.reduceNeg, Int.reduceAdd, Int.reduceSub, Int.reduceMul, Nat.reducePow, Int.reduceNegSucc, sr6]
            refine (of_c (p := q + 3) (h := (j6, blk (fl eT [[32], [103, 101, 116, 32, 49, 59]]) 9) :: (j3, blk (cCall c2) 27) :: (j2, blk (cCall zCall) 27) :: h) (by simp only [subs, n2, n3, hj, n6']) (rb.sub (by (repeat' first | exact Sub.refl _ | exact Sub.nil _ | assumption | refine Sub.both ?_ ?_ | refine Sub.cons_of (by simp only [subs, n2, n3, hj, n6, n6']) ?_ | exact Sub.left _ _ | refine Sub.app (by simp only [subs, n2, n3, hj, n6, n6']) ?_ | refine Sub.cons (by simp only [subs, n2, n3, hj, n6, n6']) ?_))) hl (by omega) (rL_lit eT_len [[32], [103, 101, 116, 32, 49, 59]]) (by decide) (by decide) fun t ht => ?_).weaken (by (repeat' first | exact Sub.refl _ | exact Sub.nil _ | assumption | refine Sub.both ?_ ?_ | refine Sub.cons_of (by simp only [subs, n2, n3, hj, n6, n6']) ?_ | exact Sub.left _ _ | refine Sub.app (by simp only [subs, n2, n3, hj, n6, n6']) ?_ | refine Sub.cons (by simp only [subs, n2, n3, hj, n6, n6']) ?_))
            have htl : t.length ≤ 6 := by
              simp only [List.mem_cons, List.not_mem_nil, or_false] at ht
              rcases ht with rfl | rfl <;> decide
            have hz : c2.text.length + t.length ≤ 9223372036854775807 := by omega
            have sr7 : Tk.Sub ((j3, blk (cCall c2) 27) :: (j2, blk (cCall zCall) 27) :: h) ((jr, blk (rdr bv (q + 4)) 67) :: (j6, blk (fl eT [[32], [103, 101, 116, 32, 49, 59]]) 9) :: (j3, blk (cCall c2) 27) :: (j2, blk (cCall zCall) 27) :: h) := by (repeat' first | exact Sub.refl _ | exact Sub.nil _ | assumption | refine Sub.both ?_ ?_ | refine Sub.cons_of (by simp only [subs, n2, n3, hj, n6, n6']) ?_ | exact Sub.left _ _ | refine Sub.app (by simp only [subs, n2, n3, hj, n6, n6']) ?_ | refine Sub.cons (by simp only [subs, n2, n3, hj, n6, n6']) ?_)
            have sr8 := eq_true sr7
            simp only [walk, lists, acts, mem, plain, seqs, maps, cells, resL, resV, intBin, ↓reduceIte, Nat.reduceAdd, Nat.reduceSub, Nat.reduceMul, Nat.reduceLeDiff, Nat.reduceEqDiff, Int.reduceToNat, Int.reduceEq, Int.reduceLT, Int.reduceLE, Int.reduceNeg, Int.reduceAdd, Int.reduceSub, Int.reduceMul, Nat.reducePow, Int.reduceNegSucc, sr8, str_add _ _ hz, wCall, n2.1, n2.2.1, n3, n6.1, n6.2.1, n6.2.2.1, n6']
            exact ⟨(jr, blk (rdr bv (q + 4)) 67) :: h, by (repeat' first | exact Sub.refl _ | exact Sub.nil _ | assumption | refine Sub.both ?_ ?_ | refine Sub.cons_of (by simp only [subs, n2, n3, hj, n6, n6']) ?_ | exact Sub.left _ _ | refine Sub.app (by simp only [subs, n2, n3, hj, n6, n6']) ?_ | refine Sub.cons (by simp only [subs, n2, n3, hj, n6, n6']) ?_), k { c2 with text := c2.text ++ t } (q + 4) (by show (c2.text ++ t).length ≤ 410; rw [List.length_append]; omega) (by omega) (by omega)⟩
          · refine ite_pos (fun s5 => ?_) fun s5 => ?_
            · refine newB_intro (o := blk (fl eI [-1, 2, 3]) 3) fun j6 hj6 => ?_
              have n6 := hj6
              simp only [subs] at n6
              have n6' : jr ≠ j6 ∧ j3 ≠ j6 ∧ j2 ≠ j6 := ⟨Ne.symm n6.1, Ne.symm n6.2.1, Ne.symm n6.2.2.1⟩
              simp only [walk, lists, acts, mem, plain, seqs, maps, cells, resL, resV, intBin, ↓reduceIte, Nat.reduceAdd, Nat.reduceSub, Nat.reduceMul, Nat.reduceLeDiff, Nat.reduceEqDiff, Int.reduceToNat, Int.reduceEq, Int.reduceLT, Int.reduceLE, Int.reduceNeg, Int.reduceAdd, Int.reduceSub, Int.reduceMul, Nat.reducePow, Int.reduceNegSucc]
              refine (pick_c (p := q + 3) (h := (j6, blk (fl eI [-1, 2, 3]) 3) :: (j3, blk (cCall c2) 27) :: (j2, blk (cCall zCall) 27) :: h) (by simp only [subs, n2, n3, hj, n6']) (rb.sub (by (repeat' first | exact Sub.refl _ | exact Sub.nil _ | assumption | refine Sub.both ?_ ?_ | refine Sub.cons_of (by simp only [subs, n2, n3, hj, n6, n6']) ?_ | exact Sub.left _ _ | refine Sub.app (by simp only [subs, n2, n3, hj, n6, n6']) ?_ | refine Sub.cons (by simp only [subs, n2, n3, hj, n6, n6']) ?_))) hl (by omega) (by omega) fun b hb0 hb1 _ => ?_).weaken (by (repeat' first | exact Sub.refl _ | exact Sub.nil _ | assumption | refine Sub.both ?_ ?_ | refine Sub.cons_of (by simp only [subs, n2, n3, hj, n6, n6']) ?_ | exact Sub.left _ _ | refine Sub.app (by simp only [subs, n2, n3, hj, n6, n6']) ?_ | refine Sub.cons (by simp only [subs, n2, n3, hj, n6, n6']) ?_))
              have hb := hb1 (by omega)
              have hbl : b.toNat < [-1, 2, 3].length := by simp only [List.length_cons, List.length_nil]; omega
              simp only [walk, lists, acts, mem, plain, seqs, maps, cells, resL, resV, intBin, ↓reduceIte, Nat.reduceAdd, Nat.reduceSub, Nat.reduceMul, Nat.reduceLeDiff, Nat.reduceEqDiff, Int.reduceToNat, Int.reduceEq, Int.reduceLT, Int.reduceLE, Int.reduceNeg, Int.reduceAdd, Int.reduceSub, Int.reduceMul, Nat.reducePow, Int.reduceNegSucc, n6.1, n6', wCall]
              refine ⟨⟨hb0, by omega⟩, ?_⟩
              rw [eI_at hbl]
              generalize ([-1, 2, 3] : List Int)[b.toNat] = z
              simp only [walk, lists, acts, mem, plain, seqs, maps, cells, resL, resV, intBin, ↓reduceIte, Nat.reduceAdd, Nat.reduceSub, Nat.reduceMul, Nat.reduceLeDiff, Nat.reduceEqDiff, Int.reduceToNat, Int.reduceEq, Int.reduceLT, Int.reduceLE, Int.reduceNeg, Int.reduceAdd, Int.reduceSub, Int.reduceMul, Nat.reducePow, Int.reduceNegSucc, n2.1, n2.2.1, n3, n6.1, n6.2.1, n6.2.2.1, n6', wCall]
              exact ⟨(jr, blk (rdr bv (q + 4)) 67) :: h, by (repeat' first | exact Sub.refl _ | exact Sub.nil _ | assumption | refine Sub.both ?_ ?_ | refine Sub.cons_of (by simp only [subs, n2, n3, hj, n6, n6']) ?_ | exact Sub.left _ _ | refine Sub.app (by simp only [subs, n2, n3, hj, n6, n6']) ?_ | refine Sub.cons (by simp only [subs, n2, n3, hj, n6, n6']) ?_), k { c2 with to := z } (q + 4) hc2 (by omega) (by omega)⟩
            · simp only [walk, lists, acts, mem, plain, seqs, maps, cells, resL, resV, intBin, ↓reduceIte, Nat.reduceAdd, Nat.reduceSub, Nat.reduceMul, Nat.reduceLeDiff, Nat.reduceEqDiff, Int.reduceToNat, Int.reduceEq, Int.reduceLT, Int.reduceLE, Int.reduceNeg, Int.reduceAdd, Int.reduceSub, Int.reduceMul, Nat.reducePow, Int.reduceNegSucc, n2.1, n2.2.1, n3, wCall]
              exact ⟨(jr, blk (rdr bv (q + 3)) 67) :: h, by (repeat' first | exact Sub.refl _ | exact Sub.nil _ | assumption | refine Sub.both ?_ ?_ | refine Sub.cons_of (by simp only [subs, n2, n3, hj]) ?_ | exact Sub.left _ _ | refine Sub.app (by simp only [subs, n2, n3, hj]) ?_ | refine Sub.cons (by simp only [subs, n2, n3, hj]) ?_), k c2 (q + 3) hc2 (by omega) (by omega)⟩
end Go.Proofs.YtfkkjjballajaaaGreatDoor
end

/- The law CallSlots. -/
section
set_option linter.unusedVariables false
set_option linter.unusedSimpArgs false
set_option maxRecDepth 20000
attribute [local irreducible] Go.Tk.vc Go.Tk.vops Go.Tk.vdr Go.Tk.vop Go.Tk.vfl Go.Tk.HCalls
namespace Go.Proofs.YtfkkjjballajaaaGreatDoor
open Go Go.Tk

theorem loInts_c {h : H} {x y : Value} {l : List Int} (rx : rInts h x l) (ry : rInts h y l) (hl : l.length ≤ 1099511627776) {R : Ending → H → Prop} (k : R (.returned (.bool true)) h) : HCalls Tryz.prog 13 #[x, y] h R := by
  refine HCalls_ir (args := [x, y]) Tryz.func13 ir13 ?_
  simp only [walk, lists, acts, mem, plain, seqs, maps, cells, resL, resV, intBin, ↓reduceIte, Nat.reduceAdd, Nat.reduceSub, Nat.reduceMul, Nat.reduceLeDiff, Nat.reduceEqDiff, Int.reduceToNat, Int.reduceEq, Int.reduceLT, Int.reduceLE, Int.reduceNeg, Int.reduceAdd, Int.reduceSub, Int.reduceMul, Nat.reducePow, Int.reduceNegSucc, rx.len, ry.len]
  refine vc_loop [5] (fun n' vs h' => ∃ (i : Nat), vs = [.int .i64 i] ∧ h' = h ∧ i ≤ l.length ∧ n' = l.length - i) l.length rfl ⟨0, rfl, rfl, by omega, rfl⟩ ?_
  rintro n' f h' ⟨i, hv, rfl, hi, rfl⟩
  simp only [List.map_cons, List.map_nil, List.cons.injEq, and_true] at hv
  simp only [walk, lists, acts, mem, plain, seqs, maps, cells, resL, resV, intBin, ↓reduceIte, Nat.reduceAdd, Nat.reduceSub, Nat.reduceMul, Nat.reduceLeDiff, Nat.reduceEqDiff, Int.reduceToNat, Int.reduceEq, Int.reduceLT, Int.reduceLE, Int.reduceNeg, Int.reduceAdd, Int.reduceSub, Int.reduceMul, Nat.reducePow, Int.reduceNegSucc, wr, hv, rx.len]
  refine ite_lt (fun c2 => ?_) fun c2 => .of k
  refine vc_draw _ (Sub.refl _) ?_
  simp only [walk, lists, acts, mem, plain, seqs, maps, cells, resL, resV, intBin, ↓reduceIte, Nat.reduceAdd, Nat.reduceSub, Nat.reduceMul, Nat.reduceLeDiff, Nat.reduceEqDiff, Int.reduceToNat, Int.reduceEq, Int.reduceLT, Int.reduceLE, Int.reduceNeg, Int.reduceAdd, Int.reduceSub, Int.reduceMul, Nat.reducePow, Int.reduceNegSucc]
  refine idx_leaf (i := i) eI_len rx rfl (by omega) fun b1 o1 e1 => ?_
  simp only [walk, lists, acts, mem, plain, seqs, maps, cells, resL, resV, intBin, ↓reduceIte, Nat.reduceAdd, Nat.reduceSub, Nat.reduceMul, Nat.reduceLeDiff, Nat.reduceEqDiff, Int.reduceToNat, Int.reduceEq, Int.reduceLT, Int.reduceLE, Int.reduceNeg, Int.reduceAdd, Int.reduceSub, Int.reduceMul, Nat.reducePow, Int.reduceNegSucc, hread_1 e1]
  refine idx_leaf (i := i) eI_len ry rfl (by omega) fun b2 o2 e2 => ?_
  simp only [walk, lists, acts, mem, plain, seqs, maps, cells, resL, resV, intBin, ↓reduceIte, Nat.reduceAdd, Nat.reduceSub, Nat.reduceMul, Nat.reduceLeDiff, Nat.reduceEqDiff, Int.reduceToNat, Int.reduceEq, Int.reduceLT, Int.reduceLE, Int.reduceNeg, Int.reduceAdd, Int.reduceSub, Int.reduceMul, Nat.reducePow, Int.reduceNegSucc, hread_1 e2]
  simp (disch := omega) only [wrapI]
  exact ⟨l.length - (i + 1), by omega, h', .refl _, i + 1, by simp, rfl, by omega, rfl⟩


theorem drawCallSlots_c {h : H} {b : Value} {l : List UInt8} (r : rIn h eB 1 b l) (hl : l.length ≤ 1048576) {R : Ending → H → Prop}
    (k : ∀ c : DCall, c.text.length ≤ 410 → R (.returned (.agg (cCall c).toArray)) h) : HCalls Tryz.prog 12 #[b] h R := by
  refine HCalls_ir (args := [b]) Tryz.func12 ir12 ?_
  have zc := zCall_eq
  simp only [str] at zc
  simp only [walk, lists, acts, mem, plain, seqs, maps, cells, resL, resV, intBin, ↓reduceIte, Nat.reduceAdd, Nat.reduceSub, Nat.reduceMul, Nat.reduceLeDiff, Nat.reduceEqDiff, Int.reduceToNat, Int.reduceEq, Int.reduceLT, Int.reduceLE, Int.reduceNeg, Int.reduceAdd, Int.reduceSub, Int.reduceMul, Nat.reducePow, Int.reduceNegSucc, str, zc]
  refine newB_intro fun j2 hj2 => ?_
  simp only [walk, lists, acts, mem, plain, seqs, maps, cells, resL, resV, intBin, ↓reduceIte, Nat.reduceAdd, Nat.reduceSub, Nat.reduceMul, Nat.reduceLeDiff, Nat.reduceEqDiff, Int.reduceToNat, Int.reduceEq, Int.reduceLT, Int.reduceLE, Int.reduceNeg, Int.reduceAdd, Int.reduceSub, Int.reduceMul, Nat.reducePow, Int.reduceNegSucc, str, zc]
  refine open_c (r.sub (Sub.cons hj2 (Sub.refl _))) hl fun j bv m hj rm hm => ?_
  have n := hj
  simp only [subs] at n
  simp only [walk, lists, acts, mem, plain, seqs, maps, cells, resL, resV, intBin, ↓reduceIte, Nat.reduceAdd, Nat.reduceSub, Nat.reduceMul, Nat.reduceLeDiff, Nat.reduceEqDiff, Int.reduceToNat, Int.reduceEq, Int.reduceLT, Int.reduceLE, Int.reduceNeg, Int.reduceAdd, Int.reduceSub, Int.reduceMul, Nat.reducePow, Int.reduceNegSucc, str, zc]
  refine call_c (p := 0) hj rm hm (by omega) fun c p' hc _ _ => ?_
  have n2 : ¬ j2 = j := fun e => n.1 e.symm
  simp only [walk, lists, acts, mem, plain, seqs, maps, cells, resL, resV, intBin, ↓reduceIte, Nat.reduceAdd, Nat.reduceSub, Nat.reduceMul, Nat.reduceLeDiff, Nat.reduceEqDiff, Int.reduceToNat, Int.reduceEq, Int.reduceLT, Int.reduceLE, Int.reduceNeg, Int.reduceAdd, Int.reduceSub, Int.reduceMul, Nat.reducePow, Int.reduceNegSucc, str, zc, wCall, n, n2]
  exact ⟨h, by (repeat' first | exact Sub.refl _ | exact Sub.nil _ | assumption | refine Sub.both ?_ ?_ | refine Sub.cons_of (by simp only [subs, hj, hj2, n, n2]) ?_ | exact Sub.left _ _ | refine Sub.app (by simp only [subs, hj, hj2, n, n2]) ?_ | refine Sub.cons (by simp only [subs, hj, hj2, n, n2]) ?_), k c hc⟩

set_option maxHeartbeats 2000000 in
theorem callSlots_c {h : H} {b : Value} {l0 : List UInt8} (gl : Gl h) (gm : MxL h) (r : rIn h eB 1 b l0) {R : Ending → H → Prop} (k : R (.returned (.bool true)) h) : HCalls Tryz.prog 4 #[b] h R := by
  refine HCalls_ir (args := [b]) Tryz.func4 ir4 ?_
  have zc := zCall_eq
  simp only [str] at zc
  simp only [walk, lists, acts, mem, plain, seqs, maps, cells, resL, resV, intBin, ↓reduceIte, Nat.reduceAdd, Nat.reduceSub, Nat.reduceMul, Nat.reduceLeDiff, Nat.reduceEqDiff, Int.reduceToNat, Int.reduceEq, Int.reduceLT, Int.reduceLE, Int.reduceNeg, Int.reduceAdd, Int.reduceSub, Int.reduceMul, Nat.reducePow, Int.reduceNegSucc, str, zc, r.len]
  refine ite_lt (fun c => .of k) fun c => ?_
  refine drawCallSlots_c r (by omega) fun c hc => ?_
  simp only [walk, lists, acts, mem, plain, seqs, maps, cells, resL, resV, intBin, ↓reduceIte, Nat.reduceAdd, Nat.reduceSub, Nat.reduceMul, Nat.reduceLeDiff, Nat.reduceEqDiff, Int.reduceToNat, Int.reduceEq, Int.reduceLT, Int.reduceLE, Int.reduceNeg, Int.reduceAdd, Int.reduceSub, Int.reduceMul, Nat.reducePow, Int.reduceNegSucc, str, zc]
  refine newB_intro fun j hj => ?_
  have s1 := Sub.cons (o := blk (cCall c) 27) hj (Sub.refl h)
  simp only [walk, lists, acts, mem, plain, seqs, maps, cells, resL, resV, intBin, ↓reduceIte, Nat.reduceAdd, Nat.reduceSub, Nat.reduceMul, Nat.reduceLeDiff, Nat.reduceEqDiff, Int.reduceToNat, Int.reduceEq, Int.reduceLT, Int.reduceLE, Int.reduceNeg, Int.reduceAdd, Int.reduceSub, Int.reduceMul, Nat.reducePow, Int.reduceNegSucc, str, zc, wCall]
  refine specSlots_c (by omega) fun v4 g4 l O hl8 o4 d4 => ?_
  have s4 := Sub.right d4
  have c4 : hread (g4 ++ ((j, blk (cCall c) 27) :: h)) j 0 6 = some (cCall c) := hread_sub s4 (by rw [hread_same]; rfl)
  simp only [walk, lists, acts, mem, plain, seqs, maps, cells, resL, resV, intBin, ↓reduceIte, Nat.reduceAdd, Nat.reduceSub, Nat.reduceMul, Nat.reduceLeDiff, Nat.reduceEqDiff, Int.reduceToNat, Int.reduceEq, Int.reduceLT, Int.reduceLE, Int.reduceNeg, Int.reduceAdd, Int.reduceSub, Int.reduceMul, Nat.reducePow, Int.reduceNegSucc, hval, c4]
  have s14 := s1.trans s4
  refine implSlots_c (gl.sub s14) (gm.sub s14) (by omega) fun v5 g5 l5 O5 o5 d5 => ?_
  have e5 : l5 = l := O5.same O
  subst e5
  have s5 := Sub.right d5
  obtain ⟨M, hM⟩ : ∃ M, M = g5 ++ (g4 ++ ((j, blk (cCall c) 27) :: h)) := ⟨_, rfl⟩
  have hMs : Tk.Sub h M := by rw [hM]; exact s14.trans s5
  have cM : hread M j 0 6 = some (cCall c) := by rw [hM]; exact hread_sub s5 c4
  have rl : rLs M eI 1 v5 l5 := by rw [hM]; exact o5.rd.sub (Sub.left _ _)
  have rl4 : rLs M eI 1 v4 l5 := by rw [hM]; exact (o4.rd.sub (Sub.left _ _)).sub s5
  have glM := gl.sub hMs
  have gmM := gm.sub hMs
  have fin : dP R (.returned (.bool true)) M := ⟨h, hMs, k⟩
  rw [← hM]
  simp only [walk, lists, acts, mem, plain, seqs, maps, cells, resL, resV, intBin, ↓reduceIte, Nat.reduceAdd, Nat.reduceSub, Nat.reduceMul, Nat.reduceLeDiff, Nat.reduceEqDiff, Int.reduceToNat, Int.reduceEq, Int.reduceLT, Int.reduceLE, Int.reduceNeg, Int.reduceAdd, Int.reduceSub, Int.reduceMul, Nat.reducePow, Int.reduceNegSucc]
  refine vc_draw M (Sub.refl _) ?_
  simp only [walk, lists, acts, mem, plain, seqs, maps, cells, resL, resV, intBin, ↓reduceIte, Nat.reduceAdd, Nat.reduceSub, Nat.reduceMul, Nat.reduceLeDiff, Nat.reduceEqDiff, Int.reduceToNat, Int.reduceEq, Int.reduceLT, Int.reduceLE, Int.reduceNeg, Int.reduceAdd, Int.reduceSub, Int.reduceMul, Nat.reducePow, Int.reduceNegSucc, hval, cM]
  refine loInts_c rl rl4 (by omega) ?_
  simp only [walk, lists, acts, mem, plain, seqs, maps, cells, resL, resV, intBin, ↓reduceIte, Nat.reduceAdd, Nat.reduceSub, Nat.reduceMul, Nat.reduceLeDiff, Nat.reduceEqDiff, Int.reduceToNat, Int.reduceEq, Int.reduceLT, Int.reduceLE, Int.reduceNeg, Int.reduceAdd, Int.reduceSub, Int.reduceMul, Nat.reducePow, Int.reduceNegSucc, hval, cM]
  refine implCallOk_c glM gmM (by omega) fun b1 hb1 => ?_
  simp only [walk, lists, acts, mem, plain, seqs, maps, cells, resL, resV, intBin, ↓reduceIte, Nat.reduceAdd, Nat.reduceSub, Nat.reduceMul, Nat.reduceLeDiff, Nat.reduceEqDiff, Int.reduceToNat, Int.reduceEq, Int.reduceLT, Int.reduceLE, Int.reduceNeg, Int.reduceAdd, Int.reduceSub, Int.reduceMul, Nat.reducePow, Int.reduceNegSucc]
  refine specCallOk_c (by omega) fun b2 hb2 => ?_
  have e21 : b2 = b1 := by rw [Bool.eq_iff_iff, hb1, hb2]
  subst e21
  simp only [walk, lists, acts, mem, plain, seqs, maps, cells, resL, resV, intBin, ↓reduceIte, Nat.reduceAdd, Nat.reduceSub, Nat.reduceMul, Nat.reduceLeDiff, Nat.reduceEqDiff, Int.reduceToNat, Int.reduceEq, Int.reduceLT, Int.reduceLE, Int.reduceNeg, Int.reduceAdd, Int.reduceSub, Int.reduceMul, Nat.reducePow, Int.reduceNegSucc]
  simp only [walk, lists, acts, mem, plain, seqs, maps, cells, resL, resV, intBin, ↓reduceIte, Nat.reduceAdd, Nat.reduceSub, Nat.reduceMul, Nat.reduceLeDiff, Nat.reduceEqDiff, Int.reduceToNat, Int.reduceEq, Int.reduceLT, Int.reduceLE, Int.reduceNeg, Int.reduceAdd, Int.reduceSub, Int.reduceMul, Nat.reducePow, Int.reduceNegSucc, hval, cM, beq_self_eq_true, Bool.not_true]
  refine specCallOk_c (by omega) fun b3 hb3 => ?_
  have e31 : b3 = b2 := by rw [Bool.eq_iff_iff, hb2, hb3]
  subst e31
  simp only [walk, lists, acts, mem, plain, seqs, maps, cells, resL, resV, intBin, ↓reduceIte, Nat.reduceAdd, Nat.reduceSub, Nat.reduceMul, Nat.reduceLeDiff, Nat.reduceEqDiff, Int.reduceToNat, Int.reduceEq, Int.reduceLT, Int.reduceLE, Int.reduceNeg, Int.reduceAdd, Int.reduceSub, Int.reduceMul, Nat.reducePow, Int.reduceNegSucc]
  cases b3 with
  | false =>
    refine vc_draw M (Sub.refl _) ?_
    simp only [walk, lists, acts, mem, plain, seqs, maps, cells, resL, resV, intBin, ↓reduceIte, Nat.reduceAdd, Nat.reduceSub, Nat.reduceMul, Nat.reduceLeDiff, Nat.reduceEqDiff, Int.reduceToNat, Int.reduceEq, Int.reduceLT, Int.reduceLE, Int.reduceNeg, Int.reduceAdd, Int.reduceSub, Int.reduceMul, Nat.reducePow, Int.reduceNegSucc, hval, cM]
    refine loInts_c rl rl4 (by omega) ?_
    simp only [walk, lists, acts, mem, plain, seqs, maps, cells, resL, resV, intBin, ↓reduceIte, Nat.reduceAdd, Nat.reduceSub, Nat.reduceMul, Nat.reduceLeDiff, Nat.reduceEqDiff, Int.reduceToNat, Int.reduceEq, Int.reduceLT, Int.reduceLE, Int.reduceNeg, Int.reduceAdd, Int.reduceSub, Int.reduceMul, Nat.reducePow, Int.reduceNegSucc, hval, cM]
    refine implCallOk_c glM gmM (by omega) fun b4 hb4 => ?_
    simp only [walk, lists, acts, mem, plain, seqs, maps, cells, resL, resV, intBin, ↓reduceIte, Nat.reduceAdd, Nat.reduceSub, Nat.reduceMul, Nat.reduceLeDiff, Nat.reduceEqDiff, Int.reduceToNat, Int.reduceEq, Int.reduceLT, Int.reduceLE, Int.reduceNeg, Int.reduceAdd, Int.reduceSub, Int.reduceMul, Nat.reducePow, Int.reduceNegSucc]
    refine specCallOk_c (by omega) fun b5 hb5 => ?_
    have e54 : b5 = b4 := by rw [Bool.eq_iff_iff, hb4, hb5]
    subst e54
    simp only [walk, lists, acts, mem, plain, seqs, maps, cells, resL, resV, intBin, ↓reduceIte, Nat.reduceAdd, Nat.reduceSub, Nat.reduceMul, Nat.reduceLeDiff, Nat.reduceEqDiff, Int.reduceToNat, Int.reduceEq, Int.reduceLT, Int.reduceLE, Int.reduceNeg, Int.reduceAdd, Int.reduceSub, Int.reduceMul, Nat.reducePow, Int.reduceNegSucc, beq_self_eq_true]
    exact fin
  | true =>
    have hok := hb3.1 rfl
    have ck : hcel M j 2 = some (.int .i64 c.kind) := hread_c cM 2 rfl
    have ct : hcel M j 3 = some (.string ⟨c.text.toArray⟩) := hread_c cM 3 rfl
    have cs : hcel M j 4 = some (.int .i64 c.slot) := hread_c cM 4 rfl
    simp only [walk, lists, acts, mem, plain, seqs, maps, cells, resL, resV, intBin, ↓reduceIte, Nat.reduceAdd, Nat.reduceSub, Nat.reduceMul, Nat.reduceLeDiff, Nat.reduceEqDiff, Int.reduceToNat, Int.reduceEq, Int.reduceLT, Int.reduceLE, Int.reduceNeg, Int.reduceAdd, Int.reduceSub, Int.reduceMul, Nat.reducePow, Int.reduceNegSucc, ct]
    refine implRead_c glM gmM (by omega) fun v6 g6 ds ok O6 o6 d6 => ?_
    have s6 := Sub.right d6
    have hds := O6.le
    obtain ⟨N, hN⟩ : ∃ N, N = g6 ++ M := ⟨_, rfl⟩
    have sN : Tk.Sub M N := by rw [hN]; exact s6
    have r6 : rLs N cStatement 3 v6 ds := by rw [hN]; exact o6.rd.sub (Sub.left _ _)
    have rlN := rl.sub sN
    have fin2 : dP R (.returned (.bool true)) N := ⟨h, hMs.trans sN, k⟩
    have ckN := hcel_sub sN ck
    have csN := hcel_sub sN cs
    rcases O with ⟨n, _⟩ | ⟨_, hpw, ds2, ok2, O2, hmem⟩
    · exact absurd hok n
    obtain ⟨rfl, rfl⟩ := O2.same O6
    have hpw' : ∀ i i' (h1 : i < i') (h2 : i' < l5.length), l5[i]'(by omega) < l5[i'] := fun i i' h1 h2 => List.pairwise_iff_getElem.1 hpw i i' (by omega) h2 h1
    rw [← hN]
    simp only [walk, lists, acts, mem, plain, seqs, maps, cells, resL, resV, intBin, ↓reduceIte, Nat.reduceAdd, Nat.reduceSub, Nat.reduceMul, Nat.reduceLeDiff, Nat.reduceEqDiff, Int.reduceToNat, Int.reduceEq, Int.reduceLT, Int.reduceLE, Int.reduceNeg, Int.reduceAdd, Int.reduceSub, Int.reduceMul, Nat.reducePow, Int.reduceNegSucc]
    refine vc_loopS (g0 := N) [8] (fun n vs h' => ∃ (i : Nat), vs = [.int .i64 i] ∧ h' = N ∧ i ≤ l5.length ∧ n = l5.length - i) l5.length rfl (Sub.refl _) ⟨0, rfl, rfl, by omega, rfl⟩ ?_
    rintro n f h' ⟨i, hv, rfl, hi, rfl⟩
    simp only [List.map_cons, List.map_nil, List.cons.injEq, and_true] at hv
    simp only [walk, lists, acts, mem, plain, seqs, maps, cells, resL, resV, intBin, ↓reduceIte, Nat.reduceAdd, Nat.reduceSub, Nat.reduceMul, Nat.reduceLeDiff, Nat.reduceEqDiff, Int.reduceToNat, Int.reduceEq, Int.reduceLT, Int.reduceLE, Int.reduceNeg, Int.reduceAdd, Int.reduceSub, Int.reduceMul, Nat.reducePow, Int.reduceNegSucc, wr, hv, rlN.len]
    refine ite_lt (fun c1 => ?_) fun c1 => ?_
    · have hi2 : i < l5.length := by omega
      refine vc_draw h' (Sub.refl _) ?_
      simp only [walk, lists, acts, mem, plain, seqs, maps, cells, resL, resV, intBin, ↓reduceIte, Nat.reduceAdd, Nat.reduceSub, Nat.reduceMul, Nat.reduceLeDiff, Nat.reduceEqDiff, Int.reduceToNat, Int.reduceEq, Int.reduceLT, Int.reduceLE, Int.reduceNeg, Int.reduceAdd, Int.reduceSub, Int.reduceMul, Nat.reducePow, Int.reduceNegSucc, ckN]
      refine ite_pos (fun hk => ?_) fun hk => ?_
      · simp only [walk, lists, acts, mem, plain, seqs, maps, cells, resL, resV, intBin, ↓reduceIte, Nat.reduceAdd, Nat.reduceSub, Nat.reduceMul, Nat.reduceLeDiff, Nat.reduceEqDiff, Int.reduceToNat, Int.reduceEq, Int.reduceLT, Int.reduceLE, Int.reduceNeg, Int.reduceAdd, Int.reduceSub, Int.reduceMul, Nat.reducePow, Int.reduceNegSucc, csN]
        refine idx_leaf (i := i) eI_len rlN rfl hi2 fun b1 o1 e1 => ?_
        simp only [walk, lists, acts, mem, plain, seqs, maps, cells, resL, resV, intBin, ↓reduceIte, Nat.reduceAdd, Nat.reduceSub, Nat.reduceMul, Nat.reduceLeDiff, Nat.reduceEqDiff, Int.reduceToNat, Int.reduceEq, Int.reduceLT, Int.reduceLE, Int.reduceNeg, Int.reduceAdd, Int.reduceSub, Int.reduceMul, Nat.reducePow, Int.reduceNegSucc, hread_1 e1]
        refine vc_loopS (g0 := h') [10, 9] (fun n vs hh => ∃ (q : Nat) (b : Bool), vs = [.int .i64 q, .bool b] ∧ hh = h' ∧ (b = true ↔ (c.kind = 2 ∧ c.slot = l5[i]) ∨ ∃ st ∈ ds2.take q, slotK st.key = l5[i]) ∧ q ≤ ds2.length ∧ n = ds2.length - q) ds2.length rfl (Sub.refl _)
          ⟨0, decide (c.slot = l5[i]), rfl, rfl, by simp [hk], by omega, rfl⟩ ?_
        rintro n f2 hh ⟨q, b, hv2, e0, hb, hq, rfl⟩
        rw [e0]
        simp only [List.map_cons, List.map_nil, List.cons.injEq, and_true] at hv2
        simp only [walk, lists, acts, mem, plain, seqs, maps, cells, resL, resV, intBin, ↓reduceIte, Nat.reduceAdd, Nat.reduceSub, Nat.reduceMul, Nat.reduceLeDiff, Nat.reduceEqDiff, Int.reduceToNat, Int.reduceEq, Int.reduceLT, Int.reduceLE, Int.reduceNeg, Int.reduceAdd, Int.reduceSub, Int.reduceMul, Nat.reducePow, Int.reduceNegSucc, wr, hv2.1, hv2.2, r6.len]
        refine ite_lt (fun c3 => ?_) fun c3 => ?_
        · have hq2 : q < ds2.length := by omega
          refine vc_draw h' (Sub.refl _) ?_
          cases b with
          | true =>
            simp (disch := omega) only [walk, lists, acts, mem, plain, seqs, maps, cells, resL, resV, intBin, ↓reduceIte, Nat.reduceAdd, Nat.reduceSub, Nat.reduceMul, Nat.reduceLeDiff, Nat.reduceEqDiff, Int.reduceToNat, Int.reduceEq, Int.reduceLT, Int.reduceLE, Int.reduceNeg, Int.reduceAdd, Int.reduceSub, Int.reduceMul, Nat.reducePow, Int.reduceNegSucc, wrapI]
            refine ⟨ds2.length - (q + 1), by omega, _, .refl _, q + 1, true, rfl, rfl, ⟨fun _ => ?_, fun _ => rfl⟩, by omega, rfl⟩
            rcases hb.1 rfl with h1 | ⟨st, h1, h2⟩
            · exact .inl h1
            · exact .inr ⟨st, by rw [List.take_succ_eq_append_getElem hq2]; exact List.mem_append_left _ h1, h2⟩
          | false =>
            simp only [walk, lists, acts, mem, plain, seqs, maps, cells, resL, resV, intBin, ↓reduceIte, Nat.reduceAdd, Nat.reduceSub, Nat.reduceMul, Nat.reduceLeDiff, Nat.reduceEqDiff, Int.reduceToNat, Int.reduceEq, Int.reduceLT, Int.reduceLE, Int.reduceNeg, Int.reduceAdd, Int.reduceSub, Int.reduceMul, Nat.reducePow, Int.reduceNegSucc]
            refine idx_leaf (i := q) cStatement_len r6 rfl hq2 fun b1 o1 e1 => ?_
            have e1k : hcel h' b1 (o1 + 1) = some (.int .i64 ds2[q].key) := hread_c e1 1 rfl
            simp only [walk, lists, acts, mem, plain, seqs, maps, cells, resL, resV, intBin, ↓reduceIte, Nat.reduceAdd, Nat.reduceSub, Nat.reduceMul, Nat.reduceLeDiff, Nat.reduceEqDiff, Int.reduceToNat, Int.reduceEq, Int.reduceLT, Int.reduceLE, Int.reduceNeg, Int.reduceAdd, Int.reduceSub, Int.reduceMul, Nat.reducePow, Int.reduceNegSucc, e1k]
            refine idx_leaf (i := i) eI_len rlN rfl hi2 fun b2 o2 e2 => ?_
            simp only [walk, lists, acts, mem, plain, seqs, maps, cells, resL, resV, intBin, ↓reduceIte, Nat.reduceAdd, Nat.reduceSub, Nat.reduceMul, Nat.reduceLeDiff, Nat.reduceEqDiff, Int.reduceToNat, Int.reduceEq, Int.reduceLT, Int.reduceLE, Int.reduceNeg, Int.reduceAdd, Int.reduceSub, Int.reduceMul, Nat.reducePow, Int.reduceNegSucc, hread_1 e2]
            refine implMapSlot_c ?_
            simp (disch := omega) only [walk, lists, acts, mem, plain, seqs, maps, cells, resL, resV, intBin, ↓reduceIte, Nat.reduceAdd, Nat.reduceSub, Nat.reduceMul, Nat.reduceLeDiff, Nat.reduceEqDiff, Int.reduceToNat, Int.reduceEq, Int.reduceLT, Int.reduceLE, Int.reduceNeg, Int.reduceAdd, Int.reduceSub, Int.reduceMul, Nat.reducePow, Int.reduceNegSucc, wrapI]
            refine ⟨ds2.length - (q + 1), by omega, _, .refl _, q + 1, decide (slotK ds2[q].key = l5[i]), rfl, rfl, ?_, by omega, rfl⟩
            rw [List.take_succ_eq_append_getElem hq2, decide_eq_true_eq]
            constructor
            · intro e
              exact .inr ⟨ds2[q], List.mem_append_right _ List.mem_cons_self, e⟩
            · rintro (h1 | ⟨st, h1, h2⟩)
              · exact absurd (hb.2 (.inl h1)) (by simp)
              · rcases List.mem_append.1 h1 with h3 | h3
                · exact absurd (hb.2 (.inr ⟨st, h3, h2⟩)) (by simp)
                · rw [← List.mem_singleton.1 h3]; exact h2
        · have hq2 : q = ds2.length := by omega
          rw [hq2, List.take_length] at hb
          have hbt : b = true := hb.2 ((hmem _).1 (List.getElem_mem hi2))
          subst hbt
          refine vc_draw h' (Sub.refl _) ?_
          simp (disch := omega) only [walk, lists, acts, mem, plain, seqs, maps, cells, resL, resV, intBin, ↓reduceIte, Nat.reduceAdd, Nat.reduceSub, Nat.reduceMul, Nat.reduceLeDiff, Nat.reduceEqDiff, Int.reduceToNat, Int.reduceEq, Int.reduceLT, Int.reduceLE, Int.reduceNeg, Int.reduceAdd, Int.reduceSub, Int.reduceMul, Nat.reducePow, Int.reduceNegSucc, wrapI]
          refine ite_pos (fun c4 => ?_) fun c4 => ?_
          · refine idx_leaf (i := i - 1) eI_len rlN (by omega) (by omega) fun b1 o1 e1 => ?_
            simp only [walk, lists, acts, mem, plain, seqs, maps, cells, resL, resV, intBin, ↓reduceIte, Nat.reduceAdd, Nat.reduceSub, Nat.reduceMul, Nat.reduceLeDiff, Nat.reduceEqDiff, Int.reduceToNat, Int.reduceEq, Int.reduceLT, Int.reduceLE, Int.reduceNeg, Int.reduceAdd, Int.reduceSub, Int.reduceMul, Nat.reducePow, Int.reduceNegSucc, hread_1 e1]
            refine idx_leaf (i := i) eI_len rlN rfl hi2 fun b2 o2 e2 => ?_
            have hlt := hpw' (i - 1) i (by omega) hi2
            have hng : ¬ l5[i - 1]'(by omega) ≥ l5[i] := by omega
            simp (disch := omega) only [walk, lists, acts, mem, plain, seqs, maps, cells, resL, resV, intBin, ↓reduceIte, Nat.reduceAdd, Nat.reduceSub, Nat.reduceMul, Nat.reduceLeDiff, Nat.reduceEqDiff, Int.reduceToNat, Int.reduceEq, Int.reduceLT, Int.reduceLE, Int.reduceNeg, Int.reduceAdd, Int.reduceSub, Int.reduceMul, Nat.reducePow, Int.reduceNegSucc, hread_1 e2, hng, decide_false, wrapI]
            exact ⟨l5.length - (i + 1), by omega, _, .refl _, i + 1, by simp, rfl, by omega, rfl⟩
          · exact ⟨l5.length - (i + 1), by omega, _, .refl _, i + 1, by simp, rfl, by omega, rfl⟩
      · skip
        refine vc_loopS (g0 := h') [10, 9] (fun n vs hh => ∃ (q : Nat) (b : Bool), vs = [.int .i64 q, .bool b] ∧ hh = h' ∧ (b = true ↔ (c.kind = 2 ∧ c.slot = l5[i]) ∨ ∃ st ∈ ds2.take q, slotK st.key = l5[i]) ∧ q ≤ ds2.length ∧ n = ds2.length - q) ds2.length rfl (Sub.refl _)
          ⟨0, false, rfl, rfl, by simp [hk], by omega, rfl⟩ ?_
        rintro n f2 hh ⟨q, b, hv2, e0, hb, hq, rfl⟩
        rw [e0]
        simp only [List.map_cons, List.map_nil, List.cons.injEq, and_true] at hv2
        simp only [walk, lists, acts, mem, plain, seqs, maps, cells, resL, resV, intBin, ↓reduceIte, Nat.reduceAdd, Nat.reduceSub, Nat.reduceMul, Nat.reduceLeDiff, Nat.reduceEqDiff, Int.reduceToNat, Int.reduceEq, Int.reduceLT, Int.reduceLE, Int.reduceNeg, Int.reduceAdd, Int.reduceSub, Int.reduceMul, Nat.reducePow, Int.reduceNegSucc, wr, hv2.1, hv2.2, r6.len]
        refine ite_lt (fun c3 => ?_) fun c3 => ?_
        · have hq2 : q < ds2.length := by omega
          refine vc_draw h' (Sub.refl _) ?_
          cases b with
          | true =>
            simp (disch := omega) only [walk, lists, acts, mem, plain, seqs, maps, cells, resL, resV, intBin, ↓reduceIte, Nat.reduceAdd, Nat.reduceSub, Nat.reduceMul, Nat.reduceLeDiff, Nat.reduceEqDiff, Int.reduceToNat, Int.reduceEq, Int.reduceLT, Int.reduceLE, Int.reduceNeg, Int.reduceAdd, Int.reduceSub, Int.reduceMul, Nat.reducePow, Int.reduceNegSucc, wrapI]
            refine ⟨ds2.length - (q + 1), by omega, _, .refl _, q + 1, true, rfl, rfl, ⟨fun _ => ?_, fun _ => rfl⟩, by omega, rfl⟩
            rcases hb.1 rfl with h1 | ⟨st, h1, h2⟩
            · exact .inl h1
            · exact .inr ⟨st, by rw [List.take_succ_eq_append_getElem hq2]; exact List.mem_append_left _ h1, h2⟩
          | false =>
            simp only [walk, lists, acts, mem, plain, seqs, maps, cells, resL, resV, intBin, ↓reduceIte, Nat.reduceAdd, Nat.reduceSub, Nat.reduceMul, Nat.reduceLeDiff, Nat.reduceEqDiff, Int.reduceToNat, Int.reduceEq, Int.reduceLT, Int.reduceLE, Int.reduceNeg, Int.reduceAdd, Int.reduceSub, Int.reduceMul, Nat.reducePow, Int.reduceNegSucc]
            refine idx_leaf (i := q) cStatement_len r6 rfl hq2 fun b1 o1 e1 => ?_
            have e1k : hcel h' b1 (o1 + 1) = some (.int .i64 ds2[q].key) := hread_c e1 1 rfl
            simp only [walk, lists, acts, mem, plain, seqs, maps, cells, resL, resV, intBin, ↓reduceIte, Nat.reduceAdd, Nat.reduceSub, Nat.reduceMul, Nat.reduceLeDiff, Nat.reduceEqDiff, Int.reduceToNat, Int.reduceEq, Int.reduceLT, Int.reduceLE, Int.reduceNeg, Int.reduceAdd, Int.reduceSub, Int.reduceMul, Nat.reducePow, Int.reduceNegSucc, e1k]
            refine idx_leaf (i := i) eI_len rlN rfl hi2 fun b2 o2 e2 => ?_
            simp only [walk, lists, acts, mem, plain, seqs, maps, cells, resL, resV, intBin, ↓reduceIte, Nat.reduceAdd, Nat.reduceSub, Nat.reduceMul, Nat.reduceLeDiff, Nat.reduceEqDiff, Int.reduceToNat, Int.reduceEq, Int.reduceLT, Int.reduceLE, Int.reduceNeg, Int.reduceAdd, Int.reduceSub, Int.reduceMul, Nat.reducePow, Int.reduceNegSucc, hread_1 e2]
            refine implMapSlot_c ?_
            simp (disch := omega) only [walk, lists, acts, mem, plain, seqs, maps, cells, resL, resV, intBin, ↓reduceIte, Nat.reduceAdd, Nat.reduceSub, Nat.reduceMul, Nat.reduceLeDiff, Nat.reduceEqDiff, Int.reduceToNat, Int.reduceEq, Int.reduceLT, Int.reduceLE, Int.reduceNeg, Int.reduceAdd, Int.reduceSub, Int.reduceMul, Nat.reducePow, Int.reduceNegSucc, wrapI]
            refine ⟨ds2.length - (q + 1), by omega, _, .refl _, q + 1, decide (slotK ds2[q].key = l5[i]), rfl, rfl, ?_, by omega, rfl⟩
            rw [List.take_succ_eq_append_getElem hq2, decide_eq_true_eq]
            constructor
            · intro e
              exact .inr ⟨ds2[q], List.mem_append_right _ List.mem_cons_self, e⟩
            · rintro (h1 | ⟨st, h1, h2⟩)
              · exact absurd (hb.2 (.inl h1)) (by simp)
              · rcases List.mem_append.1 h1 with h3 | h3
                · exact absurd (hb.2 (.inr ⟨st, h3, h2⟩)) (by simp)
                · rw [← List.mem_singleton.1 h3]; exact h2
        · have hq2 : q = ds2.length := by omega
          rw [hq2, List.take_length] at hb
          have hbt : b = true := hb.2 ((hmem _).1 (List.getElem_mem hi2))
          subst hbt
          refine vc_draw h' (Sub.refl _) ?_
          simp (disch := omega) only [walk, lists, acts, mem, plain, seqs, maps, cells, resL, resV, intBin, ↓reduceIte, Nat.reduceAdd, Nat.reduceSub, Nat.reduceMul, Nat.reduceLeDiff, Nat.reduceEqDiff, Int.reduceToNat, Int.reduceEq, Int.reduceLT, Int.reduceLE, Int.reduceNeg, Int.reduceAdd, Int.reduceSub, Int.reduceMul, Nat.reducePow, Int.reduceNegSucc, wrapI]
          refine ite_pos (fun c4 => ?_) fun c4 => ?_
          · refine idx_leaf (i := i - 1) eI_len rlN (by omega) (by omega) fun b1 o1 e1 => ?_
            simp only [walk, lists, acts, mem, plain, seqs, maps, cells, resL, resV, intBin, ↓reduceIte, Nat.reduceAdd, Nat.reduceSub, Nat.reduceMul, Nat.reduceLeDiff, Nat.reduceEqDiff, Int.reduceToNat, Int.reduceEq, Int.reduceLT, Int.reduceLE, Int.reduceNeg, Int.reduceAdd, Int.reduceSub, Int.reduceMul, Nat.reducePow, Int.reduceNegSucc, hread_1 e1]
            refine idx_leaf (i := i) eI_len rlN rfl hi2 fun b2 o2 e2 => ?_
            have hlt := hpw' (i - 1) i (by omega) hi2
            have hng : ¬ l5[i - 1]'(by omega) ≥ l5[i] := by omega
            simp (disch := omega) only [walk, lists, acts, mem, plain, seqs, maps, cells, resL, resV, intBin, ↓reduceIte, Nat.reduceAdd, Nat.reduceSub, Nat.reduceMul, Nat.reduceLeDiff, Nat.reduceEqDiff, Int.reduceToNat, Int.reduceEq, Int.reduceLT, Int.reduceLE, Int.reduceNeg, Int.reduceAdd, Int.reduceSub, Int.reduceMul, Nat.reducePow, Int.reduceNegSucc, hread_1 e2, hng, decide_false, wrapI]
            exact ⟨l5.length - (i + 1), by omega, _, .refl _, i + 1, by simp, rfl, by omega, rfl⟩
          · exact ⟨l5.length - (i + 1), by omega, _, .refl _, i + 1, by simp, rfl, by omega, rfl⟩
    · have hi2 : i = l5.length := by omega
      refine vc_loopS (g0 := h') [11] (fun n vs hh => ∃ (q : Nat), vs = [.int .i64 q] ∧ hh = h' ∧ q ≤ ds2.length ∧ n = ds2.length - q) ds2.length rfl (Sub.refl _) ⟨0, rfl, rfl, by omega, rfl⟩ ?_
      rintro n f3 hh ⟨q, hv3, e0, hq, rfl⟩
      rw [e0]
      simp only [List.map_cons, List.map_nil, List.cons.injEq, and_true] at hv3
      simp only [walk, lists, acts, mem, plain, seqs, maps, cells, resL, resV, intBin, ↓reduceIte, Nat.reduceAdd, Nat.reduceSub, Nat.reduceMul, Nat.reduceLeDiff, Nat.reduceEqDiff, Int.reduceToNat, Int.reduceEq, Int.reduceLT, Int.reduceLE, Int.reduceNeg, Int.reduceAdd, Int.reduceSub, Int.reduceMul, Nat.reducePow, Int.reduceNegSucc, wr, hv3, r6.len]
      refine ite_lt (fun c3 => ?_) fun c3 => ?_
      · have hq2 : q < ds2.length := by omega
        refine vc_loopS (g0 := h') [13, 12] (fun n vs hh => ∃ (i : Nat) (b : Bool), vs = [.int .i64 i, .bool b] ∧ hh = h' ∧ (b = true ↔ ∃ x ∈ l5.take i, slotK ds2[q].key = x) ∧ i ≤ l5.length ∧ n = l5.length - i) l5.length rfl (Sub.refl _)
          ⟨0, false, rfl, rfl, by simp, by omega, rfl⟩ ?_
        rintro n f4 hh ⟨i, b, hv4, e00, hb, hi, rfl⟩
        rw [e00]
        simp only [List.map_cons, List.map_nil, List.cons.injEq, and_true] at hv4
        simp only [walk, lists, acts, mem, plain, seqs, maps, cells, resL, resV, intBin, ↓reduceIte, Nat.reduceAdd, Nat.reduceSub, Nat.reduceMul, Nat.reduceLeDiff, Nat.reduceEqDiff, Int.reduceToNat, Int.reduceEq, Int.reduceLT, Int.reduceLE, Int.reduceNeg, Int.reduceAdd, Int.reduceSub, Int.reduceMul, Nat.reducePow, Int.reduceNegSucc, wr, hv4.1, hv4.2, rlN.len]
        refine ite_lt (fun c4 => ?_) fun c4 => ?_
        · have hi3 : i < l5.length := by omega
          refine vc_draw h' (Sub.refl _) ?_
          cases b with
          | true =>
            simp (disch := omega) only [walk, lists, acts, mem, plain, seqs, maps, cells, resL, resV, intBin, ↓reduceIte, Nat.reduceAdd, Nat.reduceSub, Nat.reduceMul, Nat.reduceLeDiff, Nat.reduceEqDiff, Int.reduceToNat, Int.reduceEq, Int.reduceLT, Int.reduceLE, Int.reduceNeg, Int.reduceAdd, Int.reduceSub, Int.reduceMul, Nat.reducePow, Int.reduceNegSucc, wrapI]
            refine ⟨l5.length - (i + 1), by omega, _, .refl _, i + 1, true, rfl, rfl, ⟨fun _ => ?_, fun _ => rfl⟩, by omega, rfl⟩
            obtain ⟨x, h1, h2⟩ := hb.1 rfl
            exact ⟨x, by rw [List.take_succ_eq_append_getElem hi3]; exact List.mem_append_left _ h1, h2⟩
          | false =>
            simp only [walk, lists, acts, mem, plain, seqs, maps, cells, resL, resV, intBin, ↓reduceIte, Nat.reduceAdd, Nat.reduceSub, Nat.reduceMul, Nat.reduceLeDiff, Nat.reduceEqDiff, Int.reduceToNat, Int.reduceEq, Int.reduceLT, Int.reduceLE, Int.reduceNeg, Int.reduceAdd, Int.reduceSub, Int.reduceMul, Nat.reducePow, Int.reduceNegSucc]
            refine idx_leaf (i := q) cStatement_len r6 rfl hq2 fun b1 o1 e1 => ?_
            have e1k : hcel h' b1 (o1 + 1) = some (.int .i64 ds2[q].key) := hread_c e1 1 rfl
            simp only [walk, lists, acts, mem, plain, seqs, maps, cells, resL, resV, intBin, ↓reduceIte, Nat.reduceAdd, Nat.reduceSub, Nat.reduceMul, Nat.reduceLeDiff, Nat.reduceEqDiff, Int.reduceToNat, Int.reduceEq, Int.reduceLT, Int.reduceLE, Int.reduceNeg, Int.reduceAdd, Int.reduceSub, Int.reduceMul, Nat.reducePow, Int.reduceNegSucc, e1k]
            refine idx_leaf (i := i) eI_len rlN rfl hi3 fun b2 o2 e2 => ?_
            simp only [walk, lists, acts, mem, plain, seqs, maps, cells, resL, resV, intBin, ↓reduceIte, Nat.reduceAdd, Nat.reduceSub, Nat.reduceMul, Nat.reduceLeDiff, Nat.reduceEqDiff, Int.reduceToNat, Int.reduceEq, Int.reduceLT, Int.reduceLE, Int.reduceNeg, Int.reduceAdd, Int.reduceSub, Int.reduceMul, Nat.reducePow, Int.reduceNegSucc, hread_1 e2]
            refine implMapSlot_c ?_
            simp (disch := omega) only [walk, lists, acts, mem, plain, seqs, maps, cells, resL, resV, intBin, ↓reduceIte, Nat.reduceAdd, Nat.reduceSub, Nat.reduceMul, Nat.reduceLeDiff, Nat.reduceEqDiff, Int.reduceToNat, Int.reduceEq, Int.reduceLT, Int.reduceLE, Int.reduceNeg, Int.reduceAdd, Int.reduceSub, Int.reduceMul, Nat.reducePow, Int.reduceNegSucc, wrapI]
            refine ⟨l5.length - (i + 1), by omega, _, .refl _, i + 1, decide (slotK ds2[q].key = l5[i]), rfl, rfl, ?_, by omega, rfl⟩
            rw [List.take_succ_eq_append_getElem hi3, decide_eq_true_eq]
            constructor
            · intro e
              exact ⟨l5[i], List.mem_append_right _ List.mem_cons_self, e⟩
            · rintro ⟨x, h1, h2⟩
              rcases List.mem_append.1 h1 with h3 | h3
              · exact absurd (hb.2 ⟨x, h3, h2⟩) (by simp)
              · rw [← List.mem_singleton.1 h3]; exact h2
        · have hi3 : i = l5.length := by omega
          rw [hi3, List.take_length] at hb
          have hbt : b = true := hb.2 ⟨_, (hmem _).2 (.inr ⟨ds2[q], List.getElem_mem hq2, rfl⟩), rfl⟩
          subst hbt
          simp (disch := omega) only [walk, lists, acts, mem, plain, seqs, maps, cells, resL, resV, intBin, ↓reduceIte, Nat.reduceAdd, Nat.reduceSub, Nat.reduceMul, Nat.reduceLeDiff, Nat.reduceEqDiff, Int.reduceToNat, Int.reduceEq, Int.reduceLT, Int.reduceLE, Int.reduceNeg, Int.reduceAdd, Int.reduceSub, Int.reduceMul, Nat.reducePow, Int.reduceNegSucc, wrapI]
          exact ⟨ds2.length - (q + 1), by omega, _, .refl _, q + 1, by simp, rfl, by omega, rfl⟩
      · have hne : (l5.length : Int) > 0 := by
          have : l5 ≠ [] := by
            intro e
            rw [e] at hmem
            by_cases hk : c.kind = 2
            · exact absurd ((hmem c.slot).2 (.inl ⟨hk, rfl⟩)) List.not_mem_nil
            · have h1 : c.kind = 1 := by
                rcases hok.1.2.2 with q | q
                · exact q.1
                · exact absurd q.1 hk
              have ho := O2.iff.2 (hok.2 h1)
              rcases O2 with ⟨_, p, _⟩ | ⟨e, _⟩
              · have h2 := p.1
                cases hd : ds2 with
                | nil => rw [hd] at h2; simp at h2
                | cons a t => exact absurd ((hmem (slotK a.key)).2 (.inr ⟨a, by rw [hd]; exact List.mem_cons_self, rfl⟩)) List.not_mem_nil
              · rw [e] at ho; cases ho
          have := List.length_pos_iff.2 this
          omega
        simp only [walk, lists, acts, mem, plain, seqs, maps, cells, resL, resV, intBin, ↓reduceIte, Nat.reduceAdd, Nat.reduceSub, Nat.reduceMul, Nat.reduceLeDiff, Nat.reduceEqDiff, Int.reduceToNat, Int.reduceEq, Int.reduceLT, Int.reduceLE, Int.reduceNeg, Int.reduceAdd, Int.reduceSub, Int.reduceMul, Nat.reducePow, Int.reduceNegSucc, rlN.len, hne, decide_true]
        exact fin2
end Go.Proofs.YtfkkjjballajaaaGreatDoor
end
