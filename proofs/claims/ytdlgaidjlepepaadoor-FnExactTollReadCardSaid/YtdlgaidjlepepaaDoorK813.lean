/- Parts of the proof, put together: P7, U17, V0, A26, A27, U25. -/
import Derived.Shelf.Vars
import Derived.RangeFuncLeaves
import Derived.Test.YtdlgaidjlepepaaDoorK89
import Derived.Test.YtdlgaidjlepepaaDoorK812
import Derived.Test.YtdlgaidjlepepaaDoorK86
import Derived.Test.YtdlgaidjlepepaaDoorK84
/- Lines of scripts, read from the left. -/
section
set_option linter.unusedVariables false
set_option linter.unusedSimpArgs false
namespace Go.Tk
open Go

theorem putNs_snoc : ∀ {os : List Nat} {ns : List Int} (e : DTollEvent) (o : Nat) (n : Int), ns.length = os.length → putNs e (os ++ [o]) (ns ++ [n]) = putN (putNs e os ns) o n := by
  intro os
  induction os with
  | nil =>
    intro ns e o n h
    have : ns = [] := List.length_eq_zero_iff.1 h
    subst this
    rfl
  | cons a os ih =>
    intro ns e o n h
    cases ns with
    | nil => cases h
    | cons b ns => exact ih (putN e a b) o n (by simpa using h)
theorem putN_call (e : DTollEvent) (o : Nat) (n : Int) (c : DCall) : putN { e with call := c } o n = { putN e o n with call := c } := by
  rcases o with _ | _ | _ | _ | _ | o <;> rfl
theorem putNs_call (c : DCall) : ∀ (os : List Nat) (ns : List Int) (e : DTollEvent), putNs { e with call := c } os ns = { putNs e os ns with call := c } := by
  intro os
  induction os with
  | nil => intro ns e; cases ns <;> rfl
  | cons a os ih =>
    intro ns e
    cases ns with
    | nil => rfl
    | cons b ns =>
      show putNs (putN { e with call := c } a b) os ns = _
      rw [putN_call]
      exact ih ns (putN e a b)
theorem event_put (e : DTollEvent) {o : Nat} (n : Int) (h : o ≤ 4) : splice (cTollEvent e) o [.int .i64 n] = cTollEvent (putN e o n) := by
  have : o = 0 ∨ o = 1 ∨ o = 2 ∨ o = 3 ∨ o = 4 := by omega
  rcases this with rfl | rfl | rfl | rfl | rfl <;> rfl
theorem forms_inj : ∀ f ∈ forms, ∀ f' ∈ forms, f.name = f'.name → f = f' := by
  have : ∀ i j : Fin forms.length, forms[i].name = forms[j].name → i = j := by decide
  intro f hf f' hf' h
  obtain ⟨i, hi, rfl⟩ := List.getElem_of_mem hf
  obtain ⟨j, hj, rfl⟩ := List.getElem_of_mem hf'
  have := this ⟨i, hi⟩ ⟨j, hj⟩ h
  simp only [Fin.mk.injEq] at this
  subst this
  rfl
def tailF (f : Form) (c : DCall) : List UInt8 := if f.kind = 1 then 32 :: askC c else []
theorem tailF_or (f : Form) (c : DCall) : tailF f c = [] ∨ ∃ y, tailF f c = 32 :: y := by
  unfold tailF
  split
  · exact .inr ⟨_, rfl⟩
  · exact .inl rfl
def RestO (X r : List UInt8) : Prop := X = 32 :: r ∨ (X = [] ∧ r = [])
theorem numsT_or (l : List Int) (f : Form) (c : DCall) : numsT l ++ tailF f c = [] ∨ ∃ y, numsT l ++ tailF f c = 32 :: y := by
  cases l with
  | nil => simpa [numsT] using tailF_or f c
  | cons n l => exact .inr ⟨_, rfl⟩
theorem forms_pos : ∀ f ∈ forms, 1 ≤ f.offs.length ∧ (32 : UInt8) ∉ f.name := by decide
theorem line_cut {f : Form} {ns : List Int} {c : DCall} (h : fitF f ns c) : ∃ y, lineF f ns c = f.name ++ 32 :: y ∧ 32 ∉ f.name ∧ RestO (numsT ns ++ tailF f c) y := by
  obtain ⟨hf, hl, hn, hc⟩ := h
  obtain ⟨h1, h2⟩ := forms_pos f hf
  cases ns with
  | nil => simp at hl; omega
  | cons n ns =>
    refine ⟨decI n ++ (numsT ns ++ tailF f c), ?_, h2, .inl ?_⟩
    · simp [lineF, numsT, tailF]
    · simp [numsT]
theorem rest_step {n : Int} {l : List Int} {f : Form} {c : DCall} {r w r2 : List UInt8} {fnd : Bool} (hn : sm5 n) (h : RestO (numsT (n :: l) ++ tailF f c) r) (hc : CutO 32 r w r2 fnd) : w = decI n ∧ RestO (numsT l ++ tailF f c) r2 := by
  obtain ⟨m, rfl, hm⟩ := sm5_nat hn
  have e : numsT ((m : Int) :: l) ++ tailF f c = 32 :: (decN m ++ (numsT l ++ tailF f c)) := by simp [numsT, decI_nat]
  rw [e] at h
  rw [decI_nat]
  rcases h with h | ⟨h, _⟩
  · have hr := (List.cons.inj h).2
    rcases numsT_or l f c with y | ⟨y, hy⟩
    · rw [y, List.append_nil] at hr
      obtain ⟨h1, h2, _⟩ := hc.no (by rw [← hr]; exact decN_no32 m)
      rw [y]
      exact ⟨by rw [h1, hr], .inr ⟨rfl, h2⟩⟩
    · rw [hy] at hr
      obtain ⟨h1, h2, _⟩ := hc.at hr.symm (decN_no32 m)
      rw [hy]
      exact ⟨h1, .inl (by rw [h2])⟩
  · cases h
theorem rest_end {f : Form} {c : DCall} {r : List UInt8} (h : RestO (numsT [] ++ tailF f c) r) : (f.kind = 1 → r = askC c) ∧ (f.kind ≠ 1 → r = []) := by
  unfold tailF at h
  simp only [numsT, List.map_nil, List.flatten_nil, List.nil_append] at h
  refine ⟨fun k => ?_, fun k => ?_⟩
  · rw [if_pos k] at h
    rcases h with h | ⟨h, _⟩
    · exact (List.cons.inj h).2.symm
    · cases h
  · rw [if_neg k] at h
    rcases h with h | ⟨_, h⟩
    · cases h
    · exact h
theorem putNs_at : ∀ (os : List Nat) (ns : List Int) (e : DTollEvent), (∀ o ∈ os, 1 ≤ o ∧ o ≤ 4) → (putNs e os ns).kind = e.kind ∧ (putNs e os ns).call = e.call := by
  intro os
  induction os with
  | nil => intro ns e _; cases ns <;> exact ⟨rfl, rfl⟩
  | cons a os ih =>
    intro ns e h
    cases ns with
    | nil => exact ⟨rfl, rfl⟩
    | cons b ns =>
      obtain ⟨h1, h2⟩ := ih ns (putN e a b) fun o ho => h o (List.mem_cons_of_mem _ ho)
      have ha := h a List.mem_cons_self
      have : a = 1 ∨ a = 2 ∨ a = 3 ∨ a = 4 := by omega
      refine ⟨h1.trans ?_, h2.trans ?_⟩ <;> rcases this with rfl | rfl | rfl | rfl <;> rfl
/-- Numbers that fit an int64. -/
def i64N (n : Int) : Prop := -9223372036854775808 ≤ n ∧ n ≤ 9223372036854775807
theorem putNs_in : ∀ (os : List Nat) (ns : List Int) (e : DTollEvent), allP sm5 ns → i64N e.at_ ∧ i64N e.session ∧ i64N e.word ∧ i64N e.keep → i64N (putNs e os ns).at_ ∧ i64N (putNs e os ns).session ∧ i64N (putNs e os ns).word ∧ i64N (putNs e os ns).keep := by
  intro os
  induction os with
  | nil => intro ns e _ h; cases ns <;> exact h
  | cons a os ih =>
    intro ns e hn h
    cases ns with
    | nil => exact h
    | cons b ns =>
      have hb := hn b List.mem_cons_self
      have hb2 : i64N b := ⟨by unfold sm5 at hb; omega, by unfold sm5 at hb; omega⟩
      refine ih ns (putN e a b) (fun x hx => hn x (List.mem_cons_of_mem _ hx)) ?_
      obtain ⟨h1, h2, h3, h4⟩ := h
      rcases a with _ | _ | _ | _ | _ | a
      · exact ⟨h1, h2, h3, h4⟩
      · exact ⟨hb2, h2, h3, h4⟩
      · exact ⟨h1, hb2, h3, h4⟩
      · exact ⟨h1, h2, hb2, h4⟩
      · exact ⟨h1, h2, h3, hb2⟩
      · exact ⟨h1, h2, h3, h4⟩
theorem forms_keep : ∀ f ∈ forms, 0 ≤ f.keep ∧ f.keep ≤ 1 := by decide
end Go.Tk
end

/- How the program reads a line. -/
section
set_option linter.unusedVariables false
set_option linter.unusedSimpArgs false
set_option maxRecDepth 20000
attribute [local irreducible] Go.Tk.vc Go.Tk.vops Go.Tk.vdr Go.Tk.vop Go.Tk.vfl Go.Tk.HCalls
namespace Go.Tk
open Go
theorem forms_len : forms.length = 10 := rfl
end Go.Tk
namespace Go.Proofs.YtdlgaidjlepepaaDoor
open Go Go.Tk

theorem readLine_c {h : H} {s : List UInt8} (gl : Gl h) (hs : s.length ≤ 4194304) {R : Ending → H → Prop} (k : ∀ e ok, OutE s e ok → R (.returned (.tuple #[.agg (cTollEvent e).toArray, .bool ok])) h) :
    HCalls Tryd.prog 26 #[.string ⟨s.toArray⟩] h R := by
  refine HCalls_ir (args := [.string ⟨s.toArray⟩]) Tryd.func26 ir26 ?_
  have ze := zTollEvent_eq
  simp only [str] at ze
  have el : ∀ (x y : List UInt8), ((⟨x.toArray⟩ : ByteArray) = ⟨y.toArray⟩) = (x = y) := fun x y => propext ⟨fun e => by simpa using congrArg (fun a : ByteArray => a.data.toList) e, fun e => by rw [e]⟩
  simp only [walk, lists, acts, mem, plain, seqs, maps, cells, resL, resV, intBin, ↓reduceIte, Nat.reduceAdd, Nat.reduceSub, Nat.reduceMul, Nat.reduceLeDiff, Nat.reduceEqDiff, Int.reduceToNat, Int.reduceEq, Int.reduceLT, Int.reduceLE, Int.reduceNeg, Int.reduceAdd, Int.reduceSub, Int.reduceMul, Nat.reducePow, Int.reduceNegSucc, str, ze]
  refine newB_intro fun j2 hj2 => ?_
  simp only [walk, lists, acts, mem, plain, seqs, maps, cells, resL, resV, intBin, ↓reduceIte, Nat.reduceAdd, Nat.reduceSub, Nat.reduceMul, Nat.reduceLeDiff, Nat.reduceEqDiff, Int.reduceToNat, Int.reduceEq, Int.reduceLT, Int.reduceLE, Int.reduceNeg, Int.reduceAdd, Int.reduceSub, Int.reduceMul, Nat.reducePow, Int.reduceNegSucc, str, ze]
  refine newB_intro fun j4 hj4 => ?_
  have n4 := hj4
  simp only [subs] at n4
  simp only [walk, lists, acts, mem, plain, seqs, maps, cells, resL, resV, intBin, ↓reduceIte, Nat.reduceAdd, Nat.reduceSub, Nat.reduceMul, Nat.reduceLeDiff, Nat.reduceEqDiff, Int.reduceToNat, Int.reduceEq, Int.reduceLT, Int.reduceLE, Int.reduceNeg, Int.reduceAdd, Int.reduceSub, Int.reduceMul, Nat.reducePow, Int.reduceNegSucc, str, ze]
  refine cut_c hs fun a b fd hc => ?_
  have hab : a.length ≤ s.length ∧ b.length ≤ s.length := by
    obtain ⟨_, ⟨_, h2⟩ | ⟨_, h2, h3⟩⟩ := hc
    · rw [h2]; simp; omega
    · rw [h2, h3]; simp
  simp only [walk, lists, acts, mem, plain, seqs, maps, cells, resL, resV, intBin, ↓reduceIte, Nat.reduceAdd, Nat.reduceSub, Nat.reduceMul, Nat.reduceLeDiff, Nat.reduceEqDiff, Int.reduceToNat, Int.reduceEq, Int.reduceLT, Int.reduceLE, Int.reduceNeg, Int.reduceAdd, Int.reduceSub, Int.reduceMul, Nat.reducePow, Int.reduceNegSucc, str, ze]
  refine forms_c fun V g L hL rL rN dj => ?_
  have hl10 : L.length = 10 := by have := congrArg List.length hL; simpa [forms] using this
  have len : ∀ {f : Value → Prop}, lenSK V f = f (.int .i64 10) := fun {f} => by have := rL.len (f := f); rw [hl10] at this; exact this
  simp only [subs] at dj
  simp only [walk, lists, acts, mem, plain, seqs, maps, cells, resL, resV, intBin, ↓reduceIte, Nat.reduceAdd, Nat.reduceSub, Nat.reduceMul, Nat.reduceLeDiff, Nat.reduceEqDiff, Int.reduceToNat, Int.reduceEq, Int.reduceLT, Int.reduceLE, Int.reduceNeg, Int.reduceAdd, Int.reduceSub, Int.reduceMul, Nat.reducePow, Int.reduceNegSucc, str, len, ze]
  have ej : j2 ≠ j4 := fun e => n4.1 e.symm
  have rLh := rL.sub (Sub.left g h)
  have dg2 : hget g j2 = none := dj.2.1
  have dg4 : hget g j4 = none := dj.1
  have M2 : hget (g ++ h) j2 = none := by simp only [subs, dg2, hj2]
  have M4 : hget (g ++ h) j4 = none := by simp only [subs, dg4, n4]
  have ej' : ¬ j2 = j4 := ej
  have sM : ∀ e, Tk.Sub (g ++ h) ((j4, blk (cTollEvent e) 74) :: (j2, blk (cTollEvent zTollEvent) 41) :: (g ++ h)) := fun e => by (repeat' first | exact Sub.refl _ | exact Sub.nil _ | assumption | refine Sub.both ?_ ?_ | refine Sub.cons_of (by simp only [subs, dg2, dg4, n4, hj2, dj, ej]) ?_ | exact Sub.left _ _ | refine Sub.app (by simp only [subs, dg2, dg4, n4, hj2, dj, ej]) ?_ | refine Sub.cons (by simp only [subs, dg2, dg4, n4, hj2, dj, ej]) ?_)
  refine vc_loopS [23, 6] (fun n vs h' => ∃ (i : Nat), vs = [.int .i64 i, .string ⟨b.toArray⟩] ∧ h' = (j4, blk (cTollEvent zTollEvent) 74) :: (j2, blk (cTollEvent zTollEvent) 41) :: (g ++ h) ∧ (∀ f ∈ forms.take i, f.name ≠ a) ∧ i ≤ 10 ∧ n = 10 - i) 10 rfl
    (g0 := (j4, blk (cTollEvent zTollEvent) 74) :: (j2, blk (cTollEvent zTollEvent) 41) :: (g ++ h)) (by (repeat' first | exact Sub.refl _ | exact Sub.nil _ | assumption | refine Sub.both ?_ ?_ | refine Sub.cons_of (by simp only [subs, dg2, dg4, n4, hj2, dj, ej]) ?_ | exact Sub.left _ _ | refine Sub.app (by simp only [subs, dg2, dg4, n4, hj2, dj, ej]) ?_ | refine Sub.cons (by simp only [subs, dg2, dg4, n4, hj2, dj, ej]) ?_)) ⟨0, rfl, rfl, by simp, by omega, rfl⟩ ?_
  rintro n f h' ⟨i, hv, rfl, hn, hi, rfl⟩
  simp only [List.map_cons, List.map_nil, List.cons.injEq, and_true] at hv
  simp only [walk, lists, acts, mem, plain, seqs, maps, cells, resL, resV, intBin, ↓reduceIte, Nat.reduceAdd, Nat.reduceSub, Nat.reduceMul, Nat.reduceLeDiff, Nat.reduceEqDiff, Int.reduceToNat, Int.reduceEq, Int.reduceLT, Int.reduceLE, Int.reduceNeg, Int.reduceAdd, Int.reduceSub, Int.reduceMul, Nat.reducePow, Int.reduceNegSucc, wr, hv, ze, str]
  refine ite_lt (fun c3 => ?_) fun c3 => ?_
  · have hi2 : i < L.length := by omega
    have hi3 : i < forms.length := by simp [forms]; omega
    have hp : L[i].1 = forms[i] := by
      have h1 : (L.map Prod.fst)[i]? = forms[i]? := by rw [hL]
      rw [List.getElem?_map, List.getElem?_eq_getElem hi2, List.getElem?_eq_getElem hi3] at h1
      exact Option.some.inj h1
    have hmem : forms[i] ∈ forms := List.getElem_mem hi3
    refine idx_leaf (i := i) (eForm_len j4) (rLh.sub (sM zTollEvent)) rfl hi2 fun b1 o1 e1 => ?_
    have rp := rN L[i] (List.getElem_mem hi2)
    obtain ⟨p, hpe⟩ : ∃ p, p = L[i] := ⟨_, rfl⟩
    rw [← hpe] at e1 hp rp
    have pone := rp.one
    simp only [walk, lists, acts, mem, plain, seqs, maps, cells, resL, resV, intBin, ↓reduceIte, Nat.reduceAdd, Nat.reduceSub, Nat.reduceMul, Nat.reduceLeDiff, Nat.reduceEqDiff, Int.reduceToNat, Int.reduceEq, Int.reduceLT, Int.reduceLE, Int.reduceNeg, Int.reduceAdd, Int.reduceSub, Int.reduceMul, Nat.reducePow, Int.reduceNegSucc, e1, wForm, str]
    refine newB_intro fun j9 hj9 => ?_
    have n9 := hj9
    simp only [subs] at n9
    simp only [walk, lists, acts, mem, plain, seqs, maps, cells, resL, resV, intBin, ↓reduceIte, Nat.reduceAdd, Nat.reduceSub, Nat.reduceMul, Nat.reduceLeDiff, Nat.reduceEqDiff, Int.reduceToNat, Int.reduceEq, Int.reduceLT, Int.reduceLE, Int.reduceNeg, Int.reduceAdd, Int.reduceSub, Int.reduceMul, Nat.reducePow, Int.reduceNegSucc, wForm, pone, str, el, wTollEvent]
    have sM9 : ∀ e, Tk.Sub (g ++ h) ((j9, blk (eForm j4 p) 85) :: (j4, blk (cTollEvent e) 74) :: (j2, blk (cTollEvent zTollEvent) 41) :: (g ++ h)) := fun e => by (repeat' first | exact Sub.refl _ | exact Sub.nil _ | assumption | refine Sub.both ?_ ?_ | refine Sub.cons_of (by simp only [subs, dg2, dg4, n4, hj2, dj, ej', n9]) ?_ | exact Sub.left _ _ | refine Sub.app (by simp only [subs, dg2, dg4, n4, hj2, dj, ej', n9]) ?_ | refine Sub.cons (by simp only [subs, dg2, dg4, n4, hj2, dj, ej', n9]) ?_)
    have sF : ∀ e, Tk.Sub h ((j9, blk (eForm j4 p) 85) :: (j4, blk (cTollEvent e) 74) :: (j2, blk (cTollEvent zTollEvent) 41) :: (g ++ h)) := fun e => (Sub.right dj.2.2).trans (sM9 e)
    have e49 : ¬ j4 = j9 := fun e => n9.1 e.symm
    have e29 : ¬ j2 = j9 := fun e => n9.2.1 e.symm
    simp only [strBin, oK_some, ap2_eq, cont_app, walk, lists, acts, mem, plain, seqs, maps, cells, resL, resV, intBin, ↓reduceIte, Nat.reduceAdd, Nat.reduceSub, Nat.reduceMul, Nat.reduceLeDiff, Nat.reduceEqDiff, Int.reduceToNat, Int.reduceEq, Int.reduceLT, Int.reduceLE, Int.reduceNeg, Int.reduceAdd, Int.reduceSub, Int.reduceMul, Nat.reducePow, Int.reduceNegSucc, el]
    refine ite_ne (fun c1 => ?_) fun c1 => ?_
    · simp (disch := omega) only [wrapI]
      refine ⟨10 - (i + 1), by omega, (j4, blk (cTollEvent zTollEvent) 74) :: (j2, blk (cTollEvent zTollEvent) 41) :: (g ++ h), Sub.cons hj9 (Sub.refl _), i + 1, by simp, rfl, fun f' hf' => ?_, by omega, rfl⟩
      rw [List.take_succ_eq_append_getElem hi3] at hf'
      rcases List.mem_append.1 hf' with hf' | hf'
      · exact hn f' hf'
      · rw [List.mem_singleton] at hf'
        rw [hf', ← hp]; exact c1
    · simp only [walk, lists, acts, mem, plain, seqs, maps, cells, resL, resV, intBin, ↓reduceIte, Nat.reduceAdd, Nat.reduceSub, Nat.reduceMul, Nat.reduceLeDiff, Nat.reduceEqDiff, Int.reduceToNat, Int.reduceEq, Int.reduceLT, Int.reduceLE, Int.reduceNeg, Int.reduceAdd, Int.reduceSub, Int.reduceMul, Nat.reducePow, Int.reduceNegSucc, wForm, pone, str, wTollEvent, e49, e29, ej']
      have rpM : ∀ e, rLs ((j9, blk (eForm j4 p) 85) :: (j4, blk (cTollEvent e) 74) :: (j2, blk (cTollEvent zTollEvent) 41) :: (g ++ h)) ePtr 1 p.2 (p.1.offs.map fun o => (j4, o)) := fun e => (rp.sub (Sub.left g h)).sub (sM9 e)
      have plen : ∀ {f : Value → Prop}, lenSK p.2 f = f (.int .i64 p.1.offs.length) := fun {f} => by have := (rpM zTollEvent).len (f := f); rw [List.length_map] at this; exact this
      rw [← hp] at hmem
      obtain ⟨ho1, ho2, ho3⟩ := forms_offs _ hmem
      simp only [walk, lists, acts, mem, plain, seqs, maps, cells, resL, resV, intBin, ↓reduceIte, Nat.reduceAdd, Nat.reduceSub, Nat.reduceMul, Nat.reduceLeDiff, Nat.reduceEqDiff, Int.reduceToNat, Int.reduceEq, Int.reduceLT, Int.reduceLE, Int.reduceNeg, Int.reduceAdd, Int.reduceSub, Int.reduceMul, Nat.reducePow, Int.reduceNegSucc, wForm, pone, str, wTollEvent, e49, e29, ej', plen]
      obtain ⟨E1, hE1⟩ : ∃ E1 : DTollEvent, E1 = { zTollEvent with kind := p.1.kind, keep := p.1.keep } := ⟨_, rfl⟩
      rw [← hE1]
      have same : ∀ f' ns' c', fitF f' ns' c' → s = lineF f' ns' c' → f' = p.1 ∧ RestO (numsT ns' ++ tailF f' c') b := fun f' ns' c' hfit hs' => by
        obtain ⟨y, hy, hno, hro⟩ := line_cut hfit
        obtain ⟨ha, hb, _⟩ := hc.at (hs'.trans hy) hno
        exact ⟨forms_inj _ hfit.1 _ hmem (by rw [c1, ha]), by rw [hb]; exact hro⟩
      refine vc_loopS [42, 6] (fun n vs h' => ∃ (q : Nat) (ns : List Int) (r : List UInt8), vs = [.int .i64 q, .string ⟨r.toArray⟩] ∧ h' = (j9, blk (eForm j4 p) 85) :: (j4, blk (cTollEvent (putNs E1 (p.1.offs.take q) ns)) 74) :: (j2, blk (cTollEvent zTollEvent) 41) :: (g ++ h) ∧
          ns.length = q ∧ allP sm5 ns ∧ q ≤ p.1.offs.length ∧ r.length ≤ s.length ∧ (∀ f' ns' c', fitF f' ns' c' → s = lineF f' ns' c' → ns'.take q = ns ∧ RestO (numsT (ns'.drop q) ++ tailF f' c') r) ∧ n = p.1.offs.length - q) p.1.offs.length rfl
        (g0 := (j9, blk (eForm j4 p) 85) :: (j4, blk (cTollEvent E1) 74) :: (j2, blk (cTollEvent zTollEvent) 41) :: (g ++ h)) (.refl _)
        ⟨0, [], b, rfl, by simp [putNs], rfl, by simp [allP], by omega, by omega, fun f' ns' c' x y => ⟨rfl, (same f' ns' c' x y).2⟩, rfl⟩ ?_
      rintro n f' h' ⟨q, ns, r, hv', rfl, hql, hsm, hq, hrl, hin, rfl⟩
      simp only [List.map_cons, List.map_nil, List.cons.injEq, and_true] at hv'
      simp only [walk, lists, acts, mem, plain, seqs, maps, cells, resL, resV, intBin, ↓reduceIte, Nat.reduceAdd, Nat.reduceSub, Nat.reduceMul, Nat.reduceLeDiff, Nat.reduceEqDiff, Int.reduceToNat, Int.reduceEq, Int.reduceLT, Int.reduceLE, Int.reduceNeg, Int.reduceAdd, Int.reduceSub, Int.reduceMul, Nat.reducePow, Int.reduceNegSucc, wr, hv'.1, hv'.2, wForm, str]
      refine ite_lt (fun c5 => ?_) fun c5 => ?_
      · have hq2 : q < p.1.offs.length := by omega
        refine idx_leaf (i := q) ePtr_len (rpM (putNs E1 (p.1.offs.take q) ns)) rfl (by rw [List.length_map]; omega) fun b2 o2 e2 => ?_
        have hox := ho3 _ (List.getElem_mem hq2)
        have e2' : hread ((j9, blk (eForm j4 p) 85) :: (j4, blk (cTollEvent (putNs E1 (p.1.offs.take q) ns)) 74) :: (j2, blk (cTollEvent zTollEvent) 41) :: (g ++ h)) b2 o2 1 = some [.pointer (some ⟨j4, p.1.offs[q], none⟩)] := by rw [e2, List.getElem_map]; rfl
        simp only [walk, lists, acts, mem, plain, seqs, maps, cells, resL, resV, intBin, ↓reduceIte, Nat.reduceAdd, Nat.reduceSub, Nat.reduceMul, Nat.reduceLeDiff, Nat.reduceEqDiff, Int.reduceToNat, Int.reduceEq, Int.reduceLT, Int.reduceLE, Int.reduceNeg, Int.reduceAdd, Int.reduceSub, Int.reduceMul, Nat.reducePow, Int.reduceNegSucc, hread_1 e2', wForm, str]
        refine cut_c (by omega) fun w r2 fd2 hc2 => ?_
        have hab2 : w.length ≤ r.length ∧ r2.length ≤ r.length := by
          obtain ⟨_, ⟨_, h2⟩ | ⟨_, h2, h3⟩⟩ := hc2
          · rw [h2]; simp; omega
          · rw [h2, h3]; simp
        simp only [walk, lists, acts, mem, plain, seqs, maps, cells, resL, resV, intBin, ↓reduceIte, Nat.reduceAdd, Nat.reduceSub, Nat.reduceMul, Nat.reduceLeDiff, Nat.reduceEqDiff, Int.reduceToNat, Int.reduceEq, Int.reduceLT, Int.reduceLE, Int.reduceNeg, Int.reduceAdd, Int.reduceSub, Int.reduceMul, Nat.reducePow, Int.reduceNegSucc, wForm, str]
        refine number_c (gl.sub (sF _)) (by omega) fun x ok ix ha hb => ?_
        simp only [walk, lists, acts, mem, plain, seqs, maps, cells, resL, resV, intBin, ↓reduceIte, Nat.reduceAdd, Nat.reduceSub, Nat.reduceMul, Nat.reduceLeDiff, Nat.reduceEqDiff, Int.reduceToNat, Int.reduceEq, Int.reduceLT, Int.reduceLE, Int.reduceNeg, Int.reduceAdd, Int.reduceSub, Int.reduceMul, Nat.reducePow, Int.reduceNegSucc, wForm, str, ze]
        have step : ∀ f' ns' c', fitF f' ns' c' → s = lineF f' ns' c' → ∃ h : q < ns'.length, w = decI ns'[q] ∧ sm5 ns'[q] ∧ RestO (numsT (ns'.drop (q + 1)) ++ tailF f' c') r2 := fun f' ns' c' hfit hs' => by
          obtain ⟨h1, h2⟩ := hin f' ns' c' hfit hs'
          have hl' : q < ns'.length := by have := congrArg List.length h1; rw [List.length_take] at this; have h3 := (same f' ns' c' hfit hs').1; have h4 := hfit.2.1; rw [h3] at h4; omega
          have hs5 := hfit.2.2.1 _ (List.getElem_mem hl')
          rw [List.drop_eq_getElem_cons hl'] at h2
          obtain ⟨h5, h6⟩ := rest_step hs5 h2 hc2
          exact ⟨hl', h5, hs5, h6⟩
        cases ok with
        | false =>
          simp only [walk, lists, acts, mem, plain, seqs, maps, cells, resL, resV, intBin, ↓reduceIte, Nat.reduceAdd, Nat.reduceSub, Nat.reduceMul, Nat.reduceLeDiff, Nat.reduceEqDiff, Int.reduceToNat, Int.reduceEq, Int.reduceLT, Int.reduceLE, Int.reduceNeg, Int.reduceAdd, Int.reduceSub, Int.reduceMul, Nat.reducePow, Int.reduceNegSucc, wForm, str, ze, wTollEvent, e49, e29, ej', Bool.false_eq_true]
          refine ⟨h, by (repeat' first | exact Sub.refl _ | exact Sub.nil _ | assumption | refine Sub.both ?_ ?_ | refine Sub.cons_of (by simp only [subs, dg2, dg4, n4, hj2, dj, ej', n9, e49, e29]) ?_ | exact Sub.left _ _ | refine Sub.app (by simp only [subs, dg2, dg4, n4, hj2, dj, ej', n9, e49, e29]) ?_ | refine Sub.cons (by simp only [subs, dg2, dg4, n4, hj2, dj, ej', n9, e49, e29]) ?_), k _ false (.inr ⟨rfl, fun e' hf => ?_⟩)⟩
          obtain ⟨f', ns', c', hfit, he', hs'⟩ := hf
          obtain ⟨hl', h1, h2, _⟩ := step f' ns' c' hfit hs'
          obtain ⟨m, hm, hm2⟩ := sm5_nat h2
          have := (ha m (by rw [h1, hm, decI_nat]; exact numS_dec hm2)).1
          cases this
        | true =>
          have hle : (p.1.offs[q] ≤ 10) = True := eq_true (by omega)
          simp only [walk, lists, acts, mem, plain, seqs, maps, cells, resL, resV, intBin, ↓reduceIte, Nat.reduceAdd, Nat.reduceSub, Nat.reduceMul, Nat.reduceLeDiff, Nat.reduceEqDiff, Int.reduceToNat, Int.reduceEq, Int.reduceLT, Int.reduceLE, Int.reduceNeg, Int.reduceAdd, Int.reduceSub, Int.reduceMul, Nat.reducePow, Int.reduceNegSucc, wForm, str, ze, wTollEvent, e49, e29, ej', Bool.true_eq_false, hle, event_put _ _ hox.1]
          simp (disch := omega) only [wrapI]
          obtain ⟨m, hm⟩ : ∃ m, numS w = some m := Option.ne_none_iff_exists'.1 (hb rfl)
          have hxm := (ha m hm).2
          refine ⟨p.1.offs.length - (q + 1), by omega, _, .refl _, q + 1, ns ++ [x], r2, by simp, ?_, by simp [hql], ?_, by omega, by omega, fun f' ns' c' hfit hs' => ?_, rfl⟩
          · rw [List.take_succ_eq_append_getElem hq2, putNs_snoc _ _ _ (by rw [List.length_take]; omega)]
          · intro y hy
            rcases List.mem_append.1 hy with hy | hy
            · exact hsm y hy
            · rw [List.mem_singleton] at hy
              rw [hy, hxm]; exact nat_sm5 (numS_some hm).2
          · obtain ⟨hl', h1, h2, h3⟩ := step f' ns' c' hfit hs'
            refine ⟨?_, h3⟩
            rw [List.take_succ_eq_append_getElem hl', (hin f' ns' c' hfit hs').1]
            obtain ⟨m', hm', hm2⟩ := sm5_nat h2
            have := (ha m' (by rw [h1, hm', decI_nat]; exact numS_dec hm2)).2
            rw [this, hm']
      · have hq2 : q = p.1.offs.length := by omega
        subst hq2
        rw [List.take_length]
        obtain ⟨E2, hE2⟩ : ∃ E2, E2 = putNs E1 p.1.offs ns := ⟨_, rfl⟩
        rw [← hE2]
        have at2 : E2.kind = p.1.kind ∧ E2.call = zCall := by
          rw [hE2]
          obtain ⟨x1, x2⟩ := putNs_at p.1.offs ns E1 fun o ho => ⟨(ho3 o ho).2, (ho3 o ho).1⟩
          rw [x1, x2, hE1]; exact ⟨rfl, rfl⟩
        have ev2 : ∀ c, { E2 with call := c } = evF p.1 ns c := fun c => by
          rw [hE2, ← putNs_call, hE1]; rfl
        have comp : ∀ f' ns' c', fitF f' ns' c' → s = lineF f' ns' c' → f' = p.1 ∧ ns' = ns ∧ (p.1.kind = 1 → r = askC c') ∧ (p.1.kind ≠ 1 → r = []) := fun f' ns' c' hfit hs' => by
          obtain ⟨h1, h2⟩ := hin f' ns' c' hfit hs'
          obtain ⟨rfl, _⟩ := same f' ns' c' hfit hs'
          have h4 := hfit.2.1
          rw [← h4, List.take_length] at h1
          rw [← h4, List.drop_length] at h2
          obtain ⟨h5, h6⟩ := rest_end h2
          exact ⟨rfl, h1, h5, h6⟩
        have fin : ∀ c, (p.1.kind = 1 → askP c) → (p.1.kind ≠ 1 → c = zCall) → Fit { E2 with call := c } (itext { E2 with call := c }) := fun c h1 h2 => by
          have : Fit (evF p.1 ns c) (lineF p.1 ns c) := ⟨p.1, ns, c, ⟨hmem, hql, hsm, (by
            split
            · exact h1 ‹_›
            · exact h2 ‹_›)⟩, rfl, rfl⟩
          rw [ev2, itext_fit this]; exact this
        have inR : ∀ c, i64P c.slot → i64P c.to → evR { E2 with call := c } := fun c h1 h2 => by
          have := putNs_in p.1.offs ns E1 hsm (by
            have z0 : i64N 0 := ⟨by decide, by decide⟩
            rw [hE1]; have := forms_keep _ hmem; exact ⟨z0, z0, z0, ⟨by show _ ≤ p.1.keep; omega, by show p.1.keep ≤ _; omega⟩⟩)
          rw [← hE2] at this
          obtain ⟨x1, x2, x3, x4⟩ := this
          exact ⟨x1, x2, x3, x4, h1, h2⟩
        have e24 : ¬ j4 = j2 := fun e => ej' e.symm
        have eq2 : ({ E2 with call := zCall } : DTollEvent) = E2 := by rw [← at2.2]
        by_cases hk : p.1.kind = 1
        · have wf : rdFn p.1 = 50 := by unfold rdFn; rw [if_pos hk]
          rw [wf]
          have sB : Tk.Sub (g ++ h) ((j9, blk (eForm j4 p) 85) :: (j2, blk (cTollEvent zTollEvent) 41) :: (g ++ h)) := by (repeat' first | exact Sub.refl _ | exact Sub.nil _ | assumption | refine Sub.both ?_ ?_ | refine Sub.cons_of (by simp only [subs, dg2, dg4, n4, hj2, dj, ej', n9, e49, e29]) ?_ | exact Sub.left _ _ | refine Sub.app (by simp only [subs, dg2, dg4, n4, hj2, dj, ej', n9, e49, e29]) ?_ | refine Sub.cons (by simp only [subs, dg2, dg4, n4, hj2, dj, ej', n9, e49, e29]) ?_)
          have jB : hget ((j9, blk (eForm j4 p) 85) :: (j2, blk (cTollEvent zTollEvent) 41) :: (g ++ h)) j4 = none := by simp only [subs, e49, e24, dg4, n4]
          have gB := gl.sub ((Sub.right dj.2.2).trans sB)
          refine ⟨by kernel_rfl, (readCall_c gB jB at2.2 (by omega) fun c ok h1 h2 i1 i2 ht _ => ?_).weaken (by (repeat' first | exact Sub.refl _ | exact Sub.nil _ | assumption | refine Sub.both ?_ ?_ | refine Sub.cons_of (by simp only [subs, dg2, dg4, n4, hj2, dj, ej', n9, e49, e29, e24]) ?_ | exact Sub.left _ _ | refine Sub.app (by simp only [subs, dg2, dg4, n4, hj2, dj, ej', n9, e49, e29, e24]) ?_ | refine Sub.cons (by simp only [subs, dg2, dg4, n4, hj2, dj, ej', n9, e49, e29, e24]) ?_))⟩
          cases ok with
          | false =>
            simp only [walk, lists, acts, mem, plain, seqs, maps, cells, resL, resV, intBin, ↓reduceIte, Nat.reduceAdd, Nat.reduceSub, Nat.reduceMul, Nat.reduceLeDiff, Nat.reduceEqDiff, Int.reduceToNat, Int.reduceEq, Int.reduceLT, Int.reduceLE, Int.reduceNeg, Int.reduceAdd, Int.reduceSub, Int.reduceMul, Nat.reducePow, Int.reduceNegSucc, wForm, str, ze, wTollEvent, e49, e29, ej', e24, Bool.false_eq_true]
            refine ⟨h, by (repeat' first | exact Sub.refl _ | exact Sub.nil _ | assumption | refine Sub.both ?_ ?_ | refine Sub.cons_of (by simp only [subs, dg2, dg4, n4, hj2, dj, ej', n9, e49, e29, e24]) ?_ | exact Sub.left _ _ | refine Sub.app (by simp only [subs, dg2, dg4, n4, hj2, dj, ej', n9, e49, e29, e24]) ?_ | refine Sub.cons (by simp only [subs, dg2, dg4, n4, hj2, dj, ej', n9, e49, e29, e24]) ?_), k _ false (.inr ⟨rfl, fun e' hf => ?_⟩)⟩
            obtain ⟨f', ns', c', hfit, he', hs'⟩ := hf
            obtain ⟨rfl, rfl, hr, _⟩ := comp f' ns' c' hfit hs'
            have hp := hfit.2.2.2
            rw [if_pos hk] at hp
            have := (h2 c' hp (hr hk)).1
            cases this
          | true =>
            simp only [walk, lists, acts, mem, plain, seqs, maps, cells, resL, resV, intBin, ↓reduceIte, Nat.reduceAdd, Nat.reduceSub, Nat.reduceMul, Nat.reduceLeDiff, Nat.reduceEqDiff, Int.reduceToNat, Int.reduceEq, Int.reduceLT, Int.reduceLE, Int.reduceNeg, Int.reduceAdd, Int.reduceSub, Int.reduceMul, Nat.reducePow, Int.reduceNegSucc, wForm, str, ze, wTollEvent, e49, e29, ej', e24, Bool.false_eq_true]
            refine text_c (gl.sub ((Sub.right dj.2.2).trans (sB.trans (Sub.cons jB (Sub.refl _))))) (hget_same _ _ _) (inR c i1 i2) ht ?_
            simp only [walk, lists, acts, mem, plain, seqs, maps, cells, resL, resV, intBin, ↓reduceIte, Nat.reduceAdd, Nat.reduceSub, Nat.reduceMul, Nat.reduceLeDiff, Nat.reduceEqDiff, Int.reduceToNat, Int.reduceEq, Int.reduceLT, Int.reduceLE, Int.reduceNeg, Int.reduceAdd, Int.reduceSub, Int.reduceMul, Nat.reducePow, Int.reduceNegSucc, wForm, str, ze, wTollEvent, e49, e29, ej', e24, Bool.false_eq_true, strBin, el]
            refine ite_ne (fun cx => ?_) fun cx => ?_
            · refine ⟨h, by (repeat' first | exact Sub.refl _ | exact Sub.nil _ | assumption | refine Sub.both ?_ ?_ | refine Sub.cons_of (by simp only [subs, dg2, dg4, n4, hj2, dj, ej', n9, e49, e29, e24]) ?_ | exact Sub.left _ _ | refine Sub.app (by simp only [subs, dg2, dg4, n4, hj2, dj, ej', n9, e49, e29, e24]) ?_ | refine Sub.cons (by simp only [subs, dg2, dg4, n4, hj2, dj, ej', n9, e49, e29, e24]) ?_), k _ false (.inr ⟨rfl, fun e' hf => ?_⟩)⟩
              obtain ⟨f', ns', c', hfit, he', hs'⟩ := hf
              obtain ⟨rfl, rfl, hr, _⟩ := comp f' ns' c' hfit hs'
              have hp := hfit.2.2.2
              rw [if_pos hk] at hp
              have hcc := (h2 c' hp (hr hk)).2
              rw [hcc, ev2, itext_fit ⟨p.1, ns', c', hfit, rfl, rfl⟩] at cx
              exact cx hs'.symm
            · have ff := fin c (fun _ => h1 rfl) (fun x => absurd hk x)
              rw [cx] at ff
              refine ⟨h, by (repeat' first | exact Sub.refl _ | exact Sub.nil _ | assumption | refine Sub.both ?_ ?_ | refine Sub.cons_of (by simp only [subs, dg2, dg4, n4, hj2, dj, ej', n9, e49, e29, e24]) ?_ | exact Sub.left _ _ | refine Sub.app (by simp only [subs, dg2, dg4, n4, hj2, dj, ej', n9, e49, e29, e24]) ?_ | refine Sub.cons (by simp only [subs, dg2, dg4, n4, hj2, dj, ej', n9, e49, e29, e24]) ?_), k { E2 with call := c } true (.inl ⟨rfl, ff⟩)⟩
        · have wf : rdFn p.1 = 52 := by unfold rdFn; rw [if_neg hk]
          rw [wf]
          refine ⟨by kernel_rfl, nothing_c ?_⟩
          simp only [walk, lists, acts, mem, plain, seqs, maps, cells, resL, resV, intBin, ↓reduceIte, Nat.reduceAdd, Nat.reduceSub, Nat.reduceMul, Nat.reduceLeDiff, Nat.reduceEqDiff, Int.reduceToNat, Int.reduceEq, Int.reduceLT, Int.reduceLE, Int.reduceNeg, Int.reduceAdd, Int.reduceSub, Int.reduceMul, Nat.reducePow, Int.reduceNegSucc, wForm, str, ze, wTollEvent, e49, e29, ej', e24, Bool.false_eq_true]
          refine ite_ne (fun c0 => ?_) fun c0 => ?_
          · refine ⟨h, by (repeat' first | exact Sub.refl _ | exact Sub.nil _ | assumption | refine Sub.both ?_ ?_ | refine Sub.cons_of (by simp only [subs, dg2, dg4, n4, hj2, dj, ej', n9, e49, e29, e24]) ?_ | exact Sub.left _ _ | refine Sub.app (by simp only [subs, dg2, dg4, n4, hj2, dj, ej', n9, e49, e29, e24]) ?_ | refine Sub.cons (by simp only [subs, dg2, dg4, n4, hj2, dj, ej', n9, e49, e29, e24]) ?_), k _ false (.inr ⟨rfl, fun e' hf => ?_⟩)⟩
            obtain ⟨f', ns', c', hfit, he', hs'⟩ := hf
            obtain ⟨rfl, rfl, _, hr⟩ := comp f' ns' c' hfit hs'
            exact c0 (hr hk)
          · have z0 : i64P 0 := ⟨by decide, by decide⟩
            have ir := inR zCall z0 z0
            rw [eq2] at ir
            refine text_c (gl.sub (sF _)) (by simp only [subs, e49]) ir (by rw [at2.2]; decide) ?_
            simp only [walk, lists, acts, mem, plain, seqs, maps, cells, resL, resV, intBin, ↓reduceIte, Nat.reduceAdd, Nat.reduceSub, Nat.reduceMul, Nat.reduceLeDiff, Nat.reduceEqDiff, Int.reduceToNat, Int.reduceEq, Int.reduceLT, Int.reduceLE, Int.reduceNeg, Int.reduceAdd, Int.reduceSub, Int.reduceMul, Nat.reducePow, Int.reduceNegSucc, wForm, str, ze, wTollEvent, e49, e29, ej', e24, Bool.false_eq_true, strBin, el]
            refine ite_ne (fun cx => ?_) fun cx => ?_
            · refine ⟨h, by (repeat' first | exact Sub.refl _ | exact Sub.nil _ | assumption | refine Sub.both ?_ ?_ | refine Sub.cons_of (by simp only [subs, dg2, dg4, n4, hj2, dj, ej', n9, e49, e29, e24]) ?_ | exact Sub.left _ _ | refine Sub.app (by simp only [subs, dg2, dg4, n4, hj2, dj, ej', n9, e49, e29, e24]) ?_ | refine Sub.cons (by simp only [subs, dg2, dg4, n4, hj2, dj, ej', n9, e49, e29, e24]) ?_), k _ false (.inr ⟨rfl, fun e' hf => ?_⟩)⟩
              obtain ⟨f', ns', c', hfit, he', hs'⟩ := hf
              obtain ⟨rfl, rfl, _, _⟩ := comp f' ns' c' hfit hs'
              have hp := hfit.2.2.2
              rw [if_neg hk] at hp
              have := itext_fit ⟨p.1, ns', c', hfit, rfl, rfl⟩
              rw [hp, ← ev2, eq2] at this
              rw [this, ← hp] at cx
              exact cx hs'.symm
            · have ff := fin zCall (fun x => absurd x hk) (fun _ => rfl)
              rw [eq2, cx] at ff
              refine ⟨h, by (repeat' first | exact Sub.refl _ | exact Sub.nil _ | assumption | refine Sub.both ?_ ?_ | refine Sub.cons_of (by simp only [subs, dg2, dg4, n4, hj2, dj, ej', n9, e49, e29, e24]) ?_ | exact Sub.left _ _ | refine Sub.app (by simp only [subs, dg2, dg4, n4, hj2, dj, ej', n9, e49, e29, e24]) ?_ | refine Sub.cons (by simp only [subs, dg2, dg4, n4, hj2, dj, ej', n9, e49, e29, e24]) ?_), k E2 true (.inl ⟨rfl, ff⟩)⟩
  · simp only [walk, lists, acts, mem, plain, seqs, maps, cells, resL, resV, intBin, ↓reduceIte, Nat.reduceAdd, Nat.reduceSub, Nat.reduceMul, Nat.reduceLeDiff, Nat.reduceEqDiff, Int.reduceToNat, Int.reduceEq, Int.reduceLT, Int.reduceLE, Int.reduceNeg, Int.reduceAdd, Int.reduceSub, Int.reduceMul, Nat.reducePow, Int.reduceNegSucc, str, ze, wTollEvent, ej']
    have hi2 : i = 10 := by omega
    subst hi2
    refine ⟨h, by (repeat' first | exact Sub.refl _ | exact Sub.nil _ | assumption | refine Sub.both ?_ ?_ | refine Sub.cons_of (by simp only [subs, dg2, dg4, n4, hj2, dj, ej']) ?_ | exact Sub.left _ _ | refine Sub.app (by simp only [subs, dg2, dg4, n4, hj2, dj, ej']) ?_ | refine Sub.cons (by simp only [subs, dg2, dg4, n4, hj2, dj, ej']) ?_), k _ false (.inr ⟨rfl, fun e' hf => ?_⟩)⟩
    obtain ⟨f', ns', c', hfit, he', hs'⟩ := hf
    obtain ⟨y, hy, hno, _⟩ := line_cut hfit
    obtain ⟨ha, _, _⟩ := hc.at (hs'.trans hy) hno
    exact hn f' (by simpa [forms] using hfit.1) ha.symm
end Go.Proofs.YtdlgaidjlepepaaDoor
end

/- The library's cuts of texts into rows. -/
section
set_option linter.unusedVariables false
set_option linter.unusedSimpArgs false
set_option maxRecDepth 20000
attribute [local irreducible] Go.Tk.vc Go.Tk.vops Go.Tk.vdr Go.Tk.vop Go.Tk.vfl Go.Tk.HCalls
namespace Go.Tk
open Go
theorem idx1 (s : List UInt8) (c : UInt8) : Lib.indexB ⟨s.toArray⟩ ⟨#[c]⟩ = Lib.indexByte s c := Lib.index_one s c
theorem split_lib (c : UInt8) : ∀ (n : Nat) (s : List UInt8), s.length ≤ n → (Lib.splitB ⟨#[c]⟩ 0 (Lib.countB ⟨s.toArray⟩ ⟨#[c]⟩) ⟨s.toArray⟩).map (fun b => b.data.toList) = splitB c s := by
  intro n
  induction n with
  | zero =>
    intro s hs
    have : s = [] := List.length_eq_zero_iff.1 (by omega)
    subst this
    have hm : Lib.indexB ⟨([] : List UInt8).toArray⟩ ⟨#[c]⟩ = -1 := by rw [idx1]; rfl
    rw [Lib.splitB_miss _ _ _ _ hm]
    rfl
  | succ n ih =>
    intro s hs
    obtain ⟨a, b, f, hc, hi⟩ := index_cut c s
    rw [← idx1] at hi
    cases f with
    | false =>
      rw [if_neg (by decide)] at hi
      rw [Lib.splitB_miss _ _ _ _ hi]
      obtain ⟨h1, ⟨h, _⟩ | ⟨_, h2, _⟩⟩ := hc
      · cases h
      · subst h2
        rw [splitB_none h1]; rfl
    | true =>
      rw [if_pos rfl] at hi
      obtain ⟨h1, ⟨_, h2⟩ | ⟨h, _⟩⟩ := hc
      · have e1 : ((⟨s.toArray⟩ : ByteArray).extract (a.length + (⟨#[c]⟩ : ByteArray).size) (⟨s.toArray⟩ : ByteArray).size) = ⟨b.toArray⟩ := by
          apply ByteArray.ext
          rw [ByteArray.data_extract]
          apply Array.ext'
          rw [Array.toList_extract]
          show (s.drop (a.length + 1)).take (s.length - (a.length + 1)) = b
          have e3 : s.drop (a.length + 1) = b := by rw [h2]; simp
          rw [e3, h2]
          exact List.take_of_length_le (by simp only [List.length_append, List.length_cons]; omega)
        have e2 : ((⟨s.toArray⟩ : ByteArray).extract 0 (a.length + 0)).data.toList = a := by
          rw [ByteArray.data_extract, Array.toList_extract]
          show (s.drop 0).take (a.length + 0 - 0) = a
          rw [h2]; simp
        rw [Lib.countB_hit ⟨s.toArray⟩ ⟨#[c]⟩ a.length (Nat.le_refl 1) hi, Nat.add_comm, Lib.splitB_hit _ _ _ _ _ hi, e1, List.map_cons, e2, ih b (by rw [h2, List.length_append, List.length_cons] at hs; omega), h2, splitB_app b h1]
      · cases h
theorem fl_eT : ∀ l : List (List UInt8), fl eT l = l.map fun t => .string ⟨t.toArray⟩ := by
  intro l
  induction l with
  | nil => rfl
  | cons a l ih => rw [fl_cons, ih]; rfl
end Go.Tk
namespace Go.Proofs.YtdlgaidjlepepaaDoor
open Go Go.Tk Go.RowKit

/-- Some number stands where the library keeps how long a short text is. -/
def MxL (h : H) : Prop := ∃ c e f m, hget h 0 = some (.cells c e f) ∧ c[0]? = some (.int .i64 m)
theorem MxL.sub {g h : H} (k : MxL g) (s : Tk.Sub g h) : MxL h := by
  obtain ⟨c, e, f, m, h1, h2⟩ := k
  exact ⟨c, e, f, m, s _ _ h1, h2⟩
theorem mxl_of {w : World} (h : w.ShapedOpen Tryd.prog) : MxL (full w) := by
  obtain ⟨m, hm⟩ := Go.Proofs.cell_of_shapedOpen_int (g := 0) (k := .i64) (zero := #[.int .i64 0]) (t := 3) h (of_decide_eq_true (by kernel_rfl)) (by kernel_rfl) rfl (by kernel_rfl) (by kernel_rfl) Tryd.underlying3
  obtain ⟨b, off, c, e, f, h1, h2, h3⟩ := cell_plain hm
  cases h1
  exact ⟨c, e, f, m, by rw [hget_full]; exact h2, by simpa using h3⟩

theorem split_c {h : H} {s : List UInt8} {c : UInt8} (gm : MxL h) (hs : s.length ≤ 4194304) {R : Ending → H → Prop} (k : ∀ v g, oLs 9 eT 1 v (splitB c s) g → Dj g h → R (.returned v) (g ++ h)) :
    HCalls Tryd.prog 40 #[.string ⟨s.toArray⟩, .string ⟨#[c]⟩] h R := by
  refine .of_calls fun w sa => ?_
  obtain ⟨cs, e, f, m, h1, h2⟩ := gm
  have hc : w.cell? ⟨0, 0, none⟩ = some (.int .i64 m) := by
    have := sa _ _ h1
    simp only [World.cell?, this, Option.isSome_none, Bool.false_eq_true, if_false, h2]
  have hz : (⟨s.toArray⟩ : ByteArray).size = s.length := rfl
  refine (Tryd.strings_Split ⟨s.toArray⟩ ⟨#[c]⟩ m w (by rw [hz]; omega) hc (Nat.le_refl 1)).mono ?_
  rintro e' w' ⟨rfl, hw⟩
  have hl := split_lib c s.length s (Nat.le_refl _)
  have hv : ((Lib.splitB ⟨#[c]⟩ 0 (Lib.countB ⟨s.toArray⟩ ⟨#[c]⟩) ⟨s.toArray⟩).map Value.string) = fl eT (splitB c s) := by
    rw [fl_eT, ← hl, List.map_map]
    apply List.map_congr_left
    intro x _
    rfl
  have hn : Lib.countB ⟨s.toArray⟩ ⟨#[c]⟩ + 1 = (splitB c s).length := by
    rw [← Lib.splitB_all ⟨#[c]⟩ (Nat.le_refl 1) 0 _ ⟨s.toArray⟩ rfl, ← hl, List.length_map]
  rw [hv] at hw
  rw [hn]
  have hnew : hget h w.heap.size = none := by
    cases e : hget h w.heap.size with
    | none => rfl
    | some o => exact absurd (sa.lt (by rw [e]; simp)) (by omega)
  have := k (.slice (some ⟨w.heap.size, 0, none⟩) (splitB c s).length (splitB c s).length) [(w.heap.size, blk (fl eT (splitB c s)) 9)] (oLs_new eT_len) (by simp only [subs, hnew])
  exact ⟨_, this, Pst.push sa (blk (fl eT (splitB c s)) 9) hw⟩

end Go.Proofs.YtdlgaidjlepepaaDoor
end

/- A range over a function; functions that hold one. -/
section
set_option linter.unusedVariables false
set_option linter.unusedSimpArgs false
namespace Go.Tk
open Go

theorem cc_seq_inv {P : Program} {c : Code} {A B : C} (h : cc P c = .seq A B) : ∃ a b, c = .seq a b ∧ cc P a = A ∧ cc P b = B := by
  cases c <;> simp only [cc] at h <;> try cases h
  case seq a b => exact ⟨a, b, rfl, rfl, rfl⟩
  case region => split at h <;> (try split at h) <;> (try split at h) <;> cases h
theorem cc_block_inv {P : Program} {c : Code} {i : Nat} {A : C} (h : cc P c = .block i A) : ∃ a, c = .block i a ∧ cc P a = A := by
  cases c <;> simp only [cc] at h <;> try cases h
  case block => exact ⟨_, rfl, rfl⟩
  case region => split at h <;> (try split at h) <;> (try split at h) <;> cases h
theorem cc_rng_inv {P : Program} {c : Code} {g : Operand} {ps : List Nat} {A B : C} (h : cc P c = .rng g ps A B) : ∃ qs a b, c = .rangeFunc g qs a b ∧ qs.toList = ps ∧ cc P a = A ∧ cc P b = B := by
  cases c <;> simp only [cc] at h <;> try cases h
  case rangeFunc => exact ⟨_, _, _, rfl, rfl, rfl, rfl⟩
  case region => split at h <;> (try split at h) <;> (try split at h) <;> cases h

/-- A round's code: in its order, without defer statements. -/
def plainR (P : Program) : Code → Bool
  | .skip | .exit _ | .ret => true
  | .region _ ops draw => !draw && (cns P ops ops.toList).isSome && ops.toList.all fun o => !defersB o.op
  | .seq a b | .cond _ a b => plainR P a && plainR P b
  | .block _ c | .loop c => plainR P c
  | _ => false

theorem vc_soundR {ro : Option Nat} {ds : List Deferred} {P : Program} : ∀ (c : Code) (env : List Value) (h : H) (K : KK), plainR P c = true → vc P (cc P c) env h K → HC ro P c (envQ ds K) ⟨env.toArray, ds⟩ h := by
  intro c
  induction c with
  | skip => intro env h K _ hv; exact HC_skip ⟨env, rfl, hv⟩
  | exit id => intro env h K _ hv; exact HC_exit ⟨env, rfl, hv⟩
  | ret => intro env h K _ hv; exact HC_ret ⟨env, rfl, hv⟩
  | region id ops draw =>
    intro env h K hp hv
    simp only [plainR, Bool.and_eq_true, Bool.not_eq_true'] at hp
    obtain ⟨⟨rfl, h2⟩, h3⟩ := hp
    obtain ⟨l, hl⟩ := Option.isSome_iff_exists.1 h2
    simp only [cc, hl] at hv
    refine (HC_region (Q := fun e => dP (envQ ds K e)) (fun o ho => .inr ?_) (vops_sound _ _ _ _ hl hv)).drop
    simpa using List.all_eq_true.1 h3 o ho
  | seq a b iha ihb =>
    intro env h K hp hv
    simp only [plainR, Bool.and_eq_true] at hp
    simp only [cc, vc] at hv
    refine HC_seq ((iha env h _ hp.1 hv).mono ?_)
    rintro e a' h' ⟨env', rfl, hk⟩
    cases e <;> simp only at hk <;> simp only [seqK]
    case normal => exact ihb env' h' K hp.2 hk
    all_goals exact ⟨env', rfl, hk⟩
  | cond x a b iha ihb =>
    intro env h K hp hv
    simp only [plainR, Bool.and_eq_true] at hp
    simp only [cc, vc] at hv
    split at hv
    · rename_i t ht
      refine HC_cond (t := t) (by rw [eval_evl]; exact ht) ?_
      cases t
      · exact ihb env h K hp.2 hv
      · exact iha env h K hp.1 hv
    · exact hv.elim
  | block id c ih =>
    intro env h K hp hv
    simp only [plainR] at hp
    simp only [cc, vc] at hv
    refine HC_block ((ih env h _ hp hv).mono ?_)
    rintro e a' h' ⟨env', rfl, hk⟩
    cases e <;> simp only at hk <;> simp only [blkK]
    case exit id' =>
      split
      · rename_i e; rw [if_pos e] at hk; exact ⟨env', rfl, hk⟩
      · rename_i e; rw [if_neg e] at hk; exact ⟨env', rfl, hk⟩
    all_goals exact ⟨env', rfl, hk⟩
  | loop c ih =>
    intro env h K hp hv
    simp only [plainR] at hp
    simp only [cc, vc] at hv
    obtain ⟨J, n, ⟨g0, sb0, h0⟩, hr⟩ := hv
    refine HC_loop (fun n a h => ∃ env, a = ⟨env.toArray, ds⟩ ∧ ∃ g, Sub g h ∧ J n env g) n ⟨env, rfl, g0, sb0, h0⟩ ?_
    rintro n a h ⟨env, rfl, g, sb, hj⟩
    refine (HC.weaken sb (ih env g _ hp (hr n env g hj))).mono ?_
    rintro e a' h' ⟨env', rfl, hk⟩
    cases e <;> simp only [loopC] at hk <;> simp only [seqK]
    case normal => obtain ⟨m, hm, hj⟩ := hk; exact ⟨m, hm, env', rfl, hj⟩
    all_goals exact ⟨env', rfl, hk⟩
  | _ => intro env h K hp; cases hp

theorem Pst.put {h : H} {w : World} (s : Sat h w) {i : Nat} {o x : Obj} (hx : hget h i = some x) : Pst h w (hupd h i o) (w.putObj i o) := by
  have hlt : i < w.heap.size := s.lt (by rw [hx]; simp)
  exact Pst.upd s hx (World.putObj_heap_same hlt) (fun j hj => World.putObj_heap_other hj) rfl rfl rfl (by simp)

/-- What a round is to leave. -/
def roundQ (l : Nat) (R : Ending → H → Prop) : Exit → Act → H → Prop
  | .normal, _, h => ∃ r, hget h l = some (.loop r) ∧ R (.returned (.bool true)) (hupd h l (.loop { r with state := .ready, pending := none }))
  | .ret, _, h => ∃ r, hget h l = some (.loop r) ∧ R (.returned (.bool false)) (hupd h l (.loop { r with state := .done, pending := some .ret }))
  | _, _, _ => False
def beginQ (P : Program) (l : Nat) (body : Code) (R : Ending → H → Prop) : Exit → Act → H → Prop
  | .normal, a, h => ∃ r, hget h l = some (.loop r) ∧ r.state = .ready ∧ HC (some l) P body (roundQ l R) a (hupd h l (.loop { r with state := .busy }))
  | _, _, _ => False
theorem HRound_of {P : Program} {l : Nat} {f : FuncId} {tmps : Array Value} {assign body : Code} {h : H} {R : Ending → H → Prop} (k : HC (some l) P assign (beginQ P l body R) ⟨tmps, []⟩ h) : HRound P l f tmps assign body h R := by
  intro w s
  refine roundIn_of_wpIn trivial (wpIn_mono (k h w w (.refl s)) ?_)
  rintro e a w1 ⟨h1, q, p1⟩
  cases e <;> simp only [beginQ] at q <;> simp only [Exit.then]
  case normal =>
    obtain ⟨r, h2, h3, q⟩ := q
    refine ⟨_, run_beginRound (p1.sat _ _ h2) h3, ?_⟩
    have p2 := p1.trans (Pst.put (o := .loop { r with state := .busy }) p1.sat h2)
    refine wpIn_mono (q h w _ p2) ?_
    rintro e a w3 ⟨h4, q4, p4⟩
    cases e <;> simp only [roundQ] at q4 <;> simp only [roundPost]
    case normal =>
      obtain ⟨r, h5, q5⟩ := q4
      exact ⟨_, _, run_endRound none (p4.sat _ _ h5), _, q5, p4.trans (Pst.put p4.sat h5)⟩
    case ret =>
      obtain ⟨r, h5, q5⟩ := q4
      exact ⟨_, _, run_endRound (some .ret) (p4.sat _ _ h5), _, q5, p4.trans (Pst.put p4.sat h5)⟩
  all_goals exact q.elim

/-- Behind the range. -/
def rangeK (l : Nat) (Q : Exit → Act → H → Prop) (a : Act) : Ending → H → Prop
  | .returned _, h => ∃ r, hget h l = some (.loop r) ∧ r.state ≠ .busy ∧ (match r.pending with
    | none => Q .normal a (hupd h l (.loop { r with state := .exhausted }))
    | some .ret => Q .ret a (hupd h l (.loop { r with state := .exhausted }))
    | _ => False)
  | .panicked c, h => Q (.panic c) a h
  | .outgrown, _ => False

theorem HC_range {P : Program} {g : Operand} {ps : Array Nat} {assign body : Code} {Q : Exit → Act → H → Prop} {a : Act} {h : H} {f : FuncId} {fi ca : Array Value} (hg : a.eval g = .func (.func f) fi ca) (hc : callOk P f = true)
    (k : ∀ fn D l, hget h D = none → hget h l = none → l ≠ D → HCalls P f (fi ++ #[.func (.yield l) #[] #[]] ++ ca) ((l, .loop { state := .ready, pending := none, fn := fn, tmps := a.tmps, params := ps, assign := assign, body := body, defers := D }) :: (D, .deferred (some [])) :: h)
      (rangeK l Q { a with defers := { target := .collected D, args := #[] } :: a.defers })) : HC none P (.rangeFunc g ps assign body) Q a h := by
  intro h0 w0 w p
  refine wpIn_rangeFunc fun fn _ => ?_
  have hD : hget h w.heap.size = none := by
    cases e : hget h w.heap.size with
    | none => rfl
    | some x => exact absurd (p.sat.lt (by rw [e]; simp)) (Nat.lt_irrefl _)
  have hl : hget h (w.heap.size + 1) = none := by
    cases e : hget h (w.heap.size + 1) with
    | none => rfl
    | some x => have := p.sat.lt (i := w.heap.size + 1) (by rw [e]; simp); omega
  have p1 := p.trans (Pst.push p.sat (.deferred (some [])) rfl)
  have p2 := p1.trans (Pst.push p1.sat (.loop { state := .ready, pending := none, fn := fn, tmps := a.tmps, params := ps, assign := assign, body := body, defers := w.heap.size }) rfl)
  have hsz : (w.heap.push (.deferred (some []))).size = w.heap.size + 1 := by simp
  rw [hsz] at p2
  obtain ⟨h2, hh2⟩ : ∃ h2, h2 = (w.heap.size + 1, Obj.loop { state := .ready, pending := none, fn := fn, tmps := a.tmps, params := ps, assign := assign, body := body, defers := w.heap.size }) :: (w.heap.size, .deferred (some [])) :: h := ⟨_, rfl⟩
  rw [← hh2] at p2
  have inv := SH_sound (callFunc f (fi ++ #[.func (.yield (w.heap.size + 1)) #[] #[]] ++ ca)) (P := P) (h := h2) (Q := fun n h' => n = .enter f (fi ++ #[.func (.yield (w.heap.size + 1)) #[] #[]] ++ ca) ∧ h' = h2) (E := fun _ _ => False) (by rw [callFunc_SH hc]; exact ⟨rfl, rfl⟩) p2.sat
  rcases inv with inv | ⟨_, _, _, _, x, _⟩
  rotate_left
  · exact x.elim
  obtain ⟨n2, w2, h3, hrun, ⟨hn2, hh3⟩, p3⟩ := inv
  rw [hn2] at hrun
  rw [hh3] at p3
  have p4 := p2.trans p3
  refine ⟨w.heap.size + 1, [{ target := .collected w.heap.size, args := #[] }], (w.alloc (.deferred (some []))).alloc (.loop { state := .ready, pending := none, fn := fn, tmps := a.tmps, params := ps, assign := assign, body := body, defers := w.heap.size }),
    { target := .fn (.func f) ca, args := fi ++ #[.func (.yield (w.heap.size + 1)) #[] #[]] }, _, f, _, w2, run_enterLoop_outer fn a.tmps ps assign body, ?_, fun _ _ => trivial, hrun, fun hd => by simp [FR, Fence.wide] at hd, ?_⟩
  · unfold resolve rangeCall
    simp only [hg, Deferred.ofValue, Sem.run_bind, Sem.run_pure, Result.andThen]
    rw [show Array.map a.eval #[Operand.const (Value.func (Fn.yield (w.heap.size + 1)) #[] #[])] = #[Value.func (Fn.yield (w.heap.size + 1)) #[] #[]] from by simp [Act.eval]]
    rfl
  · refine callsIn_wide.2 ?_
    have c := k fn w.heap.size (w.heap.size + 1) hD hl (by omega)
    rw [← hh2] at c
    refine Calls.mono (c w2 p4.sat) ?_
    rintro e w5 ⟨h5, r, p5⟩
    have p6 := p4.trans p5
    cases e with
    | returned v =>
      obtain ⟨q, h6, h7, r⟩ := r
      refine ⟨q.pending, _, run_endLoop (p6.sat _ _ h6) h7, ?_⟩
      have p7 := p6.trans (Pst.put (o := .loop { q with state := .exhausted }) p6.sat h6)
      split at r
      · rename_i e; rw [e] at r p7 ⊢; exact ⟨_, r, p7⟩
      · rename_i e; rw [e] at r p7 ⊢; exact wpIn_ret ⟨_, r, p7⟩
      · exact r.elim
    | panicked c => exact ⟨_, r, p6⟩
    | outgrown => exact r.elim

/-- How the body of a function that holds one range ends. -/
def bodyM (P : Program) (fn : Func) (R : Ending → H → Prop) : Exit → Act → H → Prop
  | .normal, a, h | .ret, a, h => (a.defers = [] ∧ ∃ v, evH P (results fn a.tmps) h = some v ∧ R (.returned v) h) ∨
      ∃ D, a.defers = [{ target := .collected D, args := #[] }] ∧ hget h D = some (.deferred (some [])) ∧ ∃ v, evH P (results fn a.tmps) (hupd h D (.deferred none)) = some v ∧ R (.returned v) (hupd h D (.deferred none))
  | _, _, _ => False
theorem HCalls_bodyM {P : Program} {f : FuncId} {fn : Func} {c : Code} {args : Array Value} {h : H} {R : Ending → H → Prop} (hf : P.funcs[f]? = some fn) (hb : fn.body = some c)
    (k : HC none P c (bodyM P fn R) { tmps := args ++ Array.replicate (fn.ntmps - args.size) undef, defers := [] } h) : HCalls P f args h R := by
  intro w s
  refine callsIn_wide.1 (callsIn_of_wp_marks (n := 0) hf hb trivial (wpIn_mono (k h w w (.refl s)) ?_))
  rintro e a w' ⟨h', q, p⟩
  have fin : ((a.defers = [] ∧ ∃ v, evH P (results fn a.tmps) h' = some v ∧ R (.returned v) h') ∨
      ∃ D, a.defers = [{ target := .collected D, args := #[] }] ∧ hget h' D = some (.deferred (some [])) ∧ ∃ v, evH P (results fn a.tmps) (hupd h' D (.deferred none)) = some v ∧ R (.returned v) (hupd h' D (.deferred none))) →
      LeavesInM Fence.wide 0 P fn a.tmps (fun e w' => ∃ h', R e h' ∧ Pst h w h' w') a.defers .returning w' := by
    rintro (⟨hd, v, hr, r⟩ | ⟨D, hd, hD, v, hr, r⟩)
    · rw [hd]
      exact ⟨v, evH_run _ p.sat hr, h', r, p⟩
    · rw [hd]
      have p2 := p.trans (Pst.put (o := .deferred none) p.sat hD)
      exact ⟨by simp, .inl ⟨D, _, rfl, run_takeDeferred (p.sat _ _ hD), v, evH_run _ p2.sat hr, _, r, p2⟩⟩
  cases e <;> simp only [bodyM] at q <;> simp only [bodyPostM]
  case normal => exact fin q
  case ret => exact fin q
  all_goals exact q.elim

/-! ### A body cut into its parts -/

def rngOk (P : Program) : Code → Bool
  | .seq a b | .cond _ a b => rngOk P a && rngOk P b
  | .block _ c | .loop c => rngOk P c
  | .rangeFunc _ _ a b => plainR P a && plainR P b
  | _ => true
theorem irOf_inv {P : Program} {fn : Func} {T : C} {rs : List RV} {n : Nat} (hi : irOf P fn = some ⟨T, rs, n⟩) : ∃ c, fn.body = some c ∧ cc P c = T ∧ crvs P fn.results.toList = some rs ∧ fn.ntmps = n := by
  unfold irOf at hi
  split at hi
  · rename_i c rs' hb hr
    simp only [Option.some.injEq, IR.mk.injEq] at hi
    exact ⟨c, hb, hi.1, hr.trans (by rw [hi.2.1]), hi.2.2⟩
  · cases hi
/-- What a part leaves to the next one. -/
def tok (ro : Option Nat) (P : Program) (ds : List Deferred) (b : Code) (Q : Exit → Act → H → Prop) : KK := fun e env h => seqK (HC ro P b Q) Q e ⟨env.toArray, ds⟩ h
def toQ (ds : List Deferred) (Q : Exit → Act → H → Prop) : KK := fun e env h => Q e ⟨env.toArray, ds⟩ h
theorem toks : (∀ ro P ds b Q env h, tok ro P ds b Q .normal env h = HC ro P b Q ⟨env.toArray, ds⟩ h) ∧ (∀ ro P ds b Q env h, tok ro P ds b Q .ret env h = Q .ret ⟨env.toArray, ds⟩ h) ∧ (∀ ds Q e env h, toQ ds Q e env h = Q e ⟨env.toArray, ds⟩ h) :=
  ⟨fun _ _ _ _ _ _ _ => rfl, fun _ _ _ _ _ _ _ => rfl, fun _ _ _ _ _ => rfl⟩
theorem HC_vseq {P : Program} {ds : List Deferred} {a b : Code} {A : C} {env : List Value} {h : H} {Q : Exit → Act → H → Prop} (ha : cc P a = A) (hv : vc P A env h (tok none P ds b Q)) : HC none P (.seq a b) Q ⟨env.toArray, ds⟩ h := by
  subst ha
  refine HC_seq ((vc_sound (ds := ds) a env h _ hv).mono ?_)
  rintro e a' h' ⟨env', rfl, hk⟩
  exact hk
theorem HC_vc {P : Program} {ds : List Deferred} {a : Code} {A : C} {env : List Value} {h : H} {Q : Exit → Act → H → Prop} (ha : cc P a = A) (hv : vc P A env h (toQ ds Q)) : HC none P a Q ⟨env.toArray, ds⟩ h := by
  subst ha
  refine (vc_sound (ds := ds) a env h _ hv).mono ?_
  rintro e a' h' ⟨env', rfl, hk⟩
  exact hk
theorem HC_vr {ro : Option Nat} {P : Program} {ds : List Deferred} {a : Code} {A : C} {env : List Value} {h : H} {Q : Exit → Act → H → Prop} (hp : plainR P a = true) (ha : cc P a = A) (hv : vc P A env h (toQ ds Q)) : HC ro P a Q ⟨env.toArray, ds⟩ h := by
  subst ha
  refine (vc_soundR (ds := ds) a env h _ hp hv).mono ?_
  rintro e a' h' ⟨env', rfl, hk⟩
  exact hk
theorem bodyM_nil {P : Program} {fn : Func} {rs : List RV} {env : List Value} {h : H} {R : Ending → H → Prop} (hc : crvs P fn.results.toList = some rs) (he : endV R h (resL env h rs)) : bodyM P fn R .ret ⟨env.toArray, []⟩ h := .inl ⟨rfl, results_sound hc he⟩
theorem bodyM_mark {P : Program} {fn : Func} {rs : List RV} {env : List Value} {h : H} {R : Ending → H → Prop} {D : Nat} (hD : hget h D = some (.deferred (some []))) (hc : crvs P fn.results.toList = some rs) (he : endV R (hupd h D (.deferred none)) (resL env (hupd h D (.deferred none)) rs)) :
    bodyM P fn R .ret ⟨env.toArray, [{ target := .collected D, args := #[] }]⟩ h := .inr ⟨D, rfl, hD, results_sound hc he⟩
theorem HCalls_bodyL {P : Program} {f : FuncId} {fn : Func} {c : Code} {args : List Value} {n : Nat} {h : H} {R : Ending → H → Prop} (hf : P.funcs[f]? = some fn) (hb : fn.body = some c) (hn : fn.ntmps = n)
    (k : HC none P c (bodyM P fn R) ⟨(args ++ List.replicate (n - args.length) undef).toArray, []⟩ h) : HCalls P f args.toArray h R := by
  refine HCalls_bodyM hf hb ?_
  rw [show args.toArray ++ Array.replicate (fn.ntmps - args.toArray.size) undef = (args ++ List.replicate (n - args.length) undef).toArray from by subst hn; apply Array.ext'; simp]
  exact k
end Go.Tk
end

/- What lies beside a part stays. -/
section
set_option linter.unusedVariables false
set_option linter.unusedSimpArgs false
namespace Go.Tk
open Go

theorem Pst.frame {g h h' : H} {w w' : World} (d : Dj g h) (s : Sat g w) (p : Pst h w h' w') : Pst (g ++ h) w (g ++ h') w' ∧ Dj g h' := by
  have hd : Dj g h' := fun i hi => by
    cases e : hget h' i with
    | none => rfl
    | some o =>
      rcases p.new i (by rw [e]; simp) with x | x
      · exact absurd (d i hi) x
      · have := s.lt hi; omega
  refine ⟨⟨fun i o hi => ?_, p.os, p.tape, p.output, p.size, fun i hi hn => ?_, fun i hi => ?_⟩, hd⟩
  · rw [hget_app] at hi
    cases e : hget g i with
    | none => rw [e] at hi; exact p.sat i o hi
    | some x =>
      rw [e] at hi
      have hi : x = o := by simpa using hi
      subst hi
      rw [p.keep i (s.lt (by rw [e]; simp)) (d i (by rw [e]; simp))]
      exact s i x e
  · rw [hget_app] at hn
    cases e : hget g i with
    | none => rw [e] at hn; exact p.keep i hi hn
    | some x => rw [e] at hn; cases hn
  · rw [hget_app] at hi ⊢
    cases e : hget g i with
    | none =>
      rw [e] at hi
      rcases p.new i hi with x | x
      · exact .inl x
      · exact .inr x
    | some x => exact .inl (by simp)
theorem Sat.left {g h : H} {w : World} (s : Sat (g ++ h) w) : Sat g w := fun i o hi => s i o (by rw [hget_app, hi]; rfl)
theorem Sat.right {g h : H} {w : World} (d : Dj g h) (s : Sat (g ++ h) w) : Sat h w := fun i o hi => s i o (Sub.right d i o hi)
theorem HCalls.frame {P : Program} {f : FuncId} {args : Array Value} {g h : H} {R : Ending → H → Prop} (d : Dj g h) (c : HCalls P f args h R) : HCalls P f args (g ++ h) (fun e m => ∃ h', m = g ++ h' ∧ Dj g h' ∧ R e h') :=
  fun w s => (c w (s.right d)).mono fun e w' ⟨h', r, p⟩ => ⟨g ++ h', ⟨h', rfl, (p.frame d s.left).2, r⟩, (p.frame d s.left).1⟩
theorem HRound.frame {P : Program} {l : Nat} {f : FuncId} {tmps : Array Value} {a b : Code} {g h : H} {R : Ending → H → Prop} (d : Dj g h) (c : HRound P l f tmps a b h R) : HRound P l f tmps a b (g ++ h) (fun e m => ∃ h', m = g ++ h' ∧ Dj g h' ∧ R e h') :=
  fun w s => RoundIn.mono (c w (s.right d)) fun e w' ⟨h', r, p⟩ => ⟨g ++ h', ⟨h', rfl, (p.frame d s.left).2, r⟩, (p.frame d s.left).1⟩
theorem YieldH.frame {P : Program} {l : Nat} {args : List Value} {g h : H} {R : Ending → H → Prop} (d : Dj g h) (c : YieldH P l args h R) : YieldH P l args (g ++ h) (fun e m => ∃ h', m = g ++ h' ∧ Dj g h' ∧ R e h') := by
  obtain ⟨r, h1, h2, h3⟩ := c
  exact ⟨r, Sub.right d _ _ h1, h2, h3.frame d⟩
end Go.Tk
end

/- Scripts that are read: the program's. -/
section
set_option linter.unusedVariables false
set_option linter.unusedSimpArgs false
set_option maxRecDepth 20000
attribute [local irreducible] Go.Tk.vc Go.Tk.vops Go.Tk.vdr Go.Tk.vop Go.Tk.vfl Go.Tk.HCalls
namespace Go.Tk
open Go
theorem hupd_app {g h : H} {i : Nat} {o : Obj} (n : hget g i = none) : hupd (g ++ h) i o = g ++ hupd h i o := by
  induction g with
  | nil => rfl
  | cons p t ih =>
    rw [hget_cons] at n
    split at n
    · cases n
    · rename_i c
      rw [List.cons_append, hupd_cons, if_neg c, ih n]; rfl
theorem hwrite_one {h : H} {i : Nat} {a b : Value} {ty : TypeId} (e : hget h i = some (blk [a] ty)) : hwrite h i 0 [b] = some (hupd h i (blk [b] ty)) := by
  simp [hwrite, e, wrObj_blk, splice]
theorem Dj.upd {g h : H} {i : Nat} {o : Obj} (d : Dj g h) : Dj g (hupd h i o) := fun j hj => hget_hupd_none.2 (d j hj)
theorem vcells_one {v : Value} (h : vone v = true) : vcells v = [v] := by cases v <;> first | rfl | cases h
theorem hcel_one {h : H} {i : Nat} {a : Value} {ty : TypeId} (e : hget h i = some (blk [a] ty)) : hcel h i 0 = some a := by simp [hcel, e, blk]
/-- Blocks of a loop that collects: its record, what is deferred, the cells of the list, of both results. -/
structure LpB (rec : Loop) (l D j4 j2 j3 ty ti : Nat) (v : Value) (n : Int) (h B : H) : Prop where
  r : hget B l = some (.loop rec)
  d : hget B D = some (.deferred (some []))
  a : hget B j4 = some (blk [v] ty)
  b : hget B j2 = some (blk [.slice none 0 0] ty)
  c : hget B j3 = some (blk [.int .i64 n] ti)
  s : Sub h B
  hl : hget h l = none
  hD : hget h D = none
  h4 : hget h j4 = none
  h2 : hget h j2 = none
  h3 : hget h j3 = none
  ld : l ≠ D
  l4 : l ≠ j4
  l2 : l ≠ j2
  l3 : l ≠ j3
  d4 : D ≠ j4
  d2 : D ≠ j2
  d3 : D ≠ j3
  a2 : j4 ≠ j2
  a3 : j4 ≠ j3
  b3 : j2 ≠ j3
theorem LpB.setL {rec rec' : Loop} {l D j4 j2 j3 ty ti : Nat} {v : Value} {n : Int} {h B : H} (x : LpB rec l D j4 j2 j3 ty ti v n h B) : LpB rec' l D j4 j2 j3 ty ti v n h (hupd B l (.loop rec')) :=
  { x with r := hget_hupd_same x.r, d := (hget_hupd_ne x.ld.symm).trans x.d, a := (hget_hupd_ne x.l4.symm).trans x.a, b := (hget_hupd_ne x.l2.symm).trans x.b, c := (hget_hupd_ne x.l3.symm).trans x.c, s := x.s.wr x.hl }
theorem LpB.setV {rec : Loop} {l D j4 j2 j3 ty ti : Nat} {v v' : Value} {n : Int} {h B : H} (x : LpB rec l D j4 j2 j3 ty ti v n h B) : LpB rec l D j4 j2 j3 ty ti v' n h (hupd B j4 (blk [v'] ty)) :=
  { x with r := (hget_hupd_ne x.l4).trans x.r, d := (hget_hupd_ne x.d4).trans x.d, a := hget_hupd_same x.a, b := (hget_hupd_ne x.a2.symm).trans x.b, c := (hget_hupd_ne x.a3.symm).trans x.c, s := x.s.wr x.h4 }
theorem LpB.setN {rec : Loop} {l D j4 j2 j3 ty ti : Nat} {v : Value} {n n' : Int} {h B : H} (x : LpB rec l D j4 j2 j3 ty ti v n h B) : LpB rec l D j4 j2 j3 ty ti v n' h (hupd B j3 (blk [.int .i64 n'] ti)) :=
  { x with r := (hget_hupd_ne x.l3).trans x.r, d := (hget_hupd_ne x.d3).trans x.d, a := (hget_hupd_ne x.a3).trans x.a, b := (hget_hupd_ne x.b3).trans x.b, c := hget_hupd_same x.c, s := x.s.wr x.h3 }
theorem LpB.setD {rec : Loop} {l D j4 j2 j3 ty ti : Nat} {v : Value} {n : Int} {h B : H} (x : LpB rec l D j4 j2 j3 ty ti v n h B) : Sub h (hupd B D (.deferred none)) ∧ hget (hupd B D (.deferred none)) j2 = some (blk [.slice none 0 0] ty) ∧ hget (hupd B D (.deferred none)) j3 = some (blk [.int .i64 n] ti) ∧ hget (hupd B D (.deferred none)) j4 = some (blk [v] ty) :=
  ⟨x.s.wr x.hD, (hget_hupd_ne x.d2.symm).trans x.b, (hget_hupd_ne x.d3.symm).trans x.c, (hget_hupd_ne x.d4.symm).trans x.a⟩
theorem callvK_y (P : Program) (l : Nat) (fi ca : Array Value) (args : List Value) (h : H) (R : Ending → H → Prop) : callvK P (.func (.yield l) fi ca) args h R = (fi = #[] ∧ YieldH P l args h R) := rfl
end Go.Tk
namespace Go.Proofs.YtdlgaidjlepepaaDoor
open Go Go.Tk

theorem lines_c {l b : Nat} {t : List UInt8} {M : H} (gm : MxL M) (hb : hcel M b 0 = some (.string ⟨t.toArray⟩)) (ht : t.length ≤ 4194304) (J : Nat → H → Prop) (Jx : H → Prop) (h0 : J 0 M)
    (hY : ∀ i (hi : i < (splitB 10 t).length) X, J i X → (splitB 10 t)[i] ≠ [] → YieldH Tryd.prog l [.int .i64 ((i : Int) + 1), .string ⟨((splitB 10 t)[i]).toArray⟩] X (fun e X' => (e = .returned (.bool true) ∧ J (i + 1) X') ∨ (e = .returned (.bool false) ∧ Jx X')))
    (hS : ∀ i (hi : i < (splitB 10 t).length) X, J i X → (splitB 10 t)[i] = [] → J (i + 1) X) {R : Ending → H → Prop} (k : ∀ X, J (splitB 10 t).length X → R (.returned (.tuple #[])) X) (kx : ∀ X, Jx X → R (.returned (.tuple #[])) X) :
    HCalls Tryd.prog 39 #[.func (.yield l) #[] #[], .pointer (some ⟨b, 0, none⟩)] M R := by
  refine HCalls_ir (args := [.func (.yield l) #[] #[], .pointer (some ⟨b, 0, none⟩)]) Tryd.func39 ir39 ?_
  simp only [walk, lists, acts, mem, plain, seqs, maps, cells, resL, resV, intBin, ↓reduceIte, Nat.reduceAdd, Nat.reduceSub, Nat.reduceMul, Nat.reduceLeDiff, Nat.reduceEqDiff, Int.reduceToNat, Int.reduceEq, Int.reduceLT, Int.reduceLE, Int.reduceNeg, Int.reduceAdd, Int.reduceSub, Int.reduceMul, Nat.reducePow, Int.reduceNegSucc, str, hb]
  refine split_c gm ht fun pv gp op dp => ?_
  have hpl := lines_n t
  have hpw := (splitB_len 10 t).2
  obtain ⟨ps, hps⟩ : ∃ ps, ps = splitB 10 t := ⟨_, rfl⟩
  rw [← hps] at op hpl hpw
  simp only [← hps] at hY hS k
  have rp := op.rd
  simp only [walk, lists, acts, mem, plain, seqs, maps, cells, resL, resV, intBin, ↓reduceIte, Nat.reduceAdd, Nat.reduceSub, Nat.reduceMul, Nat.reduceLeDiff, Nat.reduceEqDiff, Int.reduceToNat, Int.reduceEq, Int.reduceLT, Int.reduceLE, Int.reduceNeg, Int.reduceAdd, Int.reduceSub, Int.reduceMul, Nat.reducePow, Int.reduceNegSucc, (rp.sub (Sub.left gp M)).len]
  refine vc_loop [8] (fun n vs h' => ∃ (i : Nat) (X : H), vs = [.int .i64 i] ∧ h' = gp ++ X ∧ Dj gp X ∧ J i X ∧ i ≤ ps.length ∧ n = ps.length - i) ps.length rfl ⟨0, M, rfl, rfl, dp, h0, by omega, rfl⟩ ?_
  rintro n f h' ⟨i, X, hv, rfl, dX, jX, hi, rfl⟩
  simp only [List.map_cons, List.map_nil, List.cons.injEq, and_true] at hv
  have rX : rLs (gp ++ X) eT 1 pv ps := rp.sub (Sub.left _ _)
  simp only [walk, lists, acts, mem, plain, seqs, maps, cells, resL, resV, intBin, ↓reduceIte, Nat.reduceAdd, Nat.reduceSub, Nat.reduceMul, Nat.reduceLeDiff, Nat.reduceEqDiff, Int.reduceToNat, Int.reduceEq, Int.reduceLT, Int.reduceLE, Int.reduceNeg, Int.reduceAdd, Int.reduceSub, Int.reduceMul, Nat.reducePow, Int.reduceNegSucc, wr, hv]
  refine ite_lt (fun c1 => ?_) fun c1 => ?_
  · have hi2 : i < ps.length := by omega
    refine idx_leaf (i := i) eT_len rX rfl hi2 fun b1 o1 e1 => ?_
    have e1' : hread (gp ++ X) b1 o1 1 = some [.string ⟨ps[i].toArray⟩] := e1
    have nx : ∀ {X' : H}, Dj gp X' → J (i + 1) X' → ∃ m, m < ps.length - i ∧ ∃ g, Tk.Sub g (gp ++ X') ∧ ∃ (i' : Nat) (X : H), [Value.int IntKind.i64 (IntKind.i64.wrap ((i : Int) + 1))] = [Value.int IntKind.i64 i'] ∧ g = gp ++ X ∧ Dj gp X ∧ J i' X ∧ i' ≤ ps.length ∧ m = ps.length - i' := fun {X'} d2 j2 =>
      ⟨ps.length - (i + 1), by omega, _, .refl _, i + 1, X', by simp (disch := omega) only [wrapI]; simp, rfl, d2, j2, by omega, rfl⟩
    simp only [walk, lists, acts, mem, plain, seqs, maps, cells, resL, resV, intBin, ↓reduceIte, Nat.reduceAdd, Nat.reduceSub, Nat.reduceMul, Nat.reduceLeDiff, Nat.reduceEqDiff, Int.reduceToNat, Int.reduceEq, Int.reduceLT, Int.reduceLE, Int.reduceNeg, Int.reduceAdd, Int.reduceSub, Int.reduceMul, Nat.reducePow, Int.reduceNegSucc, hread_1 e1', str, strBin, str_inj]
    refine ite_pos (fun c2 => ?_) fun c2 => ?_
    · simp (disch := omega) only [walk, lists, acts, mem, plain, seqs, maps, cells, resL, resV, intBin, ↓reduceIte, Nat.reduceAdd, Nat.reduceSub, Nat.reduceMul, Nat.reduceLeDiff, Nat.reduceEqDiff, Int.reduceToNat, Int.reduceEq, Int.reduceLT, Int.reduceLE, Int.reduceNeg, Int.reduceAdd, Int.reduceSub, Int.reduceMul, Nat.reducePow, Int.reduceNegSucc, wrapI, callvK_y]
      refine ((hY i hi2 X jX c2).frame dX).mono ?_
      rintro e m ⟨X', rfl, d2, ⟨rfl, j2⟩ | ⟨rfl, j2⟩⟩
      · simp only [walk, lists, acts, mem, plain, seqs, maps, cells, resL, resV, intBin, ↓reduceIte, Nat.reduceAdd, Nat.reduceSub, Nat.reduceMul, Nat.reduceLeDiff, Nat.reduceEqDiff, Int.reduceToNat, Int.reduceEq, Int.reduceLT, Int.reduceLE, Int.reduceNeg, Int.reduceAdd, Int.reduceSub, Int.reduceMul, Nat.reducePow, Int.reduceNegSucc]
        exact nx d2 j2
      · simp only [walk, lists, acts, mem, plain, seqs, maps, cells, resL, resV, intBin, ↓reduceIte, Nat.reduceAdd, Nat.reduceSub, Nat.reduceMul, Nat.reduceLeDiff, Nat.reduceEqDiff, Int.reduceToNat, Int.reduceEq, Int.reduceLT, Int.reduceLE, Int.reduceNeg, Int.reduceAdd, Int.reduceSub, Int.reduceMul, Nat.reducePow, Int.reduceNegSucc]
        exact dP_sub (Sub.right d2) (kx _ j2)
    · have j2 := hS i hi2 X jX (Classical.not_not.1 c2)
      exact nx dX j2
  · have hi2 : i = ps.length := by omega
    subst hi2
    exact dP_sub (Sub.right dX) (k _ jX)
end Go.Proofs.YtdlgaidjlepepaaDoor
end
