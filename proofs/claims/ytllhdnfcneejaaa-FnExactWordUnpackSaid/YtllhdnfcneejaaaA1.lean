/- A part of the memory, and what a piece of the machine does with it, whatever the rest of the memory is. -/
import Derived.Orders
import Derived.Defers
import Derived.KernelRfl
set_option linter.unusedVariables false
set_option linter.unusedSimpArgs false
namespace Go.Tk
open Go

/-- A part of the memory: blocks by their numbers. -/
abbrev H := List (Nat × Obj)

def hget : H → Nat → Option Obj
  | [], _ => none
  | p :: t, i => if i = p.1 then some p.2 else hget t i

def hupd : H → Nat → Obj → H
  | [], _, _ => []
  | p :: t, i, o => if i = p.1 then (p.1, o) :: t else p :: hupd t i o

theorem hget_nil (i : Nat) : hget [] i = none := rfl
theorem hget_cons (p : Nat × Obj) (t : H) (i : Nat) : hget (p :: t) i = if i = p.1 then some p.2 else hget t i := rfl

theorem hget_hupd_same {h : H} {i : Nat} {o : Obj} : ∀ {x : Obj}, hget h i = some x → hget (hupd h i o) i = some o := by
  induction h with
  | nil => intro x hx; cases hx
  | cons p t ih =>
    intro x hx
    unfold hupd
    by_cases e : i = p.1
    · rw [if_pos e]; simp [hget, e]
    · rw [if_neg e]; rw [hget_cons, if_neg e] at hx; rw [hget_cons, if_neg e]; exact ih hx

theorem hget_hupd_ne {h : H} {i j : Nat} {o : Obj} (hne : j ≠ i) : hget (hupd h i o) j = hget h j := by
  induction h with
  | nil => rfl
  | cons p t ih =>
    unfold hupd
    by_cases e : i = p.1
    · rw [if_pos e, hget_cons, hget_cons]
      by_cases e2 : j = p.1
      · exact absurd (e2.trans e.symm) hne
      · simp only [e2, if_false]
    · rw [if_neg e, hget_cons, hget_cons]
      by_cases e2 : j = p.1
      · simp only [e2, if_true]
      · simp only [e2, if_false]; exact ih

theorem hget_hupd_none {h : H} {i j : Nat} {o : Obj} : hget (hupd h i o) j = none ↔ hget h j = none := by
  by_cases e : j = i
  · subst e
    cases hh : hget h j with
    | none =>
      refine ⟨fun _ => rfl, fun _ => ?_⟩
      induction h with
      | nil => rfl
      | cons p t ih =>
        rw [hget_cons] at hh
        by_cases e : j = p.1
        · rw [if_pos e] at hh; cases hh
        · rw [if_neg e] at hh; unfold hupd; rw [if_neg e, hget_cons, if_neg e]; exact ih hh
    | some x => rw [hget_hupd_same hh]; simp
  · rw [hget_hupd_ne e]

/-- The part stands in the memory. -/
def Sat (h : H) (w : World) : Prop := ∀ i o, hget h i = some o → w.heap[i]? = some o

theorem Sat.lt {h : H} {w : World} (s : Sat h w) {i : Nat} (hi : hget h i ≠ none) : i < w.heap.size := by
  cases e : hget h i with
  | none => exact absurd e hi
  | some o => exact (Array.getElem?_eq_some_iff.1 (s i o e)).1

/-- What has become of the memory: the part is another one; what was there beside the part is as it was. -/
structure Pst (h : H) (w : World) (h' : H) (w' : World) : Prop where
  sat : Sat h' w'
  os : w'.os = w.os
  tape : w'.tape = w.tape
  output : w'.output = w.output
  size : w.heap.size ≤ w'.heap.size
  keep : ∀ i, i < w.heap.size → hget h i = none → w'.heap[i]? = w.heap[i]?
  new : ∀ i, hget h' i ≠ none → hget h i ≠ none ∨ w.heap.size ≤ i

theorem Pst.refl {h : H} {w : World} (s : Sat h w) : Pst h w h w := ⟨s, rfl, rfl, rfl, Nat.le_refl _, fun _ _ _ => rfl, fun _ hi => .inl hi⟩

theorem Pst.trans {h h1 h2 : H} {w w1 w2 : World} (a : Pst h w h1 w1) (b : Pst h1 w1 h2 w2) : Pst h w h2 w2 where
  sat := b.sat
  os := b.os.trans a.os
  tape := b.tape.trans a.tape
  output := b.output.trans a.output
  size := Nat.le_trans a.size b.size
  keep := fun i hi hn => by
    have h1n : hget h1 i = none := by
      cases e : hget h1 i with
      | none => rfl
      | some o => rcases a.new i (by rw [e]; simp) with x | x
                  · exact absurd hn x
                  · omega
    rw [b.keep i (Nat.lt_of_lt_of_le hi a.size) h1n, a.keep i hi hn]
  new := fun i hi => by
    rcases b.new i hi with x | x
    · exact a.new i x
    · exact .inr (Nat.le_trans a.size x)

/-- Less of the part may be kept. -/
theorem Pst.drop {h h1 h2 : H} {w w1 : World} (a : Pst h w h1 w1) (hs : ∀ i o, hget h2 i = some o → hget h1 i = some o) : Pst h w h2 w1 :=
  { a with sat := fun i o hi => a.sat i o (hs i o hi), new := fun i hi => a.new i (by cases e : hget h2 i with | none => exact absurd e hi | some o => rw [hs i o e]; simp) }

/-- One cell of the part. -/
def hcell (h : H) (a : Addr) : Option Value :=
  match hget h a.block with
  | some (.cells c _ _) => if a.spot.isSome then none else c[a.off]?
  | _ => none

def frzObj (a : Addr) (n : Nat) : Obj → Obj
  | .cells c elem (lo, hi) => .cells c elem (if lo == hi then (a.off, a.off + n) else (min lo a.off, max hi (a.off + n)))
  | o => o

def setObjCell (a : Addr) (v : Value) : Obj → Obj
  | .cells c elem frozen => .cells (if a.spot.isSome then c else c.setIfInBounds a.off v) elem frozen
  | o => o

def frzIn (a : Addr) : Obj → Bool
  | .cells _ _ (lo, hi) => lo ≤ a.off && a.off < hi
  | _ => false

def vone : Value → Bool
  | .agg _ | .tuple _ => false
  | _ => true

/-- What a piece of the model's meaning does with a part of the memory: with each answer that the tape may give, wherever a new block comes to lie. -/
def SH {α : Type} (P : Program) : Sem α → (α → H → Prop) → (Value → H → Prop) → H → Prop
  | .pure a, Q, _, h => Q a h
  | .load _ a k, Q, E, h => match hcell h a with
    | some v => SH P (k v) Q E h
    | none => False
  | .store _ a v k, Q, E, h => vone v = true ∧ (match hget h a.block with
    | some o => (hcell h a).isSome = true ∧ frzIn a o = false ∧ SH P k Q E (hupd h a.block (setObjCell a v o))
    | none => False)
  | .new o k, Q, E, h => ∀ i, hget h i = none → SH P (k i) Q E ((i, o) :: h)
  | .shape r k, Q, E, h => match hget h r with
    | some (.cells c e _) => SH P (k (some (e, c.size))) Q E h
    | some _ => SH P (k none) Q E h
    | none => False
  | .freeze a n k, Q, E, h => if n = 0 then SH P k Q E h else match hget h a.block with
    | some o => SH P k Q E (hupd h a.block (frzObj a n o))
    | none => False
  | .frozen a k, Q, E, h => match hget h a.block with
    | some o => SH P (k (frzIn a o)) Q E h
    | none => False
  | .getObj r k, Q, E, h => match hget h r with
    | some (.cells ..) => False
    | some o => SH P (k o) Q E h
    | none => False
  | .setObj r o k, Q, E, h => match hget h r with
    | some (.cells ..) => False
    | some _ => SH P k Q E (hupd h r o)
    | none => False
  | .choose q k, Q, E, h => if q.forced = true then SH P (k 0) Q E h else ∀ t, SH P (k (q.cut t)) Q E h
  | .sys _ _, _, _, _ => False
  | .program k, Q, E, h => SH P (k P) Q E h
  | .mark _ k, Q, E, h => SH P k Q E h
  | .halt (.panic v), _, E, h => E v h
  | .halt _, _, _, _ => False

theorem SH_mono {α : Type} {P : Program} (s : Sem α) : ∀ {Q Q' : α → H → Prop} {E E' : Value → H → Prop} {h : H}, (∀ a h, Q a h → Q' a h) → (∀ v h, E v h → E' v h) → SH P s Q E h → SH P s Q' E' h := by
  induction s with
  | pure a => intro Q Q' E E' h hq he hs; exact hq _ _ hs
  | load m a k ih =>
    intro Q Q' E E' h hq he hs
    simp only [SH] at hs ⊢
    split at hs
    · rename_i v hv; exact ih v hq he hs
    · exact hs.elim
  | store m a v k ih =>
    intro Q Q' E E' h hq he hs
    simp only [SH] at hs ⊢
    refine ⟨hs.1, ?_⟩
    have h2 := hs.2
    split at h2
    · exact ⟨h2.1, h2.2.1, ih hq he h2.2.2⟩
    · exact h2.elim
  | new o k ih => intro Q Q' E E' h hq he hs; exact fun i hi => ih i hq he (hs i hi)
  | shape r k ih =>
    intro Q Q' E E' h hq he hs
    simp only [SH] at hs ⊢
    split at hs
    · exact ih _ hq he hs
    · exact ih _ hq he hs
    · exact hs.elim
  | freeze a n k ih =>
    intro Q Q' E E' h hq he hs
    simp only [SH] at hs ⊢
    split at hs
    · rename_i hn; rw [if_pos hn]; exact ih hq he hs
    · rename_i hn
      rw [if_neg hn]
      split at hs
      · exact ih hq he hs
      · exact hs.elim
  | frozen a k ih =>
    intro Q Q' E E' h hq he hs
    simp only [SH] at hs ⊢
    split at hs
    · exact ih _ hq he hs
    · exact hs.elim
  | getObj r k ih =>
    intro Q Q' E E' h hq he hs
    simp only [SH] at hs ⊢
    split at hs
    · exact hs.elim
    · exact ih _ hq he hs
    · exact hs.elim
  | setObj r o k ih =>
    intro Q Q' E E' h hq he hs
    simp only [SH] at hs ⊢
    split at hs
    · exact hs.elim
    · exact ih hq he hs
    · exact hs.elim
  | choose q k ih =>
    intro Q Q' E E' h hq he hs
    simp only [SH] at hs ⊢
    split at hs
    · rename_i hf; rw [if_pos hf]; exact ih _ hq he hs
    · rename_i hf; rw [if_neg hf]; exact fun t => ih _ hq he (hs t)
  | sys c k ih => intro Q Q' E E' h hq he hs; exact hs.elim
  | program k ih => intro Q Q' E E' h hq he hs; exact ih _ hq he hs
  | mark m k ih => intro Q Q' E E' h hq he hs; exact ih hq he hs
  | halt x =>
    intro Q Q' E E' h hq he hs
    cases x <;> first | exact he _ _ hs | exact hs.elim

theorem SH_bind {α β : Type} {P : Program} (s : Sem α) (f : α → Sem β) : ∀ {Q : β → H → Prop} {E : Value → H → Prop} {h : H}, SH P (s.bind f) Q E h = SH P s (fun a h' => SH P (f a) Q E h') E h := by
  induction s with
  | pure a => intro Q E h; rfl
  | load m a k ih => intro Q E h; simp only [Sem.bind, SH, ih]
  | store m a v k ih => intro Q E h; simp only [Sem.bind, SH, ih]
  | new o k ih => intro Q E h; simp only [Sem.bind, SH, ih]
  | shape r k ih => intro Q E h; simp only [Sem.bind, SH, ih]
  | freeze a n k ih => intro Q E h; simp only [Sem.bind, SH, ih]
  | frozen a k ih => intro Q E h; simp only [Sem.bind, SH, ih]
  | getObj r k ih => intro Q E h; simp only [Sem.bind, SH, ih]
  | setObj r o k ih => intro Q E h; simp only [Sem.bind, SH, ih]
  | choose q k ih => intro Q E h; simp only [Sem.bind, SH, ih]
  | sys c k ih => intro Q E h; rfl
  | program k ih => intro Q E h; simp only [Sem.bind, SH, ih]
  | mark m k ih => intro Q E h; simp only [Sem.bind, SH, ih]
  | halt x => intro Q E h; cases x <;> rfl

theorem SH_bind' {α β : Type} {P : Program} (s : Sem α) (f : α → Sem β) {Q : β → H → Prop} {E : Value → H → Prop} {h : H} : SH P (s >>= f) Q E h = SH P s (fun a h' => SH P (f a) Q E h') E h := SH_bind s f
theorem SH_pure {α : Type} {P : Program} (a : α) {Q : α → H → Prop} {E : Value → H → Prop} {h : H} : SH P (pure a : Sem α) Q E h = Q a h := rfl

theorem hcell_cell {h : H} {w : World} (s : Sat h w) {a : Addr} {v : Value} (hc : hcell h a = some v) : w.cell? a = some v := by
  unfold hcell at hc
  cases e : hget h a.block with
  | none => rw [e] at hc; cases hc
  | some o =>
    rw [e] at hc
    unfold World.cell?
    rw [s _ _ e]
    cases o <;> simp_all

theorem Sat.hupd {h : H} {w w' : World} (s : Sat h w) {i : Nat} {o x : Obj} (hx : hget h i = some x) (hi : w'.heap[i]? = some o) (hr : ∀ j, j ≠ i → w'.heap[j]? = w.heap[j]?) : Sat (hupd h i o) w' := by
  intro j y hy
  by_cases e : j = i
  · subst e; rw [hget_hupd_same hx] at hy; rw [hi]; exact hy
  · rw [hget_hupd_ne e] at hy; rw [hr j e]; exact s j y hy

theorem Pst.upd {h : H} {w w' : World} (s : Sat h w) {i : Nat} {o x : Obj} (hx : hget h i = some x) (hi : w'.heap[i]? = some o) (hr : ∀ j, j ≠ i → w'.heap[j]? = w.heap[j]?)
    (hos : w'.os = w.os) (ht : w'.tape = w.tape) (hout : w'.output = w.output) (hsz : w'.heap.size = w.heap.size) : Pst h w (hupd h i o) w' where
  sat := s.hupd hx hi hr
  os := hos
  tape := ht
  output := hout
  size := by omega
  keep := fun j hj hn => hr j (fun e => by subst e; rw [hx] at hn; cases hn)
  new := fun j hj => .inl (fun e => hj (hget_hupd_none.2 e))

theorem Pst.push {h : H} {w w' : World} (s : Sat h w) (o : Obj) (hw : w' = { w with heap := w.heap.push o }) : Pst h w ((w.heap.size, o) :: h) w' := by
  subst hw
  have hn : hget h w.heap.size = none := by
    cases e : hget h w.heap.size with
    | none => rfl
    | some x => exact absurd (s.lt (by rw [e]; simp)) (Nat.lt_irrefl _)
  refine ⟨fun i x hx => ?_, rfl, rfl, rfl, by simp, fun i hi _ => ?_, fun i hi => ?_⟩
  · rw [hget_cons] at hx
    show (w.heap.push o)[i]? = _
    by_cases e : i = w.heap.size
    · subst e; simp at hx; simp [hx]
    · rw [if_neg e] at hx
      rw [Array.getElem?_push, if_neg e]; exact s i x hx
  · show (w.heap.push o)[i]? = _
    rw [Array.getElem?_push, if_neg (by omega)]
  · rw [hget_cons] at hi
    by_cases e : i = w.heap.size
    · exact .inr (by omega)
    · rw [if_neg e] at hi; exact .inl hi

/-- How a run ends, as seen by the part of the memory. -/
def Ends {α : Type} (Q : α → H → Prop) (E : Value → H → Prop) (h : H) (w : World) (r : Result α) : Prop :=
  (∃ a w' h', r = .ok a w' ∧ Q a h' ∧ Pst h w h' w') ∨ (∃ v w' h', r = .halt (.panic v) w' ∧ E v h' ∧ Pst h w h' w')

theorem Ends.step {α : Type} {Q : α → H → Prop} {E : Value → H → Prop} {h h1 : H} {w w1 : World} {r : Result α} (p : Pst h w h1 w1) (e : Ends Q E h1 w1 r) : Ends Q E h w r := by
  rcases e with ⟨a, w', h', hr, hq, hp⟩ | ⟨v, w', h', hr, hq, hp⟩
  · exact .inl ⟨a, w', h', hr, hq, p.trans hp⟩
  · exact .inr ⟨v, w', h', hr, hq, p.trans hp⟩

theorem Pst.drawn {h : H} {w : World} (s : Sat h w) (n : Nat) : Pst h w h { w with drawn := n } :=
  ⟨s, rfl, rfl, rfl, Nat.le_refl _, fun _ _ _ => rfl, fun _ hi => .inl hi⟩

theorem SH_sound {α : Type} {P : Program} (s : Sem α) : ∀ {Q : α → H → Prop} {E : Value → H → Prop} {h : H} {w : World}, SH P s Q E h → Sat h w → Ends Q E h w (s.run P w) := by
  induction s with
  | pure a => intro Q E h w hs st; exact .inl ⟨a, w, h, rfl, hs, .refl st⟩
  | load m a k ih =>
    intro Q E h w hs st
    simp only [SH] at hs
    split at hs
    · rename_i v hv
      simp only [Sem.run, hcell_cell st hv]
      exact ih v hs st
    · exact hs.elim
  | store m a v k ih =>
    intro Q E h w hs st
    simp only [SH] at hs
    obtain ⟨h1, h2⟩ := hs
    split at h2
    · rename_i o ho
      obtain ⟨hc, hf, hk⟩ := h2
      obtain ⟨u, hu⟩ := Option.isSome_iff_exists.1 hc
      have hcell := hcell_cell st hu
      have hblk := st _ _ ho
      have hfz : w.frozen? a = false := by
        unfold World.frozen?
        rw [hblk]
        cases o <;> first | rfl | (rename_i c e f; obtain ⟨lo, hi⟩ := f; exact hf)
      have hrun : (Sem.store m a v k).run P w = k.run P (w.setCell a v) := by
        cases v <;> simp [vone] at h1 <;> simp [Sem.run, hcell, hfz]
      rw [hrun]
      have hnew : (w.setCell a v).heap[a.block]? = some (setObjCell a v o) := by
        simp only [World.setCell, Array.getElem?_modify, if_true, hblk, Option.map_some]
        cases o <;> rfl
      have hold : ∀ j, j ≠ a.block → (w.setCell a v).heap[j]? = w.heap[j]? := fun j hj => by
        simp only [World.setCell, Array.getElem?_modify]
        rw [if_neg (fun e => hj e.symm)]
      have hp : Pst h w (hupd h a.block (setObjCell a v o)) (w.setCell a v) := .upd st ho hnew hold rfl rfl rfl (by simp [World.setCell])
      exact .step hp (ih hk hp.sat)
    · exact h2.elim
  | new o k ih =>
    intro Q E h w hs st
    simp only [SH] at hs
    have hn : hget h w.heap.size = none := by
      cases e : hget h w.heap.size with
      | none => rfl
      | some x => exact absurd (st.lt (by rw [e]; simp)) (Nat.lt_irrefl _)
    have hp := Pst.push st o rfl
    simp only [Sem.run]
    exact .step hp (ih _ (hs _ hn) hp.sat)
  | shape r k ih =>
    intro Q E h w hs st
    simp only [SH] at hs
    simp only [Sem.run]
    split at hs
    · rename_i c e f hg
      have : w.shape? r = some (e, c.size) := by unfold World.shape?; rw [st _ _ hg]
      rw [this]; exact ih _ hs st
    · rename_i o hno hg
      have : w.shape? r = none := by
        unfold World.shape?; rw [st _ _ hg]
        cases o <;> first | rfl | exact (hno _ _ _ rfl).elim
      rw [this]; exact ih _ hs st
    · exact hs.elim
  | freeze a n k ih =>
    intro Q E h w hs st
    simp only [SH] at hs
    simp only [Sem.run]
    split at hs
    · rename_i hn
      have : w.freeze a n = w := by simp [World.freeze, hn]
      rw [this]; exact ih hs st
    · rename_i hn
      split at hs
      · rename_i o ho
        have hblk := st _ _ ho
        have hw : w.freeze a n = { w with heap := w.heap.modify a.block (frzObj a n) } := by
          simp only [World.freeze, hn, if_false]
          congr 1
        have hnew : (w.freeze a n).heap[a.block]? = some (frzObj a n o) := by
          rw [hw]
          simp only [Array.getElem?_modify, if_true, hblk, Option.map_some]
        have hold : ∀ j, j ≠ a.block → (w.freeze a n).heap[j]? = w.heap[j]? := fun j hj => by
          rw [hw]
          simp only [Array.getElem?_modify]
          rw [if_neg (fun e => hj e.symm)]
        have hp : Pst h w (hupd h a.block (frzObj a n o)) (w.freeze a n) := .upd st ho hnew hold (by rw [hw]) (by rw [hw]) (by rw [hw]) (by rw [hw]; simp)
        exact .step hp (ih hs hp.sat)
      · exact hs.elim
  | frozen a k ih =>
    intro Q E h w hs st
    simp only [SH] at hs
    simp only [Sem.run]
    split at hs
    · rename_i o ho
      have : w.frozen? a = frzIn a o := by
        unfold World.frozen?
        rw [st _ _ ho]
        cases o <;> rfl
      rw [this]; exact ih _ hs st
    · exact hs.elim
  | getObj r k ih =>
    intro Q E h w hs st
    simp only [SH] at hs
    simp only [Sem.run]
    split at hs
    · exact hs.elim
    · rename_i o hno hg
      rw [st _ _ hg]
      cases o <;> first | exact (hno _ _ _ rfl).elim | exact ih _ hs st
    · exact hs.elim
  | setObj r o k ih =>
    intro Q E h w hs st
    simp only [SH] at hs
    simp only [Sem.run]
    split at hs
    · exact hs.elim
    · rename_i x hno hg
      have hblk := st _ _ hg
      have hlt := (Array.getElem?_eq_some_iff.1 hblk).1
      have hp : Pst h w (hupd h r o) { w with heap := w.heap.setIfInBounds r o } :=
        .upd st hg (by simp [hlt]) (fun j hj => by simp [Array.getElem?_setIfInBounds_ne (Ne.symm hj)]) rfl rfl rfl (by simp)
      rw [hblk]
      cases x <;> first | exact (hno _ _ _ rfl).elim | exact .step hp (ih hs hp.sat)
    · exact hs.elim
  | choose q k ih =>
    intro Q E h w hs st
    simp only [SH] at hs
    simp only [Sem.run]
    split at hs
    · rename_i hf; rw [if_pos hf]; exact ih _ hs st
    · rename_i hf; rw [if_neg hf]
      have hp := Pst.drawn st (w.drawn + 1)
      exact .step hp (ih _ (hs _) hp.sat)
  | sys c k ih => intro Q E h w hs st; exact hs.elim
  | program k ih => intro Q E h w hs st; exact ih _ hs st
  | mark m k ih => intro Q E h w hs st; exact ih hs st
  | halt x =>
    intro Q E h w hs st
    cases x <;> first | exact hs.elim | exact .inr ⟨_, w, h, rfl, hs, .refl st⟩

/-- What only reads: its answer, where the part holds all that it reads. -/
def evH {α : Type} (P : Program) : Sem α → H → Option α
  | .pure a, _ => some a
  | .load _ a k, h => match hcell h a with
    | some v => evH P (k v) h
    | none => none
  | .shape r k, h => match hget h r with
    | some (.cells c e _) => evH P (k (some (e, c.size))) h
    | some _ => evH P (k none) h
    | none => none
  | .frozen a k, h => match hget h a.block with
    | some o => evH P (k (frzIn a o)) h
    | none => none
  | .getObj r k, h => match hget h r with
    | some (.cells ..) => none
    | some o => evH P (k o) h
    | none => none
  | .program k, h => evH P (k P) h
  | .mark _ k, h => evH P k h
  | _, _ => none

theorem evH_bind {α β : Type} {P : Program} (s : Sem α) (f : α → Sem β) {h : H} : evH P (s.bind f) h = (evH P s h).bind fun a => evH P (f a) h := by
  induction s with
  | pure a => rfl
  | load m a k ih => simp only [Sem.bind, evH, ih]; cases hcell h a <;> rfl
  | store m a v k ih => rfl
  | new o k ih => rfl
  | shape r k ih => simp only [Sem.bind, evH, ih]; cases hget h r with | none => rfl | some o => cases o <;> rfl
  | freeze a n k ih => rfl
  | frozen a k ih => simp only [Sem.bind, evH, ih]; cases hget h a.block <;> rfl
  | getObj r k ih => simp only [Sem.bind, evH, ih]; cases hget h r with | none => rfl | some o => cases o <;> rfl
  | setObj r o k ih => rfl
  | choose q k ih => rfl
  | sys c k ih => rfl
  | program k ih => simp only [Sem.bind, evH, ih]
  | mark m k ih => simp only [Sem.bind, evH, ih]
  | halt x => rfl

theorem evH_bind' {α β : Type} {P : Program} (s : Sem α) (f : α → Sem β) {h : H} : evH P (s >>= f) h = (evH P s h).bind fun a => evH P (f a) h := evH_bind s f
theorem evH_pure {α : Type} {P : Program} (a : α) {h : H} : evH P (pure a : Sem α) h = some a := rfl

theorem evH_SH {α : Type} {P : Program} (s : Sem α) {Q : α → H → Prop} {E : Value → H → Prop} {h : H} {v : α} : evH P s h = some v → SH P s Q E h = Q v h := by
  induction s with
  | pure a => intro e; cases e; rfl
  | load m a k ih =>
    intro e; simp only [evH] at e; simp only [SH]
    split at e
    · exact ih _ e
    · cases e
  | store m a v k ih => intro e; cases e
  | new o k ih => intro e; cases e
  | shape r k ih =>
    intro e; simp only [evH] at e; simp only [SH]
    split at e
    · exact ih _ e
    · exact ih _ e
    · cases e
  | freeze a n k ih => intro e; cases e
  | frozen a k ih =>
    intro e; simp only [evH] at e; simp only [SH]
    split at e
    · exact ih _ e
    · cases e
  | getObj r k ih =>
    intro e; simp only [evH] at e; simp only [SH]
    split at e
    · cases e
    · exact ih _ e
    · cases e
  | setObj r o k ih => intro e; cases e
  | choose q k ih => intro e; cases e
  | sys c k ih => intro e; cases e
  | program k ih => intro e; exact ih _ e
  | mark m k ih => intro e; exact ih e
  | halt x => intro e; cases e

theorem evH_run {α : Type} {P : Program} (s : Sem α) {h : H} {w : World} {v : α} (st : Sat h w) : evH P s h = some v → s.run P w = .ok v w := by
  induction s with
  | pure a => intro e; cases e; rfl
  | load m a k ih =>
    intro e; simp only [evH] at e
    split at e
    · rename_i u hu; simp only [Sem.run, hcell_cell st hu]; exact ih _ e
    · cases e
  | store m a v k ih => intro e; cases e
  | new o k ih => intro e; cases e
  | shape r k ih =>
    intro e; simp only [evH] at e; simp only [Sem.run]
    split at e
    · rename_i c t f hg
      have : w.shape? r = some (t, c.size) := by unfold World.shape?; rw [st _ _ hg]
      rw [this]; exact ih _ e
    · rename_i o hno hg
      have : w.shape? r = none := by
        unfold World.shape?; rw [st _ _ hg]
        cases o <;> first | rfl | exact (hno _ _ _ rfl).elim
      rw [this]; exact ih _ e
    · cases e
  | freeze a n k ih => intro e; cases e
  | frozen a k ih =>
    intro e; simp only [evH] at e; simp only [Sem.run]
    split at e
    · rename_i o ho
      have : w.frozen? a = frzIn a o := by
        unfold World.frozen?
        rw [st _ _ ho]
        cases o <;> rfl
      rw [this]; exact ih _ e
    · cases e
  | getObj r k ih =>
    intro e; simp only [evH] at e; simp only [Sem.run]
    split at e
    · cases e
    · rename_i o hno hg
      rw [st _ _ hg]
      cases o <;> first | exact (hno _ _ _ rfl).elim | exact ih _ e
    · cases e
  | setObj r o k ih => intro e; cases e
  | choose q k ih => intro e; cases e
  | sys c k ih => intro e; cases e
  | program k ih => intro e; exact ih _ e
  | mark m k ih => intro e; exact ih e
  | halt x => intro e; cases e

/-- Less of the memory's part. -/
def Sub (g h : H) : Prop := ∀ i o, hget g i = some o → hget h i = some o
theorem Sub.refl (h : H) : Sub h h := fun _ _ e => e
theorem Sub.trans {a b c : H} (x : Sub a b) (y : Sub b c) : Sub a c := fun i o e => y i o (x i o e)
theorem Sub.cons {g h : H} {j : Nat} {o : Obj} (hj : hget h j = none) (s : Sub g h) : Sub g ((j, o) :: h) := fun i x e => by
  rw [hget_cons]
  have := s i x e
  rw [if_neg (fun e2 => by rw [show i = j from e2, hj] at this; cases this)]
  exact this
theorem Sub.cons2 {g h : H} {j : Nat} {o : Obj} (s : Sub g h) : Sub ((j, o) :: g) ((j, o) :: h) := fun i x e => by
  rw [hget_cons] at e ⊢
  split
  · rename_i c; rw [if_pos c] at e; exact e
  · rename_i c; rw [if_neg c] at e; exact s i x e
theorem Sub.none' {g h : H} (s : Sub g h) {i : Nat} (hn : hget h i = none) : hget g i = none := by
  cases e : hget g i with
  | none => rfl
  | some o => rw [s i o e] at hn; cases hn
theorem Sub.upd {g h : H} (s : Sub g h) {b : Nat} {o : Obj} (hb : hget g b ≠ none) : Sub (hupd g b o) (hupd h b o) := fun i x e => by
  by_cases c : i = b
  · subst c
    cases eg : hget g i with
    | none => exact absurd eg hb
    | some y =>
      rw [hget_hupd_same eg] at e
      rw [hget_hupd_same (s i y eg)]; exact e
  · rw [hget_hupd_ne c] at e ⊢
    exact s i x e
theorem Sat.sub {g h : H} {w : World} (s : Sat h w) (sb : Sub g h) : Sat g w := fun i o e => s i o (sb i o e)
theorem Sub.cell {g h : H} (s : Sub g h) {a : Addr} {v : Value} (e : hcell g a = some v) : hcell h a = some v := by
  unfold hcell at e ⊢
  cases eg : hget g a.block with
  | none => rw [eg] at e; cases e
  | some o => rw [eg] at e; rw [s _ o eg]; exact e
theorem Pst.sub {h h' g : H} {w w' : World} (p : Pst h w h' w') (s : Sub g h') : Pst h w g w' := p.drop s
/-- What is shown of less of the memory holds of more of it. -/
theorem Pst.more {g h h' : H} {w w' : World} (p : Pst g w h' w') (s : Sub g h) : Pst h w h' w' :=
  ⟨p.sat, p.os, p.tape, p.output, p.size, fun i hi hn => p.keep i hi (s.none' hn), fun i hi => (p.new i hi).imp (fun x y => x (s.none' y)) id⟩

def dP {α : Type} (Q : α → H → Prop) : α → H → Prop := fun a h => ∃ g, Sub g h ∧ Q a g
theorem dP.of {α : Type} {Q : α → H → Prop} {a : α} {h : H} (q : Q a h) : dP Q a h := ⟨h, .refl h, q⟩

theorem SH_weaken {α : Type} {P : Program} (s : Sem α) : ∀ {Q Q' : α → H → Prop} {E E' : Value → H → Prop} {g h : H}, Sub g h → (∀ a g h, Sub g h → Q a g → Q' a h) → (∀ v g h, Sub g h → E v g → E' v h) → SH P s Q E g → SH P s Q' E' h := by
  induction s with
  | pure a => intro Q Q' E E' g h sb hq he hs; exact hq _ _ _ sb hs
  | load m a k ih =>
    intro Q Q' E E' g h sb hq he hs
    simp only [SH] at hs ⊢
    split at hs
    · rename_i v hv; rw [sb.cell hv]; exact ih v sb hq he hs
    · exact hs.elim
  | store m a v k ih =>
    intro Q Q' E E' g h sb hq he hs
    simp only [SH] at hs ⊢
    refine ⟨hs.1, ?_⟩
    have h2 := hs.2
    split at h2
    · rename_i o ho
      rw [sb _ _ ho]
      refine ⟨?_, h2.2.1, ih (sb.upd (by rw [ho]; simp)) hq he h2.2.2⟩
      obtain ⟨v, hv⟩ := Option.isSome_iff_exists.1 h2.1
      rw [sb.cell hv]; rfl
    · exact h2.elim
  | new o k ih => intro Q Q' E E' g h sb hq he hs; exact fun i hi => ih i sb.cons2 hq he (hs i (sb.none' hi))
  | shape r k ih =>
    intro Q Q' E E' g h sb hq he hs
    simp only [SH] at hs ⊢
    split at hs
    · rename_i e; rw [sb _ _ e]; exact ih _ sb hq he hs
    · rename_i o e ho
      rw [sb _ _ ho]
      cases o with
      | cells a b c => exact absurd rfl (e a b c)
      | _ => exact ih _ sb hq he hs
    · exact hs.elim
  | freeze a n k ih =>
    intro Q Q' E E' g h sb hq he hs
    simp only [SH] at hs ⊢
    split at hs
    · rename_i hn; rw [if_pos hn]; exact ih sb hq he hs
    · rename_i hn
      rw [if_neg hn]
      split at hs
      · rename_i o ho; rw [sb _ _ ho]; exact ih (sb.upd (by rw [ho]; simp)) hq he hs
      · exact hs.elim
  | frozen a k ih =>
    intro Q Q' E E' g h sb hq he hs
    simp only [SH] at hs ⊢
    split at hs
    · rename_i o ho; rw [sb _ _ ho]; exact ih _ sb hq he hs
    · exact hs.elim
  | getObj r k ih =>
    intro Q Q' E E' g h sb hq he hs
    simp only [SH] at hs ⊢
    split at hs
    · exact hs.elim
    · rename_i o e ho
      rw [sb _ _ ho]
      cases o with
      | cells a b c => exact absurd rfl (e a b c)
      | _ => exact ih _ sb hq he hs
    · exact hs.elim
  | setObj r o k ih =>
    intro Q Q' E E' g h sb hq he hs
    simp only [SH] at hs ⊢
    split at hs
    · exact hs.elim
    · rename_i x e ho
      rw [sb _ _ ho]
      cases x with
      | cells a b c => exact absurd rfl (e a b c)
      | _ => exact ih (sb.upd (by rw [ho]; simp)) hq he hs
    · exact hs.elim
  | choose q k ih =>
    intro Q Q' E E' g h sb hq he hs
    simp only [SH] at hs ⊢
    split at hs
    · rename_i hf; rw [if_pos hf]; exact ih _ sb hq he hs
    · rename_i hf; rw [if_neg hf]; exact fun t => ih _ sb hq he (hs t)
  | sys c k ih => intro Q Q' E E' g h sb hq he hs; exact hs.elim
  | program k ih => intro Q Q' E E' g h sb hq he hs; exact ih _ sb hq he hs
  | mark m k ih => intro Q Q' E E' g h sb hq he hs; exact ih sb hq he hs
  | halt x =>
    intro Q Q' E E' g h sb hq he hs
    cases x <;> first | exact he _ _ _ sb hs | exact hs.elim
end Go.Tk
