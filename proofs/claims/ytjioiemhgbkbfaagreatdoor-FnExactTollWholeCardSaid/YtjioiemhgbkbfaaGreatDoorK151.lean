/- Parts of the proof. -/
import Derived.Orders
import Derived.Defers
import Derived.KernelRfl
import Derived.Tactics
import Derived.TacticsIn
import Derived.OrdersIn
import Derived.RangeFuncRecord
import Derived.Laws.Sem
import Derived.Laws.Strings

set_option maxHeartbeats 4000000
set_option maxRecDepth 100000
set_option linter.unusedVariables false
set_option linter.unusedSimpArgs false
set_option linter.defProp false
section
namespace Go.Tk
open Go
abbrev H := List (Nat × Obj)
def hget : H -> Nat -> Option Obj
 | [], _ => none
 | p :: t, i => if i = p.1 then some p.2 else hget t i
def hupd : H -> Nat -> Obj -> H
 | [], _, _ => []
 | p :: t, i, o => if i = p.1 then (p.1, o) :: t else p :: hupd t i o
theorem uQ (i : Nat) : hget [] i = none := rfl
theorem zM (p : Nat × Obj) (t : H) (i : Nat) : hget (p :: t) i = if i = p.1 then some p.2 else hget t i := rfl
theorem zH {h : H} {i : Nat} {o : Obj} : ∀ {x : Obj}, hget h i = some x -> hget (hupd h i o) i = some o := by
 induction h with
 | nil => intro x hx; cases hx
 | cons p t ih =>
  intro x hx
  unfold hupd
  by_cases e : i = p.1
  ·rw [if_pos e]; simp [hget, e]
  ·rw [if_neg e]; rw [zM, if_neg e] at hx; rw [zM, if_neg e]; exact ih hx
theorem qS {h : H} {i j : Nat} {o : Obj} (hne : j ≠ i) : hget (hupd h i o) j = hget h j := by
 induction h with
 | nil => rfl
 | cons p t ih =>
  unfold hupd
  by_cases e : i = p.1
  ·rw [if_pos e, zM, zM]
   by_cases e2 : j = p.1
   ·exact absurd (e2.trans e.symm) hne
   ·simp only [e2, if_false]
  ·rw [if_neg e, zM, zM]
   by_cases e2 : j = p.1
   ·simp only [e2, if_true]
   ·simp only [e2, if_false]; exact ih
theorem hget_hupd_none {h : H} {i j : Nat} {o : Obj} : hget (hupd h i o) j = none ↔ hget h j = none := by
 by_cases e : j = i
 ·subst e
  cases hh : hget h j with
  | none =>
   refine ⟨fun _ => rfl, fun _ => ?_⟩
   induction h with
   | nil => rfl
   | cons p t ih =>
    rw [zM] at hh
    by_cases e : j = p.1
    ·rw [if_pos e] at hh; cases hh
    ·rw [if_neg e] at hh; unfold hupd; rw [if_neg e, zM, if_neg e]; exact ih hh
  | some x => rw [zH hh]; simp
 ·rw [qS e]
def Sat (h : H) (w : World) : Prop := ∀ i o, hget h i = some o -> w.heap[i]? = some o
theorem Sat.lt {h : H} {w : World} (s : Sat h w) {i : Nat} (hi : hget h i ≠ none) : i < w.heap.size := by
 cases e : hget h i with
 | none => exact absurd e hi
 | some o => exact (Array.getElem?_eq_some_iff.1 (s i o e)).1
structure Pst (h : H) (w : World) (h' : H) (w' : World) : Prop where
 sat : Sat h' w'
 os : w'.os = w.os
 tape : w'.tape = w.tape
 output : w'.output = w.output
 size : w.heap.size <= w'.heap.size
 keep : ∀ i, i < w.heap.size -> hget h i = none -> w'.heap[i]? = w.heap[i]?
 new : ∀ i, hget h' i ≠ none -> hget h i ≠ none ∨ w.heap.size <= i
theorem Pst.refl {h : H} {w : World} (s : Sat h w) : Pst h w h w := ⟨s, rfl, rfl, rfl, Nat.le_refl _, fun _ _ _ => rfl, fun _ hi => .inl hi⟩
theorem Pst.trans {h h1 h2 : H} {w w1 w2 : World} (a : Pst h w h1 w1) (b : Pst h1 w1 h2 w2) : Pst h w h2 w2 where
 sat := b.sat
 os := b.os.trans a.os
 tape := b.tape.trans a.tape
 output := b.output.trans a.output
 size := Nat.le_trans a.size b.size
 keep := fun i hi hn => by
  have h1n : hget h1 i = none := by
   cases e : hget h1 i with
   | none => rfl
   | some o => rcases a.new i (by rw [e]; simp) with x | x
               ·exact absurd hn x
               ·omega
  rw [b.keep i (Nat.lt_of_lt_of_le hi a.size) h1n, a.keep i hi hn]
 new := fun i hi => by
  rcases b.new i hi with x | x
  ·exact a.new i x
  ·exact .inr (Nat.le_trans a.size x)
theorem Pst.drop {h h1 h2 : H} {w w1 : World} (a : Pst h w h1 w1) (hs : ∀ i o, hget h2 i = some o -> hget h1 i = some o) : Pst h w h2 w1 :=
 { a with sat := fun i o hi => a.sat i o (hs i o hi), new := fun i hi => a.new i (by cases e : hget h2 i with | none => exact absurd e hi | some o => rw [hs i o e]; simp) }
def vP (h : H) (a : Addr) : Option Value :=
 match hget h a.block with
 | some (.cells c _ _) => if a.spot.isSome then none else c[a.off]?
 | _ => none
def qOU (a : Addr) (n : Nat) : Obj -> Obj
 | .cells c elem (lo, hi) => .cells c elem (if lo == hi then (a.off, a.off + n) else (min lo a.off, max hi (a.off + n)))
 | o => o
def qAF (a : Addr) (v : Value) : Obj -> Obj
 | .cells c elem frozen => .cells (if a.spot.isSome then c else c.setIfInBounds a.off v) elem frozen
 | o => o
def qJL (a : Addr) : Obj -> Bool
 | .cells _ _ (lo, hi) => lo <= a.off && a.off < hi
 | _ => false
def vone : Value -> Bool
 | .agg _ | .tuple _ => false
 | _ => true
def SH {α : Type} (P : Program) : Sem α -> (α -> H -> Prop) -> (Value -> H -> Prop) -> H -> Prop
 | .pure a, Q, _, h => Q a h
 | .load _ a k, Q, E, h => match vP h a with
  | some v => SH P (k v) Q E h
  | none => False
 | .store _ a v k, Q, E, h => vone v = true /\ (match hget h a.block with
  | some o => (vP h a).isSome = true /\ qJL a o = false /\ SH P k Q E (hupd h a.block (qAF a v o))
  | none => False)
 | .new o k, Q, E, h => ∀ i, hget h i = none -> SH P (k i) Q E ((i, o) :: h)
 | .shape r k, Q, E, h => match hget h r with
  | some (.cells c e _) => SH P (k (some (e, c.size))) Q E h
  | some _ => SH P (k none) Q E h
  | none => False
 | .freeze a n k, Q, E, h => if n = 0 then SH P k Q E h else match hget h a.block with
  | some o => SH P k Q E (hupd h a.block (qOU a n o))
  | none => False
 | .frozen a k, Q, E, h => match hget h a.block with
  | some o => SH P (k (qJL a o)) Q E h
  | none => False
 | .getObj r k, Q, E, h => match hget h r with
  | some (.cells ..) => False
  | some o => SH P (k o) Q E h
  | none => False
 | .setObj r o k, Q, E, h => match hget h r with
  | some (.cells ..) => False
  | some _ => SH P k Q E (hupd h r o)
  | none => False
 | .choose q k, Q, E, h => if q.forced = true then SH P (k 0) Q E h else ∀ t, SH P (k (q.cut t)) Q E h
 | .sys _ _, _, _, _ => False
 | .program k, Q, E, h => SH P (k P) Q E h
 | .mark _ k, Q, E, h => SH P k Q E h
 | .halt (.panic v), _, E, h => E v h
 | .halt _, _, _, _ => False
theorem qFE {α : Type} {P : Program} (s : Sem α) : ∀ {Q Q' : α -> H -> Prop} {E E' : Value -> H -> Prop} {h : H}, (∀ a h, Q a h -> Q' a h) -> (∀ v h, E v h -> E' v h) -> SH P s Q E h -> SH P s Q' E' h := by
 induction s with
 | pure a => intro Q Q' E E' h hq he hs; exact hq _ _ hs
 | load m a k ih =>
  intro Q Q' E E' h hq he hs
  simp only [SH] at hs ⊢
  split at hs
  ·rename_i v hv; exact ih v hq he hs
  ·exact hs.elim
 | store m a v k ih =>
  intro Q Q' E E' h hq he hs
  simp only [SH] at hs ⊢
  refine ⟨hs.1, ?_⟩
  have h2 := hs.2
  split at h2
  ·exact ⟨h2.1, h2.2.1, ih hq he h2.2.2⟩
  ·exact h2.elim
 | new o k ih => intro Q Q' E E' h hq he hs; exact fun i hi => ih i hq he (hs i hi)
 | shape r k ih =>
  intro Q Q' E E' h hq he hs
  simp only [SH] at hs ⊢
  split at hs
  ·exact ih _ hq he hs
  ·exact ih _ hq he hs
  ·exact hs.elim
 | freeze a n k ih =>
  intro Q Q' E E' h hq he hs
  simp only [SH] at hs ⊢
  split at hs
  ·rename_i hn; rw [if_pos hn]; exact ih hq he hs
  ·rename_i hn
   rw [if_neg hn]
   split at hs
   ·exact ih hq he hs
   ·exact hs.elim
 | frozen a k ih =>
  intro Q Q' E E' h hq he hs
  simp only [SH] at hs ⊢
  split at hs
  ·exact ih _ hq he hs
  ·exact hs.elim
 | getObj r k ih =>
  intro Q Q' E E' h hq he hs
  simp only [SH] at hs ⊢
  split at hs
  ·exact hs.elim
  ·exact ih _ hq he hs
  ·exact hs.elim
 | setObj r o k ih =>
  intro Q Q' E E' h hq he hs
  simp only [SH] at hs ⊢
  split at hs
  ·exact hs.elim
  ·exact ih hq he hs
  ·exact hs.elim
 | choose q k ih =>
  intro Q Q' E E' h hq he hs
  simp only [SH] at hs ⊢
  split at hs
  ·rename_i hf; rw [if_pos hf]; exact ih _ hq he hs
  ·rename_i hf; rw [if_neg hf]; exact fun t => ih _ hq he (hs t)
 | sys c k ih => intro Q Q' E E' h hq he hs; exact hs.elim
 | program k ih => intro Q Q' E E' h hq he hs; exact ih _ hq he hs
 | mark m k ih => intro Q Q' E E' h hq he hs; exact ih hq he hs
 | halt x =>
  intro Q Q' E E' h hq he hs
  cases x <;> first | exact he _ _ hs | exact hs.elim
theorem SH_bind {α β : Type} {P : Program} (s : Sem α) (f : α -> Sem β) : ∀ {Q : β -> H -> Prop} {E : Value -> H -> Prop} {h : H}, SH P (s.bind f) Q E h = SH P s (fun a h' => SH P (f a) Q E h') E h := by
 induction s with
 | pure a => intro Q E h; rfl
 | load m a k ih => intro Q E h; simp only [Sem.bind, SH, ih]
 | store m a v k ih => intro Q E h; simp only [Sem.bind, SH, ih]
 | new o k ih => intro Q E h; simp only [Sem.bind, SH, ih]
 | shape r k ih => intro Q E h; simp only [Sem.bind, SH, ih]
 | freeze a n k ih => intro Q E h; simp only [Sem.bind, SH, ih]
 | frozen a k ih => intro Q E h; simp only [Sem.bind, SH, ih]
 | getObj r k ih => intro Q E h; simp only [Sem.bind, SH, ih]
 | setObj r o k ih => intro Q E h; simp only [Sem.bind, SH, ih]
 | choose q k ih => intro Q E h; simp only [Sem.bind, SH, ih]
 | sys c k ih => intro Q E h; rfl
 | program k ih => intro Q E h; simp only [Sem.bind, SH, ih]
 | mark m k ih => intro Q E h; simp only [Sem.bind, SH, ih]
 | halt x => intro Q E h; cases x <;> rfl
theorem qH {α β : Type} {P : Program} (s : Sem α) (f : α -> Sem β) {Q : β -> H -> Prop} {E : Value -> H -> Prop} {h : H} : SH P (s >>= f) Q E h = SH P s (fun a h' => SH P (f a) Q E h') E h := SH_bind s f
theorem qU {α : Type} {P : Program} (a : α) {Q : α -> H -> Prop} {E : Value -> H -> Prop} {h : H} : SH P (pure a : Sem α) Q E h = Q a h := rfl
theorem qDC {h : H} {w : World} (s : Sat h w) {a : Addr} {v : Value} (hc : vP h a = some v) : w.cell? a = some v := by
 unfold vP at hc
 cases e : hget h a.block with
 | none => rw [e] at hc; cases hc
 | some o =>
  rw [e] at hc
  unfold World.cell?
  rw [s _ _ e]
  cases o <;> simp_all
theorem Sat.hupd {h : H} {w w' : World} (s : Sat h w) {i : Nat} {o x : Obj} (hx : hget h i = some x) (hi : w'.heap[i]? = some o) (hr : ∀ j, j ≠ i -> w'.heap[j]? = w.heap[j]?) : Sat (hupd h i o) w' := by
 intro j y hy
 by_cases e : j = i
 ·subst e; rw [zH hx] at hy; rw [hi]; exact hy
 ·rw [qS e] at hy; rw [hr j e]; exact s j y hy
theorem Pst.upd {h : H} {w w' : World} (s : Sat h w) {i : Nat} {o x : Obj} (hx : hget h i = some x) (hi : w'.heap[i]? = some o) (hr : ∀ j, j ≠ i -> w'.heap[j]? = w.heap[j]?)
  (hos : w'.os = w.os) (ht : w'.tape = w.tape) (hout : w'.output = w.output) (hsz : w'.heap.size = w.heap.size) : Pst h w (hupd h i o) w' where
 sat := s.hupd hx hi hr
 os := hos
 tape := ht
 output := hout
 size := by omega
 keep := fun j hj hn => hr j (fun e => by subst e; rw [hx] at hn; cases hn)
 new := fun j hj => .inl (fun e => hj (hget_hupd_none.2 e))
theorem Pst.push {h : H} {w w' : World} (s : Sat h w) (o : Obj) (hw : w' = { w with heap := w.heap.push o }) : Pst h w ((w.heap.size, o) :: h) w' := by
 subst hw
 have hn : hget h w.heap.size = none := by
  cases e : hget h w.heap.size with
  | none => rfl
  | some x => exact absurd (s.lt (by rw [e]; simp)) (Nat.lt_irrefl _)
 refine ⟨fun i x hx => ?_, rfl, rfl, rfl, by simp, fun i hi _ => ?_, fun i hi => ?_⟩
 ·rw [zM] at hx
  show (w.heap.push o)[i]? = _
  by_cases e : i = w.heap.size
  ·subst e; simp at hx; simp [hx]
  ·rw [if_neg e] at hx
   rw [Array.getElem?_push, if_neg e]; exact s i x hx
 ·show (w.heap.push o)[i]? = _
  rw [Array.getElem?_push, if_neg (by omega)]
 ·rw [zM] at hi
  by_cases e : i = w.heap.size
  ·exact .inr (by omega)
  ·rw [if_neg e] at hi; exact .inl hi
def Ends {α : Type} (Q : α -> H -> Prop) (E : Value -> H -> Prop) (h : H) (w : World) (r : Result α) : Prop :=
 (∃ a w' h', r = .ok a w' /\ Q a h' /\ Pst h w h' w') ∨ (∃ v w' h', r = .halt (.panic v) w' /\ E v h' /\ Pst h w h' w')
theorem Ends.step {α : Type} {Q : α -> H -> Prop} {E : Value -> H -> Prop} {h h1 : H} {w w1 : World} {r : Result α} (p : Pst h w h1 w1) (e : Ends Q E h1 w1 r) : Ends Q E h w r := by
 rcases e with ⟨a, w', h', hr, hq, hp⟩ | ⟨v, w', h', hr, hq, hp⟩
 ·exact .inl ⟨a, w', h', hr, hq, p.trans hp⟩
 ·exact .inr ⟨v, w', h', hr, hq, p.trans hp⟩
theorem Pst.drawn {h : H} {w : World} (s : Sat h w) (n : Nat) : Pst h w h { w with drawn := n } :=
 ⟨s, rfl, rfl, rfl, Nat.le_refl _, fun _ _ _ => rfl, fun _ hi => .inl hi⟩
theorem zJS {α : Type} {P : Program} (s : Sem α) : ∀ {Q : α -> H -> Prop} {E : Value -> H -> Prop} {h : H} {w : World}, SH P s Q E h -> Sat h w -> Ends Q E h w (s.run P w) := by
 induction s with
 | pure a => intro Q E h w hs st; exact .inl ⟨a, w, h, rfl, hs, .refl st⟩
 | load m a k ih =>
  intro Q E h w hs st
  simp only [SH] at hs
  split at hs
  ·rename_i v hv
   simp only [Sem.run, qDC st hv]
   exact ih v hs st
  ·exact hs.elim
 | store m a v k ih =>
  intro Q E h w hs st
  simp only [SH] at hs
  obtain ⟨h1, h2⟩ := hs
  split at h2
  ·rename_i o ho
   obtain ⟨hc, hf, hk⟩ := h2
   obtain ⟨u, hu⟩ := Option.isSome_iff_exists.1 hc
   have vP := qDC st hu
   have hblk := st _ _ ho
   have hfz : w.frozen? a = false := by
    unfold World.frozen?
    rw [hblk]
    cases o <;> first | rfl | (rename_i c e f; obtain ⟨lo, hi⟩ := f; exact hf)
   have hrun : (Sem.store m a v k).run P w = k.run P (w.setCell a v) := by
    cases v <;> simp [vone] at h1 <;> simp [Sem.run, vP, hfz]
   rw [hrun]
   have hnew : (w.setCell a v).heap[a.block]? = some (qAF a v o) := by
    simp only [World.setCell, Array.getElem?_modify, if_true, hblk, Option.map_some]
    cases o <;> rfl
   have hold : ∀ j, j ≠ a.block -> (w.setCell a v).heap[j]? = w.heap[j]? := fun j hj => by
    simp only [World.setCell, Array.getElem?_modify]
    rw [if_neg (fun e => hj e.symm)]
   have hp : Pst h w (hupd h a.block (qAF a v o)) (w.setCell a v) := .upd st ho hnew hold rfl rfl rfl (by simp [World.setCell])
   exact .step hp (ih hk hp.sat)
  ·exact h2.elim
 | new o k ih =>
  intro Q E h w hs st
  simp only [SH] at hs
  have hn : hget h w.heap.size = none := by
   cases e : hget h w.heap.size with
   | none => rfl
   | some x => exact absurd (st.lt (by rw [e]; simp)) (Nat.lt_irrefl _)
  have hp := Pst.push st o rfl
  simp only [Sem.run]
  exact .step hp (ih _ (hs _ hn) hp.sat)
 | shape r k ih =>
  intro Q E h w hs st
  simp only [SH] at hs
  simp only [Sem.run]
  split at hs
  ·rename_i c e f hg
   have : w.shape? r = some (e, c.size) := by unfold World.shape?; rw [st _ _ hg]
   rw [this]; exact ih _ hs st
  ·rename_i o hno hg
   have : w.shape? r = none := by
    unfold World.shape?; rw [st _ _ hg]
    cases o <;> first | rfl | exact (hno _ _ _ rfl).elim
   rw [this]; exact ih _ hs st
  ·exact hs.elim
 | freeze a n k ih =>
  intro Q E h w hs st
  simp only [SH] at hs
  simp only [Sem.run]
  split at hs
  ·rename_i hn
   have : w.freeze a n = w := by simp [World.freeze, hn]
   rw [this]; exact ih hs st
  ·rename_i hn
   split at hs
   ·rename_i o ho
    have hblk := st _ _ ho
    have hw : w.freeze a n = { w with heap := w.heap.modify a.block (qOU a n) } := by
     simp only [World.freeze, hn, if_false]
     congr 1
    have hnew : (w.freeze a n).heap[a.block]? = some (qOU a n o) := by
     rw [hw]
     simp only [Array.getElem?_modify, if_true, hblk, Option.map_some]
    have hold : ∀ j, j ≠ a.block -> (w.freeze a n).heap[j]? = w.heap[j]? := fun j hj => by
     rw [hw]
     simp only [Array.getElem?_modify]
     rw [if_neg (fun e => hj e.symm)]
    have hp : Pst h w (hupd h a.block (qOU a n o)) (w.freeze a n) := .upd st ho hnew hold (by rw [hw]) (by rw [hw]) (by rw [hw]) (by rw [hw]; simp)
    exact .step hp (ih hs hp.sat)
   ·exact hs.elim
 | frozen a k ih =>
  intro Q E h w hs st
  simp only [SH] at hs
  simp only [Sem.run]
  split at hs
  ·rename_i o ho
   have : w.frozen? a = qJL a o := by
    unfold World.frozen?
    rw [st _ _ ho]
    cases o <;> rfl
   rw [this]; exact ih _ hs st
  ·exact hs.elim
 | getObj r k ih =>
  intro Q E h w hs st
  simp only [SH] at hs
  simp only [Sem.run]
  split at hs
  ·exact hs.elim
  ·rename_i o hno hg
   rw [st _ _ hg]
   cases o <;> first | exact (hno _ _ _ rfl).elim | exact ih _ hs st
  ·exact hs.elim
 | setObj r o k ih =>
  intro Q E h w hs st
  simp only [SH] at hs
  simp only [Sem.run]
  split at hs
  ·exact hs.elim
  ·rename_i x hno hg
   have hblk := st _ _ hg
   have hlt := (Array.getElem?_eq_some_iff.1 hblk).1
   have hp : Pst h w (hupd h r o) { w with heap := w.heap.setIfInBounds r o } :=
    .upd st hg (by simp [hlt]) (fun j hj => by simp [Array.getElem?_setIfInBounds_ne (Ne.symm hj)]) rfl rfl rfl (by simp)
   rw [hblk]
   cases x <;> first | exact (hno _ _ _ rfl).elim | exact .step hp (ih hs hp.sat)
  ·exact hs.elim
 | choose q k ih =>
  intro Q E h w hs st
  simp only [SH] at hs
  simp only [Sem.run]
  split at hs
  ·rename_i hf; rw [if_pos hf]; exact ih _ hs st
  ·rename_i hf; rw [if_neg hf]
   have hp := Pst.drawn st (w.drawn + 1)
   exact .step hp (ih _ (hs _) hp.sat)
 | sys c k ih => intro Q E h w hs st; exact hs.elim
 | program k ih => intro Q E h w hs st; exact ih _ hs st
 | mark m k ih => intro Q E h w hs st; exact ih hs st
 | halt x =>
  intro Q E h w hs st
  cases x <;> first | exact hs.elim | exact .inr ⟨_, w, h, rfl, hs, .refl st⟩
def evH {α : Type} (P : Program) : Sem α -> H -> Option α
 | .pure a, _ => some a
 | .load _ a k, h => match vP h a with
  | some v => evH P (k v) h
  | none => none
 | .shape r k, h => match hget h r with
  | some (.cells c e _) => evH P (k (some (e, c.size))) h
  | some _ => evH P (k none) h
  | none => none
 | .frozen a k, h => match hget h a.block with
  | some o => evH P (k (qJL a o)) h
  | none => none
 | .getObj r k, h => match hget h r with
  | some (.cells ..) => none
  | some o => evH P (k o) h
  | none => none
 | .program k, h => evH P (k P) h
 | .mark _ k, h => evH P k h
 | _, _ => none
theorem zIC {α β : Type} {P : Program} (s : Sem α) (f : α -> Sem β) {h : H} : evH P (s.bind f) h = (evH P s h).bind fun a => evH P (f a) h := by
 induction s with
 | pure a => rfl
 | load m a k ih => simp only [Sem.bind, evH, ih]; cases vP h a <;> rfl
 | store m a v k ih => rfl
 | new o k ih => rfl
 | shape r k ih => simp only [Sem.bind, evH, ih]; cases hget h r with | none => rfl | some o => cases o <;> rfl
 | freeze a n k ih => rfl
 | frozen a k ih => simp only [Sem.bind, evH, ih]; cases hget h a.block <;> rfl
 | getObj r k ih => simp only [Sem.bind, evH, ih]; cases hget h r with | none => rfl | some o => cases o <;> rfl
 | setObj r o k ih => rfl
 | choose q k ih => rfl
 | sys c k ih => rfl
 | program k ih => simp only [Sem.bind, evH, ih]
 | mark m k ih => simp only [Sem.bind, evH, ih]
 | halt x => rfl
theorem wM {α β : Type} {P : Program} (s : Sem α) (f : α -> Sem β) {h : H} : evH P (s >>= f) h = (evH P s h).bind fun a => evH P (f a) h := zIC s f
theorem qEP {α : Type} {P : Program} (a : α) {h : H} : evH P (pure a : Sem α) h = some a := rfl
theorem evH_SH {α : Type} {P : Program} (s : Sem α) {Q : α -> H -> Prop} {E : Value -> H -> Prop} {h : H} {v : α} : evH P s h = some v -> SH P s Q E h = Q v h := by
 induction s with
 | pure a => intro e; cases e; rfl
 | load m a k ih =>
  intro e; simp only [evH] at e; simp only [SH]
  split at e
  ·exact ih _ e
  ·cases e
 | store m a v k ih => intro e; cases e
 | new o k ih => intro e; cases e
 | shape r k ih =>
  intro e; simp only [evH] at e; simp only [SH]
  split at e
  ·exact ih _ e
  ·exact ih _ e
  ·cases e
 | freeze a n k ih => intro e; cases e
 | frozen a k ih =>
  intro e; simp only [evH] at e; simp only [SH]
  split at e
  ·exact ih _ e
  ·cases e
 | getObj r k ih =>
  intro e; simp only [evH] at e; simp only [SH]
  split at e
  ·cases e
  ·exact ih _ e
  ·cases e
 | setObj r o k ih => intro e; cases e
 | choose q k ih => intro e; cases e
 | sys c k ih => intro e; cases e
 | program k ih => intro e; exact ih _ e
 | mark m k ih => intro e; exact ih e
 | halt x => intro e; cases e
theorem qYI {α : Type} {P : Program} (s : Sem α) {h : H} {w : World} {v : α} (st : Sat h w) : evH P s h = some v -> s.run P w = .ok v w := by
 induction s with
 | pure a => intro e; cases e; rfl
 | load m a k ih =>
  intro e; simp only [evH] at e
  split at e
  ·rename_i u hu; simp only [Sem.run, qDC st hu]; exact ih _ e
  ·cases e
 | store m a v k ih => intro e; cases e
 | new o k ih => intro e; cases e
 | shape r k ih =>
  intro e; simp only [evH] at e; simp only [Sem.run]
  split at e
  ·rename_i c t f hg
   have : w.shape? r = some (t, c.size) := by unfold World.shape?; rw [st _ _ hg]
   rw [this]; exact ih _ e
  ·rename_i o hno hg
   have : w.shape? r = none := by
    unfold World.shape?; rw [st _ _ hg]
    cases o <;> first | rfl | exact (hno _ _ _ rfl).elim
   rw [this]; exact ih _ e
  ·cases e
 | freeze a n k ih => intro e; cases e
 | frozen a k ih =>
  intro e; simp only [evH] at e; simp only [Sem.run]
  split at e
  ·rename_i o ho
   have : w.frozen? a = qJL a o := by
    unfold World.frozen?
    rw [st _ _ ho]
    cases o <;> rfl
   rw [this]; exact ih _ e
  ·cases e
 | getObj r k ih =>
  intro e; simp only [evH] at e; simp only [Sem.run]
  split at e
  ·cases e
  ·rename_i o hno hg
   rw [st _ _ hg]
   cases o <;> first | exact (hno _ _ _ rfl).elim | exact ih _ e
  ·cases e
 | setObj r o k ih => intro e; cases e
 | choose q k ih => intro e; cases e
 | sys c k ih => intro e; cases e
 | program k ih => intro e; exact ih _ e
 | mark m k ih => intro e; exact ih e
 | halt x => intro e; cases e
def Sub (g h : H) : Prop := ∀ i o, hget g i = some o -> hget h i = some o
theorem Sub.refl (h : H) : Sub h h := fun _ _ e => e
theorem Sub.trans {a b c : H} (x : Sub a b) (y : Sub b c) : Sub a c := fun i o e => y i o (x i o e)
theorem Sub.cons {g h : H} {j : Nat} {o : Obj} (hj : hget h j = none) (s : Sub g h) : Sub g ((j, o) :: h) := fun i x e => by
 rw [zM]
 have := s i x e
 rw [if_neg (fun e2 => by rw [show i = j from e2, hj] at this; cases this)]
 exact this
theorem Sub.cons2 {g h : H} {j : Nat} {o : Obj} (s : Sub g h) : Sub ((j, o) :: g) ((j, o) :: h) := fun i x e => by
 rw [zM] at e ⊢
 split
 ·rename_i c; rw [if_pos c] at e; exact e
 ·rename_i c; rw [if_neg c] at e; exact s i x e
theorem Sub.none' {g h : H} (s : Sub g h) {i : Nat} (hn : hget h i = none) : hget g i = none := by
 cases e : hget g i with
 | none => rfl
 | some o => rw [s i o e] at hn; cases hn
theorem Sub.upd {g h : H} (s : Sub g h) {b : Nat} {o : Obj} (hb : hget g b ≠ none) : Sub (hupd g b o) (hupd h b o) := fun i x e => by
 by_cases c : i = b
 ·subst c
  cases eg : hget g i with
  | none => exact absurd eg hb
  | some y =>
   rw [zH eg] at e
   rw [zH (s i y eg)]; exact e
 ·rw [qS c] at e ⊢
  exact s i x e
theorem Sat.sub {g h : H} {w : World} (s : Sat h w) (sb : Sub g h) : Sat g w := fun i o e => s i o (sb i o e)
theorem Sub.cell {g h : H} (s : Sub g h) {a : Addr} {v : Value} (e : vP g a = some v) : vP h a = some v := by
 unfold vP at e ⊢
 cases eg : hget g a.block with
 | none => rw [eg] at e; cases e
 | some o => rw [eg] at e; rw [s _ o eg]; exact e
theorem Pst.sub {h h' g : H} {w w' : World} (p : Pst h w h' w') (s : Sub g h') : Pst h w g w' := p.drop s
theorem Pst.more {g h h' : H} {w w' : World} (p : Pst g w h' w') (s : Sub g h) : Pst h w h' w' :=
 ⟨p.sat, p.os, p.tape, p.output, p.size, fun i hi hn => p.keep i hi (s.none' hn), fun i hi => (p.new i hi).imp (fun x y => x (s.none' y)) id⟩
def dP {α : Type} (Q : α -> H -> Prop) : α -> H -> Prop := fun a h => ∃ g, Sub g h /\ Q a g
theorem dP.of {α : Type} {Q : α -> H -> Prop} {a : α} {h : H} (q : Q a h) : dP Q a h := ⟨h, .refl h, q⟩
theorem zDH {α : Type} {P : Program} (s : Sem α) : ∀ {Q Q' : α -> H -> Prop} {E E' : Value -> H -> Prop} {g h : H}, Sub g h -> (∀ a g h, Sub g h -> Q a g -> Q' a h) -> (∀ v g h, Sub g h -> E v g -> E' v h) -> SH P s Q E g -> SH P s Q' E' h := by
 induction s with
 | pure a => intro Q Q' E E' g h sb hq he hs; exact hq _ _ _ sb hs
 | load m a k ih =>
  intro Q Q' E E' g h sb hq he hs
  simp only [SH] at hs ⊢
  split at hs
  ·rename_i v hv; rw [sb.cell hv]; exact ih v sb hq he hs
  ·exact hs.elim
 | store m a v k ih =>
  intro Q Q' E E' g h sb hq he hs
  simp only [SH] at hs ⊢
  refine ⟨hs.1, ?_⟩
  have h2 := hs.2
  split at h2
  ·rename_i o ho
   rw [sb _ _ ho]
   refine ⟨?_, h2.2.1, ih (sb.upd (by rw [ho]; simp)) hq he h2.2.2⟩
   obtain ⟨v, hv⟩ := Option.isSome_iff_exists.1 h2.1
   rw [sb.cell hv]; rfl
  ·exact h2.elim
 | new o k ih => intro Q Q' E E' g h sb hq he hs; exact fun i hi => ih i sb.cons2 hq he (hs i (sb.none' hi))
 | shape r k ih =>
  intro Q Q' E E' g h sb hq he hs
  simp only [SH] at hs ⊢
  split at hs
  ·rename_i e; rw [sb _ _ e]; exact ih _ sb hq he hs
  ·rename_i o e ho
   rw [sb _ _ ho]
   cases o with
   | cells a b c => exact absurd rfl (e a b c)
   | _ => exact ih _ sb hq he hs
  ·exact hs.elim
 | freeze a n k ih =>
  intro Q Q' E E' g h sb hq he hs
  simp only [SH] at hs ⊢
  split at hs
  ·rename_i hn; rw [if_pos hn]; exact ih sb hq he hs
  ·rename_i hn
   rw [if_neg hn]
   split at hs
   ·rename_i o ho; rw [sb _ _ ho]; exact ih (sb.upd (by rw [ho]; simp)) hq he hs
   ·exact hs.elim
 | frozen a k ih =>
  intro Q Q' E E' g h sb hq he hs
  simp only [SH] at hs ⊢
  split at hs
  ·rename_i o ho; rw [sb _ _ ho]; exact ih _ sb hq he hs
  ·exact hs.elim
 | getObj r k ih =>
  intro Q Q' E E' g h sb hq he hs
  simp only [SH] at hs ⊢
  split at hs
  ·exact hs.elim
  ·rename_i o e ho
   rw [sb _ _ ho]
   cases o with
   | cells a b c => exact absurd rfl (e a b c)
   | _ => exact ih _ sb hq he hs
  ·exact hs.elim
 | setObj r o k ih =>
  intro Q Q' E E' g h sb hq he hs
  simp only [SH] at hs ⊢
  split at hs
  ·exact hs.elim
  ·rename_i x e ho
   rw [sb _ _ ho]
   cases x with
   | cells a b c => exact absurd rfl (e a b c)
   | _ => exact ih (sb.upd (by rw [ho]; simp)) hq he hs
  ·exact hs.elim
 | choose q k ih =>
  intro Q Q' E E' g h sb hq he hs
  simp only [SH] at hs ⊢
  split at hs
  ·rename_i hf; rw [if_pos hf]; exact ih _ sb hq he hs
  ·rename_i hf; rw [if_neg hf]; exact fun t => ih _ sb hq he (hs t)
 | sys c k ih => intro Q Q' E E' g h sb hq he hs; exact hs.elim
 | program k ih => intro Q Q' E E' g h sb hq he hs; exact ih _ sb hq he hs
 | mark m k ih => intro Q Q' E E' g h sb hq he hs; exact ih sb hq he hs
 | halt x =>
  intro Q Q' E E' g h sb hq he hs
  cases x <;> first | exact he _ _ _ sb hs | exact hs.elim
def HCalls (P : Program) (f : FuncId) (args : Array Value) (h : H) (R : Ending -> H -> Prop) : Prop :=
 ∀ w, Sat h w -> Calls P f args w (fun e w' => ∃ h', R e h' /\ Pst h w h' w')
theorem HCalls.mono {P : Program} {f : FuncId} {args : Array Value} {h : H} {R R' : Ending -> H -> Prop} (c : HCalls P f args h R) (hr : ∀ e h', R e h' -> R' e h') : HCalls P f args h R' :=
 fun w s => (c w s).mono fun e w' ⟨h', r, p⟩ => ⟨h', hr _ _ r, p⟩
theorem HCalls.weaken {P : Program} {f : FuncId} {args : Array Value} {g h : H} {R : Ending -> H -> Prop} (sb : Sub g h) (c : HCalls P f args g R) : HCalls P f args h R :=
 fun w s => (c w (s.sub sb)).mono fun e w' ⟨h', r, p⟩ => ⟨h', r, p.more sb⟩
theorem HCalls.drop {P : Program} {f : FuncId} {args : Array Value} {h : H} {R : Ending -> H -> Prop} (c : HCalls P f args h (dP R)) : HCalls P f args h R :=
 fun w s => (c w s).mono fun e w' ⟨h', ⟨g, sb, r⟩, p⟩ => ⟨g, r, p.sub sb⟩
def HRows (P : Program) (row : String) (args : Array Value) (h : H) (R : Value -> H -> Prop) : Prop :=
 ∀ w, Sat h w -> RowsIn Fence.wide 0 P row args w (fun v w' => ∃ h', R v h' /\ Pst h w h' w')
def HRound (P : Program) (l : Nat) (f : FuncId) (tmps : Array Value) (assign body : Code) (h : H) (R : Ending -> H -> Prop) : Prop :=
 ∀ w, Sat h w -> RoundIn Fence.wide 0 P l f tmps assign body w (fun e w' => ∃ h', R e h' /\ Pst h w h' w')
theorem HRound.weaken {P : Program} {l : Nat} {f : FuncId} {tmps : Array Value} {a b : Code} {g h : H} {R : Ending -> H -> Prop} (sb : Sub g h) (c : HRound P l f tmps a b g R) : HRound P l f tmps a b h R :=
 fun w s => RoundIn.mono (c w (s.sub sb)) fun e w' ⟨h', r, p⟩ => ⟨h', r, p.more sb⟩
theorem HRound.mono {P : Program} {l : Nat} {f : FuncId} {tmps : Array Value} {a b : Code} {h : H} {R R' : Ending -> H -> Prop} (c : HRound P l f tmps a b h R) (hr : ∀ e h', R e h' -> R' e h') : HRound P l f tmps a b h R' :=
 fun w s => RoundIn.mono (c w s) fun e w' ⟨h', r, p⟩ => ⟨h', hr _ _ r, p⟩
def YieldH (P : Program) (l : Nat) (args : List Value) (h : H) (R : Ending -> H -> Prop) : Prop :=
 ∃ r, hget h l = some (.loop r) /\ args.length = r.params.size /\ HRound P l r.fn ((r.params.zip args.toArray).foldl (fun tmps (t, a) => tmps.setIfInBounds t a) r.tmps) r.assign r.body h R
theorem YieldH.mono {P : Program} {l : Nat} {args : List Value} {h : H} {R R' : Ending -> H -> Prop} (c : YieldH P l args h R) (hr : ∀ e h', R e h' -> R' e h') : YieldH P l args h R' := by
 obtain ⟨r, h1, h2, h3⟩ := c
 exact ⟨r, h1, h2, h3.mono hr⟩
def FR : Option Nat -> Fence
 | none => Fence.wide
 | some l => Fence.wide.inRound l
theorem FR_fn (ro : Option Nat) (f : FuncId) : (FR ro).fn f := by cases ro <;> trivial
theorem zJU (ro : Option Nat) : (FR ro).round = ro := by cases ro <;> rfl
theorem qKH (ro : Option Nat) : (FR ro).depth.isSome = true -> 1 <= 0 := by cases ro <;> (intro h; simp [FR, Fence.wide, Fence.inRound] at h)
theorem zJV {ro : Option Nat} {n : Nat} {P : Program} {f : FuncId} {args : Array Value} {w : World} {R : Ending -> World -> Prop} (h : Calls P f args w R) : CallsIn (FR ro) n P f args w R := by cases ro <;> exact callsIn_wide.2 h
theorem FR_rows {ro : Option Nat} {n : Nat} {P : Program} {r : String} {args : Array Value} {w : World} {R : Value -> World -> Prop} (h : RowsIn Fence.wide n P r args w R) : RowsIn (FR ro) n P r args w R := by cases ro <;> exact h
theorem zDM {ro : Option Nat} {n : Nat} {P : Program} {l : Nat} {f : FuncId} {tmps : Array Value} {a b : Code} {w : World} {R : Ending -> World -> Prop} (h : RoundIn Fence.wide n P l f tmps a b w R) : RoundIn (FR ro) n P l f tmps a b w R := by cases ro <;> exact h
def defersB : Op -> Bool
 | .defer _ => true
 | _ => false
def okR (ro : Option Nat) (o : Oper) : Prop := ro = none ∨ defersB o.op = false
theorem FR_sem {ro : Option Nat} {o : Oper} (h : okR ro o) (ρ : Operand -> Value) : o.semAt (FR ro).round ρ = execOp ρ o := by
 rw [zJU]
 rcases h with rfl | h
 ·rfl
 ·exact Oper.semAt_eq _ _ _ fun c e => by rw [e] at h; cases h
def lift (h0 : H) (w0 : World) (Q : Exit -> Act -> H -> Prop) : Exit -> Act -> World -> Prop := fun e a w => ∃ h', Q e a h' /\ Pst h0 w0 h' w
def qYQ (K : Act -> H -> Prop) (Q : Exit -> Act -> H -> Prop) (o : Oper) (a : Act) : Ending -> H -> Prop
 | .returned v, h => K (a.put o.dst v) h
 | .panicked c, h => Q (.panic c) a h
 | .outgrown, _ => False
def qXV (P : Program) (o : Oper) (a : Act) (K : Act -> H -> Prop) (Q : Exit -> Act -> H -> Prop) : Next -> H -> Prop
 | .value v, h => K (a.put o.dst v) h
 | .skip, h => K (a.put o.dst undef) h
 | .defer d, h => K ({ a with defers := d :: a.defers }.put o.dst undef) h
 | .enter f args, h => HCalls P f args h (qYQ K Q o a)
 | .row row args, h => HRows P row args h fun v h' => K (a.put o.dst v) h'
 | .round l f tmps assign body, h => HRound P l f tmps assign body h (qYQ K Q o a)
 | _, _ => False
def opH (P : Program) (o : Oper) (a : Act) (h : H) (K : Act -> H -> Prop) (Q : Exit -> Act -> H -> Prop) : Prop :=
 SH P (execOp a.eval o) (qXV P o a K Q) (fun v h' => Q (.panic [{ v, recovered := false }]) a h') h
theorem qLY {ro : Option Nat} {P : Program} {o : Oper} {a : Act} {h h0 : H} {w w0 : World} {K : Act -> H -> Prop} {Q : Exit -> Act -> H -> Prop} (hr0 : okR ro o) (ho : opH P o a h K Q) (p : Pst h0 w0 h w) :
  o.wpIn (FR ro) 0 P a w (fun a' w' => ∃ h', K a' h' /\ Pst h0 w0 h' w') (lift h0 w0 Q) := by
 unfold opH at ho
 unfold Oper.wpIn
 refine ⟨fun f _ => FR_fn _ f, ?_⟩
 rw [FR_sem hr0]
 rcases zJS _ ho p.sat with ⟨n, w', h', hr, hq, hp⟩ | ⟨v, w', h', hr, hq, hp⟩
 ·rw [hr]
  have hp' := p.trans hp
  cases n <;> simp only [qXV] at hq <;> simp only [Oper.uponIn]
  case value v => exact ⟨h', hq, hp'⟩
  case skip => exact ⟨h', hq, hp'⟩
  case defer d => exact ⟨h', hq, hp'⟩
  case enter f args =>
   refine ⟨qKH _, zJV (Calls.mono (hq w' hp.sat) fun e w'' ⟨h'', r, p2⟩ => ?_)⟩
   cases e with
   | returned v => exact ⟨h'', r, hp'.trans p2⟩
   | panicked c => exact ⟨h'', r, hp'.trans p2⟩
   | outgrown => exact r.elim
  case row row args => exact ⟨qKH _, FR_rows (RowsIn.mono (hq w' hp.sat) fun v w'' ⟨h'', r, p2⟩ => ⟨h'', r, hp'.trans p2⟩)⟩
  case round l f tmps assign body =>
   refine ⟨qKH _, zDM (RoundIn.mono (hq w' hp.sat) fun e w'' ⟨h'', r, p2⟩ => ?_)⟩
   cases e with
   | returned v => exact ⟨h'', r, hp'.trans p2⟩
   | panicked c => exact ⟨h'', r, hp'.trans p2⟩
   | outgrown => exact r.elim
 ·rw [hr]
  exact ⟨h', hq, p.trans hp⟩
def qBI (P : Program) (ops : Array Oper) (Q : Exit -> Act -> H -> Prop) : List Oper -> Act -> H -> Prop
 | [], a, h => Q .normal a h
 | o :: rest, a, h => if Region.wanted o (yielded ops a.tmps) = true then opH P o a h (qBI P ops Q rest) Q else qBI P ops Q rest (a.put o.dst undef) h
theorem qRB {ro : Option Nat} {P : Program} {ops : Array Oper} {h0 : H} {w0 : World} {Q : Exit -> Act -> H -> Prop} : ∀ (l : List Oper) (a : Act) (h : H) (w : World), (∀ o ∈ l, okR ro o) -> qBI P ops Q l a h -> Pst h0 w0 h w -> wpListIn (FR ro) 0 P ops (lift h0 w0 Q) l a w := by
 intro l
 induction l with
 | nil => intro a h w _ hl p; exact ⟨h, hl, p⟩
 | cons o rest ih =>
  intro a h w hd hl p
  simp only [qBI] at hl
  simp only [wpListIn]
  split at hl
  ·rename_i hw
   rw [if_pos hw]
   exact Oper.wpIn_mono (fun a' w' ⟨h', k, p'⟩ => ih a' h' w' (fun o ho => hd o (List.mem_cons_of_mem _ ho)) k p') (qLY (hd o List.mem_cons_self) hl p)
  ·rename_i hw
   rw [if_neg hw]
   exact ⟨fun f _ => FR_fn _ f, ih _ _ _ (fun o ho => hd o (List.mem_cons_of_mem _ ho)) hl p⟩
theorem HRows.weaken {P : Program} {r : String} {args : Array Value} {g h : H} {R : Value -> H -> Prop} (sb : Sub g h) (c : HRows P r args g R) : HRows P r args h R :=
 fun w s => RowsIn.mono (c w (s.sub sb)) fun e w' ⟨h', r, p⟩ => ⟨h', r, p.more sb⟩
theorem qEE {P : Program} {ops : Array Oper} {Q : Exit -> Act -> H -> Prop} : ∀ (l : List Oper) (a : Act) (g h : H), Sub g h -> qBI P ops (fun e => dP (Q e)) l a g -> qBI P ops (fun e => dP (Q e)) l a h := by
 have tr : ∀ {e : Exit} {a : Act} {g h : H}, Sub g h -> dP (Q e) a g -> dP (Q e) a h := fun sb ⟨g', s', q⟩ => ⟨g', s'.trans sb, q⟩
 intro l
 induction l with
 | nil => intro a g h sb x; exact tr sb x
 | cons o l ih =>
  intro a g h sb x
  simp only [qBI] at x ⊢
  split at x
  ·rename_i hw
   rw [if_pos hw]
   refine zDH _ sb ?_ (fun v g h sb => tr sb) x
   intro n g h sb hn
   cases n <;> simp only [qXV] at hn ⊢
   case value v => exact ih _ _ _ sb hn
   case skip => exact ih _ _ _ sb hn
   case defer d => exact ih _ _ _ sb hn
   case enter f args => exact hn.weaken sb
   case row row args => exact hn.weaken sb
   case round l f t x y => exact hn.weaken sb
  ·rename_i hw
   rw [if_neg hw]
   exact ih _ _ _ sb x
def HC (ro : Option Nat) (P : Program) (c : Code) (Q : Exit -> Act -> H -> Prop) (a : Act) (h : H) : Prop :=
 ∀ h0 w0 w, Pst h0 w0 h w -> c.wpIn (FR ro) 0 P (lift h0 w0 Q) a w
theorem HC.mono {ro : Option Nat} {P : Program} {c : Code} {Q Q' : Exit -> Act -> H -> Prop} {a : Act} {h : H} (k : HC ro P c Q a h) (hq : ∀ e a h, Q e a h -> Q' e a h) : HC ro P c Q' a h :=
 fun h0 w0 w p => wpIn_mono (k h0 w0 w p) fun e a' w' ⟨h', q, p'⟩ => ⟨h', hq _ _ _ q, p'⟩
theorem HC.weaken {ro : Option Nat} {P : Program} {c : Code} {Q : Exit -> Act -> H -> Prop} {a : Act} {g h : H} (sb : Sub g h) (k : HC ro P c Q a g) : HC ro P c Q a h :=
 fun h0 w0 w p => k h0 w0 w (p.sub sb)
theorem HC.drop {ro : Option Nat} {P : Program} {c : Code} {Q : Exit -> Act -> H -> Prop} {a : Act} {h : H} (k : HC ro P c (fun e => dP (Q e)) a h) : HC ro P c Q a h :=
 fun h0 w0 w p => wpIn_mono (k h0 w0 w p) fun e a' w' ⟨h', ⟨g, sb, q⟩, p'⟩ => ⟨g, q, p'.sub sb⟩
def seqK (N : Act -> H -> Prop) (Q : Exit -> Act -> H -> Prop) : Exit -> Act -> H -> Prop
 | .normal, a, h => N a h
 | e, a, h => Q e a h
def blkK (id : Nat) (Q : Exit -> Act -> H -> Prop) : Exit -> Act -> H -> Prop
 | .exit id', a, h => if id' = id then Q .normal a h else Q (.exit id') a h
 | e, a, h => Q e a h
theorem HC_skip {ro : Option Nat} {P : Program} {Q : Exit -> Act -> H -> Prop} {a : Act} {h : H} (q : Q .normal a h) : HC ro P .skip Q a h := fun _ _ _ p => wpIn_skip ⟨h, q, p⟩
theorem HC_ret {ro : Option Nat} {P : Program} {Q : Exit -> Act -> H -> Prop} {a : Act} {h : H} (q : Q .ret a h) : HC ro P .ret Q a h := fun _ _ _ p => wpIn_ret ⟨h, q, p⟩
theorem HC_exit {ro : Option Nat} {P : Program} {id : Nat} {Q : Exit -> Act -> H -> Prop} {a : Act} {h : H} (q : Q (.exit id) a h) : HC ro P (.exit id) Q a h := fun _ _ _ p => wpIn_exit ⟨h, q, p⟩
theorem qXG {ro : Option Nat} {P : Program} {x y : Code} {Q : Exit -> Act -> H -> Prop} {a : Act} {h : H} (k : HC ro P x (seqK (HC ro P y Q) Q) a h) : HC ro P (.seq x y) Q a h := by
 intro h0 w0 w p
 refine wpIn_seq (wpIn_mono (k h0 w0 w p) ?_)
 rintro e a' w' ⟨h', q, p'⟩
 cases e <;> simp only [seqK] at q <;> simp only [Exit.then]
 case normal => exact q h0 w0 w' p'
 all_goals exact ⟨h', q, p'⟩
theorem qYZ {ro : Option Nat} {P : Program} {c : Operand} {x y : Code} {Q : Exit -> Act -> H -> Prop} {a : Act} {h : H} {t : Bool} (hc : a.eval c = .bool t) (k : HC ro P (if t then x else y) Q a h) : HC ro P (.cond c x y) Q a h :=
 fun h0 w0 w p => wpIn_cond hc (k h0 w0 w p)
theorem qTM {ro : Option Nat} {P : Program} {id : Nat} {c : Code} {Q : Exit -> Act -> H -> Prop} {a : Act} {h : H} (k : HC ro P c (blkK id Q) a h) : HC ro P (.block id c) Q a h := by
 intro h0 w0 w p
 refine wpIn_block (wpIn_mono (k h0 w0 w p) ?_)
 rintro e a' w' ⟨h', q, p'⟩
 cases e <;> simp only [blkK] at q <;> simp only [Exit.inBlock]
 case exit id' =>
  split
  ·rename_i e; rw [if_pos e] at q; exact ⟨h', q, p'⟩
  ·rename_i e; rw [if_neg e] at q; exact ⟨h', q, p'⟩
 all_goals exact ⟨h', q, p'⟩
theorem qYX {ro : Option Nat} {P : Program} {c : Code} {Q : Exit -> Act -> H -> Prop} {a : Act} {h : H} (J : Nat -> Act -> H -> Prop) (n : Nat) (h0 : J n a h)
  (round : ∀ n a h, J n a h -> HC ro P c (seqK (fun a' h' => ∃ m, m < n /\ J m a' h') Q) a h) : HC ro P (.loop c) Q a h := by
 intro hh w0 w p b k cs hro hb hr
 have key : ∀ n a h w, J n a h -> Pst hh w0 h w ->
   ∃ e a' w', lift hh w0 Q e a' w' /\ ArrivesIn (Machine.fenced P (FR ro)) P (lone (b.atR a (.code c :: .inLoop c :: k)) cs w) b k cs e a' w' := by
  intro n
  induction n using Nat.strongRecOn with
  | _ n ih =>
   intro a h w hI hp
   obtain ⟨e, a₁, w₁, ⟨h1, hq, hp1⟩, harr⟩ := round n a h hI hh w0 w hp b (.inLoop c :: k) cs hro hb hr
   cases e with
   | normal =>
    obtain ⟨m, hlt, hI₁⟩ := hq
    obtain ⟨e₂, a₂, w₂, hq₂, harr₂⟩ := ih m hlt a₁ h1 w₁ hI₁ hp1
    exact ⟨e₂, a₂, w₂, hq₂, .of_steps (StepsIn.trans harr (.one (fenced_calm hb hr rfl) stepR_inLoop)) harr₂⟩
   | exit id => exact ⟨_, a₁, w₁, ⟨h1, hq, hp1⟩, .pass (x := .inLoop c) rfl (fun _ _ => .inl (by simp)) harr⟩
   | goto l => exact ⟨_, a₁, w₁, ⟨h1, hq, hp1⟩, .pass (x := .inLoop c) rfl (fun _ _ => .inl (by simp)) harr⟩
   | ret => exact ⟨_, a₁, w₁, ⟨h1, hq, hp1⟩, .pass (x := .inLoop c) rfl (fun _ _ => .inl (by simp)) harr⟩
   | panic ch => exact ⟨_, a₁, w₁, ⟨h1, hq, hp1⟩, .pass (x := .inLoop c) rfl (fun _ _ => .inl (by simp)) harr⟩
   | outgrown => exact ⟨_, a₁, w₁, ⟨h1, hq, hp1⟩, .pass (x := .inLoop c) rfl (fun _ _ => .inl (by simp)) harr⟩
 obtain ⟨e, a', w', hq, harr⟩ := key n a h w h0 p
 exact ⟨e, a', w', hq, .of_steps (.one (fenced_calm hb hr rfl) stepR_loop) harr⟩
theorem zDL {ro : Option Nat} {P : Program} {id : Nat} {ops : Array Oper} {Q : Exit -> Act -> H -> Prop} {a : Act} {h : H} (hd : ∀ o ∈ ops.toList, okR ro o) (k : qBI P ops Q ops.toList a h) : HC ro P (.region id ops false) Q a h :=
 fun h0 w0 w p => wpIn_region_list (qRB _ _ _ _ hd k p)
def qYS (P : Program) (fn : Func) (R : Ending -> H -> Prop) : Exit -> Act -> H -> Prop
 | .normal, a, h | .ret, a, h => a.defers = [] /\ ∃ v, evH P (results fn a.tmps) h = some v /\ R (.returned v) h
 | .panic chain, a, h => a.defers = [] /\ R (.panicked chain) h
 | _, _, _ => False
theorem qBT {P : Program} {f : FuncId} {fn : Func} {c : Code} {args : Array Value} {h : H} {R : Ending -> H -> Prop} (hf : P.funcs[f]? = some fn) (hb : fn.body = some c)
  (k : HC none P c (qYS P fn R) { tmps := args ++ Array.replicate (fn.ntmps - args.size) undef, defers := [] } h) : HCalls P f args h R := by
 intro w s
 refine callsIn_wide.1 (callsIn_of_wp (n := 0) hf hb trivial (wpIn_mono (k h w w (.refl s)) ?_))
 rintro e a w' ⟨h', q, p⟩
 cases e <;> simp only [qYS] at q <;> simp only [bodyPost]
 case normal => obtain ⟨hd, v, hr, r⟩ := q; exact ⟨hd, v, qYI _ p.sat hr, h', r, p⟩
 case ret => obtain ⟨hd, v, hr, r⟩ := q; exact ⟨hd, v, qYI _ p.sat hr, h', r, p⟩
 case panic ch => exact ⟨q.1, h', q.2, p⟩
 all_goals exact q.elim
end Go.Tk
end

section
namespace Go.Tk
open Go
section
variable {P : Program} {E : Value -> H -> Prop} {h : H}
theorem qQ {t : TypeId} {d : TypeDesc} {Q : TypeDesc -> H -> Prop} (e : P.underlying t = some d) : SH P (underlying t) Q E h = Q d h := by
 simp only [underlying, program, qH, SH, e]; rfl
theorem uV {t : TypeId} {i : TypeInfo} {Q : TypeInfo -> H -> Prop} (e : P.info? t = some i) : SH P (typeInfo t) Q E h = Q i h := by
 simp only [typeInfo, program, qH, SH, e]; rfl
theorem xG {t : TypeId} {i : TypeInfo} {Q : Nat -> H -> Prop} (e : P.info? t = some i) : SH P (sizeOf t) Q E h = Q i.size h := by
 simp only [sizeOf, qH, uV e]; rfl
theorem xJ {t : TypeId} {i : TypeInfo} {z : Value} {Q : Value -> H -> Prop} (e : P.info? t = some i) (ez : i.zero = some z) : SH P (zeroValue t) Q E h = Q z h := by
 simp only [zeroValue, qH, uV e, ez]; rfl
def aggD : TypeDesc -> Bool
 | .struct _ | .array _ _ => true
 | _ => false
theorem qTL {t : TypeId} {d : TypeDesc} {Q : Bool -> H -> Prop} (e : P.underlying t = some d) : SH P (isAgg t) Q E h = Q (aggD d) h := by
 simp only [isAgg, qH, qQ e]
 cases d <;> rfl
theorem qYW {a : Addr} {m : Mode} {Q : Value -> H -> Prop} : SH P (load a m) Q E h = match vP h a with | some v => Q v h | none => False := by
 simp only [load, SH]
 all_goals (cases vP h a <;> rfl)
theorem kY {o : Obj} {Q : Nat -> H -> Prop} : SH P (newObj o) Q E h = ∀ i, hget h i = none -> Q i ((i, o) :: h) := rfl
end
theorem vC (b o n : Nat) : (⟨b, o, none⟩ : Addr).add n = ⟨b, o + n, none⟩ := by
 unfold Addr.add
 split
 ·rename_i e; subst e; rfl
 ·rfl
def blk (l : List Value) (e : TypeId) : Obj := .cells l.toArray e (0, 0)
def qGH (o : Obj) (k n : Nat) : Option (List Value) :=
 match o with
 | .cells c _ _ => if k + n <= c.size then some ((c.toList.drop k).take n) else none
 | _ => none
theorem qBY (l : List Value) (e : TypeId) (k n : Nat) : qGH (blk l e) k n = if k + n <= l.length then some ((l.drop k).take n) else none := by
 simp [qGH, blk]
def qV (h : H) (b k n : Nat) : Option (List Value) := (hget h b).bind fun o => qGH o k n
def hcel (h : H) (b k : Nat) : Option Value := (hget h b).bind fun o => match o with | .cells c _ _ => c[k]? | _ => none
theorem qAN (h : H) (b k : Nat) : vP h ⟨b, k, none⟩ = hcel h b k := by
 unfold vP hcel
 cases hget h b with
 | none => rfl
 | some o => cases o <;> rfl
theorem qCD {h : H} {b k n : Nat} {l : List Value} (hr : qV h b k n = some l) : l.length = n /\ ∀ j, j < n -> hcel h b (k + j) = l[j]? := by
 unfold qV at hr
 cases e : hget h b with
 | none => rw [e] at hr; cases hr
 | some o =>
  rw [e] at hr
  cases o <;> simp [qGH] at hr
  rename_i c t f
  obtain ⟨hle, rfl⟩ := hr
  refine ⟨by simp; omega, fun j hj => ?_⟩
  simp [hcel, e, List.getElem?_take, hj, List.getElem?_drop]
theorem qFO {P : Program} {E : Value -> H -> Prop} {h : H} {b : Nat} : ∀ (n i k : Nat) (acc : Array Value) (l : List Value) {Q : Array Value -> H -> Prop}, l.length = n -> (∀ j, j < n -> hcel h b (k + i + j) = l[j]?) ->
  SH P (loadCellsFrom ⟨b, k, none⟩ i n acc) Q E h = Q (acc ++ l.toArray) h := by
 intro n
 induction n with
 | zero => intro i k acc l Q hl _; have : l = [] := List.eq_nil_of_length_eq_zero hl; subst this; show Q acc h = _; simp only [Array.append_empty]
 | succ n ih =>
  intro i k acc l Q hl hc
  cases l with
  | nil => cases hl
  | cons v l =>
   have h0 := hc 0 (by omega)
   simp only [Nat.add_zero, List.getElem?_cons_zero] at h0
   simp only [loadCellsFrom, qH, qYW, vC, qAN, h0]
   rw [ih (i + 1) k (acc.push v) l (by simpa using hl) (fun j hj => by have := hc (j + 1) (by omega); simpa [Nat.add_assoc, Nat.add_comm 1 j] using this)]
   congr 1
   simp
theorem qAS {P : Program} {E : Value -> H -> Prop} {h : H} {b k n : Nat} {l : List Value} {Q : Array Value -> H -> Prop} (hr : qV h b k n = some l) : SH P (loadCells ⟨b, k, none⟩ n) Q E h = Q l.toArray h := by
 obtain ⟨hl, hc⟩ := qCD hr
 unfold loadCells
 rw [qFO n 0 k #[] l hl (fun j hj => by simpa using hc j hj)]
 simp
def qJ : List Value -> Nat -> List Value -> List Value
 | l, _, [] => l
 | [], _, _ :: _ => []
 | _ :: l, 0, v :: vs => v :: qJ l 0 vs
 | x :: l, k + 1, v :: vs => x :: qJ l k (v :: vs)
theorem qAC (l : List Value) (k : Nat) : qJ l k [] = l := by cases l <;> cases k <;> rfl
theorem qQI (x : Value) (l : List Value) (v : Value) (vs : List Value) : qJ (x :: l) 0 (v :: vs) = v :: qJ l 0 vs := rfl
theorem jZ (x : Value) (l : List Value) (k : Nat) (vs : List Value) : qJ (x :: l) (k + 1) vs = x :: qJ l k vs := by cases vs <;> simp [qJ]
theorem qKP : ∀ (l : List Value) (k : Nat) (vs : List Value), (qJ l k vs).length = l.length := by
 intro l
 induction l with
 | nil => intro k vs; cases vs <;> simp [qJ]
 | cons x l ih => intro k vs; cases vs with
  | nil => simp [qJ]
  | cons v vs => cases k <;> simp [qJ, ih]
theorem qBB : ∀ (l : List Value) (k : Nat) (v : Value) (vs : List Value), qJ l k (v :: vs) = qJ (l.set k v) (k + 1) vs := by
 intro l
 induction l with
 | nil => intro k v vs; cases vs <;> simp [qJ]
 | cons x l ih =>
  intro k v vs
  cases k with
  | zero => simp only [qJ, List.set_cons_zero]; rw [jZ]
  | succ k => simp only [qJ, List.set_cons_succ]; rw [ih, jZ]
theorem qCV (l : List Value) (k : Nat) (v : Value) : qJ l k [v] = l.set k v := by rw [qBB, qAC]
theorem qBX : ∀ (l : List Value) (k : Nat) (vs : List Value), k + vs.length <= l.length -> qJ l k vs = l.take k ++ vs ++ l.drop (k + vs.length) := by
 intro l
 induction l with
 | nil => intro k vs hk; have : vs = [] := List.eq_nil_of_length_eq_zero (by simp only [List.length_nil] at hk; omega); subst this; simp [qJ]
 | cons x l ih =>
  intro k vs hk
  cases vs with
  | nil => simp [qJ]
  | cons v vs =>
   cases k with
   | zero => simp only [qJ]; rw [ih 0 vs (by simp at hk; omega)]; simp
   | succ k =>
    simp only [qJ]; rw [ih k (v :: vs) (by simp at hk ⊢; omega)]
    simp [Nat.add_right_comm k 1]
def qGE (o : Obj) (k : Nat) (vs : List Value) : Option Obj :=
 match o with
 | .cells c e f => if k + vs.length <= c.size /\ (f.2 <= k ∨ k + vs.length <= f.1) then some (.cells (qJ c.toList k vs).toArray e f) else none
 | _ => none
theorem kM (l : List Value) (e : TypeId) (k : Nat) (vs : List Value) : qGE (blk l e) k vs = if k + vs.length <= l.length then some (blk (qJ l k vs) e) else none := by
 simp [qGE, blk]
def zQ (h : H) (b k : Nat) (vs : List Value) : Option H := (hget h b).bind fun o => (qGE o k vs).map (hupd h b)
theorem qCC (p : Nat × Obj) (t : H) (i : Nat) (o : Obj) : hupd (p :: t) i o = if i = p.1 then (p.1, o) :: t else p :: hupd t i o := rfl
theorem qML (h : H) (b : Nat) (o o' : Obj) : hupd (hupd h b o) b o' = hupd h b o' := by
 induction h with
 | nil => rfl
 | cons p t ih =>
  simp only [qCC]
  by_cases e : b = p.1
  ·simp [e, qCC]
  ·simp only [e, if_false, qCC, ih]
theorem qFQ : ∀ (h : H) (b : Nat) (o : Obj), hget h b = some o -> hupd h b o = h := by
 intro h
 induction h with
 | nil => intro b o hh; rfl
 | cons p t ih =>
  intro b o hh
  rw [zM] at hh
  unfold hupd
  by_cases e : b = p.1
  ·rw [if_pos e] at hh ⊢; cases hh; rfl
  ·rw [if_neg e] at hh ⊢; rw [ih b o hh]
theorem qKO {P : Program} {E : Value -> H -> Prop} {b : Nat} : ∀ (vs : List Value) (i k : Nat) (h h' : H) {Q : Unit -> H -> Prop}, vs.all vone = true -> zQ h b (k + i) vs = some h' -> SH P (storeCells ⟨b, k, none⟩ vs i) Q E h = Q () h' := by
 intro vs
 induction vs with
 | nil =>
  intro i k h h' Q _ hw
  have : h' = h := by
   unfold zQ at hw
   cases e : hget h b with
   | none => rw [e] at hw; cases hw
   | some o =>
    rw [e] at hw
    cases o <;> simp [qGE] at hw
    obtain ⟨_, rfl⟩ := hw
    simp only [qAC, Array.toArray_toList]
    exact qFQ _ _ _ e
  subst this
  simp [storeCells, qU]
 | cons v vs ih =>
  intro i k h h' Q hv hw
  simp only [List.all_cons, Bool.and_eq_true] at hv
  unfold zQ at hw
  cases e : hget h b with
  | none => rw [e] at hw; cases hw
  | some o =>
   rw [e] at hw
   cases o <;> simp [qGE] at hw
   rename_i c t f
   obtain ⟨⟨hle, hfz⟩, rfl⟩ := hw
   have hlt : k + i < c.size := by omega
   have vP : vP h ⟨b, k + i, none⟩ = some c[k + i] := by simp [vP, e, hlt]
   have hfr : qJL ⟨b, k + i, none⟩ (.cells c t f) = false := by
    obtain ⟨lo, hi⟩ := f
    simp only [qJL, Bool.and_eq_false_iff, decide_eq_false_iff_not]
    simp at hfz
    omega
   have hw2 : zQ (hupd h b (.cells (c.setIfInBounds (k + i) v) t f)) b (k + (i + 1)) vs = some (hupd h b (.cells (qJ c.toList (k + i) (v :: vs)).toArray t f)) := by
    unfold zQ
    rw [zH e]
    simp only [Option.bind_some, qGE, Array.size_setIfInBounds]
    rw [if_pos ⟨by omega, by omega⟩]
    simp only [Option.map_some, qML]
    rw [qBB]
    simp [Nat.add_assoc]
   simp only [storeCells, qH, vC]
   show SH P (Sem.store .plain ⟨b, k + i, none⟩ v (.pure ())) _ E h = _
   simp only [SH, e, vP, hv.1, hfr, qAF, Option.isSome_none, Option.isSome_some, Bool.false_eq_true, if_false, true_and]
   exact ih (i + 1) k _ _ hv.2 hw2
theorem kK {P : Program} {E : Value -> H -> Prop} {b k : Nat} {vs : List Value} {h h' : H} {Q : Unit -> H -> Prop} (hv : vs.all vone = true) (hw : zQ h b k vs = some h') : SH P (storeCells ⟨b, k, none⟩ vs) Q E h = Q () h' :=
 qKO vs 0 k h h' hv hw
def zF : Value -> List Value
 | .agg cs => cs.toList
 | v => [v]
theorem qZV (v : Value) : v.cells.toList = zF v := by cases v <;> rfl
theorem qPT (v : Value) : v.cells.size = (zF v).length := by cases v <;> rfl
theorem vD (v : Value) : v.cells = (zF v).toArray := by cases v <;> simp [Value.cells, zF]
def hval (h : H) (b k n : Nat) (agg : Bool) : Option Value := if agg then (qV h b k n).map fun l => .agg l.toArray else hcel h b k
theorem qXD {P : Program} {E : Value -> H -> Prop} {h : H} {t : TypeId} {d : TypeDesc} {i : TypeInfo} {b k : Nat} {v : Value} {Q : Value -> H -> Prop} (hd : P.underlying t = some d) (hi : P.info? t = some i)
  (hv : hval h b k i.size (aggD d) = some v) : SH P (loadVar t ⟨b, k, none⟩) Q E h = Q v h := by
 unfold loadVar
 simp only [qH, qTL hd]
 unfold hval at hv
 cases ha : aggD d
 ·rw [ha] at hv
  simp only [Bool.false_eq_true, if_false] at hv ⊢
  simp only [qYW, qAN, hv]
 ·rw [ha] at hv
  simp only [if_true] at hv ⊢
  cases hr : qV h b k i.size with
  | none => rw [hr] at hv; cases hv
  | some l =>
   rw [hr] at hv
   cases hv
   simp only [qH, xG hi, qAS hr, qU]
theorem qTJ {P : Program} {E : Value -> H -> Prop} {h h' : H} {t : TypeId} {i : TypeInfo} {b k : Nat} {v : Value} {Q : Unit -> H -> Prop} (hi : P.info? t = some i) (hn : (zF v).length = i.size) (ho : (zF v).all vone = true)
  (hw : zQ h b k (zF v) = some h') : SH P (storeVar t ⟨b, k, none⟩ v) Q E h = Q () h' := by
 unfold storeVar
 simp only [qH, xG hi, qPT, hn, ne_eq, not_true_eq_false, if_false, qZV]
 exact kK ho hw
def zrep (z : List Value) (n : Nat) : List Value := (List.replicate n z).flatten
theorem qZA (z : List Value) : zrep z 0 = [] := rfl
theorem qLF (z : List Value) (n : Nat) : zrep z (n + 1) = z ++ zrep z n := by simp [zrep, List.replicate_succ]
theorem jV (z : List Value) (n : Nat) : (zrep z n).length = n * z.length := by simp [zrep]
theorem zDN (z : List Value) : ∀ (n k : Nat), k < n * z.length -> (zrep z n)[k]? = z[k % z.length]? := by
 intro n
 induction n with
 | zero => intro k hk; simp at hk
 | succ n ih =>
  intro k hk
  rw [qLF]
  by_cases e : k < z.length
  ·rw [List.getElem?_append_left e, Nat.mod_eq_of_lt e]
  ·rw [List.getElem?_append_right (by omega), ih (k - z.length) (by rw [Nat.succ_mul] at hk; omega)]
   rw [<- Nat.mod_eq_sub_mod (by omega)]
theorem qHO (z : List Value) (n : Nat) : (Array.range (n * z.length)).map (z.toArray[· % z.toArray.size]!) = (zrep z n).toArray := by
 apply Array.ext'
 apply List.ext_getElem?
 intro k
 by_cases hk : k < n * z.length
 ·have hz : 0 < z.length := Nat.pos_of_ne_zero (fun e => by rw [e] at hk; simp at hk)
  have hm : k % z.length < z.length := Nat.mod_lt _ hz
  rw [show ((zrep z n).toArray.toList)[k]? = z[k % z.length]? from by simpa using zDN z n k hk]
  simp [List.getElem?_range, hk, hm]
 ·have h1 : (zrep z n)[k]? = none := List.getElem?_eq_none (by rw [jV]; omega)
  simp [h1]
  omega
end Go.Tk
end

section
namespace Go.Tk
open Go
inductive I where
 | mov (x : Operand)
 | pick (c a b : Operand)
 | load (x : Operand) (n : Nat) (agg : Bool)
 | store (x y : Operand) (n : Nat)
 | alloc (e : TypeId) (z : List Value)
 | box (e : TypeId) (x : Operand)
 | fld (x : Operand) (off : Nat)
 | get (x : Operand) (off n : Nat) (agg : Bool)
 | idxS (x i : Operand) (n : Nat)
 | idxA (x i : Operand) (len n : Nat)
 | idxT (x i : Operand)
 | nilc (x : Operand)
 | bin (op : BinOp) (t : TypeId) (x y : Operand)
 | beq (neg : Bool) (x y : Operand)
 | ieq (neg : Bool) (x y : Operand)
 | leq (neg : Bool) (x y : Operand)
 | not (x : Operand)
 | conv (k : IntKind) (x : Operand)
 | iface (t : TypeId) (x : Operand)
 | fn (f : Fn) (first captured : List Operand)
 | build (z : List Value) (ps : List (Nat × Nat × Operand))
 | bslice (e : TypeId) (z : List Value) (len : Nat) (ps : List (Nat × Nat × Operand))
 | mslice (e : TypeId) (z : List Value) (bytes : Nat) (l c : Operand)
 | slc (x : Operand) (n : Nat) (lo hi : Option Operand)
 | slT (x : Operand) (lo hi : Option Operand)
 | lenT (x : Operand)
 | lenS (x : Operand)
 | app (t1 t2 ty : TypeId) (x y : Operand)
 | btos (x : Operand)
 | ext (x : Operand) (i : Nat)
 | asrt (x : Operand) (t : TypeId) (z : Value) (ok : Bool)
 | call (f : FuncId) (args : List Operand)
 | callv (f : Operand) (args : List Operand)
 | inv (recv : Operand) (name : String) (args : List Operand)
 | raw (o : Op) (ty : TypeId)
def wO (P : Program) (f : FuncId) : Bool :=
 match P.funcs[f]? with
 | some fn => fn.body.isSome && !(fn.name == "runtime.NumGoroutine")
 | none => false
def intBin (op : BinOp) (k : IntKind) (a b : Int) : Option Value :=
 match op with
 | .add => some (.int k (k.wrap (a + b)))
 | .sub => some (.int k (k.wrap (a - b)))
 | .mul => some (.int k (k.wrap (a * b)))
 | .quo => if b = 0 then none else some (.int k (k.wrap (a.tdiv b)))
 | .rem => if b = 0 then none else some (.int k (a.tmod b))
 | .eql => some (.bool (a == b))
 | .neq => some (.bool (a != b))
 | .lss => some (.bool (a < b))
 | .leq => some (.bool (a <= b))
 | .gtr => some (.bool (b < a))
 | .geq => some (.bool (b <= a))
 | .and => some (.int k (k.wrap (BitVec.ofInt k.bits a &&& BitVec.ofInt k.bits b).toNat))
 | .or => some (.int k (k.wrap (BitVec.ofInt k.bits a ||| BitVec.ofInt k.bits b).toNat))
 | .xor => some (.int k (k.wrap (BitVec.ofInt k.bits a ^^^ BitVec.ofInt k.bits b).toNat))
 | .andNot => some (.int k (k.wrap (BitVec.ofInt k.bits a &&& ~~~BitVec.ofInt k.bits b).toNat))
 | .shl => if b < 0 then none else some (.int k (k.wrap (a * 2 ^ (min b.toNat k.bits))))
 | .shr => if b < 0 then none else some (.int k (a.fdiv (2 ^ (min b.toNat k.bits))))
def qAE : BinOp -> Bool
 | .shl | .shr => true
 | _ => false
def xP (op : BinOp) (a b : ByteArray) : Option Value :=
 match op with
 | .add => if a.size + b.size <= 9223372036854775807 then some (.string (a ++ b)) else none
 | .eql => some (.bool (decide (a = b)))
 | .neq => some (.bool (!decide (a = b)))
 | .lss => some (.bool (Op.bytesLess a.data.toList b.data.toList))
 | .geq => some (.bool (!Op.bytesLess a.data.toList b.data.toList))
 | _ => none
def wX : List Value -> List (Nat × Nat × List Value) -> Option (List Value)
 | l, [] => some l
 | l, (off, n, v) :: r => if v.length = n /\ off + n <= l.length then wX (qJ l off v) r else none
def wQ : List Value -> Option (List UInt8)
 | [] => some []
 | .int .u8 n :: r => (wQ r).map (UInt8.ofNat n.toNat :: ·)
 | _ => none
def retK (K : Value -> H -> Prop) (X : List PanicEntry -> H -> Prop) : Ending -> H -> Prop
 | .returned v, h => K v h
 | .panicked c, h => X c h
 | .outgrown, _ => False
def yS (P : Program) (K : Value -> H -> Prop) (X : List PanicEntry -> H -> Prop) : Next -> H -> Prop
 | .value v, h => K v h
 | .skip, h => K undef h
 | .enter f args, h => HCalls P f args h (retK K X)
 | .row row args, h => HRows P row args h K
 | .round l f tmps a b, h => HRound P l f tmps a b h (retK K X)
 | _, _ => False
def pK (X : List PanicEntry -> H -> Prop) : Value -> H -> Prop := fun v h => X [{ v, recovered := false }] h
def mkO (o : Op) (ty : TypeId) : Oper := { dst := none, op := o, type := ty, pos := "", after := #[], guard := none }
def lowB (ρ : Operand -> Value) : Option Operand -> Option Int
 | none => some 0
 | some x => match ρ x with | .int _ n => some n | _ => none
def qGR (ρ : Operand -> Value) (len : Nat) : Option Operand -> Option Int
 | none => some len
 | some x => match ρ x with | .int _ n => some n | _ => none
def vop (P : Program) (ρ : Operand -> Value) (h : H) (K : Value -> H -> Prop) (X : List PanicEntry -> H -> Prop) : I -> Prop
 | .mov x => K (ρ x) h
 | .pick c a b => match ρ c with
  | .bool t => K (if t then ρ a else ρ b) h
  | _ => False
 | .load x n agg => match ρ x with
  | .pointer (some ⟨b, k, none⟩) => (match hval h b k n agg with | some v => K v h | none => False)
  | _ => False
 | .store x y n => match ρ x with
  | .pointer (some ⟨b, k, none⟩) => (zF (ρ y)).length = n /\ (zF (ρ y)).all vone = true /\ (match zQ h b k (zF (ρ y)) with | some h' => K undef h' | none => False)
  | _ => False
 | .alloc e z => ∀ j, hget h j = none -> K (.pointer (some ⟨j, 0, none⟩)) ((j, blk z e) :: h)
 | .box e x => ∀ j, hget h j = none -> K (.pointer (some ⟨j, 0, none⟩)) ((j, blk (zF (ρ x)) e) :: h)
 | .fld x off => match ρ x with
  | .pointer (some ⟨b, k, none⟩) => K (.pointer (some ⟨b, k + off, none⟩)) h
  | _ => False
 | .get x off n agg => match ρ x with
  | .agg cs => if agg then K (.agg ((cs.toList.drop off).take n).toArray) h else (match cs.toList[off]? with | some v => K v h | none => False)
  | _ => False
 | .idxS x i n => match ρ x, ρ i with
  | .slice (some ⟨b, k, none⟩) len _, .int _ j => (0 <= j /\ j < (len : Int)) /\ K (.pointer (some ⟨b, k + j.toNat * n, none⟩)) h
  | _, _ => False
 | .idxA x i len n => match ρ x, ρ i with
  | .pointer (some ⟨b, k, none⟩), .int _ j => (0 <= j /\ j < (len : Int)) /\ K (.pointer (some ⟨b, k + j.toNat * n, none⟩)) h
  | _, _ => False
 | .idxT x i => match ρ x, ρ i with
  | .string s, .int _ j => 0 <= j /\ (match s.data.toList[j.toNat]? with | some u => K (.int .u8 u.toNat) h | none => False)
  | _, _ => False
 | .nilc x => match ρ x with
  | .pointer (some a) => K (.pointer (some a)) h
  | .func (.func f) fi ca => K (.func (.func f) fi ca) h
  | _ => False
 | .bin op t x y => match ρ x, ρ y with
  | .int k a, .int k' b => (k = k' ∨ qAE op = true) /\ (match intBin op k a b with | some v => K v h | none => False)
  | .string a, .string b => (match xP op a b with | some v => K v h | none => False)
  | a, b => SH P (do eqGuard op t x y a b; binOp op t a b) K (pK X) h
 | .beq neg x y => match ρ x, ρ y with
  | .bool a, .bool b => K (.bool (if neg then !(a == b) else a == b)) h
  | _, _ => False
 | .ieq neg x y => match ρ x, ρ y with
  | .nilIface, .nilIface => ((x matches .const _) || (y matches .const _)) = true /\ K (.bool !neg) h
  | .nilIface, .iface _ _ => K (.bool neg) h
  | .iface _ _, .nilIface => K (.bool neg) h
  | _, _ => False
 | .leq neg x y => match ρ x, ρ y with
  | .slice none _ _, .slice b _ _ => K (.bool (if neg then !b.isNone else b.isNone)) h
  | .slice (some _) _ _, .slice none _ _ => K (.bool neg) h
  | _, _ => False
 | .not x => match ρ x with
  | .bool b => K (.bool !b) h
  | _ => False
 | .conv k x => match ρ x with
  | .int _ n => K (.int k (k.wrap n)) h
  | _ => False
 | .iface t x => K (.iface t (ρ x)) h
 | .fn f fi ca => K (.func f (fi.map ρ).toArray (ca.map ρ).toArray) h
 | .build z ps => match wX z (ps.map fun p => (p.1, p.2.1, zF (ρ p.2.2))) with
  | some l => K (.agg l.toArray) h
  | none => False
 | .bslice e z len ps => match wX (zrep z len) (ps.map fun p => (p.1, p.2.1, zF (ρ p.2.2))) with
  | some l => ∀ j, hget h j = none -> K (.slice (some ⟨j, 0, none⟩) len len) ((j, blk l e) :: h)
  | none => False
 | .mslice e z bytes l c => match ρ l, ρ c with
  | .int _ a, .int _ b => (0 <= a /\ a <= b /\ b <= 9223372036854775807 /\ bytes * b <= 281474976710656) /\ ∀ j, hget h j = none -> K (.slice (some ⟨j, 0, none⟩) a.toNat b.toNat) ((j, blk (zrep z b.toNat) e) :: h)
  | _, _ => False
 | .slc x n lo hi => match ρ x with
  | .slice a len cap => (match lowB ρ lo, qGR ρ len hi with
   | some l, some u => (0 <= l /\ l <= u /\ u <= (cap : Int)) /\ K (.slice (if cap = l.toNat then a else a.map (·.add (l.toNat * n))) (u.toNat - l.toNat) (cap - l.toNat)) h
   | _, _ => False)
  | _ => False
 | .slT x lo hi => match ρ x with
  | .string s => (match lowB ρ lo, qGR ρ s.size hi with
   | some l, some u => (0 <= l /\ l <= u /\ u <= (s.size : Int)) /\ K (.string ⟨((s.data.toList.drop l.toNat).take (u.toNat - l.toNat)).toArray⟩) h
   | _, _ => False)
  | _ => False
 | .lenT x => match ρ x with
  | .string s => K (.int .i64 s.size) h
  | _ => False
 | .lenS x => match ρ x with
  | .slice _ n _ => K (.int .i64 n) h
  | _ => False
 | .app t1 t2 ty x y => SH P (Builtin.append_ #[t1, t2] ty #[ρ x, ρ y]) (dP K) (pK X) h
 | .btos x => match ρ x with
  | .slice none _ _ => K (.string .empty) h
  | .slice (some ⟨b, k, none⟩) len _ => (match (qV h b k len).bind wQ with
   | some l => K (.string ⟨l.toArray⟩) h
   | none => False)
  | _ => False
 | .ext x i => match ρ x with
  | .tuple vs => (match vs.toList[i]? with | some v => K v h | none => False)
  | _ => False
 | .asrt x t z ok => match ρ x with
  | .iface t' v => if t' = t then K (if ok then .tuple #[v, .bool true] else v) h else ok = true /\ K (.tuple #[z, .bool false]) h
  | .nilIface => ok = true /\ K (.tuple #[z, .bool false]) h
  | _ => False
 | .call f args => HCalls P f (args.map ρ).toArray h (retK K X)
 | .callv f args => match ρ f with
  | .func (.func g) fi ca => wO P g = true /\ HCalls P g (fi ++ (args.map ρ).toArray ++ ca) h (retK K X)
  | .func (.yield l) fi ca => fi = #[] /\ YieldH P l (args.map ρ) h (retK K X)
  | _ => False
 | .inv recv name args => match ρ recv with
  | .iface t v => ∃ g r, evH P (method (P.types.size + Made.depth) t v name) h = some (g, r) /\ wO P g = true /\ HCalls P g (#[r] ++ (args.map ρ).toArray) h (retK K X)
  | _ => False
 | .raw o ty => SH P (execOp ρ (mkO o ty)) (yS P K X) (pK X) h
end Go.Tk
end

section
namespace Go.Tk
open Go
section
variable {P : Program} {ρ : Operand -> Value} {h : H} {K : Value -> H -> Prop} {X : List PanicEntry -> H -> Prop} {ty : TypeId}
theorem yP (s : Sem Value) : SH P (do pure (Next.value (<- s))) (yS P K X) (pK X) h = SH P s K (pK X) h := by
 rw [qH]; rfl
theorem zDP (s : Sem Unit) : SH P (do s; pure Next.skip) (yS P K X) (pK X) h = SH P s (fun _ h' => K undef h') (pK X) h := by
 rw [qH]; rfl
def qAP (P : Program) (s : TypeId) (f : Nat) : Option (Nat × Nat × Bool) :=
 match P.underlying s with
 | some (.struct fs) => match fs[f]? with
  | some fd => match P.info? fd.type, P.underlying fd.type with
   | some i, some d => some (fd.offset, i.size, aggD d)
   | _, _ => none
  | none => none
 | _ => none
def uM (P : Program) : List Field -> Option (List (Nat × Nat))
 | [] => some []
 | f :: r => match P.info? f.type, uM P r with
  | some i, some l => some ((f.offset, i.size) :: l)
  | _, _ => none
def qED (pl : List (Nat × Nat)) : List (Nat × Operand) -> Option (List (Nat × Nat × Operand))
 | [] => some []
 | (i, x) :: r => match pl[i]?, qED pl r with
  | some (off, n), some l => some ((off, n, x) :: l)
  | _, _ => none
def kE (P : Program) (t : TypeId) : Option Value := (P.info? t).bind (·.zero)
def ciEq (P : Program) (neg : Bool) (t : TypeId) (x y : Operand) (other : I) : I :=
 match P.underlying t with
 | some .bool => .beq neg x y
 | some (.interface _) => .ieq neg x y
 | some (.slice _) => .leq neg x y
 | _ => other
def qWO (P : Program) (c : Call) (other : I) : I :=
 match c.callee with
 | .builtin .len => match c.args.toList, c.argTypes.toList with
  | [x], [t] => match P.underlying t with
   | some .string => .lenT x
   | some (.slice _) => .lenS x
   | some (.array n _) => .mov (.const (.int .i64 n))
   | _ => other
  | _, _ => other
 | .builtin .append => match c.args.toList, c.argTypes.toList with
  | [x, y], [t, u] => .app t u 0 x y
  | _, _ => other
 | .builtin _ => other
 | .value (.func f) => if wO P f = true then .call f c.args.toList else other
 | .value f => .callv f c.args.toList
 | .invoke r m => .inv r m c.args.toList
def qPA (P : Program) (t : TypeId) (x : Operand) (lo hi : Option Operand) (other : I) : I :=
 match P.underlying t with
 | some .string => .slT x lo hi
 | some (.slice e) => match P.info? e with
  | some i => .slc x i.size lo hi
  | none => other
 | _ => other
def ci (P : Program) (op : Op) (ty : TypeId) : I :=
 match op with
 | .move x | .assign x => .mov x
 | .pick c a b => .pick c a b
 | .load t x => match P.underlying t, P.info? t with
  | some d, some i => .load x i.size (aggD d)
  | _, _ => .raw op ty
 | .store t x y => match P.info? t with
  | some i => .store x y i.size
  | none => .raw op ty
 | .alloc e => match kE P e with
  | some z => .alloc e (zF z)
  | none => .raw op ty
 | .box e x => .box e x
 | .fieldAddr s x f => match qAP P s f with
  | some (off, n, _) => if n = 0 then .raw op ty else .fld x off
  | none => .raw op ty
 | .field s x f => match qAP P s f with
  | some (off, n, agg) => .get x off n agg
  | none => .raw op ty
 | .indexAddr t x i => match P.underlying t with
  | some (.slice e) => match P.info? e with
   | some ie => .idxS x i ie.size
   | none => .raw op ty
  | some (.array len e) => match P.info? e with
   | some ie => .idxA x i len ie.size
   | none => .raw op ty
  | _ => .raw op ty
 | .index t x i => match P.underlying t with
  | some .string => .idxT x i
  | _ => .raw op ty
 | .nilCheck x => .nilc x
 | .binOp .eql t x y _ => ciEq P false t x y (.bin .eql t x y)
 | .binOp .neq t x y _ => ciEq P true t x y (.bin .neq t x y)
 | .binOp op t x y _ => .bin op t x y
 | .unOp .not _ x => .not x
 | .convert s d x => match P.underlying s, P.underlying d with
  | some (.int _), some (.int k) => .conv k x
  | some (.slice e), some .string => match P.underlying e with
   | some (.int .u8) => .btos x
   | _ => .raw op ty
  | _, _ => .raw op ty
 | .makeInterface t x => match P.underlying t with
  | some (.interface _) | none => .raw op ty
  | some _ => .iface t x
 | .makeFunc f fi ca => .fn f fi.toList ca.toList
 | .build t ps => match P.underlying t, kE P t with
  | some (.struct fs), some z => match uM P fs.toList with
   | some pl => match qED pl ps.toList with
    | some l => .build (zF z) l
    | none => .raw op ty
   | none => .raw op ty
  | _, _ => .raw op ty
 | .buildSlice t len ps => match P.underlying t with
  | some (.slice e) => match P.info? e with
   | some i => match i.zero with
    | some z => if (zF z).length = i.size /\ len * i.size <= 2 ^ 24 then .bslice e (zF z) len (ps.toList.map fun p => (p.1 * i.size, i.size, p.2)) else .raw op ty
    | none => .raw op ty
   | none => .raw op ty
  | _ => .raw op ty
 | .makeSlice t l c => match P.underlying t with
  | some (.slice e) => match P.info? e with
   | some i => match i.zero with
    | some z => if (zF z).length = i.size then .mslice e (zF z) i.bytes l c else .raw op ty
    | none => .raw op ty
   | none => .raw op ty
  | _ => .raw op ty
 | .slice t x lo hi none => qPA P t x lo hi (.raw op ty)
 | .extract x i => .ext x i
 | .typeAssert x _ t ok => match P.underlying t, kE P t with
  | some (.interface _), _ => .raw op ty
  | some _, some z => .asrt x t z ok
  | _, _ => .raw op ty
 | .call c => qWO P c (.raw op ty)
 | _ => .raw op ty
theorem s_pick {c a b : Operand} (hv : vop P ρ h K X (.pick c a b)) : SH P (execOp ρ (mkO (.pick c a b) ty)) (yS P K X) (pK X) h := by
 simp only [vop] at hv
 simp only [execOp, mkO]
 split at hv
 ·rename_i t ht
  simp only [ht, asBool, qH, qU]
  exact hv
 ·exact hv.elim
theorem s_load {t : TypeId} {x : Operand} {d : TypeDesc} {i : TypeInfo} (hd : P.underlying t = some d) (hi : P.info? t = some i) (hv : vop P ρ h K X (.load x i.size (aggD d))) : SH P (execOp ρ (mkO (.load t x) ty)) (yS P K X) (pK X) h := by
 simp only [vop] at hv
 simp only [execOp, mkO, yP]
 split at hv
 ·rename_i b k hx
  split at hv
  ·rename_i v hval
   simp only [Instr.loadAt, hx, Instr.sureAddr, qH, qU, qXD hd hi hval]
   exact hv
  ·exact hv.elim
 ·exact hv.elim
theorem s_store {t : TypeId} {x y : Operand} {i : TypeInfo} (hi : P.info? t = some i) (hv : vop P ρ h K X (.store x y i.size)) : SH P (execOp ρ (mkO (.store t x y) ty)) (yS P K X) (pK X) h := by
 simp only [vop] at hv
 simp only [execOp, mkO, zDP]
 split at hv
 ·rename_i b k hx
  obtain ⟨h1, h2, h3⟩ := hv
  split at h3
  ·rename_i h' hw
   simp only [Instr.storeAt, hx, Instr.sureAddr, qH, qU, qTJ hi h1 h2 hw]
   exact h3
  ·exact h3.elim
 ·exact hv.elim
theorem s_new {e : TypeId} {v : Value} {Q : Addr -> H -> Prop} {E : Value -> H -> Prop} (hv : ∀ j, hget h j = none -> Q ⟨j, 0, none⟩ ((j, blk (zF v) e) :: h)) : SH P (newVar e v) Q E h := by
 simp only [newVar, newRow, qH, kY, qU]
 intro j hj
 have := hv j hj
 rw [vD]
 exact this
theorem s_alloc {e : TypeId} {z : Value} (hz : kE P e = some z) (hv : vop P ρ h K X (.alloc e (zF z))) : SH P (execOp ρ (mkO (.alloc e) ty)) (yS P K X) (pK X) h := by
 simp only [vop] at hv
 simp only [execOp, mkO, yP]
 unfold kE at hz
 obtain ⟨i, hi, hz⟩ := Option.bind_eq_some_iff.1 hz
 simp only [Instr.alloc, qH, xJ hi hz]
 exact s_new fun j hj => hv j hj
theorem s_box {e : TypeId} {x : Operand} (hv : vop P ρ h K X (.box e x)) : SH P (execOp ρ (mkO (.box e x) ty)) (yS P K X) (pK X) h := by
 simp only [vop] at hv
 simp only [execOp, mkO, yP]
 simp only [Instr.box, qH]
 exact s_new fun j hj => hv j hj
theorem qEO {s : TypeId} {f off n : Nat} {agg : Bool} (hf : qAP P s f = some (off, n, agg)) : ∃ fs fd i d, P.underlying s = some (.struct fs) /\ fs[f]? = some fd /\ P.info? fd.type = some i /\ P.underlying fd.type = some d /\ off = fd.offset /\ n = i.size /\ agg = aggD d := by
 unfold qAP at hf
 split at hf
 ·rename_i fs hs
  split at hf
  ·rename_i fd hfd
   split at hf
   ·rename_i i d hi hd
    cases hf
    exact ⟨fs, fd, i, d, hs, hfd, hi, hd, rfl, rfl, rfl⟩
   ·cases hf
  ·cases hf
 ·cases hf
theorem s_fld {s : TypeId} {x : Operand} {f off n : Nat} {agg : Bool} (hf : qAP P s f = some (off, n, agg)) (hn : n ≠ 0) (hv : vop P ρ h K X (.fld x off)) : SH P (execOp ρ (mkO (.fieldAddr s x f) ty)) (yS P K X) (pK X) h := by
 obtain ⟨fs, fd, i, d, hs, hfd, hi, hd, rfl, rfl, rfl⟩ := qEO hf
 simp only [vop] at hv
 simp only [execOp, mkO, yP]
 split at hv
 ·rename_i b k hx
  simp only [Instr.fieldAt, qH, qQ hs, hfd, hx, Instr.sureAddr, qU, fieldPlace, xG hi, hn, if_false, vC]
  exact hv
 ·exact hv.elim
theorem s_get {s : TypeId} {x : Operand} {f off n : Nat} {agg : Bool} (hf : qAP P s f = some (off, n, agg)) (hv : vop P ρ h K X (.get x off n agg)) : SH P (execOp ρ (mkO (.field s x f) ty)) (yS P K X) (pK X) h := by
 obtain ⟨fs, fd, i, d, hs, hfd, hi, hd, rfl, rfl, rfl⟩ := qEO hf
 simp only [vop] at hv
 simp only [execOp, mkO, yP]
 split at hv
 ·rename_i cs hx
  simp only [Instr.field, qH, qQ hs, hfd, hx, asAgg, qU, part, qTL hd]
  cases ha : aggD d
  ·rw [ha] at hv
   simp only [Bool.false_eq_true, if_false] at hv ⊢
   split at hv
   ·rename_i v hvv
    rw [show cs[fd.offset]? = some v from by simpa using hvv]
    exact hv
   ·exact hv.elim
  ·rw [ha] at hv
   simp only [if_true, qH, xG hi, qU] at hv ⊢
   rw [show cs.extract fd.offset (fd.offset + i.size) = ((cs.toList.drop fd.offset).take i.size).toArray from by apply Array.ext'; simp]
   exact hv
 ·exact hv.elim
theorem s_idxS {t e : TypeId} {x i : Operand} {ie : TypeInfo} (hd : P.underlying t = some (.slice e)) (hi : P.info? e = some ie) (hv : vop P ρ h K X (.idxS x i ie.size)) : SH P (execOp ρ (mkO (.indexAddr t x i) ty)) (yS P K X) (pK X) h := by
 simp only [vop] at hv
 simp only [execOp, mkO, yP]
 split at hv
 ·rename_i b k len cap kd j hx hix
  simp only [Instr.indexAt, hx, hix, asIntOf, qH, qU, qQ hd, hv.1, if_true, xG hi, vC, and_self]
  exact hv.2
 ·exact hv.elim
theorem s_idxA {t e : TypeId} {len : Nat} {x i : Operand} {ie : TypeInfo} (hd : P.underlying t = some (.array len e)) (hi : P.info? e = some ie) (hv : vop P ρ h K X (.idxA x i len ie.size)) : SH P (execOp ρ (mkO (.indexAddr t x i) ty)) (yS P K X) (pK X) h := by
 simp only [vop] at hv
 simp only [execOp, mkO, yP]
 split at hv
 ·rename_i b k kd j hx hix
  simp only [Instr.indexAt, hx, hix, asIntOf, qH, qU, qQ hd, hv.1, if_true, xG hi, vC, Instr.sureAddr, and_self]
  exact hv.2
 ·exact hv.elim
theorem zCU (s : ByteArray) (j : Nat) : s[j]? = s.data.toList[j]? := by
 rw [Array.getElem?_toList]; rfl
theorem s_idxT {t : TypeId} {x i : Operand} (hd : P.underlying t = some .string) (hv : vop P ρ h K X (.idxT x i)) : SH P (execOp ρ (mkO (.index t x i) ty)) (yS P K X) (pK X) h := by
 simp only [vop] at hv
 simp only [execOp, mkO, yP]
 split at hv
 ·rename_i s kd j hx hix
  obtain ⟨h0, h1⟩ := hv
  split at h1
  ·rename_i u hu
   simp only [Instr.index, hx, hix, asIntOf, qH, qU, qQ hd, h0, if_true, zCU, hu]
   exact h1
  ·exact h1.elim
 ·exact hv.elim
theorem s_nilc {x : Operand} (hv : vop P ρ h K X (.nilc x)) : SH P (execOp ρ (mkO (.nilCheck x) ty)) (yS P K X) (pK X) h := by
 simp only [vop] at hv
 simp only [execOp, mkO]
 split at hv
 ·rename_i a hx; rw [hx]; exact hv
 ·rename_i f fi ca hx; rw [hx]; exact hv
 ·exact hv.elim
theorem xY {op : BinOp} {t : TypeId} {x y : Operand} {a b : Value} (hne : ∀ u v, ¬ (a = .agg u /\ b = .agg v)) (hni : ¬ (a = .nilIface /\ b = .nilIface)) : eqGuard op t x y a b = pure () := by
 cases op <;> first
  | rfl
  | (cases a <;> cases b <;> first | rfl | exact absurd ⟨rfl, rfl⟩ hni | exact absurd ⟨rfl, rfl⟩ (hne _ _))
theorem zCZ {op : BinOp} {t : TypeId} {k k' : IntKind} {a b : Int} {v : Value} (hk : k = k' ∨ qAE op = true) (hr : intBin op k a b = some v) : binOp op t (.int k a) (.int k' b) = pure v := by
 cases op <;> simp [intBin] at hr <;> simp [binOp, Op.intArith, Op.intDiv, Op.intBits, Op.intCmp, Op.shift]
 all_goals first
  | (rcases hk with rfl | hk
     ·first | (rw [hr]; simp) | (obtain ⟨hb, rfl⟩ := hr; simp [hb]) | (subst hr; simp)
     ·simp [qAE] at hk)
  | (obtain ⟨hb, rfl⟩ := hr; simp; omega)
  | (obtain ⟨hb, rfl⟩ := hr; rw [if_neg (by omega)])
theorem str_eq (a b : ByteArray) : (a.data.toList == b.data.toList) = decide (a = b) := by
 by_cases e : a = b
 ·subst e; simp
 ·have h2 : ¬ a.data = b.data := fun h => e (ByteArray.ext h)
  simp [e, h2]
theorem zCY {op : BinOp} {t : TypeId} {a b : ByteArray} {v : Value} (hr : xP op a b = some v) : binOp op t (.string a) (.string b) = pure v := by
 cases op <;> simp [xP] at hr <;> simp only [binOp, Op.stringOp, ByteArray.toList_eq, str_eq]
 ·obtain ⟨hb, rfl⟩ := hr
  rw [if_neg]
  have : IntKind.i64.max = 9223372036854775807 := by decide
  rw [this]; omega
 all_goals (subst hr; rfl)
theorem zFX {op : BinOp} {t u : TypeId} {x y : Operand} (hv : vop P ρ h K X (.bin op t x y)) : SH P (execOp ρ (mkO (.binOp op t x y u) ty)) (yS P K X) (pK X) h := by
 simp only [vop] at hv
 simp only [execOp, mkO, yP]
 split at hv
 ·rename_i k a k' b hx hy
  obtain ⟨hk, hv⟩ := hv
  split at hv
  ·rename_i v hr
   rw [hx, hy, xY (by simp) (by simp), zCZ hk hr]
   exact hv
  ·exact hv.elim
 ·rename_i a b hx hy
  split at hv
  ·rename_i v hr
   rw [hx, hy, xY (by simp) (by simp), zCY hr]
   exact hv
  ·exact hv.elim
 ·exact hv
end
end Go.Tk
end
