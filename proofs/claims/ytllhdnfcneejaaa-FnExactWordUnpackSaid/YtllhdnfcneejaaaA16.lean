/- Slices of structs that hold slices themselves. -/
import Derived.Test.YtllhdnfcneejaaaA15
set_option linter.unusedVariables false
set_option linter.unusedSimpArgs false
namespace Go.Tk
open Go

inductive All2 {α β : Type} (r : α → β → Prop) : List α → List β → Prop
  | nil : All2 r [] []
  | cons {a : α} {b : β} {l : List α} {m : List β} (h : r a b) (t : All2 r l m) : All2 r (a :: l) (b :: m)
theorem All2.len {α β : Type} {r : α → β → Prop} {l : List α} {m : List β} (h : All2 r l m) : l.length = m.length := by
  induction h with
  | nil => rfl
  | cons _ _ ih => simp [ih]
theorem All2.at {α β : Type} {r : α → β → Prop} {l : List α} {m : List β} (h : All2 r l m) : ∀ {i : Nat} (h1 : i < l.length) (h2 : i < m.length), r l[i] m[i] := by
  induction h with
  | nil => intro i h1; cases h1
  | cons x _ ih =>
    intro i h1 h2
    cases i with
    | zero => exact x
    | succ i => exact ih _ _
theorem All2.imp {α β : Type} {r s : α → β → Prop} {l : List α} {m : List β} (h : All2 r l m) (f : ∀ a b, r a b → s a b) : All2 s l m := by
  induction h with
  | nil => exact .nil
  | cons x _ ih => exact .cons (f _ _ x) ih

def rRs {α : Type} (h : H) (rel : List Value → α → Prop) (sz : Nat) (v : Value) (l : List α) : Prop :=
  ∃ css : List (List Value), rdS h sz v l.length css.flatten ∧ All2 (fun c a => c.length = sz ∧ rel c a) css l
theorem rRs.sub {α : Type} {g h : H} (s : Sub g h) {rel rel' : List Value → α → Prop} (hr : ∀ c a, rel c a → rel' c a) {sz : Nat} {v : Value} {l : List α} (r : rRs g rel sz v l) : rRs h rel' sz v l := by
  obtain ⟨css, r, f⟩ := r
  exact ⟨css, r.sub s, f.imp fun c a x => ⟨x.1, hr _ _ x.2⟩⟩

theorem rdS.one {h : H} {sz : Nat} {v : Value} {n : Nat} {cs : List Value} (r : rdS h sz v n cs) : vone v = true := by
  obtain ⟨_, ⟨rfl, _⟩ | ⟨b, k, c, rfl, _⟩⟩ := r <;> rfl
theorem rLs.one {α : Type} {h : H} {enc : α → List Value} {sz : Nat} {v : Value} {l : List α} (r : rLs h enc sz v l) : vone v = true := rdS.one r
theorem rRs.one {α : Type} {h : H} {rel : List Value → α → Prop} {sz : Nat} {v : Value} {l : List α} (r : rRs h rel sz v l) : vone v = true := by
  obtain ⟨_, r, _⟩ := r; exact r.one
end Go.Tk
