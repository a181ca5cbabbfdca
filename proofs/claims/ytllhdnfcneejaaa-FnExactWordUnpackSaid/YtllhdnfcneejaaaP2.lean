/- What is ok: numbers, slots, pairs, values, words. -/
import Derived.Test.YtllhdnfcneejaaaO1
import Derived.Test.YtllhdnfcneejaaaP1
set_option linter.unusedVariables false
set_option linter.unusedSimpArgs false
namespace Go.Tk
open Go

section
variable {α : Type}
def allP (P : α → Prop) (l : List α) : Prop := ∀ x ∈ l, P x
theorem allP_nil (P : α → Prop) : allP P [] := fun x h => by cases h
theorem allP_zero (P : α → Prop) (l : List α) : allP P (l.take 0) := fun x h => by simp at h
theorem allP_more {P : α → Prop} {l : List α} {i : Nat} (h : i < l.length) (a : allP P (l.take i)) (p : P l[i]) : allP P (l.take (i + 1)) := by
  rw [List.take_succ_eq_append_getElem h]
  intro x hx
  rcases List.mem_append.1 hx with hx | hx
  · exact a x hx
  · rw [List.mem_singleton.1 hx]; exact p
theorem allP_done {P : α → Prop} {l : List α} {i : Nat} (h : l.length ≤ i) (a : allP P (l.take i)) : allP P l := by rw [List.take_of_length_le h] at a; exact a
theorem allP_not {P : α → Prop} {l : List α} {i : Nat} (h : i < l.length) (p : ¬ P l[i]) : ¬ allP P l := fun a => p (a _ (List.getElem_mem h))
/-- Ascending up to a place. -/
def risU (k : α → Int) (l : List α) (n : Nat) : Prop := ∀ i (h : i + 1 < l.length), i + 1 < n → k (l[i]'(by omega)) < k l[i + 1]
def risP (k : α → Int) (l : List α) : Prop := ∀ i (h : i + 1 < l.length), k (l[i]'(by omega)) < k l[i + 1]
theorem risU_zero (k : α → Int) (l : List α) : risU k l 0 := fun i h n => by omega
theorem risU_one {k : α → Int} {l : List α} {i : Nat} (h : i = 0) (r : risU k l i) : risU k l (i + 1) := fun j hj n => by omega
theorem risU_more {k : α → Int} {l : List α} {i : Nat} (hi : i < l.length) (h0 : 0 < i) (r : risU k l i) (x : k (l[i - 1]'(by omega)) < k l[i]) : risU k l (i + 1) := fun j hj n => by
  by_cases e : j + 1 < i
  · exact r j hj e
  · have : j + 1 = i := by omega
    subst this
    exact x
theorem risU_done {k : α → Int} {l : List α} {i : Nat} (h : l.length ≤ i) (r : risU k l i) : risP k l := fun j hj => r j hj (by omega)
theorem risU_not {k : α → Int} {l : List α} {i : Nat} (hi : i < l.length) (h0 : 0 < i) (x : ¬ k (l[i - 1]'(by omega)) < k l[i]) : ¬ risP k l := fun r => by
  obtain ⟨i, rfl⟩ : ∃ j, i = j + 1 := ⟨i - 1, by omega⟩
  exact x (r i hi)
end

def inP (a b n : Int) : Prop := a ≤ n ∧ n ≤ b
def keyP (n : Int) : Prop := inP 0 31 n
def valP (n : Int) : Prop := inP (-9999) 9999 n
def slotP (n : Int) : Prop := inP 0 7 n
def houseP (n : Int) : Prop := inP 0 2 n
def placeP (n : Int) : Prop := houseP n ∨ n = 9 ∨ inP 100 102 n
def pairP (p : Int × Int) : Prop := keyP p.1 ∧ valP p.2
def slotsP (l : List Int) : Prop := allP slotP l ∧ risP id l
def pairsP (l : List (Int × Int)) : Prop := l.length ≤ 32 ∧ allP pairP l ∧ risP (·.1) l
def valsP (l : List Int) : Prop := l.length ≤ 6 ∧ allP valP l
def stampP (n : Int) : Prop := inP 0 9999 n
def callP (c : DCall) : Prop := stampP c.session ∧ stampP c.number ∧ stampP c.kind ∧ stampP c.slot ∧ stampP c.to ∧ c.text.length ≤ 80
def wordP (w : DWord) : Prop := inP 1 9 w.kind ∧ placeP w.from_ ∧ placeP w.to ∧ stampP w.stamp ∧ stampP w.try_ ∧ inP 0 3 w.what ∧ slotsP w.slots ∧ pairsP w.pairs ∧ inP 0 9 w.code ∧ valsP w.vals ∧ callP w.call

theorem ite_b {b : Bool} {X Y : Prop} (x : b = true → X) (y : b = false → Y) : if b = true then X else Y := by
  cases b
  · exact y rfl
  · exact x rfl
theorem ite_f {b : Bool} {X Y : Prop} (x : b = false → X) (y : b = true → Y) : if b = false then X else Y := by
  cases b
  · exact x rfl
  · exact y rfl
/-- A call that answers yes or no. -/
def Asks (R : Ending → H → Prop) (p : Prop) (h : H) : Prop := ∀ b : Bool, (b = true ↔ p) → R (.returned (.bool b)) h
theorem Asks.yes {R : Ending → H → Prop} {p : Prop} {h : H} (k : Asks R p h) (x : p) : R (.returned (.bool true)) h := k true (by simp [x])
theorem Asks.no {R : Ending → H → Prop} {p : Prop} {h : H} (k : Asks R p h) (x : ¬ p) : R (.returned (.bool false)) h := k false (by simp [x])
theorem Asks.dyes {R : Ending → H → Prop} {p : Prop} {h g : H} (k : Asks R p g) (s : Sub g h) (x : p) : dP R (.returned (.bool true)) h := ⟨g, s, k.yes x⟩
theorem Asks.dno {R : Ending → H → Prop} {p : Prop} {h g : H} (k : Asks R p g) (s : Sub g h) (x : ¬ p) : dP R (.returned (.bool false)) h := ⟨g, s, k.no x⟩
theorem not_b {b : Bool} {p : Prop} (hb : b = true ↔ p) (h : b = false) : ¬ p := fun x => by rw [hb.2 x] at h; cases h
end Go.Tk
