/- Words as bytes. -/
import Derived.Test.YtllhdnfcneejaaaP2
set_option linter.unusedVariables false
set_option linter.unusedSimpArgs false
namespace Go.Tk
open Go

def encIs (l : List Int) : List UInt8 := (l.map encI).flatten
theorem encIs_nil : encIs [] = [] := rfl
theorem encIs_cons (n : Int) (l : List Int) : encIs (n :: l) = encI n ++ encIs l := by simp [encIs]
theorem encIs_app (l m : List Int) : encIs (l ++ m) = encIs l ++ encIs m := by simp [encIs]
theorem encIs_one (n : Int) : encIs [n] = encI n := by simp [encIs]
def smallP (n : Int) : Prop := -9999 ≤ n ∧ n ≤ 9999
theorem encI_len {n : Int} (h : -1000000 ≤ n ∧ n ≤ 1000000) : (encI n).length ≤ 3 := encN_len3 (by have := zig_lt (n := n) (b := 1000001) (by omega); omega)
theorem encIs_len {l : List Int} (h : allP smallP l) : (encIs l).length ≤ 3 * l.length := by
  induction l with
  | nil => simp [encIs]
  | cons a l ih =>
    rw [encIs_cons, List.length_append, List.length_cons]
    have h1 := ih (fun x hx => h x (List.mem_cons_of_mem _ hx))
    have h2 : smallP a := h a List.mem_cons_self
    have h3 := encI_len (n := a) ⟨by have := h2.1; omega, by have := h2.2; omega⟩
    omega
def flatP (l : List (Int × Int)) : List Int := (l.map fun p => [p.1, p.2]).flatten
theorem flatP_nil : flatP [] = [] := rfl
theorem flatP_app (l m : List (Int × Int)) : flatP (l ++ m) = flatP l ++ flatP m := by simp [flatP]
theorem flatP_one (p : Int × Int) : flatP [p] = [p.1, p.2] := rfl
theorem flatP_cons (p : Int × Int) (l : List (Int × Int)) : flatP (p :: l) = p.1 :: p.2 :: flatP l := by simp [flatP]
def yesN (b : Bool) : Int := if b then 1 else 0
def headW (w : DWord) : List Int := [w.kind, w.from_, w.to, w.stamp, w.try_, w.what, yesN w.yes, w.code, w.call.session, w.call.number, w.call.kind, w.call.slot, w.call.to, (w.call.text.length : Int)]
def pack (w : DWord) : List UInt8 := encIs (headW w) ++ w.call.text ++ encIs ((w.slots.length : Int) :: w.slots) ++ encIs ((w.vals.length : Int) :: w.vals) ++ encIs ((w.pairs.length : Int) :: flatP w.pairs)
theorem take_app_one {α : Type} {l : List α} {i : Nat} (h : i < l.length) : l.take (i + 1) = l.take i ++ [l[i]] := List.take_succ_eq_append_getElem h

theorem slotsP_small {l : List Int} (h : slotsP l) : allP smallP l := fun x hx => by
  have := h.1 x hx
  simp only [slotP, inP] at this
  exact ⟨by omega, by omega⟩
theorem valsP_small {l : List Int} (h : valsP l) : allP smallP l := fun x hx => by
  have := h.2 x hx
  simp only [valP, inP] at this
  exact ⟨by omega, by omega⟩
theorem pairsP_small {l : List (Int × Int)} (h : pairsP l) {x : Int × Int} (hx : x ∈ l) : smallP x.1 ∧ smallP x.2 := by
  have := h.2.1 x hx
  simp only [pairP, keyP, valP, inP] at this
  exact ⟨⟨by omega, by omega⟩, ⟨by omega, by omega⟩⟩
theorem place_small {n : Int} (h : placeP n) : smallP n := by
  rcases h with h | h | h
  · simp only [houseP, inP] at h; exact ⟨by omega, by omega⟩
  · exact ⟨by omega, by omega⟩
  · simp only [inP] at h; exact ⟨by omega, by omega⟩
theorem headW_small {w : DWord} (h : wordP w) : allP smallP (headW w) := by
  obtain ⟨h1, h2, h3, h4, h5, h6, _, _, h7, _, g1, g2, g3, g4, g5, g6⟩ := h
  have p2 := place_small h2
  have p3 := place_small h3
  simp only [inP, stampP] at *
  have hy : smallP (yesN w.yes) := by unfold yesN smallP; split <;> omega
  intro x hx
  simp only [headW, List.mem_cons, List.not_mem_nil, or_false] at hx
  rcases hx with rfl | rfl | rfl | rfl | rfl | rfl | rfl | rfl | rfl | rfl | rfl | rfl | rfl | rfl <;> first | assumption | exact ⟨by omega, by omega⟩
end Go.Tk
