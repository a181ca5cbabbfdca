/- What is put behind a slice of plain values. -/
import Derived.Test.YtllhdnfcneejaaaA17
set_option linter.unusedVariables false
set_option linter.unusedSimpArgs false
namespace Go.Tk
open Go

/-- An element's size. -/
def InfoIs (P : Program) (e : TypeId) (sz bytes : Nat) : Prop := ∃ i z, P.info? e = some i ∧ i.zero = some z ∧ i.size = sz ∧ i.bytes = bytes ∧ (vcells z).length = sz
def infoB (P : Program) (e : TypeId) (sz bytes : Nat) : Bool :=
  match P.info? e with
  | some i => (match i.zero with
    | some z => i.size == sz && i.bytes == bytes && (vcells z).length == sz
    | none => false)
  | none => false
theorem infoB_is {P : Program} {e : TypeId} {sz bytes : Nat} (h : infoB P e sz bytes = true) : InfoIs P e sz bytes := by
  unfold infoB at h
  split at h
  · rename_i i hi
    split at h
    · rename_i z hz
      simp only [Bool.and_eq_true, beq_iff_eq] at h
      exact ⟨i, z, hi, hz, h.1.1, h.1.2, h.2⟩
    · cases h
  · cases h

theorem app_leaf {α : Type} {enc : α → List Value} {sz bytes : Nat} (he : ∀ a, (enc a).length = sz) (ho : ∀ l, (fl enc l).all vone = true) {P : Program} {t ty e : TypeId} {v y : Value} {M g h : H} {l m : List α} {K : Value → H → Prop} {X : List PanicEntry → H → Prop}
    (h1 : P.underlying t = some (.slice e)) (hi : InfoIs P e sz bytes) (sb : Sub (g ++ h) M) (dj : Dj g h) (o : oLs e enc sz v l g) (r : rLs M enc sz y m) (hb : (l.length + m.length) * bytes ≤ 140737488355328) (hn : l.length + m.length ≤ 140737488355328)
    (k : ∀ v' g', oLs e enc sz v' (l ++ m) g' → Dj g' h → K v' (g' ++ h)) : appK P t t ty v y M K X := by
  obtain ⟨i, z, hi, hz, rfl, rfl, hl⟩ := hi
  refine app_own h1 h1 rfl hi hz hl sb dj o (Src_slice r) (ho _) hb hn fun v' g' o' d' => k v' g' ?_ d'
  unfold oLs
  rw [List.length_append, fl_app]; exact o'
theorem fl_text (m : List UInt8) : (m.map fun b => Value.int .u8 b.toNat) = fl eB m := by
  induction m with
  | nil => rfl
  | cons a l ih => rw [fl_cons, List.map_cons, ih]; rfl
theorem app_text {bytes : Nat} {P : Program} {t t2 ty e : TypeId} {v : Value} {M g h : H} {l m : List UInt8} {K : Value → H → Prop} {X : List PanicEntry → H → Prop}
    (h1 : P.underlying t = some (.slice e)) (h2 : P.underlying t2 = some .string) (hi : InfoIs P e 1 bytes) (sb : Sub (g ++ h) M) (dj : Dj g h) (o : oLs e eB 1 v l g) (hb : (l.length + m.length) * bytes ≤ 140737488355328) (hn : l.length + m.length ≤ 140737488355328)
    (k : ∀ v' g', oLs e eB 1 v' (l ++ m) g' → Dj g' h → K v' (g' ++ h)) : appK P t t2 ty v (.string ⟨m.toArray⟩) M K X := by
  obtain ⟨i, z, hi, hz, hs, rfl, hl⟩ := hi
  have src := Src_str (P := P) (M := M) m
  rw [fl_text] at src
  rw [← hs] at src o
  refine app_own h1 h2 rfl hi hz (by rw [hl, hs]) sb dj o src (eB_one m) hb hn fun v' g' o' d' => k v' g' ?_ d'
  rw [← hs]
  unfold oLs
  rw [List.length_append, fl_app]; exact o'
theorem u8_of (k : Nat) : IntKind.u8.wrap (k : Int) = ((UInt8.ofNat k).toNat : Int) := by
  rw [u8_wrap, UInt8.toNat_ofNat']; omega
end Go.Tk
