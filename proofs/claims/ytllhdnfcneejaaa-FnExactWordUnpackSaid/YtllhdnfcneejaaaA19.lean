/- Slices cut, and read as texts. -/
import Derived.Test.YtllhdnfcneejaaaA18
set_option linter.unusedVariables false
set_option linter.unusedSimpArgs false
namespace Go.Tk
open Go

theorem toBytes_fl (l : List UInt8) : toBytes (fl eB l) = some l := by
  induction l with
  | nil => rfl
  | cons a l ih =>
    rw [fl_cons]
    show (toBytes (fl eB l)).map (UInt8.ofNat ((a.toNat : Int)).toNat :: ·) = _
    rw [ih]
    simp
theorem btos_rd {h : H} {v : Value} {l : List UInt8} (r : rBytes h v l) {f : Value → Prop} : btosK v h f = f (.string ⟨l.toArray⟩) := by
  obtain ⟨hl, ⟨rfl, h0⟩ | ⟨b, k, cap, rfl, hc, e⟩⟩ := r
  · have : l = [] := List.eq_nil_of_length_eq_zero h0
    subst this; rfl
  · rw [btosK_eq]
    rw [Nat.mul_one] at e
    rw [e]
    simp only [Option.bind_some, toBytes_fl, Option.map_some, oK_some]
theorem fl_drop {α : Type} {enc : α → List Value} {sz : Nat} (he : ∀ a, (enc a).length = sz) : ∀ (l : List α) (i : Nat), i ≤ l.length → (fl enc l).drop (i * sz) = fl enc (l.drop i) := by
  intro l
  induction l with
  | nil => intro i hi; have : i = 0 := by simpa using hi
           subst this; simp [fl]
  | cons a l ih =>
    intro i hi
    cases i with
    | zero => simp
    | succ i =>
      rw [fl_cons, Nat.succ_mul, Nat.add_comm, ← List.drop_drop, List.drop_left' (he a), List.drop_succ_cons]
      exact ih i (by simpa using hi)
theorem fl_take {α : Type} {enc : α → List Value} {sz : Nat} (he : ∀ a, (enc a).length = sz) : ∀ (l : List α) (i : Nat), i ≤ l.length → (fl enc l).take (i * sz) = fl enc (l.take i) := by
  intro l
  induction l with
  | nil => intro i hi; have : i = 0 := by simpa using hi
           subst this; simp [fl]
  | cons a l ih =>
    intro i hi
    cases i with
    | zero => simp [fl]
    | succ i =>
      rw [fl_cons, Nat.succ_mul, Nat.add_comm, List.take_succ_cons, fl_cons, List.take_append, List.take_of_length_le (by rw [he]; omega), he, Nat.add_sub_cancel_left, ih i (by simpa using hi)]
theorem slc_rd {α : Type} {enc : α → List Value} {sz : Nat} (he : ∀ a, (enc a).length = sz) {h : H} {v : Value} {l : List α} {lo hi : Int} {f : Value → Prop} (r : rLs h enc sz v l) (h0 : 0 ≤ lo) (h1 : lo ≤ hi) (h2 : hi ≤ l.length)
    (k : ∀ v', rLs h enc sz v' ((l.drop lo.toNat).take (hi.toNat - lo.toNat)) → f v') : slcK v sz (some (some lo)) (some (some hi)) f := by
  have hlen : ((l.drop lo.toNat).take (hi.toNat - lo.toNat)).length = hi.toNat - lo.toNat := by rw [List.length_take, List.length_drop]; omega
  obtain ⟨hl, ⟨rfl, h0'⟩ | ⟨b, o, cap, rfl, hc, e⟩⟩ := r
  · rw [slcK_11]
    refine ⟨⟨h0, h1, by omega⟩, k _ ?_⟩
    have e1 : hi.toNat - lo.toNat = 0 := by omega
    refine ⟨by rw [fl_len he], .inl ⟨?_, by rw [hlen, e1]⟩⟩
    rw [e1, Nat.zero_sub]
    simp
  · rw [slcK_11]
    refine ⟨⟨h0, h1, by omega⟩, k _ ?_⟩
    have rd : hread h b (o + lo.toNat * sz) ((hi.toNat - lo.toNat) * sz) = some (fl enc ((l.drop lo.toNat).take (hi.toNat - lo.toNat))) := by
      rw [hread_part e (by rw [← Nat.add_mul]; exact Nat.mul_le_mul_right _ (by omega)), fl_drop he _ _ (by omega), fl_take he _ _ (by rw [List.length_drop]; omega)]
    by_cases c : cap = lo.toNat
    · rw [if_pos c]
      have e1 : hi.toNat - lo.toNat = 0 := by omega
      refine ⟨by rw [fl_len he], .inr ⟨b, o, cap - lo.toNat, by rw [hlen], by rw [hlen]; omega, ?_⟩⟩
      rw [hlen, e1]
      have := hread_part e (i := 0) (m := 0) (by omega)
      simp only [Nat.add_zero, Nat.zero_mul, List.take_zero] at this ⊢
      rw [this]; rfl
    · rw [if_neg c]
      refine ⟨by rw [fl_len he], .inr ⟨b, o + lo.toNat * sz, cap - lo.toNat, ?_, by rw [hlen]; omega, ?_⟩⟩
      · rw [hlen, Option.map_some, add_none]
      · rw [hlen]; exact rd
end Go.Tk
