/- Some operations that stay raw: a sign turned, a text as bytes. -/
import Derived.Test.YtllhdnfcneejaaaA16
set_option linter.unusedVariables false
set_option linter.unusedSimpArgs false
namespace Go.Tk
open Go

theorem raw_neg {P : Program} {t ty : TypeId} {x : Operand} {ρ : Operand → Value} {h : H} {K : Value → H → Prop} {X : List PanicEntry → H → Prop} {n : Int} (hx : ρ x = .int .i64 n) (k : K (.int .i64 (IntKind.i64.wrap (0 - n))) h) :
    rawK P (.unOp .neg t x) ty ρ h K X := by
  unfold rawK
  simp only [execOp, mkO, hx, Op.unary, Op.intArith]
  exact k

theorem raw_bytes {P : Program} {t d ty e : TypeId} {x : Operand} {ρ : Operand → Value} {h : H} {K : Value → H → Prop} {X : List PanicEntry → H → Prop} {s : List UInt8} (hx : ρ x = .string ⟨s.toArray⟩)
    (ht : P.underlying t = some .string) (hd : P.underlying d = some (.slice e)) (he : P.underlying e = some (.int .u8))
    (k : ∀ j o v, hget h j = none → rLs [(j, o)] eB 1 v s → K v ((j, o) :: h)) : rawK P (.convert t d x) ty ρ h K X := by
  unfold rawK
  simp only [execOp, mkO, hx, convert, SH_bind', SH_underlying ht, SH_underlying hd, SH_underlying he, Conv.stringToBytes]
  refine SH_cap fun c hc => ?_
  rw [str_size] at hc ⊢
  simp only [newRow, SH_bind', SH_newObj, SH_pure]
  intro j hj
  simp only [markStringish, SH_bind', shape, SH, hget_same, freeze]
  simp only [hupd_cons, if_true]
  refine k j _ _ hj ⟨by rw [fl_len eB_len], .inr ⟨j, 0, c, rfl, hc, ?_⟩⟩
  have e1 : (⟨s.toArray⟩ : ByteArray).data.map (fun b => Value.int .u8 b.toNat) = (fl eB s).toArray := by
    apply Array.ext'
    have : ∀ l : List UInt8, (l.map fun b => Value.int .u8 b.toNat) = fl eB l := by
      intro l
      induction l with
      | nil => rfl
      | cons a l ih => rw [fl_cons, List.map_cons, ih]; rfl
    simpa using this s
  have e2 : fl eB s = (fl eB s ++ List.replicate (c - s.length) (Value.int .u8 0)).take (s.length * 1) := by
    rw [List.take_append_of_le_length (by rw [fl_len eB_len]; omega), List.take_of_length_le (by rw [fl_len eB_len]; omega)]
  unfold hread
  rw [hget_same]
  simp only [Option.bind_some, frzObj, beq_self_eq_true, if_true, rdObj]
  rw [if_pos ?_]
  · rw [e1]
    simp only [List.drop_zero, Array.toList_append, Array.toList_replicate]
    rw [← e2]
  · rw [e1]; simp [fl_len eB_len]

theorem ite_ge {a b : Int} {X Y : Prop} (x : a ≤ b → X) (y : b < a → Y) : if a ≤ b then X else Y := by
  split
  · rename_i h; exact x h
  · rename_i h; exact y (by omega)
theorem ite_lt {a b : Int} {X Y : Prop} (x : a < b → X) (y : b ≤ a → Y) : if a < b then X else Y := by
  split
  · rename_i h; exact x h
  · rename_i h; exact y (by omega)
theorem ite_pos {c : Prop} [Decidable c] {X Y : Prop} (x : c → X) (y : ¬ c → Y) : if c then X else Y := by
  split
  · rename_i h; exact x h
  · rename_i h; exact y h

theorem rL_lit {α : Type} {enc : α → List Value} {sz : Nat} (he : ∀ a, (enc a).length = sz) {j : Nat} {e : TypeId} {h : H} (l : List α) : rLs ((j, blk (fl enc l) e) :: h) enc sz (.slice (some ⟨j, 0, none⟩) l.length l.length) l :=
  (oLs_new (e := e) he (j := j) (l := l)).rd.sub (Sub.cons_of (hget_same h j _) (Sub.nil _))
theorem rI_lit {j : Nat} {e : TypeId} {h : H} (l : List Int) : rInts ((j, blk (fl eI l) e) :: h) (.slice (some ⟨j, 0, none⟩) l.length l.length) l := rL_lit eI_len l
theorem rB_lit {j : Nat} {e : TypeId} {h : H} (l : List UInt8) : rBytes ((j, blk (fl eB l) e) :: h) (.slice (some ⟨j, 0, none⟩) l.length l.length) l := rL_lit eB_len l
end Go.Tk
