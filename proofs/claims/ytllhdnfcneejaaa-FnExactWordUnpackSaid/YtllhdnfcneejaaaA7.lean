/- Each operation with its types looked up does what the operation does: structs and slices made, calls; and all of them together. -/
import Derived.Test.YtllhdnfcneejaaaA6
import Derived.IntWalk
set_option linter.unusedVariables false
set_option linter.unusedSimpArgs false
namespace Go.Tk
open Go

section
variable {P : Program} {ρ : Operand → Value} {h : H} {K : Value → H → Prop} {X : List PanicEntry → H → Prop} {ty : TypeId}

theorem foldl_splice : ∀ (vs : List Value) (off : Nat) (l : List Value) (j : Nat), (vs.zipIdx j).foldl (fun (cs : Array Value) (p : Value × Nat) => cs.setIfInBounds (off + p.2) p.1) l.toArray = (splice l (off + j) vs).toArray := by
  intro vs
  induction vs with
  | nil => intro off l j; simp [splice_nil]
  | cons v vs ih =>
    intro off l j
    simp only [List.zipIdx_cons, List.foldl_cons, List.setIfInBounds_toArray]
    rw [ih off (l.set (off + j) v) (j + 1), splice_cons, Nat.add_assoc]

theorem fill_eq (place : Nat → Option (Nat × Nat)) : ∀ (ps : List (Nat × Value)) (qs : List (Nat × Nat × List Value)) (l r : List Value), (∀ i : Nat, (ps[i]?).bind (fun p => (place p.1).map fun q => (q.1, q.2, vcells p.2)) = qs[i]?) → ps.length = qs.length → fillL l qs = some r →
    Instr.fill place l.toArray ps = some r.toArray := by
  intro ps
  induction ps with
  | nil =>
    intro qs l r hq hl hf
    have : qs = [] := List.eq_nil_of_length_eq_zero hl.symm
    subst this
    cases hf
    rfl
  | cons p ps ih =>
    intro qs l r hq hl hf
    cases qs with
    | nil => cases hl
    | cons q qs =>
      have h0 := hq 0
      simp only [List.getElem?_cons_zero, Option.bind_some] at h0
      cases hp : place p.1 with
      | none => rw [hp] at h0; cases h0
      | some pl =>
        rw [hp] at h0
        cases h0
        obtain ⟨off, n⟩ := pl
        simp only [fillL] at hf
        split at hf
        · rename_i hc
          obtain ⟨i, v⟩ := p
          simp only [Instr.fill]
          simp only at hp
          rw [hp]
          simp only [vcells_cells, List.size_toArray]
          rw [if_neg (by simp at hc ⊢; omega)]
          have hfold := foldl_splice (vcells v) off l 0
          rw [show (List.foldl (fun (cs : Array Value) (p : Value × Nat) => cs.setIfInBounds (off + p.2) p.1) l.toArray ((vcells v).zipIdx 0)) = (Array.foldl (fun (cs : Array Value) (p : Value × Nat) => cs.setIfInBounds (off + p.2) p.1) l.toArray ((vcells v).toArray.zipIdx)) from by simp] at hfold
          rw [show (Array.foldl (fun cs x => match x with | (c, j) => cs.setIfInBounds (off + j) c) l.toArray (vcells v).toArray.zipIdx) = (splice l (off + 0) (vcells v)).toArray from hfold]
          exact ih qs _ r (fun i => by simpa using hq (i + 1)) (by simpa using hl) (by simpa using hf)
        · cases hf

theorem SH_places : ∀ (fs : List Field) (pl : List (Nat × Nat)) {Q : List (Nat × Nat) → H → Prop} {E : Value → H → Prop}, placesOf P fs = some pl → SH P (fs.mapM fun f => do pure (f.offset, ← sizeOf f.type)) Q E h = Q pl h := by
  intro fs
  induction fs with
  | nil => intro pl Q E hp; cases hp; rfl
  | cons f fs ih =>
    intro pl Q E hp
    simp only [placesOf] at hp
    split at hp
    · rename_i i l hi hl
      cases hp
      simp only [List.mapM_cons, SH_bind', SH_sizeOf hi, SH_pure, ih l hl]
    · cases hp

theorem partsOf_spec : ∀ (pl : List (Nat × Nat)) (ps : List (Nat × Operand)) (l : List (Nat × Nat × Operand)), partsOf pl ps = some l → ps.length = l.length ∧ ∀ i : Nat, (ps[i]?).bind (fun p => (pl[p.1]?).map fun q => (q.1, q.2, p.2)) = l[i]? := by
  intro pl ps
  induction ps with
  | nil => intro l hp; cases hp; exact ⟨rfl, fun i => by simp⟩
  | cons p ps ih =>
    intro l hp
    obtain ⟨i, x⟩ := p
    simp only [partsOf] at hp
    split at hp
    · rename_i off n l' h1 h2
      cases hp
      obtain ⟨ha, hb⟩ := ih l' h2
      refine ⟨by simp [ha], fun j => ?_⟩
      cases j with
      | zero => simp [h1]
      | succ j => simpa using hb j
    · cases hp

theorem s_build {t : TypeId} {fs : Array Field} {z : Value} {ps : Array (Nat × Operand)} {pl : List (Nat × Nat)} {l : List (Nat × Nat × Operand)} (hd : P.underlying t = some (.struct fs)) (hz : zeroOf P t = some z) (hpl : placesOf P fs.toList = some pl) (hl : partsOf pl ps.toList = some l)
    (hv : vop P ρ h K X (.build (vcells z) l)) : SH P (execOp ρ (mkO (.build t ps) ty)) (nextK P K X) (pK X) h := by
  unfold zeroOf at hz
  obtain ⟨i, hi, hz⟩ := Option.bind_eq_some_iff.1 hz
  simp only [vop] at hv
  simp only [execOp, mkO, wrap_v]
  split at hv
  · rename_i r hr
    simp only [Instr.build, SH_bind', SH_zeroValue hi hz, SH_underlying hd]
    rw [Array.mapM_eq_mapM_toList, map_eq_pure_bind, SH_bind', SH_places _ _ hpl]
    obtain ⟨h1, h2⟩ := partsOf_spec _ _ _ hl
    have hf := fill_eq (fun i => pl.toArray[i]?) (ps.toList.map fun p => (p.1, ρ p.2)) (l.map fun p => (p.1, p.2.1, vcells (ρ p.2.2))) (vcells z) r (fun j => by
      have := h2 j
      rw [List.getElem?_map, List.getElem?_map, ← this]
      cases ps.toList[j]? with
      | none => rfl
      | some p => simp; cases pl[p.1]? <;> rfl) (by simp [h1]) hr
    simp only [SH_pure]
    rw [show (Array.map (fun x => match x with | (i, x) => (i, ρ x)) ps).toList = ps.toList.map fun p => (p.1, ρ p.2) from by simp]
    rw [vcells_cells]
    rw [hf]
    exact hv
  · exact hv.elim

theorem fill_slice (size len : Nat) (ps : List (Nat × Operand)) (l r : List Value) (hr : fillL l ((ps.map fun p => (p.1 * size, size, p.2)).map fun p => (p.1, p.2.1, vcells (ρ p.2.2))) = some r) :
    Instr.fill (fun i => some (i * size, size)) l.toArray (ps.map fun p => (p.1, ρ p.2)) = some r.toArray :=
  fill_eq (fun i => some (i * size, size)) (ps.map fun p => (p.1, ρ p.2)) _ l r (fun j => by
    simp only [List.getElem?_map]
    cases ps[j]? with
    | none => rfl
    | some p => rfl) (by simp) hr

theorem zeros_cells (z : Value) (n size : Nat) (hs : (vcells z).length = size) : (Array.range (n * size)).map (fun k => z.cells[k % z.cells.size]!) = (zrep (vcells z) n).toArray := by
  subst hs
  rw [vcells_cells]
  exact zeros_eq (vcells z) n

theorem range0 {α : Type} (f : Nat → α) : (Array.range 0).map f = #[] := by apply Array.ext'; simp

theorem s_bslice {t e : TypeId} {i : TypeInfo} {z : Value} {len : Nat} {ps : Array (Nat × Operand)} (hd : P.underlying t = some (.slice e)) (hi : P.info? e = some i) (hz : i.zero = some z) (hs : (vcells z).length = i.size) (hlen : len * i.size ≤ 2 ^ 24)
    (hv : vop P ρ h K X (.bslice e (vcells z) len (ps.toList.map fun p => (p.1 * i.size, i.size, p.2)))) : SH P (execOp ρ (mkO (.buildSlice t len ps) ty)) (nextK P K X) (pK X) h := by
  simp only [vop] at hv
  simp only [execOp, mkO, wrap_v]
  split at hv
  · rename_i r hr
    simp only [Instr.buildSlice, SH_bind', SH_underlying hd, SH_sizeOf hi]
    rw [if_neg (by omega)]
    have hf := fill_slice i.size len ps.toList _ r hr
    have hpm : (Array.map (fun x => match x with | (i, x) => (i, ρ x)) ps).toList = ps.toList.map fun p => (p.1, ρ p.2) := by simp
    have fin : SH P (do pure (Value.slice (some (← newRow e r.toArray)) len len)) K (pK X) h := by
      simp only [newRow, SH_bind', SH_newObj, SH_pure]
      exact hv
    by_cases h0 : len * i.size = 0
    · simp only [h0, if_true, SH_pure]
      have hz0 : zrep (vcells z) len = [] := List.eq_nil_of_length_eq_zero (by rw [zrep_length, hs, h0])
      rw [hz0] at hf
      simp only [SH_bind', SH_pure, range0, hpm]
      rw [hf]
      exact fin
    · simp only [h0, if_false, SH_bind', SH_zeroValue hi hz, SH_pure, hpm]
      rw [zeros_cells z len i.size hs, hf]
      exact fin
  · exact hv.elim

theorem wrap_fits (n : Int) (h : -9223372036854775808 ≤ n ∧ n ≤ 9223372036854775807) : IntKind.i64.wrap n = n := by
  have e : IntKind.i64.wrap n = (let m := n % 18446744073709551616; if (decide (m ≥ 9223372036854775808)) = true then m - 18446744073709551616 else m) := rfl
  rw [e]
  simp only [decide_eq_true_eq]
  split <;> omega

theorem s_mslice {t e : TypeId} {i : TypeInfo} {z : Value} {l c : Operand} (hd : P.underlying t = some (.slice e)) (hi : P.info? e = some i) (hz : i.zero = some z) (hs : (vcells z).length = i.size)
    (hv : vop P ρ h K X (.mslice e (vcells z) i.bytes l c)) : SH P (execOp ρ (mkO (.makeSlice t l c) ty)) (nextK P K X) (pK X) h := by
  simp only [vop] at hv
  simp only [execOp, mkO, wrap_v]
  split at hv
  · rename_i k1 a k2 b hl hc
    obtain ⟨⟨h0, h1, h2, h3⟩, hv⟩ := hv
    simp only [Instr.makeSlice, SH_bind', SH_underlying hd, hl, hc, asInt, asIntOf, SH_pure, SH_typeInfo hi]
    rw [wrap_fits a (by omega), wrap_fits b (by omega)]
    have hn : ¬ (a < 0) := by omega
    have hm : ¬ (a > b) := by omega
    have hb : ¬ (b < 0) := by omega
    have hk : ¬ ((i.bytes : Int) * b > 2 ^ 48) := by
      have : ((2 : Int) ^ 48) = 281474976710656 := by decide
      rw [this]; omega
    simp only [hn, hm, hb, hk, decide_false, Bool.or_false, Bool.false_eq_true, if_false, SH_pure]
    have room : ∀ {Q : Unit → H → Prop} {E : Value → H → Prop}, SH P (askRoom (b.toNat * i.bytes)) Q E h = Q () h := by
      intro Q E
      unfold askRoom
      split <;> rfl
    have fin : SH P (do pure (Value.slice (some (← newRow e (zrep (vcells z) b.toNat).toArray)) a.toNat b.toNat)) K (pK X) h := by
      simp only [newRow, SH_bind', SH_newObj, SH_pure]
      exact hv
    simp only [SH_bind', room, SH_sizeOf hi]
    by_cases hz0 : b.toNat * i.size = 0
    · simp only [hz0, if_true, SH_pure]
      have hzz : zrep (vcells z) b.toNat = [] := List.eq_nil_of_length_eq_zero (by rw [zrep_length, hs, hz0])
      rw [hzz] at fin
      simp only [SH_bind', SH_pure, range0]
      exact fin
    · simp only [hz0, if_false, SH_bind', SH_zeroValue hi hz, SH_pure]
      rw [zeros_cells z b.toNat i.size hs]
      exact fin
  · exact hv.elim
end
end Go.Tk
