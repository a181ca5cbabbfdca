/- What the model's common steps do with a part of the memory. -/
import Derived.Test.YtllhdnfcneejaaaA2
set_option linter.unusedVariables false
set_option linter.unusedSimpArgs false
namespace Go.Tk
open Go

section
variable {P : Program} {E : Value → H → Prop} {h : H}

theorem SH_underlying {t : TypeId} {d : TypeDesc} {Q : TypeDesc → H → Prop} (e : P.underlying t = some d) : SH P (underlying t) Q E h = Q d h := by
  simp only [underlying, program, SH_bind', SH, e]; rfl
theorem SH_typeInfo {t : TypeId} {i : TypeInfo} {Q : TypeInfo → H → Prop} (e : P.info? t = some i) : SH P (typeInfo t) Q E h = Q i h := by
  simp only [typeInfo, program, SH_bind', SH, e]; rfl
theorem SH_sizeOf {t : TypeId} {i : TypeInfo} {Q : Nat → H → Prop} (e : P.info? t = some i) : SH P (sizeOf t) Q E h = Q i.size h := by
  simp only [sizeOf, SH_bind', SH_typeInfo e]; rfl
theorem SH_zeroValue {t : TypeId} {i : TypeInfo} {z : Value} {Q : Value → H → Prop} (e : P.info? t = some i) (ez : i.zero = some z) : SH P (zeroValue t) Q E h = Q z h := by
  simp only [zeroValue, SH_bind', SH_typeInfo e, ez]; rfl

def aggD : TypeDesc → Bool
  | .struct _ | .array _ _ => true
  | _ => false

theorem SH_isAgg {t : TypeId} {d : TypeDesc} {Q : Bool → H → Prop} (e : P.underlying t = some d) : SH P (isAgg t) Q E h = Q (aggD d) h := by
  simp only [isAgg, SH_bind', SH_underlying e]
  cases d <;> rfl

theorem SH_load {a : Addr} {m : Mode} {Q : Value → H → Prop} : SH P (load a m) Q E h = match hcell h a with | some v => Q v h | none => False := by
  simp only [load, SH]
  cases hcell h a <;> rfl
theorem SH_stuck {α : Type} {s : String} {Q : α → H → Prop} : SH P (stuck s : Sem α) Q E h = False := rfl
theorem SH_newObj {o : Obj} {Q : Nat → H → Prop} : SH P (newObj o) Q E h = ∀ i, hget h i = none → Q i ((i, o) :: h) := rfl
end

theorem add_none (b o n : Nat) : (⟨b, o, none⟩ : Addr).add n = ⟨b, o + n, none⟩ := by
  unfold Addr.add
  split
  · rename_i e; subst e; rfl
  · rfl

/-- A block of cells that nobody has frozen. -/
def blk (l : List Value) (e : TypeId) : Obj := .cells l.toArray e (0, 0)

/-- Cells in a row, of a block. -/
def rdObj (o : Obj) (k n : Nat) : Option (List Value) :=
  match o with
  | .cells c _ _ => if k + n ≤ c.size then some ((c.toList.drop k).take n) else none
  | _ => none

theorem rdObj_blk (l : List Value) (e : TypeId) (k n : Nat) : rdObj (blk l e) k n = if k + n ≤ l.length then some ((l.drop k).take n) else none := by
  simp [rdObj, blk]

def hread (h : H) (b k n : Nat) : Option (List Value) := (hget h b).bind fun o => rdObj o k n
def hcel (h : H) (b k : Nat) : Option Value := (hget h b).bind fun o => match o with | .cells c _ _ => c[k]? | _ => none

theorem hcel_hcell (h : H) (b k : Nat) : hcell h ⟨b, k, none⟩ = hcel h b k := by
  unfold hcell hcel
  cases hget h b with
  | none => rfl
  | some o => cases o <;> rfl

theorem hread_get {h : H} {b k n : Nat} {l : List Value} (hr : hread h b k n = some l) : l.length = n ∧ ∀ j, j < n → hcel h b (k + j) = l[j]? := by
  unfold hread at hr
  cases e : hget h b with
  | none => rw [e] at hr; cases hr
  | some o =>
    rw [e] at hr
    cases o <;> simp [rdObj] at hr
    rename_i c t f
    obtain ⟨hle, rfl⟩ := hr
    refine ⟨by simp; omega, fun j hj => ?_⟩
    simp [hcel, e, List.getElem?_take, hj, List.getElem?_drop]

theorem loadCellsFrom_SH {P : Program} {E : Value → H → Prop} {h : H} {b : Nat} : ∀ (n i k : Nat) (acc : Array Value) (l : List Value) {Q : Array Value → H → Prop}, l.length = n → (∀ j, j < n → hcel h b (k + i + j) = l[j]?) →
    SH P (loadCellsFrom ⟨b, k, none⟩ i n acc) Q E h = Q (acc ++ l.toArray) h := by
  intro n
  induction n with
  | zero => intro i k acc l Q hl _; have : l = [] := List.eq_nil_of_length_eq_zero hl; subst this; show Q acc h = _; simp only [Array.append_empty]
  | succ n ih =>
    intro i k acc l Q hl hc
    cases l with
    | nil => cases hl
    | cons v l =>
      have h0 := hc 0 (by omega)
      simp only [Nat.add_zero, List.getElem?_cons_zero] at h0
      simp only [loadCellsFrom, SH_bind', SH_load, add_none, hcel_hcell, h0]
      rw [ih (i + 1) k (acc.push v) l (by simpa using hl) (fun j hj => by have := hc (j + 1) (by omega); simpa [Nat.add_assoc, Nat.add_comm 1 j] using this)]
      congr 1
      simp

theorem SH_loadCells {P : Program} {E : Value → H → Prop} {h : H} {b k n : Nat} {l : List Value} {Q : Array Value → H → Prop} (hr : hread h b k n = some l) : SH P (loadCells ⟨b, k, none⟩ n) Q E h = Q l.toArray h := by
  obtain ⟨hl, hc⟩ := hread_get hr
  unfold loadCells
  rw [loadCellsFrom_SH n 0 k #[] l hl (fun j hj => by simpa using hc j hj)]
  simp

/-- Some cells of a list replaced. -/
def splice : List Value → Nat → List Value → List Value
  | l, _, [] => l
  | [], _, _ :: _ => []
  | _ :: l, 0, v :: vs => v :: splice l 0 vs
  | x :: l, k + 1, v :: vs => x :: splice l k (v :: vs)

theorem splice_nil (l : List Value) (k : Nat) : splice l k [] = l := by cases l <;> cases k <;> rfl
theorem splice_zero (x : Value) (l : List Value) (v : Value) (vs : List Value) : splice (x :: l) 0 (v :: vs) = v :: splice l 0 vs := rfl
theorem splice_succ (x : Value) (l : List Value) (k : Nat) (vs : List Value) : splice (x :: l) (k + 1) vs = x :: splice l k vs := by cases vs <;> simp [splice]
theorem splice_length : ∀ (l : List Value) (k : Nat) (vs : List Value), (splice l k vs).length = l.length := by
  intro l
  induction l with
  | nil => intro k vs; cases vs <;> simp [splice]
  | cons x l ih => intro k vs; cases vs with
    | nil => simp [splice]
    | cons v vs => cases k <;> simp [splice, ih]

theorem splice_cons : ∀ (l : List Value) (k : Nat) (v : Value) (vs : List Value), splice l k (v :: vs) = splice (l.set k v) (k + 1) vs := by
  intro l
  induction l with
  | nil => intro k v vs; cases vs <;> simp [splice]
  | cons x l ih =>
    intro k v vs
    cases k with
    | zero => simp only [splice, List.set_cons_zero]; rw [splice_succ]
    | succ k => simp only [splice, List.set_cons_succ]; rw [ih, splice_succ]

theorem splice_one (l : List Value) (k : Nat) (v : Value) : splice l k [v] = l.set k v := by rw [splice_cons, splice_nil]

theorem splice_eq : ∀ (l : List Value) (k : Nat) (vs : List Value), k + vs.length ≤ l.length → splice l k vs = l.take k ++ vs ++ l.drop (k + vs.length) := by
  intro l
  induction l with
  | nil => intro k vs hk; have : vs = [] := List.eq_nil_of_length_eq_zero (by simp only [List.length_nil] at hk; omega); subst this; simp [splice]
  | cons x l ih =>
    intro k vs hk
    cases vs with
    | nil => simp [splice]
    | cons v vs =>
      cases k with
      | zero => simp only [splice]; rw [ih 0 vs (by simp at hk; omega)]; simp
      | succ k =>
        simp only [splice]; rw [ih k (v :: vs) (by simp at hk ⊢; omega)]
        simp [Nat.add_right_comm k 1]

/-- Cells in a row of a block, written. -/
def wrObj (o : Obj) (k : Nat) (vs : List Value) : Option Obj :=
  match o with
  | .cells c e f => if k + vs.length ≤ c.size ∧ (f.2 ≤ k ∨ k + vs.length ≤ f.1) then some (.cells (splice c.toList k vs).toArray e f) else none
  | _ => none

theorem wrObj_blk (l : List Value) (e : TypeId) (k : Nat) (vs : List Value) : wrObj (blk l e) k vs = if k + vs.length ≤ l.length then some (blk (splice l k vs) e) else none := by
  simp [wrObj, blk]

def hwrite (h : H) (b k : Nat) (vs : List Value) : Option H := (hget h b).bind fun o => (wrObj o k vs).map (hupd h b)

theorem hupd_cons (p : Nat × Obj) (t : H) (i : Nat) (o : Obj) : hupd (p :: t) i o = if i = p.1 then (p.1, o) :: t else p :: hupd t i o := rfl

theorem hupd_hupd (h : H) (b : Nat) (o o' : Obj) : hupd (hupd h b o) b o' = hupd h b o' := by
  induction h with
  | nil => rfl
  | cons p t ih =>
    simp only [hupd_cons]
    by_cases e : b = p.1
    · simp [e, hupd_cons]
    · simp only [e, if_false, hupd_cons, ih]

theorem hupd_self : ∀ (h : H) (b : Nat) (o : Obj), hget h b = some o → hupd h b o = h := by
  intro h
  induction h with
  | nil => intro b o hh; rfl
  | cons p t ih =>
    intro b o hh
    rw [hget_cons] at hh
    unfold hupd
    by_cases e : b = p.1
    · rw [if_pos e] at hh ⊢; cases hh; rfl
    · rw [if_neg e] at hh ⊢; rw [ih b o hh]

theorem storeCells_SH {P : Program} {E : Value → H → Prop} {b : Nat} : ∀ (vs : List Value) (i k : Nat) (h h' : H) {Q : Unit → H → Prop}, vs.all vone = true → hwrite h b (k + i) vs = some h' → SH P (storeCells ⟨b, k, none⟩ vs i) Q E h = Q () h' := by
  intro vs
  induction vs with
  | nil =>
    intro i k h h' Q _ hw
    have : h' = h := by
      unfold hwrite at hw
      cases e : hget h b with
      | none => rw [e] at hw; cases hw
      | some o =>
        rw [e] at hw
        cases o <;> simp [wrObj] at hw
        obtain ⟨_, rfl⟩ := hw
        simp only [splice_nil, Array.toArray_toList]
        exact hupd_self _ _ _ e
    subst this
    simp [storeCells, SH_pure]
  | cons v vs ih =>
    intro i k h h' Q hv hw
    simp only [List.all_cons, Bool.and_eq_true] at hv
    unfold hwrite at hw
    cases e : hget h b with
    | none => rw [e] at hw; cases hw
    | some o =>
      rw [e] at hw
      cases o <;> simp [wrObj] at hw
      rename_i c t f
      obtain ⟨⟨hle, hfz⟩, rfl⟩ := hw
      have hlt : k + i < c.size := by omega
      have hcell : hcell h ⟨b, k + i, none⟩ = some c[k + i] := by simp [hcell, e, hlt]
      have hfr : frzIn ⟨b, k + i, none⟩ (.cells c t f) = false := by
        obtain ⟨lo, hi⟩ := f
        simp only [frzIn, Bool.and_eq_false_iff, decide_eq_false_iff_not]
        simp at hfz
        omega
      have hw2 : hwrite (hupd h b (.cells (c.setIfInBounds (k + i) v) t f)) b (k + (i + 1)) vs = some (hupd h b (.cells (splice c.toList (k + i) (v :: vs)).toArray t f)) := by
        unfold hwrite
        rw [hget_hupd_same e]
        simp only [Option.bind_some, wrObj, Array.size_setIfInBounds]
        rw [if_pos ⟨by omega, by omega⟩]
        simp only [Option.map_some, hupd_hupd]
        rw [splice_cons]
        simp [Nat.add_assoc]
      simp only [storeCells, SH_bind', add_none]
      show SH P (Sem.store .plain ⟨b, k + i, none⟩ v (.pure ())) _ E h = _
      simp only [SH, e, hcell, hv.1, hfr, setObjCell, Option.isSome_none, Option.isSome_some, Bool.false_eq_true, if_false, true_and]
      exact ih (i + 1) k _ _ hv.2 hw2

theorem SH_storeCells {P : Program} {E : Value → H → Prop} {b k : Nat} {vs : List Value} {h h' : H} {Q : Unit → H → Prop} (hv : vs.all vone = true) (hw : hwrite h b k vs = some h') : SH P (storeCells ⟨b, k, none⟩ vs) Q E h = Q () h' :=
  storeCells_SH vs 0 k h h' hv hw

def vcells : Value → List Value
  | .agg cs => cs.toList
  | v => [v]

theorem vcells_eq (v : Value) : v.cells.toList = vcells v := by cases v <;> rfl
theorem vcells_size (v : Value) : v.cells.size = (vcells v).length := by cases v <;> rfl
theorem vcells_cells (v : Value) : v.cells = (vcells v).toArray := by cases v <;> simp [Value.cells, vcells]

/-- A variable of so many cells, as one value. -/
def hval (h : H) (b k n : Nat) (agg : Bool) : Option Value := if agg then (hread h b k n).map fun l => .agg l.toArray else hcel h b k

theorem SH_loadVar {P : Program} {E : Value → H → Prop} {h : H} {t : TypeId} {d : TypeDesc} {i : TypeInfo} {b k : Nat} {v : Value} {Q : Value → H → Prop} (hd : P.underlying t = some d) (hi : P.info? t = some i)
    (hv : hval h b k i.size (aggD d) = some v) : SH P (loadVar t ⟨b, k, none⟩) Q E h = Q v h := by
  unfold loadVar
  simp only [SH_bind', SH_isAgg hd]
  unfold hval at hv
  cases ha : aggD d
  · rw [ha] at hv
    simp only [Bool.false_eq_true, if_false] at hv ⊢
    simp only [SH_load, hcel_hcell, hv]
  · rw [ha] at hv
    simp only [if_true] at hv ⊢
    cases hr : hread h b k i.size with
    | none => rw [hr] at hv; cases hv
    | some l =>
      rw [hr] at hv
      cases hv
      simp only [SH_bind', SH_sizeOf hi, SH_loadCells hr, SH_pure]

theorem SH_storeVar {P : Program} {E : Value → H → Prop} {h h' : H} {t : TypeId} {i : TypeInfo} {b k : Nat} {v : Value} {Q : Unit → H → Prop} (hi : P.info? t = some i) (hn : (vcells v).length = i.size) (ho : (vcells v).all vone = true)
    (hw : hwrite h b k (vcells v) = some h') : SH P (storeVar t ⟨b, k, none⟩ v) Q E h = Q () h' := by
  unfold storeVar
  simp only [SH_bind', SH_sizeOf hi, vcells_size, hn, ne_eq, not_true_eq_false, if_false, vcells_eq]
  exact SH_storeCells ho hw

/-- Zeros in a row. -/
def zrep (z : List Value) (n : Nat) : List Value := (List.replicate n z).flatten

theorem zrep_zero (z : List Value) : zrep z 0 = [] := rfl
theorem zrep_succ (z : List Value) (n : Nat) : zrep z (n + 1) = z ++ zrep z n := by simp [zrep, List.replicate_succ]
theorem zrep_length (z : List Value) (n : Nat) : (zrep z n).length = n * z.length := by simp [zrep]

theorem zrep_get (z : List Value) : ∀ (n k : Nat), k < n * z.length → (zrep z n)[k]? = z[k % z.length]? := by
  intro n
  induction n with
  | zero => intro k hk; simp at hk
  | succ n ih =>
    intro k hk
    rw [zrep_succ]
    by_cases e : k < z.length
    · rw [List.getElem?_append_left e, Nat.mod_eq_of_lt e]
    · rw [List.getElem?_append_right (by omega), ih (k - z.length) (by rw [Nat.succ_mul] at hk; omega)]
      rw [← Nat.mod_eq_sub_mod (by omega)]

theorem zeros_eq (z : List Value) (n : Nat) : (Array.range (n * z.length)).map (z.toArray[· % z.toArray.size]!) = (zrep z n).toArray := by
  apply Array.ext'
  apply List.ext_getElem?
  intro k
  by_cases hk : k < n * z.length
  · have hz : 0 < z.length := Nat.pos_of_ne_zero (fun e => by rw [e] at hk; simp at hk)
    have hm : k % z.length < z.length := Nat.mod_lt _ hz
    rw [show ((zrep z n).toArray.toList)[k]? = z[k % z.length]? from by simpa using zrep_get z n k hk]
    simp [List.getElem?_range, hk, hm]
  · have h1 : (zrep z n)[k]? = none := List.getElem?_eq_none (by rw [zrep_length]; omega)
    simp [h1]
    omega
end Go.Tk
