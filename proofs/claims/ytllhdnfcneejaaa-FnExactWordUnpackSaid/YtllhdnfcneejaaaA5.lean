/- Each operation with its types looked up does what the operation does. -/
import Derived.Test.YtllhdnfcneejaaaA4
import Derived.Laws.Sem
import Derived.Laws.Strings
set_option linter.unusedVariables false
set_option linter.unusedSimpArgs false
namespace Go.Tk
open Go

section
variable {P : Program} {ρ : Operand → Value} {h : H} {K : Value → H → Prop} {X : List PanicEntry → H → Prop} {ty : TypeId}

theorem wrap_v (s : Sem Value) : SH P (do pure (Next.value (← s))) (nextK P K X) (pK X) h = SH P s K (pK X) h := by
  rw [SH_bind']; rfl
theorem wrap_u (s : Sem Unit) : SH P (do s; pure Next.skip) (nextK P K X) (pK X) h = SH P s (fun _ h' => K undef h') (pK X) h := by
  rw [SH_bind']; rfl

def nz (i : TypeInfo) : Bool := !(i.size == 0)

/-- A field: where it lies, and of how many cells it is. -/
def fieldOf (P : Program) (s : TypeId) (f : Nat) : Option (Nat × Nat × Bool) :=
  match P.underlying s with
  | some (.struct fs) => match fs[f]? with
    | some fd => match P.info? fd.type, P.underlying fd.type with
      | some i, some d => some (fd.offset, i.size, aggD d)
      | _, _ => none
    | none => none
  | _ => none

def placesOf (P : Program) : List Field → Option (List (Nat × Nat))
  | [] => some []
  | f :: r => match P.info? f.type, placesOf P r with
    | some i, some l => some ((f.offset, i.size) :: l)
    | _, _ => none

def partsOf (pl : List (Nat × Nat)) : List (Nat × Operand) → Option (List (Nat × Nat × Operand))
  | [] => some []
  | (i, x) :: r => match pl[i]?, partsOf pl r with
    | some (off, n), some l => some ((off, n, x) :: l)
    | _, _ => none

def zeroOf (P : Program) (t : TypeId) : Option Value := (P.info? t).bind (·.zero)

def argKind (P : Program) (ts : Array TypeId) : Option TypeDesc := (ts[0]?).bind P.underlying

def ciEq (P : Program) (neg : Bool) (t : TypeId) (x y : Operand) (other : I) : I :=
  match P.underlying t with
  | some .bool => .beq neg x y
  | some (.interface _) => .ieq neg x y
  | some (.slice _) => .leq neg x y
  | _ => other

def ciCall (P : Program) (c : Call) (other : I) : I :=
  match c.callee with
  | .builtin .len => match c.args.toList, c.argTypes.toList with
    | [x], [t] => match P.underlying t with
      | some .string => .lenT x
      | some (.slice _) => .lenS x
      | some (.array n _) => .mov (.const (.int .i64 n))
      | _ => other
    | _, _ => other
  | .builtin .append => match c.args.toList, c.argTypes.toList with
    | [x, y], [t, u] => .app t u 0 x y
    | _, _ => other
  | .builtin _ => other
  | .value (.func f) => if callOk P f = true then .call f c.args.toList else other
  | .value f => .callv f c.args.toList
  | .invoke r m => .inv r m c.args.toList

def ciSlice (P : Program) (t : TypeId) (x : Operand) (lo hi : Option Operand) (other : I) : I :=
  match P.underlying t with
  | some .string => .slT x lo hi
  | some (.slice e) => match P.info? e with
    | some i => .slc x i.size lo hi
    | none => other
  | _ => other

def ci (P : Program) (op : Op) (ty : TypeId) : I :=
  match op with
  | .move x | .assign x => .mov x
  | .pick c a b => .pick c a b
  | .load t x => match P.underlying t, P.info? t with
    | some d, some i => .load x i.size (aggD d)
    | _, _ => .raw op ty
  | .store t x y => match P.info? t with
    | some i => .store x y i.size
    | none => .raw op ty
  | .alloc e => match zeroOf P e with
    | some z => .alloc e (vcells z)
    | none => .raw op ty
  | .box e x => .box e x
  | .fieldAddr s x f => match fieldOf P s f with
    | some (off, n, _) => if n = 0 then .raw op ty else .fld x off
    | none => .raw op ty
  | .field s x f => match fieldOf P s f with
    | some (off, n, agg) => .get x off n agg
    | none => .raw op ty
  | .indexAddr t x i => match P.underlying t with
    | some (.slice e) => match P.info? e with
      | some ie => .idxS x i ie.size
      | none => .raw op ty
    | some (.array len e) => match P.info? e with
      | some ie => .idxA x i len ie.size
      | none => .raw op ty
    | _ => .raw op ty
  | .index t x i => match P.underlying t with
    | some .string => .idxT x i
    | _ => .raw op ty
  | .nilCheck x => .nilc x
  | .binOp .eql t x y _ => ciEq P false t x y (.bin .eql t x y)
  | .binOp .neq t x y _ => ciEq P true t x y (.bin .neq t x y)
  | .binOp op t x y _ => .bin op t x y
  | .unOp .not _ x => .not x
  | .convert s d x => match P.underlying s, P.underlying d with
    | some (.int _), some (.int k) => .conv k x
    | some (.slice e), some .string => match P.underlying e with
      | some (.int .u8) => .btos x
      | _ => .raw op ty
    | _, _ => .raw op ty
  | .makeInterface t x => match P.underlying t with
    | some (.interface _) | none => .raw op ty
    | some _ => .iface t x
  | .makeFunc f fi ca => .fn f fi.toList ca.toList
  | .build t ps => match P.underlying t, zeroOf P t with
    | some (.struct fs), some z => match placesOf P fs.toList with
      | some pl => match partsOf pl ps.toList with
        | some l => .build (vcells z) l
        | none => .raw op ty
      | none => .raw op ty
    | _, _ => .raw op ty
  | .buildSlice t len ps => match P.underlying t with
    | some (.slice e) => match P.info? e with
      | some i => match i.zero with
        | some z => if (vcells z).length = i.size ∧ len * i.size ≤ 2 ^ 24 then .bslice e (vcells z) len (ps.toList.map fun p => (p.1 * i.size, i.size, p.2)) else .raw op ty
        | none => .raw op ty
      | none => .raw op ty
    | _ => .raw op ty
  | .makeSlice t l c => match P.underlying t with
    | some (.slice e) => match P.info? e with
      | some i => match i.zero with
        | some z => if (vcells z).length = i.size then .mslice e (vcells z) i.bytes l c else .raw op ty
        | none => .raw op ty
      | none => .raw op ty
    | _ => .raw op ty
  | .slice t x lo hi none => ciSlice P t x lo hi (.raw op ty)
  | .extract x i => .ext x i
  | .typeAssert x _ t ok => match P.underlying t, zeroOf P t with
    | some (.interface _), _ => .raw op ty
    | some _, some z => .asrt x t z ok
    | _, _ => .raw op ty
  | .call c => ciCall P c (.raw op ty)
  | _ => .raw op ty

theorem s_raw {op : Op} (hv : vop P ρ h K X (.raw op ty)) : SH P (execOp ρ (mkO op ty)) (nextK P K X) (pK X) h := hv

theorem s_pick {c a b : Operand} (hv : vop P ρ h K X (.pick c a b)) : SH P (execOp ρ (mkO (.pick c a b) ty)) (nextK P K X) (pK X) h := by
  simp only [vop] at hv
  simp only [execOp, mkO]
  split at hv
  · rename_i t ht
    simp only [ht, asBool, SH_bind', SH_pure]
    exact hv
  · exact hv.elim

theorem s_load {t : TypeId} {x : Operand} {d : TypeDesc} {i : TypeInfo} (hd : P.underlying t = some d) (hi : P.info? t = some i) (hv : vop P ρ h K X (.load x i.size (aggD d))) : SH P (execOp ρ (mkO (.load t x) ty)) (nextK P K X) (pK X) h := by
  simp only [vop] at hv
  simp only [execOp, mkO, wrap_v]
  split at hv
  · rename_i b k hx
    split at hv
    · rename_i v hval
      simp only [Instr.loadAt, hx, Instr.sureAddr, SH_bind', SH_pure, SH_loadVar hd hi hval]
      exact hv
    · exact hv.elim
  · exact hv.elim

theorem s_store {t : TypeId} {x y : Operand} {i : TypeInfo} (hi : P.info? t = some i) (hv : vop P ρ h K X (.store x y i.size)) : SH P (execOp ρ (mkO (.store t x y) ty)) (nextK P K X) (pK X) h := by
  simp only [vop] at hv
  simp only [execOp, mkO, wrap_u]
  split at hv
  · rename_i b k hx
    obtain ⟨h1, h2, h3⟩ := hv
    split at h3
    · rename_i h' hw
      simp only [Instr.storeAt, hx, Instr.sureAddr, SH_bind', SH_pure, SH_storeVar hi h1 h2 hw]
      exact h3
    · exact h3.elim
  · exact hv.elim

theorem s_new {e : TypeId} {v : Value} {Q : Addr → H → Prop} {E : Value → H → Prop} (hv : ∀ j, hget h j = none → Q ⟨j, 0, none⟩ ((j, blk (vcells v) e) :: h)) : SH P (newVar e v) Q E h := by
  simp only [newVar, newRow, SH_bind', SH_newObj, SH_pure]
  intro j hj
  have := hv j hj
  rw [vcells_cells]
  exact this

theorem s_alloc {e : TypeId} {z : Value} (hz : zeroOf P e = some z) (hv : vop P ρ h K X (.alloc e (vcells z))) : SH P (execOp ρ (mkO (.alloc e) ty)) (nextK P K X) (pK X) h := by
  simp only [vop] at hv
  simp only [execOp, mkO, wrap_v]
  unfold zeroOf at hz
  obtain ⟨i, hi, hz⟩ := Option.bind_eq_some_iff.1 hz
  simp only [Instr.alloc, SH_bind', SH_zeroValue hi hz]
  exact s_new fun j hj => hv j hj

theorem s_box {e : TypeId} {x : Operand} (hv : vop P ρ h K X (.box e x)) : SH P (execOp ρ (mkO (.box e x) ty)) (nextK P K X) (pK X) h := by
  simp only [vop] at hv
  simp only [execOp, mkO, wrap_v]
  simp only [Instr.box, SH_bind']
  exact s_new fun j hj => hv j hj

theorem fieldOf_spec {s : TypeId} {f off n : Nat} {agg : Bool} (hf : fieldOf P s f = some (off, n, agg)) : ∃ fs fd i d, P.underlying s = some (.struct fs) ∧ fs[f]? = some fd ∧ P.info? fd.type = some i ∧ P.underlying fd.type = some d ∧ off = fd.offset ∧ n = i.size ∧ agg = aggD d := by
  unfold fieldOf at hf
  split at hf
  · rename_i fs hs
    split at hf
    · rename_i fd hfd
      split at hf
      · rename_i i d hi hd
        cases hf
        exact ⟨fs, fd, i, d, hs, hfd, hi, hd, rfl, rfl, rfl⟩
      · cases hf
    · cases hf
  · cases hf

theorem s_fld {s : TypeId} {x : Operand} {f off n : Nat} {agg : Bool} (hf : fieldOf P s f = some (off, n, agg)) (hn : n ≠ 0) (hv : vop P ρ h K X (.fld x off)) : SH P (execOp ρ (mkO (.fieldAddr s x f) ty)) (nextK P K X) (pK X) h := by
  obtain ⟨fs, fd, i, d, hs, hfd, hi, hd, rfl, rfl, rfl⟩ := fieldOf_spec hf
  simp only [vop] at hv
  simp only [execOp, mkO, wrap_v]
  split at hv
  · rename_i b k hx
    simp only [Instr.fieldAt, SH_bind', SH_underlying hs, hfd, hx, Instr.sureAddr, SH_pure, fieldPlace, SH_sizeOf hi, hn, if_false, add_none]
    exact hv
  · exact hv.elim

theorem s_get {s : TypeId} {x : Operand} {f off n : Nat} {agg : Bool} (hf : fieldOf P s f = some (off, n, agg)) (hv : vop P ρ h K X (.get x off n agg)) : SH P (execOp ρ (mkO (.field s x f) ty)) (nextK P K X) (pK X) h := by
  obtain ⟨fs, fd, i, d, hs, hfd, hi, hd, rfl, rfl, rfl⟩ := fieldOf_spec hf
  simp only [vop] at hv
  simp only [execOp, mkO, wrap_v]
  split at hv
  · rename_i cs hx
    simp only [Instr.field, SH_bind', SH_underlying hs, hfd, hx, asAgg, SH_pure, part, SH_isAgg hd]
    cases ha : aggD d
    · rw [ha] at hv
      simp only [Bool.false_eq_true, if_false] at hv ⊢
      split at hv
      · rename_i v hvv
        rw [show cs[fd.offset]? = some v from by simpa using hvv]
        exact hv
      · exact hv.elim
    · rw [ha] at hv
      simp only [if_true, SH_bind', SH_sizeOf hi, SH_pure] at hv ⊢
      rw [show cs.extract fd.offset (fd.offset + i.size) = ((cs.toList.drop fd.offset).take i.size).toArray from by apply Array.ext'; simp]
      exact hv
  · exact hv.elim

theorem s_idxS {t e : TypeId} {x i : Operand} {ie : TypeInfo} (hd : P.underlying t = some (.slice e)) (hi : P.info? e = some ie) (hv : vop P ρ h K X (.idxS x i ie.size)) : SH P (execOp ρ (mkO (.indexAddr t x i) ty)) (nextK P K X) (pK X) h := by
  simp only [vop] at hv
  simp only [execOp, mkO, wrap_v]
  split at hv
  · rename_i b k len cap kd j hx hix
    simp only [Instr.indexAt, hx, hix, asIntOf, SH_bind', SH_pure, SH_underlying hd, hv.1, if_true, SH_sizeOf hi, add_none, and_self]
    exact hv.2
  · exact hv.elim

theorem s_idxA {t e : TypeId} {len : Nat} {x i : Operand} {ie : TypeInfo} (hd : P.underlying t = some (.array len e)) (hi : P.info? e = some ie) (hv : vop P ρ h K X (.idxA x i len ie.size)) : SH P (execOp ρ (mkO (.indexAddr t x i) ty)) (nextK P K X) (pK X) h := by
  simp only [vop] at hv
  simp only [execOp, mkO, wrap_v]
  split at hv
  · rename_i b k kd j hx hix
    simp only [Instr.indexAt, hx, hix, asIntOf, SH_bind', SH_pure, SH_underlying hd, hv.1, if_true, SH_sizeOf hi, add_none, Instr.sureAddr, and_self]
    exact hv.2
  · exact hv.elim

theorem bytes_get (s : ByteArray) (j : Nat) : s[j]? = s.data.toList[j]? := by
  rw [Array.getElem?_toList]; rfl

theorem s_idxT {t : TypeId} {x i : Operand} (hd : P.underlying t = some .string) (hv : vop P ρ h K X (.idxT x i)) : SH P (execOp ρ (mkO (.index t x i) ty)) (nextK P K X) (pK X) h := by
  simp only [vop] at hv
  simp only [execOp, mkO, wrap_v]
  split at hv
  · rename_i s kd j hx hix
    obtain ⟨h0, h1⟩ := hv
    split at h1
    · rename_i u hu
      simp only [Instr.index, hx, hix, asIntOf, SH_bind', SH_pure, SH_underlying hd, h0, if_true, bytes_get, hu]
      exact h1
    · exact h1.elim
  · exact hv.elim

theorem s_nilc {x : Operand} (hv : vop P ρ h K X (.nilc x)) : SH P (execOp ρ (mkO (.nilCheck x) ty)) (nextK P K X) (pK X) h := by
  simp only [vop] at hv
  simp only [execOp, mkO]
  split at hv
  · rename_i a hx; rw [hx]; exact hv
  · rename_i f fi ca hx; rw [hx]; exact hv
  · exact hv.elim

theorem eqGuard_quick {op : BinOp} {t : TypeId} {x y : Operand} {a b : Value} (hne : ∀ u v, ¬ (a = .agg u ∧ b = .agg v)) (hni : ¬ (a = .nilIface ∧ b = .nilIface)) : eqGuard op t x y a b = pure () := by
  cases op <;> first
    | rfl
    | (cases a <;> cases b <;> first | rfl | exact absurd ⟨rfl, rfl⟩ hni | exact absurd ⟨rfl, rfl⟩ (hne _ _))

theorem binOp_int {op : BinOp} {t : TypeId} {k k' : IntKind} {a b : Int} {v : Value} (hk : k = k' ∨ shiftOp op = true) (hr : intBin op k a b = some v) : binOp op t (.int k a) (.int k' b) = pure v := by
  cases op <;> simp [intBin] at hr <;> simp [binOp, Op.intArith, Op.intDiv, Op.intBits, Op.intCmp, Op.shift]
  all_goals first
    | (rcases hk with rfl | hk
       · first | (rw [hr]; simp) | (obtain ⟨hb, rfl⟩ := hr; simp [hb]) | (subst hr; simp)
       · simp [shiftOp] at hk)
    | (obtain ⟨hb, rfl⟩ := hr; simp; omega)
    | (obtain ⟨hb, rfl⟩ := hr; rw [if_neg (by omega)])

theorem str_eq (a b : ByteArray) : (a.data.toList == b.data.toList) = decide (a = b) := by
  by_cases e : a = b
  · subst e; simp
  · have h2 : ¬ a.data = b.data := fun h => e (ByteArray.ext h)
    simp [e, h2]

theorem binOp_str {op : BinOp} {t : TypeId} {a b : ByteArray} {v : Value} (hr : strBin op a b = some v) : binOp op t (.string a) (.string b) = pure v := by
  cases op <;> simp [strBin] at hr <;> simp only [binOp, Op.stringOp, ByteArray.toList_eq, str_eq]
  · obtain ⟨hb, rfl⟩ := hr
    rw [if_neg]
    have : IntKind.i64.max = 9223372036854775807 := by decide
    rw [this]; omega
  all_goals (subst hr; rfl)

theorem s_bin {op : BinOp} {t u : TypeId} {x y : Operand} (hv : vop P ρ h K X (.bin op t x y)) : SH P (execOp ρ (mkO (.binOp op t x y u) ty)) (nextK P K X) (pK X) h := by
  simp only [vop] at hv
  simp only [execOp, mkO, wrap_v]
  split at hv
  · rename_i k a k' b hx hy
    obtain ⟨hk, hv⟩ := hv
    split at hv
    · rename_i v hr
      rw [hx, hy, eqGuard_quick (by simp) (by simp), binOp_int hk hr]
      exact hv
    · exact hv.elim
  · rename_i a b hx hy
    split at hv
    · rename_i v hr
      rw [hx, hy, eqGuard_quick (by simp) (by simp), binOp_str hr]
      exact hv
    · exact hv.elim
  · exact hv
end
end Go.Tk
