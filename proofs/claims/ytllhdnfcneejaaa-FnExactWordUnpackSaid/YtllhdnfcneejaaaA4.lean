/- Operations with their types looked up: what each asks and gives, over a part of the memory. -/
import Derived.Test.YtllhdnfcneejaaaA3
set_option linter.unusedVariables false
set_option linter.unusedSimpArgs false
namespace Go.Tk
open Go

inductive I where
  | mov (x : Operand)
  | pick (c a b : Operand)
  | load (x : Operand) (n : Nat) (agg : Bool)
  | store (x y : Operand) (n : Nat)
  | alloc (e : TypeId) (z : List Value)
  | box (e : TypeId) (x : Operand)
  | fld (x : Operand) (off : Nat)
  | get (x : Operand) (off n : Nat) (agg : Bool)
  | idxS (x i : Operand) (n : Nat)
  | idxA (x i : Operand) (len n : Nat)
  | idxT (x i : Operand)
  | nilc (x : Operand)
  | bin (op : BinOp) (t : TypeId) (x y : Operand)
  | beq (neg : Bool) (x y : Operand)
  | ieq (neg : Bool) (x y : Operand)
  | leq (neg : Bool) (x y : Operand)
  | not (x : Operand)
  | conv (k : IntKind) (x : Operand)
  | iface (t : TypeId) (x : Operand)
  | fn (f : Fn) (first captured : List Operand)
  | build (z : List Value) (ps : List (Nat × Nat × Operand))
  | bslice (e : TypeId) (z : List Value) (len : Nat) (ps : List (Nat × Nat × Operand))
  | mslice (e : TypeId) (z : List Value) (bytes : Nat) (l c : Operand)
  | slc (x : Operand) (n : Nat) (lo hi : Option Operand)
  | slT (x : Operand) (lo hi : Option Operand)
  | lenT (x : Operand)
  | lenS (x : Operand)
  | app (t1 t2 ty : TypeId) (x y : Operand)
  | btos (x : Operand)
  | ext (x : Operand) (i : Nat)
  | asrt (x : Operand) (t : TypeId) (z : Value) (ok : Bool)
  | call (f : FuncId) (args : List Operand)
  | callv (f : Operand) (args : List Operand)
  | inv (recv : Operand) (name : String) (args : List Operand)
  | raw (o : Op) (ty : TypeId)

/-- A function that can be entered. -/
def callOk (P : Program) (f : FuncId) : Bool :=
  match P.funcs[f]? with
  | some fn => fn.body.isSome && !(fn.name == "runtime.NumGoroutine")
  | none => false

def intBin (op : BinOp) (k : IntKind) (a b : Int) : Option Value :=
  match op with
  | .add => some (.int k (k.wrap (a + b)))
  | .sub => some (.int k (k.wrap (a - b)))
  | .mul => some (.int k (k.wrap (a * b)))
  | .quo => if b = 0 then none else some (.int k (k.wrap (a.tdiv b)))
  | .rem => if b = 0 then none else some (.int k (a.tmod b))
  | .eql => some (.bool (a == b))
  | .neq => some (.bool (a != b))
  | .lss => some (.bool (a < b))
  | .leq => some (.bool (a ≤ b))
  | .gtr => some (.bool (b < a))
  | .geq => some (.bool (b ≤ a))
  | .and => some (.int k (k.wrap (BitVec.ofInt k.bits a &&& BitVec.ofInt k.bits b).toNat))
  | .or => some (.int k (k.wrap (BitVec.ofInt k.bits a ||| BitVec.ofInt k.bits b).toNat))
  | .xor => some (.int k (k.wrap (BitVec.ofInt k.bits a ^^^ BitVec.ofInt k.bits b).toNat))
  | .andNot => some (.int k (k.wrap (BitVec.ofInt k.bits a &&& ~~~BitVec.ofInt k.bits b).toNat))
  | .shl => if b < 0 then none else some (.int k (k.wrap (a * 2 ^ (min b.toNat k.bits))))
  | .shr => if b < 0 then none else some (.int k (a.fdiv (2 ^ (min b.toNat k.bits))))

def shiftOp : BinOp → Bool
  | .shl | .shr => true
  | _ => false

def strBin (op : BinOp) (a b : ByteArray) : Option Value :=
  match op with
  | .add => if a.size + b.size ≤ 9223372036854775807 then some (.string (a ++ b)) else none
  | .eql => some (.bool (decide (a = b)))
  | .neq => some (.bool (!decide (a = b)))
  | .lss => some (.bool (Op.bytesLess a.data.toList b.data.toList))
  | .geq => some (.bool (!Op.bytesLess a.data.toList b.data.toList))
  | _ => none

/-- Parts of a struct or a slice, laid into its zeros. -/
def fillL : List Value → List (Nat × Nat × List Value) → Option (List Value)
  | l, [] => some l
  | l, (off, n, v) :: r => if v.length = n ∧ off + n ≤ l.length then fillL (splice l off v) r else none

def toBytes : List Value → Option (List UInt8)
  | [] => some []
  | .int .u8 n :: r => (toBytes r).map (UInt8.ofNat n.toNat :: ·)
  | _ => none

def retK (K : Value → H → Prop) (X : List PanicEntry → H → Prop) : Ending → H → Prop
  | .returned v, h => K v h
  | .panicked c, h => X c h
  | .outgrown, _ => False

def nextK (P : Program) (K : Value → H → Prop) (X : List PanicEntry → H → Prop) : Next → H → Prop
  | .value v, h => K v h
  | .skip, h => K undef h
  | .enter f args, h => HCalls P f args h (retK K X)
  | .row row args, h => HRows P row args h K
  | _, _ => False

def pK (X : List PanicEntry → H → Prop) : Value → H → Prop := fun v h => X [{ v, recovered := false }] h

def mkO (o : Op) (ty : TypeId) : Oper := { dst := none, op := o, type := ty, pos := "", after := #[], guard := none }

def lowB (ρ : Operand → Value) : Option Operand → Option Int
  | none => some 0
  | some x => match ρ x with | .int _ n => some n | _ => none
def highB (ρ : Operand → Value) (len : Nat) : Option Operand → Option Int
  | none => some len
  | some x => match ρ x with | .int _ n => some n | _ => none

def vop (P : Program) (ρ : Operand → Value) (h : H) (K : Value → H → Prop) (X : List PanicEntry → H → Prop) : I → Prop
  | .mov x => K (ρ x) h
  | .pick c a b => match ρ c with
    | .bool t => K (if t then ρ a else ρ b) h
    | _ => False
  | .load x n agg => match ρ x with
    | .pointer (some ⟨b, k, none⟩) => (match hval h b k n agg with | some v => K v h | none => False)
    | _ => False
  | .store x y n => match ρ x with
    | .pointer (some ⟨b, k, none⟩) => (vcells (ρ y)).length = n ∧ (vcells (ρ y)).all vone = true ∧ (match hwrite h b k (vcells (ρ y)) with | some h' => K undef h' | none => False)
    | _ => False
  | .alloc e z => ∀ j, hget h j = none → K (.pointer (some ⟨j, 0, none⟩)) ((j, blk z e) :: h)
  | .box e x => ∀ j, hget h j = none → K (.pointer (some ⟨j, 0, none⟩)) ((j, blk (vcells (ρ x)) e) :: h)
  | .fld x off => match ρ x with
    | .pointer (some ⟨b, k, none⟩) => K (.pointer (some ⟨b, k + off, none⟩)) h
    | _ => False
  | .get x off n agg => match ρ x with
    | .agg cs => if agg then K (.agg ((cs.toList.drop off).take n).toArray) h else (match cs.toList[off]? with | some v => K v h | none => False)
    | _ => False
  | .idxS x i n => match ρ x, ρ i with
    | .slice (some ⟨b, k, none⟩) len _, .int _ j => (0 ≤ j ∧ j < (len : Int)) ∧ K (.pointer (some ⟨b, k + j.toNat * n, none⟩)) h
    | _, _ => False
  | .idxA x i len n => match ρ x, ρ i with
    | .pointer (some ⟨b, k, none⟩), .int _ j => (0 ≤ j ∧ j < (len : Int)) ∧ K (.pointer (some ⟨b, k + j.toNat * n, none⟩)) h
    | _, _ => False
  | .idxT x i => match ρ x, ρ i with
    | .string s, .int _ j => 0 ≤ j ∧ (match s.data.toList[j.toNat]? with | some u => K (.int .u8 u.toNat) h | none => False)
    | _, _ => False
  | .nilc x => match ρ x with
    | .pointer (some a) => K (.pointer (some a)) h
    | .func (.func f) fi ca => K (.func (.func f) fi ca) h
    | _ => False
  | .bin op t x y => match ρ x, ρ y with
    | .int k a, .int k' b => (k = k' ∨ shiftOp op = true) ∧ (match intBin op k a b with | some v => K v h | none => False)
    | .string a, .string b => (match strBin op a b with | some v => K v h | none => False)
    | a, b => SH P (do eqGuard op t x y a b; binOp op t a b) K (pK X) h
  | .beq neg x y => match ρ x, ρ y with
    | .bool a, .bool b => K (.bool (if neg then !(a == b) else a == b)) h
    | _, _ => False
  | .ieq neg x y => match ρ x, ρ y with
    | .nilIface, .nilIface => ((x matches .const _) || (y matches .const _)) = true ∧ K (.bool !neg) h
    | .nilIface, .iface _ _ => K (.bool neg) h
    | .iface _ _, .nilIface => K (.bool neg) h
    | _, _ => False
  | .leq neg x y => match ρ x, ρ y with
    | .slice none _ _, .slice b _ _ => K (.bool (if neg then !b.isNone else b.isNone)) h
    | .slice (some _) _ _, .slice none _ _ => K (.bool neg) h
    | _, _ => False
  | .not x => match ρ x with
    | .bool b => K (.bool !b) h
    | _ => False
  | .conv k x => match ρ x with
    | .int _ n => K (.int k (k.wrap n)) h
    | _ => False
  | .iface t x => K (.iface t (ρ x)) h
  | .fn f fi ca => K (.func f (fi.map ρ).toArray (ca.map ρ).toArray) h
  | .build z ps => match fillL z (ps.map fun p => (p.1, p.2.1, vcells (ρ p.2.2))) with
    | some l => K (.agg l.toArray) h
    | none => False
  | .bslice e z len ps => match fillL (zrep z len) (ps.map fun p => (p.1, p.2.1, vcells (ρ p.2.2))) with
    | some l => ∀ j, hget h j = none → K (.slice (some ⟨j, 0, none⟩) len len) ((j, blk l e) :: h)
    | none => False
  | .mslice e z bytes l c => match ρ l, ρ c with
    | .int _ a, .int _ b => (0 ≤ a ∧ a ≤ b ∧ b ≤ 9223372036854775807 ∧ bytes * b ≤ 281474976710656) ∧ ∀ j, hget h j = none → K (.slice (some ⟨j, 0, none⟩) a.toNat b.toNat) ((j, blk (zrep z b.toNat) e) :: h)
    | _, _ => False
  | .slc x n lo hi => match ρ x with
    | .slice a len cap => (match lowB ρ lo, highB ρ len hi with
      | some l, some u => (0 ≤ l ∧ l ≤ u ∧ u ≤ (cap : Int)) ∧ K (.slice (if cap = l.toNat then a else a.map (·.add (l.toNat * n))) (u.toNat - l.toNat) (cap - l.toNat)) h
      | _, _ => False)
    | _ => False
  | .slT x lo hi => match ρ x with
    | .string s => (match lowB ρ lo, highB ρ s.size hi with
      | some l, some u => (0 ≤ l ∧ l ≤ u ∧ u ≤ (s.size : Int)) ∧ K (.string ⟨((s.data.toList.drop l.toNat).take (u.toNat - l.toNat)).toArray⟩) h
      | _, _ => False)
    | _ => False
  | .lenT x => match ρ x with
    | .string s => K (.int .i64 s.size) h
    | _ => False
  | .lenS x => match ρ x with
    | .slice _ n _ => K (.int .i64 n) h
    | _ => False
  | .app t1 t2 ty x y => SH P (Builtin.append_ #[t1, t2] ty #[ρ x, ρ y]) (dP K) (pK X) h
  | .btos x => match ρ x with
    | .slice none _ _ => K (.string .empty) h
    | .slice (some ⟨b, k, none⟩) len _ => (match (hread h b k len).bind toBytes with
      | some l => K (.string ⟨l.toArray⟩) h
      | none => False)
    | _ => False
  | .ext x i => match ρ x with
    | .tuple vs => (match vs.toList[i]? with | some v => K v h | none => False)
    | _ => False
  | .asrt x t z ok => match ρ x with
    | .iface t' v => if t' = t then K (if ok then .tuple #[v, .bool true] else v) h else ok = true ∧ K (.tuple #[z, .bool false]) h
    | .nilIface => ok = true ∧ K (.tuple #[z, .bool false]) h
    | _ => False
  | .call f args => HCalls P f (args.map ρ).toArray h (retK K X)
  | .callv f args => match ρ f with
    | .func (.func g) fi ca => callOk P g = true ∧ HCalls P g (fi ++ (args.map ρ).toArray ++ ca) h (retK K X)
    | _ => False
  | .inv recv name args => match ρ recv with
    | .iface t v => ∃ g r, evH P (method (P.types.size + Made.depth) t v name) h = some (g, r) ∧ callOk P g = true ∧ HCalls P g (#[r] ++ (args.map ρ).toArray) h (retK K X)
    | _ => False
  | .raw o ty => SH P (execOp ρ (mkO o ty)) (nextK P K X) (pK X) h
end Go.Tk
