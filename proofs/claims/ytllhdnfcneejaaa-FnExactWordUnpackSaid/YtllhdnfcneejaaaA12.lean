/- The operations' words: none of them looks into what comes behind it. -/
import Derived.Test.YtllhdnfcneejaaaA11
set_option linter.unusedVariables false
set_option linter.unusedSimpArgs false
namespace Go.Tk
open Go

def oK (o : Option Value) (f : Value → Prop) : Prop := match o with | some v => f v | none => False
def hK (o : Option H) (f : H → Prop) : Prop := match o with | some h => f h | none => False
def newB (h : H) (o : Obj) (f : Nat → H → Prop) : Prop := ∀ j, hget h j = none → f j ((j, o) :: h)
def lK (o : Option (List Value)) (f : List Value → Prop) : Prop := match o with | some v => f v | none => False
theorem oK_congr (o o' : Option Value) (f : Value → Prop) (e : o = o') : oK o f = oK o' f := by rw [e]
theorem hK_congr (o o' : Option H) (f : H → Prop) (e : o = o') : hK o f = hK o' f := by rw [e]
theorem lK_congr (o o' : Option (List Value)) (f : List Value → Prop) (e : o = o') : lK o f = lK o' f := by rw [e]
theorem newB_congr (h h' : H) (o o' : Obj) (f : Nat → H → Prop) (e : h = h') (e2 : o = o') : newB h o f = newB h' o' f := by rw [e, e2]
theorem oK_some (v : Value) (f : Value → Prop) : oK (some v) f = f v := rfl
theorem hK_some (h : H) (f : H → Prop) : hK (some h) f = f h := rfl
theorem lK_some (v : List Value) (f : List Value → Prop) : lK (some v) f = f v := rfl

def ap2 (K : Value → H → Prop) (h : H) : Value → Prop := fun v => K v h
def undC (K : Value → H → Prop) : H → Prop := fun h => K undef h
def ptrC (K : Value → H → Prop) : Nat → H → Prop := fun j h => K (.pointer (some ⟨j, 0, none⟩)) h
def slcC (n c : Nat) (K : Value → H → Prop) : Nat → H → Prop := fun j h => K (.slice (some ⟨j, 0, none⟩) n c) h
def aggC (f : Value → Prop) : List Value → Prop := fun l => f (.agg l.toArray)
def bslC (e : TypeId) (n : Nat) (h : H) (K : Value → H → Prop) : List Value → Prop := fun l => newB h (blk l e) (slcC n n K)
theorem ap2_eq (K : Value → H → Prop) (h : H) (v : Value) : ap2 K h v = K v h := rfl
theorem undC_eq (K : Value → H → Prop) (h : H) : undC K h = K undef h := rfl
theorem ptrC_eq (K : Value → H → Prop) (h : H) (j : Nat) : ptrC K j h = K (.pointer (some ⟨j, 0, none⟩)) h := rfl
theorem slcC_eq (n c : Nat) (K : Value → H → Prop) (h : H) (j : Nat) : slcC n c K j h = K (.slice (some ⟨j, 0, none⟩) n c) h := rfl
theorem aggC_eq (f : Value → Prop) (l : List Value) : aggC f l = f (.agg l.toArray) := rfl
theorem bslC_eq (e : TypeId) (n : Nat) (h : H) (K : Value → H → Prop) (l : List Value) : bslC e n h K l = newB h (blk l e) (slcC n n K) := rfl
theorem newB_intro {h : H} {o : Obj} {f : Nat → H → Prop} (x : ∀ j, hget h j = none → f j ((j, o) :: h)) : newB h o f := x

def pickK (c a b : Value) (f : Value → Prop) : Prop := match c with | .bool t => f (if t = true then a else b) | _ => False
def loadK (x : Value) (n : Nat) (agg : Bool) (h : H) (f : Value → Prop) : Prop := match x with | .pointer (some ⟨b, k, none⟩) => oK (hval h b k n agg) f | _ => False
def storeK (x y : Value) (n : Nat) (h : H) (f : H → Prop) : Prop := match x with
  | .pointer (some ⟨b, k, none⟩) => (vcells y).length = n ∧ (vcells y).all vone = true ∧ hK (hwrite h b k (vcells y)) f
  | _ => False
def fldK (x : Value) (off : Nat) (f : Value → Prop) : Prop := match x with | .pointer (some ⟨b, k, none⟩) => f (.pointer (some ⟨b, k + off, none⟩)) | _ => False
def getK (x : Value) (off n : Nat) (agg : Bool) (f : Value → Prop) : Prop := match x with
  | .agg cs => oK (if agg then some (.agg ((cs.toList.drop off).take n).toArray) else cs.toList[off]?) f
  | _ => False
def idxSK (x i : Value) (n : Nat) (f : Value → Prop) : Prop := match x, i with
  | .slice (some ⟨b, k, none⟩) len _, .int _ j => (0 ≤ j ∧ j < (len : Int)) ∧ f (.pointer (some ⟨b, k + j.toNat * n, none⟩))
  | _, _ => False
def idxAK (x i : Value) (len n : Nat) (f : Value → Prop) : Prop := match x, i with
  | .pointer (some ⟨b, k, none⟩), .int _ j => (0 ≤ j ∧ j < (len : Int)) ∧ f (.pointer (some ⟨b, k + j.toNat * n, none⟩))
  | _, _ => False
def idxTK (x i : Value) (f : Value → Prop) : Prop := match x, i with
  | .string s, .int _ j => 0 ≤ j ∧ oK ((s.data.toList[j.toNat]?).map fun u => .int .u8 u.toNat) f
  | _, _ => False
def nilcK (x : Value) (f : Value → Prop) : Prop := match x with
  | .pointer (some a) => f (.pointer (some a))
  | .func (.func g) fi ca => f (.func (.func g) fi ca)
  | _ => False
def binK (op : BinOp) (x y : Value) (f : Value → Prop) (other : Prop) : Prop := match x, y with
  | .int k a, .int k' b => (k = k' ∨ shiftOp op = true) ∧ oK (intBin op k a b) f
  | .string a, .string b => oK (strBin op a b) f
  | _, _ => other
def beqK (neg : Bool) (x y : Value) (f : Value → Prop) : Prop := match x, y with | .bool a, .bool b => f (.bool (if neg = true then !(a == b) else a == b)) | _, _ => False
def ieqK (neg c : Bool) (x y : Value) (f : Value → Prop) : Prop := match x, y with
  | .nilIface, .nilIface => c = true ∧ f (.bool !neg)
  | .nilIface, .iface _ _ => f (.bool neg)
  | .iface _ _, .nilIface => f (.bool neg)
  | _, _ => False
def leqK (neg : Bool) (x y : Value) (f : Value → Prop) : Prop := match x, y with
  | .slice none _ _, .slice b _ _ => f (.bool (if neg = true then !b.isNone else b.isNone))
  | .slice (some _) _ _, .slice none _ _ => f (.bool neg)
  | _, _ => False
def notK (x : Value) (f : Value → Prop) : Prop := match x with | .bool b => f (.bool !b) | _ => False
def convK (k : IntKind) (x : Value) (f : Value → Prop) : Prop := match x with | .int _ n => f (.int k (k.wrap n)) | _ => False
def msliceK (e : TypeId) (z : List Value) (bytes : Nat) (l c : Value) (h : H) (f : Value → H → Prop) : Prop := match l, c with
  | .int _ a, .int _ b => (0 ≤ a ∧ a ≤ b ∧ b ≤ 9223372036854775807 ∧ bytes * b ≤ 281474976710656) ∧ newB h (blk (zrep z b.toNat) e) (slcC a.toNat b.toNat f)
  | _, _ => False
def loB : Value → Option Int | .int _ n => some n | _ => none
def slcK (x : Value) (n : Nat) (lo hi : Option (Option Int)) (f : Value → Prop) : Prop := match x with
  | .slice a len cap => (match lo.getD (some 0), hi.getD (some (len : Int)) with
    | some l, some u => (0 ≤ l ∧ l ≤ u ∧ u ≤ (cap : Int)) ∧ f (.slice (if cap = l.toNat then a else a.map (·.add (l.toNat * n))) (u.toNat - l.toNat) (cap - l.toNat))
    | _, _ => False)
  | _ => False
def slTK (x : Value) (lo hi : Option (Option Int)) (f : Value → Prop) : Prop := match x with
  | .string s => (match lo.getD (some 0), hi.getD (some (s.size : Int)) with
    | some l, some u => (0 ≤ l ∧ l ≤ u ∧ u ≤ (s.size : Int)) ∧ f (.string ⟨((s.data.toList.drop l.toNat).take (u.toNat - l.toNat)).toArray⟩)
    | _, _ => False)
  | _ => False
def lenTK (x : Value) (f : Value → Prop) : Prop := match x with | .string s => f (.int .i64 s.size) | _ => False
def lenSK (x : Value) (f : Value → Prop) : Prop := match x with | .slice _ n _ => f (.int .i64 n) | _ => False
def btosK (x : Value) (h : H) (f : Value → Prop) : Prop := match x with
  | .slice none _ _ => f (.string .empty)
  | .slice (some ⟨b, k, none⟩) len _ => oK (((hread h b k len).bind toBytes).map fun l => .string ⟨l.toArray⟩) f
  | _ => False
def extK (x : Value) (i : Nat) (f : Value → Prop) : Prop := match x with | .tuple vs => oK (vs.toList[i]?) f | _ => False
def asrtK (x : Value) (t : TypeId) (z : Value) (ok : Bool) (f : Value → Prop) : Prop := match x with
  | .iface t' v => if t' = t then f (if ok = true then .tuple #[v, .bool true] else v) else ok = true ∧ f (.tuple #[z, .bool false])
  | .nilIface => ok = true ∧ f (.tuple #[z, .bool false])
  | _ => False
def callvK (P : Program) (g : Value) (args : List Value) (h : H) (R : Ending → H → Prop) : Prop := match g with
  | .func (.func g) fi ca => callOk P g = true ∧ HCalls P g (fi.toList ++ args ++ ca.toList).toArray h R
  | _ => False
def invK (P : Program) (r : Value) (name : String) (args : List Value) (h : H) (R : Ending → H → Prop) : Prop := match r with
  | .iface t v => ∃ g r, evH P (method (P.types.size + Made.depth) t v name) h = some (g, r) ∧ callOk P g = true ∧ HCalls P g (#[r] ++ args.toArray) h R
  | _ => False
def appK (P : Program) (t1 t2 ty : TypeId) (x y : Value) (h : H) (K : Value → H → Prop) (X : List PanicEntry → H → Prop) : Prop := SH P (Builtin.append_ #[t1, t2] ty #[x, y]) (dP K) (pK X) h
def rawK (P : Program) (o : Op) (ty : TypeId) (ρ : Operand → Value) (h : H) (K : Value → H → Prop) (X : List PanicEntry → H → Prop) : Prop := SH P (execOp ρ (mkO o ty)) (nextK P K X) (pK X) h
theorem appK_congr (P : Program) (t1 t2 ty : TypeId) (x x' y y' : Value) (h h' : H) (K : Value → H → Prop) (X : List PanicEntry → H → Prop) (e1 : x = x') (e2 : y = y') (e3 : h = h') : appK P t1 t2 ty x y h K X = appK P t1 t2 ty x' y' h' K X := by rw [e1, e2, e3]
theorem rawK_congr (P : Program) (o : Op) (ty : TypeId) (ρ : Operand → Value) (h : H) (K : Value → H → Prop) (X : List PanicEntry → H → Prop) : rawK P o ty ρ h K X = rawK P o ty ρ h K X := rfl
theorem pickK_congr (c c' : Value) (a a' : Value) (b b' : Value) (f : Value → Prop) (e0 : c = c') (e1 : a = a') (e2 : b = b') : pickK c a b f = pickK c' a' b' f := by rw [e0, e1, e2]
theorem loadK_congr (x x' : Value) (n : Nat) (agg : Bool) (h h' : H) (f : Value → Prop) (e0 : x = x') (e1 : h = h') : loadK x n agg h f = loadK x' n agg h' f := by rw [e0, e1]
theorem storeK_congr (x x' : Value) (y y' : Value) (n : Nat) (h h' : H) (f : H → Prop) (e0 : x = x') (e1 : y = y') (e2 : h = h') : storeK x y n h f = storeK x' y' n h' f := by rw [e0, e1, e2]
theorem fldK_congr (x x' : Value) (off : Nat) (f : Value → Prop) (e0 : x = x') : fldK x off f = fldK x' off f := by rw [e0]
theorem getK_congr (x x' : Value) (off : Nat) (n : Nat) (agg : Bool) (f : Value → Prop) (e0 : x = x') : getK x off n agg f = getK x' off n agg f := by rw [e0]
theorem idxSK_congr (x x' : Value) (i i' : Value) (n : Nat) (f : Value → Prop) (e0 : x = x') (e1 : i = i') : idxSK x i n f = idxSK x' i' n f := by rw [e0, e1]
theorem idxAK_congr (x x' : Value) (i i' : Value) (len : Nat) (n : Nat) (f : Value → Prop) (e0 : x = x') (e1 : i = i') : idxAK x i len n f = idxAK x' i' len n f := by rw [e0, e1]
theorem idxTK_congr (x x' : Value) (i i' : Value) (f : Value → Prop) (e0 : x = x') (e1 : i = i') : idxTK x i f = idxTK x' i' f := by rw [e0, e1]
theorem nilcK_congr (x x' : Value) (f : Value → Prop) (e0 : x = x') : nilcK x f = nilcK x' f := by rw [e0]
theorem binK_congr (op : BinOp) (x x' : Value) (y y' : Value) (f : Value → Prop) (other : Prop) (e0 : x = x') (e1 : y = y') : binK op x y f other = binK op x' y' f other := by rw [e0, e1]
theorem beqK_congr (neg : Bool) (x x' : Value) (y y' : Value) (f : Value → Prop) (e0 : x = x') (e1 : y = y') : beqK neg x y f = beqK neg x' y' f := by rw [e0, e1]
theorem ieqK_congr (neg : Bool) (c : Bool) (x x' : Value) (y y' : Value) (f : Value → Prop) (e0 : x = x') (e1 : y = y') : ieqK neg c x y f = ieqK neg c x' y' f := by rw [e0, e1]
theorem leqK_congr (neg : Bool) (x x' : Value) (y y' : Value) (f : Value → Prop) (e0 : x = x') (e1 : y = y') : leqK neg x y f = leqK neg x' y' f := by rw [e0, e1]
theorem notK_congr (x x' : Value) (f : Value → Prop) (e0 : x = x') : notK x f = notK x' f := by rw [e0]
theorem convK_congr (k : IntKind) (x x' : Value) (f : Value → Prop) (e0 : x = x') : convK k x f = convK k x' f := by rw [e0]
theorem msliceK_congr (e : TypeId) (z : List Value) (bytes : Nat) (l l' : Value) (c c' : Value) (h h' : H) (f : Value → H → Prop) (e0 : l = l') (e1 : c = c') (e2 : h = h') : msliceK e z bytes l c h f = msliceK e z bytes l' c' h' f := by rw [e0, e1, e2]
theorem slcK_congr (x x' : Value) (n : Nat) (lo lo' : Option (Option Int)) (hi hi' : Option (Option Int)) (f : Value → Prop) (e0 : x = x') (e1 : lo = lo') (e2 : hi = hi') : slcK x n lo hi f = slcK x' n lo' hi' f := by rw [e0, e1, e2]
theorem slTK_congr (x x' : Value) (lo lo' : Option (Option Int)) (hi hi' : Option (Option Int)) (f : Value → Prop) (e0 : x = x') (e1 : lo = lo') (e2 : hi = hi') : slTK x lo hi f = slTK x' lo' hi' f := by rw [e0, e1, e2]
theorem lenTK_congr (x x' : Value) (f : Value → Prop) (e0 : x = x') : lenTK x f = lenTK x' f := by rw [e0]
theorem lenSK_congr (x x' : Value) (f : Value → Prop) (e0 : x = x') : lenSK x f = lenSK x' f := by rw [e0]
theorem btosK_congr (x x' : Value) (h h' : H) (f : Value → Prop) (e0 : x = x') (e1 : h = h') : btosK x h f = btosK x' h' f := by rw [e0, e1]
theorem extK_congr (x x' : Value) (i : Nat) (f : Value → Prop) (e0 : x = x') : extK x i f = extK x' i f := by rw [e0]
theorem asrtK_congr (x x' : Value) (t : TypeId) (z z' : Value) (ok : Bool) (f : Value → Prop) (e0 : x = x') (e1 : z = z') : asrtK x t z ok f = asrtK x' t z' ok f := by rw [e0, e1]
theorem callvK_congr (P : Program) (g g' : Value) (args args' : List Value) (h h' : H) (R : Ending → H → Prop) (e0 : g = g') (e1 : args = args') (e2 : h = h') : callvK P g args h R = callvK P g' args' h' R := by rw [e0, e1, e2]
theorem invK_congr (P : Program) (r r' : Value) (name : String) (args args' : List Value) (h h' : H) (R : Ending → H → Prop) (e0 : r = r') (e1 : args = args') (e2 : h = h') : invK P r name args h R = invK P r' name args' h' R := by rw [e0, e1, e2]
attribute [congr] pickK_congr loadK_congr storeK_congr fldK_congr getK_congr idxSK_congr idxAK_congr idxTK_congr nilcK_congr binK_congr beqK_congr ieqK_congr leqK_congr notK_congr convK_congr msliceK_congr slcK_congr slTK_congr lenTK_congr lenSK_congr btosK_congr extK_congr asrtK_congr callvK_congr invK_congr
attribute [congr] oK_congr hK_congr lK_congr newB_congr appK_congr rawK_congr

section
variable (P : Program) (ρ : Operand → Value) (h : H) (K : Value → H → Prop) (X : List PanicEntry → H → Prop)
theorem vop_mov (x : Operand) : vop P ρ h K X (.mov x) = K (ρ x) h := rfl
theorem vop_pick (c a b : Operand) : vop P ρ h K X (.pick c a b) = pickK (ρ c) (ρ a) (ρ b) (ap2 K h) := rfl
theorem vop_load (x : Operand) (n : Nat) (agg : Bool) : vop P ρ h K X (.load x n agg) = loadK (ρ x) n agg h (ap2 K h) := by
  unfold vop loadK oK; rfl
theorem vop_store (x y : Operand) (n : Nat) : vop P ρ h K X (.store x y n) = storeK (ρ x) (ρ y) n h (undC K) := by
  unfold vop storeK hK; rfl
theorem vop_alloc (e : TypeId) (z : List Value) : vop P ρ h K X (.alloc e z) = newB h (blk z e) (ptrC K) := rfl
theorem vop_box (e : TypeId) (x : Operand) : vop P ρ h K X (.box e x) = newB h (blk (vcells (ρ x)) e) (ptrC K) := rfl
theorem vop_fld (x : Operand) (off : Nat) : vop P ρ h K X (.fld x off) = fldK (ρ x) off (ap2 K h) := rfl
theorem vop_get (x : Operand) (off n : Nat) (agg : Bool) : vop P ρ h K X (.get x off n agg) = getK (ρ x) off n agg (ap2 K h) := by
  simp only [vop, getK]
  generalize ρ x = y
  cases y <;> simp only
  cases agg <;> simp only [Bool.false_eq_true, if_false, if_true] <;> rfl <;> rfl
theorem vop_idxS (x i : Operand) (n : Nat) : vop P ρ h K X (.idxS x i n) = idxSK (ρ x) (ρ i) n (ap2 K h) := rfl
theorem vop_idxA (x i : Operand) (len n : Nat) : vop P ρ h K X (.idxA x i len n) = idxAK (ρ x) (ρ i) len n (ap2 K h) := rfl
theorem vop_idxT (x i : Operand) : vop P ρ h K X (.idxT x i) = idxTK (ρ x) (ρ i) (ap2 K h) := by
  simp only [vop, idxTK]
  generalize ρ x = y
  generalize ρ i = z
  cases y <;> cases z <;> simp only
  rename_i s k j
  cases s.data.toList[j.toNat]? <;> rfl
theorem vop_nilc (x : Operand) : vop P ρ h K X (.nilc x) = nilcK (ρ x) (ap2 K h) := rfl
theorem vop_bin (op : BinOp) (t : TypeId) (x y : Operand) : vop P ρ h K X (.bin op t x y) = binK op (ρ x) (ρ y) (ap2 K h) (SH P (do eqGuard op t x y (ρ x) (ρ y); binOp op t (ρ x) (ρ y)) K (pK X) h) := by
  simp only [vop, binK]
  generalize ρ x = u
  generalize ρ y = z
  cases u <;> cases z <;> rfl
theorem vop_beq (neg : Bool) (x y : Operand) : vop P ρ h K X (.beq neg x y) = beqK neg (ρ x) (ρ y) (ap2 K h) := rfl
theorem vop_ieq (neg : Bool) (x y : Operand) : vop P ρ h K X (.ieq neg x y) = ieqK neg ((x matches .const _) || (y matches .const _)) (ρ x) (ρ y) (ap2 K h) := rfl
theorem vop_leq (neg : Bool) (x y : Operand) : vop P ρ h K X (.leq neg x y) = leqK neg (ρ x) (ρ y) (ap2 K h) := rfl
theorem vop_not (x : Operand) : vop P ρ h K X (.not x) = notK (ρ x) (ap2 K h) := rfl
theorem vop_conv (k : IntKind) (x : Operand) : vop P ρ h K X (.conv k x) = convK k (ρ x) (ap2 K h) := rfl
theorem vop_iface (t : TypeId) (x : Operand) : vop P ρ h K X (.iface t x) = K (.iface t (ρ x)) h := rfl
theorem vop_fn (f : Fn) (fi ca : List Operand) : vop P ρ h K X (.fn f fi ca) = K (.func f (fi.map ρ).toArray (ca.map ρ).toArray) h := rfl
theorem vop_build (z : List Value) (ps : List (Nat × Nat × Operand)) : vop P ρ h K X (.build z ps) = lK (fillL z (ps.map fun p => (p.1, p.2.1, vcells (ρ p.2.2)))) (aggC (ap2 K h)) := by
  unfold vop lK; rfl
theorem vop_bslice (e : TypeId) (z : List Value) (len : Nat) (ps : List (Nat × Nat × Operand)) : vop P ρ h K X (.bslice e z len ps) =
    lK (fillL (zrep z len) (ps.map fun p => (p.1, p.2.1, vcells (ρ p.2.2)))) (bslC e len h K) := by
  unfold vop lK; rfl
theorem vop_mslice (e : TypeId) (z : List Value) (bytes : Nat) (l c : Operand) : vop P ρ h K X (.mslice e z bytes l c) = msliceK e z bytes (ρ l) (ρ c) h K := by
  unfold vop msliceK newB; rfl
theorem lowB_eq (ρ : Operand → Value) (o : Option Operand) : lowB ρ o = (o.map fun x => loB (ρ x)).getD (some 0) := by cases o <;> rfl
theorem highB_eq (ρ : Operand → Value) (n : Nat) (o : Option Operand) : highB ρ n o = (o.map fun x => loB (ρ x)).getD (some (n : Int)) := by cases o <;> rfl
theorem vop_slc (x : Operand) (n : Nat) (lo hi : Option Operand) : vop P ρ h K X (.slc x n lo hi) = slcK (ρ x) n (lo.map fun x => loB (ρ x)) (hi.map fun x => loB (ρ x)) (ap2 K h) := by
  unfold vop slcK
  simp only [lowB_eq, highB_eq]
  rfl
theorem vop_slT (x : Operand) (lo hi : Option Operand) : vop P ρ h K X (.slT x lo hi) = slTK (ρ x) (lo.map fun x => loB (ρ x)) (hi.map fun x => loB (ρ x)) (ap2 K h) := by
  unfold vop slTK
  simp only [lowB_eq, highB_eq]
  rfl
theorem vop_lenT (x : Operand) : vop P ρ h K X (.lenT x) = lenTK (ρ x) (ap2 K h) := rfl
theorem vop_lenS (x : Operand) : vop P ρ h K X (.lenS x) = lenSK (ρ x) (ap2 K h) := rfl
theorem vop_btos (x : Operand) : vop P ρ h K X (.btos x) = btosK (ρ x) h (ap2 K h) := by
  simp only [vop, btosK]
  generalize ρ x = y
  cases y with
  | slice a n c =>
    cases a with
    | none => rfl
    | some a =>
      obtain ⟨b, k, s⟩ := a
      cases s with
      | none => simp only; cases (hread h b k n).bind toBytes <;> rfl
      | some s => rfl
  | _ => rfl
theorem vop_ext (x : Operand) (i : Nat) : vop P ρ h K X (.ext x i) = extK (ρ x) i (ap2 K h) := by
  unfold vop extK oK; rfl
theorem vop_asrt (x : Operand) (t : TypeId) (z : Value) (ok : Bool) : vop P ρ h K X (.asrt x t z ok) = asrtK (ρ x) t z ok (ap2 K h) := rfl
theorem vop_call (f : FuncId) (args : List Operand) : vop P ρ h K X (.call f args) = HCalls P f (args.map ρ).toArray h (retK K X) := rfl
theorem vop_callv (f : Operand) (args : List Operand) : vop P ρ h K X (.callv f args) = callvK P (ρ f) (args.map ρ) h (retK K X) := by
  simp only [vop, callvK]
  generalize ρ f = y
  cases y with
  | func fn fi ca =>
    cases fn with
    | func g =>
      simp only
      rw [show (fi ++ (args.map ρ).toArray ++ ca) = (fi.toList ++ args.map ρ ++ ca.toList).toArray from by apply Array.ext'; simp]
    | _ => rfl
  | _ => rfl
theorem vop_inv (r : Operand) (name : String) (args : List Operand) : vop P ρ h K X (.inv r name args) = invK P (ρ r) name (args.map ρ) h (retK K X) := rfl
theorem vop_app (t1 t2 ty : TypeId) (x y : Operand) : vop P ρ h K X (.app t1 t2 ty x y) = appK P t1 t2 ty (ρ x) (ρ y) h K X := rfl
theorem vop_raw (o : Op) (ty : TypeId) : vop P ρ h K X (.raw o ty) = rawK P o ty ρ h K X := rfl
end

section
variable (ρ : Operand → Value) (h : H) (K : Value → Prop)
theorem vfl_mov (x : Operand) : vfl ρ h K (.mov x) = K (ρ x) := rfl
theorem vfl_pick (c a b : Operand) : vfl ρ h K (.pick c a b) = pickK (ρ c) (ρ a) (ρ b) K := rfl
theorem vfl_load (x : Operand) (n : Nat) (agg : Bool) : vfl ρ h K (.load x n agg) = loadK (ρ x) n agg h K := by
  unfold vfl loadK oK; rfl
theorem vfl_fld (x : Operand) (off : Nat) : vfl ρ h K (.fld x off) = fldK (ρ x) off K := rfl
theorem vfl_get (x : Operand) (off n : Nat) (agg : Bool) : vfl ρ h K (.get x off n agg) = getK (ρ x) off n agg K := by
  simp only [vfl, getK]
  generalize ρ x = y
  cases y <;> simp only
  cases agg <;> simp only [Bool.false_eq_true, if_false, if_true] <;> rfl <;> rfl
theorem vfl_idxS (x i : Operand) (n : Nat) : vfl ρ h K (.idxS x i n) = idxSK (ρ x) (ρ i) n K := rfl
theorem vfl_idxA (x i : Operand) (len n : Nat) : vfl ρ h K (.idxA x i len n) = idxAK (ρ x) (ρ i) len n K := rfl
theorem vfl_idxT (x i : Operand) : vfl ρ h K (.idxT x i) = idxTK (ρ x) (ρ i) K := by
  simp only [vfl, idxTK]
  generalize ρ x = y
  generalize ρ i = z
  cases y <;> cases z <;> simp only
  rename_i s k j
  cases s.data.toList[j.toNat]? <;> rfl
theorem vfl_nilc (x : Operand) : vfl ρ h K (.nilc x) = nilcK (ρ x) K := rfl
theorem vfl_bin (op : BinOp) (t : TypeId) (x y : Operand) : vfl ρ h K (.bin op t x y) = binK op (ρ x) (ρ y) K False := by
  simp only [vfl, binK]
  generalize ρ x = u
  generalize ρ y = z
  cases u <;> cases z <;> rfl
theorem vfl_beq (neg : Bool) (x y : Operand) : vfl ρ h K (.beq neg x y) = beqK neg (ρ x) (ρ y) K := rfl
theorem vfl_ieq (neg : Bool) (x y : Operand) : vfl ρ h K (.ieq neg x y) = ieqK neg ((x matches .const _) || (y matches .const _)) (ρ x) (ρ y) K := rfl
theorem vfl_leq (neg : Bool) (x y : Operand) : vfl ρ h K (.leq neg x y) = leqK neg (ρ x) (ρ y) K := rfl
theorem vfl_not (x : Operand) : vfl ρ h K (.not x) = notK (ρ x) K := rfl
theorem vfl_conv (k : IntKind) (x : Operand) : vfl ρ h K (.conv k x) = convK k (ρ x) K := rfl
theorem vfl_iface (t : TypeId) (x : Operand) : vfl ρ h K (.iface t x) = K (.iface t (ρ x)) := rfl
theorem vfl_fn (f : Fn) (fi ca : List Operand) : vfl ρ h K (.fn f fi ca) = K (.func f (fi.map ρ).toArray (ca.map ρ).toArray) := rfl
theorem vfl_build (z : List Value) (ps : List (Nat × Nat × Operand)) : vfl ρ h K (.build z ps) = lK (fillL z (ps.map fun p => (p.1, p.2.1, vcells (ρ p.2.2)))) (aggC K) := by
  unfold vfl lK; rfl
theorem vfl_slc (x : Operand) (n : Nat) (lo hi : Option Operand) : vfl ρ h K (.slc x n lo hi) = slcK (ρ x) n (lo.map fun x => loB (ρ x)) (hi.map fun x => loB (ρ x)) K := by
  unfold vfl slcK
  simp only [lowB_eq, highB_eq]
  rfl
theorem vfl_slT (x : Operand) (lo hi : Option Operand) : vfl ρ h K (.slT x lo hi) = slTK (ρ x) (lo.map fun x => loB (ρ x)) (hi.map fun x => loB (ρ x)) K := by
  unfold vfl slTK
  simp only [lowB_eq, highB_eq]
  rfl
theorem vfl_lenT (x : Operand) : vfl ρ h K (.lenT x) = lenTK (ρ x) K := rfl
theorem vfl_lenS (x : Operand) : vfl ρ h K (.lenS x) = lenSK (ρ x) K := rfl
theorem vfl_btos (x : Operand) : vfl ρ h K (.btos x) = btosK (ρ x) h K := by
  simp only [vfl, btosK]
  generalize ρ x = y
  cases y with
  | slice a n c =>
    cases a with
    | none => rfl
    | some a =>
      obtain ⟨b, k, s⟩ := a
      cases s with
      | none => simp only; cases (hread h b k n).bind toBytes <;> rfl
      | some s => rfl
  | _ => rfl
theorem vfl_ext (x : Operand) (i : Nat) : vfl ρ h K (.ext x i) = extK (ρ x) i K := by
  unfold vfl extK oK; rfl
theorem vfl_asrt (x : Operand) (t : TypeId) (z : Value) (ok : Bool) : vfl ρ h K (.asrt x t z ok) = asrtK (ρ x) t z ok K := rfl
end

section
variable (f : Value → Prop)
theorem pickK_eq (t : Bool) (a b : Value) : pickK (.bool t) a b f = f (if t = true then a else b) := rfl
theorem loadK_eq (b k n : Nat) (agg : Bool) (h : H) : loadK (.pointer (some ⟨b, k, none⟩)) n agg h f = oK (hval h b k n agg) f := rfl
theorem storeK_eq (b k n : Nat) (y : Value) (h : H) (f : H → Prop) : storeK (.pointer (some ⟨b, k, none⟩)) y n h f = ((vcells y).length = n ∧ (vcells y).all vone = true ∧ hK (hwrite h b k (vcells y)) f) := rfl
theorem fldK_eq (b k off : Nat) : fldK (.pointer (some ⟨b, k, none⟩)) off f = f (.pointer (some ⟨b, k + off, none⟩)) := rfl
theorem getK_eq (cs : List Value) (off n : Nat) (agg : Bool) : getK (.agg cs.toArray) off n agg f = oK (if agg = true then some (.agg ((cs.drop off).take n).toArray) else cs[off]?) f := rfl
theorem idxSK_eq (b k len cap n : Nat) (kd : IntKind) (j : Int) : idxSK (.slice (some ⟨b, k, none⟩) len cap) (.int kd j) n f = ((0 ≤ j ∧ j < (len : Int)) ∧ f (.pointer (some ⟨b, k + j.toNat * n, none⟩))) := rfl
theorem idxAK_eq (b k len n : Nat) (kd : IntKind) (j : Int) : idxAK (.pointer (some ⟨b, k, none⟩)) (.int kd j) len n f = ((0 ≤ j ∧ j < (len : Int)) ∧ f (.pointer (some ⟨b, k + j.toNat * n, none⟩))) := rfl
theorem idxTK_eq (s : List UInt8) (kd : IntKind) (j : Int) : idxTK (.string ⟨s.toArray⟩) (.int kd j) f = (0 ≤ j ∧ oK ((s[j.toNat]?).map fun u => .int .u8 u.toNat) f) := rfl
theorem nilcK_eq (a : Addr) : nilcK (.pointer (some a)) f = f (.pointer (some a)) := rfl
theorem nilcK_fn (g : FuncId) (fi ca : Array Value) : nilcK (.func (.func g) fi ca) f = f (.func (.func g) fi ca) := rfl
theorem binK_int (op : BinOp) (k : IntKind) (a b : Int) (o : Prop) : binK op (.int k a) (.int k b) f o = oK (intBin op k a b) f := by simp [binK]
theorem binK_shl (k k' : IntKind) (a b : Int) (o : Prop) : binK .shl (.int k a) (.int k' b) f o = oK (intBin .shl k a b) f := by simp [binK, shiftOp]
theorem binK_shr (k k' : IntKind) (a b : Int) (o : Prop) : binK .shr (.int k a) (.int k' b) f o = oK (intBin .shr k a b) f := by simp [binK, shiftOp]
theorem binK_str (op : BinOp) (a b : ByteArray) (o : Prop) : binK op (.string a) (.string b) f o = oK (strBin op a b) f := rfl
theorem beqK_eq (neg a b : Bool) : beqK neg (.bool a) (.bool b) f = f (.bool (if neg = true then !(a == b) else a == b)) := rfl
theorem ieqK_1 (neg c : Bool) : ieqK neg c .nilIface .nilIface f = (c = true ∧ f (.bool !neg)) := rfl
theorem ieqK_2 (neg c : Bool) (t : TypeId) (v : Value) : ieqK neg c .nilIface (.iface t v) f = f (.bool neg) := rfl
theorem ieqK_3 (neg c : Bool) (t : TypeId) (v : Value) : ieqK neg c (.iface t v) .nilIface f = f (.bool neg) := rfl
theorem leqK_1 (neg : Bool) (n1 n2 n3 n4 : Nat) (b : Option Addr) : leqK neg (.slice none n1 n2) (.slice b n3 n4) f = f (.bool (if neg = true then !b.isNone else b.isNone)) := rfl
theorem leqK_2 (neg : Bool) (a : Addr) (n1 n2 n3 n4 : Nat) : leqK neg (.slice (some a) n1 n2) (.slice none n3 n4) f = f (.bool neg) := rfl
theorem notK_eq (b : Bool) : notK (.bool b) f = f (.bool !b) := rfl
theorem convK_eq (k k' : IntKind) (n : Int) : convK k (.int k' n) f = f (.int k (k.wrap n)) := rfl
theorem msliceK_eq (e : TypeId) (z : List Value) (bytes : Nat) (k k' : IntKind) (a b : Int) (h : H) (f : Value → H → Prop) : msliceK e z bytes (.int k a) (.int k' b) h f =
  ((0 ≤ a ∧ a ≤ b ∧ b ≤ 9223372036854775807 ∧ bytes * b ≤ 281474976710656) ∧ newB h (blk (zrep z b.toNat) e) (slcC a.toNat b.toNat f)) := rfl
theorem loB_eq (k : IntKind) (n : Int) : loB (.int k n) = some n := rfl
theorem slcK_00 (a : Option Addr) (len cap n : Nat) : slcK (.slice a len cap) n none none f = ((0 ≤ (0 : Int) ∧ 0 ≤ (len : Int) ∧ (len : Int) ≤ cap) ∧ f (.slice (if cap = 0 then a else a.map (·.add 0)) len cap)) := by simp [slcK]
theorem slcK_10 (a : Option Addr) (len cap n : Nat) (l : Int) : slcK (.slice a len cap) n (some (some l)) none f = ((0 ≤ l ∧ l ≤ (len : Int) ∧ (len : Int) ≤ cap) ∧ f (.slice (if cap = l.toNat then a else a.map (·.add (l.toNat * n))) (len - l.toNat) (cap - l.toNat))) := by simp [slcK]
theorem slcK_01 (a : Option Addr) (len cap n : Nat) (u : Int) : slcK (.slice a len cap) n none (some (some u)) f = ((0 ≤ (0 : Int) ∧ 0 ≤ u ∧ u ≤ (cap : Int)) ∧ f (.slice (if cap = 0 then a else a.map (·.add 0)) u.toNat cap)) := by simp [slcK]
theorem slcK_11 (a : Option Addr) (len cap n : Nat) (l u : Int) : slcK (.slice a len cap) n (some (some l)) (some (some u)) f = ((0 ≤ l ∧ l ≤ u ∧ u ≤ (cap : Int)) ∧ f (.slice (if cap = l.toNat then a else a.map (·.add (l.toNat * n))) (u.toNat - l.toNat) (cap - l.toNat))) := rfl
theorem slTK_10 (s : List UInt8) (l : Int) : slTK (.string ⟨s.toArray⟩) (some (some l)) none f = ((0 ≤ l ∧ l ≤ (s.length : Int)) ∧ f (.string ⟨(s.drop l.toNat).toArray⟩)) := by
  have e : (⟨s.toArray⟩ : ByteArray).size = s.length := by simp [ByteArray.size]
  have e2 : List.take (s.length - l.toNat) (s.drop l.toNat) = s.drop l.toNat := List.take_of_length_le (by simp)
  simp [slTK, e, e2]
theorem slTK_01 (s : List UInt8) (u : Int) : slTK (.string ⟨s.toArray⟩) none (some (some u)) f = ((0 ≤ u ∧ u ≤ (s.length : Int)) ∧ f (.string ⟨(s.take u.toNat).toArray⟩)) := by
  have e : (⟨s.toArray⟩ : ByteArray).size = s.length := by simp [ByteArray.size]
  simp [slTK, e]
theorem slTK_11 (s : List UInt8) (l u : Int) : slTK (.string ⟨s.toArray⟩) (some (some l)) (some (some u)) f = ((0 ≤ l ∧ l ≤ u ∧ u ≤ (s.length : Int)) ∧ f (.string ⟨((s.drop l.toNat).take (u.toNat - l.toNat)).toArray⟩)) := by
  have e : (⟨s.toArray⟩ : ByteArray).size = s.length := by simp [ByteArray.size]
  simp [slTK, e]
theorem lenTK_eq (s : List UInt8) : lenTK (.string ⟨s.toArray⟩) f = f (.int .i64 s.length) := by simp [lenTK, ByteArray.size]
theorem lenSK_eq (a : Option Addr) (n c : Nat) : lenSK (.slice a n c) f = f (.int .i64 n) := rfl
theorem btosK_nil (n c : Nat) (h : H) : btosK (.slice none n c) h f = f (.string ⟨[].toArray⟩) := rfl
theorem btosK_eq (b k len cap : Nat) (h : H) : btosK (.slice (some ⟨b, k, none⟩) len cap) h f = oK (((hread h b k len).bind toBytes).map fun l => .string ⟨l.toArray⟩) f := rfl
theorem extK_eq (vs : List Value) (i : Nat) : extK (.tuple vs.toArray) i f = oK (vs[i]?) f := rfl
theorem asrtK_eq (t t' : TypeId) (v z : Value) (ok : Bool) : asrtK (.iface t' v) t z ok f = if t' = t then f (if ok = true then .tuple #[v, .bool true] else v) else (ok = true ∧ f (.tuple #[z, .bool false])) := rfl
theorem asrtK_nil (t : TypeId) (z : Value) (ok : Bool) : asrtK .nilIface t z ok f = (ok = true ∧ f (.tuple #[z, .bool false])) := rfl
theorem callvK_eq (P : Program) (g : FuncId) (fi ca : List Value) (args : List Value) (h : H) (R : Ending → H → Prop) : callvK P (.func (.func g) fi.toArray ca.toArray) args h R = (callOk P g = true ∧ HCalls P g (fi ++ args ++ ca).toArray h R) := rfl
theorem hval_t (h : H) (b k n : Nat) : hval h b k n true = (hread h b k n).map fun l => .agg l.toArray := rfl
theorem hval_f (h : H) (b k n : Nat) : hval h b k n false = hcel h b k := rfl
end

section
variable (h : H) (j k n : Nat) (e : TypeId) (l vs : List Value) (o : Obj)
theorem hget_same : hget ((j, o) :: h) j = some o := by simp [hget]
theorem hread_same : hread ((j, blk l e) :: h) j k n = if k + n ≤ l.length then some ((l.drop k).take n) else none := by simp [hread, hget_same, rdObj_blk]
theorem hcel_same : hcel ((j, blk l e) :: h) j k = l[k]? := by simp [hcel, hget_same, blk]
theorem hwrite_same : hwrite ((j, blk l e) :: h) j k vs = if k + vs.length ≤ l.length then some ((j, blk (splice l k vs) e) :: h) else none := by
  simp only [hwrite, hget_same, Option.bind_some, wrObj_blk]
  split <;> simp [hupd]
variable {i : Nat} (hne : i ≠ j)
include hne
theorem hget_next : hget ((j, o) :: h) i = hget h i := by rw [hget_cons, if_neg hne]
theorem hread_next : hread ((j, o) :: h) i k n = hread h i k n := by simp only [hread, hget_next h j o hne]
theorem hcel_next : hcel ((j, o) :: h) i k = hcel h i k := by simp only [hcel, hget_next h j o hne]
theorem hwrite_next : hwrite ((j, o) :: h) i k vs = (hwrite h i k vs).map ((j, o) :: ·) := by
  simp only [hwrite, hget_next h j o hne]
  cases hget h i with
  | none => rfl
  | some x =>
    simp only [Option.bind_some]
    cases wrObj x k vs with
    | none => rfl
    | some y => simp [hupd, hne]
end

theorem fresh {i : Nat} {o : Obj} {h : H} {j : Nat} (e : hget ((i, o) :: h) j = none) : i ≠ j ∧ j ≠ i ∧ hget h j = none := by
  rw [hget_cons] at e
  by_cases x : j = i
  · simp [x] at e
  · rw [if_neg x] at e; exact ⟨Ne.symm x, x, e⟩

theorem fill_nil (l : List Value) : fillL l [] = some l := rfl
theorem fill_cons (l : List Value) (off n : Nat) (v : List Value) (r : List (Nat × Nat × List Value)) : fillL l ((off, n, v) :: r) = if v.length = n ∧ off + n ≤ l.length then fillL (splice l off v) r else none := rfl
theorem vcells_int (k : IntKind) (n : Int) : vcells (.int k n) = [.int k n] := rfl
theorem vcells_bool (b : Bool) : vcells (.bool b) = [.bool b] := rfl
theorem vcells_string (s : ByteArray) : vcells (.string s) = [.string s] := rfl
theorem vcells_slice (a : Option Addr) (n c : Nat) : vcells (.slice a n c) = [.slice a n c] := rfl
theorem vcells_pointer (a : Option Addr) : vcells (.pointer a) = [.pointer a] := rfl
theorem vcells_iface (t : TypeId) (v : Value) : vcells (.iface t v) = [.iface t v] := rfl
theorem vcells_nilIface : vcells .nilIface = [.nilIface] := rfl
theorem vcells_func (f : Fn) (a b : Array Value) : vcells (.func f a b) = [.func f a b] := rfl
theorem vcells_map (a : Option Nat) : vcells (.map a) = [.map a] := rfl
theorem vcells_agg (l : List Value) : vcells (.agg l.toArray) = l := rfl
theorem ite_bool (c : Prop) [Decidable c] (x y : Bool) : (if c then Value.bool x else Value.bool y) = Value.bool (if c then x else y) := by split <;> rfl
theorem str_append (a b : List UInt8) : (⟨a.toArray⟩ : ByteArray) ++ ⟨b.toArray⟩ = ⟨(a ++ b).toArray⟩ := by
  apply ByteArray.ext
  simp
theorem str_size (a : List UInt8) : (⟨a.toArray⟩ : ByteArray).size = a.length := by simp [ByteArray.size]
theorem str_inj (a b : List UInt8) : ((⟨a.toArray⟩ : ByteArray) = ⟨b.toArray⟩) = (a = b) := by simp [ByteArray.mk.injEq]
theorem str_list (s : ByteArray) : ∃ l : List UInt8, s = ⟨l.toArray⟩ := ⟨s.data.toList, by cases s; simp⟩
end Go.Tk
