/- Parts of the proof. -/
import Derived.Test.YtjioiemhgbkbfaaGreatDoorProg
import Derived.Laws.Append
import Derived.LaidEql
import Derived.Below
import Derived.Laws.StructEq
import Derived.Test.YtjioiemhgbkbfaaGreatDoorK154
set_option maxHeartbeats 4000000
set_option maxRecDepth 100000
set_option linter.unusedVariables false
set_option linter.unusedSimpArgs false
set_option linter.defProp false
section
namespace Go.Tk
open Go
theorem acts :
  (∀ (P : Program) (ρ : Operand -> Value) (h : H) (K : Value -> H -> Prop) (X : List PanicEntry -> H -> Prop) (x : Operand), vop P ρ h K X (.mov x) = K (ρ x) h) /\
  (∀ (P : Program) (ρ : Operand -> Value) (h : H) (K : Value -> H -> Prop) (X : List PanicEntry -> H -> Prop) (c a b : Operand), vop P ρ h K X (.pick c a b) = qGL (ρ c) (ρ a) (ρ b) (ap2 K h)) /\
  (∀ (P : Program) (ρ : Operand -> Value) (h : H) (K : Value -> H -> Prop) (X : List PanicEntry -> H -> Prop) (x : Operand) (n : Nat) (agg : Bool), vop P ρ h K X (.load x n agg) = qCM (ρ x) n agg h (ap2 K h)) /\
  (∀ (P : Program) (ρ : Operand -> Value) (h : H) (K : Value -> H -> Prop) (X : List PanicEntry -> H -> Prop) (x y : Operand) (n : Nat), vop P ρ h K X (.store x y n) = qCR (ρ x) (ρ y) n h (undC K)) /\
  (∀ (P : Program) (ρ : Operand -> Value) (h : H) (K : Value -> H -> Prop) (X : List PanicEntry -> H -> Prop) (e : TypeId) (z : List Value), vop P ρ h K X (.alloc e z) = newB h (blk z e) (ptrC K)) /\
  (∀ (P : Program) (ρ : Operand -> Value) (h : H) (K : Value -> H -> Prop) (X : List PanicEntry -> H -> Prop) (e : TypeId) (x : Operand), vop P ρ h K X (.box e x) = newB h (blk (zF (ρ x)) e) (ptrC K)) /\
  (∀ (P : Program) (ρ : Operand -> Value) (h : H) (K : Value -> H -> Prop) (X : List PanicEntry -> H -> Prop) (x : Operand) (off : Nat), vop P ρ h K X (.fld x off) = fldK (ρ x) off (ap2 K h)) /\
  (∀ (P : Program) (ρ : Operand -> Value) (h : H) (K : Value -> H -> Prop) (X : List PanicEntry -> H -> Prop) (x : Operand) (off n : Nat) (agg : Bool), vop P ρ h K X (.get x off n agg) = getK (ρ x) off n agg (ap2 K h)) /\
  (∀ (P : Program) (ρ : Operand -> Value) (h : H) (K : Value -> H -> Prop) (X : List PanicEntry -> H -> Prop) (x i : Operand) (n : Nat), vop P ρ h K X (.idxS x i n) = vI (ρ x) (ρ i) n (ap2 K h)) /\
  (∀ (P : Program) (ρ : Operand -> Value) (h : H) (K : Value -> H -> Prop) (X : List PanicEntry -> H -> Prop) (x i : Operand) (len n : Nat), vop P ρ h K X (.idxA x i len n) = qGQ (ρ x) (ρ i) len n (ap2 K h)) /\
  (∀ (P : Program) (ρ : Operand -> Value) (h : H) (K : Value -> H -> Prop) (X : List PanicEntry -> H -> Prop) (x i : Operand), vop P ρ h K X (.idxT x i) = qCO (ρ x) (ρ i) (ap2 K h)) /\
  (∀ (P : Program) (ρ : Operand -> Value) (h : H) (K : Value -> H -> Prop) (X : List PanicEntry -> H -> Prop) (x : Operand), vop P ρ h K X (.nilc x) = qCL (ρ x) (ap2 K h)) /\
  (∀ (P : Program) (ρ : Operand -> Value) (h : H) (K : Value -> H -> Prop) (X : List PanicEntry -> H -> Prop) (op : BinOp) (t : TypeId) (x y : Operand), vop P ρ h K X (.bin op t x y) = binK op (ρ x) (ρ y) (ap2 K h) (SH P (do eqGuard op t x y (ρ x) (ρ y); binOp op t (ρ x) (ρ y)) K (pK X) h)) /\
  (∀ (P : Program) (ρ : Operand -> Value) (h : H) (K : Value -> H -> Prop) (X : List PanicEntry -> H -> Prop) (neg : Bool) (x y : Operand), vop P ρ h K X (.beq neg x y) = beqK neg (ρ x) (ρ y) (ap2 K h)) /\
  (∀ (P : Program) (ρ : Operand -> Value) (h : H) (K : Value -> H -> Prop) (X : List PanicEntry -> H -> Prop) (neg : Bool) (x y : Operand), vop P ρ h K X (.ieq neg x y) = ieqK neg ((x matches .const _) || (y matches .const _)) (ρ x) (ρ y) (ap2 K h)) /\
  (∀ (P : Program) (ρ : Operand -> Value) (h : H) (K : Value -> H -> Prop) (X : List PanicEntry -> H -> Prop) (neg : Bool) (x y : Operand), vop P ρ h K X (.leq neg x y) = leqK neg (ρ x) (ρ y) (ap2 K h)) /\
  (∀ (P : Program) (ρ : Operand -> Value) (h : H) (K : Value -> H -> Prop) (X : List PanicEntry -> H -> Prop) (x : Operand), vop P ρ h K X (.not x) = notK (ρ x) (ap2 K h)) /\
  (∀ (P : Program) (ρ : Operand -> Value) (h : H) (K : Value -> H -> Prop) (X : List PanicEntry -> H -> Prop) (k : IntKind) (x : Operand), vop P ρ h K X (.conv k x) = qGT k (ρ x) (ap2 K h)) /\
  (∀ (P : Program) (ρ : Operand -> Value) (h : H) (K : Value -> H -> Prop) (X : List PanicEntry -> H -> Prop) (t : TypeId) (x : Operand), vop P ρ h K X (.iface t x) = K (.iface t (ρ x)) h) /\
  (∀ (P : Program) (ρ : Operand -> Value) (h : H) (K : Value -> H -> Prop) (X : List PanicEntry -> H -> Prop) (f : Fn) (fi ca : List Operand), vop P ρ h K X (.fn f fi ca) = K (.func f (fi.map ρ).toArray (ca.map ρ).toArray) h) /\
  (∀ (P : Program) (ρ : Operand -> Value) (h : H) (K : Value -> H -> Prop) (X : List PanicEntry -> H -> Prop) (z : List Value) (ps : List (Nat × Nat × Operand)), vop P ρ h K X (.build z ps) = lK (wX z (ps.map fun p => (p.1, p.2.1, zF (ρ p.2.2)))) (aggC (ap2 K h))) /\
  (∀ (P : Program) (ρ : Operand -> Value) (h : H) (K : Value -> H -> Prop) (X : List PanicEntry -> H -> Prop) (e : TypeId) (z : List Value) (len : Nat) (ps : List (Nat × Nat × Operand)), vop P ρ h K X (.bslice e z len ps) = lK (wX (zrep z len) (ps.map fun p => (p.1, p.2.1, zF (ρ p.2.2)))) (bslC e len h K)) /\
  (∀ (P : Program) (ρ : Operand -> Value) (h : H) (K : Value -> H -> Prop) (X : List PanicEntry -> H -> Prop) (e : TypeId) (z : List Value) (bytes : Nat) (l c : Operand), vop P ρ h K X (.mslice e z bytes l c) = qAJ e z bytes (ρ l) (ρ c) h K) /\
  (∀ (P : Program) (ρ : Operand -> Value) (h : H) (K : Value -> H -> Prop) (X : List PanicEntry -> H -> Prop) (x : Operand) (n : Nat) (lo hi : Option Operand), vop P ρ h K X (.slc x n lo hi) = slcK (ρ x) n (lo.map fun x => loB (ρ x)) (hi.map fun x => loB (ρ x)) (ap2 K h)) /\
  (∀ (P : Program) (ρ : Operand -> Value) (h : H) (K : Value -> H -> Prop) (X : List PanicEntry -> H -> Prop) (x : Operand) (lo hi : Option Operand), vop P ρ h K X (.slT x lo hi) = slTK (ρ x) (lo.map fun x => loB (ρ x)) (hi.map fun x => loB (ρ x)) (ap2 K h)) /\
  (∀ (P : Program) (ρ : Operand -> Value) (h : H) (K : Value -> H -> Prop) (X : List PanicEntry -> H -> Prop) (x : Operand), vop P ρ h K X (.lenT x) = qEF (ρ x) (ap2 K h)) /\
  (∀ (P : Program) (ρ : Operand -> Value) (h : H) (K : Value -> H -> Prop) (X : List PanicEntry -> H -> Prop) (x : Operand), vop P ρ h K X (.lenS x) = jQ (ρ x) (ap2 K h)) /\
  (∀ (P : Program) (ρ : Operand -> Value) (h : H) (K : Value -> H -> Prop) (X : List PanicEntry -> H -> Prop) (x : Operand), vop P ρ h K X (.btos x) = kV (ρ x) h (ap2 K h)) /\
  (∀ (P : Program) (ρ : Operand -> Value) (h : H) (K : Value -> H -> Prop) (X : List PanicEntry -> H -> Prop) (x : Operand) (i : Nat), vop P ρ h K X (.ext x i) = extK (ρ x) i (ap2 K h)) /\
  (∀ (P : Program) (ρ : Operand -> Value) (h : H) (K : Value -> H -> Prop) (X : List PanicEntry -> H -> Prop) (x : Operand) (t : TypeId) (z : Value) (ok : Bool), vop P ρ h K X (.asrt x t z ok) = qCQ (ρ x) t z ok (ap2 K h)) /\
  (∀ (P : Program) (ρ : Operand -> Value) (h : H) (K : Value -> H -> Prop) (X : List PanicEntry -> H -> Prop) (f : FuncId) (args : List Operand), vop P ρ h K X (.call f args) = HCalls P f (args.map ρ).toArray h (retK K X)) /\
  (∀ (P : Program) (ρ : Operand -> Value) (h : H) (K : Value -> H -> Prop) (X : List PanicEntry -> H -> Prop) (f : Operand) (args : List Operand), vop P ρ h K X (.callv f args) = qDF P (ρ f) (args.map ρ) h (retK K X)) /\
  (∀ (P : Program) (ρ : Operand -> Value) (h : H) (K : Value -> H -> Prop) (X : List PanicEntry -> H -> Prop) (r : Operand) (name : String) (args : List Operand), vop P ρ h K X (.inv r name args) = invK P (ρ r) name (args.map ρ) h (retK K X)) /\
  (∀ (P : Program) (ρ : Operand -> Value) (h : H) (K : Value -> H -> Prop) (X : List PanicEntry -> H -> Prop) (t1 t2 ty : TypeId) (x y : Operand), vop P ρ h K X (.app t1 t2 ty x y) = appK P t1 t2 ty (ρ x) (ρ y) h K X) /\
  (∀ (P : Program) (ρ : Operand -> Value) (h : H) (K : Value -> H -> Prop) (X : List PanicEntry -> H -> Prop) (o : Op) (ty : TypeId), vop P ρ h K X (.raw o ty) = rawK P o ty ρ h K X) /\
  (∀ (ρ : Operand -> Value) (h : H) (K : Value -> Prop) (x : Operand), vfl ρ h K (.mov x) = K (ρ x)) /\
  (∀ (ρ : Operand -> Value) (h : H) (K : Value -> Prop) (c a b : Operand), vfl ρ h K (.pick c a b) = qGL (ρ c) (ρ a) (ρ b) K) /\
  (∀ (ρ : Operand -> Value) (h : H) (K : Value -> Prop) (x : Operand) (n : Nat) (agg : Bool), vfl ρ h K (.load x n agg) = qCM (ρ x) n agg h K) /\
  (∀ (ρ : Operand -> Value) (h : H) (K : Value -> Prop) (x : Operand) (off : Nat), vfl ρ h K (.fld x off) = fldK (ρ x) off K) /\
  (∀ (ρ : Operand -> Value) (h : H) (K : Value -> Prop) (x : Operand) (off n : Nat) (agg : Bool), vfl ρ h K (.get x off n agg) = getK (ρ x) off n agg K) /\
  (∀ (ρ : Operand -> Value) (h : H) (K : Value -> Prop) (x i : Operand) (n : Nat), vfl ρ h K (.idxS x i n) = vI (ρ x) (ρ i) n K) /\
  (∀ (ρ : Operand -> Value) (h : H) (K : Value -> Prop) (x i : Operand) (len n : Nat), vfl ρ h K (.idxA x i len n) = qGQ (ρ x) (ρ i) len n K) /\
  (∀ (ρ : Operand -> Value) (h : H) (K : Value -> Prop) (x i : Operand), vfl ρ h K (.idxT x i) = qCO (ρ x) (ρ i) K) /\
  (∀ (ρ : Operand -> Value) (h : H) (K : Value -> Prop) (x : Operand), vfl ρ h K (.nilc x) = qCL (ρ x) K) /\
  (∀ (ρ : Operand -> Value) (h : H) (K : Value -> Prop) (op : BinOp) (t : TypeId) (x y : Operand), vfl ρ h K (.bin op t x y) = binK op (ρ x) (ρ y) K False) /\
  (∀ (ρ : Operand -> Value) (h : H) (K : Value -> Prop) (neg : Bool) (x y : Operand), vfl ρ h K (.beq neg x y) = beqK neg (ρ x) (ρ y) K) /\
  (∀ (ρ : Operand -> Value) (h : H) (K : Value -> Prop) (neg : Bool) (x y : Operand), vfl ρ h K (.ieq neg x y) = ieqK neg ((x matches .const _) || (y matches .const _)) (ρ x) (ρ y) K) /\
  (∀ (ρ : Operand -> Value) (h : H) (K : Value -> Prop) (neg : Bool) (x y : Operand), vfl ρ h K (.leq neg x y) = leqK neg (ρ x) (ρ y) K) /\
  (∀ (ρ : Operand -> Value) (h : H) (K : Value -> Prop) (x : Operand), vfl ρ h K (.not x) = notK (ρ x) K) /\
  (∀ (ρ : Operand -> Value) (h : H) (K : Value -> Prop) (k : IntKind) (x : Operand), vfl ρ h K (.conv k x) = qGT k (ρ x) K) /\
  (∀ (ρ : Operand -> Value) (h : H) (K : Value -> Prop) (t : TypeId) (x : Operand), vfl ρ h K (.iface t x) = K (.iface t (ρ x))) /\
  (∀ (ρ : Operand -> Value) (h : H) (K : Value -> Prop) (f : Fn) (fi ca : List Operand), vfl ρ h K (.fn f fi ca) = K (.func f (fi.map ρ).toArray (ca.map ρ).toArray)) /\
  (∀ (ρ : Operand -> Value) (h : H) (K : Value -> Prop) (z : List Value) (ps : List (Nat × Nat × Operand)), vfl ρ h K (.build z ps) = lK (wX z (ps.map fun p => (p.1, p.2.1, zF (ρ p.2.2)))) (aggC K)) /\
  (∀ (ρ : Operand -> Value) (h : H) (K : Value -> Prop) (x : Operand) (n : Nat) (lo hi : Option Operand), vfl ρ h K (.slc x n lo hi) = slcK (ρ x) n (lo.map fun x => loB (ρ x)) (hi.map fun x => loB (ρ x)) K) /\
  (∀ (ρ : Operand -> Value) (h : H) (K : Value -> Prop) (x : Operand) (lo hi : Option Operand), vfl ρ h K (.slT x lo hi) = slTK (ρ x) (lo.map fun x => loB (ρ x)) (hi.map fun x => loB (ρ x)) K) /\
  (∀ (ρ : Operand -> Value) (h : H) (K : Value -> Prop) (x : Operand), vfl ρ h K (.lenT x) = qEF (ρ x) K) /\
  (∀ (ρ : Operand -> Value) (h : H) (K : Value -> Prop) (x : Operand), vfl ρ h K (.lenS x) = jQ (ρ x) K) /\
  (∀ (ρ : Operand -> Value) (h : H) (K : Value -> Prop) (x : Operand), vfl ρ h K (.btos x) = kV (ρ x) h K) /\
  (∀ (ρ : Operand -> Value) (h : H) (K : Value -> Prop) (x : Operand) (i : Nat), vfl ρ h K (.ext x i) = extK (ρ x) i K) /\
  (∀ (ρ : Operand -> Value) (h : H) (K : Value -> Prop) (x : Operand) (t : TypeId) (z : Value) (ok : Bool), vfl ρ h K (.asrt x t z ok) = qCQ (ρ x) t z ok K) /\
  (∀ (v : Value) (f : Value -> Prop), oK (some v) f = f v) /\
  (∀ (h : H) (f : H -> Prop), hK (some h) f = f h) /\
  (∀ (v : List Value) (f : List Value -> Prop), lK (some v) f = f v) /\
  (∀ (K : Value -> H -> Prop) (h : H) (v : Value), ap2 K h v = K v h) /\
  (∀ (K : Value -> H -> Prop) (h : H), undC K h = K undef h) /\
  (∀ (K : Value -> H -> Prop) (h : H) (j : Nat), ptrC K j h = K (.pointer (some ⟨j, 0, none⟩)) h) /\
  (∀ (n c : Nat) (K : Value -> H -> Prop) (h : H) (j : Nat), slcC n c K j h = K (.slice (some ⟨j, 0, none⟩) n c) h) /\
  (∀ (f : Value -> Prop) (l : List Value), aggC f l = f (.agg l.toArray)) /\
  (∀ (e : TypeId) (n : Nat) (h : H) (K : Value -> H -> Prop) (l : List Value), bslC e n h K l = newB h (blk l e) (slcC n n K)) /\
  (∀ (f : Value -> Prop) (t : Bool) (a b : Value), qGL (.bool t) a b f = f (if t = true then a else b)) /\
  (∀ (f : Value -> Prop) (b k n : Nat) (agg : Bool) (h : H), qCM (.pointer (some ⟨b, k, none⟩)) n agg h f = oK (hval h b k n agg) f) /\
  (∀ (b k n : Nat) (y : Value) (h : H) (f : H -> Prop), qCR (.pointer (some ⟨b, k, none⟩)) y n h f = ((zF y).length = n /\ (zF y).all vone = true /\ hK (zQ h b k (zF y)) f)) /\
  (∀ (f : Value -> Prop) (b k off : Nat), fldK (.pointer (some ⟨b, k, none⟩)) off f = f (.pointer (some ⟨b, k + off, none⟩))) /\
  (∀ (f : Value -> Prop) (cs : List Value) (off n : Nat) (agg : Bool), getK (.agg cs.toArray) off n agg f = oK (if agg = true then some (.agg ((cs.drop off).take n).toArray) else cs[off]?) f) /\
  (∀ (f : Value -> Prop) (b k len cap n : Nat) (kd : IntKind) (j : Int), vI (.slice (some ⟨b, k, none⟩) len cap) (.int kd j) n f = ((0 <= j /\ j < (len : Int)) /\ f (.pointer (some ⟨b, k + j.toNat * n, none⟩)))) /\
  (∀ (f : Value -> Prop) (b k len n : Nat) (kd : IntKind) (j : Int), qGQ (.pointer (some ⟨b, k, none⟩)) (.int kd j) len n f = ((0 <= j /\ j < (len : Int)) /\ f (.pointer (some ⟨b, k + j.toNat * n, none⟩)))) /\
  (∀ (f : Value -> Prop) (s : List UInt8) (kd : IntKind) (j : Int), qCO (.string ⟨s.toArray⟩) (.int kd j) f = (0 <= j /\ oK ((s[j.toNat]?).map fun u => .int .u8 u.toNat) f)) /\
  (∀ (f : Value -> Prop) (a : Addr), qCL (.pointer (some a)) f = f (.pointer (some a))) /\
  (∀ (f : Value -> Prop) (g : FuncId) (fi ca : Array Value), qCL (.func (.func g) fi ca) f = f (.func (.func g) fi ca)) /\
  (∀ (f : Value -> Prop) (op : BinOp) (k : IntKind) (a b : Int) (o : Prop), binK op (.int k a) (.int k b) f o = oK (intBin op k a b) f) /\
  (∀ (f : Value -> Prop) (k k' : IntKind) (a b : Int) (o : Prop), binK .shl (.int k a) (.int k' b) f o = oK (intBin .shl k a b) f) /\
  (∀ (f : Value -> Prop) (k k' : IntKind) (a b : Int) (o : Prop), binK .shr (.int k a) (.int k' b) f o = oK (intBin .shr k a b) f) /\
  (∀ (f : Value -> Prop) (op : BinOp) (a b : ByteArray) (o : Prop), binK op (.string a) (.string b) f o = oK (xP op a b) f) /\
  (∀ (f : Value -> Prop) (neg a b : Bool), beqK neg (.bool a) (.bool b) f = f (.bool (if neg = true then !(a == b) else a == b))) /\
  (∀ (f : Value -> Prop) (neg c : Bool), ieqK neg c .nilIface .nilIface f = (c = true /\ f (.bool !neg))) /\
  (∀ (f : Value -> Prop) (neg c : Bool) (t : TypeId) (v : Value), ieqK neg c .nilIface (.iface t v) f = f (.bool neg)) /\
  (∀ (f : Value -> Prop) (neg c : Bool) (t : TypeId) (v : Value), ieqK neg c (.iface t v) .nilIface f = f (.bool neg)) /\
  (∀ (f : Value -> Prop) (neg : Bool) (n1 n2 n3 n4 : Nat) (b : Option Addr), leqK neg (.slice none n1 n2) (.slice b n3 n4) f = f (.bool (if neg = true then !b.isNone else b.isNone))) /\
  (∀ (f : Value -> Prop) (neg : Bool) (a : Addr) (n1 n2 n3 n4 : Nat), leqK neg (.slice (some a) n1 n2) (.slice none n3 n4) f = f (.bool neg)) /\
  (∀ (f : Value -> Prop) (b : Bool), notK (.bool b) f = f (.bool !b)) /\
  (∀ (f : Value -> Prop) (k k' : IntKind) (n : Int), qGT k (.int k' n) f = f (.int k (k.wrap n))) /\
  (∀ (e : TypeId) (z : List Value) (bytes : Nat) (k k' : IntKind) (a b : Int) (h : H) (f : Value -> H -> Prop), qAJ e z bytes (.int k a) (.int k' b) h f = ((0 <= a /\ a <= b /\ b <= 9223372036854775807 /\ bytes * b <= 281474976710656) /\ newB h (blk (zrep z b.toNat) e) (slcC a.toNat b.toNat f))) /\
  (∀ (f : Value -> Prop) (a : Option Addr) (len cap n : Nat), slcK (.slice a len cap) n none none f = ((0 <= (0 : Int) /\ 0 <= (len : Int) /\ (len : Int) <= cap) /\ f (.slice (if cap = 0 then a else a.map (·.add 0)) len cap))) /\
  (∀ (f : Value -> Prop) (a : Option Addr) (len cap n : Nat) (l : Int), slcK (.slice a len cap) n (some (some l)) none f = ((0 <= l /\ l <= (len : Int) /\ (len : Int) <= cap) /\ f (.slice (if cap = l.toNat then a else a.map (·.add (l.toNat * n))) (len - l.toNat) (cap - l.toNat)))) /\
  (∀ (f : Value -> Prop) (a : Option Addr) (len cap n : Nat) (u : Int), slcK (.slice a len cap) n none (some (some u)) f = ((0 <= (0 : Int) /\ 0 <= u /\ u <= (cap : Int)) /\ f (.slice (if cap = 0 then a else a.map (·.add 0)) u.toNat cap))) /\
  (∀ (f : Value -> Prop) (a : Option Addr) (len cap n : Nat) (l u : Int), slcK (.slice a len cap) n (some (some l)) (some (some u)) f = ((0 <= l /\ l <= u /\ u <= (cap : Int)) /\ f (.slice (if cap = l.toNat then a else a.map (·.add (l.toNat * n))) (u.toNat - l.toNat) (cap - l.toNat)))) /\
  (∀ (f : Value -> Prop) (s : List UInt8) (l : Int), slTK (.string ⟨s.toArray⟩) (some (some l)) none f = ((0 <= l /\ l <= (s.length : Int)) /\ f (.string ⟨(s.drop l.toNat).toArray⟩))) /\
  (∀ (f : Value -> Prop) (s : List UInt8) (u : Int), slTK (.string ⟨s.toArray⟩) none (some (some u)) f = ((0 <= u /\ u <= (s.length : Int)) /\ f (.string ⟨(s.take u.toNat).toArray⟩))) /\
  (∀ (f : Value -> Prop) (s : List UInt8) (l u : Int), slTK (.string ⟨s.toArray⟩) (some (some l)) (some (some u)) f = ((0 <= l /\ l <= u /\ u <= (s.length : Int)) /\ f (.string ⟨((s.drop l.toNat).take (u.toNat - l.toNat)).toArray⟩))) /\
  (∀ (f : Value -> Prop) (s : List UInt8), qEF (.string ⟨s.toArray⟩) f = f (.int .i64 s.length)) /\
  (∀ (f : Value -> Prop) (a : Option Addr) (n c : Nat), jQ (.slice a n c) f = f (.int .i64 n)) /\
  (∀ (f : Value -> Prop) (n c : Nat) (h : H), kV (.slice none n c) h f = f (.string ⟨[].toArray⟩)) /\
  (∀ (f : Value -> Prop) (b k len cap : Nat) (h : H), kV (.slice (some ⟨b, k, none⟩) len cap) h f = oK (((qV h b k len).bind wQ).map fun l => .string ⟨l.toArray⟩) f) /\
  (∀ (f : Value -> Prop) (vs : List Value) (i : Nat), extK (.tuple vs.toArray) i f = oK (vs[i]?) f) /\
  (∀ (f : Value -> Prop) (t t' : TypeId) (v z : Value) (ok : Bool), qCQ (.iface t' v) t z ok f = if t' = t then f (if ok = true then .tuple #[v, .bool true] else v) else (ok = true /\ f (.tuple #[z, .bool false]))) /\
  (∀ (f : Value -> Prop) (t : TypeId) (z : Value) (ok : Bool), qCQ .nilIface t z ok f = (ok = true /\ f (.tuple #[z, .bool false]))) /\
  (∀ (P : Program) (g : FuncId) (fi ca : List Value) (args : List Value) (h : H) (R : Ending -> H -> Prop), qDF P (.func (.func g) fi.toArray ca.toArray) args h R = (wO P g = true /\ HCalls P g (fi ++ args ++ ca).toArray h R)) /\
  (∀ (h : H) (b k n : Nat), hval h b k n true = (qV h b k n).map fun l => .agg l.toArray) /\
  (∀ (h : H) (b k n : Nat), hval h b k n false = hcel h b k) /\
  (∀ (k : IntKind) (n : Int), loB (.int k n) = some n) /\
  (∀ (l : List Value), wX l [] = some l) /\
  (∀ (l : List Value) (off n : Nat) (v : List Value) (r : List (Nat × Nat × List Value)), wX l ((off, n, v) :: r) = if v.length = n /\ off + n <= l.length then wX (qJ l off v) r else none) /\
  (∀ (k : IntKind) (n : Int), zF (.int k n) = [.int k n]) /\
  (∀ (b : Bool), zF (.bool b) = [.bool b]) /\
  (∀ (s : ByteArray), zF (.string s) = [.string s]) /\
  (∀ (a : Option Addr) (n c : Nat), zF (.slice a n c) = [.slice a n c]) /\
  (∀ (a : Option Addr), zF (.pointer a) = [.pointer a]) /\
  (∀ (t : TypeId) (v : Value), zF (.iface t v) = [.iface t v]) /\
  (zF .nilIface = [.nilIface]) /\
  (∀ (f : Fn) (a b : Array Value), zF (.func f a b) = [.func f a b]) /\
  (∀ (a : Option Nat), zF (.map a) = [.map a]) /\
  (∀ (l : List Value), zF (.agg l.toArray) = l) :=
 ⟨by intros; apply vop_mov,
  by intros; apply zDT,
  by intros; apply qPQ,
  by intros; apply qZF,
  by intros; apply qZJ,
  by intros; apply vop_box,
  by intros; apply vop_fld,
  by intros; apply vop_get,
  by intros; apply qPR,
  by intros; apply zDY,
  by intros; apply zDX,
  by intros; apply zDU,
  by intros; apply vop_bin,
  by intros; apply vop_beq,
  by intros; apply vop_ieq,
  by intros; apply vop_leq,
  by intros; apply vop_not,
  by intros; apply zDZ,
  by intros; apply qZG,
  by intros; apply vop_fn,
  by intros; apply qZI,
  by intros; apply qTU,
  by intros; apply qTT,
  by intros; apply vop_slc,
  by intros; apply vop_slT,
  by intros; apply zDV,
  by intros; apply zDW,
  by intros; apply zEB,
  by intros; apply vop_ext,
  by intros; apply zEC,
  by intros; apply zEA,
  by intros; apply qZH,
  by intros; apply vop_inv,
  by intros; apply vop_app,
  by intros; apply vop_raw,
  by intros; apply vfl_mov,
  by intros; apply zEE,
  by intros; apply zEG,
  by intros; apply vfl_fld,
  by intros; apply vfl_get,
  by intros; apply zEK,
  by intros; apply zEL,
  by intros; apply zEJ,
  by intros; apply zEF,
  by intros; apply vfl_bin,
  by intros; apply vfl_beq,
  by intros; apply vfl_ieq,
  by intros; apply vfl_leq,
  by intros; apply vfl_not,
  by intros; apply zEM,
  by intros; apply qZP,
  by intros; apply vfl_fn,
  by intros; apply qZQ,
  by intros; apply vfl_slc,
  by intros; apply vfl_slT,
  by intros; apply zEH,
  by intros; apply zEI,
  by intros; apply zEN,
  by intros; apply vfl_ext,
  by intros; apply zEO,
  by intros; apply qXU,
  by intros; apply qYE,
  by intros; apply lK_some,
  by intros; apply ap2_eq,
  by intros; apply undC_eq,
  by intros; apply ptrC_eq,
  by intros; apply slcC_eq,
  by intros; apply aggC_eq,
  by intros; apply bslC_eq,
  by intros; apply zGG,
  by intros; apply qQY,
  by intros; apply zAO,
  by intros; apply fldK_eq,
  by intros; apply getK_eq,
  by intros; apply qBL,
  by intros; apply zHO,
  by intros; apply zHN,
  by intros; apply zGP,
  by intros; apply zGO,
  by intros; apply zJI,
  by intros; apply zJH,
  by intros; apply zJG,
  by intros; apply zJF,
  by intros; apply beqK_eq,
  by intros; apply ieqK_1,
  by intros; apply ieqK_2,
  by intros; apply ieqK_3,
  by intros; apply leqK_1,
  by intros; apply leqK_2,
  by intros; apply notK_eq,
  by intros; apply zIW,
  by intros; apply qVC,
  by intros; apply slcK_00,
  by intros; apply slcK_10,
  by intros; apply slcK_01,
  by intros; apply qNZ,
  by intros; apply slTK_10,
  by intros; apply slTK_01,
  by intros; apply slTK_11,
  by intros; apply zHA,
  by intros; apply zHB,
  by intros; apply zCV,
  by intros; apply qSZ,
  by intros; apply extK_eq,
  by intros; apply zJK,
  by intros; apply zDC,
  by intros; apply zCT,
  by intros; apply hval_t,
  by intros; apply zHQ,
  by intros; apply loB_eq,
  by intros; apply zHX,
  by intros; apply zCE,
  by intros; apply qTW,
  by intros; apply qPV,
  by intros; apply qKJ,
  by intros; apply qNF,
  by intros; apply qHT,
  by intros; apply qNG,
  by intros; apply qGW,
  by intros; apply qPU,
  by intros; apply qTV,
  by intros; apply qTX⟩
theorem mem :
  (∀ (h : H) (j : Nat) (o : Obj), hget ((j, o) :: h) j = some o) /\
  (∀ (h : H) (j : Nat) (k : Nat) (n : Nat) (e : TypeId) (l : List Value), qV ((j, blk l e) :: h) j k n = if k + n <= l.length then some ((l.drop k).take n) else none) /\
  (∀ (h : H) (j : Nat) (k : Nat) (e : TypeId) (l : List Value), hcel ((j, blk l e) :: h) j k = l[k]?) /\
  (∀ (h : H) (j : Nat) (k : Nat) (e : TypeId) (l : List Value) (vs : List Value), zQ ((j, blk l e) :: h) j k vs = if k + vs.length <= l.length then some ((j, blk (qJ l k vs) e) :: h) else none) /\
  (∀ (h : H) (j : Nat) (o : Obj) (i : Nat) (hne : i ≠ j), hget ((j, o) :: h) i = hget h i) /\
  (∀ (h : H) (j : Nat) (k : Nat) (n : Nat) (o : Obj) (i : Nat) (hne : i ≠ j), qV ((j, o) :: h) i k n = qV h i k n) /\
  (∀ (h : H) (j : Nat) (k : Nat) (o : Obj) (i : Nat) (hne : i ≠ j), hcel ((j, o) :: h) i k = hcel h i k) /\
  (∀ (h : H) (j : Nat) (k : Nat) (vs : List Value) (o : Obj) (i : Nat) (hne : i ≠ j), zQ ((j, o) :: h) i k vs = (zQ h i k vs).map ((j, o) :: ·)) :=
 ⟨by intros; apply qG,
  by intros; apply qDA,
  by intros; apply zBY,
  by intros; apply kA,
  by intros; apply xE; assumption,
  by intros; apply qVU; assumption,
  by intros; apply zBZ; assumption,
  by intros; apply qRW; assumption⟩
theorem plain : (∀ p : Prop, (True /\ p) = p) /\ (∀ p : Prop, (p /\ True) = p) /\ (∀ p : Prop, (False /\ p) = False) /\ (∀ p : Prop, (True ∨ p) = True) /\ (∀ p : Prop, (p ∨ True) = True) /\ (∀ a : Value, (a = a) = True) /\ ((¬ False) = True) /\ ((¬ True) = False) /\ (∀ a b : Nat, (a ≠ b) = ¬ (a = b)) /\ (∀ p : Prop, (True -> p) = p) /\
  (∀ (p : Prop) [Decidable p], (decide p = true) = p) /\ ((false = true) = False) /\ ((true = true) = True) /\ ((!true) = false) /\ ((!false) = true) /\
  (∀ (c : Prop) [Decidable c] (x y : Bool), (if c then Value.bool x else Value.bool y) = Value.bool (if c then x else y)) /\
  (∀ n : Nat, n + 0 = n) /\ (∀ p : Prop, (p /\ False) = False) /\ (∀ p : Prop, (False ∨ p) = p) /\ (∀ p : Prop, (p ∨ False) = p) /\ (∀ a b : Int, (a != b) = !(a == b)) /\ (∀ a b : Int, (a == b) = decide (a = b)) /\ (∀ b : Bool, ((!b) = true) = (b = false)) /\ (∀ (p : Prop) [Decidable p], (decide p = false) = ¬ p) /\ (∀ n : Nat, 0 + n = n) /\ (∀ n : Nat, n * 1 = n) /\ (∀ n : Nat, 0 * n = 0) /\ (∀ n : Nat, (n : Int).toNat = n) :=
 ⟨fun _ => by simp, fun _ => by simp, fun _ => by simp, fun _ => by simp, fun _ => by simp, fun _ => by simp, by simp, by simp, fun _ _ => rfl, fun _ => by simp, fun _ _ => by simp, by simp, by simp, rfl, rfl, fun c _ x y => zHG c x y, fun _ => rfl, fun _ => by simp, fun _ => by simp, fun _ => by simp, fun _ _ => rfl, fun a b => by by_cases h : a = b <;> simp [h], fun b => by simp, fun _ _ => by simp, by simp, by simp, by simp, by simp⟩
theorem seqs {α : Type} : (∀ (x : α) (l : List α), (x :: l).length = l.length + 1) /\ (([] : List α).length = 0) /\ (∀ (x : α) (l : List α), (x :: l)[0]? = some x) /\ (∀ (x : α) (l : List α) (n : Nat), (x :: l)[n + 1]? = l[n]?) /\
  (∀ l : List α, l.drop 0 = l) /\ (∀ (x : α) (l : List α) (n : Nat), (x :: l).drop (n + 1) = l.drop n) /\ (∀ l : List α, l.take 0 = []) /\ (∀ (x : α) (l : List α) (n : Nat), (x :: l).take (n + 1) = x :: l.take n) /\
  (∀ n, ([] : List α).take n = []) /\ (∀ n, ([] : List α).drop n = []) /\ (∀ (x : α) (n : Nat), List.replicate (n + 1) x = x :: List.replicate n x) /\ (∀ x : α, List.replicate 0 x = []) /\ (∀ (x : α) (l m : List α), (x :: l) ++ m = x :: (l ++ m)) /\ (∀ m : List α, [] ++ m = m) /\ (∀ m : List α, m ++ [] = m) :=
 ⟨fun _ _ => rfl, rfl, fun _ _ => rfl, fun _ _ _ => rfl, fun _ => rfl, fun _ _ _ => rfl, fun _ => rfl, fun _ _ _ => rfl, fun n => by simp, fun n => by simp, fun _ _ => rfl, fun _ => rfl, fun _ _ _ => rfl, fun _ => rfl, fun m => by simp⟩
theorem maps {α β : Type} : (∀ (f : α -> β) (x : α) (l : List α), (x :: l).map f = f x :: l.map f) /\ (∀ f : α -> β, ([] : List α).map f = []) /\ (∀ (f : α -> β) (x : α), (some x).map f = some (f x)) /\ (∀ (f : α -> Option β) (x : α), (some x).bind f = f x) /\ (∀ (f : α -> β), (none : Option α).map f = none) :=
 ⟨fun _ _ _ => rfl, fun _ => rfl, fun _ _ => rfl, fun _ _ => rfl, fun _ => rfl⟩
theorem cells : (∀ v l, ((v :: l : List Value).all vone) = (vone v && l.all vone)) /\ (([] : List Value).all vone = true) /\ (∀ k n, vone (.int k n) = true) /\ (∀ b, vone (.bool b) = true) /\ (∀ s, vone (.string s) = true) /\ (∀ a n c, vone (.slice a n c) = true) /\ (∀ a, vone (.pointer a) = true) /\
  (∀ t v, vone (.iface t v) = true) /\ (vone .nilIface = true) /\ (∀ f a b, vone (.func f a b) = true) /\ (∀ a, vone (.map a) = true) /\ (vone .nilFunc = true) /\ (∀ b, (true && b) = b) /\
  (∀ z, zrep z 0 = []) /\ (∀ z n, zrep z (n + 1) = z ++ zrep z n) /\ (∀ (x : Value) l v vs, qJ (x :: l) 0 (v :: vs) = v :: qJ l 0 vs) /\ (∀ (x : Value) l k vs, qJ (x :: l) (k + 1) vs = x :: qJ l k vs) /\ (∀ l k, qJ l k [] = l) :=
 ⟨fun _ _ => rfl, rfl, fun _ _ => rfl, fun _ => rfl, fun _ => rfl, fun _ _ _ => rfl, fun _ => rfl, fun _ _ => rfl, rfl, fun _ _ _ => rfl, fun _ => rfl, rfl, fun b => by cases b <;> rfl, qZA, qLF, qQI, jZ, qAC⟩
end Go.Tk
end

section
namespace Go.Tk
open Go
section
variable {P Q : Program}
structure Lite (P Q : Program) : Prop where
 types : P.types = Q.types
 fol : P.follows .mixedOrders = Q.follows .mixedOrders
 ok : wO P = wO Q
theorem Lite.at (l : Lite P Q) (n : Nat) : Made.infoAt P.toTables n = Made.infoAt Q.toTables n := by
 induction n with
 | zero => rfl
 | succ n ih => funext t; simp only [Made.infoAt, l.types, ih]
theorem Lite.info (l : Lite P Q) (t : TypeId) : P.info? t = Q.info? t := by simp only [Tables.info?, l.types, l.at]
theorem Lite.und (l : Lite P Q) (t : TypeId) : P.underlying t = Q.underlying t := by simp only [Program.underlying, l.info]
theorem Lite.places (l : Lite P Q) (fs : List Field) : uM P fs = uM Q fs := by
 induction fs with
 | nil => rfl
 | cons f r ih => simp only [uM, l.info, ih]
theorem Lite.ci (l : Lite P Q) (o : Op) (t : TypeId) : ci P o t = ci Q o t := by
 have h0 : P.underlying = Q.underlying := funext l.und
 unfold Tk.ci ciEq qWO qPA qAP kE
 simp only [l.info, l.und, l.places, l.ok, h0]
theorem Lite.cn (l : Lite P Q) (ops : Array Oper) (o : Oper) : cn P ops o = cn Q ops o := by unfold Tk.cn; simp only [l.ci]
theorem Lite.cns (l : Lite P Q) (ops : Array Oper) (os : List Oper) : cns P ops os = cns Q ops os := by
 induction os with
 | nil => rfl
 | cons o r ih => simp only [Tk.cns, l.cn, ih]
theorem Lite.float (l : Lite P Q) : qAO P = qAO Q := by
 funext ops s li f i
 unfold qAO zHF zJN
 simp only [l.ci, l.und]
theorem Lite.draw (l : Lite P Q) (ops : Array Oper) (s n : Nat) (li : Array Bool) : kC P ops s n li = kC Q ops s n li := by
 induction n generalizing li with
 | zero => rfl
 | succ n ih => simp only [kC, qGG, l.cn, l.float, ih]
theorem Lite.any (l : Lite P Q) (ops : Array Oper) (os : List Oper) (i : Nat) : anyL P ops i os = anyL Q ops i os := by
 induction os generalizing i with
 | nil => rfl
 | cons o r ih =>
  cases r with
  | nil => simp only [anyL, l.cn]
  | cons p r =>
   have e := ih (i + 1)
   unfold anyL
   simp only [e, l.cn]
theorem Lite.cc (l : Lite P Q) (c : Code) : cc P c = cc Q c := by
 induction c <;> simp only [Tk.cc, *] <;> (try simp only [l.cns, qWJ, zJM, l.fol, l.draw, l.any])
theorem Lite.crvs (l : Lite P Q) (rs : List ResultVar) : crvs P rs = crvs Q rs := by
 induction rs with
 | nil => rfl
 | cons r rs ih => cases r <;> simp only [Tk.crvs, crv, l.und, l.info, ih]
theorem Lite.ir (l : Lite P Q) (fn : Func) : irOf P fn = irOf Q fn := by simp only [irOf, l.cc, l.crvs]
end
def qOG (types : Array TypeInfo) (rt : RuntimeTypes) (oks : List Bool) : Program :=
 { toTables := { goVersion := "", platform := "", initOrder := "", godebug := "", types := types, rt := rt, cutTypes := #[], globals := #[], inits := #[], main := 0, follow := [.mixedOrders] }, funcs := (oks.map fun b => { name := "", origin := "", params := #[], resultTypes := #[], nfree := 0, ntmps := 0, results := #[], body := if b then some .skip else none, norace := false, tmpNames := #[] }).toArray }
theorem lite_of {P : Program} {types : Array TypeInfo} {rt : RuntimeTypes} {oks : List Bool} (h1 : P.types = types) (h2 : P.follows .mixedOrders = true) (h3 : P.funcs.size = oks.length)
  (h4 : (List.range oks.length).all (fun f => wO P f == oks.getD f false) = true) : Lite P (qOG types rt oks) where
 types := h1
 fol := h2
 ok := by
  funext f
  have e : wO (qOG types rt oks) f = oks.getD f false := by
   unfold wO qOG
   simp only [List.getElem?_toArray, List.getElem?_map, List.getD_eq_getElem?_getD]
   cases oks[f]? with
   | none => rfl
   | some b => cases b <;> rfl
  rw [e]
  by_cases hf : f < oks.length
  ·have := List.all_eq_true.1 h4 f (List.mem_range.2 hf)
   simpa using this
  ·have n : P.funcs[f]? = none := Array.getElem?_eq_none (by rw [h3]; exact Nat.le_of_not_lt hf)
   unfold wO
   rw [n, List.getD_eq_getElem?_getD, List.getElem?_eq_none (Nat.le_of_not_lt hf)]; rfl
def vcO (P : Program) (r : Option IR) (args : List Value) (h : H) (R : Ending -> H -> Prop) : Prop := match r with
 | some ir => vc P ir.c (args ++ List.replicate (ir.n - args.length) undef) h (qAW ir.rs (dP R))
 | none => False
theorem qR (P : Program) (c : C) (rs : List RV) (n : Nat) (args : List Value) (h : H) (R : Ending -> H -> Prop) : vcO P (some ⟨c, rs, n⟩) args h R = vc P c (args ++ List.replicate (n - args.length) undef) h (qAW rs (dP R)) := rfl
theorem qD {P Q : Program} (l : Lite P Q) {f : FuncId} {fn : Func} {args : List Value} {h : H} {R : Ending -> H -> Prop} (hf : P.funcs[f]? = some fn) (k : vcO P (irOf Q fn) args h R) : HCalls P f args.toArray h R := by
 rw [<- l.ir] at k
 cases hi : irOf P fn with
 | none => rw [hi] at k; exact k.elim
 | some ir => rw [hi] at k; exact yK hf hi k
theorem HCalls_cb2 {P Q : Program} (l : Lite P Q) {f : FuncId} {fn : Func} {args : List Value} {h : H} {R : Ending -> H -> Prop} (hf : P.funcs[f]? = some fn) (k : vcO P (qJH Q fn) args h R) : HCalls P f args.toArray h R := by
 have e : qJH P fn = qJH Q fn := by unfold qJH; rw [l.ir]
 rw [<- e] at k
 cases hi : qJH P fn with
 | none => rw [hi] at k; exact k.elim
 | some ir => rw [hi] at k; exact qXF hf hi k
end Go.Tk
namespace Go.Tk
def wK := And.intro qR <| And.intro walk (And.intro (fun α : Type => @qXY α) (And.intro acts (And.intro mem (And.intro plain (And.intro (fun α : Type => @seqs α) (And.intro (fun α β : Type => @maps α β) (And.intro cells (And.intro resL.eq_1 (And.intro resL.eq_2 (And.intro resV.eq_1 (And.intro resV.eq_2 intBin.eq_def)))))))))))
def lm4 := And.intro (fun (α β : Type) => @List.map_cons α β) (And.intro (fun (α β : Type) => @List.map_nil α β) (And.intro (fun α : Type => @List.cons.injEq α) (fun p : Prop => and_true p)))
end Go.Tk
end

section
namespace Go.Proofs.YtjioiemhgbkbfaaGreatDoor
open Go Go.Tk
noncomputable def lp : Program := qOG Tryz.types Tryz.progTables.rt ((fun t f => [f, f, t, t, t, t, t, t, t, t, t, t, t, t, t, t, t, t, t, t, t, t, t, t, t, t, t, t, t, t, t, t, t, t, t, t, t, t, t, t, t, t, t, t, t, t, t, t, t, t, t, t, t, t, t, t, t, t, t, t, t, t, t, t, t, t, t, t, t, t, t, t, t, t, t, t, t, t, t, t, t, t, t, t, t, t, t, t, t, t, t, t, t, t, t, t, t, t, t, t, t, t, t, t, t, t, t, t, t, t, t, t, t, t, t, t, t, t, t, t, t, t, t, t, t, t, t, t, t, t, t, t, t, t, t, t, t, t, t, t, t, t, t, t, t, t, t, t, t, t, t, t, t, t, t, t, t, t, t, t, t, t, t, t, t, t, t, t, t, t, t, t, t, t, t, t, t, t, t, t, t, t, t, t, t, t, t, t, t, t, t, t, t, t, t, t, t, t, t, t, t, t, t, t, t, t, t, t, t, t, t, t, t, f, t, t, t, t, t, t, t, t, t, t, f, f, t, t, t, f, t, t, t, t, t, t, t, t, t, t, t, t, t, t, t, t, t, t, t, t, f, f, f, f, f, f, f, f, f, f, f, f, f, f, f, f, f, f, t, t, t, t, t, t, t, t, t, t, t, t, t, t, t, f, f, f, t, t, t, t, t, f, f, f, f, f, f, f, f, f, f, f, f, f, f, f, f, t]) true false)
theorem lite : Lite Tryz.prog lp := lite_of rfl (by kernel_rfl) (by kernel_rfl) (by kernel_rfl)
end Go.Proofs.YtjioiemhgbkbfaaGreatDoor
end

section
namespace Go.Tk
open Go
def Dj (g h : H) : Prop := ∀ i, hget g i ≠ none -> hget h i = none
theorem xW (g h : H) (i : Nat) : hget (g ++ h) i = (hget g i).or (hget h i) := by
 induction g with
 | nil => rfl
 | cons p t ih =>
  show hget (p :: (t ++ h)) i = _
  rw [zM, zM]
  split
  ·rfl
  ·exact ih
theorem Dj.symm {g h : H} (d : Dj g h) : Dj h g := fun i hi => by
 cases e : hget g i with
 | none => rfl
 | some o => exact absurd (d i (by rw [e]; simp)) hi
theorem Dj.of {g h : H} (d : Dj g h) {i : Nat} (hi : hget h i ≠ none) : hget g i = none := d.symm i hi
theorem Dj.nil (h : H) : Dj [] h := fun i hi => absurd rfl hi
theorem Dj.one {j : Nat} {o : Obj} {h : H} (e : hget h j = none) : Dj [(j, o)] h := fun i hi => by
 rw [zM] at hi
 split at hi
 ·rename_i c; exact c ▸ e
 ·exact absurd rfl hi
theorem Dj.one' {j : Nat} {o : Obj} {h : H} (d : Dj [(j, o)] h) : hget h j = none := d j (by rw [zM, if_pos rfl]; simp)
theorem Dj_cons {g h : H} {j : Nat} {o : Obj} : Dj g ((j, o) :: h) ↔ hget g j = none /\ Dj g h := by
 constructor
 ·intro d
  refine ⟨d.of (by rw [zM, if_pos rfl]; simp), fun i hi => ?_⟩
  have := d i hi
  rw [zM] at this
  split at this
  ·cases this
  ·exact this
 ·rintro ⟨a, b⟩ i hi
  rw [zM]
  split
  ·rename_i c; subst c; exact absurd a hi
  ·exact b i hi
theorem Dj_app {g a b : H} : Dj g (a ++ b) ↔ Dj g a /\ Dj g b := by
 constructor
 ·intro d
  refine ⟨fun i hi => ?_, fun i hi => ?_⟩ <;> have x := d i hi <;> rw [xW] at x <;> cases e : hget a i <;> rw [e] at x <;> simp_all
 ·rintro ⟨x, y⟩ i hi
  rw [xW, x i hi, y i hi]; rfl
theorem zJW {a b h : H} : Dj (a ++ b) h ↔ Dj a h /\ Dj b h := by
 constructor
 ·intro d; exact ⟨((Dj_app.1 d.symm).1).symm, ((Dj_app.1 d.symm).2).symm⟩
 ·rintro ⟨x, y⟩; exact (Dj_app.2 ⟨x.symm, y.symm⟩).symm
theorem Sub.left (g h : H) : Sub g (g ++ h) := fun i o e => by rw [xW, e]; rfl
theorem Sub.right {g h : H} (d : Dj g h) : Sub h (g ++ h) := fun i o e => by rw [xW, d.of (by rw [e]; simp)]; exact e
theorem Sub.app {a g h : H} (d : Dj g h) (s : Sub a h) : Sub a (g ++ h) := s.trans (.right d)
theorem Sub.both {g h m : H} (s : Sub g m) (t : Sub h m) : Sub (g ++ h) m := fun i o e => by
 rw [xW] at e
 cases eg : hget g i with
 | none => rw [eg] at e; exact t i o e
 | some x => rw [eg] at e; exact s i o (eg.trans e)
theorem Sub.cons_of {g m : H} {j : Nat} {o : Obj} (e : hget m j = some o) (s : Sub g m) : Sub ((j, o) :: g) m := fun i x h => by
 rw [zM] at h
 split at h
 ·rename_i c; subst c; rw [e]; exact h
 ·exact s i x h
theorem Sub.nil (m : H) : Sub [] m := fun i o e => by cases e
theorem Sub.wr {a h : H} {j : Nat} {o : Obj} (s : Sub a h) (hn : hget a j = none) : Sub a (hupd h j o) := fun i x e => by
 rw [qS (fun c => by subst c; rw [hn] at e; cases e)]; exact s i x e
theorem kS {g h : H} (s : Sub g h) {b k n : Nat} {l : List Value} (e : qV g b k n = some l) : qV h b k n = some l := by
 unfold qV at e ⊢
 cases eg : hget g b with
 | none => rw [eg] at e; cases e
 | some o => rw [eg] at e; rw [s _ _ eg]; exact e
theorem yA {g h : H} (s : Sub g h) {b k : Nat} {v : Value} (e : hcel g b k = some v) : hcel h b k = some v := by
 unfold hcel at e ⊢
 cases eg : hget g b with
 | none => rw [eg] at e; cases e
 | some o => rw [eg] at e; rw [s _ _ eg]; exact e
theorem zBV {h : H} {b k n : Nat} {l : List Value} (e : qV h b k n = some l) : l.length = n := (qCD e).1
theorem qMM {h : H} {b k n : Nat} {l : List Value} (e : qV h b k n = some l) {j : Nat} (hj : j < n) : hcel h b (k + j) = l[j]? := (qCD e).2 j hj
theorem qAM {h : H} {b k n : Nat} {l : List Value} (e : qV h b k n = some l) {i m : Nat} (hm : i + m <= n) : qV h b (k + i) m = some ((l.drop i).take m) := by
 unfold qV at e ⊢
 cases eg : hget h b with
 | none => rw [eg] at e; cases e
 | some o =>
  rw [eg] at e
  cases o <;> simp only [Option.bind_some, qGH] at e <;> try cases e
  rename_i c t f
  split at e
  ·cases e
   simp only [Option.bind_some, qGH]
   rw [if_pos (by omega)]
   simp only [List.drop_take, List.take_take, List.drop_drop]
   rw [Nat.min_eq_left (by omega)]
  ·cases e
def rdS (h : H) (sz : Nat) (v : Value) (n : Nat) (cs : List Value) : Prop :=
 cs.length = n * sz /\ ((v = .slice none 0 0 /\ n = 0) ∨ ∃ b k cap, v = .slice (some ⟨b, k, none⟩) n cap /\ n <= cap /\ qV h b k (n * sz) = some cs)
theorem rdS.sub {g h : H} (s : Sub g h) {sz : Nat} {v : Value} {n : Nat} {cs : List Value} (r : rdS g sz v n cs) : rdS h sz v n cs := by
 obtain ⟨hl, r | ⟨b, k, cap, rfl, hc, e⟩⟩ := r
 ·exact ⟨hl, .inl r⟩
 ·exact ⟨hl, .inr ⟨b, k, cap, rfl, hc, kS s e⟩⟩
def ows (e sz : Nat) (v : Value) (n : Nat) (cs : List Value) (g : H) : Prop :=
 cs.length = n * sz /\ ((v = .slice none 0 0 /\ n = 0 /\ g = []) ∨ ∃ j cap sp, v = .slice (some ⟨j, 0, none⟩) n cap /\ n <= cap /\ (cs ++ sp).length = cap * sz /\ g = [(j, blk (cs ++ sp) e)])
theorem ows.rd {e sz : Nat} {v : Value} {n : Nat} {cs : List Value} {g : H} (o : ows e sz v n cs g) : rdS g sz v n cs := by
 obtain ⟨hl, ⟨rfl, rfl, rfl⟩ | ⟨j, cap, sp, rfl, hc, hs, rfl⟩⟩ := o
 ·exact ⟨hl, .inl ⟨rfl, rfl⟩⟩
 ·refine ⟨hl, .inr ⟨j, 0, cap, rfl, hc, ?_⟩⟩
  rw [qDA, if_pos (by simp only [List.length_append]; omega)]
  simp [<- hl]
theorem ows.nil (e sz : Nat) : ows e sz (.slice none 0 0) 0 [] [] := ⟨by simp, .inl ⟨rfl, rfl, rfl⟩⟩
theorem ows.blk {e sz : Nat} {j n : Nat} {cs : List Value} (hl : cs.length = n * sz) : ows e sz (.slice (some ⟨j, 0, none⟩) n n) n cs [(j, blk cs e)] :=
 ⟨hl, .inr ⟨j, n, [], rfl, Nat.le_refl _, by simp [hl], by simp⟩⟩
theorem qIX {h : H} {sz : Nat} {v : Value} {n : Nat} {cs : List Value} (r : rdS h sz v n cs) {f : Value -> Prop} : jQ v f = f (.int .i64 n) := by
 obtain ⟨_, ⟨rfl, rfl⟩ | ⟨b, k, cap, rfl, _⟩⟩ := r <;> rfl
theorem qVS {h : H} {sz : Nat} {v : Value} {n : Nat} {cs : List Value} {kd : IntKind} {j : Int} {f : Value -> Prop} (r : rdS h sz v n cs) (h0 : 0 <= j) (h1 : j < n)
  (k : ∀ b o, qV h b o sz = some ((cs.drop (j.toNat * sz)).take sz) -> f (.pointer (some ⟨b, o, none⟩))) : vI v (.int kd j) sz f := by
 obtain ⟨hl, ⟨rfl, rfl⟩ | ⟨b, o, cap, rfl, hc, e⟩⟩ := r
 ·omega
 ·rw [qBL]
  refine ⟨⟨h0, h1⟩, k _ _ (qAM e ?_)⟩
  rw [<- Nat.succ_mul]
  exact Nat.mul_le_mul_right _ (by omega)
theorem qPO {z : List Value} {sz : Nat} (h : z.length = sz) (n : Nat) : (zrep z n).length = n * sz := by rw [jV, h]
def Src (P : Program) (M : H) (sz : Nat) (y : Value) (m : Nat) (ds : List Value) : Prop :=
 ds.length = m * sz /\ Builtin.lenOf y = Sem.pure m /\ ∀ {Q : Array Value -> H -> Prop} {E : Value -> H -> Prop}, Q ds.toArray M -> SH P (Builtin.firstCells sz m y) Q E M
theorem kX {P : Program} {M : H} {sz : Nat} {y : Value} {m : Nat} {ds : List Value} (r : rdS M sz y m ds) : Src P M sz y m ds := by
 obtain ⟨hl, ⟨rfl, rfl⟩ | ⟨b, o, cap, rfl, hc, e⟩⟩ := r
 ·have : ds = [] := List.eq_nil_of_length_eq_zero (by simpa using hl)
  subst this
  exact ⟨hl, rfl, fun q => q⟩
 ·refine ⟨hl, rfl, fun q => ?_⟩
  unfold Builtin.firstCells
  simp only [qAS e]
  exact q
theorem Src_str {P : Program} {M : H} (s : List UInt8) : Src P M 1 (.string ⟨s.toArray⟩) s.length (s.map fun b => .int .u8 b.toNat) := by
 refine ⟨by simp, by simp only [Builtin.lenOf, qQD]; rfl, fun q => ?_⟩
 unfold Builtin.firstCells
 show _
 have e : ((⟨s.toArray⟩ : ByteArray).extract 0 s.length).data = s.toArray := by
  apply Array.ext'
  simp
 simp only [qU, e]
 simpa using q
theorem qSA {P : Program} {M : H} {e sz : Nat} {v : Value} {n : Nat} {cs : List Value} {g : H} (o : ows e sz v n cs g) (sb : Sub g M) {Q : Array Value -> H -> Prop} {E : Value -> H -> Prop} (q : Q cs.toArray M) :
  SH P (Builtin.firstCells sz n v) Q E M := (kX (o.rd.sub sb)).2.2 q
def intD : TypeDesc -> Bool
 | .slice _ => false
 | .string => false
 | _ => true
theorem qTK {α : Type} {P : Program} (a : α) {Q : α -> H -> Prop} {E : Value -> H -> Prop} {h : H} : SH P (Sem.pure a) Q E h = Q a h := rfl
theorem qYV {P : Program} {n : Nat} {Q : Unit -> H -> Prop} {E : Value -> H -> Prop} {h : H} (q : Q () h) : SH P (askRoom n) Q E h := by
 unfold askRoom
 split <;> exact q
theorem zJT {P : Program} {need old : Nat} {e : TypeId} {Q : Nat -> H -> Prop} {E : Value -> H -> Prop} {h : H} (q : ∀ c, need <= c -> Q c h) : SH P (choose (.appendCap need old e)) Q E h := by
 simp only [choose, SH]
 split
 ·rename_i hf; simp only [Question.forced] at hf; exact (by cases hf)
 ·intro t
  refine q _ ?_
  simp only [Question.cut]
  omega
theorem qHN {P : Program} {t1 t2 ty e : TypeId} {d2 : TypeDesc} {i : TypeInfo} {z : Value} {v y : Value} {M g h : H} {n m : Nat} {cs ds : List Value} {K : Value -> H -> Prop} {X : List PanicEntry -> H -> Prop}
  (h1 : P.underlying t1 = some (.slice e)) (h2 : P.underlying t2 = some d2) (hd : intD d2 = false) (hi : P.info? e = some i) (hz : i.zero = some z) (hs : (zF z).length = i.size)
  (sb : Sub (g ++ h) M) (dj : Dj g h) (ow : ows e i.size v n cs g) (src : Src P M i.size y m ds) (ho : ds.all vone = true) (hb : (n + m) * i.bytes <= 140737488355328) (hn : n + m <= 140737488355328)
  (k : ∀ v' g', ows e i.size v' (n + m) (cs ++ ds) g' -> Dj g' h -> K v' (g' ++ h)) : appK P t1 t2 ty v y M K X := by
 obtain ⟨hdl, hlen, hfc⟩ := src
 have hcl := ow.1
 have hlen' : (cs ++ ds).length = (n + m) * i.size := by rw [List.length_append, hcl, hdl, Nat.add_mul]
 have new : ∀ c, n + m <= c -> SH P (do pure (Value.slice (some (<- newRow e (cs.toArray ++ ds.toArray ++ Builtin.zeroCells z.cells (c - (n + m))))) (n + m) c)) (dP K) (pK X) M := by
  intro c hc
  simp only [newRow, qH, kY, qU]
  intro j hj
  rw [vD, show Builtin.zeroCells (zF z).toArray (c - (n + m)) = (zrep (zF z) (c - (n + m))).toArray from by simpa [Builtin.zeroCells] using qHO (zF z) (c - (n + m))]
  refine ⟨[(j, blk ((cs ++ ds) ++ zrep (zF z) (c - (n + m))) e)] ++ h, ?_, k _ _ ⟨hlen', .inr ⟨j, c, zrep (zF z) (c - (n + m)), rfl, hc, ?_, rfl⟩⟩ (.one ((Sub.right dj).trans sb |>.none' hj))⟩
  ·have : (cs.toArray ++ ds.toArray ++ (zrep (zF z) (c - (n + m))).toArray) = ((cs ++ ds) ++ zrep (zF z) (c - (n + m))).toArray := by apply Array.ext'; simp
   rw [this]
   exact Sub.cons2 ((Sub.right dj).trans sb)
  ·rw [List.length_append, hlen', qPO hs, <- Nat.add_mul]; congr 1; omega
 have hnl : ¬ (((n + m : Nat) : Int) > IntKind.i64.max) := by show ¬ (((n + m : Nat) : Int) > 9223372036854775807); omega
 have common : ∀ (base : Option Addr) (cap : Nat), v = .slice base n cap -> n <= cap -> (n + m <= cap -> SH P (do let new <- Builtin.firstCells i.size m y; (if let some a := base then storeCells (a.add (n * i.size)) new.toList else pure ()); pure (Value.slice base (n + m) cap)) (dP K) (pK X) M) ->
   SH P (Builtin.append_ #[t1, t2] ty #[v, y]) (dP K) (pK X) M := by
  intro base cap hv hle inplace
  subst hv
  unfold Builtin.append_
  simp only [List.getElem?_toArray, List.getElem?_cons_zero, List.getElem?_cons_succ, qH, qQ h1, qQ h2, xG hi, qU]
  cases d2 <;> simp only [intD, Bool.true_eq_false] at hd
  all_goals
  simp only [Bool.false_eq_true, if_false, hlen, Bool.not_false, if_true, qH, qU]
  all_goals
  simp only [qTK]
  by_cases hc : n + m <= cap
  ·rw [if_pos hc]
   have := inplace hc
   cases base <;> simp only [qH, qU] at this ⊢ <;> exact this
  ·rw [if_neg hc]
   have h48 : ¬ (Builtin.nextslicecap (n + m) cap * i.bytes > 2 ^ 48) := by
    have := growslice_fits (need := n + m) (old := cap) (bytes := i.bytes) (by omega) hb
    rw [show (2 : Nat) ^ 48 = 281474976710656 from rfl]; omega
   simp only [qH, uV hi, hnl, false_and, if_false, h48, qU]
   refine zJT fun c hc' => ?_
   refine qYV ?_
   refine qSA ow ((Sub.left g h).trans sb) ?_
   refine hfc ?_
   simp only [xJ hi hz]
   have := new c hc'
   simp only [qH, qU] at this
   exact this
 obtain ⟨_, ow'⟩ := id ow
 unfold appK
 rcases ow' with ⟨rfl, rfl, rfl⟩ | ⟨j, cap, sp, rfl, hle, hsp, rfl⟩
 ·refine common none 0 rfl (Nat.le_refl _) fun hc => ?_
  have hm : m = 0 := by omega
  subst hm
  have hd0 : ds = [] := List.eq_nil_of_length_eq_zero (by simpa using hdl)
  have hc0 : cs = [] := List.eq_nil_of_length_eq_zero (by simpa using hcl)
  subst hd0; subst hc0
  simp only [qH, qU]
  refine hfc ?_
  exact ⟨h, (Sub.right dj).trans sb, k _ [] ⟨by simp, .inl ⟨rfl, rfl, rfl⟩⟩ (Dj.nil h)⟩
 ·refine common _ cap rfl hle fun hc => ?_
  simp only [qH, qU]
  refine hfc ?_
  have hj : hget M j = some (blk (cs ++ sp) e) := sb _ _ (by rw [xW, qG]; rfl)
  have hfit : n * i.size + ds.length <= (cs ++ sp).length := by rw [hsp, hdl, <- Nat.add_mul]; exact Nat.mul_le_mul_right _ hc
  have hw : zQ M j (n * i.size) ds = some (hupd M j (blk (qJ (cs ++ sp) (n * i.size) ds) e)) := by
   simp only [zQ, hj, Option.bind_some, kM, if_pos hfit, Option.map_some]
  simp only [vC, Nat.zero_add]
  rw [kK ho hw]
  have hsl : qJ (cs ++ sp) (n * i.size) ds = (cs ++ ds) ++ sp.drop ds.length := by
   rw [qBX _ _ _ hfit, <- hcl]; simp
  rw [hsl]
  refine ⟨[(j, blk (cs ++ ds ++ sp.drop ds.length) e)] ++ h, ?_, k _ _ ⟨hlen', .inr ⟨j, cap, sp.drop ds.length, rfl, hc, ?_, rfl⟩⟩ (.one dj.one')⟩
  ·refine Sub.both (Sub.cons_of (zH hj) (Sub.nil _)) ?_
   exact Sub.wr ((Sub.right dj).trans sb) dj.one'
  ·rw [<- hsl, qKP, hsp]
end Go.Tk
end

section
namespace Go.Tk
open Go
section
variable {α : Type}
def fl (enc : α -> List Value) (l : List α) : List Value := (l.map enc).flatten
theorem zHU (enc : α -> List Value) : fl enc [] = [] := rfl
theorem vT (enc : α -> List Value) (a : α) (l : List α) : fl enc (a :: l) = enc a ++ fl enc l := by simp [fl]
theorem zHV (enc : α -> List Value) (l m : List α) : fl enc (l ++ m) = fl enc l ++ fl enc m := by simp [fl]
theorem kJ {enc : α -> List Value} {sz : Nat} (he : ∀ a, (enc a).length = sz) (l : List α) : (fl enc l).length = l.length * sz := by
 induction l with
 | nil => simp [fl]
 | cons a l ih => rw [vT, List.length_append, he, ih, List.length_cons, Nat.succ_mul, Nat.add_comm]
theorem fl_at {enc : α -> List Value} {sz : Nat} (he : ∀ a, (enc a).length = sz) : ∀ {l : List α} {i : Nat} (h : i < l.length), ((fl enc l).drop (i * sz)).take sz = enc l[i] := by
 intro l
 induction l with
 | nil => intro i h; cases h
 | cons a l ih =>
  intro i h
  rw [vT]
  cases i with
  | zero => simp [<- he a]
  | succ i =>
   rw [Nat.succ_mul, Nat.add_comm, <- List.drop_drop, List.drop_left' (he a)]
   simpa using ih (i := i) (by simpa using h)
def rLs (h : H) (enc : α -> List Value) (sz : Nat) (v : Value) (l : List α) : Prop := rdS h sz v l.length (fl enc l)
def oLs (e : TypeId) (enc : α -> List Value) (sz : Nat) (v : Value) (l : List α) (g : H) : Prop := ows e sz v l.length (fl enc l) g
theorem rLs.sub {g h : H} (s : Sub g h) {enc : α -> List Value} {sz : Nat} {v : Value} {l : List α} (r : rLs g enc sz v l) : rLs h enc sz v l := rdS.sub s r
theorem oLs.rd {e : TypeId} {enc : α -> List Value} {sz : Nat} {v : Value} {l : List α} {g : H} (o : oLs e enc sz v l g) : rLs g enc sz v l := ows.rd o
theorem rLs.len {h : H} {enc : α -> List Value} {sz : Nat} {v : Value} {l : List α} (r : rLs h enc sz v l) {f : Value -> Prop} : jQ v f = f (.int .i64 l.length) := qIX r
theorem zS {h : H} {enc : α -> List Value} {sz : Nat} {v : Value} {l : List α} {kd : IntKind} {j : Int} {i : Nat} {f : Value -> Prop} (he : ∀ a, (enc a).length = sz) (r : rLs h enc sz v l) (hj : j = i) (hi : i < l.length)
  (k : ∀ b o, qV h b o sz = some (enc l[i]) -> f (.pointer (some ⟨b, o, none⟩))) : vI v (.int kd j) sz f := by
 subst hj
 refine qVS r (by omega) (by omega) fun b o e => k b o ?_
 rw [e, Int.toNat_natCast, fl_at he hi]
end
theorem yR {h : H} {b o : Nat} {x : Value} (e : qV h b o 1 = some [x]) : hcel h b o = some x := by simpa using qMM e (j := 0) (by omega)
theorem zK {h : H} {b o n : Nat} {l : List Value} (e : qV h b o n = some l) (j : Nat) {x : Value} (hx : l[j]? = some x) : hcel h b (o + j) = some x := by
 have hl := zBV e
 have hj : j < l.length := by
  rcases Nat.lt_or_ge j l.length with c | c
  ·exact c
  ·rw [List.getElem?_eq_none c] at hx; cases hx
 rw [qMM e (by omega)]; exact hx
def eI (n : Int) : List Value := [.int .i64 n]
def eB (b : UInt8) : List Value := [.int .u8 b.toNat]
def eP (p : Int × Int) : List Value := [.int .i64 p.1, .int .i64 p.2]
theorem yM (n : Int) : (eI n).length = 1 := rfl
theorem eB_len (n : UInt8) : (eB n).length = 1 := rfl
theorem xB (n : Int × Int) : (eP n).length = 2 := rfl
theorem qDE (l : List Int) : (fl eI l).all vone = true := by induction l <;> simp_all [fl, eI, vone]
theorem eB_one (l : List UInt8) : (fl eB l).all vone = true := by induction l <;> simp_all [fl, eB, vone]
theorem qJQ (l : List (Int × Int)) : (fl eP l).all vone = true := by induction l <;> simp_all [fl, eP, vone]
abbrev rInts (h : H) := rLs h eI 1
abbrev rBytes (h : H) := rLs h eB 1
abbrev rPairs (h : H) := rLs h eP 2
theorem xL {α : Type} {a b : List α} {i : Nat} (ha : i < a.length) (hb : i < b.length) (ht : a.take i = b.take i) (he : a[i] = b[i]) : a.take (i + 1) = b.take (i + 1) := by
 rw [List.take_succ_eq_append_getElem ha, List.take_succ_eq_append_getElem hb, ht, he]
theorem wD {α : Type} {a b : List α} {i : Nat} (ha : a.length <= i) (hl : a.length = b.length) (ht : a.take i = b.take i) : a = b := by
 rw [List.take_of_length_le ha, List.take_of_length_le (hl ▸ ha)] at ht; exact ht
theorem kP {α : Type} {a b : List α} {i : Nat} (ha : i < a.length) (hb : i < b.length) (he : a[i] ≠ b[i]) : a ≠ b := fun e => he (by subst e; rfl)
theorem qK (n : Int) (h : -9223372036854775808 <= n /\ n <= 9223372036854775807) : IntKind.i64.wrap n = n := qFF n h
theorem zG {c : Prop} [Decidable c] {X Y : Prop} (x : ¬ c -> X) (y : c -> Y) : if ¬ c then X else Y := by
 split
 ·rename_i h; exact x h
 ·rename_i h; exact y (Classical.not_not.1 h)
theorem qBA : ∀ (a b : List Value) (k : Nat) (vs : List Value), k + vs.length <= a.length -> qJ (a ++ b) k vs = qJ a k vs ++ b := by
 intro a b k vs hk
 rw [qBX _ _ _ (by simp; omega), qBX _ _ _ hk, List.take_append_of_le_length (by omega), List.drop_append_of_le_length hk]
 simp
theorem qDY : ∀ (a b : List Value) (k : Nat) (vs : List Value), qJ (a ++ b) (a.length + k) vs = a ++ qJ b k vs := by
 intro a
 induction a with
 | nil => intro b k vs; simp
 | cons x a ih =>
  intro b k vs
  rw [List.cons_append, List.length_cons, Nat.add_right_comm, jZ, ih]; rfl
section
variable {α : Type} {enc : α -> List Value} {sz : Nat}
theorem qLT (he : ∀ a, (enc a).length = sz) {a' : α} {off : Nat} {vs : List Value} (ho : off + vs.length <= sz) : ∀ {l : List α} {i : Nat} (hi : i < l.length), qJ (enc l[i]) off vs = enc a' -> qJ (fl enc l) (i * sz + off) vs = fl enc (l.set i a') := by
 intro l
 induction l with
 | nil => intro i hi; cases hi
 | cons a l ih =>
  intro i hi hx
  cases i with
  | zero =>
   simp only [List.getElem_cons_zero] at hx
   rw [vT, List.set_cons_zero, vT, Nat.zero_mul, Nat.zero_add, qBA _ _ _ _ (by rw [he]; exact ho), hx]
  | succ i =>
   simp only [List.getElem_cons_succ] at hx
   rw [vT, List.set_cons_succ, vT, Nat.succ_mul, <- ih (by simpa using hi) hx]
   have := qDY (enc a) (fl enc l) (i * sz + off) vs
   rw [he] at this
   rw [<- this]; congr 1; omega
theorem qHH {e : TypeId} {v : Value} {l : List α} {g : H} {kd : IntKind} {j : Int} {i : Nat} {f : Value -> Prop} (he : ∀ a, (enc a).length = sz) (o : oLs e enc sz v l g) (hj : j = i) (hi : i < l.length)
  (k : ∀ b cap sp, v = .slice (some ⟨b, 0, none⟩) l.length cap -> l.length <= cap -> (fl enc l ++ sp).length = cap * sz -> g = [(b, blk (fl enc l ++ sp) e)] -> f (.pointer (some ⟨b, i * sz, none⟩))) : vI v (.int kd j) sz f := by
 subst hj
 obtain ⟨hl, ⟨rfl, h0, rfl⟩ | ⟨b, cap, sp, rfl, hc, hs, rfl⟩⟩ := o
 ·omega
 ·rw [qBL]
  refine ⟨⟨by omega, by omega⟩, ?_⟩
  have := k b cap sp rfl hc hs rfl
  rw [Int.toNat_natCast, Nat.zero_add]; exact this
theorem qID {e : TypeId} {l : List α} {sp : List Value} {b i off n p : Nat} {a' : α} {vs : List Value} {h0 : H} {f : H -> Prop} (he : ∀ a, (enc a).length = sz) (hp : p = i * sz + off) (hi : i < l.length) (hn : vs.length = n)
  (hoff : off + n <= sz) (hx : qJ (enc l[i]) off vs = enc a') (k : f ([(b, blk (fl enc (l.set i a') ++ sp) e)] ++ h0)) : hK (if p + n <= (fl enc l ++ sp).length then some ((b, blk (qJ (fl enc l ++ sp) p vs) e) :: h0) else none) f := by
 subst hp
 have hlen : i * sz + off + vs.length <= (fl enc l).length := by
  rw [kJ he, hn]
  have : (i + 1) * sz <= l.length * sz := Nat.mul_le_mul_right _ hi
  rw [Nat.succ_mul] at this
  omega
 rw [if_pos (by rw [List.length_append]; omega), qYE, qBA _ _ _ _ hlen, qLT he (by omega) hi hx]
 exact k
theorem qHG {e : TypeId} {v : Value} {l : List α} {i : Nat} {a' : α} {b cap : Nat} {sp : List Value} (he : ∀ a, (enc a).length = sz) (hv : v = .slice (some ⟨b, 0, none⟩) l.length cap) (hc : l.length <= cap) (hs : (fl enc l ++ sp).length = cap * sz) :
  oLs e enc sz v (l.set i a') [(b, blk (fl enc (l.set i a') ++ sp) e)] := by
 refine ⟨by rw [kJ he], .inr ⟨b, cap, sp, by simpa using hv, by simpa using hc, ?_, rfl⟩⟩
 rw [<- hs, List.length_append, List.length_append, kJ he, kJ he]; simp
end
theorem qNL (n : Int) : IntKind.u8.wrap n = n % 256 := rfl
theorem kF {R : Ending -> H -> Prop} {p : Prop} [Decidable p] {h : H} (k : R (.returned (.bool (decide p))) h) (n : ¬ p) : R (.returned (.bool false)) h := by rw [decide_eq_false n] at k; exact k
theorem kT {R : Ending -> H -> Prop} {p : Prop} [Decidable p] {h : H} (k : R (.returned (.bool (decide p))) h) (n : p) : R (.returned (.bool true)) h := by rw [decide_eq_true n] at k; exact k
theorem qCA {a b : Bool} {X Y : Prop} (x : ¬ a = b -> X) (y : a = b -> Y) : if (a == b) = false then X else Y := by
 by_cases h : a = b
 ·subst h; simp; exact y rfl
 ·have : (a == b) = false := by simpa using h
  rw [if_pos this]; exact x h
theorem subs : (∀ g : H, Sub g g = True) /\ (∀ (m : H), Sub [] m = True) /\ (∀ (a m : H), Sub a (a ++ m) = True) /\
  (∀ (a x m : H), Dj x m -> Sub a m -> Sub a (x ++ m) = True) /\ (∀ (a m : H) (j : Nat) (o : Obj), hget m j = none -> Sub a m -> Sub a ((j, o) :: m) = True) /\
  (∀ (g m : H) (j : Nat) (o : Obj), hget m j = some o -> Sub g m -> Sub ((j, o) :: g) m = True) /\ (∀ (a b m : H), Sub a m -> Sub b m -> Sub (a ++ b) m = True) /\
  (∀ (g h : H) (j : Nat) (o : Obj), Dj g ((j, o) :: h) = (hget g j = none /\ Dj g h)) /\ (∀ (g a b : H), Dj g (a ++ b) = (Dj g a /\ Dj g b)) /\ (∀ g : H, Dj g [] = True) /\ (∀ g : H, Dj [] g = True) /\
  (∀ (g h : H) (j : Nat) (o : Obj), Dj ((j, o) :: g) h = (hget h j = none /\ Dj g h)) /\ (∀ (a b g : H), Dj (a ++ b) g = (Dj a g /\ Dj b g)) /\
  (∀ (g h : H) (i : Nat), (hget (g ++ h) i = none) = (hget g i = none /\ hget h i = none)) /\ (∀ (h : H) (i j : Nat) (o : Obj), (hget ((j, o) :: h) i = none) = (i ≠ j /\ hget h i = none)) /\
  (∀ (h : H) (j : Nat) (o : Obj), hget ((j, o) :: h) j = some o) /\ (∀ (h : H) (i j : Nat) (o : Obj), i ≠ j -> hget ((j, o) :: h) i = hget h i) /\ (∀ (g h : H) (i : Nat), hget g i = none -> hget (g ++ h) i = hget h i) /\ (∀ p : Prop, (True /\ p) = p) /\ (∀ p : Prop, (p /\ True) = p) /\ (∀ a b : Nat, (a ≠ b) = ¬ (a = b)) /\ ((¬ False) = True) := by
 refine ⟨fun g => eq_true (.refl g), fun m => eq_true (.nil m), fun a m => eq_true (.left a m), fun a x m d s => eq_true (.app d s), fun a m j o n s => eq_true (.cons n s), fun g m j o e s => eq_true (.cons_of e s), fun a b m s t => eq_true (.both s t),
  fun g h j o => propext Dj_cons, fun g a b => propext Dj_app, fun g => eq_true (Dj.nil g).symm, fun g => eq_true (Dj.nil g), fun g h j o => propext ?_, fun a b g => propext zJW, fun g h i => ?_, fun h i j o => ?_, fun h j o => qG h j o, fun h i j o n => xE h j o n, fun g h i n => ?_, fun _ => by simp, fun _ => by simp, fun _ _ => rfl, by simp⟩
 ·constructor
  ·intro d; have := Dj_cons.1 d.symm; exact ⟨this.1, this.2.symm⟩
  ·intro ⟨a, b⟩; exact (Dj_cons.2 ⟨a, b.symm⟩).symm
 ·rw [xW]; cases hget g i <;> simp
 ·rw [zM]; split <;> simp_all
 ·rw [xW, n]; rfl
theorem apps : (∀ (g h : H) (b k : Nat), hget g b = none -> hcel (g ++ h) b k = hcel h b k) /\ (∀ (g h : H) (b k n : Nat), hget g b = none -> qV (g ++ h) b k n = qV h b k n) /\
  (∀ (g h : H) (b k : Nat) (vs : List Value), hget g b = none -> zQ (g ++ h) b k vs = (zQ h b k vs).map (g ++ ·)) := by
 refine ⟨fun g h b k n => ?_, fun g h b k n e => ?_, fun g h b k vs e => ?_⟩
 ·simp only [hcel, xW, n, Option.none_or]
 ·simp only [qV, xW, e, Option.none_or]
 ·simp only [zQ, xW, e, Option.none_or]
  cases hget h b with
  | none => rfl
  | some o =>
   simp only [Option.bind_some]
   cases qGE o k vs with
   | none => rfl
   | some x =>
    simp only [Option.map_some, Option.some.injEq]
    induction g with
    | nil => rfl
    | cons p t ih =>
     rw [zM] at e
     split at e
     ·cases e
     ·rename_i c
      rw [List.cons_append, qCC, if_neg c, ih e]; rfl
theorem qHD {α : Type} {enc : α -> List Value} {z : List Value} {a : α} (e : enc a = z) (n : Nat) : zrep z n = fl enc (List.replicate n a) := by
 simp [zrep, fl, e]
theorem zI (n : Nat) : zrep [.int .i64 0] n = fl eI (List.replicate n 0) := qHD (enc := eI) (a := 0) rfl n
theorem xU {α : Type} {enc : α -> List Value} {sz : Nat} {e : TypeId} (he : ∀ a, (enc a).length = sz) {j : Nat} {l : List α} : oLs e enc sz (.slice (some ⟨j, 0, none⟩) l.length l.length) l [(j, blk (fl enc l) e)] := ows.blk (kJ he l)
theorem xZ {α : Type} {l m : List α} {i : Nat} (h : i < l.length) (hm : m.length = l.length) : (l.take i ++ m.drop i).set i l[i] = l.take (i + 1) ++ m.drop (i + 1) := by
 rw [List.set_append_right _ _ (by rw [List.length_take]; omega), List.length_take, Nat.min_eq_left (by omega), Nat.sub_self, List.drop_eq_getElem_cons (by omega : i < m.length), List.set_cons_zero, List.take_succ_eq_append_getElem h, List.append_assoc]
 rfl
end Go.Tk
end

section
namespace Go.Tk
open Go
inductive All2 {α β : Type} (r : α -> β -> Prop) : List α -> List β -> Prop
 | nil : All2 r [] []
 | cons {a : α} {b : β} {l : List α} {m : List β} (h : r a b) (t : All2 r l m) : All2 r (a :: l) (b :: m)
theorem All2.len {α β : Type} {r : α -> β -> Prop} {l : List α} {m : List β} (h : All2 r l m) : l.length = m.length := by
 induction h with
 | nil => rfl
 | cons _ _ ih => simp [ih]
theorem All2.at {α β : Type} {r : α -> β -> Prop} {l : List α} {m : List β} (h : All2 r l m) : ∀ {i : Nat} (h1 : i < l.length) (h2 : i < m.length), r l[i] m[i] := by
 induction h with
 | nil => intro i h1; cases h1
 | cons x _ ih =>
  intro i h1 h2
  cases i with
  | zero => exact x
  | succ i => exact ih _ _
theorem All2.imp {α β : Type} {r s : α -> β -> Prop} {l : List α} {m : List β} (h : All2 r l m) (f : ∀ a b, r a b -> s a b) : All2 s l m := by
 induction h with
 | nil => exact .nil
 | cons x _ ih => exact .cons (f _ _ x) ih
def rRs {α : Type} (h : H) (rel : List Value -> α -> Prop) (sz : Nat) (v : Value) (l : List α) : Prop :=
 ∃ css : List (List Value), rdS h sz v l.length css.flatten /\ All2 (fun c a => c.length = sz /\ rel c a) css l
theorem rRs.sub {α : Type} {g h : H} (s : Sub g h) {rel rel' : List Value -> α -> Prop} (hr : ∀ c a, rel c a -> rel' c a) {sz : Nat} {v : Value} {l : List α} (r : rRs g rel sz v l) : rRs h rel' sz v l := by
 obtain ⟨css, r, f⟩ := r
 exact ⟨css, r.sub s, f.imp fun c a x => ⟨x.1, hr _ _ x.2⟩⟩
theorem rdS.one {h : H} {sz : Nat} {v : Value} {n : Nat} {cs : List Value} (r : rdS h sz v n cs) : vone v = true := by
 obtain ⟨_, ⟨rfl, _⟩ | ⟨b, k, c, rfl, _⟩⟩ := r <;> rfl
theorem rLs.one {α : Type} {h : H} {enc : α -> List Value} {sz : Nat} {v : Value} {l : List α} (r : rLs h enc sz v l) : vone v = true := rdS.one r
theorem rRs.one {α : Type} {h : H} {rel : List Value -> α -> Prop} {sz : Nat} {v : Value} {l : List α} (r : rRs h rel sz v l) : vone v = true := by
 obtain ⟨_, r, _⟩ := r; exact r.one
theorem qOC {P : Program} {t ty : TypeId} {x : Operand} {ρ : Operand -> Value} {h : H} {K : Value -> H -> Prop} {X : List PanicEntry -> H -> Prop} {n : Int} (hx : ρ x = .int .i64 n) (k : K (.int .i64 (IntKind.i64.wrap (0 - n))) h) :
  rawK P (.unOp .neg t x) ty ρ h K X := by
 unfold rawK
 simp only [execOp, mkO, hx, Op.unary, Op.intArith]
 exact k
theorem xA {a b : Int} {X Y : Prop} (x : a <= b -> X) (y : b < a -> Y) : if a <= b then X else Y := by
 split
 ·rename_i h; exact x h
 ·rename_i h; exact y (by omega)
theorem qF {a b : Int} {X Y : Prop} (x : a < b -> X) (y : b <= a -> Y) : if a < b then X else Y := by
 split
 ·rename_i h; exact x h
 ·rename_i h; exact y (by omega)
theorem zV {c : Prop} [Decidable c] {X Y : Prop} (x : c -> X) (y : ¬ c -> Y) : if c then X else Y := by
 split
 ·rename_i h; exact x h
 ·rename_i h; exact y h
theorem kH {α : Type} {enc : α -> List Value} {sz : Nat} (he : ∀ a, (enc a).length = sz) {j : Nat} {e : TypeId} {h : H} (l : List α) : rLs ((j, blk (fl enc l) e) :: h) enc sz (.slice (some ⟨j, 0, none⟩) l.length l.length) l :=
 (xU (e := e) he (j := j) (l := l)).rd.sub (Sub.cons_of (qG h j _) (Sub.nil _))
theorem qFJ {j : Nat} {e : TypeId} {h : H} (l : List Int) : rInts ((j, blk (fl eI l) e) :: h) (.slice (some ⟨j, 0, none⟩) l.length l.length) l := kH yM l
theorem zGC {j : Nat} {e : TypeId} {h : H} (l : List UInt8) : rBytes ((j, blk (fl eB l) e) :: h) (.slice (some ⟨j, 0, none⟩) l.length l.length) l := kH eB_len l
def wP (P : Program) (e : TypeId) (sz bytes : Nat) : Prop := ∃ i z, P.info? e = some i /\ i.zero = some z /\ i.size = sz /\ i.bytes = bytes /\ (zF z).length = sz
def infoB (P : Program) (e : TypeId) (sz bytes : Nat) : Bool :=
 match P.info? e with
 | some i => (match i.zero with
  | some z => i.size == sz && i.bytes == bytes && (zF z).length == sz
  | none => false)
 | none => false
theorem vY {P : Program} {e : TypeId} {sz bytes : Nat} (h : infoB P e sz bytes = true) : wP P e sz bytes := by
 unfold infoB at h
 split at h
 ·rename_i i hi
  split at h
  ·rename_i z hz
   simp only [Bool.and_eq_true, beq_iff_eq] at h
   exact ⟨i, z, hi, hz, h.1.1, h.1.2, h.2⟩
  ·cases h
 ·cases h
theorem uT {α : Type} {enc : α -> List Value} {sz bytes : Nat} (he : ∀ a, (enc a).length = sz) (ho : ∀ l, (fl enc l).all vone = true) {P : Program} {t ty e : TypeId} {v y : Value} {M g h : H} {l m : List α} {K : Value -> H -> Prop} {X : List PanicEntry -> H -> Prop}
  (h1 : P.underlying t = some (.slice e)) (hi : wP P e sz bytes) (sb : Sub (g ++ h) M) (dj : Dj g h) (o : oLs e enc sz v l g) (r : rLs M enc sz y m) (hb : (l.length + m.length) * bytes <= 140737488355328) (hn : l.length + m.length <= 140737488355328)
  (k : ∀ v' g', oLs e enc sz v' (l ++ m) g' -> Dj g' h -> K v' (g' ++ h)) : appK P t t ty v y M K X := by
 obtain ⟨i, z, hi, hz, rfl, rfl, hl⟩ := hi
 refine qHN h1 h1 rfl hi hz hl sb dj o (kX r) (ho _) hb hn fun v' g' o' d' => k v' g' ?_ d'
 unfold oLs
 rw [List.length_append, zHV]; exact o'
theorem qYG (m : List UInt8) : (m.map fun b => Value.int .u8 b.toNat) = fl eB m := by
 induction m with
 | nil => rfl
 | cons a l ih => rw [vT, List.map_cons, ih]; rfl
theorem zJL {bytes : Nat} {P : Program} {t t2 ty e : TypeId} {v : Value} {M g h : H} {l m : List UInt8} {K : Value -> H -> Prop} {X : List PanicEntry -> H -> Prop}
  (h1 : P.underlying t = some (.slice e)) (h2 : P.underlying t2 = some .string) (hi : wP P e 1 bytes) (sb : Sub (g ++ h) M) (dj : Dj g h) (o : oLs e eB 1 v l g) (hb : (l.length + m.length) * bytes <= 140737488355328) (hn : l.length + m.length <= 140737488355328)
  (k : ∀ v' g', oLs e eB 1 v' (l ++ m) g' -> Dj g' h -> K v' (g' ++ h)) : appK P t t2 ty v (.string ⟨m.toArray⟩) M K X := by
 obtain ⟨i, z, hi, hz, hs, rfl, hl⟩ := hi
 have src := Src_str (P := P) (M := M) m
 rw [qYG] at src
 rw [<- hs] at src o
 refine qHN h1 h2 rfl hi hz (by rw [hl, hs]) sb dj o src (eB_one m) hb hn fun v' g' o' d' => k v' g' ?_ d'
 rw [<- hs]
 unfold oLs
 rw [List.length_append, zHV]; exact o'
theorem u8_of (k : Nat) : IntKind.u8.wrap (k : Int) = ((UInt8.ofNat k).toNat : Int) := by
 rw [qNL, UInt8.toNat_ofNat']; omega
theorem qUD (l : List UInt8) : wQ (fl eB l) = some l := by
 induction l with
 | nil => rfl
 | cons a l ih =>
  rw [vT]
  show (wQ (fl eB l)).map (UInt8.ofNat ((a.toNat : Int)).toNat :: ·) = _
  rw [ih]
  simp
theorem qYR {h : H} {v : Value} {l : List UInt8} (r : rBytes h v l) {f : Value -> Prop} : kV v h f = f (.string ⟨l.toArray⟩) := by
 obtain ⟨hl, ⟨rfl, h0⟩ | ⟨b, k, cap, rfl, hc, e⟩⟩ := r
 ·have : l = [] := List.eq_nil_of_length_eq_zero h0
  subst this; rfl
 ·rw [qSZ]
  rw [Nat.mul_one] at e
  rw [e]
  simp only [Option.bind_some, qUD, Option.map_some, qXU]
theorem HCalls.of_calls {P : Program} {f : FuncId} {args : Array Value} {h : H} {R : Ending -> H -> Prop} (k : ∀ w, Sat h w -> Calls P f args w (fun e w' => ∃ h', R e h' /\ Pst h w h' w')) : HCalls P f args h R := k
def rIn {α : Type} (h : H) (enc : α -> List Value) (sz : Nat) (v : Value) (l : List α) : Prop := rLs h enc sz v l ∨ (l = [] /\ ∃ a c, v = .slice a 0 c)
theorem rIn.sub {α : Type} {g h : H} (s : Sub g h) {enc : α -> List Value} {sz : Nat} {v : Value} {l : List α} (r : rIn g enc sz v l) : rIn h enc sz v l := r.imp (·.sub s) id
theorem rIn.len {α : Type} {h : H} {enc : α -> List Value} {sz : Nat} {v : Value} {l : List α} (r : rIn h enc sz v l) {f : Value -> Prop} : jQ v f = f (.int .i64 l.length) := by
 rcases r with r | ⟨rfl, a, c, rfl⟩
 ·exact r.len
 ·rfl
theorem qOT {α : Type} {h : H} {enc : α -> List Value} {sz : Nat} {v : Value} {l : List α} {kd : IntKind} {j : Int} {i : Nat} {f : Value -> Prop} (he : ∀ a, (enc a).length = sz) (r : rIn h enc sz v l) (hj : j = i) (hi : i < l.length)
  (k : ∀ b o, qV h b o sz = some (enc l[i]) -> f (.pointer (some ⟨b, o, none⟩))) : vI v (.int kd j) sz f := by
 rcases r with r | ⟨rfl, a, c, rfl⟩
 ·exact zS he r hj hi k
 ·cases hi
theorem Pst.below {h g : H} {w w' : World} (s : Sat h w) (p : Pst h w g w') (hs : Sub h g) : RowKit.Below w.heap.size w w' := by
 refine ⟨p.os, p.tape, p.output, p.size, fun k hk => ?_⟩
 cases e : hget h k with
 | none => exact p.keep k hk e
 | some o => rw [s k o e, p.sat k o (hs k o e)]
theorem zFS (x : Value) (n : Nat) (u : Int) {f : Value -> Prop} (h : slcK x n (some (some 0)) (some (some u)) f) : slcK x n none (some (some u)) f := by
 cases x <;> exact h
def eT (t : List UInt8) : List Value := [.string ⟨t.toArray⟩]
theorem vK (t : List UInt8) : (eT t).length = 1 := rfl
theorem zIR (l : List (List UInt8)) : (fl eT l).all vone = true := by induction l <;> simp_all [fl, eT, vone]
theorem vF (a b : List UInt8) (h : a.length + b.length <= 9223372036854775807) : xP .add ⟨a.toArray⟩ ⟨b.toArray⟩ = some (.string ⟨(a ++ b).toArray⟩) := by
 simp only [xP, qQD, qUI]
 rw [if_pos h]
def qLM (P : Program) (mem : Nat -> H -> H -> Prop) (Q : List (H -> Value -> Prop)) (rest : H) (W : List Nat) (ρ : (Nat -> Value) -> Operand -> Value) (K : (Nat -> Value) -> Option Nat -> Value -> H -> Prop) : Nat -> List (N × List Nat) -> Prop
 | _, [] => False
 | i, x :: r => match r with
  | [] => stZ P mem rest ρ (fun g f => dq Q W g f x.2) (fun f v h => K f x.1.d v h) x.1.i
  | _ :: _ => stG P mem (Q.getD i (fun _ _ => True)) rest ρ (fun g f => dq Q W g f x.2) x.1.g x.1.i /\ qLM P mem Q rest W ρ K (i + 1) r
theorem anysR : (∀ (P : Program) mem Q rest W ρ K i x, qLM P mem Q rest W ρ K i [x] = stZ P mem rest ρ (fun g f => dq Q W g f x.2) (fun f v h => K f x.1.d v h) x.1.i) /\
  (∀ (P : Program) mem Q rest W ρ K i x y r, qLM P mem Q rest W ρ K i (x :: y :: r) = (stG P mem (Q.getD i (fun _ _ => True)) rest ρ (fun g f => dq Q W g f x.2) x.1.g x.1.i /\ qLM P mem Q rest W ρ K (i + 1) (y :: r))) /\ (∀ P mem q rest ρ D i, stG P mem q rest ρ D none i = stA P mem q rest ρ D i) /\
  (∀ Q W g f, dq Q W g f [] = True) /\ (∀ Q W g f d r, dq Q W g f (d :: r) = ((Q.getD d (fun _ _ => True)) g (f (W.getD d 0)) /\ dq Q W g f r)) :=
 ⟨fun _ _ _ _ _ _ _ _ _ => rfl, fun _ _ _ _ _ _ _ _ _ _ _ => rfl, fun _ _ _ _ _ _ _ => rfl, fun _ _ _ _ => rfl, fun _ _ _ _ _ _ => rfl⟩
theorem qTZ {P : Program} {mem : Nat -> H -> H -> Prop} {Q : List (H -> Value -> Prop)} {rest : H} {W : List Nat} {env : List Value} {K : List Value -> H -> Prop} : ∀ (l : List (N × List Nat)) (i : Nat),
  qLM P mem Q rest W (fun f => evl (hav env W f)) (fun f d v h => K (putE d v (hav env W f)) h) i l -> vany P mem Q rest W env K i l := by
 intro l
 induction l with
 | nil => intro i h; exact h
 | cons x r ih =>
  intro i h
  cases r with
  | nil => exact h
  | cons y r => exact ⟨fun m f h' g a b c => by have := h.1 m f h' g a b c; unfold vgo; rw [qZC] at this; exact this, ih _ h.2⟩
theorem qXK {P : Program} {l : List (N × List Nat)} {env : List Value} {h : H} {K : KK} (mem : Nat -> H -> H -> Prop) (Q : List (H -> Value -> Prop)) (rest : H) (hm : ∀ q ∈ Q, ∀ g g' v, Sub g g' -> q g v -> q g' v) (h0 : mem l.length h rest)
  (hd : (nds (l.map (·.1))).all (fun d => decide (d < env.length)) = true)
  (hv : ∀ ρ : (Nat -> Value) -> Operand -> Value, (∀ f t, (nds (l.map (·.1))).contains t = true -> ρ f (.tmp t) = f t) -> (∀ f t, (nds (l.map (·.1))).contains t = false -> ρ f (.tmp t) = env.getD t undef) -> (∀ f v, ρ f (.const v) = v) ->
   qLM P mem Q rest (nds (l.map (·.1))) ρ (fun f d v h => K .normal (putE d v (hav env (nds (l.map (·.1))) f)) h) 0 l) : vc P (.any l) env h K := by
 refine vc_any mem Q rest hm h0 hd (qTZ _ _ (hv _ (fun f t ht => ?_) (fun f t ht => ?_) (fun _ _ => rfl)))
 ·have hin : t ∈ nds (l.map (·.1)) := by simpa using ht
  have hl : t < env.length := by simpa using List.all_eq_true.1 hd t hin
  show (hav env _ f).getD t undef = f t
  rw [List.getD_eq_getElem?_getD, qHL, if_pos ⟨hin, hl⟩]; rfl
 ·have hin : t ∉ nds (l.map (·.1)) := by simpa using ht
  show (hav env _ f).getD t undef = env.getD t undef
  rw [List.getD_eq_getElem?_getD, qHL, if_neg (fun x => hin x.1), <- List.getD_eq_getElem?_getD]
end Go.Tk
end

section
namespace Go.Tk
open Go
section
variable {P : Program} {E : Value -> H -> Prop} {h : H}
theorem qXC {Q : Program -> H -> Prop} : SH P program Q E h = Q P h := rfl
theorem qXE {α : Type} {c : Prop} [Decidable c] {x y : Sem α} {Q : α -> H -> Prop} : SH P (if c then x else y) Q E h = if c then SH P x Q E h else SH P y Q E h := by split <;> rfl
theorem zDI {d : Nat} {t : TypeId} {fs : Array Field} {xs ys : Array Value} {Q : Bool -> H -> Prop} (hd : P.underlying t = some (.struct fs)) (hp : P.stoodInHeld t = false) :
  SH P (Op.equalIn (d + 1) t (.agg xs) (.agg ys)) Q E h = SH P (Op.eqFields d xs ys fs.toList) Q E h := by
 simp only [Op.equalIn, qH, qQ hd, qXC, hp, Bool.false_eq_true, if_false]
 rw [<- Array.forIn_toList]
 generalize fs.toList = l
 clear hd
 induction l generalizing h with
 | nil => simp only [List.forIn_nil, qU, Op.eqFields]
 | cons f l ih =>
  simp only [List.forIn_cons, Op.eqFields, qH, qXE]
  split
  ·congr 1; funext a h1
   congr 1; funext b h2
   congr 1; funext r h3
   cases r
   ·simp only [Bool.not_false, if_true, qU]
   ·simp only [Bool.not_true, Bool.false_eq_true, if_false, qU]
    exact ih
  ·simp only [qU]
   exact ih
theorem qPK {t : TypeId} {d : TypeDesc} {xs : Array Value} {off : Nat} {v : Value} {Q : Value -> H -> Prop} (hd : P.underlying t = some d) (ha : aggD d = false) (hv : xs[off]? = some v) : SH P (part t xs off) Q E h = Q v h := by
 unfold part isAgg
 simp only [qH, qQ hd]
 cases d <;> simp only [aggD, Bool.true_eq_false] at ha <;> simp only [qU, Bool.false_eq_true, if_false, hv]
end
end Go.Tk
end

section
namespace Go.Tk
open Go
section
variable {P : Program} {E : Value -> H -> Prop} {h : H}
theorem SH_eqIB {d : Nat} {t : TypeId} {k k' : IntKind} {a b : Int} {Q : Bool -> H -> Prop} (hd : P.underlying t = some (.int k')) : SH P (Op.equalIn (d + 1) t (.int k a) (.int k b)) Q E h = Q (a == b) h := by
 simp only [Op.equalIn, qH, qQ hd, if_true, qU]
end
end Go.Tk
end
