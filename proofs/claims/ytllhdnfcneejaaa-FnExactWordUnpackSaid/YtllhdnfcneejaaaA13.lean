/- The operations' words as one. -/
import Derived.Test.YtllhdnfcneejaaaA12
set_option linter.unusedVariables false
set_option linter.unusedSimpArgs false
namespace Go.Tk
open Go
theorem acts :
    (∀ (P : Program) (ρ : Operand → Value) (h : H) (K : Value → H → Prop) (X : List PanicEntry → H → Prop) (x : Operand), vop P ρ h K X (.mov x) = K (ρ x) h) ∧
    (∀ (P : Program) (ρ : Operand → Value) (h : H) (K : Value → H → Prop) (X : List PanicEntry → H → Prop) (c a b : Operand), vop P ρ h K X (.pick c a b) = pickK (ρ c) (ρ a) (ρ b) (ap2 K h)) ∧
    (∀ (P : Program) (ρ : Operand → Value) (h : H) (K : Value → H → Prop) (X : List PanicEntry → H → Prop) (x : Operand) (n : Nat) (agg : Bool), vop P ρ h K X (.load x n agg) = loadK (ρ x) n agg h (ap2 K h)) ∧
    (∀ (P : Program) (ρ : Operand → Value) (h : H) (K : Value → H → Prop) (X : List PanicEntry → H → Prop) (x y : Operand) (n : Nat), vop P ρ h K X (.store x y n) = storeK (ρ x) (ρ y) n h (undC K)) ∧
    (∀ (P : Program) (ρ : Operand → Value) (h : H) (K : Value → H → Prop) (X : List PanicEntry → H → Prop) (e : TypeId) (z : List Value), vop P ρ h K X (.alloc e z) = newB h (blk z e) (ptrC K)) ∧
    (∀ (P : Program) (ρ : Operand → Value) (h : H) (K : Value → H → Prop) (X : List PanicEntry → H → Prop) (e : TypeId) (x : Operand), vop P ρ h K X (.box e x) = newB h (blk (vcells (ρ x)) e) (ptrC K)) ∧
    (∀ (P : Program) (ρ : Operand → Value) (h : H) (K : Value → H → Prop) (X : List PanicEntry → H → Prop) (x : Operand) (off : Nat), vop P ρ h K X (.fld x off) = fldK (ρ x) off (ap2 K h)) ∧
    (∀ (P : Program) (ρ : Operand → Value) (h : H) (K : Value → H → Prop) (X : List PanicEntry → H → Prop) (x : Operand) (off n : Nat) (agg : Bool), vop P ρ h K X (.get x off n agg) = getK (ρ x) off n agg (ap2 K h)) ∧
    (∀ (P : Program) (ρ : Operand → Value) (h : H) (K : Value → H → Prop) (X : List PanicEntry → H → Prop) (x i : Operand) (n : Nat), vop P ρ h K X (.idxS x i n) = idxSK (ρ x) (ρ i) n (ap2 K h)) ∧
    (∀ (P : Program) (ρ : Operand → Value) (h : H) (K : Value → H → Prop) (X : List PanicEntry → H → Prop) (x i : Operand) (len n : Nat), vop P ρ h K X (.idxA x i len n) = idxAK (ρ x) (ρ i) len n (ap2 K h)) ∧
    (∀ (P : Program) (ρ : Operand → Value) (h : H) (K : Value → H → Prop) (X : List PanicEntry → H → Prop) (x i : Operand), vop P ρ h K X (.idxT x i) = idxTK (ρ x) (ρ i) (ap2 K h)) ∧
    (∀ (P : Program) (ρ : Operand → Value) (h : H) (K : Value → H → Prop) (X : List PanicEntry → H → Prop) (x : Operand), vop P ρ h K X (.nilc x) = nilcK (ρ x) (ap2 K h)) ∧
    (∀ (P : Program) (ρ : Operand → Value) (h : H) (K : Value → H → Prop) (X : List PanicEntry → H → Prop) (op : BinOp) (t : TypeId) (x y : Operand), vop P ρ h K X (.bin op t x y) = binK op (ρ x) (ρ y) (ap2 K h) (SH P (do eqGuard op t x y (ρ x) (ρ y); binOp op t (ρ x) (ρ y)) K (pK X) h)) ∧
    (∀ (P : Program) (ρ : Operand → Value) (h : H) (K : Value → H → Prop) (X : List PanicEntry → H → Prop) (neg : Bool) (x y : Operand), vop P ρ h K X (.beq neg x y) = beqK neg (ρ x) (ρ y) (ap2 K h)) ∧
    (∀ (P : Program) (ρ : Operand → Value) (h : H) (K : Value → H → Prop) (X : List PanicEntry → H → Prop) (neg : Bool) (x y : Operand), vop P ρ h K X (.ieq neg x y) = ieqK neg ((x matches .const _) || (y matches .const _)) (ρ x) (ρ y) (ap2 K h)) ∧
    (∀ (P : Program) (ρ : Operand → Value) (h : H) (K : Value → H → Prop) (X : List PanicEntry → H → Prop) (neg : Bool) (x y : Operand), vop P ρ h K X (.leq neg x y) = leqK neg (ρ x) (ρ y) (ap2 K h)) ∧
    (∀ (P : Program) (ρ : Operand → Value) (h : H) (K : Value → H → Prop) (X : List PanicEntry → H → Prop) (x : Operand), vop P ρ h K X (.not x) = notK (ρ x) (ap2 K h)) ∧
    (∀ (P : Program) (ρ : Operand → Value) (h : H) (K : Value → H → Prop) (X : List PanicEntry → H → Prop) (k : IntKind) (x : Operand), vop P ρ h K X (.conv k x) = convK k (ρ x) (ap2 K h)) ∧
    (∀ (P : Program) (ρ : Operand → Value) (h : H) (K : Value → H → Prop) (X : List PanicEntry → H → Prop) (t : TypeId) (x : Operand), vop P ρ h K X (.iface t x) = K (.iface t (ρ x)) h) ∧
    (∀ (P : Program) (ρ : Operand → Value) (h : H) (K : Value → H → Prop) (X : List PanicEntry → H → Prop) (f : Fn) (fi ca : List Operand), vop P ρ h K X (.fn f fi ca) = K (.func f (fi.map ρ).toArray (ca.map ρ).toArray) h) ∧
    (∀ (P : Program) (ρ : Operand → Value) (h : H) (K : Value → H → Prop) (X : List PanicEntry → H → Prop) (z : List Value) (ps : List (Nat × Nat × Operand)), vop P ρ h K X (.build z ps) = lK (fillL z (ps.map fun p => (p.1, p.2.1, vcells (ρ p.2.2)))) (aggC (ap2 K h))) ∧
    (∀ (P : Program) (ρ : Operand → Value) (h : H) (K : Value → H → Prop) (X : List PanicEntry → H → Prop) (e : TypeId) (z : List Value) (len : Nat) (ps : List (Nat × Nat × Operand)), vop P ρ h K X (.bslice e z len ps) = lK (fillL (zrep z len) (ps.map fun p => (p.1, p.2.1, vcells (ρ p.2.2)))) (bslC e len h K)) ∧
    (∀ (P : Program) (ρ : Operand → Value) (h : H) (K : Value → H → Prop) (X : List PanicEntry → H → Prop) (e : TypeId) (z : List Value) (bytes : Nat) (l c : Operand), vop P ρ h K X (.mslice e z bytes l c) = msliceK e z bytes (ρ l) (ρ c) h K) ∧
    (∀ (P : Program) (ρ : Operand → Value) (h : H) (K : Value → H → Prop) (X : List PanicEntry → H → Prop) (x : Operand) (n : Nat) (lo hi : Option Operand), vop P ρ h K X (.slc x n lo hi) = slcK (ρ x) n (lo.map fun x => loB (ρ x)) (hi.map fun x => loB (ρ x)) (ap2 K h)) ∧
    (∀ (P : Program) (ρ : Operand → Value) (h : H) (K : Value → H → Prop) (X : List PanicEntry → H → Prop) (x : Operand) (lo hi : Option Operand), vop P ρ h K X (.slT x lo hi) = slTK (ρ x) (lo.map fun x => loB (ρ x)) (hi.map fun x => loB (ρ x)) (ap2 K h)) ∧
    (∀ (P : Program) (ρ : Operand → Value) (h : H) (K : Value → H → Prop) (X : List PanicEntry → H → Prop) (x : Operand), vop P ρ h K X (.lenT x) = lenTK (ρ x) (ap2 K h)) ∧
    (∀ (P : Program) (ρ : Operand → Value) (h : H) (K : Value → H → Prop) (X : List PanicEntry → H → Prop) (x : Operand), vop P ρ h K X (.lenS x) = lenSK (ρ x) (ap2 K h)) ∧
    (∀ (P : Program) (ρ : Operand → Value) (h : H) (K : Value → H → Prop) (X : List PanicEntry → H → Prop) (x : Operand), vop P ρ h K X (.btos x) = btosK (ρ x) h (ap2 K h)) ∧
    (∀ (P : Program) (ρ : Operand → Value) (h : H) (K : Value → H → Prop) (X : List PanicEntry → H → Prop) (x : Operand) (i : Nat), vop P ρ h K X (.ext x i) = extK (ρ x) i (ap2 K h)) ∧
    (∀ (P : Program) (ρ : Operand → Value) (h : H) (K : Value → H → Prop) (X : List PanicEntry → H → Prop) (x : Operand) (t : TypeId) (z : Value) (ok : Bool), vop P ρ h K X (.asrt x t z ok) = asrtK (ρ x) t z ok (ap2 K h)) ∧
    (∀ (P : Program) (ρ : Operand → Value) (h : H) (K : Value → H → Prop) (X : List PanicEntry → H → Prop) (f : FuncId) (args : List Operand), vop P ρ h K X (.call f args) = HCalls P f (args.map ρ).toArray h (retK K X)) ∧
    (∀ (P : Program) (ρ : Operand → Value) (h : H) (K : Value → H → Prop) (X : List PanicEntry → H → Prop) (f : Operand) (args : List Operand), vop P ρ h K X (.callv f args) = callvK P (ρ f) (args.map ρ) h (retK K X)) ∧
    (∀ (P : Program) (ρ : Operand → Value) (h : H) (K : Value → H → Prop) (X : List PanicEntry → H → Prop) (r : Operand) (name : String) (args : List Operand), vop P ρ h K X (.inv r name args) = invK P (ρ r) name (args.map ρ) h (retK K X)) ∧
    (∀ (P : Program) (ρ : Operand → Value) (h : H) (K : Value → H → Prop) (X : List PanicEntry → H → Prop) (t1 t2 ty : TypeId) (x y : Operand), vop P ρ h K X (.app t1 t2 ty x y) = appK P t1 t2 ty (ρ x) (ρ y) h K X) ∧
    (∀ (P : Program) (ρ : Operand → Value) (h : H) (K : Value → H → Prop) (X : List PanicEntry → H → Prop) (o : Op) (ty : TypeId), vop P ρ h K X (.raw o ty) = rawK P o ty ρ h K X) ∧
    (∀ (ρ : Operand → Value) (h : H) (K : Value → Prop) (x : Operand), vfl ρ h K (.mov x) = K (ρ x)) ∧
    (∀ (ρ : Operand → Value) (h : H) (K : Value → Prop) (c a b : Operand), vfl ρ h K (.pick c a b) = pickK (ρ c) (ρ a) (ρ b) K) ∧
    (∀ (ρ : Operand → Value) (h : H) (K : Value → Prop) (x : Operand) (n : Nat) (agg : Bool), vfl ρ h K (.load x n agg) = loadK (ρ x) n agg h K) ∧
    (∀ (ρ : Operand → Value) (h : H) (K : Value → Prop) (x : Operand) (off : Nat), vfl ρ h K (.fld x off) = fldK (ρ x) off K) ∧
    (∀ (ρ : Operand → Value) (h : H) (K : Value → Prop) (x : Operand) (off n : Nat) (agg : Bool), vfl ρ h K (.get x off n agg) = getK (ρ x) off n agg K) ∧
    (∀ (ρ : Operand → Value) (h : H) (K : Value → Prop) (x i : Operand) (n : Nat), vfl ρ h K (.idxS x i n) = idxSK (ρ x) (ρ i) n K) ∧
    (∀ (ρ : Operand → Value) (h : H) (K : Value → Prop) (x i : Operand) (len n : Nat), vfl ρ h K (.idxA x i len n) = idxAK (ρ x) (ρ i) len n K) ∧
    (∀ (ρ : Operand → Value) (h : H) (K : Value → Prop) (x i : Operand), vfl ρ h K (.idxT x i) = idxTK (ρ x) (ρ i) K) ∧
    (∀ (ρ : Operand → Value) (h : H) (K : Value → Prop) (x : Operand), vfl ρ h K (.nilc x) = nilcK (ρ x) K) ∧
    (∀ (ρ : Operand → Value) (h : H) (K : Value → Prop) (op : BinOp) (t : TypeId) (x y : Operand), vfl ρ h K (.bin op t x y) = binK op (ρ x) (ρ y) K False) ∧
    (∀ (ρ : Operand → Value) (h : H) (K : Value → Prop) (neg : Bool) (x y : Operand), vfl ρ h K (.beq neg x y) = beqK neg (ρ x) (ρ y) K) ∧
    (∀ (ρ : Operand → Value) (h : H) (K : Value → Prop) (neg : Bool) (x y : Operand), vfl ρ h K (.ieq neg x y) = ieqK neg ((x matches .const _) || (y matches .const _)) (ρ x) (ρ y) K) ∧
    (∀ (ρ : Operand → Value) (h : H) (K : Value → Prop) (neg : Bool) (x y : Operand), vfl ρ h K (.leq neg x y) = leqK neg (ρ x) (ρ y) K) ∧
    (∀ (ρ : Operand → Value) (h : H) (K : Value → Prop) (x : Operand), vfl ρ h K (.not x) = notK (ρ x) K) ∧
    (∀ (ρ : Operand → Value) (h : H) (K : Value → Prop) (k : IntKind) (x : Operand), vfl ρ h K (.conv k x) = convK k (ρ x) K) ∧
    (∀ (ρ : Operand → Value) (h : H) (K : Value → Prop) (t : TypeId) (x : Operand), vfl ρ h K (.iface t x) = K (.iface t (ρ x))) ∧
    (∀ (ρ : Operand → Value) (h : H) (K : Value → Prop) (f : Fn) (fi ca : List Operand), vfl ρ h K (.fn f fi ca) = K (.func f (fi.map ρ).toArray (ca.map ρ).toArray)) ∧
    (∀ (ρ : Operand → Value) (h : H) (K : Value → Prop) (z : List Value) (ps : List (Nat × Nat × Operand)), vfl ρ h K (.build z ps) = lK (fillL z (ps.map fun p => (p.1, p.2.1, vcells (ρ p.2.2)))) (aggC K)) ∧
    (∀ (ρ : Operand → Value) (h : H) (K : Value → Prop) (x : Operand) (n : Nat) (lo hi : Option Operand), vfl ρ h K (.slc x n lo hi) = slcK (ρ x) n (lo.map fun x => loB (ρ x)) (hi.map fun x => loB (ρ x)) K) ∧
    (∀ (ρ : Operand → Value) (h : H) (K : Value → Prop) (x : Operand) (lo hi : Option Operand), vfl ρ h K (.slT x lo hi) = slTK (ρ x) (lo.map fun x => loB (ρ x)) (hi.map fun x => loB (ρ x)) K) ∧
    (∀ (ρ : Operand → Value) (h : H) (K : Value → Prop) (x : Operand), vfl ρ h K (.lenT x) = lenTK (ρ x) K) ∧
    (∀ (ρ : Operand → Value) (h : H) (K : Value → Prop) (x : Operand), vfl ρ h K (.lenS x) = lenSK (ρ x) K) ∧
    (∀ (ρ : Operand → Value) (h : H) (K : Value → Prop) (x : Operand), vfl ρ h K (.btos x) = btosK (ρ x) h K) ∧
    (∀ (ρ : Operand → Value) (h : H) (K : Value → Prop) (x : Operand) (i : Nat), vfl ρ h K (.ext x i) = extK (ρ x) i K) ∧
    (∀ (ρ : Operand → Value) (h : H) (K : Value → Prop) (x : Operand) (t : TypeId) (z : Value) (ok : Bool), vfl ρ h K (.asrt x t z ok) = asrtK (ρ x) t z ok K) ∧
    (∀ (v : Value) (f : Value → Prop), oK (some v) f = f v) ∧
    (∀ (h : H) (f : H → Prop), hK (some h) f = f h) ∧
    (∀ (v : List Value) (f : List Value → Prop), lK (some v) f = f v) ∧
    (∀ (K : Value → H → Prop) (h : H) (v : Value), ap2 K h v = K v h) ∧
    (∀ (K : Value → H → Prop) (h : H), undC K h = K undef h) ∧
    (∀ (K : Value → H → Prop) (h : H) (j : Nat), ptrC K j h = K (.pointer (some ⟨j, 0, none⟩)) h) ∧
    (∀ (n c : Nat) (K : Value → H → Prop) (h : H) (j : Nat), slcC n c K j h = K (.slice (some ⟨j, 0, none⟩) n c) h) ∧
    (∀ (f : Value → Prop) (l : List Value), aggC f l = f (.agg l.toArray)) ∧
    (∀ (e : TypeId) (n : Nat) (h : H) (K : Value → H → Prop) (l : List Value), bslC e n h K l = newB h (blk l e) (slcC n n K)) ∧
    (∀ (f : Value → Prop) (t : Bool) (a b : Value), pickK (.bool t) a b f = f (if t = true then a else b)) ∧
    (∀ (f : Value → Prop) (b k n : Nat) (agg : Bool) (h : H), loadK (.pointer (some ⟨b, k, none⟩)) n agg h f = oK (hval h b k n agg) f) ∧
    (∀ (b k n : Nat) (y : Value) (h : H) (f : H → Prop), storeK (.pointer (some ⟨b, k, none⟩)) y n h f = ((vcells y).length = n ∧ (vcells y).all vone = true ∧ hK (hwrite h b k (vcells y)) f)) ∧
    (∀ (f : Value → Prop) (b k off : Nat), fldK (.pointer (some ⟨b, k, none⟩)) off f = f (.pointer (some ⟨b, k + off, none⟩))) ∧
    (∀ (f : Value → Prop) (cs : List Value) (off n : Nat) (agg : Bool), getK (.agg cs.toArray) off n agg f = oK (if agg = true then some (.agg ((cs.drop off).take n).toArray) else cs[off]?) f) ∧
    (∀ (f : Value → Prop) (b k len cap n : Nat) (kd : IntKind) (j : Int), idxSK (.slice (some ⟨b, k, none⟩) len cap) (.int kd j) n f = ((0 ≤ j ∧ j < (len : Int)) ∧ f (.pointer (some ⟨b, k + j.toNat * n, none⟩)))) ∧
    (∀ (f : Value → Prop) (b k len n : Nat) (kd : IntKind) (j : Int), idxAK (.pointer (some ⟨b, k, none⟩)) (.int kd j) len n f = ((0 ≤ j ∧ j < (len : Int)) ∧ f (.pointer (some ⟨b, k + j.toNat * n, none⟩)))) ∧
    (∀ (f : Value → Prop) (s : List UInt8) (kd : IntKind) (j : Int), idxTK (.string ⟨s.toArray⟩) (.int kd j) f = (0 ≤ j ∧ oK ((s[j.toNat]?).map fun u => .int .u8 u.toNat) f)) ∧
    (∀ (f : Value → Prop) (a : Addr), nilcK (.pointer (some a)) f = f (.pointer (some a))) ∧
    (∀ (f : Value → Prop) (g : FuncId) (fi ca : Array Value), nilcK (.func (.func g) fi ca) f = f (.func (.func g) fi ca)) ∧
    (∀ (f : Value → Prop) (op : BinOp) (k : IntKind) (a b : Int) (o : Prop), binK op (.int k a) (.int k b) f o = oK (intBin op k a b) f) ∧
    (∀ (f : Value → Prop) (k k' : IntKind) (a b : Int) (o : Prop), binK .shl (.int k a) (.int k' b) f o = oK (intBin .shl k a b) f) ∧
    (∀ (f : Value → Prop) (k k' : IntKind) (a b : Int) (o : Prop), binK .shr (.int k a) (.int k' b) f o = oK (intBin .shr k a b) f) ∧
    (∀ (f : Value → Prop) (op : BinOp) (a b : ByteArray) (o : Prop), binK op (.string a) (.string b) f o = oK (strBin op a b) f) ∧
    (∀ (f : Value → Prop) (neg a b : Bool), beqK neg (.bool a) (.bool b) f = f (.bool (if neg = true then !(a == b) else a == b))) ∧
    (∀ (f : Value → Prop) (neg c : Bool), ieqK neg c .nilIface .nilIface f = (c = true ∧ f (.bool !neg))) ∧
    (∀ (f : Value → Prop) (neg c : Bool) (t : TypeId) (v : Value), ieqK neg c .nilIface (.iface t v) f = f (.bool neg)) ∧
    (∀ (f : Value → Prop) (neg c : Bool) (t : TypeId) (v : Value), ieqK neg c (.iface t v) .nilIface f = f (.bool neg)) ∧
    (∀ (f : Value → Prop) (neg : Bool) (n1 n2 n3 n4 : Nat) (b : Option Addr), leqK neg (.slice none n1 n2) (.slice b n3 n4) f = f (.bool (if neg = true then !b.isNone else b.isNone))) ∧
    (∀ (f : Value → Prop) (neg : Bool) (a : Addr) (n1 n2 n3 n4 : Nat), leqK neg (.slice (some a) n1 n2) (.slice none n3 n4) f = f (.bool neg)) ∧
    (∀ (f : Value → Prop) (b : Bool), notK (.bool b) f = f (.bool !b)) ∧
    (∀ (f : Value → Prop) (k k' : IntKind) (n : Int), convK k (.int k' n) f = f (.int k (k.wrap n))) ∧
    (∀ (e : TypeId) (z : List Value) (bytes : Nat) (k k' : IntKind) (a b : Int) (h : H) (f : Value → H → Prop), msliceK e z bytes (.int k a) (.int k' b) h f = ((0 ≤ a ∧ a ≤ b ∧ b ≤ 9223372036854775807 ∧ bytes * b ≤ 281474976710656) ∧ newB h (blk (zrep z b.toNat) e) (slcC a.toNat b.toNat f))) ∧
    (∀ (f : Value → Prop) (a : Option Addr) (len cap n : Nat), slcK (.slice a len cap) n none none f = ((0 ≤ (0 : Int) ∧ 0 ≤ (len : Int) ∧ (len : Int) ≤ cap) ∧ f (.slice (if cap = 0 then a else a.map (·.add 0)) len cap))) ∧
    (∀ (f : Value → Prop) (a : Option Addr) (len cap n : Nat) (l : Int), slcK (.slice a len cap) n (some (some l)) none f = ((0 ≤ l ∧ l ≤ (len : Int) ∧ (len : Int) ≤ cap) ∧ f (.slice (if cap = l.toNat then a else a.map (·.add (l.toNat * n))) (len - l.toNat) (cap - l.toNat)))) ∧
    (∀ (f : Value → Prop) (a : Option Addr) (len cap n : Nat) (u : Int), slcK (.slice a len cap) n none (some (some u)) f = ((0 ≤ (0 : Int) ∧ 0 ≤ u ∧ u ≤ (cap : Int)) ∧ f (.slice (if cap = 0 then a else a.map (·.add 0)) u.toNat cap))) ∧
    (∀ (f : Value → Prop) (a : Option Addr) (len cap n : Nat) (l u : Int), slcK (.slice a len cap) n (some (some l)) (some (some u)) f = ((0 ≤ l ∧ l ≤ u ∧ u ≤ (cap : Int)) ∧ f (.slice (if cap = l.toNat then a else a.map (·.add (l.toNat * n))) (u.toNat - l.toNat) (cap - l.toNat)))) ∧
    (∀ (f : Value → Prop) (s : List UInt8) (l : Int), slTK (.string ⟨s.toArray⟩) (some (some l)) none f = ((0 ≤ l ∧ l ≤ (s.length : Int)) ∧ f (.string ⟨(s.drop l.toNat).toArray⟩))) ∧
    (∀ (f : Value → Prop) (s : List UInt8) (u : Int), slTK (.string ⟨s.toArray⟩) none (some (some u)) f = ((0 ≤ u ∧ u ≤ (s.length : Int)) ∧ f (.string ⟨(s.take u.toNat).toArray⟩))) ∧
    (∀ (f : Value → Prop) (s : List UInt8) (l u : Int), slTK (.string ⟨s.toArray⟩) (some (some l)) (some (some u)) f = ((0 ≤ l ∧ l ≤ u ∧ u ≤ (s.length : Int)) ∧ f (.string ⟨((s.drop l.toNat).take (u.toNat - l.toNat)).toArray⟩))) ∧
    (∀ (f : Value → Prop) (s : List UInt8), lenTK (.string ⟨s.toArray⟩) f = f (.int .i64 s.length)) ∧
    (∀ (f : Value → Prop) (a : Option Addr) (n c : Nat), lenSK (.slice a n c) f = f (.int .i64 n)) ∧
    (∀ (f : Value → Prop) (n c : Nat) (h : H), btosK (.slice none n c) h f = f (.string ⟨[].toArray⟩)) ∧
    (∀ (f : Value → Prop) (b k len cap : Nat) (h : H), btosK (.slice (some ⟨b, k, none⟩) len cap) h f = oK (((hread h b k len).bind toBytes).map fun l => .string ⟨l.toArray⟩) f) ∧
    (∀ (f : Value → Prop) (vs : List Value) (i : Nat), extK (.tuple vs.toArray) i f = oK (vs[i]?) f) ∧
    (∀ (f : Value → Prop) (t t' : TypeId) (v z : Value) (ok : Bool), asrtK (.iface t' v) t z ok f = if t' = t then f (if ok = true then .tuple #[v, .bool true] else v) else (ok = true ∧ f (.tuple #[z, .bool false]))) ∧
    (∀ (f : Value → Prop) (t : TypeId) (z : Value) (ok : Bool), asrtK .nilIface t z ok f = (ok = true ∧ f (.tuple #[z, .bool false]))) ∧
    (∀ (P : Program) (g : FuncId) (fi ca : List Value) (args : List Value) (h : H) (R : Ending → H → Prop), callvK P (.func (.func g) fi.toArray ca.toArray) args h R = (callOk P g = true ∧ HCalls P g (fi ++ args ++ ca).toArray h R)) ∧
    (∀ (h : H) (b k n : Nat), hval h b k n true = (hread h b k n).map fun l => .agg l.toArray) ∧
    (∀ (h : H) (b k n : Nat), hval h b k n false = hcel h b k) ∧
    (∀ (k : IntKind) (n : Int), loB (.int k n) = some n) ∧
    (∀ (l : List Value), fillL l [] = some l) ∧
    (∀ (l : List Value) (off n : Nat) (v : List Value) (r : List (Nat × Nat × List Value)), fillL l ((off, n, v) :: r) = if v.length = n ∧ off + n ≤ l.length then fillL (splice l off v) r else none) ∧
    (∀ (k : IntKind) (n : Int), vcells (.int k n) = [.int k n]) ∧
    (∀ (b : Bool), vcells (.bool b) = [.bool b]) ∧
    (∀ (s : ByteArray), vcells (.string s) = [.string s]) ∧
    (∀ (a : Option Addr) (n c : Nat), vcells (.slice a n c) = [.slice a n c]) ∧
    (∀ (a : Option Addr), vcells (.pointer a) = [.pointer a]) ∧
    (∀ (t : TypeId) (v : Value), vcells (.iface t v) = [.iface t v]) ∧
    (vcells .nilIface = [.nilIface]) ∧
    (∀ (f : Fn) (a b : Array Value), vcells (.func f a b) = [.func f a b]) ∧
    (∀ (a : Option Nat), vcells (.map a) = [.map a]) ∧
    (∀ (l : List Value), vcells (.agg l.toArray) = l) :=
  ⟨by intros; apply vop_mov,
    by intros; apply vop_pick,
    by intros; apply vop_load,
    by intros; apply vop_store,
    by intros; apply vop_alloc,
    by intros; apply vop_box,
    by intros; apply vop_fld,
    by intros; apply vop_get,
    by intros; apply vop_idxS,
    by intros; apply vop_idxA,
    by intros; apply vop_idxT,
    by intros; apply vop_nilc,
    by intros; apply vop_bin,
    by intros; apply vop_beq,
    by intros; apply vop_ieq,
    by intros; apply vop_leq,
    by intros; apply vop_not,
    by intros; apply vop_conv,
    by intros; apply vop_iface,
    by intros; apply vop_fn,
    by intros; apply vop_build,
    by intros; apply vop_bslice,
    by intros; apply vop_mslice,
    by intros; apply vop_slc,
    by intros; apply vop_slT,
    by intros; apply vop_lenT,
    by intros; apply vop_lenS,
    by intros; apply vop_btos,
    by intros; apply vop_ext,
    by intros; apply vop_asrt,
    by intros; apply vop_call,
    by intros; apply vop_callv,
    by intros; apply vop_inv,
    by intros; apply vop_app,
    by intros; apply vop_raw,
    by intros; apply vfl_mov,
    by intros; apply vfl_pick,
    by intros; apply vfl_load,
    by intros; apply vfl_fld,
    by intros; apply vfl_get,
    by intros; apply vfl_idxS,
    by intros; apply vfl_idxA,
    by intros; apply vfl_idxT,
    by intros; apply vfl_nilc,
    by intros; apply vfl_bin,
    by intros; apply vfl_beq,
    by intros; apply vfl_ieq,
    by intros; apply vfl_leq,
    by intros; apply vfl_not,
    by intros; apply vfl_conv,
    by intros; apply vfl_iface,
    by intros; apply vfl_fn,
    by intros; apply vfl_build,
    by intros; apply vfl_slc,
    by intros; apply vfl_slT,
    by intros; apply vfl_lenT,
    by intros; apply vfl_lenS,
    by intros; apply vfl_btos,
    by intros; apply vfl_ext,
    by intros; apply vfl_asrt,
    by intros; apply oK_some,
    by intros; apply hK_some,
    by intros; apply lK_some,
    by intros; apply ap2_eq,
    by intros; apply undC_eq,
    by intros; apply ptrC_eq,
    by intros; apply slcC_eq,
    by intros; apply aggC_eq,
    by intros; apply bslC_eq,
    by intros; apply pickK_eq,
    by intros; apply loadK_eq,
    by intros; apply storeK_eq,
    by intros; apply fldK_eq,
    by intros; apply getK_eq,
    by intros; apply idxSK_eq,
    by intros; apply idxAK_eq,
    by intros; apply idxTK_eq,
    by intros; apply nilcK_eq,
    by intros; apply nilcK_fn,
    by intros; apply binK_int,
    by intros; apply binK_shl,
    by intros; apply binK_shr,
    by intros; apply binK_str,
    by intros; apply beqK_eq,
    by intros; apply ieqK_1,
    by intros; apply ieqK_2,
    by intros; apply ieqK_3,
    by intros; apply leqK_1,
    by intros; apply leqK_2,
    by intros; apply notK_eq,
    by intros; apply convK_eq,
    by intros; apply msliceK_eq,
    by intros; apply slcK_00,
    by intros; apply slcK_10,
    by intros; apply slcK_01,
    by intros; apply slcK_11,
    by intros; apply slTK_10,
    by intros; apply slTK_01,
    by intros; apply slTK_11,
    by intros; apply lenTK_eq,
    by intros; apply lenSK_eq,
    by intros; apply btosK_nil,
    by intros; apply btosK_eq,
    by intros; apply extK_eq,
    by intros; apply asrtK_eq,
    by intros; apply asrtK_nil,
    by intros; apply callvK_eq,
    by intros; apply hval_t,
    by intros; apply hval_f,
    by intros; apply loB_eq,
    by intros; apply fill_nil,
    by intros; apply fill_cons,
    by intros; apply vcells_int,
    by intros; apply vcells_bool,
    by intros; apply vcells_string,
    by intros; apply vcells_slice,
    by intros; apply vcells_pointer,
    by intros; apply vcells_iface,
    by intros; apply vcells_nilIface,
    by intros; apply vcells_func,
    by intros; apply vcells_map,
    by intros; apply vcells_agg⟩
theorem mem :
    (∀ (h : H) (j : Nat) (o : Obj), hget ((j, o) :: h) j = some o) ∧
    (∀ (h : H) (j : Nat) (k : Nat) (n : Nat) (e : TypeId) (l : List Value), hread ((j, blk l e) :: h) j k n = if k + n ≤ l.length then some ((l.drop k).take n) else none) ∧
    (∀ (h : H) (j : Nat) (k : Nat) (e : TypeId) (l : List Value), hcel ((j, blk l e) :: h) j k = l[k]?) ∧
    (∀ (h : H) (j : Nat) (k : Nat) (e : TypeId) (l : List Value) (vs : List Value), hwrite ((j, blk l e) :: h) j k vs = if k + vs.length ≤ l.length then some ((j, blk (splice l k vs) e) :: h) else none) ∧
    (∀ (h : H) (j : Nat) (o : Obj) (i : Nat) (hne : i ≠ j), hget ((j, o) :: h) i = hget h i) ∧
    (∀ (h : H) (j : Nat) (k : Nat) (n : Nat) (o : Obj) (i : Nat) (hne : i ≠ j), hread ((j, o) :: h) i k n = hread h i k n) ∧
    (∀ (h : H) (j : Nat) (k : Nat) (o : Obj) (i : Nat) (hne : i ≠ j), hcel ((j, o) :: h) i k = hcel h i k) ∧
    (∀ (h : H) (j : Nat) (k : Nat) (vs : List Value) (o : Obj) (i : Nat) (hne : i ≠ j), hwrite ((j, o) :: h) i k vs = (hwrite h i k vs).map ((j, o) :: ·)) :=
  ⟨by intros; apply hget_same,
    by intros; apply hread_same,
    by intros; apply hcel_same,
    by intros; apply hwrite_same,
    by intros; apply hget_next; assumption,
    by intros; apply hread_next; assumption,
    by intros; apply hcel_next; assumption,
    by intros; apply hwrite_next; assumption⟩

theorem plain : (∀ p : Prop, (True ∧ p) = p) ∧ (∀ p : Prop, (p ∧ True) = p) ∧ (∀ p : Prop, (False ∧ p) = False) ∧ (∀ p : Prop, (True ∨ p) = True) ∧ (∀ p : Prop, (p ∨ True) = True) ∧ (∀ a : Value, (a = a) = True) ∧ ((¬ False) = True) ∧ ((¬ True) = False) ∧ (∀ a b : Nat, (a ≠ b) = ¬ (a = b)) ∧ (∀ p : Prop, (True → p) = p) ∧
    (∀ (p : Prop) [Decidable p], (decide p = true) = p) ∧ ((false = true) = False) ∧ ((true = true) = True) ∧ ((!true) = false) ∧ ((!false) = true) ∧
    (∀ (c : Prop) [Decidable c] (x y : Bool), (if c then Value.bool x else Value.bool y) = Value.bool (if c then x else y)) ∧
    (∀ n : Nat, n + 0 = n) ∧ (∀ p : Prop, (p ∧ False) = False) ∧ (∀ p : Prop, (False ∨ p) = p) ∧ (∀ p : Prop, (p ∨ False) = p) ∧ (∀ a b : Int, (a != b) = !(a == b)) ∧ (∀ a b : Int, (a == b) = decide (a = b)) ∧ (∀ b : Bool, ((!b) = true) = (b = false)) ∧ (∀ (p : Prop) [Decidable p], (decide p = false) = ¬ p) ∧ (∀ n : Nat, 0 + n = n) ∧ (∀ n : Nat, n * 1 = n) ∧ (∀ n : Nat, 0 * n = 0) ∧ (∀ n : Nat, (n : Int).toNat = n) :=
  ⟨fun _ => by simp, fun _ => by simp, fun _ => by simp, fun _ => by simp, fun _ => by simp, fun _ => by simp, by simp, by simp, fun _ _ => rfl, fun _ => by simp, fun _ _ => by simp, by simp, by simp, rfl, rfl, fun c _ x y => ite_bool c x y, fun _ => rfl, fun _ => by simp, fun _ => by simp, fun _ => by simp, fun _ _ => rfl, fun a b => by by_cases h : a = b <;> simp [h], fun b => by simp, fun _ _ => by simp, by simp, by simp, by simp, by simp⟩

theorem seqs {α : Type} : (∀ (x : α) (l : List α), (x :: l).length = l.length + 1) ∧ (([] : List α).length = 0) ∧ (∀ (x : α) (l : List α), (x :: l)[0]? = some x) ∧ (∀ (x : α) (l : List α) (n : Nat), (x :: l)[n + 1]? = l[n]?) ∧
    (∀ l : List α, l.drop 0 = l) ∧ (∀ (x : α) (l : List α) (n : Nat), (x :: l).drop (n + 1) = l.drop n) ∧ (∀ l : List α, l.take 0 = []) ∧ (∀ (x : α) (l : List α) (n : Nat), (x :: l).take (n + 1) = x :: l.take n) ∧
    (∀ n, ([] : List α).take n = []) ∧ (∀ n, ([] : List α).drop n = []) ∧ (∀ (x : α) (n : Nat), List.replicate (n + 1) x = x :: List.replicate n x) ∧ (∀ x : α, List.replicate 0 x = []) ∧ (∀ (x : α) (l m : List α), (x :: l) ++ m = x :: (l ++ m)) ∧ (∀ m : List α, [] ++ m = m) ∧ (∀ m : List α, m ++ [] = m) :=
  ⟨fun _ _ => rfl, rfl, fun _ _ => rfl, fun _ _ _ => rfl, fun _ => rfl, fun _ _ _ => rfl, fun _ => rfl, fun _ _ _ => rfl, fun n => by simp, fun n => by simp, fun _ _ => rfl, fun _ => rfl, fun _ _ _ => rfl, fun _ => rfl, fun m => by simp⟩
theorem maps {α β : Type} : (∀ (f : α → β) (x : α) (l : List α), (x :: l).map f = f x :: l.map f) ∧ (∀ f : α → β, ([] : List α).map f = []) ∧ (∀ (f : α → β) (x : α), (some x).map f = some (f x)) ∧ (∀ (f : α → Option β) (x : α), (some x).bind f = f x) ∧ (∀ (f : α → β), (none : Option α).map f = none) :=
  ⟨fun _ _ _ => rfl, fun _ => rfl, fun _ _ => rfl, fun _ _ => rfl, fun _ => rfl⟩
theorem cells : (∀ v l, ((v :: l : List Value).all vone) = (vone v && l.all vone)) ∧ (([] : List Value).all vone = true) ∧ (∀ k n, vone (.int k n) = true) ∧ (∀ b, vone (.bool b) = true) ∧ (∀ s, vone (.string s) = true) ∧ (∀ a n c, vone (.slice a n c) = true) ∧ (∀ a, vone (.pointer a) = true) ∧
    (∀ t v, vone (.iface t v) = true) ∧ (vone .nilIface = true) ∧ (∀ f a b, vone (.func f a b) = true) ∧ (∀ a, vone (.map a) = true) ∧ (vone .nilFunc = true) ∧ (∀ b, (true && b) = b) ∧
    (∀ z, zrep z 0 = []) ∧ (∀ z n, zrep z (n + 1) = z ++ zrep z n) ∧ (∀ (x : Value) l v vs, splice (x :: l) 0 (v :: vs) = v :: splice l 0 vs) ∧ (∀ (x : Value) l k vs, splice (x :: l) (k + 1) vs = x :: splice l k vs) ∧ (∀ l k, splice l k [] = l) :=
  ⟨fun _ _ => rfl, rfl, fun _ _ => rfl, fun _ => rfl, fun _ => rfl, fun _ _ _ => rfl, fun _ => rfl, fun _ _ => rfl, rfl, fun _ _ _ => rfl, fun _ => rfl, rfl, fun b => by cases b <;> rfl, zrep_zero, zrep_succ, splice_zero, splice_succ, splice_nil⟩
end Go.Tk
