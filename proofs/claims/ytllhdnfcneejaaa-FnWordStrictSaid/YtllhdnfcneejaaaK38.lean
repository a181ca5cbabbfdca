/- Parts of the proof, put together: D1, O1, P1, P2, T5, T6, T7, T8, T9. -/
import Derived.Test.YtllhdnfcneejaaaK35
import Derived.Test.YtllhdnfcneejaaaK37
/- The program's structs as data. -/
section
set_option linter.unusedVariables false
set_option linter.unusedSimpArgs false
set_option maxRecDepth 4000
namespace Go.Tk
open Go

theorem zPair_eq : [.int .i64 0, .int .i64 0] = eP ((0, 0) : Int × Int) := rfl
theorem wPair :
    (∀ (d : (Int × Int)), (eP d).length = 2) ∧
    (∀ (d : (Int × Int)), (eP d)[0]? = some (.int .i64 d.1)) ∧
    (∀ (d : (Int × Int)), (eP d)[1]? = some (.int .i64 d.2)) ∧
    (∀ (d : (Int × Int)), ((eP d).drop 0).take 2 = eP d) ∧
    (∀ (d : (Int × Int)), (eP d).take 2 = eP d) ∧
    (∀ (d : (Int × Int)), (eP d).all vone = true) ∧
    (∀ (d : (Int × Int)) (x : Int), splice (eP d) 0 [.int .i64 x] = eP (x, d.2)) ∧
    (∀ (d : (Int × Int)) (x : Int), splice (eP d) 1 [.int .i64 x] = eP (d.1, x)) ∧
    (∀ (d e : (Int × Int)), splice (eP d) 0 (eP e) = eP e) :=
  ⟨fun _ => rfl, fun _ => rfl, fun _ => rfl, fun _ => rfl, fun _ => rfl, fun _ => rfl, fun _ _ => rfl, fun _ _ => rfl, fun _ _ => rfl⟩

structure DCall where
  session : Int
  number : Int
  kind : Int
  text : List UInt8
  slot : Int
  to : Int
deriving DecidableEq
def cCall (d : DCall) : List Value := [.int .i64 d.session, .int .i64 d.number, .int .i64 d.kind, .string ⟨(d.text).toArray⟩, .int .i64 d.slot, .int .i64 d.to]
def zCall : DCall := ⟨0, 0, 0, [], 0, 0⟩
theorem zCall_eq : [.int .i64 0, .int .i64 0, .int .i64 0, str [], .int .i64 0, .int .i64 0] = cCall zCall := rfl
theorem wCall :
    (∀ (d : DCall), (cCall d).length = 6) ∧
    (∀ (d : DCall), (cCall d)[0]? = some (.int .i64 d.session)) ∧
    (∀ (d : DCall), (cCall d)[1]? = some (.int .i64 d.number)) ∧
    (∀ (d : DCall), (cCall d)[2]? = some (.int .i64 d.kind)) ∧
    (∀ (d : DCall), (cCall d)[3]? = some (.string ⟨(d.text).toArray⟩)) ∧
    (∀ (d : DCall), (cCall d)[4]? = some (.int .i64 d.slot)) ∧
    (∀ (d : DCall), (cCall d)[5]? = some (.int .i64 d.to)) ∧
    (∀ (d : DCall), ((cCall d).drop 0).take 6 = cCall d) ∧
    (∀ (d : DCall), (cCall d).take 6 = cCall d) ∧
    (∀ (d : DCall), (cCall d).all vone = true) ∧
    (∀ (d : DCall) (x : Int), splice (cCall d) 0 [.int .i64 x] = cCall { d with session := x }) ∧
    (∀ (d : DCall) (x : Int), splice (cCall d) 1 [.int .i64 x] = cCall { d with number := x }) ∧
    (∀ (d : DCall) (x : Int), splice (cCall d) 2 [.int .i64 x] = cCall { d with kind := x }) ∧
    (∀ (d : DCall) (x : List UInt8), splice (cCall d) 3 [.string ⟨(x).toArray⟩] = cCall { d with text := x }) ∧
    (∀ (d : DCall) (x : Int), splice (cCall d) 4 [.int .i64 x] = cCall { d with slot := x }) ∧
    (∀ (d : DCall) (x : Int), splice (cCall d) 5 [.int .i64 x] = cCall { d with to := x }) ∧
    (∀ (d e : DCall), splice (cCall d) 0 (cCall e) = cCall e) :=
  ⟨fun _ => rfl, fun _ => rfl, fun _ => rfl, fun _ => rfl, fun _ => rfl, fun _ => rfl, fun _ => rfl, fun _ => rfl, fun _ => rfl, fun _ => rfl, fun _ _ => rfl, fun _ _ => rfl, fun _ _ => rfl, fun _ _ => rfl, fun _ _ => rfl, fun _ _ => rfl, fun _ _ => rfl⟩

structure DWord where
  kind : Int
  from_ : Int
  to : Int
  stamp : Int
  try_ : Int
  what : Int
  yes : Bool
  slots : List Int
  pairs : List ((Int × Int))
  code : Int
  vals : List Int
  call : DCall
deriving DecidableEq
def cWord (d : DWord) (slots' pairs' vals' : Value) : List Value := [.int .i64 d.kind, .int .i64 d.from_, .int .i64 d.to, .int .i64 d.stamp, .int .i64 d.try_, .int .i64 d.what, .bool d.yes, slots', pairs', .int .i64 d.code, vals', .int .i64 d.call.session, .int .i64 d.call.number, .int .i64 d.call.kind, .string ⟨(d.call.text).toArray⟩, .int .i64 d.call.slot, .int .i64 d.call.to]
def zWord : DWord := ⟨0, 0, 0, 0, 0, 0, false, [], [], 0, [], ⟨0, 0, 0, [], 0, 0⟩⟩
theorem zWord_eq : [.int .i64 0, .int .i64 0, .int .i64 0, .int .i64 0, .int .i64 0, .int .i64 0, .bool false, .slice none 0 0, .slice none 0 0, .int .i64 0, .slice none 0 0, .int .i64 0, .int .i64 0, .int .i64 0, str [], .int .i64 0, .int .i64 0] = cWord zWord (.slice none 0 0) (.slice none 0 0) (.slice none 0 0) := rfl
theorem wWord :
    (∀ (d : DWord) (slots' pairs' vals' : Value), (cWord d slots' pairs' vals').length = 17) ∧
    (∀ (d : DWord) (slots' pairs' vals' : Value), (cWord d slots' pairs' vals')[0]? = some (.int .i64 d.kind)) ∧
    (∀ (d : DWord) (slots' pairs' vals' : Value), (cWord d slots' pairs' vals')[1]? = some (.int .i64 d.from_)) ∧
    (∀ (d : DWord) (slots' pairs' vals' : Value), (cWord d slots' pairs' vals')[2]? = some (.int .i64 d.to)) ∧
    (∀ (d : DWord) (slots' pairs' vals' : Value), (cWord d slots' pairs' vals')[3]? = some (.int .i64 d.stamp)) ∧
    (∀ (d : DWord) (slots' pairs' vals' : Value), (cWord d slots' pairs' vals')[4]? = some (.int .i64 d.try_)) ∧
    (∀ (d : DWord) (slots' pairs' vals' : Value), (cWord d slots' pairs' vals')[5]? = some (.int .i64 d.what)) ∧
    (∀ (d : DWord) (slots' pairs' vals' : Value), (cWord d slots' pairs' vals')[6]? = some (.bool d.yes)) ∧
    (∀ (d : DWord) (slots' pairs' vals' : Value), (cWord d slots' pairs' vals')[7]? = some (slots')) ∧
    (∀ (d : DWord) (slots' pairs' vals' : Value), (cWord d slots' pairs' vals')[8]? = some (pairs')) ∧
    (∀ (d : DWord) (slots' pairs' vals' : Value), (cWord d slots' pairs' vals')[9]? = some (.int .i64 d.code)) ∧
    (∀ (d : DWord) (slots' pairs' vals' : Value), (cWord d slots' pairs' vals')[10]? = some (vals')) ∧
    (∀ (d : DWord) (slots' pairs' vals' : Value), (cWord d slots' pairs' vals')[11]? = some (.int .i64 d.call.session)) ∧
    (∀ (d : DWord) (slots' pairs' vals' : Value), (cWord d slots' pairs' vals')[12]? = some (.int .i64 d.call.number)) ∧
    (∀ (d : DWord) (slots' pairs' vals' : Value), (cWord d slots' pairs' vals')[13]? = some (.int .i64 d.call.kind)) ∧
    (∀ (d : DWord) (slots' pairs' vals' : Value), (cWord d slots' pairs' vals')[14]? = some (.string ⟨(d.call.text).toArray⟩)) ∧
    (∀ (d : DWord) (slots' pairs' vals' : Value), (cWord d slots' pairs' vals')[15]? = some (.int .i64 d.call.slot)) ∧
    (∀ (d : DWord) (slots' pairs' vals' : Value), (cWord d slots' pairs' vals')[16]? = some (.int .i64 d.call.to)) ∧
    (∀ (d : DWord) (slots' pairs' vals' : Value), ((cWord d slots' pairs' vals').drop 0).take 17 = cWord d slots' pairs' vals') ∧
    (∀ (d : DWord) (slots' pairs' vals' : Value), (cWord d slots' pairs' vals').take 17 = cWord d slots' pairs' vals') ∧
    (∀ (d : DWord) (slots' pairs' vals' : Value), vone slots' = true → vone pairs' = true → vone vals' = true → (cWord d slots' pairs' vals').all vone = true) ∧
    (∀ (d : DWord) (slots' pairs' vals' : Value) (x : Int), splice (cWord d slots' pairs' vals') 0 [.int .i64 x] = cWord { d with kind := x } slots' pairs' vals') ∧
    (∀ (d : DWord) (slots' pairs' vals' : Value) (x : Int), splice (cWord d slots' pairs' vals') 1 [.int .i64 x] = cWord { d with from_ := x } slots' pairs' vals') ∧
    (∀ (d : DWord) (slots' pairs' vals' : Value) (x : Int), splice (cWord d slots' pairs' vals') 2 [.int .i64 x] = cWord { d with to := x } slots' pairs' vals') ∧
    (∀ (d : DWord) (slots' pairs' vals' : Value) (x : Int), splice (cWord d slots' pairs' vals') 3 [.int .i64 x] = cWord { d with stamp := x } slots' pairs' vals') ∧
    (∀ (d : DWord) (slots' pairs' vals' : Value) (x : Int), splice (cWord d slots' pairs' vals') 4 [.int .i64 x] = cWord { d with try_ := x } slots' pairs' vals') ∧
    (∀ (d : DWord) (slots' pairs' vals' : Value) (x : Int), splice (cWord d slots' pairs' vals') 5 [.int .i64 x] = cWord { d with what := x } slots' pairs' vals') ∧
    (∀ (d : DWord) (slots' pairs' vals' : Value) (x : Bool), splice (cWord d slots' pairs' vals') 6 [.bool x] = cWord { d with yes := x } slots' pairs' vals') ∧
    (∀ (d : DWord) (slots' pairs' vals' : Value) (x : Value), splice (cWord d slots' pairs' vals') 7 [x] = cWord d x pairs' vals') ∧
    (∀ (d : DWord) (slots' pairs' vals' : Value) (x : Value), splice (cWord d slots' pairs' vals') 8 [x] = cWord d slots' x vals') ∧
    (∀ (d : DWord) (slots' pairs' vals' : Value) (x : Int), splice (cWord d slots' pairs' vals') 9 [.int .i64 x] = cWord { d with code := x } slots' pairs' vals') ∧
    (∀ (d : DWord) (slots' pairs' vals' : Value) (x : Value), splice (cWord d slots' pairs' vals') 10 [x] = cWord d slots' pairs' x) ∧
    (∀ (d : DWord) (slots' pairs' vals' : Value) (x : Int), splice (cWord d slots' pairs' vals') 11 [.int .i64 x] = cWord { d with call := { d.call with session := x } } slots' pairs' vals') ∧
    (∀ (d : DWord) (slots' pairs' vals' : Value) (x : Int), splice (cWord d slots' pairs' vals') 12 [.int .i64 x] = cWord { d with call := { d.call with number := x } } slots' pairs' vals') ∧
    (∀ (d : DWord) (slots' pairs' vals' : Value) (x : Int), splice (cWord d slots' pairs' vals') 13 [.int .i64 x] = cWord { d with call := { d.call with kind := x } } slots' pairs' vals') ∧
    (∀ (d : DWord) (slots' pairs' vals' : Value) (x : List UInt8), splice (cWord d slots' pairs' vals') 14 [.string ⟨(x).toArray⟩] = cWord { d with call := { d.call with text := x } } slots' pairs' vals') ∧
    (∀ (d : DWord) (slots' pairs' vals' : Value) (x : Int), splice (cWord d slots' pairs' vals') 15 [.int .i64 x] = cWord { d with call := { d.call with slot := x } } slots' pairs' vals') ∧
    (∀ (d : DWord) (slots' pairs' vals' : Value) (x : Int), splice (cWord d slots' pairs' vals') 16 [.int .i64 x] = cWord { d with call := { d.call with to := x } } slots' pairs' vals') ∧
    (∀ (d e : DWord) (slots' pairs' vals' : Value) (slots'' pairs'' vals'' : Value), splice (cWord d slots' pairs' vals') 0 (cWord e slots'' pairs'' vals'') = cWord e slots'' pairs'' vals'') ∧
    (∀ (d : DWord) (slots' pairs' vals' : Value), ((cWord d slots' pairs' vals').drop 11).take 6 = cCall d.call) ∧
    (∀ (d : DWord) (slots' pairs' vals' : Value) (x : DCall), splice (cWord d slots' pairs' vals') 11 (cCall x) = cWord { d with call := x } slots' pairs' vals') :=
  ⟨fun _ _ _ _ => rfl, fun _ _ _ _ => rfl, fun _ _ _ _ => rfl, fun _ _ _ _ => rfl, fun _ _ _ _ => rfl, fun _ _ _ _ => rfl, fun _ _ _ _ => rfl, fun _ _ _ _ => rfl, fun _ _ _ _ => rfl, fun _ _ _ _ => rfl, fun _ _ _ _ => rfl, fun _ _ _ _ => rfl, fun _ _ _ _ => rfl, fun _ _ _ _ => rfl, fun _ _ _ _ => rfl, fun _ _ _ _ => rfl, fun _ _ _ _ => rfl, fun _ _ _ _ => rfl, fun _ _ _ _ => rfl, fun _ _ _ _ => rfl, fun _ _ _ _ h0 h1 h2 => by simp only [cWord, List.all_cons, List.all_nil, h0, h1, h2]; rfl, fun _ _ _ _ _ => rfl, fun _ _ _ _ _ => rfl, fun _ _ _ _ _ => rfl, fun _ _ _ _ _ => rfl, fun _ _ _ _ _ => rfl, fun _ _ _ _ _ => rfl, fun _ _ _ _ _ => rfl, fun _ _ _ _ _ => rfl, fun _ _ _ _ _ => rfl, fun _ _ _ _ _ => rfl, fun _ _ _ _ _ => rfl, fun _ _ _ _ _ => rfl, fun _ _ _ _ _ => rfl, fun _ _ _ _ _ => rfl, fun _ _ _ _ _ => rfl, fun _ _ _ _ _ => rfl, fun _ _ _ _ _ => rfl, fun _ _ _ _ _ _ _ _ => rfl, fun _ _ _ _ => rfl, fun _ _ _ _ _ => rfl⟩
/-- What a word's slices read. -/
def sWord (h : H) (d : DWord) (slots' pairs' vals' : Value) : Prop := rLs h eI 1 slots' d.slots ∧ rLs h eP 2 pairs' d.pairs ∧ rLs h eI 1 vals' d.vals
def rWord (h : H) (cs : List Value) (d : DWord) : Prop := ∃ slots' pairs' vals', cs = cWord d slots' pairs' vals' ∧ sWord h d slots' pairs' vals'
theorem sWord.sub {g h : H} (s : Sub g h) {d : DWord} {slots' pairs' vals' : Value} (r : sWord g d slots' pairs' vals') : sWord h d slots' pairs' vals' := by
  obtain ⟨u0, u1, u2⟩ := r
  exact ⟨rLs.sub s u0, rLs.sub s u1, rLs.sub s u2⟩
theorem rWord.sub {g h : H} (s : Sub g h) {c : List Value} {d : DWord} (r : rWord g c d) : rWord h c d := by
  obtain ⟨slots', pairs', vals', e, r⟩ := r
  exact ⟨slots', pairs', vals', e, sWord.sub s r⟩

structure DStatement where
  do_ : Int
  key : Int
  num : Int
deriving DecidableEq
def cStatement (d : DStatement) : List Value := [.int .i64 d.do_, .int .i64 d.key, .int .i64 d.num]
def zStatement : DStatement := ⟨0, 0, 0⟩
theorem zStatement_eq : [.int .i64 0, .int .i64 0, .int .i64 0] = cStatement zStatement := rfl
theorem wStatement :
    (∀ (d : DStatement), (cStatement d).length = 3) ∧
    (∀ (d : DStatement), (cStatement d)[0]? = some (.int .i64 d.do_)) ∧
    (∀ (d : DStatement), (cStatement d)[1]? = some (.int .i64 d.key)) ∧
    (∀ (d : DStatement), (cStatement d)[2]? = some (.int .i64 d.num)) ∧
    (∀ (d : DStatement), ((cStatement d).drop 0).take 3 = cStatement d) ∧
    (∀ (d : DStatement), (cStatement d).take 3 = cStatement d) ∧
    (∀ (d : DStatement), (cStatement d).all vone = true) ∧
    (∀ (d : DStatement) (x : Int), splice (cStatement d) 0 [.int .i64 x] = cStatement { d with do_ := x }) ∧
    (∀ (d : DStatement) (x : Int), splice (cStatement d) 1 [.int .i64 x] = cStatement { d with key := x }) ∧
    (∀ (d : DStatement) (x : Int), splice (cStatement d) 2 [.int .i64 x] = cStatement { d with num := x }) ∧
    (∀ (d e : DStatement), splice (cStatement d) 0 (cStatement e) = cStatement e) :=
  ⟨fun _ => rfl, fun _ => rfl, fun _ => rfl, fun _ => rfl, fun _ => rfl, fun _ => rfl, fun _ => rfl, fun _ _ => rfl, fun _ _ => rfl, fun _ _ => rfl, fun _ _ => rfl⟩

end Go.Tk
end

/- Words that are owned. -/
section
set_option linter.unusedVariables false
set_option linter.unusedSimpArgs false
namespace Go.Tk
open Go

def wLen (w : DWord) : Prop := w.slots.length ≤ 1099511627776 ∧ w.pairs.length ≤ 1099511627776 ∧ w.vals.length ≤ 1099511627776

/-- A word that is owned: its slices' blocks. -/
structure oWord (es ep ev : TypeId) (w : DWord) (s p v : Value) (gs gp gv : H) : Prop where
  s : oLs es eI 1 s w.slots gs
  p : oLs ep eP 2 p w.pairs gp
  v : oLs ev eI 1 v w.vals gv
  sp : Dj gs gp
  sv : Dj gs gv
  pv : Dj gp gv
theorem oWord.rd {es ep ev : TypeId} {w : DWord} {s p v : Value} {gs gp gv : H} (o : oWord es ep ev w s p v gs gp gv) : sWord (gs ++ (gp ++ gv)) w s p v := by
  refine ⟨o.s.rd.sub ?_, o.p.rd.sub ?_, o.v.rd.sub ?_⟩
  · exact Sub.left _ _
  · exact Sub.app (Dj_app.2 ⟨o.sp, o.sv⟩) (Sub.left _ _)
  · exact Sub.app (Dj_app.2 ⟨o.sp, o.sv⟩) (Sub.right o.pv)
end Go.Tk
end

/- Numbers as bytes, seven bits each, the lower first. -/
section
set_option linter.unusedVariables false
set_option linter.unusedSimpArgs false
namespace Go.Tk
open Go

def encN (m : Nat) : List UInt8 := if m < 128 then [UInt8.ofNat m] else UInt8.ofNat (128 + m % 128) :: encN (m / 128)
termination_by m
decreasing_by omega
theorem encN_lt {m : Nat} (h : m < 128) : encN m = [UInt8.ofNat m] := by rw [encN, if_pos h]
theorem encN_ge {m : Nat} (h : ¬ m < 128) : encN m = UInt8.ofNat (128 + m % 128) :: encN (m / 128) := by rw [encN, if_neg h]
theorem u8_nat {m : Nat} (h : m < 256) : (UInt8.ofNat m).toNat = m := by rw [UInt8.toNat_ofNat']; omega
theorem encN_ne (m : Nat) : encN m ≠ [] := by
  rw [encN]; split <;> simp
theorem encN_len3 {m : Nat} (h : m < 2097152) : (encN m).length ≤ 3 := by
  by_cases a : m < 128
  · rw [encN_lt a]; simp
  · rw [encN_ge a]
    by_cases b : m / 128 < 128
    · rw [encN_lt b]; simp
    · rw [encN_ge b, encN_lt (by omega : m / 128 / 128 < 128)]; simp

/-- A number with its sign as its last bit. -/
def zig (n : Int) : Nat := if n < 0 then (-2 * n - 1).toNat else (2 * n).toNat
def unzig (m : Nat) : Int := if m % 2 = 1 then -(((m + 1) / 2 : Nat) : Int) else ((m / 2 : Nat) : Int)
theorem unzig_zig (n : Int) : unzig (zig n) = n := by
  unfold zig unzig
  split <;> split <;> omega
theorem zig_lt {n : Int} {b : Nat} (h : -b < n ∧ n < b) : zig n < 2 * b := by
  unfold zig; split <;> omega
def encI (n : Int) : List UInt8 := encN (zig n)

/-- What is read at a place, if a number was written there. -/
def Num (rest : List UInt8) (m : Nat) (r : List UInt8) : Prop := rest = encN m ++ r ∧ m < 2097152

theorem tm_nat (a b : Nat) : ((a : Int).tmod (b : Int)) = ((a % b : Nat) : Int) := by
  rw [Int.tmod_eq_emod_of_nonneg (by omega)]; simp
theorem td_nat (a b : Nat) : ((a : Int).tdiv (b : Int)) = ((a / b : Nat) : Int) := by
  rw [Int.tdiv_eq_ediv_of_nonneg (by omega)]; simp
theorem tm128 (a : Nat) : ((a : Int).tmod 128) = ((a % 128 : Nat) : Int) := tm_nat a 128
theorem tm2 (a : Nat) : ((a : Int).tmod 2) = ((a % 2 : Nat) : Int) := tm_nat a 2
theorem td2 (a : Nat) : ((a : Int).tdiv 2) = ((a / 2 : Nat) : Int) := td_nat a 2
theorem td128 (a : Nat) : ((a : Int).tdiv 128) = ((a / 128 : Nat) : Int) := td_nat a 128
theorem tdneg2 (a : Nat) : ((-(a : Int)).tdiv 2) = -((a / 2 : Nat) : Int) := by rw [Int.neg_tdiv, td2]

theorem num_step {l2 r : List UInt8} {c : UInt8} {i a m : Nat} (h : c :: l2 = encN (m / 128 ^ i) ++ r) (ha : a = m % 128 ^ i) :
    (c.toNat < 128 → a + c.toNat % 128 * 128 ^ i = m ∧ l2 = r) ∧ (128 ≤ c.toNat → l2 = encN (m / 128 ^ (i + 1)) ++ r ∧ a + c.toNat % 128 * 128 ^ i = m % 128 ^ (i + 1) ∧ 128 ^ (i + 1) ≤ m) := by
  have hm : m % 128 ^ i + 128 ^ i * (m / 128 ^ i) = m := Nat.mod_add_div _ _
  have hp : 128 ^ (i + 1) = 128 ^ i * 128 := Nat.pow_succ _ _
  by_cases q : m / 128 ^ i < 128
  · rw [encN_lt q] at h
    simp only [List.cons_append, List.nil_append, List.cons.injEq] at h
    have hc : c.toNat = m / 128 ^ i := by rw [h.1, u8_nat (by omega)]
    refine ⟨fun _ => ⟨?_, h.2⟩, fun x => by omega⟩
    rw [hc, Nat.mod_eq_of_lt q, ha, Nat.mul_comm]; exact hm
  · rw [encN_ge q] at h
    simp only [List.cons_append, List.cons.injEq] at h
    have hc : c.toNat = 128 + m / 128 ^ i % 128 := by rw [h.1, u8_nat (by omega)]
    refine ⟨fun x => by omega, fun _ => ⟨?_, ?_, ?_⟩⟩
    · rw [h.2, hp, ← Nat.div_div_eq_div_mul]
    · rw [hc, show (128 + m / 128 ^ i % 128) % 128 = m / 128 ^ i % 128 from by omega, ha, Nat.mod_pow_succ, Nat.mul_comm]
    · have : 128 ^ i * 128 ≤ 128 ^ i * (m / 128 ^ i) := Nat.mul_le_mul_left _ (by omega)
      rw [hp]; omega

theorem encN_le : ∀ (m : Nat), (encN m).length ≤ m + 1 := by
  intro m
  induction m using Nat.strongRecOn with
  | _ m ih =>
    by_cases h : m < 128
    · rw [encN_lt h]; simp
    · rw [encN_ge h, List.length_cons]
      have := ih (m / 128) (by omega)
      omega
theorem wrapU (n : Int) (h : 0 ≤ n ∧ n ≤ 18446744073709551615) : IntKind.u64.wrap n = n := by
  have e : IntKind.u64.wrap n = n % 18446744073709551616 := rfl
  rw [e]; omega
theorem mb1 : min 1 IntKind.u64.bits = 1 := rfl
theorem mb7 : min 7 IntKind.u64.bits = 7 := rfl
theorem fdiv128 (a : Nat) : (a : Int).fdiv 128 = ((a / 128 : Nat) : Int) := by
  rw [Int.fdiv_eq_ediv_of_nonneg _ (by omega)]; simp
theorem and127 (a : Nat) (h : a ≤ 18446744073709551615) : IntKind.u64.wrap ((BitVec.ofInt IntKind.u64.bits (a : Int) &&& BitVec.ofInt IntKind.u64.bits 127).toNat : Int) = ((a % 128 : Nat) : Int) := by
  have e : (BitVec.ofInt IntKind.u64.bits (a : Int) &&& BitVec.ofInt IntKind.u64.bits 127).toNat = a % 128 := by
    rw [BitVec.toNat_and, BitVec.toNat_ofInt, BitVec.toNat_ofInt]
    show ((a : Int) % (2 ^ 64 : Nat)).toNat &&& ((127 : Int) % (2 ^ 64 : Nat)).toNat = a % 128
    have h1 : ((a : Int) % (2 ^ 64 : Nat)).toNat = a := by
      rw [show ((2 ^ 64 : Nat) : Int) = 18446744073709551616 from rfl]; omega
    rw [h1, show ((127 : Int) % (2 ^ 64 : Nat)).toNat = 2 ^ 7 - 1 from rfl, Nat.and_two_pow_sub_one_eq_mod]
  rw [e, wrapU _ (by omega)]
end Go.Tk
end

/- What is ok: numbers, slots, pairs, values, words. -/
section
set_option linter.unusedVariables false
set_option linter.unusedSimpArgs false
namespace Go.Tk
open Go

section
variable {α : Type}
def allP (P : α → Prop) (l : List α) : Prop := ∀ x ∈ l, P x
theorem allP_nil (P : α → Prop) : allP P [] := fun x h => by cases h
theorem allP_zero (P : α → Prop) (l : List α) : allP P (l.take 0) := fun x h => by simp at h
theorem allP_more {P : α → Prop} {l : List α} {i : Nat} (h : i < l.length) (a : allP P (l.take i)) (p : P l[i]) : allP P (l.take (i + 1)) := by
  rw [List.take_succ_eq_append_getElem h]
  intro x hx
  rcases List.mem_append.1 hx with hx | hx
  · exact a x hx
  · rw [List.mem_singleton.1 hx]; exact p
theorem allP_done {P : α → Prop} {l : List α} {i : Nat} (h : l.length ≤ i) (a : allP P (l.take i)) : allP P l := by rw [List.take_of_length_le h] at a; exact a
theorem allP_not {P : α → Prop} {l : List α} {i : Nat} (h : i < l.length) (p : ¬ P l[i]) : ¬ allP P l := fun a => p (a _ (List.getElem_mem h))
/-- Ascending up to a place. -/
def risU (k : α → Int) (l : List α) (n : Nat) : Prop := ∀ i (h : i + 1 < l.length), i + 1 < n → k (l[i]'(by omega)) < k l[i + 1]
def risP (k : α → Int) (l : List α) : Prop := ∀ i (h : i + 1 < l.length), k (l[i]'(by omega)) < k l[i + 1]
theorem risU_zero (k : α → Int) (l : List α) : risU k l 0 := fun i h n => by omega
theorem risU_one {k : α → Int} {l : List α} {i : Nat} (h : i = 0) (r : risU k l i) : risU k l (i + 1) := fun j hj n => by omega
theorem risU_more {k : α → Int} {l : List α} {i : Nat} (hi : i < l.length) (h0 : 0 < i) (r : risU k l i) (x : k (l[i - 1]'(by omega)) < k l[i]) : risU k l (i + 1) := fun j hj n => by
  by_cases e : j + 1 < i
  · exact r j hj e
  · have : j + 1 = i := by omega
    subst this
    exact x
theorem risU_done {k : α → Int} {l : List α} {i : Nat} (h : l.length ≤ i) (r : risU k l i) : risP k l := fun j hj => r j hj (by omega)
theorem risU_not {k : α → Int} {l : List α} {i : Nat} (hi : i < l.length) (h0 : 0 < i) (x : ¬ k (l[i - 1]'(by omega)) < k l[i]) : ¬ risP k l := fun r => by
  obtain ⟨i, rfl⟩ : ∃ j, i = j + 1 := ⟨i - 1, by omega⟩
  exact x (r i hi)
end

def inP (a b n : Int) : Prop := a ≤ n ∧ n ≤ b
def keyP (n : Int) : Prop := inP 0 31 n
def valP (n : Int) : Prop := inP (-9999) 9999 n
def slotP (n : Int) : Prop := inP 0 7 n
def houseP (n : Int) : Prop := inP 0 2 n
def placeP (n : Int) : Prop := houseP n ∨ n = 9 ∨ inP 100 102 n
def pairP (p : Int × Int) : Prop := keyP p.1 ∧ valP p.2
def slotsP (l : List Int) : Prop := allP slotP l ∧ risP id l
def pairsP (l : List (Int × Int)) : Prop := l.length ≤ 32 ∧ allP pairP l ∧ risP (·.1) l
def valsP (l : List Int) : Prop := l.length ≤ 6 ∧ allP valP l
def stampP (n : Int) : Prop := inP 0 9999 n
def callP (c : DCall) : Prop := stampP c.session ∧ stampP c.number ∧ stampP c.kind ∧ stampP c.slot ∧ stampP c.to ∧ c.text.length ≤ 80
def wordP (w : DWord) : Prop := inP 1 9 w.kind ∧ placeP w.from_ ∧ placeP w.to ∧ stampP w.stamp ∧ stampP w.try_ ∧ inP 0 3 w.what ∧ slotsP w.slots ∧ pairsP w.pairs ∧ inP 0 9 w.code ∧ valsP w.vals ∧ callP w.call

theorem ite_b {b : Bool} {X Y : Prop} (x : b = true → X) (y : b = false → Y) : if b = true then X else Y := by
  cases b
  · exact y rfl
  · exact x rfl
theorem ite_f {b : Bool} {X Y : Prop} (x : b = false → X) (y : b = true → Y) : if b = false then X else Y := by
  cases b
  · exact x rfl
  · exact y rfl
/-- A call that answers yes or no. -/
def Asks (R : Ending → H → Prop) (p : Prop) (h : H) : Prop := ∀ b : Bool, (b = true ↔ p) → R (.returned (.bool b)) h
theorem Asks.yes {R : Ending → H → Prop} {p : Prop} {h : H} (k : Asks R p h) (x : p) : R (.returned (.bool true)) h := k true (by simp [x])
theorem Asks.no {R : Ending → H → Prop} {p : Prop} {h : H} (k : Asks R p h) (x : ¬ p) : R (.returned (.bool false)) h := k false (by simp [x])
theorem Asks.dyes {R : Ending → H → Prop} {p : Prop} {h g : H} (k : Asks R p g) (s : Sub g h) (x : p) : dP R (.returned (.bool true)) h := ⟨g, s, k.yes x⟩
theorem Asks.dno {R : Ending → H → Prop} {p : Prop} {h g : H} (k : Asks R p g) (s : Sub g h) (x : ¬ p) : dP R (.returned (.bool false)) h := ⟨g, s, k.no x⟩
theorem not_b {b : Bool} {p : Prop} (hb : b = true ↔ p) (h : b = false) : ¬ p := fun x => by rw [hb.2 x] at h; cases h
end Go.Tk
end

/- What the program and the reference call ok. -/
section
set_option linter.unusedVariables false
set_option linter.unusedSimpArgs false
set_option maxRecDepth 20000
attribute [local irreducible] Go.Tk.vc Go.Tk.vops Go.Tk.vdr Go.Tk.vop Go.Tk.vfl Go.Tk.HCalls
namespace Go.Proofs.Ytllhdnfcneejaaa
open Go Go.Tk

theorem within_c {a b c : Int} {h : H} {R : Ending → H → Prop} (k : Asks R (inP b c a) h) : HCalls Try.prog 52 #[.int .i64 a, .int .i64 b, .int .i64 c] h R := by
  refine HCalls_ir (args := [.int .i64 a, .int .i64 b, .int .i64 c]) Try.func52 ir52 ?_
  simp only [walk, lists, acts, mem, plain, seqs, maps, cells, resL, resV, intBin, ↓reduceIte, Nat.reduceAdd, Nat.reduceSub, Nat.reduceMul, Nat.reduceLeDiff, Nat.reduceEqDiff, Int.reduceToNat, Int.reduceEq, Int.reduceLT, Int.reduceLE, Int.reduceNeg, Int.reduceAdd, Int.reduceSub, Int.reduceMul, Nat.reducePow, Int.reduceNegSucc]
  refine ite_pos (fun x => dP.of (k _ ?_)) fun x => .of (k.no fun p => x p.1)
  simp [inP, x]
theorem l6In_c {a b c : Int} {h : H} {R : Ending → H → Prop} (k : Asks R (inP b c a) h) : HCalls Try.prog 43 #[.int .i64 a, .int .i64 b, .int .i64 c] h R := by
  refine HCalls_ir (args := [.int .i64 a, .int .i64 b, .int .i64 c]) Try.func43 ir43 ?_
  simp only [walk, lists, acts, mem, plain, seqs, maps, cells, resL, resV, intBin, ↓reduceIte, Nat.reduceAdd, Nat.reduceSub, Nat.reduceMul, Nat.reduceLeDiff, Nat.reduceEqDiff, Int.reduceToNat, Int.reduceEq, Int.reduceLT, Int.reduceLE, Int.reduceNeg, Int.reduceAdd, Int.reduceSub, Int.reduceMul, Nat.reducePow, Int.reduceNegSucc]
  refine ite_pos (fun x => dP.of (k _ ?_)) fun x => .of (k.no fun p => x p.1)
  simp [inP, x]
theorem isKey_c {a : Int} {h : H} {R : Ending → H → Prop} (k : Asks R (keyP a) h) : HCalls Try.prog 89 #[.int .i64 a] h R := by
  refine HCalls_ir (args := [.int .i64 a]) Try.func89 ir89 ?_
  simp only [walk, lists, acts, mem, plain, seqs, maps, cells, resL, resV, intBin, ↓reduceIte, Nat.reduceAdd, Nat.reduceSub, Nat.reduceMul, Nat.reduceLeDiff, Nat.reduceEqDiff, Int.reduceToNat, Int.reduceEq, Int.reduceLT, Int.reduceLE, Int.reduceNeg, Int.reduceAdd, Int.reduceSub, Int.reduceMul, Nat.reducePow, Int.reduceNegSucc]
  refine within_c fun b hb => ?_
  simp only [walk, lists, acts, mem, plain, seqs, maps, cells, resL, resV, intBin, ↓reduceIte, Nat.reduceAdd, Nat.reduceSub, Nat.reduceMul, Nat.reduceLeDiff, Nat.reduceEqDiff, Int.reduceToNat, Int.reduceEq, Int.reduceLT, Int.reduceLE, Int.reduceNeg, Int.reduceAdd, Int.reduceSub, Int.reduceMul, Nat.reducePow, Int.reduceNegSucc]
  exact .of (k b hb)
theorem isVal_c {a : Int} {h : H} {R : Ending → H → Prop} (k : Asks R (valP a) h) : HCalls Try.prog 90 #[.int .i64 a] h R := by
  refine HCalls_ir (args := [.int .i64 a]) Try.func90 ir90 ?_
  simp only [walk, lists, acts, mem, plain, seqs, maps, cells, resL, resV, intBin, ↓reduceIte, Nat.reduceAdd, Nat.reduceSub, Nat.reduceMul, Nat.reduceLeDiff, Nat.reduceEqDiff, Int.reduceToNat, Int.reduceEq, Int.reduceLT, Int.reduceLE, Int.reduceNeg, Int.reduceAdd, Int.reduceSub, Int.reduceMul, Nat.reducePow, Int.reduceNegSucc]
  refine within_c fun b hb => ?_
  simp only [walk, lists, acts, mem, plain, seqs, maps, cells, resL, resV, intBin, ↓reduceIte, Nat.reduceAdd, Nat.reduceSub, Nat.reduceMul, Nat.reduceLeDiff, Nat.reduceEqDiff, Int.reduceToNat, Int.reduceEq, Int.reduceLT, Int.reduceLE, Int.reduceNeg, Int.reduceAdd, Int.reduceSub, Int.reduceMul, Nat.reducePow, Int.reduceNegSucc]
  exact .of (k b hb)
theorem isSlot_c {a : Int} {h : H} {R : Ending → H → Prop} (k : Asks R (slotP a) h) : HCalls Try.prog 56 #[.int .i64 a] h R := by
  refine HCalls_ir (args := [.int .i64 a]) Try.func56 ir56 ?_
  simp only [walk, lists, acts, mem, plain, seqs, maps, cells, resL, resV, intBin, ↓reduceIte, Nat.reduceAdd, Nat.reduceSub, Nat.reduceMul, Nat.reduceLeDiff, Nat.reduceEqDiff, Int.reduceToNat, Int.reduceEq, Int.reduceLT, Int.reduceLE, Int.reduceNeg, Int.reduceAdd, Int.reduceSub, Int.reduceMul, Nat.reducePow, Int.reduceNegSucc]
  refine within_c fun b hb => ?_
  simp only [walk, lists, acts, mem, plain, seqs, maps, cells, resL, resV, intBin, ↓reduceIte, Nat.reduceAdd, Nat.reduceSub, Nat.reduceMul, Nat.reduceLeDiff, Nat.reduceEqDiff, Int.reduceToNat, Int.reduceEq, Int.reduceLT, Int.reduceLE, Int.reduceNeg, Int.reduceAdd, Int.reduceSub, Int.reduceMul, Nat.reducePow, Int.reduceNegSucc]
  exact .of (k b hb)
theorem isHouse_c {a : Int} {h : H} {R : Ending → H → Prop} (k : Asks R (houseP a) h) : HCalls Try.prog 87 #[.int .i64 a] h R := by
  refine HCalls_ir (args := [.int .i64 a]) Try.func87 ir87 ?_
  simp only [walk, lists, acts, mem, plain, seqs, maps, cells, resL, resV, intBin, ↓reduceIte, Nat.reduceAdd, Nat.reduceSub, Nat.reduceMul, Nat.reduceLeDiff, Nat.reduceEqDiff, Int.reduceToNat, Int.reduceEq, Int.reduceLT, Int.reduceLE, Int.reduceNeg, Int.reduceAdd, Int.reduceSub, Int.reduceMul, Nat.reducePow, Int.reduceNegSucc]
  refine within_c fun b hb => ?_
  simp only [walk, lists, acts, mem, plain, seqs, maps, cells, resL, resV, intBin, ↓reduceIte, Nat.reduceAdd, Nat.reduceSub, Nat.reduceMul, Nat.reduceLeDiff, Nat.reduceEqDiff, Int.reduceToNat, Int.reduceEq, Int.reduceLT, Int.reduceLE, Int.reduceNeg, Int.reduceAdd, Int.reduceSub, Int.reduceMul, Nat.reducePow, Int.reduceNegSucc]
  exact .of (k b hb)
theorem l1Val_c {a : Int} {h : H} {R : Ending → H → Prop} (k : Asks R (valP a) h) : HCalls Try.prog 86 #[.int .i64 a] h R := by
  refine HCalls_ir (args := [.int .i64 a]) Try.func86 ir86 ?_
  simp only [walk, lists, acts, mem, plain, seqs, maps, cells, resL, resV, intBin, ↓reduceIte, Nat.reduceAdd, Nat.reduceSub, Nat.reduceMul, Nat.reduceLeDiff, Nat.reduceEqDiff, Int.reduceToNat, Int.reduceEq, Int.reduceLT, Int.reduceLE, Int.reduceNeg, Int.reduceAdd, Int.reduceSub, Int.reduceMul, Nat.reducePow, Int.reduceNegSucc]
  refine l6In_c fun b hb => ?_
  simp only [walk, lists, acts, mem, plain, seqs, maps, cells, resL, resV, intBin, ↓reduceIte, Nat.reduceAdd, Nat.reduceSub, Nat.reduceMul, Nat.reduceLeDiff, Nat.reduceEqDiff, Int.reduceToNat, Int.reduceEq, Int.reduceLT, Int.reduceLE, Int.reduceNeg, Int.reduceAdd, Int.reduceSub, Int.reduceMul, Nat.reducePow, Int.reduceNegSucc]
  exact .of (k b hb)
theorem l12House_c {a : Int} {h : H} {R : Ending → H → Prop} (k : Asks R (houseP a) h) : HCalls Try.prog 85 #[.int .i64 a] h R := by
  refine HCalls_ir (args := [.int .i64 a]) Try.func85 ir85 ?_
  simp only [walk, lists, acts, mem, plain, seqs, maps, cells, resL, resV, intBin, ↓reduceIte, Nat.reduceAdd, Nat.reduceSub, Nat.reduceMul, Nat.reduceLeDiff, Nat.reduceEqDiff, Int.reduceToNat, Int.reduceEq, Int.reduceLT, Int.reduceLE, Int.reduceNeg, Int.reduceAdd, Int.reduceSub, Int.reduceMul, Nat.reducePow, Int.reduceNegSucc]
  refine l6In_c fun b hb => ?_
  simp only [walk, lists, acts, mem, plain, seqs, maps, cells, resL, resV, intBin, ↓reduceIte, Nat.reduceAdd, Nat.reduceSub, Nat.reduceMul, Nat.reduceLeDiff, Nat.reduceEqDiff, Int.reduceToNat, Int.reduceEq, Int.reduceLT, Int.reduceLE, Int.reduceNeg, Int.reduceAdd, Int.reduceSub, Int.reduceMul, Nat.reducePow, Int.reduceNegSucc]
  exact .of (k b hb)
end Go.Proofs.Ytllhdnfcneejaaa
end

/- Lists that are ok. -/
section
set_option linter.unusedVariables false
set_option linter.unusedSimpArgs false
set_option maxRecDepth 20000
attribute [local irreducible] Go.Tk.vc Go.Tk.vops Go.Tk.vdr Go.Tk.vop Go.Tk.vfl Go.Tk.HCalls
namespace Go.Proofs.Ytllhdnfcneejaaa
open Go Go.Tk

theorem valsOk_c {h : H} {v : Value} {l : List Int} (r : rInts h v l) (hl : l.length ≤ 1099511627776) {R : Ending → H → Prop} (k : Asks R (valsP l) h) : HCalls Try.prog 58 #[v] h R := by
  refine HCalls_ir (args := [v]) Try.func58 ir58 ?_
  simp only [walk, lists, acts, mem, plain, seqs, maps, cells, resL, resV, intBin, ↓reduceIte, Nat.reduceAdd, Nat.reduceSub, Nat.reduceMul, Nat.reduceLeDiff, Nat.reduceEqDiff, Int.reduceToNat, Int.reduceEq, Int.reduceLT, Int.reduceLE, Int.reduceNeg, Int.reduceAdd, Int.reduceSub, Int.reduceMul, Nat.reducePow, Int.reduceNegSucc, r.len]
  refine vc_loop [7] (fun n vs h' => ∃ i : Nat, vs = [.int .i64 i] ∧ h' = h ∧ i ≤ l.length ∧ n = l.length - i ∧ allP valP (l.take i)) l.length rfl ⟨0, rfl, rfl, by omega, by omega, allP_zero _ _⟩ ?_
  rintro n f h' ⟨i, hv, rfl, hi, rfl, ht⟩
  simp only [List.map_cons, List.map_nil, List.cons.injEq, and_true] at hv
  simp only [walk, lists, acts, mem, plain, seqs, maps, cells, resL, resV, intBin, ↓reduceIte, Nat.reduceAdd, Nat.reduceSub, Nat.reduceMul, Nat.reduceLeDiff, Nat.reduceEqDiff, Int.reduceToNat, Int.reduceEq, Int.reduceLT, Int.reduceLE, Int.reduceNeg, Int.reduceAdd, Int.reduceSub, Int.reduceMul, Nat.reducePow, Int.reduceNegSucc, wr, hv, r.len]
  refine ite_lt (fun c1 => ?_) fun c1 => ?_
  · refine idx_leaf (i := i) eI_len r rfl (by omega) fun b1 o1 e1 => ?_
    simp only [walk, lists, acts, mem, plain, seqs, maps, cells, resL, resV, intBin, ↓reduceIte, Nat.reduceAdd, Nat.reduceSub, Nat.reduceMul, Nat.reduceLeDiff, Nat.reduceEqDiff, Int.reduceToNat, Int.reduceEq, Int.reduceLT, Int.reduceLE, Int.reduceNeg, Int.reduceAdd, Int.reduceSub, Int.reduceMul, Nat.reducePow, Int.reduceNegSucc, hread_1 e1]
    refine isVal_c fun b hb => ?_
    simp only [walk, lists, acts, mem, plain, seqs, maps, cells, resL, resV, intBin, ↓reduceIte, Nat.reduceAdd, Nat.reduceSub, Nat.reduceMul, Nat.reduceLeDiff, Nat.reduceEqDiff, Int.reduceToNat, Int.reduceEq, Int.reduceLT, Int.reduceLE, Int.reduceNeg, Int.reduceAdd, Int.reduceSub, Int.reduceMul, Nat.reducePow, Int.reduceNegSucc]
    refine ite_f (fun e => .of (k.no fun p => allP_not (by omega) (not_b hb e) p.2)) fun e => ?_
    simp (disch := omega) only [wrapI]
    exact ⟨l.length - (i + 1), by omega, h', .refl _, i + 1, by simp, rfl, by omega, rfl, allP_more (by omega) ht (hb.1 e)⟩
  · have := allP_done (by omega) ht
    exact .of (k _ (by simp [valsP, this]; omega))

theorem l3Vals_c {h : H} {v : Value} {l : List Int} (r : rInts h v l) (hl : l.length ≤ 1099511627776) {R : Ending → H → Prop} (k : Asks R (valsP l) h) : HCalls Try.prog 47 #[v] h R := by
  refine HCalls_ir (args := [v]) Try.func47 ir47 ?_
  simp only [walk, lists, acts, mem, plain, seqs, maps, cells, resL, resV, intBin, ↓reduceIte, Nat.reduceAdd, Nat.reduceSub, Nat.reduceMul, Nat.reduceLeDiff, Nat.reduceEqDiff, Int.reduceToNat, Int.reduceEq, Int.reduceLT, Int.reduceLE, Int.reduceNeg, Int.reduceAdd, Int.reduceSub, Int.reduceMul, Nat.reducePow, Int.reduceNegSucc, r.len]
  refine ite_lt (fun c1 => .of (k.no fun p => ?_)) fun c1 => ?_
  · have := p.1; omega
  refine vc_loop [3] (fun n vs h' => ∃ i : Nat, vs = [.int .i64 i] ∧ h' = h ∧ i ≤ l.length ∧ n = l.length - i ∧ allP valP (l.take i)) l.length rfl ⟨0, rfl, rfl, by omega, by omega, allP_zero _ _⟩ ?_
  rintro n f h' ⟨i, hv, rfl, hi, rfl, ht⟩
  simp only [List.map_cons, List.map_nil, List.cons.injEq, and_true] at hv
  simp only [walk, lists, acts, mem, plain, seqs, maps, cells, resL, resV, intBin, ↓reduceIte, Nat.reduceAdd, Nat.reduceSub, Nat.reduceMul, Nat.reduceLeDiff, Nat.reduceEqDiff, Int.reduceToNat, Int.reduceEq, Int.reduceLT, Int.reduceLE, Int.reduceNeg, Int.reduceAdd, Int.reduceSub, Int.reduceMul, Nat.reducePow, Int.reduceNegSucc, wr, hv, r.len]
  refine ite_lt (fun c1 => ?_) fun c1 => ?_
  · refine idx_leaf (i := i) eI_len r rfl (by omega) fun b1 o1 e1 => ?_
    simp only [walk, lists, acts, mem, plain, seqs, maps, cells, resL, resV, intBin, ↓reduceIte, Nat.reduceAdd, Nat.reduceSub, Nat.reduceMul, Nat.reduceLeDiff, Nat.reduceEqDiff, Int.reduceToNat, Int.reduceEq, Int.reduceLT, Int.reduceLE, Int.reduceNeg, Int.reduceAdd, Int.reduceSub, Int.reduceMul, Nat.reducePow, Int.reduceNegSucc, hread_1 e1]
    refine l1Val_c fun b hb => ?_
    simp only [walk, lists, acts, mem, plain, seqs, maps, cells, resL, resV, intBin, ↓reduceIte, Nat.reduceAdd, Nat.reduceSub, Nat.reduceMul, Nat.reduceLeDiff, Nat.reduceEqDiff, Int.reduceToNat, Int.reduceEq, Int.reduceLT, Int.reduceLE, Int.reduceNeg, Int.reduceAdd, Int.reduceSub, Int.reduceMul, Nat.reducePow, Int.reduceNegSucc]
    refine ite_f (fun e => .of (k.no fun p => allP_not (by omega) (not_b hb e) p.2)) fun e => ?_
    simp (disch := omega) only [wrapI]
    exact ⟨l.length - (i + 1), by omega, h', .refl _, i + 1, by simp, rfl, by omega, rfl, allP_more (by omega) ht (hb.1 e)⟩
  · exact .of (k.yes ⟨by omega, allP_done (by omega) ht⟩)

theorem allWithin_c {h : H} {v : Value} {m : Int} {l : List Int} (r : rInts h v l) (hl : l.length ≤ 1099511627776) {R : Ending → H → Prop} (k : Asks R (allP (inP 0 m) l) h) : HCalls Try.prog 54 #[.int .i64 m, v] h R := by
  refine HCalls_ir (args := [.int .i64 m, v]) Try.func54 ir54 ?_
  simp only [walk, lists, acts, mem, plain, seqs, maps, cells, resL, resV, intBin, ↓reduceIte, Nat.reduceAdd, Nat.reduceSub, Nat.reduceMul, Nat.reduceLeDiff, Nat.reduceEqDiff, Int.reduceToNat, Int.reduceEq, Int.reduceLT, Int.reduceLE, Int.reduceNeg, Int.reduceAdd, Int.reduceSub, Int.reduceMul, Nat.reducePow, Int.reduceNegSucc, r.len]
  refine vc_loop [9] (fun n vs h' => ∃ i : Nat, vs = [.int .i64 i] ∧ h' = h ∧ i ≤ l.length ∧ n = l.length - i ∧ allP (inP 0 m) (l.take i)) l.length rfl ⟨0, rfl, rfl, by omega, by omega, allP_zero _ _⟩ ?_
  rintro n f h' ⟨i, hv, rfl, hi, rfl, ht⟩
  simp only [List.map_cons, List.map_nil, List.cons.injEq, and_true] at hv
  simp only [walk, lists, acts, mem, plain, seqs, maps, cells, resL, resV, intBin, ↓reduceIte, Nat.reduceAdd, Nat.reduceSub, Nat.reduceMul, Nat.reduceLeDiff, Nat.reduceEqDiff, Int.reduceToNat, Int.reduceEq, Int.reduceLT, Int.reduceLE, Int.reduceNeg, Int.reduceAdd, Int.reduceSub, Int.reduceMul, Nat.reducePow, Int.reduceNegSucc, wr, hv, r.len]
  refine ite_lt (fun c1 => ?_) fun c1 => ?_
  · refine idx_leaf (i := i) eI_len r rfl (by omega) fun b1 o1 e1 => ?_
    simp only [walk, lists, acts, mem, plain, seqs, maps, cells, resL, resV, intBin, ↓reduceIte, Nat.reduceAdd, Nat.reduceSub, Nat.reduceMul, Nat.reduceLeDiff, Nat.reduceEqDiff, Int.reduceToNat, Int.reduceEq, Int.reduceLT, Int.reduceLE, Int.reduceNeg, Int.reduceAdd, Int.reduceSub, Int.reduceMul, Nat.reducePow, Int.reduceNegSucc, hread_1 e1]
    refine within_c fun b hb => ?_
    simp only [walk, lists, acts, mem, plain, seqs, maps, cells, resL, resV, intBin, ↓reduceIte, Nat.reduceAdd, Nat.reduceSub, Nat.reduceMul, Nat.reduceLeDiff, Nat.reduceEqDiff, Int.reduceToNat, Int.reduceEq, Int.reduceLT, Int.reduceLE, Int.reduceNeg, Int.reduceAdd, Int.reduceSub, Int.reduceMul, Nat.reducePow, Int.reduceNegSucc]
    refine ite_f (fun e => .of (k.no fun p => allP_not (by omega) (not_b hb e) p)) fun e => ?_
    simp (disch := omega) only [wrapI]
    exact ⟨l.length - (i + 1), by omega, h', .refl _, i + 1, by simp, rfl, by omega, rfl, allP_more (by omega) ht (hb.1 e)⟩
  · exact .of (k.yes (allP_done (by omega) ht))

theorem isClient_c {a : Int} {h : H} {R : Ending → H → Prop} (k : Asks R (inP 100 102 a) h) : HCalls Try.prog 88 #[.int .i64 a] h R := by
  refine HCalls_ir (args := [.int .i64 a]) Try.func88 ir88 ?_
  simp only [walk, lists, acts, mem, plain, seqs, maps, cells, resL, resV, intBin, ↓reduceIte, Nat.reduceAdd, Nat.reduceSub, Nat.reduceMul, Nat.reduceLeDiff, Nat.reduceEqDiff, Int.reduceToNat, Int.reduceEq, Int.reduceLT, Int.reduceLE, Int.reduceNeg, Int.reduceAdd, Int.reduceSub, Int.reduceMul, Nat.reducePow, Int.reduceNegSucc]
  refine within_c fun b hb => ?_
  simp only [walk, lists, acts, mem, plain, seqs, maps, cells, resL, resV, intBin, ↓reduceIte, Nat.reduceAdd, Nat.reduceSub, Nat.reduceMul, Nat.reduceLeDiff, Nat.reduceEqDiff, Int.reduceToNat, Int.reduceEq, Int.reduceLT, Int.reduceLE, Int.reduceNeg, Int.reduceAdd, Int.reduceSub, Int.reduceMul, Nat.reducePow, Int.reduceNegSucc]
  exact .of (k b hb)

theorem arePlaces_c {h : H} {v : Value} {l : List Int} (r : rInts h v l) (hl : l.length ≤ 1099511627776) {R : Ending → H → Prop} (k : Asks R (allP placeP l) h) : HCalls Try.prog 53 #[v] h R := by
  refine HCalls_ir (args := [v]) Try.func53 ir53 ?_
  simp only [walk, lists, acts, mem, plain, seqs, maps, cells, resL, resV, intBin, ↓reduceIte, Nat.reduceAdd, Nat.reduceSub, Nat.reduceMul, Nat.reduceLeDiff, Nat.reduceEqDiff, Int.reduceToNat, Int.reduceEq, Int.reduceLT, Int.reduceLE, Int.reduceNeg, Int.reduceAdd, Int.reduceSub, Int.reduceMul, Nat.reducePow, Int.reduceNegSucc, r.len]
  refine vc_loop [7] (fun n vs h' => ∃ i : Nat, vs = [.int .i64 i] ∧ h' = h ∧ i ≤ l.length ∧ n = l.length - i ∧ allP placeP (l.take i)) l.length rfl ⟨0, rfl, rfl, by omega, by omega, allP_zero _ _⟩ ?_
  rintro n f h' ⟨i, hv, rfl, hi, rfl, ht⟩
  simp only [List.map_cons, List.map_nil, List.cons.injEq, and_true] at hv
  simp only [walk, lists, acts, mem, plain, seqs, maps, cells, resL, resV, intBin, ↓reduceIte, Nat.reduceAdd, Nat.reduceSub, Nat.reduceMul, Nat.reduceLeDiff, Nat.reduceEqDiff, Int.reduceToNat, Int.reduceEq, Int.reduceLT, Int.reduceLE, Int.reduceNeg, Int.reduceAdd, Int.reduceSub, Int.reduceMul, Nat.reducePow, Int.reduceNegSucc, wr, hv, r.len]
  refine ite_lt (fun c1 => ?_) fun c1 => ?_
  · refine idx_leaf (i := i) eI_len r rfl (by omega) fun b1 o1 e1 => ?_
    simp only [walk, lists, acts, mem, plain, seqs, maps, cells, resL, resV, intBin, ↓reduceIte, Nat.reduceAdd, Nat.reduceSub, Nat.reduceMul, Nat.reduceLeDiff, Nat.reduceEqDiff, Int.reduceToNat, Int.reduceEq, Int.reduceLT, Int.reduceLE, Int.reduceNeg, Int.reduceAdd, Int.reduceSub, Int.reduceMul, Nat.reducePow, Int.reduceNegSucc, hread_1 e1]
    refine isHouse_c fun b hb => ?_
    simp (disch := omega) only [walk, lists, acts, mem, plain, seqs, maps, cells, resL, resV, intBin, ↓reduceIte, Nat.reduceAdd, Nat.reduceSub, Nat.reduceMul, Nat.reduceLeDiff, Nat.reduceEqDiff, Int.reduceToNat, Int.reduceEq, Int.reduceLT, Int.reduceLE, Int.reduceNeg, Int.reduceAdd, Int.reduceSub, Int.reduceMul, Nat.reducePow, Int.reduceNegSucc, wrapI]
    have go : placeP (l[i]'(by omega)) → ∃ m, m < l.length - i ∧ ∃ g, Tk.Sub g h' ∧ ∃ i' : Nat, [Value.int .i64 ((i : Int) + 1)] = [.int .i64 i'] ∧ g = h' ∧ i' ≤ l.length ∧ m = l.length - i' ∧ allP placeP (l.take i') := fun p =>
      ⟨l.length - (i + 1), by omega, h', .refl _, i + 1, by simp, rfl, by omega, rfl, allP_more (by omega) ht p⟩
    refine ite_f (fun e => ?_) fun e => go (.inl (hb.1 e))
    refine ite_ne (fun e2 => ?_) fun e2 => go (.inr (.inl e2))
    refine isClient_c fun b2 hb2 => ?_
    simp (disch := omega) only [walk, lists, acts, mem, plain, seqs, maps, cells, resL, resV, intBin, ↓reduceIte, Nat.reduceAdd, Nat.reduceSub, Nat.reduceMul, Nat.reduceLeDiff, Nat.reduceEqDiff, Int.reduceToNat, Int.reduceEq, Int.reduceLT, Int.reduceLE, Int.reduceNeg, Int.reduceAdd, Int.reduceSub, Int.reduceMul, Nat.reducePow, Int.reduceNegSucc, wrapI]
    refine ite_f (fun e3 => ?_) fun e3 => go (.inr (.inr (hb2.1 e3)))
    refine .of (k.no (allP_not (i := i) (by omega) ?_))
    rintro (p | p | p)
    · exact not_b hb e p
    · exact e2 p
    · exact not_b hb2 e3 p
  · exact .of (k.yes (allP_done (by omega) ht))
end Go.Proofs.Ytllhdnfcneejaaa
end

/- Lists that ascend; words that are ok. -/
section
set_option linter.unusedVariables false
set_option linter.unusedSimpArgs false
set_option maxRecDepth 20000
attribute [local irreducible] Go.Tk.vc Go.Tk.vops Go.Tk.vdr Go.Tk.vop Go.Tk.vfl Go.Tk.HCalls
namespace Go.Proofs.Ytllhdnfcneejaaa
open Go Go.Tk

theorem rising_c {g : FuncId} {P : Int → Prop} (hg : callOk Try.prog g = true) (hc : ∀ {a : Int} {h : H} {R : Ending → H → Prop}, Asks R (P a) h → HCalls Try.prog g #[.int .i64 a] h R)
    {h : H} {v : Value} {l : List Int} (r : rInts h v l) (hl : l.length ≤ 1099511627776) {R : Ending → H → Prop} (k : Asks R (allP P l ∧ risP id l) h) : HCalls Try.prog 55 #[v, .func (.func g) #[] #[]] h R := by
  refine HCalls_ir (args := [v, .func (.func g) #[] #[]]) Try.func55 ir55 ?_
  simp only [walk, lists, acts, mem, plain, seqs, maps, cells, resL, resV, intBin, ↓reduceIte, Nat.reduceAdd, Nat.reduceSub, Nat.reduceMul, Nat.reduceLeDiff, Nat.reduceEqDiff, Int.reduceToNat, Int.reduceEq, Int.reduceLT, Int.reduceLE, Int.reduceNeg, Int.reduceAdd, Int.reduceSub, Int.reduceMul, Nat.reducePow, Int.reduceNegSucc, r.len]
  refine vc_loop [9] (fun n vs h' => ∃ i : Nat, vs = [.int .i64 i] ∧ h' = h ∧ i ≤ l.length ∧ n = l.length - i ∧ allP P (l.take i) ∧ risU id l i) l.length rfl ⟨0, rfl, rfl, by omega, by omega, allP_zero _ _, risU_zero _ _⟩ ?_
  rintro n f h' ⟨i, hv, rfl, hi, rfl, ht, hu⟩
  simp only [List.map_cons, List.map_nil, List.cons.injEq, and_true] at hv
  simp only [walk, lists, acts, mem, plain, seqs, maps, cells, resL, resV, intBin, ↓reduceIte, Nat.reduceAdd, Nat.reduceSub, Nat.reduceMul, Nat.reduceLeDiff, Nat.reduceEqDiff, Int.reduceToNat, Int.reduceEq, Int.reduceLT, Int.reduceLE, Int.reduceNeg, Int.reduceAdd, Int.reduceSub, Int.reduceMul, Nat.reducePow, Int.reduceNegSucc, wr, hv, r.len]
  refine ite_lt (fun c1 => ?_) fun c1 => ?_
  · refine idx_leaf (i := i) eI_len r rfl (by omega) fun b1 o1 e1 => ?_
    simp only [walk, lists, acts, mem, plain, seqs, maps, cells, resL, resV, intBin, ↓reduceIte, Nat.reduceAdd, Nat.reduceSub, Nat.reduceMul, Nat.reduceLeDiff, Nat.reduceEqDiff, Int.reduceToNat, Int.reduceEq, Int.reduceLT, Int.reduceLE, Int.reduceNeg, Int.reduceAdd, Int.reduceSub, Int.reduceMul, Nat.reducePow, Int.reduceNegSucc, hread_1 e1]
    refine ⟨hg, hc fun b hb => ?_⟩
    simp (disch := omega) only [walk, lists, acts, mem, plain, seqs, maps, cells, resL, resV, intBin, ↓reduceIte, Nat.reduceAdd, Nat.reduceSub, Nat.reduceMul, Nat.reduceLeDiff, Nat.reduceEqDiff, Int.reduceToNat, Int.reduceEq, Int.reduceLT, Int.reduceLE, Int.reduceNeg, Int.reduceAdd, Int.reduceSub, Int.reduceMul, Nat.reducePow, Int.reduceNegSucc, wrapI]
    refine ite_f (fun e => .of (k.no fun p => allP_not (by omega) (not_b hb e) p.1)) fun e => ?_
    refine ite_lt (fun c2 => ?_) fun c2 => ?_
    · refine idx_leaf (i := i - 1) eI_len r (by omega) (by omega) fun b2 o2 e2 => ?_
      simp (disch := omega) only [walk, lists, acts, mem, plain, seqs, maps, cells, resL, resV, intBin, ↓reduceIte, Nat.reduceAdd, Nat.reduceSub, Nat.reduceMul, Nat.reduceLeDiff, Nat.reduceEqDiff, Int.reduceToNat, Int.reduceEq, Int.reduceLT, Int.reduceLE, Int.reduceNeg, Int.reduceAdd, Int.reduceSub, Int.reduceMul, Nat.reducePow, Int.reduceNegSucc, hread_1 e2, wrapI]
      refine ite_ge (fun c3 => .of (k.no fun p => risU_not (i := i) (by omega) (by omega) (fun x => ?_) p.2)) fun c3 => ?_
      · simp only [id] at x; omega
      · exact ⟨l.length - (i + 1), by omega, h', .refl _, i + 1, by simp, rfl, by omega, rfl, allP_more (by omega) ht (hb.1 e), risU_more (by omega) (by omega) hu c3⟩
    · exact ⟨l.length - (i + 1), by omega, h', .refl _, i + 1, by simp, rfl, by omega, rfl, allP_more (by omega) ht (hb.1 e), risU_one (by omega) hu⟩
  · exact .of (k.yes ⟨allP_done (by omega) ht, risU_done (by omega) hu⟩)

theorem l12Slots_c {h : H} {v : Value} {l : List Int} (r : rInts h v l) (hl : l.length ≤ 1099511627776) {R : Ending → H → Prop} (k : Asks R (slotsP l) h) : HCalls Try.prog 45 #[v] h R := by
  refine HCalls_ir (args := [v]) Try.func45 ir45 ?_
  simp only [walk, lists, acts, mem, plain, seqs, maps, cells, resL, resV, intBin, ↓reduceIte, Nat.reduceAdd, Nat.reduceSub, Nat.reduceMul, Nat.reduceLeDiff, Nat.reduceEqDiff, Int.reduceToNat, Int.reduceEq, Int.reduceLT, Int.reduceLE, Int.reduceNeg, Int.reduceAdd, Int.reduceSub, Int.reduceMul, Nat.reducePow, Int.reduceNegSucc, r.len]
  refine vc_loop [3] (fun n vs h' => ∃ i : Nat, vs = [.int .i64 i] ∧ h' = h ∧ i ≤ l.length ∧ n = l.length - i ∧ allP slotP (l.take i) ∧ risU id l i) l.length rfl ⟨0, rfl, rfl, by omega, by omega, allP_zero _ _, risU_zero _ _⟩ ?_
  rintro n f h' ⟨i, hv, rfl, hi, rfl, ht, hu⟩
  simp only [List.map_cons, List.map_nil, List.cons.injEq, and_true] at hv
  simp only [walk, lists, acts, mem, plain, seqs, maps, cells, resL, resV, intBin, ↓reduceIte, Nat.reduceAdd, Nat.reduceSub, Nat.reduceMul, Nat.reduceLeDiff, Nat.reduceEqDiff, Int.reduceToNat, Int.reduceEq, Int.reduceLT, Int.reduceLE, Int.reduceNeg, Int.reduceAdd, Int.reduceSub, Int.reduceMul, Nat.reducePow, Int.reduceNegSucc, wr, hv, r.len]
  refine ite_lt (fun c1 => ?_) fun c1 => ?_
  · refine vc_draw _ (Sub.refl _) ?_
    simp only [walk, lists, acts, mem, plain, seqs, maps, cells, resL, resV, intBin, ↓reduceIte, Nat.reduceAdd, Nat.reduceSub, Nat.reduceMul, Nat.reduceLeDiff, Nat.reduceEqDiff, Int.reduceToNat, Int.reduceEq, Int.reduceLT, Int.reduceLE, Int.reduceNeg, Int.reduceAdd, Int.reduceSub, Int.reduceMul, Nat.reducePow, Int.reduceNegSucc]
    refine idx_leaf (i := i) eI_len r rfl (by omega) fun b1 o1 e1 => ?_
    simp only [walk, lists, acts, mem, plain, seqs, maps, cells, resL, resV, intBin, ↓reduceIte, Nat.reduceAdd, Nat.reduceSub, Nat.reduceMul, Nat.reduceLeDiff, Nat.reduceEqDiff, Int.reduceToNat, Int.reduceEq, Int.reduceLT, Int.reduceLE, Int.reduceNeg, Int.reduceAdd, Int.reduceSub, Int.reduceMul, Nat.reducePow, Int.reduceNegSucc, hread_1 e1]
    refine l6In_c fun b hb => ?_
    simp (disch := omega) only [walk, lists, acts, mem, plain, seqs, maps, cells, resL, resV, intBin, ↓reduceIte, Nat.reduceAdd, Nat.reduceSub, Nat.reduceMul, Nat.reduceLeDiff, Nat.reduceEqDiff, Int.reduceToNat, Int.reduceEq, Int.reduceLT, Int.reduceLE, Int.reduceNeg, Int.reduceAdd, Int.reduceSub, Int.reduceMul, Nat.reducePow, Int.reduceNegSucc, wrapI]
    refine ite_f (fun e => .of (k.no fun p => allP_not (by omega) (not_b hb e) p.1)) fun e => ?_
    refine ite_lt (fun c2 => ?_) fun c2 => ?_
    · refine idx_leaf (i := i - 1) eI_len r (by omega) (by omega) fun b2 o2 e2 => ?_
      simp (disch := omega) only [walk, lists, acts, mem, plain, seqs, maps, cells, resL, resV, intBin, ↓reduceIte, Nat.reduceAdd, Nat.reduceSub, Nat.reduceMul, Nat.reduceLeDiff, Nat.reduceEqDiff, Int.reduceToNat, Int.reduceEq, Int.reduceLT, Int.reduceLE, Int.reduceNeg, Int.reduceAdd, Int.reduceSub, Int.reduceMul, Nat.reducePow, Int.reduceNegSucc, hread_1 e2, wrapI]
      refine idx_leaf (i := i) eI_len r rfl (by omega) fun b3 o3 e3 => ?_
      simp (disch := omega) only [walk, lists, acts, mem, plain, seqs, maps, cells, resL, resV, intBin, ↓reduceIte, Nat.reduceAdd, Nat.reduceSub, Nat.reduceMul, Nat.reduceLeDiff, Nat.reduceEqDiff, Int.reduceToNat, Int.reduceEq, Int.reduceLT, Int.reduceLE, Int.reduceNeg, Int.reduceAdd, Int.reduceSub, Int.reduceMul, Nat.reducePow, Int.reduceNegSucc, hread_1 e3, wrapI]
      refine ite_ge (fun c3 => .of (k.no fun p => risU_not (i := i) (by omega) (by omega) (fun x => ?_) p.2)) fun c3 => ?_
      · simp only [id] at x; omega
      · exact ⟨l.length - (i + 1), by omega, h', .refl _, i + 1, by simp, rfl, by omega, rfl, allP_more (by omega) ht (hb.1 e), risU_more (by omega) (by omega) hu c3⟩
    · exact ⟨l.length - (i + 1), by omega, h', .refl _, i + 1, by simp, rfl, by omega, rfl, allP_more (by omega) ht (hb.1 e), risU_one (by omega) hu⟩
  · exact .of (k.yes ⟨allP_done (by omega) ht, risU_done (by omega) hu⟩)

theorem l12Place_c {a : Int} {h : H} {R : Ending → H → Prop} (k : Asks R (placeP a) h) : HCalls Try.prog 44 #[.int .i64 a] h R := by
  refine HCalls_ir (args := [.int .i64 a]) Try.func44 ir44 ?_
  simp only [walk, lists, acts, mem, plain, seqs, maps, cells, resL, resV, intBin, ↓reduceIte, Nat.reduceAdd, Nat.reduceSub, Nat.reduceMul, Nat.reduceLeDiff, Nat.reduceEqDiff, Int.reduceToNat, Int.reduceEq, Int.reduceLT, Int.reduceLE, Int.reduceNeg, Int.reduceAdd, Int.reduceSub, Int.reduceMul, Nat.reducePow, Int.reduceNegSucc]
  refine l12House_c fun b hb => ?_
  simp only [walk, lists, acts, mem, plain, seqs, maps, cells, resL, resV, intBin, ↓reduceIte, Nat.reduceAdd, Nat.reduceSub, Nat.reduceMul, Nat.reduceLeDiff, Nat.reduceEqDiff, Int.reduceToNat, Int.reduceEq, Int.reduceLT, Int.reduceLE, Int.reduceNeg, Int.reduceAdd, Int.reduceSub, Int.reduceMul, Nat.reducePow, Int.reduceNegSucc]
  refine ite_b (fun e => .of (k.yes (.inl (hb.1 e)))) fun e => ?_
  refine ite_pos (fun e2 => .of (k.yes (.inr (.inl e2)))) fun e2 => ?_
  refine l6In_c fun b2 hb2 => ?_
  simp only [walk, lists, acts, mem, plain, seqs, maps, cells, resL, resV, intBin, ↓reduceIte, Nat.reduceAdd, Nat.reduceSub, Nat.reduceMul, Nat.reduceLeDiff, Nat.reduceEqDiff, Int.reduceToNat, Int.reduceEq, Int.reduceLT, Int.reduceLE, Int.reduceNeg, Int.reduceAdd, Int.reduceSub, Int.reduceMul, Nat.reducePow, Int.reduceNegSucc]
  refine .of (k _ (hb2.trans ⟨fun x => .inr (.inr x), fun x => ?_⟩))
  rcases x with x | x | x
  · exact absurd x (not_b hb e)
  · exact absurd x e2
  · exact x
end Go.Proofs.Ytllhdnfcneejaaa
end

/- Pairs and words that are ok. -/
section
set_option linter.unusedVariables false
set_option linter.unusedSimpArgs false
set_option maxRecDepth 20000
attribute [local irreducible] Go.Tk.vc Go.Tk.vops Go.Tk.vdr Go.Tk.vop Go.Tk.vfl Go.Tk.HCalls
namespace Go.Proofs.Ytllhdnfcneejaaa
open Go Go.Tk

theorem pair_cells {h : H} {b o : Nat} {p : Int × Int} (e : hread h b o 2 = some (eP p)) : hcel h b o = some (.int .i64 p.1) ∧ hcel h b (o + 1) = some (.int .i64 p.2) := ⟨hread_c e 0 rfl, hread_c e 1 rfl⟩

theorem pairsOk_c {h : H} {v : Value} {l : List (Int × Int)} (r : rPairs h v l) (hl : l.length ≤ 1099511627776) {R : Ending → H → Prop} (k : Asks R (pairsP l) h) : HCalls Try.prog 57 #[v] h R := by
  refine HCalls_ir (args := [v]) Try.func57 ir57 ?_
  simp only [walk, lists, acts, mem, plain, seqs, maps, cells, resL, resV, intBin, ↓reduceIte, Nat.reduceAdd, Nat.reduceSub, Nat.reduceMul, Nat.reduceLeDiff, Nat.reduceEqDiff, Int.reduceToNat, Int.reduceEq, Int.reduceLT, Int.reduceLE, Int.reduceNeg, Int.reduceAdd, Int.reduceSub, Int.reduceMul, Nat.reducePow, Int.reduceNegSucc, r.len]
  refine ite_lt (fun c0 => .of (k.no fun p => ?_)) fun c0 => ?_
  · have := p.1; omega
  refine vc_loop [10] (fun n vs h' => ∃ i : Nat, vs = [.int .i64 i] ∧ h' = h ∧ i ≤ l.length ∧ n = l.length - i ∧ allP pairP (l.take i) ∧ risU (·.1) l i) l.length rfl ⟨0, rfl, rfl, by omega, by omega, allP_zero _ _, risU_zero _ _⟩ ?_
  rintro n f h' ⟨i, hv, rfl, hi, rfl, ht, hu⟩
  simp only [List.map_cons, List.map_nil, List.cons.injEq, and_true] at hv
  simp only [walk, lists, acts, mem, plain, seqs, maps, cells, resL, resV, intBin, ↓reduceIte, Nat.reduceAdd, Nat.reduceSub, Nat.reduceMul, Nat.reduceLeDiff, Nat.reduceEqDiff, Int.reduceToNat, Int.reduceEq, Int.reduceLT, Int.reduceLE, Int.reduceNeg, Int.reduceAdd, Int.reduceSub, Int.reduceMul, Nat.reducePow, Int.reduceNegSucc, wr, hv, r.len]
  refine ite_lt (fun c1 => ?_) fun c1 => ?_
  · refine idx_leaf (i := i) eP_len r rfl (by omega) fun b1 o1 e1 => ?_
    simp only [walk, lists, acts, mem, plain, seqs, maps, cells, resL, resV, intBin, ↓reduceIte, Nat.reduceAdd, Nat.reduceSub, Nat.reduceMul, Nat.reduceLeDiff, Nat.reduceEqDiff, Int.reduceToNat, Int.reduceEq, Int.reduceLT, Int.reduceLE, Int.reduceNeg, Int.reduceAdd, Int.reduceSub, Int.reduceMul, Nat.reducePow, Int.reduceNegSucc, e1]
    refine newB_intro fun j hj => ?_
    have sj := fun o => Sub.cons (o := o) hj (Sub.refl h')
    have hi2 : i < l.length := by omega
    generalize hx : l[i] = x at *
    have zp : [Value.int .i64 0, .int .i64 0] = eP (0, 0) := rfl
    simp only [zp, walk, lists, acts, mem, plain, seqs, maps, cells, resL, resV, intBin, ↓reduceIte, Nat.reduceAdd, Nat.reduceSub, Nat.reduceMul, Nat.reduceLeDiff, Nat.reduceEqDiff, Int.reduceToNat, Int.reduceEq, Int.reduceLT, Int.reduceLE, Int.reduceNeg, Int.reduceAdd, Int.reduceSub, Int.reduceMul, Nat.reducePow, Int.reduceNegSucc, wPair]
    refine vc_draw _ (Sub.refl _) ?_
    simp only [walk, lists, acts, mem, plain, seqs, maps, cells, resL, resV, intBin, ↓reduceIte, Nat.reduceAdd, Nat.reduceSub, Nat.reduceMul, Nat.reduceLeDiff, Nat.reduceEqDiff, Int.reduceToNat, Int.reduceEq, Int.reduceLT, Int.reduceLE, Int.reduceNeg, Int.reduceAdd, Int.reduceSub, Int.reduceMul, Nat.reducePow, Int.reduceNegSucc, wPair]
    refine isKey_c fun b hb => ?_
    simp (disch := omega) only [walk, lists, acts, mem, plain, seqs, maps, cells, resL, resV, intBin, ↓reduceIte, Nat.reduceAdd, Nat.reduceSub, Nat.reduceMul, Nat.reduceLeDiff, Nat.reduceEqDiff, Int.reduceToNat, Int.reduceEq, Int.reduceLT, Int.reduceLE, Int.reduceNeg, Int.reduceAdd, Int.reduceSub, Int.reduceMul, Nat.reducePow, Int.reduceNegSucc, wPair, wrapI]
    refine ite_f (fun e => ⟨h', sj _, k.no fun p => allP_not hi2 (fun y => not_b hb e (by rw [hx] at y; exact y.1)) p.2.1⟩) fun e => ?_
    refine isVal_c fun b2 hb2 => ?_
    simp (disch := omega) only [walk, lists, acts, mem, plain, seqs, maps, cells, resL, resV, intBin, ↓reduceIte, Nat.reduceAdd, Nat.reduceSub, Nat.reduceMul, Nat.reduceLeDiff, Nat.reduceEqDiff, Int.reduceToNat, Int.reduceEq, Int.reduceLT, Int.reduceLE, Int.reduceNeg, Int.reduceAdd, Int.reduceSub, Int.reduceMul, Nat.reducePow, Int.reduceNegSucc, wPair, wrapI]
    refine ite_f (fun e => ⟨h', sj _, k.no fun p => allP_not hi2 (fun y => not_b hb2 e (by rw [hx] at y; exact y.2)) p.2.1⟩) fun e' => ?_
    have hok : pairP l[i] := by rw [hx]; exact ⟨hb.1 e, hb2.1 e'⟩
    refine ite_lt (fun c2 => ?_) fun c2 => ?_
    · refine idx_leaf (i := i - 1) eP_len (r.sub (sj (blk (eP x) 69))) (by omega) (by omega) fun b2 o2 e2 => ?_
      simp (disch := omega) only [walk, lists, acts, mem, plain, seqs, maps, cells, resL, resV, intBin, ↓reduceIte, Nat.reduceAdd, Nat.reduceSub, Nat.reduceMul, Nat.reduceLeDiff, Nat.reduceEqDiff, Int.reduceToNat, Int.reduceEq, Int.reduceLT, Int.reduceLE, Int.reduceNeg, Int.reduceAdd, Int.reduceSub, Int.reduceMul, Nat.reducePow, Int.reduceNegSucc, wPair, (pair_cells e2).1, wrapI]
      refine ite_ge (fun c3 => ⟨h', sj _, k.no fun p => risU_not (i := i) hi2 (by omega) (fun y => ?_) p.2.2⟩) fun c3 => ?_
      · simp only [hx] at y; omega
      · exact ⟨l.length - (i + 1), by omega, h', sj _, i + 1, by simp, rfl, by omega, rfl, allP_more (by omega) ht hok, risU_more (by omega) (by omega) hu (by simp only [hx]; exact c3)⟩
    · exact ⟨l.length - (i + 1), by omega, h', sj _, i + 1, by simp, rfl, by omega, rfl, allP_more (by omega) ht hok, risU_one (by omega) hu⟩
  · exact .of (k.yes ⟨by omega, allP_done (by omega) ht, risU_done (by omega) hu⟩)

theorem l1Pairs_c {h : H} {v : Value} {l : List (Int × Int)} (r : rPairs h v l) (hl : l.length ≤ 1099511627776) {R : Ending → H → Prop} (k : Asks R (pairsP l) h) : HCalls Try.prog 46 #[v] h R := by
  refine HCalls_ir (args := [v]) Try.func46 ir46 ?_
  simp only [walk, lists, acts, mem, plain, seqs, maps, cells, resL, resV, intBin, ↓reduceIte, Nat.reduceAdd, Nat.reduceSub, Nat.reduceMul, Nat.reduceLeDiff, Nat.reduceEqDiff, Int.reduceToNat, Int.reduceEq, Int.reduceLT, Int.reduceLE, Int.reduceNeg, Int.reduceAdd, Int.reduceSub, Int.reduceMul, Nat.reducePow, Int.reduceNegSucc, r.len]
  refine ite_lt (fun c0 => .of (k.no fun p => ?_)) fun c0 => ?_
  · have := p.1; omega
  refine vc_loop [3] (fun n vs h' => ∃ i : Nat, vs = [.int .i64 i] ∧ h' = h ∧ i ≤ l.length ∧ n = l.length - i ∧ allP pairP (l.take i) ∧ risU (·.1) l i) l.length rfl ⟨0, rfl, rfl, by omega, by omega, allP_zero _ _, risU_zero _ _⟩ ?_
  rintro n f h' ⟨i, hv, rfl, hi, rfl, ht, hu⟩
  simp only [List.map_cons, List.map_nil, List.cons.injEq, and_true] at hv
  simp only [walk, lists, acts, mem, plain, seqs, maps, cells, resL, resV, intBin, ↓reduceIte, Nat.reduceAdd, Nat.reduceSub, Nat.reduceMul, Nat.reduceLeDiff, Nat.reduceEqDiff, Int.reduceToNat, Int.reduceEq, Int.reduceLT, Int.reduceLE, Int.reduceNeg, Int.reduceAdd, Int.reduceSub, Int.reduceMul, Nat.reducePow, Int.reduceNegSucc, wr, hv, r.len]
  refine ite_lt (fun c1 => ?_) fun c1 => ?_
  · refine vc_draw _ (Sub.refl _) ?_
    have hi2 : i < l.length := by omega
    simp only [walk, lists, acts, mem, plain, seqs, maps, cells, resL, resV, intBin, ↓reduceIte, Nat.reduceAdd, Nat.reduceSub, Nat.reduceMul, Nat.reduceLeDiff, Nat.reduceEqDiff, Int.reduceToNat, Int.reduceEq, Int.reduceLT, Int.reduceLE, Int.reduceNeg, Int.reduceAdd, Int.reduceSub, Int.reduceMul, Nat.reducePow, Int.reduceNegSucc]
    refine idx_leaf (i := i) eP_len r rfl hi2 fun b1 o1 e1 => ?_
    simp only [walk, lists, acts, mem, plain, seqs, maps, cells, resL, resV, intBin, ↓reduceIte, Nat.reduceAdd, Nat.reduceSub, Nat.reduceMul, Nat.reduceLeDiff, Nat.reduceEqDiff, Int.reduceToNat, Int.reduceEq, Int.reduceLT, Int.reduceLE, Int.reduceNeg, Int.reduceAdd, Int.reduceSub, Int.reduceMul, Nat.reducePow, Int.reduceNegSucc, (pair_cells e1).1]
    refine l6In_c fun b hb => ?_
    simp (disch := omega) only [walk, lists, acts, mem, plain, seqs, maps, cells, resL, resV, intBin, ↓reduceIte, Nat.reduceAdd, Nat.reduceSub, Nat.reduceMul, Nat.reduceLeDiff, Nat.reduceEqDiff, Int.reduceToNat, Int.reduceEq, Int.reduceLT, Int.reduceLE, Int.reduceNeg, Int.reduceAdd, Int.reduceSub, Int.reduceMul, Nat.reducePow, Int.reduceNegSucc, wrapI]
    refine ite_f (fun e => .of (k.no fun p => allP_not hi2 (fun y => not_b hb e y.1) p.2.1)) fun e => ?_
    refine idx_leaf (i := i) eP_len r rfl hi2 fun b2 o2 e2 => ?_
    simp only [walk, lists, acts, mem, plain, seqs, maps, cells, resL, resV, intBin, ↓reduceIte, Nat.reduceAdd, Nat.reduceSub, Nat.reduceMul, Nat.reduceLeDiff, Nat.reduceEqDiff, Int.reduceToNat, Int.reduceEq, Int.reduceLT, Int.reduceLE, Int.reduceNeg, Int.reduceAdd, Int.reduceSub, Int.reduceMul, Nat.reducePow, Int.reduceNegSucc, (pair_cells e2).2]
    refine l1Val_c fun b2 hb2 => ?_
    simp (disch := omega) only [walk, lists, acts, mem, plain, seqs, maps, cells, resL, resV, intBin, ↓reduceIte, Nat.reduceAdd, Nat.reduceSub, Nat.reduceMul, Nat.reduceLeDiff, Nat.reduceEqDiff, Int.reduceToNat, Int.reduceEq, Int.reduceLT, Int.reduceLE, Int.reduceNeg, Int.reduceAdd, Int.reduceSub, Int.reduceMul, Nat.reducePow, Int.reduceNegSucc, wrapI]
    refine ite_f (fun e => .of (k.no fun p => allP_not hi2 (fun y => not_b hb2 e y.2) p.2.1)) fun e' => ?_
    have hok : pairP l[i] := ⟨hb.1 e, hb2.1 e'⟩
    refine ite_lt (fun c2 => ?_) fun c2 => ?_
    · refine idx_leaf (i := i - 1) eP_len r (by omega) (by omega) fun b3 o3 e3 => ?_
      simp (disch := omega) only [walk, lists, acts, mem, plain, seqs, maps, cells, resL, resV, intBin, ↓reduceIte, Nat.reduceAdd, Nat.reduceSub, Nat.reduceMul, Nat.reduceLeDiff, Nat.reduceEqDiff, Int.reduceToNat, Int.reduceEq, Int.reduceLT, Int.reduceLE, Int.reduceNeg, Int.reduceAdd, Int.reduceSub, Int.reduceMul, Nat.reducePow, Int.reduceNegSucc, (pair_cells e3).1, wrapI]
      refine idx_leaf (i := i) eP_len r rfl (by omega) fun b4 o4 e4 => ?_
      simp (disch := omega) only [walk, lists, acts, mem, plain, seqs, maps, cells, resL, resV, intBin, ↓reduceIte, Nat.reduceAdd, Nat.reduceSub, Nat.reduceMul, Nat.reduceLeDiff, Nat.reduceEqDiff, Int.reduceToNat, Int.reduceEq, Int.reduceLT, Int.reduceLE, Int.reduceNeg, Int.reduceAdd, Int.reduceSub, Int.reduceMul, Nat.reducePow, Int.reduceNegSucc, (pair_cells e4).1, wrapI]
      refine ite_ge (fun c3 => .of (k.no fun p => risU_not (i := i) hi2 (by omega) (fun y => ?_) p.2.2)) fun c3 => ?_
      · omega
      · exact ⟨l.length - (i + 1), by omega, h', .refl _, i + 1, by simp, rfl, by omega, rfl, allP_more (by omega) ht hok, risU_more (by omega) (by omega) hu c3⟩
    · exact ⟨l.length - (i + 1), by omega, h', .refl _, i + 1, by simp, rfl, by omega, rfl, allP_more (by omega) ht hok, risU_one (by omega) hu⟩
  · exact .of (k.yes ⟨by omega, allP_done (by omega) ht, risU_done (by omega) hu⟩)

theorem l12Call_c {h : H} {c : DCall} {R : Ending → H → Prop} (k : Asks R (callP c) h) : HCalls Try.prog 48 #[.agg (cCall c).toArray] h R := by
  refine HCalls_ir (args := [.agg (cCall c).toArray]) Try.func48 ir48 ?_
  simp only [walk, lists, acts, mem, plain, seqs, maps, cells, resL, resV, intBin, ↓reduceIte, Nat.reduceAdd, Nat.reduceSub, Nat.reduceMul, Nat.reduceLeDiff, Nat.reduceEqDiff, Int.reduceToNat, Int.reduceEq, Int.reduceLT, Int.reduceLE, Int.reduceNeg, Int.reduceAdd, Int.reduceSub, Int.reduceMul, Nat.reducePow, Int.reduceNegSucc, wCall]
  refine newB_intro fun j hj => ?_
  have sj := fun o => Sub.cons (o := o) hj (Sub.refl h)
  simp only [walk, lists, acts, mem, plain, seqs, maps, cells, resL, resV, intBin, ↓reduceIte, Nat.reduceAdd, Nat.reduceSub, Nat.reduceMul, Nat.reduceLeDiff, Nat.reduceEqDiff, Int.reduceToNat, Int.reduceEq, Int.reduceLT, Int.reduceLE, Int.reduceNeg, Int.reduceAdd, Int.reduceSub, Int.reduceMul, Nat.reducePow, Int.reduceNegSucc, wCall]
  refine l6In_c fun b1 h1 => ?_
  simp only [walk, lists, acts, mem, plain, seqs, maps, cells, resL, resV, intBin, ↓reduceIte, Nat.reduceAdd, Nat.reduceSub, Nat.reduceMul, Nat.reduceLeDiff, Nat.reduceEqDiff, Int.reduceToNat, Int.reduceEq, Int.reduceLT, Int.reduceLE, Int.reduceNeg, Int.reduceAdd, Int.reduceSub, Int.reduceMul, Nat.reducePow, Int.reduceNegSucc, wCall]
  refine ite_b (fun e1 => ?_) fun e1 => k.dno (sj _) fun p => not_b h1 e1 p.1
  refine l6In_c fun b2 h2 => ?_
  simp only [walk, lists, acts, mem, plain, seqs, maps, cells, resL, resV, intBin, ↓reduceIte, Nat.reduceAdd, Nat.reduceSub, Nat.reduceMul, Nat.reduceLeDiff, Nat.reduceEqDiff, Int.reduceToNat, Int.reduceEq, Int.reduceLT, Int.reduceLE, Int.reduceNeg, Int.reduceAdd, Int.reduceSub, Int.reduceMul, Nat.reducePow, Int.reduceNegSucc, wCall]
  refine ite_b (fun e2 => ?_) fun e2 => k.dno (sj _) fun p => not_b h2 e2 p.2.1
  refine l6In_c fun b3 h3 => ?_
  simp only [walk, lists, acts, mem, plain, seqs, maps, cells, resL, resV, intBin, ↓reduceIte, Nat.reduceAdd, Nat.reduceSub, Nat.reduceMul, Nat.reduceLeDiff, Nat.reduceEqDiff, Int.reduceToNat, Int.reduceEq, Int.reduceLT, Int.reduceLE, Int.reduceNeg, Int.reduceAdd, Int.reduceSub, Int.reduceMul, Nat.reducePow, Int.reduceNegSucc, wCall]
  refine ite_b (fun e3 => ?_) fun e3 => k.dno (sj _) fun p => not_b h3 e3 p.2.2.1
  refine l6In_c fun b4 h4 => ?_
  simp only [walk, lists, acts, mem, plain, seqs, maps, cells, resL, resV, intBin, ↓reduceIte, Nat.reduceAdd, Nat.reduceSub, Nat.reduceMul, Nat.reduceLeDiff, Nat.reduceEqDiff, Int.reduceToNat, Int.reduceEq, Int.reduceLT, Int.reduceLE, Int.reduceNeg, Int.reduceAdd, Int.reduceSub, Int.reduceMul, Nat.reducePow, Int.reduceNegSucc, wCall]
  refine ite_b (fun e4 => ?_) fun e4 => k.dno (sj _) fun p => not_b h4 e4 p.2.2.2.1
  refine l6In_c fun b5 h5 => ?_
  simp only [walk, lists, acts, mem, plain, seqs, maps, cells, resL, resV, intBin, ↓reduceIte, Nat.reduceAdd, Nat.reduceSub, Nat.reduceMul, Nat.reduceLeDiff, Nat.reduceEqDiff, Int.reduceToNat, Int.reduceEq, Int.reduceLT, Int.reduceLE, Int.reduceNeg, Int.reduceAdd, Int.reduceSub, Int.reduceMul, Nat.reducePow, Int.reduceNegSucc, wCall]
  refine ite_b (fun e5 => ?_) fun e5 => k.dno (sj _) fun p => not_b h5 e5 p.2.2.2.2.1
  refine ⟨h, sj _, k _ ?_⟩
  simp only [decide_eq_true_eq]
  exact ⟨fun x => ⟨h1.1 e1, h2.1 e2, h3.1 e3, h4.1 e4, h5.1 e5, by omega⟩, fun p => by have := p.2.2.2.2.2; omega⟩
end Go.Proofs.Ytllhdnfcneejaaa
end

/- Words that are ok. -/
section
set_option linter.unusedVariables false
set_option linter.unusedSimpArgs false
set_option maxRecDepth 20000
attribute [local irreducible] Go.Tk.vc Go.Tk.vops Go.Tk.vdr Go.Tk.vop Go.Tk.vfl Go.Tk.HCalls
namespace Go.Proofs.Ytllhdnfcneejaaa
open Go Go.Tk

theorem specWordOk_c {h : H} {w : DWord} {s p' v : Value} (r : sWord h w s p' v) (hw : wLen w) {R : Ending → H → Prop} (k : Asks R (wordP w) h) : HCalls Try.prog 17 #[.agg (cWord w s p' v).toArray] h R := by
  refine HCalls_ir (args := [.agg (cWord w s p' v).toArray]) Try.func17 ir17 ?_
  simp only [walk, lists, acts, mem, plain, seqs, maps, cells, resL, resV, intBin, ↓reduceIte, Nat.reduceAdd, Nat.reduceSub, Nat.reduceMul, Nat.reduceLeDiff, Nat.reduceEqDiff, Int.reduceToNat, Int.reduceEq, Int.reduceLT, Int.reduceLE, Int.reduceNeg, Int.reduceAdd, Int.reduceSub, Int.reduceMul, Nat.reducePow, Int.reduceNegSucc, wWord]
  refine newB_intro fun j hj => ?_
  have sj := fun o => Sub.cons (o := o) hj (Sub.refl h)
  simp only [walk, lists, acts, mem, plain, seqs, maps, cells, resL, resV, intBin, ↓reduceIte, Nat.reduceAdd, Nat.reduceSub, Nat.reduceMul, Nat.reduceLeDiff, Nat.reduceEqDiff, Int.reduceToNat, Int.reduceEq, Int.reduceLT, Int.reduceLE, Int.reduceNeg, Int.reduceAdd, Int.reduceSub, Int.reduceMul, Nat.reducePow, Int.reduceNegSucc, wWord]
  refine l6In_c fun b0 h0 => ?_
  simp only [walk, lists, acts, mem, plain, seqs, maps, cells, resL, resV, intBin, ↓reduceIte, Nat.reduceAdd, Nat.reduceSub, Nat.reduceMul, Nat.reduceLeDiff, Nat.reduceEqDiff, Int.reduceToNat, Int.reduceEq, Int.reduceLT, Int.reduceLE, Int.reduceNeg, Int.reduceAdd, Int.reduceSub, Int.reduceMul, Nat.reducePow, Int.reduceNegSucc, wWord]
  refine ite_b (fun e0 => ?_) fun e0 => k.dno (sj _) fun p => not_b h0 e0 p.1
  refine l12Place_c fun b1 h1 => ?_
  simp only [walk, lists, acts, mem, plain, seqs, maps, cells, resL, resV, intBin, ↓reduceIte, Nat.reduceAdd, Nat.reduceSub, Nat.reduceMul, Nat.reduceLeDiff, Nat.reduceEqDiff, Int.reduceToNat, Int.reduceEq, Int.reduceLT, Int.reduceLE, Int.reduceNeg, Int.reduceAdd, Int.reduceSub, Int.reduceMul, Nat.reducePow, Int.reduceNegSucc, wWord]
  refine ite_b (fun e1 => ?_) fun e1 => k.dno (sj _) fun p => not_b h1 e1 p.2.1
  refine l12Place_c fun b2 h2 => ?_
  simp only [walk, lists, acts, mem, plain, seqs, maps, cells, resL, resV, intBin, ↓reduceIte, Nat.reduceAdd, Nat.reduceSub, Nat.reduceMul, Nat.reduceLeDiff, Nat.reduceEqDiff, Int.reduceToNat, Int.reduceEq, Int.reduceLT, Int.reduceLE, Int.reduceNeg, Int.reduceAdd, Int.reduceSub, Int.reduceMul, Nat.reducePow, Int.reduceNegSucc, wWord]
  refine ite_b (fun e2 => ?_) fun e2 => k.dno (sj _) fun p => not_b h2 e2 p.2.2.1
  refine l6In_c fun b3 h3 => ?_
  simp only [walk, lists, acts, mem, plain, seqs, maps, cells, resL, resV, intBin, ↓reduceIte, Nat.reduceAdd, Nat.reduceSub, Nat.reduceMul, Nat.reduceLeDiff, Nat.reduceEqDiff, Int.reduceToNat, Int.reduceEq, Int.reduceLT, Int.reduceLE, Int.reduceNeg, Int.reduceAdd, Int.reduceSub, Int.reduceMul, Nat.reducePow, Int.reduceNegSucc, wWord]
  refine ite_b (fun e3 => ?_) fun e3 => k.dno (sj _) fun p => not_b h3 e3 p.2.2.2.1
  refine l6In_c fun b4 h4 => ?_
  simp only [walk, lists, acts, mem, plain, seqs, maps, cells, resL, resV, intBin, ↓reduceIte, Nat.reduceAdd, Nat.reduceSub, Nat.reduceMul, Nat.reduceLeDiff, Nat.reduceEqDiff, Int.reduceToNat, Int.reduceEq, Int.reduceLT, Int.reduceLE, Int.reduceNeg, Int.reduceAdd, Int.reduceSub, Int.reduceMul, Nat.reducePow, Int.reduceNegSucc, wWord]
  refine ite_b (fun e4 => ?_) fun e4 => k.dno (sj _) fun p => not_b h4 e4 p.2.2.2.2.1
  refine l6In_c fun b5 h5 => ?_
  simp only [walk, lists, acts, mem, plain, seqs, maps, cells, resL, resV, intBin, ↓reduceIte, Nat.reduceAdd, Nat.reduceSub, Nat.reduceMul, Nat.reduceLeDiff, Nat.reduceEqDiff, Int.reduceToNat, Int.reduceEq, Int.reduceLT, Int.reduceLE, Int.reduceNeg, Int.reduceAdd, Int.reduceSub, Int.reduceMul, Nat.reducePow, Int.reduceNegSucc, wWord]
  refine ite_b (fun e5 => ?_) fun e5 => k.dno (sj _) fun p => not_b h5 e5 p.2.2.2.2.2.1
  refine l12Slots_c (r.1.sub (sj _)) hw.1 fun b6 h6 => ?_
  simp only [walk, lists, acts, mem, plain, seqs, maps, cells, resL, resV, intBin, ↓reduceIte, Nat.reduceAdd, Nat.reduceSub, Nat.reduceMul, Nat.reduceLeDiff, Nat.reduceEqDiff, Int.reduceToNat, Int.reduceEq, Int.reduceLT, Int.reduceLE, Int.reduceNeg, Int.reduceAdd, Int.reduceSub, Int.reduceMul, Nat.reducePow, Int.reduceNegSucc, wWord]
  refine ite_b (fun e6 => ?_) fun e6 => k.dno (sj _) fun p => not_b h6 e6 p.2.2.2.2.2.2.1
  refine l1Pairs_c (r.2.1.sub (sj _)) hw.2.1 fun b7 h7 => ?_
  simp only [walk, lists, acts, mem, plain, seqs, maps, cells, resL, resV, intBin, ↓reduceIte, Nat.reduceAdd, Nat.reduceSub, Nat.reduceMul, Nat.reduceLeDiff, Nat.reduceEqDiff, Int.reduceToNat, Int.reduceEq, Int.reduceLT, Int.reduceLE, Int.reduceNeg, Int.reduceAdd, Int.reduceSub, Int.reduceMul, Nat.reducePow, Int.reduceNegSucc, wWord]
  refine ite_b (fun e7 => ?_) fun e7 => k.dno (sj _) fun p => not_b h7 e7 p.2.2.2.2.2.2.2.1
  refine l6In_c fun b8 h8 => ?_
  simp only [walk, lists, acts, mem, plain, seqs, maps, cells, resL, resV, intBin, ↓reduceIte, Nat.reduceAdd, Nat.reduceSub, Nat.reduceMul, Nat.reduceLeDiff, Nat.reduceEqDiff, Int.reduceToNat, Int.reduceEq, Int.reduceLT, Int.reduceLE, Int.reduceNeg, Int.reduceAdd, Int.reduceSub, Int.reduceMul, Nat.reducePow, Int.reduceNegSucc, wWord]
  refine ite_b (fun e8 => ?_) fun e8 => k.dno (sj _) fun p => not_b h8 e8 p.2.2.2.2.2.2.2.2.1
  refine l3Vals_c (r.2.2.sub (sj _)) hw.2.2 fun b9 h9 => ?_
  simp only [walk, lists, acts, mem, plain, seqs, maps, cells, resL, resV, intBin, ↓reduceIte, Nat.reduceAdd, Nat.reduceSub, Nat.reduceMul, Nat.reduceLeDiff, Nat.reduceEqDiff, Int.reduceToNat, Int.reduceEq, Int.reduceLT, Int.reduceLE, Int.reduceNeg, Int.reduceAdd, Int.reduceSub, Int.reduceMul, Nat.reducePow, Int.reduceNegSucc, wWord]
  refine ite_b (fun e9 => ?_) fun e9 => k.dno (sj _) fun p => not_b h9 e9 p.2.2.2.2.2.2.2.2.2.1
  refine l12Call_c (c := w.call) fun b10 h10 => ?_
  simp only [walk, lists, acts, mem, plain, seqs, maps, cells, resL, resV, intBin, ↓reduceIte, Nat.reduceAdd, Nat.reduceSub, Nat.reduceMul, Nat.reduceLeDiff, Nat.reduceEqDiff, Int.reduceToNat, Int.reduceEq, Int.reduceLT, Int.reduceLE, Int.reduceNeg, Int.reduceAdd, Int.reduceSub, Int.reduceMul, Nat.reducePow, Int.reduceNegSucc, wWord]
  refine ⟨h, sj _, k _ (h10.trans ⟨fun x => ⟨h0.1 e0, h1.1 e1, h2.1 e2, h3.1 e3, h4.1 e4, h5.1 e5, h6.1 e6, h7.1 e7, h8.1 e8, h9.1 e9, x⟩, fun p => p.2.2.2.2.2.2.2.2.2.2⟩)⟩

theorem implWordOk_c {h : H} {w : DWord} {s p' v : Value} (r : sWord h w s p' v) (hw : wLen w) {R : Ending → H → Prop} (k : Asks R (wordP w) h) : HCalls Try.prog 19 #[.agg (cWord w s p' v).toArray] h R := by
  refine HCalls_ir (args := [.agg (cWord w s p' v).toArray]) Try.func19 ir19 ?_
  simp only [walk, lists, acts, mem, plain, seqs, maps, cells, resL, resV, intBin, ↓reduceIte, Nat.reduceAdd, Nat.reduceSub, Nat.reduceMul, Nat.reduceLeDiff, Nat.reduceEqDiff, Int.reduceToNat, Int.reduceEq, Int.reduceLT, Int.reduceLE, Int.reduceNeg, Int.reduceAdd, Int.reduceSub, Int.reduceMul, Nat.reducePow, Int.reduceNegSucc, wWord]
  refine newB_intro fun j hj => ?_
  have sj := fun o => Sub.cons (o := o) hj (Sub.refl h)
  simp only [walk, lists, acts, mem, plain, seqs, maps, cells, resL, resV, intBin, ↓reduceIte, Nat.reduceAdd, Nat.reduceSub, Nat.reduceMul, Nat.reduceLeDiff, Nat.reduceEqDiff, Int.reduceToNat, Int.reduceEq, Int.reduceLT, Int.reduceLE, Int.reduceNeg, Int.reduceAdd, Int.reduceSub, Int.reduceMul, Nat.reducePow, Int.reduceNegSucc, wWord]
  refine newB_intro fun j2 hj2 => ?_
  have n2 := fresh hj2
  have sj2 := fun o => Sub.cons (o := o) hj2 (sj _)
  have zc := zCall_eq
  simp only [str] at zc
  simp only [str, zc, walk, lists, acts, mem, plain, seqs, maps, cells, resL, resV, intBin, ↓reduceIte, Nat.reduceAdd, Nat.reduceSub, Nat.reduceMul, Nat.reduceLeDiff, Nat.reduceEqDiff, Int.reduceToNat, Int.reduceEq, Int.reduceLT, Int.reduceLE, Int.reduceNeg, Int.reduceAdd, Int.reduceSub, Int.reduceMul, Nat.reducePow, Int.reduceNegSucc, wWord, wCall, n2.1, n2.2.1]
  refine within_c fun b0 h0 => ?_
  simp only [walk, lists, acts, mem, plain, seqs, maps, cells, resL, resV, intBin, ↓reduceIte, Nat.reduceAdd, Nat.reduceSub, Nat.reduceMul, Nat.reduceLeDiff, Nat.reduceEqDiff, Int.reduceToNat, Int.reduceEq, Int.reduceLT, Int.reduceLE, Int.reduceNeg, Int.reduceAdd, Int.reduceSub, Int.reduceMul, Nat.reducePow, Int.reduceNegSucc, wWord, wCall, n2.1, n2.2.1]
  refine ite_b (fun e0 => ?_) fun e0 => k.dno (sj2 _) fun p => not_b h0 e0 p.1
  refine newB_intro fun j3 hj3 => ?_
  simp only [walk, lists, acts, mem, plain, seqs, maps, cells, resL, resV, intBin, ↓reduceIte, Nat.reduceAdd, Nat.reduceSub, Nat.reduceMul, Nat.reduceLeDiff, Nat.reduceEqDiff, Int.reduceToNat, Int.reduceEq, Int.reduceLT, Int.reduceLE, Int.reduceNeg, Int.reduceAdd, Int.reduceSub, Int.reduceMul, Nat.reducePow, Int.reduceNegSucc]
  refine HCalls.drop (arePlaces_c (l := [w.from_, w.to]) (rI_lit [w.from_, w.to]) (by simp) fun b1 h1 => ⟨_, Sub.cons hj3 (Sub.refl _), ?_⟩)
  simp only [walk, lists, acts, mem, plain, seqs, maps, cells, resL, resV, intBin, ↓reduceIte, Nat.reduceAdd, Nat.reduceSub, Nat.reduceMul, Nat.reduceLeDiff, Nat.reduceEqDiff, Int.reduceToNat, Int.reduceEq, Int.reduceLT, Int.reduceLE, Int.reduceNeg, Int.reduceAdd, Int.reduceSub, Int.reduceMul, Nat.reducePow, Int.reduceNegSucc, wWord, wCall, n2.1, n2.2.1]
  refine ite_b (fun e1 => ?_) fun e1 => k.dno (sj2 _) fun p => not_b h1 e1 (by simp [allP, p.2.1, p.2.2.1])
  refine newB_intro fun j4 hj4 => ?_
  simp only [walk, lists, acts, mem, plain, seqs, maps, cells, resL, resV, intBin, ↓reduceIte, Nat.reduceAdd, Nat.reduceSub, Nat.reduceMul, Nat.reduceLeDiff, Nat.reduceEqDiff, Int.reduceToNat, Int.reduceEq, Int.reduceLT, Int.reduceLE, Int.reduceNeg, Int.reduceAdd, Int.reduceSub, Int.reduceMul, Nat.reducePow, Int.reduceNegSucc]
  refine HCalls.drop (allWithin_c (l := [w.stamp, w.try_, w.call.session, w.call.number, w.call.kind, w.call.slot, w.call.to]) (rI_lit [w.stamp, w.try_, w.call.session, w.call.number, w.call.kind, w.call.slot, w.call.to]) (by simp) fun b2 h2 => ⟨_, Sub.cons hj4 (Sub.refl _), ?_⟩)
  simp only [walk, lists, acts, mem, plain, seqs, maps, cells, resL, resV, intBin, ↓reduceIte, Nat.reduceAdd, Nat.reduceSub, Nat.reduceMul, Nat.reduceLeDiff, Nat.reduceEqDiff, Int.reduceToNat, Int.reduceEq, Int.reduceLT, Int.reduceLE, Int.reduceNeg, Int.reduceAdd, Int.reduceSub, Int.reduceMul, Nat.reducePow, Int.reduceNegSucc, wWord, wCall, n2.1, n2.2.1]
  refine ite_b (fun e2 => ?_) fun e2 => k.dno (sj2 _) fun p => not_b h2 e2 (by obtain ⟨p1, p2, p3, p4, p5, p6, p7, p8, p9, p10, q1, q2, q3, q4, q5, q6⟩ := p; simp only [stampP] at *; simp [allP, *])
  refine newB_intro fun j5 hj5 => ?_
  simp only [walk, lists, acts, mem, plain, seqs, maps, cells, resL, resV, intBin, ↓reduceIte, Nat.reduceAdd, Nat.reduceSub, Nat.reduceMul, Nat.reduceLeDiff, Nat.reduceEqDiff, Int.reduceToNat, Int.reduceEq, Int.reduceLT, Int.reduceLE, Int.reduceNeg, Int.reduceAdd, Int.reduceSub, Int.reduceMul, Nat.reducePow, Int.reduceNegSucc]
  refine HCalls.drop (allWithin_c (l := [w.what]) (rI_lit [w.what]) (by simp) fun b3 h3 => ⟨_, Sub.cons hj5 (Sub.refl _), ?_⟩)
  simp only [walk, lists, acts, mem, plain, seqs, maps, cells, resL, resV, intBin, ↓reduceIte, Nat.reduceAdd, Nat.reduceSub, Nat.reduceMul, Nat.reduceLeDiff, Nat.reduceEqDiff, Int.reduceToNat, Int.reduceEq, Int.reduceLT, Int.reduceLE, Int.reduceNeg, Int.reduceAdd, Int.reduceSub, Int.reduceMul, Nat.reducePow, Int.reduceNegSucc, wWord, wCall, n2.1, n2.2.1]
  refine ite_b (fun e3 => ?_) fun e3 => k.dno (sj2 _) fun p => not_b h3 e3 (by obtain ⟨p1, p2, p3, p4, p5, p6, p7, p8, p9, p10, q1, q2, q3, q4, q5, q6⟩ := p; simp [allP, *])
  refine newB_intro fun j6 hj6 => ?_
  simp only [walk, lists, acts, mem, plain, seqs, maps, cells, resL, resV, intBin, ↓reduceIte, Nat.reduceAdd, Nat.reduceSub, Nat.reduceMul, Nat.reduceLeDiff, Nat.reduceEqDiff, Int.reduceToNat, Int.reduceEq, Int.reduceLT, Int.reduceLE, Int.reduceNeg, Int.reduceAdd, Int.reduceSub, Int.reduceMul, Nat.reducePow, Int.reduceNegSucc]
  refine HCalls.drop (allWithin_c (l := [w.code]) (rI_lit [w.code]) (by simp) fun b4 h4 => ⟨_, Sub.cons hj6 (Sub.refl _), ?_⟩)
  simp only [walk, lists, acts, mem, plain, seqs, maps, cells, resL, resV, intBin, ↓reduceIte, Nat.reduceAdd, Nat.reduceSub, Nat.reduceMul, Nat.reduceLeDiff, Nat.reduceEqDiff, Int.reduceToNat, Int.reduceEq, Int.reduceLT, Int.reduceLE, Int.reduceNeg, Int.reduceAdd, Int.reduceSub, Int.reduceMul, Nat.reducePow, Int.reduceNegSucc, wWord, wCall, n2.1, n2.2.1]
  refine ite_b (fun e4 => ?_) fun e4 => k.dno (sj2 _) fun p => not_b h4 e4 (by obtain ⟨p1, p2, p3, p4, p5, p6, p7, p8, p9, p10, q1, q2, q3, q4, q5, q6⟩ := p; simp [allP, *])
  refine newB_intro fun j7 hj7 => ?_
  simp only [walk, lists, acts, mem, plain, seqs, maps, cells, resL, resV, intBin, ↓reduceIte, Nat.reduceAdd, Nat.reduceSub, Nat.reduceMul, Nat.reduceLeDiff, Nat.reduceEqDiff, Int.reduceToNat, Int.reduceEq, Int.reduceLT, Int.reduceLE, Int.reduceNeg, Int.reduceAdd, Int.reduceSub, Int.reduceMul, Nat.reducePow, Int.reduceNegSucc]
  refine HCalls.drop (allWithin_c (l := [(w.call.text.length : Int)]) (rI_lit [(w.call.text.length : Int)]) (by simp) fun b5 h5 => ⟨_, Sub.cons hj7 (Sub.refl _), ?_⟩)
  simp only [walk, lists, acts, mem, plain, seqs, maps, cells, resL, resV, intBin, ↓reduceIte, Nat.reduceAdd, Nat.reduceSub, Nat.reduceMul, Nat.reduceLeDiff, Nat.reduceEqDiff, Int.reduceToNat, Int.reduceEq, Int.reduceLT, Int.reduceLE, Int.reduceNeg, Int.reduceAdd, Int.reduceSub, Int.reduceMul, Nat.reducePow, Int.reduceNegSucc, wWord, wCall, n2.1, n2.2.1]
  refine ite_b (fun e5 => ?_) fun e5 => k.dno (sj2 _) fun p => not_b h5 e5 (by obtain ⟨p1, p2, p3, p4, p5, p6, p7, p8, p9, p10, q1, q2, q3, q4, q5, q6⟩ := p; simp [allP, inP]; omega)
  refine rising_c (by kernel_rfl) isSlot_c (r.1.sub (sj2 _)) hw.1 fun b6 h6 => ?_
  simp only [walk, lists, acts, mem, plain, seqs, maps, cells, resL, resV, intBin, ↓reduceIte, Nat.reduceAdd, Nat.reduceSub, Nat.reduceMul, Nat.reduceLeDiff, Nat.reduceEqDiff, Int.reduceToNat, Int.reduceEq, Int.reduceLT, Int.reduceLE, Int.reduceNeg, Int.reduceAdd, Int.reduceSub, Int.reduceMul, Nat.reducePow, Int.reduceNegSucc, wWord, wCall, n2.1, n2.2.1]
  refine ite_b (fun e6 => ?_) fun e6 => k.dno (sj2 _) fun p => not_b h6 e6 p.2.2.2.2.2.2.1
  refine pairsOk_c (r.2.1.sub (sj2 _)) hw.2.1 fun b7 h7 => ?_
  simp only [walk, lists, acts, mem, plain, seqs, maps, cells, resL, resV, intBin, ↓reduceIte, Nat.reduceAdd, Nat.reduceSub, Nat.reduceMul, Nat.reduceLeDiff, Nat.reduceEqDiff, Int.reduceToNat, Int.reduceEq, Int.reduceLT, Int.reduceLE, Int.reduceNeg, Int.reduceAdd, Int.reduceSub, Int.reduceMul, Nat.reducePow, Int.reduceNegSucc, wWord, wCall, n2.1, n2.2.1]
  refine ite_b (fun e7 => ?_) fun e7 => k.dno (sj2 _) fun p => not_b h7 e7 p.2.2.2.2.2.2.2.1
  refine valsOk_c (r.2.2.sub (sj2 _)) hw.2.2 fun b8 h8 => ?_
  simp only [walk, lists, acts, mem, plain, seqs, maps, cells, resL, resV, intBin, ↓reduceIte, Nat.reduceAdd, Nat.reduceSub, Nat.reduceMul, Nat.reduceLeDiff, Nat.reduceEqDiff, Int.reduceToNat, Int.reduceEq, Int.reduceLT, Int.reduceLE, Int.reduceNeg, Int.reduceAdd, Int.reduceSub, Int.reduceMul, Nat.reducePow, Int.reduceNegSucc, wWord, wCall, n2.1, n2.2.1]
  refine ⟨h, sj2 _, k _ (h8.trans ⟨fun x => ?_, fun p => p.2.2.2.2.2.2.2.2.2.1⟩)⟩
  have a1 := h1.1 e1
  have a2 := h2.1 e2
  have a3 := h3.1 e3
  have a4 := h4.1 e4
  have a5 := h5.1 e5
  simp only [allP, List.mem_cons, List.not_mem_nil, or_false, forall_eq_or_imp, forall_eq] at a1 a2 a3 a4 a5
  refine ⟨h0.1 e0, a1.1, a1.2, a2.1, a2.2.1, a3, h6.1 e6, h7.1 e7, a4, x, a2.2.2.1, a2.2.2.2.1, a2.2.2.2.2.1, a2.2.2.2.2.2.1, a2.2.2.2.2.2.2, ?_⟩
  have := a5.2
  omega
end Go.Proofs.Ytllhdnfcneejaaa
end
