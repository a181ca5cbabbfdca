/- The program's structs as data. -/
import Derived.Test.YtllhdnfcneejaaaA16
set_option linter.unusedVariables false
set_option linter.unusedSimpArgs false
set_option maxRecDepth 4000
namespace Go.Tk
open Go

theorem zPair_eq : [.int .i64 0, .int .i64 0] = eP ((0, 0) : Int × Int) := rfl
theorem wPair :
    (∀ (d : (Int × Int)), (eP d).length = 2) ∧
    (∀ (d : (Int × Int)), (eP d)[0]? = some (.int .i64 d.1)) ∧
    (∀ (d : (Int × Int)), (eP d)[1]? = some (.int .i64 d.2)) ∧
    (∀ (d : (Int × Int)), ((eP d).drop 0).take 2 = eP d) ∧
    (∀ (d : (Int × Int)), (eP d).take 2 = eP d) ∧
    (∀ (d : (Int × Int)), (eP d).all vone = true) ∧
    (∀ (d : (Int × Int)) (x : Int), splice (eP d) 0 [.int .i64 x] = eP (x, d.2)) ∧
    (∀ (d : (Int × Int)) (x : Int), splice (eP d) 1 [.int .i64 x] = eP (d.1, x)) ∧
    (∀ (d e : (Int × Int)), splice (eP d) 0 (eP e) = eP e) :=
  ⟨fun _ => rfl, fun _ => rfl, fun _ => rfl, fun _ => rfl, fun _ => rfl, fun _ => rfl, fun _ _ => rfl, fun _ _ => rfl, fun _ _ => rfl⟩

structure DCall where
  session : Int
  number : Int
  kind : Int
  text : List UInt8
  slot : Int
  to : Int
deriving DecidableEq
def cCall (d : DCall) : List Value := [.int .i64 d.session, .int .i64 d.number, .int .i64 d.kind, .string ⟨(d.text).toArray⟩, .int .i64 d.slot, .int .i64 d.to]
def zCall : DCall := ⟨0, 0, 0, [], 0, 0⟩
theorem zCall_eq : [.int .i64 0, .int .i64 0, .int .i64 0, str [], .int .i64 0, .int .i64 0] = cCall zCall := rfl
theorem wCall :
    (∀ (d : DCall), (cCall d).length = 6) ∧
    (∀ (d : DCall), (cCall d)[0]? = some (.int .i64 d.session)) ∧
    (∀ (d : DCall), (cCall d)[1]? = some (.int .i64 d.number)) ∧
    (∀ (d : DCall), (cCall d)[2]? = some (.int .i64 d.kind)) ∧
    (∀ (d : DCall), (cCall d)[3]? = some (.string ⟨(d.text).toArray⟩)) ∧
    (∀ (d : DCall), (cCall d)[4]? = some (.int .i64 d.slot)) ∧
    (∀ (d : DCall), (cCall d)[5]? = some (.int .i64 d.to)) ∧
    (∀ (d : DCall), ((cCall d).drop 0).take 6 = cCall d) ∧
    (∀ (d : DCall), (cCall d).take 6 = cCall d) ∧
    (∀ (d : DCall), (cCall d).all vone = true) ∧
    (∀ (d : DCall) (x : Int), splice (cCall d) 0 [.int .i64 x] = cCall { d with session := x }) ∧
    (∀ (d : DCall) (x : Int), splice (cCall d) 1 [.int .i64 x] = cCall { d with number := x }) ∧
    (∀ (d : DCall) (x : Int), splice (cCall d) 2 [.int .i64 x] = cCall { d with kind := x }) ∧
    (∀ (d : DCall) (x : List UInt8), splice (cCall d) 3 [.string ⟨(x).toArray⟩] = cCall { d with text := x }) ∧
    (∀ (d : DCall) (x : Int), splice (cCall d) 4 [.int .i64 x] = cCall { d with slot := x }) ∧
    (∀ (d : DCall) (x : Int), splice (cCall d) 5 [.int .i64 x] = cCall { d with to := x }) ∧
    (∀ (d e : DCall), splice (cCall d) 0 (cCall e) = cCall e) :=
  ⟨fun _ => rfl, fun _ => rfl, fun _ => rfl, fun _ => rfl, fun _ => rfl, fun _ => rfl, fun _ => rfl, fun _ => rfl, fun _ => rfl, fun _ => rfl, fun _ _ => rfl, fun _ _ => rfl, fun _ _ => rfl, fun _ _ => rfl, fun _ _ => rfl, fun _ _ => rfl, fun _ _ => rfl⟩

structure DWord where
  kind : Int
  from_ : Int
  to : Int
  stamp : Int
  try_ : Int
  what : Int
  yes : Bool
  slots : List Int
  pairs : List ((Int × Int))
  code : Int
  vals : List Int
  call : DCall
deriving DecidableEq
def cWord (d : DWord) (slots' pairs' vals' : Value) : List Value := [.int .i64 d.kind, .int .i64 d.from_, .int .i64 d.to, .int .i64 d.stamp, .int .i64 d.try_, .int .i64 d.what, .bool d.yes, slots', pairs', .int .i64 d.code, vals', .int .i64 d.call.session, .int .i64 d.call.number, .int .i64 d.call.kind, .string ⟨(d.call.text).toArray⟩, .int .i64 d.call.slot, .int .i64 d.call.to]
def zWord : DWord := ⟨0, 0, 0, 0, 0, 0, false, [], [], 0, [], ⟨0, 0, 0, [], 0, 0⟩⟩
theorem zWord_eq : [.int .i64 0, .int .i64 0, .int .i64 0, .int .i64 0, .int .i64 0, .int .i64 0, .bool false, .slice none 0 0, .slice none 0 0, .int .i64 0, .slice none 0 0, .int .i64 0, .int .i64 0, .int .i64 0, str [], .int .i64 0, .int .i64 0] = cWord zWord (.slice none 0 0) (.slice none 0 0) (.slice none 0 0) := rfl
theorem wWord :
    (∀ (d : DWord) (slots' pairs' vals' : Value), (cWord d slots' pairs' vals').length = 17) ∧
    (∀ (d : DWord) (slots' pairs' vals' : Value), (cWord d slots' pairs' vals')[0]? = some (.int .i64 d.kind)) ∧
    (∀ (d : DWord) (slots' pairs' vals' : Value), (cWord d slots' pairs' vals')[1]? = some (.int .i64 d.from_)) ∧
    (∀ (d : DWord) (slots' pairs' vals' : Value), (cWord d slots' pairs' vals')[2]? = some (.int .i64 d.to)) ∧
    (∀ (d : DWord) (slots' pairs' vals' : Value), (cWord d slots' pairs' vals')[3]? = some (.int .i64 d.stamp)) ∧
    (∀ (d : DWord) (slots' pairs' vals' : Value), (cWord d slots' pairs' vals')[4]? = some (.int .i64 d.try_)) ∧
    (∀ (d : DWord) (slots' pairs' vals' : Value), (cWord d slots' pairs' vals')[5]? = some (.int .i64 d.what)) ∧
    (∀ (d : DWord) (slots' pairs' vals' : Value), (cWord d slots' pairs' vals')[6]? = some (.bool d.yes)) ∧
    (∀ (d : DWord) (slots' pairs' vals' : Value), (cWord d slots' pairs' vals')[7]? = some (slots')) ∧
    (∀ (d : DWord) (slots' pairs' vals' : Value), (cWord d slots' pairs' vals')[8]? = some (pairs')) ∧
    (∀ (d : DWord) (slots' pairs' vals' : Value), (cWord d slots' pairs' vals')[9]? = some (.int .i64 d.code)) ∧
    (∀ (d : DWord) (slots' pairs' vals' : Value), (cWord d slots' pairs' vals')[10]? = some (vals')) ∧
    (∀ (d : DWord) (slots' pairs' vals' : Value), (cWord d slots' pairs' vals')[11]? = some (.int .i64 d.call.session)) ∧
    (∀ (d : DWord) (slots' pairs' vals' : Value), (cWord d slots' pairs' vals')[12]? = some (.int .i64 d.call.number)) ∧
    (∀ (d : DWord) (slots' pairs' vals' : Value), (cWord d slots' pairs' vals')[13]? = some (.int .i64 d.call.kind)) ∧
    (∀ (d : DWord) (slots' pairs' vals' : Value), (cWord d slots' pairs' vals')[14]? = some (.string ⟨(d.call.text).toArray⟩)) ∧
    (∀ (d : DWord) (slots' pairs' vals' : Value), (cWord d slots' pairs' vals')[15]? = some (.int .i64 d.call.slot)) ∧
    (∀ (d : DWord) (slots' pairs' vals' : Value), (cWord d slots' pairs' vals')[16]? = some (.int .i64 d.call.to)) ∧
    (∀ (d : DWord) (slots' pairs' vals' : Value), ((cWord d slots' pairs' vals').drop 0).take 17 = cWord d slots' pairs' vals') ∧
    (∀ (d : DWord) (slots' pairs' vals' : Value), (cWord d slots' pairs' vals').take 17 = cWord d slots' pairs' vals') ∧
    (∀ (d : DWord) (slots' pairs' vals' : Value), vone slots' = true → vone pairs' = true → vone vals' = true → (cWord d slots' pairs' vals').all vone = true) ∧
    (∀ (d : DWord) (slots' pairs' vals' : Value) (x : Int), splice (cWord d slots' pairs' vals') 0 [.int .i64 x] = cWord { d with kind := x } slots' pairs' vals') ∧
    (∀ (d : DWord) (slots' pairs' vals' : Value) (x : Int), splice (cWord d slots' pairs' vals') 1 [.int .i64 x] = cWord { d with from_ := x } slots' pairs' vals') ∧
    (∀ (d : DWord) (slots' pairs' vals' : Value) (x : Int), splice (cWord d slots' pairs' vals') 2 [.int .i64 x] = cWord { d with to := x } slots' pairs' vals') ∧
    (∀ (d : DWord) (slots' pairs' vals' : Value) (x : Int), splice (cWord d slots' pairs' vals') 3 [.int .i64 x] = cWord { d with stamp := x } slots' pairs' vals') ∧
    (∀ (d : DWord) (slots' pairs' vals' : Value) (x : Int), splice (cWord d slots' pairs' vals') 4 [.int .i64 x] = cWord { d with try_ := x } slots' pairs' vals') ∧
    (∀ (d : DWord) (slots' pairs' vals' : Value) (x : Int), splice (cWord d slots' pairs' vals') 5 [.int .i64 x] = cWord { d with what := x } slots' pairs' vals') ∧
    (∀ (d : DWord) (slots' pairs' vals' : Value) (x : Bool), splice (cWord d slots' pairs' vals') 6 [.bool x] = cWord { d with yes := x } slots' pairs' vals') ∧
    (∀ (d : DWord) (slots' pairs' vals' : Value) (x : Value), splice (cWord d slots' pairs' vals') 7 [x] = cWord d x pairs' vals') ∧
    (∀ (d : DWord) (slots' pairs' vals' : Value) (x : Value), splice (cWord d slots' pairs' vals') 8 [x] = cWord d slots' x vals') ∧
    (∀ (d : DWord) (slots' pairs' vals' : Value) (x : Int), splice (cWord d slots' pairs' vals') 9 [.int .i64 x] = cWord { d with code := x } slots' pairs' vals') ∧
    (∀ (d : DWord) (slots' pairs' vals' : Value) (x : Value), splice (cWord d slots' pairs' vals') 10 [x] = cWord d slots' pairs' x) ∧
    (∀ (d : DWord) (slots' pairs' vals' : Value) (x : Int), splice (cWord d slots' pairs' vals') 11 [.int .i64 x] = cWord { d with call := { d.call with session := x } } slots' pairs' vals') ∧
    (∀ (d : DWord) (slots' pairs' vals' : Value) (x : Int), splice (cWord d slots' pairs' vals') 12 [.int .i64 x] = cWord { d with call := { d.call with number := x } } slots' pairs' vals') ∧
    (∀ (d : DWord) (slots' pairs' vals' : Value) (x : Int), splice (cWord d slots' pairs' vals') 13 [.int .i64 x] = cWord { d with call := { d.call with kind := x } } slots' pairs' vals') ∧
    (∀ (d : DWord) (slots' pairs' vals' : Value) (x : List UInt8), splice (cWord d slots' pairs' vals') 14 [.string ⟨(x).toArray⟩] = cWord { d with call := { d.call with text := x } } slots' pairs' vals') ∧
    (∀ (d : DWord) (slots' pairs' vals' : Value) (x : Int), splice (cWord d slots' pairs' vals') 15 [.int .i64 x] = cWord { d with call := { d.call with slot := x } } slots' pairs' vals') ∧
    (∀ (d : DWord) (slots' pairs' vals' : Value) (x : Int), splice (cWord d slots' pairs' vals') 16 [.int .i64 x] = cWord { d with call := { d.call with to := x } } slots' pairs' vals') ∧
    (∀ (d e : DWord) (slots' pairs' vals' : Value) (slots'' pairs'' vals'' : Value), splice (cWord d slots' pairs' vals') 0 (cWord e slots'' pairs'' vals'') = cWord e slots'' pairs'' vals'') ∧
    (∀ (d : DWord) (slots' pairs' vals' : Value), ((cWord d slots' pairs' vals').drop 11).take 6 = cCall d.call) ∧
    (∀ (d : DWord) (slots' pairs' vals' : Value) (x : DCall), splice (cWord d slots' pairs' vals') 11 (cCall x) = cWord { d with call := x } slots' pairs' vals') :=
  ⟨fun _ _ _ _ => rfl, fun _ _ _ _ => rfl, fun _ _ _ _ => rfl, fun _ _ _ _ => rfl, fun _ _ _ _ => rfl, fun _ _ _ _ => rfl, fun _ _ _ _ => rfl, fun _ _ _ _ => rfl, fun _ _ _ _ => rfl, fun _ _ _ _ => rfl, fun _ _ _ _ => rfl, fun _ _ _ _ => rfl, fun _ _ _ _ => rfl, fun _ _ _ _ => rfl, fun _ _ _ _ => rfl, fun _ _ _ _ => rfl, fun _ _ _ _ => rfl, fun _ _ _ _ => rfl, fun _ _ _ _ => rfl, fun _ _ _ _ => rfl, fun _ _ _ _ h0 h1 h2 => by simp only [cWord, List.all_cons, List.all_nil, h0, h1, h2]; rfl, fun _ _ _ _ _ => rfl, fun _ _ _ _ _ => rfl, fun _ _ _ _ _ => rfl, fun _ _ _ _ _ => rfl, fun _ _ _ _ _ => rfl, fun _ _ _ _ _ => rfl, fun _ _ _ _ _ => rfl, fun _ _ _ _ _ => rfl, fun _ _ _ _ _ => rfl, fun _ _ _ _ _ => rfl, fun _ _ _ _ _ => rfl, fun _ _ _ _ _ => rfl, fun _ _ _ _ _ => rfl, fun _ _ _ _ _ => rfl, fun _ _ _ _ _ => rfl, fun _ _ _ _ _ => rfl, fun _ _ _ _ _ => rfl, fun _ _ _ _ _ _ _ _ => rfl, fun _ _ _ _ => rfl, fun _ _ _ _ _ => rfl⟩
/-- What a word's slices read. -/
def sWord (h : H) (d : DWord) (slots' pairs' vals' : Value) : Prop := rLs h eI 1 slots' d.slots ∧ rLs h eP 2 pairs' d.pairs ∧ rLs h eI 1 vals' d.vals
def rWord (h : H) (cs : List Value) (d : DWord) : Prop := ∃ slots' pairs' vals', cs = cWord d slots' pairs' vals' ∧ sWord h d slots' pairs' vals'
theorem sWord.sub {g h : H} (s : Sub g h) {d : DWord} {slots' pairs' vals' : Value} (r : sWord g d slots' pairs' vals') : sWord h d slots' pairs' vals' := by
  obtain ⟨u0, u1, u2⟩ := r
  exact ⟨rLs.sub s u0, rLs.sub s u1, rLs.sub s u2⟩
theorem rWord.sub {g h : H} (s : Sub g h) {c : List Value} {d : DWord} (r : rWord g c d) : rWord h c d := by
  obtain ⟨slots', pairs', vals', e, r⟩ := r
  exact ⟨slots', pairs', vals', e, sWord.sub s r⟩

structure DStatement where
  do_ : Int
  key : Int
  num : Int
deriving DecidableEq
def cStatement (d : DStatement) : List Value := [.int .i64 d.do_, .int .i64 d.key, .int .i64 d.num]
def zStatement : DStatement := ⟨0, 0, 0⟩
theorem zStatement_eq : [.int .i64 0, .int .i64 0, .int .i64 0] = cStatement zStatement := rfl
theorem wStatement :
    (∀ (d : DStatement), (cStatement d).length = 3) ∧
    (∀ (d : DStatement), (cStatement d)[0]? = some (.int .i64 d.do_)) ∧
    (∀ (d : DStatement), (cStatement d)[1]? = some (.int .i64 d.key)) ∧
    (∀ (d : DStatement), (cStatement d)[2]? = some (.int .i64 d.num)) ∧
    (∀ (d : DStatement), ((cStatement d).drop 0).take 3 = cStatement d) ∧
    (∀ (d : DStatement), (cStatement d).take 3 = cStatement d) ∧
    (∀ (d : DStatement), (cStatement d).all vone = true) ∧
    (∀ (d : DStatement) (x : Int), splice (cStatement d) 0 [.int .i64 x] = cStatement { d with do_ := x }) ∧
    (∀ (d : DStatement) (x : Int), splice (cStatement d) 1 [.int .i64 x] = cStatement { d with key := x }) ∧
    (∀ (d : DStatement) (x : Int), splice (cStatement d) 2 [.int .i64 x] = cStatement { d with num := x }) ∧
    (∀ (d e : DStatement), splice (cStatement d) 0 (cStatement e) = cStatement e) :=
  ⟨fun _ => rfl, fun _ => rfl, fun _ => rfl, fun _ => rfl, fun _ => rfl, fun _ => rfl, fun _ => rfl, fun _ _ => rfl, fun _ _ => rfl, fun _ _ => rfl, fun _ _ => rfl⟩

end Go.Tk
