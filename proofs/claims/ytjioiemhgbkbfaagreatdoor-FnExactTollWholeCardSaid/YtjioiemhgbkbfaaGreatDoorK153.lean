/- Code with its types looked up, and what is to be shown of it. -/
import Derived.Test.YtjioiemhgbkbfaaGreatDoorK152
set_option maxHeartbeats 4000000
set_option maxRecDepth 100000
set_option linter.unusedVariables false
set_option linter.unusedSimpArgs false
set_option linter.defProp false
namespace Go.Tk
open Go
variable {ds : List Deferred}
structure N where
 d : Option Nat
 g : Option (Nat × Bool)
 i : I
structure D where
 k : Nat
 n : N
inductive C where
 | ops (l : List N)
 | draw (l : List D)
 | any (l : List (N × List Nat))
 | cut (a b : C)
 | seq (a b : C)
 | cond (x : Operand) (a b : C)
 | block (id : Nat) (c : C)
 | loop (c : C)
 | exit (id : Nat)
 | ret
 | skip
 | raw (c : Code)
 | rng (g : Operand) (ps : List Nat) (a b : C)
def evl (env : List Value) : Operand -> Value
 | .tmp t => env.getD t undef
 | .const v => v
 | .global g => .pointer (some ⟨g, 0, none⟩)
 | .func f => .func (.func f) #[] #[]
def putE (d : Option Nat) (v : Value) (env : List Value) : List Value :=
 match d with
 | none => env
 | some d => env.set d v
abbrev KK := Exit -> List Value -> H -> Prop
def isB : Value -> Bool -> Bool
 | .bool b, w => b == w
 | _, _ => false
def vops (P : Program) : List N -> List Value -> H -> KK -> Prop
 | [], env, h, K => K .normal env h
 | n :: r, env, h, K => match n.g with
  | none => vop P (evl env) h (fun v h' => vops P r (putE n.d v env) h' K) (fun c h' => K (.panic c) env h') n.i
  | some (t, w) => if isB (evl env (.tmp t)) w = true then vop P (evl env) h (fun v h' => vops P r (putE n.d v env) h' K) (fun c h' => K (.panic c) env h') n.i else vops P r (putE n.d undef env) h K
def cont (P : Program) (r : List N) (d : Option Nat) (env : List Value) (K : KK) : Value -> H -> Prop := fun v h => vops P r (putE d v env) h K
def panK (env : List Value) (K : KK) : List PanicEntry -> H -> Prop := fun c h => K (.panic c) env h
theorem zIY (P : Program) (r : List N) (d : Nat) (env : List Value) (K : KK) (v : Value) (h : H) : cont P r (some d) env K v h = vops P r (env.set d v) h K := rfl
theorem zCR (P : Program) (r : List N) (env : List Value) (K : KK) (v : Value) (h : H) : cont P r none env K v h = vops P r env h K := rfl
theorem zGH (env : List Value) (K : KK) (c : List PanicEntry) (h : H) : panK env K c h = K (.panic c) env h := rfl
theorem zDR (P : Program) (env : List Value) (h : H) (K : KK) : vops P [] env h K = K .normal env h := rfl
theorem qZE (P : Program) (d : Option Nat) (i : I) (r : List N) (env : List Value) (h : H) (K : KK) : vops P (⟨d, none, i⟩ :: r) env h K = vop P (evl env) h (cont P r d env K) (panK env K) i := rfl
theorem zAY (d : Nat) (v : Value) (env : List Value) : putE (some d) v env = env.set d v := rfl
theorem zAZ (v : Value) (env : List Value) : putE none v env = env := rfl
def qDI (env : List Value) : Option (Nat × Bool) -> Bool
 | none => true
 | some (t, w) => isB (env.getD t undef) w
def vdr (P : Program) : List D -> List Value -> H -> H -> KK -> Prop
 | [], env, h, _, K => K .normal env h
 | x :: r, env, h, hr, K =>
  if qDI env x.n.g = true then
   (match x.k with
    | 0 => vfl (evl env) hr (fun v => vdr P r (putE x.n.d v env) h hr K) x.n.i
    | 1 => (match x.n.i with
      | .call f args => ∃ v, (∀ R : Ending -> H -> Prop, R (.returned v) hr -> HCalls P f (args.map (evl env)).toArray hr R) /\ vdr P r (putE x.n.d v env) h hr K
      | .raw op ty => ∃ v, (∀ (K' : Value -> H -> Prop) (X' : List PanicEntry -> H -> Prop), K' v hr -> vop P (evl env) hr K' X' (.raw op ty)) /\ vdr P r (putE x.n.d v env) h hr K
      | _ => False)
    | 2 => vop P (evl env) h (fun v h' => Sub hr h' /\ vdr P r (putE x.n.d v env) h' hr K) (fun _ _ => False) x.n.i
    | 4 => vop P (evl env) h (fun v h' => Sub hr h' /\ vdr P r (putE x.n.d v env) h' h' K) (fun _ _ => False) x.n.i
    | _ => vop P (evl env) h (fun v h' => vdr P r (putE x.n.d v env) h' hr K) (fun _ _ => False) x.n.i)
  else vdr P r (putE x.n.d undef env) h hr K
def qMA (J : Nat -> List Value -> H -> Prop) (n : Nat) (K : KK) : KK
 | .normal, env, h => ∃ m, m < n /\ ∃ g, Sub g h /\ J m env g
 | e, env, h => K e env h
def nds : List N -> List Nat
 | [] => []
 | ⟨some d, _, _⟩ :: l => d :: nds l
 | ⟨none, _, _⟩ :: l => nds l
theorem qXW : ∀ {l : List N} {n : N}, n ∈ l -> ∀ i, n.d = some i -> i ∈ nds l := by
 intro l
 induction l with
 | nil => intro n hn; cases hn
 | cons m l ih =>
  intro n hn i hi
  obtain ⟨d, g, o⟩ := m
  rcases List.mem_cons.1 hn with rfl | hm
  ·simp only at hi; subst hi; simp [nds]
  ·cases d <;> simp [nds, ih hm i hi]
def Agr (W : List Nat) (e e' : List Value) : Prop := e'.length = e.length /\ ∀ i, i ∉ W -> e'[i]? = e[i]?
theorem Agr.refl (W : List Nat) (e : List Value) : Agr W e e := ⟨rfl, fun _ _ => rfl⟩
theorem Agr.put {W : List Nat} {e e' : List Value} (a : Agr W e e') {d : Option Nat} (hd : ∀ i, d = some i -> i ∈ W) (v : Value) : Agr W e (putE d v e') := by
 cases d with
 | none => exact a
 | some d =>
  refine ⟨by simp [putE, a.1], fun i hi => ?_⟩
  have : d ≠ i := fun e => hi (e ▸ hd d rfl)
  simp only [putE]
  rw [List.getElem?_set_ne this]
  exact a.2 i hi
theorem Agr.more {W W' : List Nat} {a b c : List Value} (x : Agr W' a b) (y : Agr W b c) (h : ∀ i ∈ W, i ∈ W') : Agr W' a c :=
 ⟨y.1.trans x.1, fun i hi => (y.2 i (fun m => hi (h i m))).trans (x.2 i hi)⟩
def hav (env : List Value) : List Nat -> (Nat -> Value) -> List Value
 | [], _ => env
 | i :: W, f => hav (env.set i (f i)) W f
theorem hav_nil (env : List Value) (f : Nat -> Value) : hav env [] f = env := rfl
theorem qJK (env : List Value) (i : Nat) (W : List Nat) (f : Nat -> Value) : hav env (i :: W) f = hav (env.set i (f i)) W f := rfl
theorem qHL (f : Nat -> Value) : ∀ (W : List Nat) (env : List Value) (j : Nat), (hav env W f)[j]? = if j ∈ W /\ j < env.length then some (f j) else env[j]? := by
 intro W
 induction W with
 | nil => intro env j; simp [hav]
 | cons i W ih =>
  intro env j
  rw [qJK, ih]
  simp only [List.length_set, List.mem_cons]
  by_cases hj : j ∈ W /\ j < env.length
  ·rw [if_pos hj, if_pos ⟨.inr hj.1, hj.2⟩]
  ·rw [if_neg hj]
   by_cases e : j = i
   ·subst e
    by_cases hl : j < env.length
    ·rw [if_pos ⟨.inl rfl, hl⟩]; simp [hl]
    ·rw [if_neg (fun x => hl x.2)]
     simp [hl]
   ·rw [List.getElem?_set_ne (Ne.symm e)]
    rw [if_neg (fun x => hj ⟨x.1.resolve_left e, x.2⟩)]
theorem Agr.hav {W : List Nat} {e e' : List Value} (a : Agr W e e') : e' = hav e W (fun i => e'.getD i undef) := by
 apply List.ext_getElem?
 intro j
 rw [qHL]
 by_cases hj : j ∈ W /\ j < e.length
 ·rw [if_pos hj]
  have : j < e'.length := by rw [a.1]; exact hj.2
  simp [this]
 ·rw [if_neg hj]
  by_cases hw : j ∈ W
  ·have h1 : ¬ j < e.length := fun x => hj ⟨hw, x⟩
   have h2 : ¬ j < e'.length := by rw [a.1]; exact h1
   simp [List.getElem?_eq_none (Nat.le_of_not_lt h1), List.getElem?_eq_none (Nat.le_of_not_lt h2)]
  ·exact a.2 j hw
theorem hav_agr (env : List Value) (W : List Nat) (f : Nat -> Value) : Agr W env (hav env W f) := by
 refine ⟨?_, fun i hi => ?_⟩
 ·have key : ∀ (W : List Nat) (env : List Value), (hav env W f).length = env.length := by
   intro W
   induction W with
   | nil => intro env; rfl
   | cons i W ih => intro env; rw [qJK, ih]; simp
  exact key W env
 ·rw [qHL, if_neg (fun x => hi x.1)]
def dq (Q : List (H -> Value -> Prop)) (W : List Nat) (g : H) (f : Nat -> Value) : List Nat -> Prop
 | [] => True
 | d :: r => (Q.getD d (fun _ _ => True)) g (f (W.getD d 0)) /\ dq Q W g f r
def vgo (P : Program) (env : List Value) (g : Option (Nat × Bool)) (h : H) (K : Value -> H -> Prop) (i : I) : Prop := if qDI env g = true then vop P (evl env) h K (fun _ _ => False) i else K undef h
def vany (P : Program) (mem : Nat -> H -> H -> Prop) (Q : List (H -> Value -> Prop)) (rest : H) (W : List Nat) (env : List Value) (K : List Value -> H -> Prop) : Nat -> List (N × List Nat) -> Prop
 | _, [] => False
 | i, x :: r => match r with
  | [] => ∀ m f h g, mem (m + 1) h g -> Sub rest g -> dq Q W g f x.2 -> ∃ g0, Sub g0 h /\ vop P (evl (hav env W f)) g0 (fun v h' => K (putE x.1.d v (hav env W f)) h') (fun _ _ => False) x.1.i
  | _ :: _ => (∀ m f h g, mem (m + 1) h g -> Sub rest g -> dq Q W g f x.2 -> vgo P (hav env W f) x.1.g h (fun v h' => ∃ g', mem m h' g' /\ Sub g g' /\ (Q.getD i (fun _ _ => True)) g' v) x.1.i) /\ vany P mem Q rest W env K (i + 1) r
def vc (P : Program) : C -> List Value -> H -> KK -> Prop
 | .ops l, env, h, K => vops P l env h K
 | .draw l, env, h, K => ∃ hr, Sub hr h /\ vdr P l env h hr K
 | .any l, env, h, K => ∃ (mem : Nat -> H -> H -> Prop) (Q : List (H -> Value -> Prop)) (rest : H), (∀ q ∈ Q, ∀ g g' v, Sub g g' -> q g v -> q g' v) /\ mem l.length h rest /\ (nds (l.map (·.1))).all (fun d => decide (d < env.length)) = true /\ vany P mem Q rest (nds (l.map (·.1))) env (K .normal) 0 l
 | .seq a b, env, h, K => vc P a env h fun e env h => match e with
  | .normal => vc P b env h K
  | e => K e env h
 | .cond x a b, env, h, K => match evl env x with
  | .bool c => if c = true then vc P a env h K else vc P b env h K
  | _ => False
 | .block id c, env, h, K => vc P c env h fun e env h => match e with
  | .exit id' => if id' = id then K .normal env h else K (.exit id') env h
  | e => K e env h
 | .loop c, env, h, K => ∃ (J : Nat -> List Value -> H -> Prop) (n : Nat), (∃ g, Sub g h /\ J n env g) /\ ∀ n env h, J n env h -> vc P c env h (qMA J n K)
 | .cut a b, env, h, K => vc P a env h fun e env h => match e with
  | .normal => ∃ g, Sub g h /\ vc P b env g K
  | e => K e env h
 | .exit id, env, h, K => K (.exit id) env h
 | .ret, env, h, K => K .ret env h
 | .skip, env, h, K => K .normal env h
 | .rng .., _, _, _ => False
 | .raw c, env, h, K => ∀ ds : List Deferred, HC none P c (fun e a h' => ∃ env', a = ⟨env'.toArray, ds⟩ /\ K e env' h') ⟨env.toArray, ds⟩ h
def seqC (P : Program) (b : C) (K : KK) : KK
 | .normal, env, h => vc P b env h K
 | e, env, h => K e env h
def blkC (id : Nat) (K : KK) : KK
 | .exit id', env, h => if id' = id then K .normal env h else K (.exit id') env h
 | e, env, h => K e env h
def cutC (P : Program) (b : C) (K : KK) : KK
 | .normal, env, h => ∃ g, Sub g h /\ vc P b env g K
 | e, env, h => K e env h
def qXJ (P : Program) (v : Value) (a b : C) (env : List Value) (h : H) (K : KK) : Prop :=
 match v with
 | .bool c => if c = true then vc P a env h K else vc P b env h K
 | _ => False
theorem vc_ops (P : Program) (l : List N) (env : List Value) (h : H) (K : KK) : vc P (.ops l) env h K = vops P l env h K := rfl
theorem qNH (P : Program) (a b : C) (env : List Value) (h : H) (K : KK) : vc P (.seq a b) env h K = vc P a env h (seqC P b K) := by
 simp only [vc]
 congr 1
 funext e env h
 cases e <;> rfl
theorem qTY (P : Program) (a b : C) (env : List Value) (h : H) (K : KK) : vc P (.cut a b) env h K = vc P a env h (cutC P b K) := by
 simp only [vc]
 congr 1
 funext e env h
 cases e <;> rfl
theorem qNI (P : Program) (x : Operand) (a b : C) (env : List Value) (h : H) (K : KK) : vc P (.cond x a b) env h K = qXJ P (evl env x) a b env h K := rfl
theorem qHV (P : Program) (id : Nat) (c : C) (env : List Value) (h : H) (K : KK) : vc P (.block id c) env h K = vc P c env h (blkC id K) := by
 simp only [vc]
 congr 1
 funext e env h
 cases e <;> rfl
theorem vc_exit (P : Program) (id : Nat) (env : List Value) (h : H) (K : KK) : vc P (.exit id) env h K = K (.exit id) env h := rfl
theorem vc_ret (P : Program) (env : List Value) (h : H) (K : KK) : vc P .ret env h K = K .ret env h := rfl
theorem vc_skip (P : Program) (env : List Value) (h : H) (K : KK) : vc P .skip env h K = K .normal env h := rfl
theorem qQL (P : Program) (b : C) (K : KK) (env : List Value) (h : H) : seqC P b K .normal env h = vc P b env h K := rfl
theorem zAU (P : Program) (b : C) (K : KK) (id : Nat) (env : List Value) (h : H) : seqC P b K (.exit id) env h = K (.exit id) env h := rfl
theorem zFU (P : Program) (b : C) (K : KK) (env : List Value) (h : H) : seqC P b K .ret env h = K .ret env h := rfl
theorem qUP (P : Program) (b : C) (K : KK) (c : List PanicEntry) (env : List Value) (h : H) : seqC P b K (.panic c) env h = K (.panic c) env h := rfl
theorem qTC (id : Nat) (K : KK) (env : List Value) (h : H) : blkC id K .normal env h = K .normal env h := rfl
theorem zCX (id id' : Nat) (K : KK) (env : List Value) (h : H) : blkC id K (.exit id') env h = if id' = id then K .normal env h else K (.exit id') env h := rfl
theorem zJE (id : Nat) (K : KK) (env : List Value) (h : H) : blkC id K .ret env h = K .ret env h := rfl
theorem qWT (id : Nat) (K : KK) (c : List PanicEntry) (env : List Value) (h : H) : blkC id K (.panic c) env h = K (.panic c) env h := rfl
def cn (P : Program) (ops : Array Oper) (o : Oper) : Option N :=
 match o.guard with
 | none => some ⟨o.dst, none, ci P o.op o.type⟩
 | some (j, w) => match (ops[j]?).bind (·.dst) with
  | some t => some ⟨o.dst, some (t, w), ci P o.op o.type⟩
  | none => none
def cns (P : Program) (ops : Array Oper) : List Oper -> Option (List N)
 | [] => some []
 | o :: r => match cn P ops o, cns P ops r with
  | some n, some l => some (n :: l)
  | _, _ => none
def zHZ : I -> Bool
 | .mov _ | .pick .. | .load .. | .fld .. | .get .. | .idxS .. | .idxA .. | .idxT .. | .nilc _ | .bin .. | .beq .. | .ieq .. | .leq .. | .not _ | .conv .. | .iface .. | .fn .. | .build .. | .slc .. | .slT .. | .lenT _ | .lenS _ | .btos _ | .ext .. | .asrt .. => true
 | _ => false
def aKind : I -> Bool
 | .alloc .. | .box .. | .bslice .. | .mslice .. => true
 | _ => false
def zJC : I -> Bool
 | .call .. => true
 | .raw (.lookup ..) _ => true
 | _ => false
def qNQ (ops : Array Oper) : Nat -> Nat
 | 0 => 0
 | i + 1 => if (List.range i).all (fun j => qPH .any ops i j || puI ops j) then qNQ ops i else i + 1
def isSt (ops : Array Oper) (i : Nat) : Bool := match ops[i]? with
 | some o => (match o.op with | .store .. => true | _ => false)
 | none => false
def tailS (ops : Array Oper) : Nat :=
 if qNQ ops ops.size = ops.size /\ isSt ops (ops.size - 1) = true /\ qPJ .any ops (ops.size - 1) = true then ops.size - 1 else qNQ ops ops.size
def qGG (P : Program) (ops : Array Oper) (i k : Nat) (r : Option (List D)) : Option (List D) :=
 match ops[i]? with
 | some o => match cn P ops o, r with
  | some n, some l => some (⟨k, n⟩ :: l)
  | _, _ => none
 | none => none
def zHF (P : Program) (ops : Array Oper) (f : I -> Bool) (i : Nat) : Bool :=
 match ops[i]? with
 | some o => f (ci P o.op o.type)
 | none => false
def zJN (P : Program) (ops : Array Oper) (i : Nat) : Bool :=
 match ops[i]? with
 | some o => match o.op with
  | .binOp _ t _ _ _ => match P.underlying t with
   | some (.struct _) => true
   | _ => false
  | _ => false
 | none => false
def qAO (P : Program) (ops : Array Oper) (s : Nat) (listed : Array Bool) (f : I -> Bool) (i : Nat) : Bool :=
 zHF P ops f i && decide (i < s) && Region.free .any ops listed i && (puI ops i || zFF .any ops (fun j => decide (s <= j) || puI ops j) i) && !zJN P ops i
def kC (P : Program) (ops : Array Oper) (s : Nat) : Nat -> Array Bool -> Option (List D)
 | 0, listed => if Region.ready .any ops listed = [] then some [] else none
 | fuel + 1, listed => match Region.ready .any ops listed with
  | [] => some []
  | [i] => if s <= i then (if (List.range ops.size).all (fun j => listed.getD j true || decide (s <= j)) then qGG P ops i 3 (kC P ops s fuel (listed.setIfInBounds i true)) else none)
   else qGG P ops i (if ((kC P ops s fuel (listed.setIfInBounds i true)).getD []).any (fun d => (d.k == 2 || d.k == 4) && !aKind d.n.i) then 2 else 4) (kC P ops s fuel (listed.setIfInBounds i true))
  | rs => match rs.find? (qAO P ops s listed zHZ) with
   | some i => qGG P ops i 0 (kC P ops s fuel (listed.setIfInBounds i true))
   | none => match rs.find? (qAO P ops s listed zJC) with
    | some i => qGG P ops i 1 (kC P ops s fuel (listed.setIfInBounds i true))
    | none => none
def qWJ (P : Program) (ops : Array Oper) : Option (List D) :=
 if decide (ops.size < 90) && (P.follows .mixedOrders && Region.noSelect ops) then kC P ops (tailS ops) ops.size (Array.replicate ops.size false) else none
def qAQ (o : Oper) : List Nat := (o.after.toList.filter (Region.binds .any)).map (·.on)
def sucB (ops : Array Oper) (i j : Nat) : Bool := (List.range (i + 1)).any fun k => decide (j < k) && (match ops[k]? with
 | some o => (qAQ o).contains j
 | none => false)
theorem sucB_at {ops : Array Oper} {i j : Nat} (h : sucB ops i j = true) : ∃ k, j < k /\ k <= i /\ ∃ o, ops[k]? = some o /\ j ∈ qAQ o := by
 unfold sucB at h
 obtain ⟨k, hk, h⟩ := List.any_eq_true.1 h
 rw [List.mem_range] at hk
 simp only [Bool.and_eq_true, decide_eq_true_eq] at h
 obtain ⟨h1, h2⟩ := h
 split at h2
 ·rename_i o ho; exact ⟨k, h1, by omega, o, ho, by simpa using h2⟩
 ·cases h2
def anyL (P : Program) (ops : Array Oper) : Nat -> List Oper -> Option (List (N × List Nat))
 | _, [] => none
 | i, o :: r => match r with
  | [] => match cn P ops o with
   | some n => if n.g.isNone && (List.range i).all (sucB ops i) && (qAQ o).all (fun j => decide (j < i)) then some [(n, List.range i)] else none
   | none => none
  | _ :: _ => match cn P ops o, anyL P ops (i + 1) r with
   | some n, some l => if n.d.isSome && (qAQ o).all (fun j => decide (j < i)) then some ((n, qAQ o) :: l) else none
   | _, _ => none
def ndup : List Nat -> Bool
 | [] => true
 | a :: l => !l.contains a && ndup l
def zJM (P : Program) (ops : Array Oper) : Option (List (N × List Nat)) :=
 match anyL P ops 0 ops.toList with
 | some l => if P.follows .mixedOrders && ndup (nds (l.map (·.1))) then some l else none
 | none => none
def cc (P : Program) : Code -> C
 | .skip => .skip
 | .region id ops draw => match draw, cns P ops ops.toList with
  | false, some l => .ops l
  | true, _ => match qWJ P ops with
   | some l => .draw l
   | none => match zJM P ops with
    | some l => .any l
    | none => .raw (.region id ops true)
  | _, _ => .raw (.region id ops draw)
 | .seq a b => .seq (cc P a) (cc P b)
 | .cond c a b => .cond c (cc P a) (cc P b)
 | .block id c => .block id (cc P c)
 | .loop c => .loop (cc P c)
 | .exit id => .exit id
 | .ret => .ret
 | .rangeFunc g ps a b => .rng g ps.toList (cc P a) (cc P b)
 | c => .raw c
theorem qJO (env : List Value) (ds : List Deferred) : Act.eval ⟨env.toArray, ds⟩ = evl env := by
 funext x
 cases x <;> simp [Act.eval, evl]
theorem wH (env : List Value) (ds : List Deferred) (d : Option Nat) (v : Value) : Act.put ⟨env.toArray, ds⟩ d v = ⟨(putE d v env).toArray, ds⟩ := by
 cases d <;> simp [Act.put, putE]
def envQ (ds : List Deferred) (K : KK) : Exit -> Act -> H -> Prop := fun e a h' => ∃ env', a = ⟨env'.toArray, ds⟩ /\ K e env' h'
theorem uO {P : Program} {o : Oper} {env : List Value} {h : H} {K : Value -> H -> Prop} {X : List PanicEntry -> H -> Prop} {K2 : Act -> H -> Prop} {Q : Exit -> Act -> H -> Prop} (hv : vop P (evl env) h K X (ci P o.op o.type))
  (hk : ∀ v h', dP K v h' -> K2 ⟨(putE o.dst v env).toArray, ds⟩ h') (hx : ∀ c h', X c h' -> Q (.panic c) ⟨env.toArray, ds⟩ h') : opH P o ⟨env.toArray, ds⟩ h K2 Q := by
 unfold opH
 rw [qJO]
 have h1 := zIZ (P := P) (ρ := evl env) (ty := o.type) (K := dP K) o.op (fun v h ⟨g, sb, g', sb', k⟩ => ⟨g', sb'.trans sb, k⟩) (fun _ => rfl) (fun _ => rfl) (xT (fun v h k => dP.of k) (fun _ _ x => x) hv)
 have he : execOp (evl env) o = execOp (evl env) (mkO o.op o.type) := by
  obtain ⟨d, op, ty, p, a, g⟩ := o
  cases op <;> rfl
 rw [he]
 refine qFE _ ?_ (fun v h' => hx _ h') h1
 intro n h' hn
 cases n <;> simp only [yS] at hn <;> simp only [qXV]
 case value v => rw [wH]; exact hk _ _ hn
 case skip => rw [wH]; exact hk _ _ hn
 case enter f args =>
  refine hn.mono fun e h'' hr => ?_
  cases e with
  | returned v => simp only [qYQ, wH]; exact hk _ _ hr
  | panicked c => exact hx _ _ hr
  | outgrown => exact hr.elim
 case row row args =>
  intro w s
  refine RowsIn.mono (hn w s) fun v w' ⟨h'', r, p⟩ => ⟨h'', ?_, p⟩
  show K2 (Act.put _ _ _) _
  rw [wH]; exact hk _ _ r
 case round l f t x y =>
  refine hn.mono fun e h'' hr => ?_
  cases e with
  | returned v => simp only [qYQ, wH]; exact hk _ _ hr
  | panicked c => exact hx _ _ hr
  | outgrown => exact hr.elim
 all_goals exact hn.elim
theorem qGF {o : Oper} (hg : o.guard = none) (y : Nat -> Option Bool) : Region.wanted o y = true := by simp [Region.wanted, hg]
theorem qGD {ops : Array Oper} {env : List Value} {j t : Nat} (h : (ops[j]?).bind (·.dst) = some t) : yielded ops env.toArray j = match env.getD t undef with | .bool b => some b | _ => none := by
 unfold yielded
 rw [h]
 simp only [Option.bind_some, List.getElem?_toArray, List.getD_eq_getElem?_getD]
 cases env[t]? with
 | none => rfl
 | some v => cases v <;> rfl
theorem qTQ {P : Program} {ops : Array Oper} {K : KK} : ∀ (l : List Oper) (ns : List N) (env : List Value) (h : H), cns P ops l = some ns -> vops P ns env h K -> qBI P ops (fun e => dP (envQ ds K e)) l ⟨env.toArray, ds⟩ h := by
 intro l
 induction l with
 | nil => intro ns env h hc hv; cases hc; exact dP.of ⟨env, rfl, hv⟩
 | cons o l ih =>
  intro ns env h hc hv
  simp only [cns] at hc
  split at hc
  ·rename_i n ns' hn hns
   cases hc
   unfold cn at hn
   split at hn
   ·rename_i hg
    cases hn
    simp only [vops] at hv
    simp only [qBI]
    rw [if_pos (qGF hg _)]
    exact uO hv (fun v h' ⟨g, sb, hk⟩ => qEE _ _ _ _ sb (ih ns' _ g hns hk)) (fun c h' hx => dP.of ⟨env, rfl, hx⟩)
   ·rename_i j w hg
    split at hn
    ·rename_i t ht
     cases hn
     simp only [vops] at hv
     simp only [qBI]
     have hw : Region.wanted o (yielded ops env.toArray) = isB (evl env (.tmp t)) w := by
      simp only [Region.wanted, hg, qGD ht, evl]
      cases env.getD t undef <;> simp [isB]
     rw [hw]
     split at hv
     ·rename_i hb
      rw [if_pos hb]
      exact uO hv (fun v h' ⟨g, sb, hk⟩ => qEE _ _ _ _ sb (ih ns' _ g hns hk)) (fun c h' hx => dP.of ⟨env, rfl, hx⟩)
     ·rename_i hb
      rw [if_neg hb, wH]
      exact ih ns' _ h hns hv
    ·cases hn
  ·cases hc
theorem wT {P : Program} {ops : Array Oper} {o : Oper} {n : N} {env : List Value} (hc : cn P ops o = some n) : Region.wanted o (yielded ops env.toArray) = qDI env n.g /\ n.d = o.dst /\ n.i = ci P o.op o.type := by
 unfold cn at hc
 split at hc
 ·rename_i hg; cases hc; exact ⟨qGF hg _, rfl, rfl⟩
 ·rename_i j w hg
  split at hc
  ·rename_i t ht
   cases hc
   refine ⟨?_, rfl, rfl⟩
   simp only [Region.wanted, hg, qGD ht, qDI]
   cases env.getD t undef <;> simp [isB]
  ·cases hc
theorem qCS {P : Program} {ops : Array Oper} {i k : Nat} {r : Option (List D)} {l : List D} (h : qGG P ops i k r = some l) : ∃ o n l', ops[i]? = some o /\ cn P ops o = some n /\ r = some l' /\ l = ⟨k, n⟩ :: l' := by
 unfold qGG at h
 split at h
 ·rename_i o ho
  split at h
  ·rename_i n l' hn; cases h; exact ⟨o, n, l', ho, hn, rfl, rfl⟩
  ·cases h
 ·cases h
theorem yd_of {P : Program} {ops : Array Oper} {o : Oper} {n : N} {env : List Value} {hr : H} {v : Value} (hn : cn P ops o = some n) (hw : qDI env n.g = true)
  (hv : ∀ (K' : Value -> H -> Prop) (X' : List PanicEntry -> H -> Prop), K' v hr -> vop P (evl env) hr K' X' n.i) : Yd P ops hr o v ⟨env.toArray, ds⟩ := by
 obtain ⟨h1, h2, h3⟩ := wT (env := env) hn
 refine .inl ⟨h1.trans hw, OpW.drop (qGB (uO (K := fun v' h' => v' = v /\ h' = hr) (X := fun _ _ => False) (h3 ▸ hv _ _ ⟨rfl, rfl⟩) ?_ ?_))⟩
 ·rintro v' h' ⟨g, sb, rfl, rfl⟩; exact ⟨_, sb, (wH _ _ _ _).symm, rfl⟩
 ·intro c h' x; exact x.elim
theorem qYP {P : Program} {o : Op} (hp : kI o = true) (t : TypeId) : (∃ x, ci P o t = .mov x) ∨ ∃ x i, ci P o t = .ext x i := by
 cases o <;> first
  | exact .inl ⟨_, rfl⟩
  | exact .inr ⟨_, _, rfl⟩
  | cases hp
theorem pvop {P : Program} {o : Oper} {i : I} (hn : i = ci P o.op o.type) {ρ : Operand -> Value} {h : H} {K : Value -> H -> Prop} {X : List PanicEntry -> H -> Prop} (x : vop P ρ h K X i) : vop P ρ h (fun v h' => K v h' /\ (kI o.op = true -> h' = h)) X i := by
 by_cases hp : kI o.op = true
 ·rcases qYP (P := P) hp o.type with ⟨y, e⟩ | ⟨y, k, e⟩
  ·rw [hn, e] at x ⊢
   simp only [vop] at x ⊢
   first
    | exact ⟨x, fun _ => rfl⟩
    | exact ⟨x, fun _ => trivial⟩
  ·rw [hn, e] at x ⊢
   simp only [vop] at x ⊢
   repeat' split at x
   all_goals first
    | exact x.elim
    | exact ⟨x, fun _ => trivial⟩
    | exact ⟨x, fun _ => rfl⟩
    | simp_all
 ·exact xT (fun v h' k => ⟨k, fun c => absurd c hp⟩) (fun _ _ k => k) x
theorem pyd_of {P : Program} {ops : Array Oper} {o : Oper} {n : N} {env : List Value} {hr : H} {v : Value} {ds : List Deferred} (hn : cn P ops o = some n) (hp : kI o.op = true) (hw : qDI env n.g = true)
  (hv : ∀ (K' : Value -> H -> Prop) (X' : List PanicEntry -> H -> Prop), K' v hr -> vop P (evl env) hr K' X' n.i) : ∀ hr', Yd P ops hr' o v ⟨env.toArray, ds⟩ := fun hr' => by
 refine yd_of hn hw fun K' X' k => ?_
 have h3 := (wT (env := env) hn).2.2
 have y := hv (fun v' h' => v' = v /\ h' = hr) (fun _ _ => False) ⟨rfl, rfl⟩
 rcases qYP (P := P) hp o.type with ⟨z, e⟩ | ⟨z, j, e⟩
 ·rw [h3, e] at y ⊢
  simp only [vop] at y ⊢
  rw [y.1]; exact k
 ·rw [h3, e] at y ⊢
  simp only [vop] at y ⊢
  repeat' split at y
  all_goals first
   | exact y.elim
   | (obtain ⟨rfl, _⟩ := y; simp_all)
theorem qZR {P : Program} {ops : Array Oper} {s : Nat} {K : KK} (hs : Region.noSelect ops = true) : ∀ (fuel : Nat) (listed : Array Bool) (l : List D) (env : List Value) (h hr : H), Cl .any ops listed -> kC P ops s fuel listed = some l ->
  ((∀ j o, ops[j]? = some o -> listed.getD j true = false -> s <= j) ∨ Sub hr h) -> vdr P l env h hr K -> anyI P .any ops (fun j => decide (s <= j) || puI ops j) hr (envQ ds K .normal) fuel listed ⟨env.toArray, ds⟩ h := by
 intro fuel
 induction fuel with
 | zero =>
  intro listed l env h hr hcl hd hsub hv
  simp only [kC] at hd
  split at hd
  ·rename_i e; cases hd; exact ⟨e, env, rfl, hv⟩
  ·cases hd
 | succ fuel ih =>
  intro listed l env h hr hcl hd hsub hv
  simp only [kC] at hd
  have float : ∀ i f k rs, Region.ready .any ops listed = rs -> rs.find? (qAO P ops s listed f) = some i -> (k = 0 /\ f = zHZ) ∨ (k = 1 /\ f = zJC) -> qGG P ops i k (kC P ops s fuel (listed.setIfInBounds i true)) = some l ->
    anyI P .any ops (fun j => decide (s <= j) || puI ops j) hr (envQ ds K .normal) (fuel + 1) listed ⟨env.toArray, ds⟩ h := by
   intro i f k rs hrs hf hk hd
   obtain ⟨o, n, l', ho, hn, hl', rfl⟩ := qCS hd
   have hp := List.find?_some hf
   have hm := List.mem_of_find?_eq_some hf
   rw [<- hrs] at hm
   simp only [qAO, Bool.and_eq_true, decide_eq_true_eq] at hp
   obtain ⟨⟨⟨⟨hkd, hlt⟩, hfree⟩, htail⟩, _⟩ := hp
   rw [Bool.or_eq_true] at htail
   have hpu : puI ops i = true -> kI o.op = true := fun c => by unfold puI at c; simpa [ho] using c
   have hun := (mem_ready.1 hm).1
   have hsb : Sub hr h := hsub.resolve_left fun x => absurd (x i o ho hun) (by omega)
   obtain ⟨h1, h2, h3⟩ := wT (env := env) hn
   simp only [vdr] at hv
   split at hv
   ·rename_i hw
    have go : ∀ v, vdr P l' (putE n.d v env) h hr K -> (∀ (K' : Value -> H -> Prop) (X' : List PanicEntry -> H -> Prop), K' v hr -> vop P (evl env) hr K' X' n.i) -> anyI P .any ops (fun j => decide (s <= j) || puI ops j) hr (envQ ds K .normal) (fuel + 1) listed ⟨env.toArray, ds⟩ h := by
     intro v hk hv
     have rest : anyI P .any ops (fun j => decide (s <= j) || puI ops j) hr (envQ ds K .normal) fuel (listed.setIfInBounds i true) (Act.put ⟨env.toArray, ds⟩ o.dst v) h := by
      rw [wH, <- h2]
      exact ih _ l' _ h hr (hcl.set hm) hl' (.inr hsb) hk
     rcases htail with hp | htail
     ·exact qKC ho hs (by simp [hp]) hfree hm (pyd_of hn (hpu hp) hw hv) rest
     ·exact qMY ho hs hcl htail hfree hm hsb (yd_of hn hw hv) rest
    rcases hk with ⟨rfl, rfl⟩ | ⟨rfl, rfl⟩
    ·obtain ⟨v, hk, hv⟩ := vfl_vop (P := P) hv
     exact go v hk hv
    ·simp only at hv
     split at hv
     ·rename_i g args hi
      obtain ⟨v, hc, hk⟩ := hv
      exact go v hk (fun K' X' k => by rw [hi]; exact hc _ k)
     ·rename_i op ty hi
      obtain ⟨v, hc, hk⟩ := hv
      exact go v hk (fun K' X' k => by rw [hi]; exact hc _ _ k)
     ·exact hv.elim
   ·rename_i hw
    have rest : anyI P .any ops (fun j => decide (s <= j) || puI ops j) hr (envQ ds K .normal) fuel (listed.setIfInBounds i true) (Act.put ⟨env.toArray, ds⟩ o.dst undef) h := by
     rw [wH, <- h2]
     exact ih _ l' _ h hr (hcl.set hm) hl' (.inr hsb) hv
    rcases htail with hp | htail
    ·exact qKC ho hs (by simp [hp]) hfree hm (fun _ => .inr ⟨by rw [h1]; simpa using hw, rfl⟩) rest
    ·exact qMY (v := undef) ho hs hcl htail hfree hm hsb (.inr ⟨by rw [h1]; simpa using hw, rfl⟩) rest
  split at hd
  ·rename_i e; cases hd; exact qNA e ⟨env, rfl, hv⟩ _
  ·rename_i i e
   have hin : i ∈ Region.ready .any ops listed := by rw [e]; simp
   have hun : listed.getD i true = false := (mem_ready.1 hin).1
   split at hd
   ·rename_i hge
    split at hd
    ·rename_i hall
     obtain ⟨o, n, l', ho, hn, hl', rfl⟩ := qCS hd
     obtain ⟨h1, h2, h3⟩ := wT (env := env) hn
     have hrest : ∀ j o, ops[j]? = some o -> (listed.setIfInBounds i true).getD j true = false -> s <= j := by
      intro j oj hj hl
      have hx := List.all_eq_true.1 hall j (List.mem_range.2 (Array.getElem?_eq_some_iff.1 hj).1)
      simp only [Bool.or_eq_true, decide_eq_true_eq] at hx
      rcases hx with hx | hx
      ·exfalso
       by_cases hij : i = j
       ·subst hij; rw [hun] at hx; cases hx
       ·rw [getD_set_ne true hij, hx] at hl; cases hl
      ·exact hx
     refine qMZ e ?_
     unfold opI
     simp only [ho]
     simp only [vdr] at hv
     split at hv
     ·rename_i hw
      rw [if_pos (h1.trans hw)]
      have hv2 := pvop h3 hv
      refine OpW.drop (qGB (uO (K := fun v h' => vdr P l' (putE n.d v env) h' hr K /\ (kI o.op = true -> h' = h)) (X := fun _ _ => False) (h3 ▸ hv2) ?_ (fun _ _ x => x.elim)))
      rintro v hh ⟨h', sbb, hk, hp⟩
      refine ⟨h', sbb, ?_⟩
      refine ⟨fun x => (by simp only [Bool.or_eq_false_iff, decide_eq_false_iff_not] at x; omega), fun c _ _ s => (by rw [hp c]; exact s), ?_⟩
      rw [<- h2]
      exact ih _ l' _ h' hr (hcl.set hin) hl' (.inl hrest) hk
     ·rename_i hw
      rw [if_neg (by rw [h1]; simpa using hw), wH, <- h2]
      exact ih _ l' _ h hr (hcl.set hin) hl' (.inl hrest) hv
    ·cases hd
   ·rename_i hlt
    obtain ⟨o, n, l', ho, hn, hl', rfl⟩ := qCS hd
    obtain ⟨h1, h2, h3⟩ := wT (env := env) hn
    have hsb : Sub hr h := hsub.resolve_left fun x => hlt (x i o ho hun)
    refine qMZ e ?_
    unfold opI
    simp only [ho]
    generalize ((kC P ops s fuel (listed.setIfInBounds i true)).getD []).any (fun d => (d.k == 2 || d.k == 4) && !aKind d.n.i) = kb at hv
    simp only [vdr] at hv
    split at hv
    ·rename_i hw
     rw [if_pos (h1.trans hw)]
     cases kb
     ·simp only [Bool.false_eq_true, if_false] at hv
      have hv2 := pvop h3 hv
      refine OpW.drop (qGB (uO (K := fun v h' => (Sub hr h' /\ vdr P l' (putE n.d v env) h' h' K) /\ (kI o.op = true -> h' = h)) (X := fun _ _ => False) (h3 ▸ hv2) ?_ (fun _ _ x => x.elim)))
      rintro v hh ⟨h', sbb, ⟨s1, hk⟩, hp⟩
      refine ⟨h', sbb, ?_⟩
      refine ⟨fun _ => s1, fun c _ _ s => (by rw [hp c]; exact s), ?_⟩
      rw [<- h2]
      exact zDF s1 _ _ _ _ (ih _ l' _ h' h' (hcl.set hin) hl' (.inr (Sub.refl _)) hk)
     ·simp only [if_true] at hv
      have hv2 := pvop h3 hv
      refine OpW.drop (qGB (uO (K := fun v h' => (Sub hr h' /\ vdr P l' (putE n.d v env) h' hr K) /\ (kI o.op = true -> h' = h)) (X := fun _ _ => False) (h3 ▸ hv2) ?_ (fun _ _ x => x.elim)))
      rintro v hh ⟨h', sbb, ⟨s1, hk⟩, hp⟩
      refine ⟨h', sbb, ?_⟩
      refine ⟨fun _ => s1, fun c _ _ s => (by rw [hp c]; exact s), ?_⟩
      rw [<- h2]
      exact ih _ l' _ h' hr (hcl.set hin) hl' (.inr s1) hk
    ·rename_i hw
     rw [if_neg (by rw [h1]; simpa using hw), wH, <- h2]
     exact ih _ l' _ h hr (hcl.set hin) hl' (.inr hsb) hv
  ·split at hd
   ·rename_i i hf
    exact float i zHZ 0 _ rfl hf (.inl ⟨rfl, rfl⟩) hd
   ·split at hd
    ·rename_i i hf
     exact float i zJC 1 _ rfl hf (.inr ⟨rfl, rfl⟩) hd
    ·cases hd
theorem qYT {P : Program} {ops : Array Oper} : ∀ (os : List Oper) (i0 : Nat) (l : List (N × List Nat)), anyL P ops i0 os = some l -> l.length = os.length /\ 0 < l.length /\
  ∀ k (h1 : k < os.length) (h2 : k < l.length), cn P ops os[k] = some l[k].1 /\ (k + 1 = l.length -> l[k].1.g = none) /\ (k + 1 < l.length -> l[k].1.d.isSome = true /\ l[k].2 = qAQ os[k] /\ ∀ d ∈ l[k].2, d < i0 + k) /\
   (k + 1 = l.length -> l[k].2 = List.range (i0 + k) /\ (∀ j, j < i0 + k -> sucB ops (i0 + k) j = true) /\ ∀ d ∈ qAQ os[k], d < i0 + k) := by
 intro os
 induction os with
 | nil => intro i0 l h; cases h
 | cons o r ih =>
  intro i0 l h
  cases r with
  | nil =>
   simp only [anyL] at h
   split at h
   ·rename_i n hn
    split at h
    ·rename_i hc
     cases h
     simp only [Bool.and_eq_true, Option.isNone_iff_eq_none, List.all_eq_true, List.mem_range, decide_eq_true_eq] at hc
     refine ⟨rfl, by simp, fun k h1 h2 => ?_⟩
     have : k = 0 := by simpa using h1
     subst this
     exact ⟨hn, fun _ => hc.1.1, fun x => (by simp at x), fun _ => ⟨rfl, fun j hj => hc.1.2 j hj, fun d hd => hc.2 d hd⟩⟩
    ·cases h
   ·cases h
  | cons o2 r =>
   rw [anyL] at h
   split at h
   ·rename_i n l' hn hl'
    split at h
    ·rename_i hc
     cases h
     simp only [Bool.and_eq_true, List.all_eq_true, decide_eq_true_eq] at hc
     obtain ⟨e1, e2, e3⟩ := ih (i0 + 1) l' hl'
     refine ⟨by simp [e1], by simp, fun k h1 h2 => ?_⟩
     cases k with
     | zero => exact ⟨hn, fun x => (by simp only [List.length_cons] at x; omega), fun _ => ⟨hc.1, rfl, fun d hd => hc.2 d hd⟩, fun x => (by simp only [List.length_cons] at x; omega)⟩
     | succ k =>
      have := e3 k (by simpa using h1) (by simpa using h2)
      simp only [List.getElem_cons_succ, List.length_cons]
      rw [show i0 + (k + 1) = i0 + 1 + k by omega]
      exact ⟨this.1, fun x => this.2.1 (by omega), fun x => this.2.2.1 (by omega), fun x => this.2.2.2 (by omega)⟩
    ·cases h
   ·cases h
theorem vany_at {P : Program} {mem : Nat -> H -> H -> Prop} {Q : List (H -> Value -> Prop)} {rest : H} {W : List Nat} {env : List Value} {K : List Value -> H -> Prop} : ∀ (l : List (N × List Nat)) (i0 : Nat), vany P mem Q rest W env K i0 l -> ∀ k (hk : k < l.length),
  (k + 1 < l.length -> ∀ m f h g, mem (m + 1) h g -> Sub rest g -> dq Q W g f l[k].2 -> vgo P (hav env W f) l[k].1.g h (fun v h' => ∃ g', mem m h' g' /\ Sub g g' /\ (Q.getD (i0 + k) (fun _ _ => True)) g' v) l[k].1.i) /\
  (k + 1 = l.length -> ∀ m f h g, mem (m + 1) h g -> Sub rest g -> dq Q W g f l[k].2 -> ∃ g0, Sub g0 h /\ vop P (evl (hav env W f)) g0 (fun v h' => K (putE l[k].1.d v (hav env W f)) h') (fun _ _ => False) l[k].1.i) := by
 intro l
 induction l with
 | nil => intro i0 _ k hk; cases hk
 | cons x r ih =>
  intro i0 hv k hk
  cases r with
  | nil =>
   have : k = 0 := by simpa using hk
   subst this
   exact ⟨fun h => (by simp at h), fun _ => hv⟩
  | cons y r =>
   cases k with
   | zero => exact ⟨fun _ => hv.1, fun h => (by simp at h)⟩
   | succ k =>
    have := ih (i0 + 1) hv.2 k (by simpa using hk)
    simp only [List.getElem_cons_succ, List.length_cons] at this ⊢
    rw [show i0 + (k + 1) = i0 + 1 + k by omega]
    exact ⟨fun h => this.1 (by omega), fun h => this.2 (by omega)⟩
theorem qZX {P : Program} {mem : Nat -> H -> H -> Prop} {Q : List (H -> Value -> Prop)} {rest : H} {W : List Nat} {env : List Value} {K K' : List Value -> H -> Prop} (hk : ∀ e h, K e h -> K' e h) : ∀ (l : List (N × List Nat)) (i0 : Nat), vany P mem Q rest W env K i0 l -> vany P mem Q rest W env K' i0 l := by
 intro l
 induction l with
 | nil => intro i0 h; exact h
 | cons x r ih =>
  intro i0 h
  cases r with
  | nil => intro m f h' g a b c; obtain ⟨g0, s0, z⟩ := h m f h' g a b c; exact ⟨g0, s0, xT (fun v h k => hk _ _ k) (fun _ _ x => x) z⟩
  | cons y r => exact ⟨h.1, ih _ h.2⟩
theorem qZY {P : Program} {mem : Nat -> H -> H -> Prop} {Q : List (H -> Value -> Prop)} {rest : H} {W : List Nat} {env : List Value} {K K' : List Value -> H -> Prop} : ∀ {l : List (N × List Nat)}, (∀ f d v h, (∀ i, d = some i -> i ∈ nds (l.map (·.1))) -> K (putE d v (hav env W f)) h -> K' (putE d v (hav env W f)) h) -> ∀ (l' : List (N × List Nat)) (i0 : Nat) , (∃ p, l = p ++ l') -> vany P mem Q rest W env K i0 l' -> vany P mem Q rest W env K' i0 l' := by
 intro l hk l'
 induction l' with
 | nil => intro i0 _ h; exact h
 | cons x r ih =>
  rintro i0 ⟨p, hp⟩ h
  cases r with
  | nil => intro m f h' g a b c; obtain ⟨g0, s0, z⟩ := h m f h' g a b c; exact ⟨g0, s0, xT (fun v h k => hk f _ v h (fun i hi => qXW (n := x.1) (List.mem_map.2 ⟨x, by rw [hp]; simp, rfl⟩) i hi) k) (fun _ _ x => x) z⟩
  | cons y r => exact ⟨h.1, ih _ ⟨p ++ [x], by rw [hp]; simp⟩ h.2⟩
theorem nds_at : ∀ (l : List N) (k : Nat), (∀ j (h : j < l.length), j < k + 1 -> l[j].d.isSome = true) -> (h : k < l.length) -> (nds l)[k]? = l[k].d := by
 intro l
 induction l with
 | nil => intro k _ h; cases h
 | cons n l ih =>
  intro k hs h
  obtain ⟨d, g, i⟩ := n
  cases d with
  | none => have := hs 0 (by simp) (by omega); cases this
  | some d =>
   cases k with
   | zero => rfl
   | succ k => exact ih k (fun j hj h => hs (j + 1) (by simpa using hj) (by omega)) (by simpa using h)
theorem ndup_ne : ∀ {W : List Nat}, ndup W = true -> ∀ {i j : Nat} {a : Nat}, W[i]? = some a -> W[j]? = some a -> i = j := by
 intro W
 induction W with
 | nil => intro _ i j a h; cases h
 | cons b W ih =>
  intro hn i j a hi hj
  simp only [ndup, Bool.and_eq_true, Bool.not_eq_true', <- Bool.not_eq_true, List.contains_iff_mem] at hn
  cases i with
  | zero =>
   cases j with
   | zero => rfl
   | succ j =>
    simp only [List.getElem?_cons_zero, List.getElem?_cons_succ, Option.some.injEq] at hi hj
    subst hi
    exact absurd (List.mem_of_getElem? hj) hn.1
  | succ i =>
   cases j with
   | zero =>
    simp only [List.getElem?_cons_zero, List.getElem?_cons_succ, Option.some.injEq] at hi hj
    subst hj
    exact absurd (List.mem_of_getElem? hi) hn.1
   | succ j => exact congrArg (· + 1) (ih hn.2 (by simpa using hi) (by simpa using hj))
theorem qYN : ∀ (l : List Bool) (i : Nat), l[i]? = some false -> (l.set i true).count false + 1 = l.count false := by
 intro l
 induction l with
 | nil => intro i h; cases h
 | cons a l ih =>
  intro i h
  cases i with
  | zero => simp at h; subst h; simp
  | succ i =>
   have := ih i (by simpa using h)
   simp only [List.set_cons_succ, List.count_cons]
   omega
theorem dq_of {Q : List (H -> Value -> Prop)} {W : List Nat} {g : H} {f : Nat -> Value} : ∀ {ds : List Nat} (_ : ∀ d ∈ ds, (Q.getD d (fun _ _ => True)) g (f (W.getD d 0))), dq Q W g f ds := by
 intro ds
 induction ds with
 | nil => intro _; trivial
 | cons d r ih => intro h; exact ⟨h d List.mem_cons_self, ih fun x hx => h x (List.mem_cons_of_mem _ hx)⟩
theorem zCA {Q : List (H -> Value -> Prop)} (hm : ∀ q ∈ Q, ∀ g g' v, Sub g g' -> q g v -> q g' v) (i : Nat) {g g' : H} {v : Value} (s : Sub g g') (h : (Q.getD i (fun _ _ => True)) g v) : (Q.getD i (fun _ _ => True)) g' v := by
 simp only [List.getD_eq_getElem?_getD] at h ⊢
 cases e : Q[i]? with
 | none => rw [e] at h; exact h
 | some q => rw [e] at h; exact hm q (List.mem_of_getElem? e) _ _ _ s h
theorem any_key {P : Program} {ops : Array Oper} {l : List (N × List Nat)} {mem : Nat -> H -> H -> Prop} {Q : List (H -> Value -> Prop)} {rest : H} {env : List Value} {K : KK} (hl : anyL P ops 0 ops.toList = some l) (hnd : ndup (nds (l.map (·.1))) = true)
  (hlen : ∀ d ∈ nds (l.map (·.1)), d < env.length) (hm : ∀ q ∈ Q, ∀ g g' v, Sub g g' -> q g v -> q g' v) (hv : vany P mem Q rest (nds (l.map (·.1))) env (K .normal) 0 l) :
  ∀ (fuel : Nat) (listed : Array Bool) (e : List Value) (h g : H), listed.size = ops.size -> listed.toList.count false <= fuel -> listed.getD (ops.size - 1) true = false -> Agr (nds (l.map (·.1))) env e -> mem (listed.toList.count false) h g -> Sub rest g -> (∀ (k : Nat) (o : Oper), ops[k]? = some o -> listed.getD k true = true -> ∀ d ∈ qAQ o, listed.getD d true = true) ->
   (∀ i, i + 1 < ops.size -> listed.getD i true = true -> (Q.getD i (fun _ _ => True)) g (e.getD ((nds (l.map (·.1))).getD i 0) undef)) -> anyI P .any ops (fun _ => true) [] (envQ ds K .normal) fuel listed ⟨e.toArray, ds⟩ h := by
 obtain ⟨ln, l0, at_⟩ := qYT _ _ _ hl
 simp only [Array.length_toList] at ln at_
 have sub0 : ∀ h : H, Sub [] h := fun h i o e => by cases e
 have getf : ∀ {listed : Array Bool} {i : Nat}, listed.getD i true = false -> listed.toList[i]? = some false := fun {listed i} h => by
  rw [Array.getElem?_toList]
  cases e : listed[i]? with
  | none => simp [Array.getD_eq_getD_getElem?, e] at h
  | some b => simp [Array.getD_eq_getD_getElem?, e] at h; rw [h]
 have Wat : ∀ i (h : i + 1 < ops.size), ∃ d, l[i].1.d = some d /\ (nds (l.map (·.1)))[i]? = some d /\ (nds (l.map (·.1))).getD i 0 = d := fun i h => by
  have h2 := (at_ i (by omega) (by omega)).2.2.1 (by omega)
  obtain ⟨d, hd⟩ := Option.isSome_iff_exists.1 h2.1
  have := nds_at (l.map (·.1)) i (fun j hj hk => by
   rw [List.length_map] at hj
   rw [List.getElem_map]
   exact ((at_ j (by omega) hj).2.2.1 (by omega)).1) (by rw [List.length_map]; omega)
  rw [List.getElem_map, hd] at this
  exact ⟨d, hd, this, by rw [List.getD_eq_getElem?_getD, this]; rfl⟩
 intro fuel
 induction fuel with
 | zero =>
  intro listed e h g hs hc hlast
  have := qYN _ _ (getf hlast)
  omega
 | succ fuel ih =>
  intro listed e h g hs hc hlast ha hmem hsub hcl hq
  refine ⟨fun hr => ?_, fun i hi => ?_⟩
  ·exfalso
   have key : ∀ k, k <= ops.size -> (∀ j, j < k -> listed.getD j true = true) := by
    intro k
    induction k with
    | zero => intro _ j hj; omega
    | succ k ihk =>
     intro hk j hj
     rcases Nat.lt_or_ge j k with c | c
     ·exact ihk (by omega) j c
     ·have hjk : j = k := by omega
      subst hjk
      cases hb : listed.getD j true with
      | true => rfl
      | false =>
       exfalso
       have hin : j ∈ Region.ready .any ops listed := by
        refine mem_ready.2 ⟨hb, ops[j], by simp, fun x hx hbd => ?_⟩
        have hd : x.on ∈ qAQ ops[j] := List.mem_map.2 ⟨x, List.mem_filter.2 ⟨by simpa using hx, hbd⟩, rfl⟩
        have hlt : x.on < j := by
         have a := at_ j (by omega) (by omega)
         simp only [Array.getElem_toList] at a
         rcases Nat.lt_or_ge (j + 1) l.length with c2 | c2
         ·obtain ⟨_, e2, e3⟩ := a.2.2.1 c2
          have := e3 x.on (e2 ▸ hd)
          omega
         ·have := (a.2.2.2 (by omega)).2.2 x.on hd
          omega
        have := ihk (by omega) x.on hlt
        rw [Array.getD_eq_getD_getElem?] at this ⊢
        rw [Array.getElem?_eq_getElem (by omega)] at this ⊢
        exact this
       rw [hr] at hin; cases hin
   have := key ops.size (Nat.le_refl _) (ops.size - 1) (by omega)
   rw [this] at hlast; cases hlast
  ·obtain ⟨hun, o, ho, hdeps⟩ := mem_ready.1 hi
   have hio : i < ops.size := (Array.getElem?_eq_some_iff.1 ho).1
   have hoe : ops[i] = o := (Array.getElem?_eq_some_iff.1 ho).2
   have a := at_ i (by omega) (by omega)
   simp only [Array.getElem_toList, hoe] at a
   obtain ⟨a1, a2, a3, a4⟩ := a
   have hcnt := qYN _ _ (getf hun)
   have hset : (listed.setIfInBounds i true).toList = listed.toList.set i true := by simp
   have hwe := (wT (env := e) a1).1
   have hni : l[i].1.i = ci P o.op o.type := (wT (env := e) a1).2.2
   have hnd' : l[i].1.d = o.dst := (wT (env := e) a1).2.1
   have he := ha.hav
   have va := vany_at _ _ hv i (by omega)
   unfold opI
   simp only [ho]
   have hm1 : mem ((listed.toList.set i true).count false + 1) h g := by rw [hcnt]; exact hmem
   rcases Nat.lt_or_ge (i + 1) l.length with c | c
   ·obtain ⟨b1, b2, b3⟩ := a3 c
    have dd : dq Q (nds (l.map (·.1))) g (fun i => e.getD i undef) l[i].2 := dq_of fun d hd => by
     have hdi := b3 d hd
     refine hq d (by omega) ?_
     rw [b2] at hd
     obtain ⟨x, hx, rfl⟩ := List.mem_map.1 hd
     obtain ⟨hx1, hx2⟩ := List.mem_filter.1 hx
     have := hdeps x (by simpa using hx1) hx2
     rw [Array.getD_eq_getD_getElem?] at this ⊢
     rw [Array.getElem?_eq_getElem (by omega)] at this ⊢
     exact this
    have vv := va.1 c _ _ _ _ hm1 hsub dd
    rw [<- he, hni] at vv
    unfold vgo at vv
    obtain ⟨d, hd1, hd2, hd3⟩ := Wat i (by omega)
    have hne : i ≠ ops.size - 1 := by omega
    have after : ∀ (v : Value) (h1 g2 : H), mem ((listed.toList.set i true).count false) h1 g2 -> Sub g g2 -> (Q.getD (0 + i) (fun _ _ => True)) g2 v -> anyI P .any ops (fun _ => true) [] (envQ ds K .normal) fuel (listed.setIfInBounds i true) ⟨(putE (some d) v e).toArray, ds⟩ h1 := by
     intro v h1 g2 hm2 sb2 hq2
     refine ih (listed.setIfInBounds i true) (putE (some d) v e) h1 g2 (by simp [hs]) (by rw [hset]; omega) ?_ (ha.put (fun k hk => by cases hk; exact List.mem_of_getElem? hd2) v) (by rw [hset]; exact hm2) (hsub.trans sb2) ?_ ?_
     ·rw [getD_set_ne true hne]; exact hlast
     ·intro k ok hok hkl d hd
      have old : listed.getD d true = true := by
       by_cases hki : k = i
       ·subst hki
        rw [ho] at hok; cases hok
        obtain ⟨x, hx, rfl⟩ := List.mem_map.1 hd
        obtain ⟨hx1, hx2⟩ := List.mem_filter.1 hx
        have := hdeps x (by simpa using hx1) hx2
        rw [Array.getD_eq_getD_getElem?] at this ⊢
        cases hl2 : listed[x.on]? with
        | none => rfl
        | some bb => rw [hl2] at this; exact this
       ·rw [getD_set_ne true (Ne.symm hki)] at hkl
        exact hcl k ok hok hkl d hd
      by_cases hdi : d = i
      ·rw [hdi] at old; rw [hun] at old; cases old
      ·rw [getD_set_ne true (Ne.symm hdi)]; exact old
     ·intro k hk hkl
      by_cases hki : k = i
      ·subst hki
       rw [hd3]
       have hdl : d < e.length := by rw [ha.1]; exact hlen d (List.mem_of_getElem? hd2)
       have : (putE (some d) v e).getD d undef = v := by simp [putE, List.getD_eq_getElem?_getD, hdl]
       rw [this]
       simpa using hq2
      ·obtain ⟨d', hd1', hd2', hd3'⟩ := Wat k hk
       have hdd : d ≠ d' := fun x => hki (ndup_ne hnd (x ▸ hd2') hd2)
       rw [hd3']
       have : (putE (some d) v e).getD d' undef = e.getD d' undef := by simp [putE, List.getD_eq_getElem?_getD, List.getElem?_set_ne hdd]
       rw [this, <- hd3']
       rw [getD_set_ne true (Ne.symm hki)] at hkl
       exact zCA hm k sb2 (hq k hk hkl)
    rcases Bool.eq_false_or_eq_true (qDI e l[i].1.g) with hw | hw
    rotate_left
    ·rw [if_neg (by rw [hw]; simp)] at vv
     obtain ⟨g2, hm2, sb2, hq2⟩ := vv
     rw [if_neg (by rw [hwe, hw]; simp), wH, <- hnd', hd1]
     exact after _ _ _ hm2 sb2 hq2
    rw [if_pos hw] at vv
    rw [if_pos (by rw [hwe, hw])]
    have vv2 := pvop rfl vv
    refine OpW.drop (qGB (uO (X := fun _ _ => False) vv2 ?_ (fun _ _ x => x.elim)))
    rintro v h1 ⟨g1, sb1, ⟨g2, hm2, sb2, hq2⟩, hp⟩
    refine ⟨g1, sb1, fun x => (by cases x), fun c _ _ s => (by rw [hp c]; exact s), ?_⟩
    rw [<- hnd', hd1]
    exact after _ _ _ hm2 sb2 hq2
   ·have c2 : i + 1 = l.length := by omega
    rw [if_pos (by rw [hwe, a2 c2]; rfl)]
    obtain ⟨b1, b2, _⟩ := a4 c2
    have all' : ∀ n j, i - j <= n -> j < i -> listed.getD j true = true := by
     intro n
     induction n with
     | zero => intro j h1 h2; omega
     | succ n ihn =>
      intro j h1 h2
      obtain ⟨k', c1, c2', o', ho', hd'⟩ := sucB_at (b2 j (by omega))
      rw [Nat.zero_add] at c2'
      by_cases hk : k' = i
      ·subst hk
       rw [ho] at ho'; cases ho'
       obtain ⟨x, hx, rfl⟩ := List.mem_map.1 hd'
       obtain ⟨hx1, hx2⟩ := List.mem_filter.1 hx
       have := hdeps x (by simpa using hx1) hx2
       rw [Array.getD_eq_getD_getElem?] at this ⊢
       cases hl2 : listed[x.on]? with
       | none => rfl
       | some bb => rw [hl2] at this; exact this
      ·exact hcl k' o' ho' (ihn k' (by omega) (by omega)) j hd'
    have all : ∀ j, j < i -> listed.getD j true = true := fun j hj => all' (i - j) j (Nat.le_refl _) hj
    have dd : dq Q (nds (l.map (·.1))) g (fun i => e.getD i undef) l[i].2 := dq_of fun d hd => by
     rw [b1, List.mem_range] at hd
     exact hq d (by omega) (all d (by omega))
    obtain ⟨g0, s0, vv⟩ := va.2 c2 _ _ _ _ hm1 hsub dd
    rw [<- he, hni] at vv
    refine OpW.weaken s0 (OpW.drop (qGB (uO (X := fun _ _ => False) (pvop rfl vv) ?_ (fun _ _ x => x.elim))))
    rintro v h1 ⟨g1, sb1, hk, hp⟩
    refine ⟨g1, sb1, fun x => (by cases x), fun _ g s _ => s.trans (sub0 _), ?_⟩
    refine qNA ?_ ⟨_, rfl, by rw [<- hnd']; exact hk⟩ _
    refine List.eq_nil_iff_forall_not_mem.2 fun j hj => ?_
    obtain ⟨hj1, oj, hoj, _⟩ := mem_ready.1 hj
    have hjs : j < ops.size := (Array.getElem?_eq_some_iff.1 hoj).1
    by_cases hji : j = i
    ·subst hji
     rw [Array.getD_eq_getD_getElem?] at hj1
     simp [hs, hjs] at hj1
    ·rw [getD_set_ne true (Ne.symm hji)] at hj1
     rw [all j (by omega)] at hj1; cases hj1
theorem qHU {P : Program} : ∀ (c : Code) (env : List Value) (h : H) (K : KK), vc P (cc P c) env h K -> HC none P c (envQ ds K) ⟨env.toArray, ds⟩ h := by
 intro c
 induction c with
 | skip => intro env h K hv; exact HC_skip ⟨env, rfl, hv⟩
 | region id ops draw =>
  intro env h K hv
  simp only [cc] at hv
  split at hv
  ·rename_i l hl
   exact (zDL (ro := none) (Q := fun e => dP (envQ ds K e)) (fun _ _ => .inl rfl) (qTQ _ _ _ _ hl hv)).drop
  ·split at hv
   ·rename_i l hl
    unfold qWJ at hl
    split at hl
    ·rename_i hc
     simp only [Bool.and_eq_true] at hc
     obtain ⟨hr, sb, hv⟩ := hv
     exact qYY (Q := envQ ds K) hc.2.1 (qZR hc.2.2 _ _ l env h hr (Cl_zero _ _) hl (.inr sb) hv)
    ·cases hl
   ·split at hv
    ·rename_i l hl
     unfold zJM at hl
     split at hl
     ·rename_i l' hl'
      split at hl
      ·rename_i hc
       cases hl
       simp only [Bool.and_eq_true] at hc
       obtain ⟨mem, Q, rest, h1, h2, h3, h4⟩ := hv
       obtain ⟨ln, l0, _⟩ := qYT _ _ _ hl'
       simp only [Array.length_toList] at ln
       have hcnt : (Array.replicate ops.size false).toList.count false = l.length := by simp [ln]
       refine qYY (Q := envQ ds K) (tl := fun _ => true) (hr := []) hc.1 (any_key hl' hc.2 (fun d hd => by simpa using List.all_eq_true.1 h3 d hd) h1 h4 _ _ _ _ rest (by simp) (by simp) ?_ (Agr.refl _ _) (by rw [hcnt]; exact h2) (Sub.refl _) ?_ ?_)
       ·rw [Array.getD_eq_getD_getElem?, Array.getElem?_replicate, if_pos (by omega)]; rfl
       ·intro k o hok hx
        have hk := (Array.getElem?_eq_some_iff.1 hok).1
        rw [Array.getD_eq_getD_getElem?, Array.getElem?_replicate, if_pos hk] at hx
        cases hx
       ·intro i hi hx
        rw [Array.getD_eq_getD_getElem?, Array.getElem?_replicate, if_pos (by omega)] at hx
        cases hx
      ·cases hl
     ·cases hl
    ·exact hv ds
  ·exact hv ds
 | seq a b iha ihb =>
  intro env h K hv
  simp only [cc, vc] at hv
  refine qXG ((iha env h _ hv).mono ?_)
  rintro e a' h' ⟨env', rfl, hk⟩
  cases e <;> simp only at hk <;> simp only [seqK]
  case normal => exact ihb env' h' K hk
  all_goals exact ⟨env', rfl, hk⟩
 | cond x a b iha ihb =>
  intro env h K hv
  simp only [cc, vc] at hv
  split at hv
  ·rename_i t ht
   refine qYZ (t := t) (by rw [qJO]; exact ht) ?_
   cases t
   ·exact ihb env h K hv
   ·exact iha env h K hv
  ·exact hv.elim
 | block id c ih =>
  intro env h K hv
  simp only [cc, vc] at hv
  refine qTM ((ih env h _ hv).mono ?_)
  rintro e a' h' ⟨env', rfl, hk⟩
  cases e <;> simp only at hk <;> simp only [blkK]
  case exit id' =>
   split
   ·rename_i e; rw [if_pos e] at hk; exact ⟨env', rfl, hk⟩
   ·rename_i e; rw [if_neg e] at hk; exact ⟨env', rfl, hk⟩
  all_goals exact ⟨env', rfl, hk⟩
 | loop c ih =>
  intro env h K hv
  simp only [cc, vc] at hv
  obtain ⟨J, n, ⟨g0, sb0, h0⟩, hr⟩ := hv
  refine qYX (fun n a h => ∃ env, a = ⟨env.toArray, ds⟩ /\ ∃ g, Sub g h /\ J n env g) n ⟨env, rfl, g0, sb0, h0⟩ ?_
  rintro n a h ⟨env, rfl, g, sb, hj⟩
  refine (HC.weaken sb (ih env g _ (hr n env g hj))).mono ?_
  rintro e a' h' ⟨env', rfl, hk⟩
  cases e <;> simp only [qMA] at hk <;> simp only [seqK]
  case normal => obtain ⟨m, hm, hj⟩ := hk; exact ⟨m, hm, env', rfl, hj⟩
  all_goals exact ⟨env', rfl, hk⟩
 | exit id => intro env h K hv; exact HC_exit ⟨env, rfl, hv⟩
 | ret => intro env h K hv; exact HC_ret ⟨env, rfl, hv⟩
 | rangeFunc => intro env h K hv; exact hv.elim
 | _ => intro env h K hv; exact hv ds
def qHM : C -> Bool
 | .cond .. => true
 | .seq a b | .cut a b => qHM a || qHM b
 | .block _ c | .loop c => qHM c
 | _ => false
def cutS : C -> C
 | .seq a b => if qHM a then .cut (cutS a) (cutS b) else .seq (cutS a) (cutS b)
 | .cond x a b => .cond x (cutS a) (cutS b)
 | .block i c => .block i (cutS c)
 | .loop c => .loop (cutS c)
 | c => c
theorem qZW {P : Program} : ∀ (c : Code) (env : List Value) (h : H) (K : KK), vc P (cutS (cc P c)) env h K -> HC none P c (envQ ds K) ⟨env.toArray, ds⟩ h := by
 intro c
 induction c with
 | region id ops draw =>
  intro env h K hv
  have e : cutS (cc P (.region id ops draw)) = cc P (.region id ops draw) := by
   simp only [cc]
   split
   ·rfl
   ·split
    ·rfl
    ·split <;> rfl
   ·rfl
  rw [e] at hv
  exact qHU _ env h K hv
 | seq a b iha ihb =>
  intro env h K hv
  simp only [cc, cutS] at hv
  split at hv
  ·rw [qTY] at hv
   refine qXG ((iha env h _ hv).mono ?_)
   rintro e a' h' ⟨env', rfl, hk⟩
   cases e <;> simp only [cutC] at hk <;> simp only [seqK]
   case normal => obtain ⟨g, sb, hk⟩ := hk; exact HC.weaken sb (ihb env' g K hk)
   all_goals exact ⟨env', rfl, hk⟩
  ·rw [qNH] at hv
   refine qXG ((iha env h _ hv).mono ?_)
   rintro e a' h' ⟨env', rfl, hk⟩
   cases e <;> simp only [seqC] at hk <;> simp only [seqK]
   case normal => exact ihb env' h' K hk
   all_goals exact ⟨env', rfl, hk⟩
 | cond x a b iha ihb =>
  intro env h K hv
  simp only [cc, cutS, vc] at hv
  split at hv
  ·rename_i t ht
   refine qYZ (t := t) (by rw [qJO]; exact ht) ?_
   cases t
   ·exact ihb env h K hv
   ·exact iha env h K hv
  ·exact hv.elim
 | block id c ih =>
  intro env h K hv
  simp only [cc, cutS, vc] at hv
  refine qTM ((ih env h _ hv).mono ?_)
  rintro e a' h' ⟨env', rfl, hk⟩
  cases e <;> simp only at hk <;> simp only [blkK]
  case exit id' =>
   split
   ·rename_i e; rw [if_pos e] at hk; exact ⟨env', rfl, hk⟩
   ·rename_i e; rw [if_neg e] at hk; exact ⟨env', rfl, hk⟩
  all_goals exact ⟨env', rfl, hk⟩
 | loop c ih =>
  intro env h K hv
  simp only [cc, cutS, vc] at hv
  obtain ⟨J, n, ⟨g0, sb0, h0⟩, hr⟩ := hv
  refine qYX (fun n a h => ∃ env, a = ⟨env.toArray, ds⟩ /\ ∃ g, Sub g h /\ J n env g) n ⟨env, rfl, g0, sb0, h0⟩ ?_
  rintro n a h ⟨env, rfl, g, sb, hj⟩
  refine (HC.weaken sb (ih env g _ (hr n env g hj))).mono ?_
  rintro e a' h' ⟨env', rfl, hk⟩
  cases e <;> simp only [qMA] at hk <;> simp only [seqK]
  case normal => obtain ⟨m, hm, hj⟩ := hk; exact ⟨m, hm, env', rfl, hj⟩
  all_goals exact ⟨env', rfl, hk⟩
 | _ => intro env h K hv; exact qHU _ env h K hv
inductive RV where
 | tmp (t : Nat)
 | cell (a n : Nat) (agg : Bool)
def crv (P : Program) : ResultVar -> Option RV
 | .tmp t => some (.tmp t)
 | .cell a t => match P.underlying t, P.info? t with
  | some d, some i => some (.cell a i.size (aggD d))
  | _, _ => none
def crvs (P : Program) : List ResultVar -> Option (List RV)
 | [] => some []
 | r :: l => match crv P r, crvs P l with
  | some a, some b => some (a :: b)
  | _, _ => none
def resV (env : List Value) (h : H) : RV -> Option Value
 | .tmp t => some (env.getD t undef)
 | .cell a n agg => match env.getD a undef with
  | .pointer (some ⟨b, k, none⟩) => hval h b k n agg
  | _ => none
def resL (env : List Value) (h : H) : List RV -> Option (List Value)
 | [] => some []
 | r :: l => match resV env h r, resL env h l with
  | some v, some vs => some (v :: vs)
  | _, _ => none
def endV (R : Ending -> H -> Prop) (h : H) : Option (List Value) -> Prop
 | some [v] => R (.returned v) h
 | some vs => R (.returned (.tuple vs.toArray)) h
 | none => False
def qAW (rs : List RV) (R : Ending -> H -> Prop) : KK
 | .normal, env, h => endV R h (resL env h rs)
 | .ret, env, h => endV R h (resL env h rs)
 | .panic c, env, h => R (.panicked c) h
 | _, _, _ => False
theorem qPF (rs : List RV) (R : Ending -> H -> Prop) (env : List Value) (h : H) : qAW rs R .normal env h = endV R h (resL env h rs) := rfl
theorem zCW (rs : List RV) (R : Ending -> H -> Prop) (env : List Value) (h : H) : qAW rs R .ret env h = endV R h (resL env h rs) := rfl
theorem qTB (rs : List RV) (R : Ending -> H -> Prop) (c : List PanicEntry) (env : List Value) (h : H) : qAW rs R (.panic c) env h = R (.panicked c) h := rfl
theorem zIO (R : Ending -> H -> Prop) (h : H) (v : Value) : endV R h (some [v]) = R (.returned v) h := rfl
theorem zIN (R : Ending -> H -> Prop) (h : H) (v u : Value) : endV R h (some [v, u]) = R (.returned (.tuple #[v, u])) h := rfl
theorem qWG (R : Ending -> H -> Prop) (h : H) (v u x : Value) : endV R h (some [v, u, x]) = R (.returned (.tuple #[v, u, x])) h := rfl
theorem zCN (R : Ending -> H -> Prop) (h : H) : endV R h (some []) = R (.returned (.tuple #[])) h := rfl
structure IR where
 c : C
 rs : List RV
 n : Nat
def irOf (P : Program) (fn : Func) : Option IR :=
 match fn.body, crvs P fn.results.toList with
 | some c, some rs => some ⟨cc P c, rs, fn.ntmps⟩
 | _, _ => none
theorem qSF {P : Program} {h : H} {a : Addr} {m : Mode} : evH P (Go.load a m) h = vP h a := by
 simp only [Go.load, evH]
 cases vP h a <;> rfl
theorem zIB {P : Program} {h : H} {t : TypeId} {d : TypeDesc} {i : TypeInfo} {b k : Nat} {v : Value} (hd : P.underlying t = some d) (hi : P.info? t = some i) (hv : hval h b k i.size (aggD d) = some v) : evH P (loadVar t ⟨b, k, none⟩) h = some v := by
 have under : evH P (underlying t) h = some d := by simp only [underlying, program, wM, evH, Option.bind_some, hd]; rfl
 have info : evH P (typeInfo t) h = some i := by simp only [typeInfo, program, wM, evH, Option.bind_some, hi]; rfl
 have agg : evH P (isAgg t) h = some (aggD d) := by
  simp only [isAgg, wM, under, Option.bind_some]
  cases d <;> rfl
 have size : evH P (sizeOf t) h = some i.size := by simp only [sizeOf, wM, info, Option.bind_some]; rfl
 have cells : ∀ (n j : Nat) (acc : Array Value) (l : List Value), l.length = n -> (∀ q, q < n -> hcel h b (k + j + q) = l[q]?) -> evH P (loadCellsFrom ⟨b, k, none⟩ j n acc) h = some (acc ++ l.toArray) := by
  intro n
  induction n with
  | zero => intro j acc l hl _; have : l = [] := List.eq_nil_of_length_eq_zero hl; subst this; show some acc = _; simp only [Array.append_empty]
  | succ n ih =>
   intro j acc l hl hc
   cases l with
   | nil => cases hl
   | cons v l =>
    have h0 := hc 0 (by omega)
    simp only [Nat.add_zero, List.getElem?_cons_zero] at h0
    have hl1 : evH P (Go.load ((⟨b, k, none⟩ : Addr).add j)) h = some v := by
     rw [qSF, vC, qAN, h0]
    simp only [loadCellsFrom, wM, hl1, Option.bind_some]
    rw [ih (j + 1) (acc.push v) l (by simpa using hl) (fun q hq => by have := hc (q + 1) (by omega); simpa [Nat.add_assoc, Nat.add_comm 1 q] using this)]
    congr 1
    simp
 unfold loadVar
 simp only [wM, agg, Option.bind_some]
 unfold hval at hv
 cases ha : aggD d
 ·rw [ha] at hv
  simp only [Bool.false_eq_true, if_false] at hv ⊢
  rw [qSF, qAN, hv]
 ·rw [ha] at hv
  simp only [if_true] at hv ⊢
  cases hr : qV h b k i.size with
  | none => rw [hr] at hv; cases hv
  | some l =>
   rw [hr] at hv
   cases hv
   obtain ⟨hl, hc⟩ := qCD hr
   have := cells i.size 0 #[] l hl (fun j hj => by simpa using hc j hj)
   simp only [wM, size, Option.bind_some, loadCells, this, qEP]
   simp
theorem uJ {P : Program} {fn : Func} {rs : List RV} {env : List Value} {h : H} {R : Ending -> H -> Prop} (hc : crvs P fn.results.toList = some rs) (he : endV R h (resL env h rs)) : ∃ v, evH P (results fn env.toArray) h = some v /\ R (.returned v) h := by
 have key : ∀ (f : ResultVar -> Sem Value) (hf1 : ∀ t, f (.tmp t) = pure (env.toArray.getD t undef)) (hf2 : ∀ a t, f (.cell a t) = do loadVar t (<- asAddr (env.toArray.getD a undef))) (l : List ResultVar) (rs : List RV) (vs : List Value),
   crvs P l = some rs -> resL env h rs = some vs -> evH P (l.mapM f) h = some vs := by
  intro f hf1 hf2 l
  induction l with
  | nil => intro rs vs hc hr; cases hc; cases hr; rfl
  | cons r l ih =>
   intro rs vs hc hr
   simp only [crvs] at hc
   split at hc
   ·rename_i a b ha hb
    cases hc
    simp only [resL] at hr
    split at hr
    ·rename_i v vs' hv hvs
     cases hr
     have ih' := ih b vs' hb hvs
     simp only [List.mapM_cons, wM]
     rw [ih']
     cases r with
     | tmp t =>
      cases ha
      simp only [resV, Option.some.injEq] at hv
      subst hv
      simp [hf1, qEP]
     | cell a0 t =>
      simp only [crv] at ha
      split at ha
      ·rename_i d i hd hi
       cases ha
       simp only [resV] at hv
       split at hv
       ·rename_i b k hx
        have hx' : env.toArray.getD a0 undef = .pointer (some ⟨b, k, none⟩) := by simpa using hx
        simp only [hf2, hx', asAddr, wM, qEP, Option.bind_some, zIB hd hi hv]
       ·cases hv
      ·cases ha
    ·cases hr
   ·cases hc
 cases hr : resL env h rs with
 | none => rw [hr] at he; exact he.elim
 | some vs =>
  rw [hr] at he
  unfold results
  rw [Array.mapM_eq_mapM_toList, map_eq_pure_bind]
  simp only [wM]
  rw [key _ (fun _ => rfl) (fun _ _ => rfl) _ _ _ hc hr]
  simp only [Option.bind_some, qEP, Option.some.injEq, exists_eq_left']
  match vs, he with
  | [], he => exact he
  | [v], he => exact he
  | v :: u :: l, he => exact he
theorem yK {P : Program} {f : FuncId} {fn : Func} {ir : IR} {args : List Value} {h : H} {R : Ending -> H -> Prop} (hf : P.funcs[f]? = some fn) (hi : irOf P fn = some ir)
  (k : vc P ir.c (args ++ List.replicate (ir.n - args.length) undef) h (qAW ir.rs (dP R))) : HCalls P f args.toArray h R := by
 apply HCalls.drop
 unfold irOf at hi
 split at hi
 ·rename_i c rs hb hr
  cases hi
  refine qBT hf hb ?_
  have := qHU (ds := []) c _ h _ k
  rw [show args.toArray ++ Array.replicate (fn.ntmps - args.toArray.size) undef = (args ++ List.replicate (fn.ntmps - args.length) undef).toArray from by apply Array.ext'; simp]
  refine this.mono ?_
  rintro e a h' ⟨env', rfl, hk⟩
  cases e <;> simp only [qAW] at hk <;> simp only [qYS]
  case normal => exact ⟨trivial, uJ hr hk⟩
  case ret => exact ⟨trivial, uJ hr hk⟩
  case panic c => exact ⟨trivial, hk⟩
  all_goals exact hk.elim
 ·cases hi
def qJH (P : Program) (fn : Func) : Option IR := (irOf P fn).map fun r => { r with c := cutS r.c }
theorem qXF {P : Program} {f : FuncId} {fn : Func} {ir : IR} {args : List Value} {h : H} {R : Ending -> H -> Prop} (hf : P.funcs[f]? = some fn) (hi : qJH P fn = some ir)
  (k : vc P ir.c (args ++ List.replicate (ir.n - args.length) undef) h (qAW ir.rs (dP R))) : HCalls P f args.toArray h R := by
 apply HCalls.drop
 unfold qJH irOf at hi
 cases hb : fn.body with
 | none => simp [hb] at hi
 | some c =>
 cases hr : crvs P fn.results.toList with
 | none => simp [hb, hr] at hi
 | some rs =>
  simp only [hb, hr, Option.map_some, Option.some.injEq] at hi
  subst hi
  refine qBT hf hb ?_
  have := qZW (ds := []) c _ h _ k
  rw [show args.toArray ++ Array.replicate (fn.ntmps - args.toArray.size) undef = (args ++ List.replicate (fn.ntmps - args.length) undef).toArray from by apply Array.ext'; simp]
  refine this.mono ?_
  rintro e a h' ⟨env', rfl, hk⟩
  cases e <;> simp only [qAW] at hk <;> simp only [qYS]
  case normal => exact ⟨trivial, uJ hr hk⟩
  case ret => exact ⟨trivial, uJ hr hk⟩
  case panic c => exact ⟨trivial, hk⟩
  all_goals exact hk.elim
@[reducible] def N.s (d : Nat) (i : I) : N := ⟨some d, none, i⟩
@[reducible] def N.n (i : I) : N := ⟨none, none, i⟩
@[reducible] def N.v (d t : Nat) : N := ⟨some d, none, .mov (.tmp t)⟩
end Go.Tk
namespace Go
@[reducible] def Operand.t (n : Nat) : Operand := .tmp n
@[reducible] def Operand.i (n : Int) : Operand := .const (.int .i64 n)
end Go
