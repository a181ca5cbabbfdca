/- Code with its types looked up, and what is to be shown of it. -/
import Derived.Test.YtllhdnfcneejaaaA8D
set_option linter.unusedVariables false
set_option linter.unusedSimpArgs false
namespace Go.Tk
open Go

structure N where
  d : Option Nat
  g : Option (Nat × Bool)
  i : I

/-- A step of a statement whose order is left open: 0 what floats, 1 a call that floats, 2 and 4 what all wait for (behind 4 what floats may read what is new), 3 the end of the statement. -/
structure D where
  k : Nat
  n : N

inductive C where
  | ops (l : List N)
  | draw (l : List D)
  | seq (a b : C)
  | cond (x : Operand) (a b : C)
  | block (id : Nat) (c : C)
  | loop (c : C)
  | exit (id : Nat)
  | ret
  | skip
  | raw (c : Code)

def evl (env : List Value) : Operand → Value
  | .tmp t => env.getD t undef
  | .const v => v
  | .global g => .pointer (some ⟨g, 0, none⟩)
  | .func f => .func (.func f) #[] #[]

def putE (d : Option Nat) (v : Value) (env : List Value) : List Value :=
  match d with
  | none => env
  | some d => env.set d v

abbrev KK := Exit → List Value → H → Prop

def isB : Value → Bool → Bool
  | .bool b, w => b == w
  | _, _ => false

def vops (P : Program) : List N → List Value → H → KK → Prop
  | [], env, h, K => K .normal env h
  | n :: r, env, h, K => match n.g with
    | none => vop P (evl env) h (fun v h' => vops P r (putE n.d v env) h' K) (fun c h' => K (.panic c) env h') n.i
    | some (t, w) => if isB (evl env (.tmp t)) w = true then vop P (evl env) h (fun v h' => vops P r (putE n.d v env) h' K) (fun c h' => K (.panic c) env h') n.i else vops P r (putE n.d undef env) h K

def cont (P : Program) (r : List N) (d : Option Nat) (env : List Value) (K : KK) : Value → H → Prop := fun v h => vops P r (putE d v env) h K
def panK (env : List Value) (K : KK) : List PanicEntry → H → Prop := fun c h => K (.panic c) env h

theorem cont_app (P : Program) (r : List N) (d : Nat) (env : List Value) (K : KK) (v : Value) (h : H) : cont P r (some d) env K v h = vops P r (env.set d v) h K := rfl
theorem cont_app0 (P : Program) (r : List N) (env : List Value) (K : KK) (v : Value) (h : H) : cont P r none env K v h = vops P r env h K := rfl
theorem panK_app (env : List Value) (K : KK) (c : List PanicEntry) (h : H) : panK env K c h = K (.panic c) env h := rfl
theorem vops_nil (P : Program) (env : List Value) (h : H) (K : KK) : vops P [] env h K = K .normal env h := rfl
theorem vops_cons (P : Program) (d : Option Nat) (i : I) (r : List N) (env : List Value) (h : H) (K : KK) : vops P (⟨d, none, i⟩ :: r) env h K = vop P (evl env) h (cont P r d env K) (panK env K) i := rfl
theorem putE_some (d : Nat) (v : Value) (env : List Value) : putE (some d) v env = env.set d v := rfl
theorem putE_none (v : Value) (env : List Value) : putE none v env = env := rfl

def wantE (env : List Value) : Option (Nat × Bool) → Bool
  | none => true
  | some (t, w) => isB (env.getD t undef) w

def vdr (P : Program) : List D → List Value → H → H → KK → Prop
  | [], env, h, _, K => K .normal env h
  | x :: r, env, h, hr, K =>
    if wantE env x.n.g = true then
      (match x.k with
       | 0 => vfl (evl env) hr (fun v => vdr P r (putE x.n.d v env) h hr K) x.n.i
       | 1 => (match x.n.i with
         | .call f args => ∃ v, (∀ R : Ending → H → Prop, R (.returned v) hr → HCalls P f (args.map (evl env)).toArray hr R) ∧ vdr P r (putE x.n.d v env) h hr K
         | _ => False)
       | 2 => vop P (evl env) h (fun v h' => Sub hr h' ∧ vdr P r (putE x.n.d v env) h' hr K) (fun _ _ => False) x.n.i
       | 4 => vop P (evl env) h (fun v h' => Sub hr h' ∧ vdr P r (putE x.n.d v env) h' h' K) (fun _ _ => False) x.n.i
       | _ => vop P (evl env) h (fun v h' => vdr P r (putE x.n.d v env) h' hr K) (fun _ _ => False) x.n.i)
    else vdr P r (putE x.n.d undef env) h hr K

def loopC (J : Nat → List Value → H → Prop) (n : Nat) (K : KK) : KK
  | .normal, env, h => ∃ m, m < n ∧ ∃ g, Sub g h ∧ J m env g
  | e, env, h => K e env h

def vc (P : Program) : C → List Value → H → KK → Prop
  | .ops l, env, h, K => vops P l env h K
  | .draw l, env, h, K => ∃ hr, Sub hr h ∧ vdr P l env h hr K
  | .seq a b, env, h, K => vc P a env h fun e env h => match e with
    | .normal => vc P b env h K
    | e => K e env h
  | .cond x a b, env, h, K => match evl env x with
    | .bool c => if c = true then vc P a env h K else vc P b env h K
    | _ => False
  | .block id c, env, h, K => vc P c env h fun e env h => match e with
    | .exit id' => if id' = id then K .normal env h else K (.exit id') env h
    | e => K e env h
  | .loop c, env, h, K => ∃ (J : Nat → List Value → H → Prop) (n : Nat), (∃ g, Sub g h ∧ J n env g) ∧ ∀ n env h, J n env h → vc P c env h (loopC J n K)
  | .exit id, env, h, K => K (.exit id) env h
  | .ret, env, h, K => K .ret env h
  | .skip, env, h, K => K .normal env h
  | .raw c, env, h, K => HC P c (fun e a h' => ∃ env', a = ⟨env'.toArray, []⟩ ∧ K e env' h') ⟨env.toArray, []⟩ h

def seqC (P : Program) (b : C) (K : KK) : KK
  | .normal, env, h => vc P b env h K
  | e, env, h => K e env h
def blkC (id : Nat) (K : KK) : KK
  | .exit id', env, h => if id' = id then K .normal env h else K (.exit id') env h
  | e, env, h => K e env h
def vcond (P : Program) (v : Value) (a b : C) (env : List Value) (h : H) (K : KK) : Prop :=
  match v with
  | .bool c => if c = true then vc P a env h K else vc P b env h K
  | _ => False

theorem vc_ops (P : Program) (l : List N) (env : List Value) (h : H) (K : KK) : vc P (.ops l) env h K = vops P l env h K := rfl
theorem vc_seq (P : Program) (a b : C) (env : List Value) (h : H) (K : KK) : vc P (.seq a b) env h K = vc P a env h (seqC P b K) := by
  simp only [vc]
  congr 1
  funext e env h
  cases e <;> rfl
theorem vc_cond (P : Program) (x : Operand) (a b : C) (env : List Value) (h : H) (K : KK) : vc P (.cond x a b) env h K = vcond P (evl env x) a b env h K := rfl
theorem vcond_bool (P : Program) (c : Bool) (a b : C) (env : List Value) (h : H) (K : KK) : vcond P (.bool c) a b env h K = if c = true then vc P a env h K else vc P b env h K := rfl
theorem vc_block (P : Program) (id : Nat) (c : C) (env : List Value) (h : H) (K : KK) : vc P (.block id c) env h K = vc P c env h (blkC id K) := by
  simp only [vc]
  congr 1
  funext e env h
  cases e <;> rfl
theorem vc_exit (P : Program) (id : Nat) (env : List Value) (h : H) (K : KK) : vc P (.exit id) env h K = K (.exit id) env h := rfl
theorem vc_ret (P : Program) (env : List Value) (h : H) (K : KK) : vc P .ret env h K = K .ret env h := rfl
theorem vc_skip (P : Program) (env : List Value) (h : H) (K : KK) : vc P .skip env h K = K .normal env h := rfl
theorem seqC_normal (P : Program) (b : C) (K : KK) (env : List Value) (h : H) : seqC P b K .normal env h = vc P b env h K := rfl
theorem seqC_exit (P : Program) (b : C) (K : KK) (id : Nat) (env : List Value) (h : H) : seqC P b K (.exit id) env h = K (.exit id) env h := rfl
theorem seqC_ret (P : Program) (b : C) (K : KK) (env : List Value) (h : H) : seqC P b K .ret env h = K .ret env h := rfl
theorem seqC_panic (P : Program) (b : C) (K : KK) (c : List PanicEntry) (env : List Value) (h : H) : seqC P b K (.panic c) env h = K (.panic c) env h := rfl
theorem blkC_normal (id : Nat) (K : KK) (env : List Value) (h : H) : blkC id K .normal env h = K .normal env h := rfl
theorem blkC_exit (id id' : Nat) (K : KK) (env : List Value) (h : H) : blkC id K (.exit id') env h = if id' = id then K .normal env h else K (.exit id') env h := rfl
theorem blkC_ret (id : Nat) (K : KK) (env : List Value) (h : H) : blkC id K .ret env h = K .ret env h := rfl
theorem blkC_panic (id : Nat) (K : KK) (c : List PanicEntry) (env : List Value) (h : H) : blkC id K (.panic c) env h = K (.panic c) env h := rfl
theorem loopC_normal (J : Nat → List Value → H → Prop) (n : Nat) (K : KK) (env : List Value) (h : H) : loopC J n K .normal env h = ∃ m, m < n ∧ ∃ g, Sub g h ∧ J m env g := rfl
theorem loopC_exit (J : Nat → List Value → H → Prop) (n : Nat) (K : KK) (id : Nat) (env : List Value) (h : H) : loopC J n K (.exit id) env h = K (.exit id) env h := rfl
theorem loopC_ret (J : Nat → List Value → H → Prop) (n : Nat) (K : KK) (env : List Value) (h : H) : loopC J n K .ret env h = K .ret env h := rfl
theorem loopC_panic (J : Nat → List Value → H → Prop) (n : Nat) (K : KK) (c : List PanicEntry) (env : List Value) (h : H) : loopC J n K (.panic c) env h = K (.panic c) env h := rfl

/-! ### The code's operations looked up -/

def cn (P : Program) (ops : Array Oper) (o : Oper) : Option N :=
  match o.guard with
  | none => some ⟨o.dst, none, ci P o.op o.type⟩
  | some (j, w) => match (ops[j]?).bind (·.dst) with
    | some t => some ⟨o.dst, some (t, w), ci P o.op o.type⟩
    | none => none

def cns (P : Program) (ops : Array Oper) : List Oper → Option (List N)
  | [] => some []
  | o :: r => match cn P ops o, cns P ops r with
    | some n, some l => some (n :: l)
    | _, _ => none

def fKind : I → Bool
  | .mov _ | .pick .. | .load .. | .fld .. | .get .. | .idxS .. | .idxA .. | .idxT .. | .nilc _ | .bin .. | .beq .. | .ieq .. | .leq .. | .not _ | .conv .. | .iface .. | .fn .. | .build .. | .slc .. | .slT .. | .lenT _ | .lenS _ | .btos _ | .ext .. | .asrt .. => true
  | _ => false
def aKind : I → Bool
  | .alloc .. | .box .. | .bslice .. | .mslice .. => true
  | _ => false
def cKind : I → Bool
  | .call .. => true
  | _ => false

/-- Where the end of the statement begins: each operation from there on stands behind all ahead of it. -/
def tailLen (ops : Array Oper) : Nat → Nat
  | 0 => 0
  | i + 1 => if (List.range i).all (behind .any ops i) then tailLen ops i else i + 1

def stepD (P : Program) (ops : Array Oper) (i k : Nat) (r : Option (List D)) : Option (List D) :=
  match ops[i]? with
  | some o => match cn P ops o, r with
    | some n, some l => some (⟨k, n⟩ :: l)
    | _, _ => none
  | none => none

def kindAt (P : Program) (ops : Array Oper) (f : I → Bool) (i : Nat) : Bool :=
  match ops[i]? with
  | some o => f (ci P o.op o.type)
  | none => false

def floatOk (P : Program) (ops : Array Oper) (s : Nat) (listed : Array Bool) (f : I → Bool) (i : Nat) : Bool :=
  kindAt P ops f i && decide (i < s) && Region.free .any ops listed i && tailOk .any ops (fun j => decide (s ≤ j)) i

def drawL (P : Program) (ops : Array Oper) (s : Nat) : Nat → Array Bool → Option (List D)
  | 0, listed => if Region.ready .any ops listed = [] then some [] else none
  | fuel + 1, listed => match Region.ready .any ops listed with
    | [] => some []
    | [i] => if s ≤ i then (if (List.range ops.size).all (fun j => listed.getD j true || decide (s ≤ j)) then stepD P ops i 3 (drawL P ops s fuel (listed.setIfInBounds i true)) else none)
      else stepD P ops i (if ((drawL P ops s fuel (listed.setIfInBounds i true)).getD []).any (fun d => (d.k == 2 || d.k == 4) && !aKind d.n.i) then 2 else 4) (drawL P ops s fuel (listed.setIfInBounds i true))
    | rs => match rs.find? (floatOk P ops s listed fKind) with
      | some i => stepD P ops i 0 (drawL P ops s fuel (listed.setIfInBounds i true))
      | none => match rs.find? (floatOk P ops s listed cKind) with
        | some i => stepD P ops i 1 (drawL P ops s fuel (listed.setIfInBounds i true))
        | none => none

def drawOf (P : Program) (ops : Array Oper) : Option (List D) :=
  if P.follows .mixedOrders && Region.noSelect ops then drawL P ops (tailLen ops ops.size) ops.size (Array.replicate ops.size false) else none

def cc (P : Program) : Code → C
  | .skip => .skip
  | .region id ops draw => match draw, cns P ops ops.toList with
    | false, some l => .ops l
    | true, _ => match drawOf P ops with
      | some l => .draw l
      | none => .raw (.region id ops true)
    | _, _ => .raw (.region id ops draw)
  | .seq a b => .seq (cc P a) (cc P b)
  | .cond c a b => .cond c (cc P a) (cc P b)
  | .block id c => .block id (cc P c)
  | .loop c => .loop (cc P c)
  | .exit id => .exit id
  | .ret => .ret
  | c => .raw c

theorem eval_evl (env : List Value) (ds : List Deferred) : Act.eval ⟨env.toArray, ds⟩ = evl env := by
  funext x
  cases x <;> simp [Act.eval, evl]

theorem put_putE (env : List Value) (ds : List Deferred) (d : Option Nat) (v : Value) : Act.put ⟨env.toArray, ds⟩ d v = ⟨(putE d v env).toArray, ds⟩ := by
  cases d <;> simp [Act.put, putE]

def envQ (K : KK) : Exit → Act → H → Prop := fun e a h' => ∃ env', a = ⟨env'.toArray, []⟩ ∧ K e env' h'

theorem op_sound {P : Program} {o : Oper} {env : List Value} {h : H} {K : Value → H → Prop} {X : List PanicEntry → H → Prop} {K2 : Act → H → Prop} {Q : Exit → Act → H → Prop} (hv : vop P (evl env) h K X (ci P o.op o.type))
    (hk : ∀ v h', dP K v h' → K2 ⟨(putE o.dst v env).toArray, []⟩ h') (hx : ∀ c h', X c h' → Q (.panic c) ⟨env.toArray, []⟩ h') : opH P o ⟨env.toArray, []⟩ h K2 Q := by
  unfold opH
  rw [eval_evl]
  have h1 := ci_sound (P := P) (ρ := evl env) (ty := o.type) (K := dP K) o.op (fun v h ⟨g, sb, g', sb', k⟩ => ⟨g', sb'.trans sb, k⟩) (fun _ => rfl) (fun _ => rfl) (vop_mono (fun v h k => dP.of k) (fun _ _ x => x) hv)
  have he : execOp (evl env) o = execOp (evl env) (mkO o.op o.type) := by
    obtain ⟨d, op, ty, p, a, g⟩ := o
    cases op <;> rfl
  rw [he]
  refine SH_mono _ ?_ (fun v h' => hx _ h') h1
  intro n h' hn
  cases n <;> simp only [nextK] at hn <;> simp only [nextH]
  case value v => rw [put_putE]; exact hk _ _ hn
  case skip => rw [put_putE]; exact hk _ _ hn
  case enter f args =>
    refine hn.mono fun e h'' hr => ?_
    cases e with
    | returned v => simp only [callK, put_putE]; exact hk _ _ hr
    | panicked c => exact hx _ _ hr
    | outgrown => exact hr.elim
  case row row args =>
    intro w s
    refine Rows.mono (hn w s) fun v w' ⟨h'', r, p⟩ => ⟨h'', ?_, p⟩
    show K2 (Act.put _ _ _) _
    rw [put_putE]; exact hk _ _ r
  all_goals exact hn.elim

theorem wanted_none {o : Oper} (hg : o.guard = none) (y : Nat → Option Bool) : Region.wanted o y = true := by simp [Region.wanted, hg]

theorem yielded_env {ops : Array Oper} {env : List Value} {j t : Nat} (h : (ops[j]?).bind (·.dst) = some t) : yielded ops env.toArray j = match env.getD t undef with | .bool b => some b | _ => none := by
  unfold yielded
  rw [h]
  simp only [Option.bind_some, List.getElem?_toArray, List.getD_eq_getElem?_getD]
  cases env[t]? with
  | none => rfl
  | some v => cases v <;> rfl

theorem vops_sound {P : Program} {ops : Array Oper} {K : KK} : ∀ (l : List Oper) (ns : List N) (env : List Value) (h : H), cns P ops l = some ns → vops P ns env h K → listH P ops (fun e => dP (envQ K e)) l ⟨env.toArray, []⟩ h := by
  intro l
  induction l with
  | nil => intro ns env h hc hv; cases hc; exact dP.of ⟨env, rfl, hv⟩
  | cons o l ih =>
    intro ns env h hc hv
    simp only [cns] at hc
    split at hc
    · rename_i n ns' hn hns
      cases hc
      unfold cn at hn
      split at hn
      · rename_i hg
        cases hn
        simp only [vops] at hv
        simp only [listH]
        rw [if_pos (wanted_none hg _)]
        exact op_sound hv (fun v h' ⟨g, sb, hk⟩ => listH_weaken _ _ _ _ sb (ih ns' _ g hns hk)) (fun c h' hx => dP.of ⟨env, rfl, hx⟩)
      · rename_i j w hg
        split at hn
        · rename_i t ht
          cases hn
          simp only [vops] at hv
          simp only [listH]
          have hw : Region.wanted o (yielded ops env.toArray) = isB (evl env (.tmp t)) w := by
            simp only [Region.wanted, hg, yielded_env ht, evl]
            cases env.getD t undef <;> simp [isB]
          rw [hw]
          split at hv
          · rename_i hb
            rw [if_pos hb]
            exact op_sound hv (fun v h' ⟨g, sb, hk⟩ => listH_weaken _ _ _ _ sb (ih ns' _ g hns hk)) (fun c h' hx => dP.of ⟨env, rfl, hx⟩)
          · rename_i hb
            rw [if_neg hb, put_putE]
            exact ih ns' _ h hns hv
        · cases hn
    · cases hc

theorem wanted_env {P : Program} {ops : Array Oper} {o : Oper} {n : N} {env : List Value} (hc : cn P ops o = some n) : Region.wanted o (yielded ops env.toArray) = wantE env n.g ∧ n.d = o.dst ∧ n.i = ci P o.op o.type := by
  unfold cn at hc
  split at hc
  · rename_i hg; cases hc; exact ⟨wanted_none hg _, rfl, rfl⟩
  · rename_i j w hg
    split at hc
    · rename_i t ht
      cases hc
      refine ⟨?_, rfl, rfl⟩
      simp only [Region.wanted, hg, yielded_env ht, wantE]
      cases env.getD t undef <;> simp [isB]
    · cases hc

theorem stepD_spec {P : Program} {ops : Array Oper} {i k : Nat} {r : Option (List D)} {l : List D} (h : stepD P ops i k r = some l) : ∃ o n l', ops[i]? = some o ∧ cn P ops o = some n ∧ r = some l' ∧ l = ⟨k, n⟩ :: l' := by
  unfold stepD at h
  split at h
  · rename_i o ho
    split at h
    · rename_i n l' hn; cases h; exact ⟨o, n, l', ho, hn, rfl, rfl⟩
    · cases h
  · cases h

theorem yd_of {P : Program} {ops : Array Oper} {o : Oper} {n : N} {env : List Value} {hr : H} {v : Value} (hn : cn P ops o = some n) (hw : wantE env n.g = true)
    (hv : ∀ (K' : Value → H → Prop) (X' : List PanicEntry → H → Prop), K' v hr → vop P (evl env) hr K' X' n.i) : Yd P ops hr o v ⟨env.toArray, []⟩ := by
  obtain ⟨h1, h2, h3⟩ := wanted_env (env := env) hn
  refine .inl ⟨h1.trans hw, OpW.drop (OpW_of (op_sound (K := fun v' h' => v' = v ∧ h' = hr) (X := fun _ _ => False) (h3 ▸ hv _ _ ⟨rfl, rfl⟩) ?_ ?_))⟩
  · rintro v' h' ⟨g, sb, rfl, rfl⟩; exact ⟨_, sb, (put_putE _ _ _ _).symm, rfl⟩
  · intro c h' x; exact x.elim

theorem vdr_sound {P : Program} {ops : Array Oper} {s : Nat} {K : KK} (hs : Region.noSelect ops = true) : ∀ (fuel : Nat) (listed : Array Bool) (l : List D) (env : List Value) (h hr : H), drawL P ops s fuel listed = some l →
    ((∀ j o, ops[j]? = some o → listed.getD j true = false → s ≤ j) ∨ Sub hr h) → vdr P l env h hr K → anyI P .any ops (fun j => decide (s ≤ j)) hr (envQ K .normal) fuel listed ⟨env.toArray, []⟩ h := by
  intro fuel
  induction fuel with
  | zero =>
    intro listed l env h hr hd hsub hv
    simp only [drawL] at hd
    split at hd
    · rename_i e; cases hd; exact ⟨e, env, rfl, hv⟩
    · cases hd
  | succ fuel ih =>
    intro listed l env h hr hd hsub hv
    simp only [drawL] at hd
    have float : ∀ i f k rs, Region.ready .any ops listed = rs → rs.find? (floatOk P ops s listed f) = some i → (k = 0 ∧ f = fKind) ∨ (k = 1 ∧ f = cKind) → stepD P ops i k (drawL P ops s fuel (listed.setIfInBounds i true)) = some l →
        anyI P .any ops (fun j => decide (s ≤ j)) hr (envQ K .normal) (fuel + 1) listed ⟨env.toArray, []⟩ h := by
      intro i f k rs hrs hf hk hd
      obtain ⟨o, n, l', ho, hn, hl', rfl⟩ := stepD_spec hd
      have hp := List.find?_some hf
      have hm := List.mem_of_find?_eq_some hf
      rw [← hrs] at hm
      simp only [floatOk, Bool.and_eq_true, decide_eq_true_eq] at hp
      obtain ⟨⟨⟨hkd, hlt⟩, hfree⟩, htail⟩ := hp
      have hun := (mem_ready.1 hm).1
      have hsb : Sub hr h := hsub.resolve_left fun x => absurd (x i o ho hun) (by omega)
      obtain ⟨h1, h2, h3⟩ := wanted_env (env := env) hn
      simp only [vdr] at hv
      split at hv
      · rename_i hw
        have go : ∀ v, vdr P l' (putE n.d v env) h hr K → (∀ (K' : Value → H → Prop) (X' : List PanicEntry → H → Prop), K' v hr → vop P (evl env) hr K' X' n.i) → anyI P .any ops (fun j => decide (s ≤ j)) hr (envQ K .normal) (fuel + 1) listed ⟨env.toArray, []⟩ h := by
          intro v hk hv
          refine anyI_take ho hs htail hfree hm hsb (yd_of hn hw hv) ?_
          rw [put_putE, ← h2]
          exact ih _ l' _ h hr hl' (.inr hsb) hk
        rcases hk with ⟨rfl, rfl⟩ | ⟨rfl, rfl⟩
        · obtain ⟨v, hk, hv⟩ := vfl_vop (P := P) hv
          exact go v hk hv
        · simp only at hv
          split at hv
          · rename_i g args hi
            obtain ⟨v, hc, hk⟩ := hv
            exact go v hk (fun K' X' k => by rw [hi]; exact hc _ k)
          · exact hv.elim
      · rename_i hw
        refine anyI_take (v := undef) ho hs htail hfree hm hsb (.inr ⟨by rw [h1]; simpa using hw, rfl⟩) ?_
        rw [put_putE, ← h2]
        exact ih _ l' _ h hr hl' (.inr hsb) hv
    split at hd
    · rename_i e; cases hd; exact anyI_done e ⟨env, rfl, hv⟩ _
    · rename_i i e
      have hun : listed.getD i true = false := by
        have : i ∈ Region.ready .any ops listed := by rw [e]; simp
        exact (mem_ready.1 this).1
      split at hd
      · rename_i hge
        split at hd
        · rename_i hall
          obtain ⟨o, n, l', ho, hn, hl', rfl⟩ := stepD_spec hd
          obtain ⟨h1, h2, h3⟩ := wanted_env (env := env) hn
          have hrest : ∀ j o, ops[j]? = some o → (listed.setIfInBounds i true).getD j true = false → s ≤ j := by
            intro j oj hj hl
            have hx := List.all_eq_true.1 hall j (List.mem_range.2 (Array.getElem?_eq_some_iff.1 hj).1)
            simp only [Bool.or_eq_true, decide_eq_true_eq] at hx
            rcases hx with hx | hx
            · exfalso
              by_cases hij : i = j
              · subst hij; rw [hun] at hx; cases hx
              · rw [getD_set_ne true hij, hx] at hl; cases hl
            · exact hx
          refine anyI_only e ?_
          unfold opI
          simp only [ho]
          simp only [vdr] at hv
          split at hv
          · rename_i hw
            rw [if_pos (h1.trans hw)]
            refine OpW.drop (OpW_of (op_sound (K := fun v h' => vdr P l' (putE n.d v env) h' hr K) (X := fun _ _ => False) (h3 ▸ hv) ?_ (fun _ _ x => x.elim)))
            rintro v hh ⟨h', sbb, hk⟩
            refine ⟨h', sbb, ?_⟩
            refine ⟨fun x => by simp only [decide_eq_false_iff_not] at x; omega, ?_⟩
            rw [← h2]
            exact ih _ l' _ h' hr hl' (.inl hrest) hk
          · rename_i hw
            rw [if_neg (by rw [h1]; simpa using hw), put_putE, ← h2]
            exact ih _ l' _ h hr hl' (.inl hrest) hv
        · cases hd
      · rename_i hlt
        obtain ⟨o, n, l', ho, hn, hl', rfl⟩ := stepD_spec hd
        obtain ⟨h1, h2, h3⟩ := wanted_env (env := env) hn
        have hsb : Sub hr h := hsub.resolve_left fun x => hlt (x i o ho hun)
        refine anyI_only e ?_
        unfold opI
        simp only [ho]
        generalize ((drawL P ops s fuel (listed.setIfInBounds i true)).getD []).any (fun d => (d.k == 2 || d.k == 4) && !aKind d.n.i) = kb at hv
        simp only [vdr] at hv
        split at hv
        · rename_i hw
          rw [if_pos (h1.trans hw)]
          cases kb
          · simp only [Bool.false_eq_true, if_false] at hv
            refine OpW.drop (OpW_of (op_sound (K := fun v h' => Sub hr h' ∧ vdr P l' (putE n.d v env) h' h' K) (X := fun _ _ => False) (h3 ▸ hv) ?_ (fun _ _ x => x.elim)))
            rintro v hh ⟨h', sbb, s1, hk⟩
            refine ⟨h', sbb, ?_⟩
            refine ⟨fun _ => s1, ?_⟩
            rw [← h2]
            exact anyI_more s1 _ _ _ _ (ih _ l' _ h' h' hl' (.inr (Sub.refl _)) hk)
          · simp only [if_true] at hv
            refine OpW.drop (OpW_of (op_sound (K := fun v h' => Sub hr h' ∧ vdr P l' (putE n.d v env) h' hr K) (X := fun _ _ => False) (h3 ▸ hv) ?_ (fun _ _ x => x.elim)))
            rintro v hh ⟨h', sbb, s1, hk⟩
            refine ⟨h', sbb, ?_⟩
            refine ⟨fun _ => s1, ?_⟩
            rw [← h2]
            exact ih _ l' _ h' hr hl' (.inr s1) hk
        · rename_i hw
          rw [if_neg (by rw [h1]; simpa using hw), put_putE, ← h2]
          exact ih _ l' _ h hr hl' (.inr hsb) hv
    · split at hd
      · rename_i i hf
        exact float i fKind 0 _ rfl hf (.inl ⟨rfl, rfl⟩) hd
      · split at hd
        · rename_i i hf
          exact float i cKind 1 _ rfl hf (.inr ⟨rfl, rfl⟩) hd
        · cases hd

theorem vc_sound {P : Program} : ∀ (c : Code) (env : List Value) (h : H) (K : KK), vc P (cc P c) env h K → HC P c (envQ K) ⟨env.toArray, []⟩ h := by
  intro c
  induction c with
  | skip => intro env h K hv; exact HC_skip ⟨env, rfl, hv⟩
  | region id ops draw =>
    intro env h K hv
    simp only [cc] at hv
    split at hv
    · rename_i l hl
      exact (HC_region (Q := fun e => dP (envQ K e)) (vops_sound _ _ _ _ hl hv)).drop
    · split at hv
      · rename_i l hl
        unfold drawOf at hl
        split at hl
        · rename_i hc
          simp only [Bool.and_eq_true] at hc
          obtain ⟨hr, sb, hv⟩ := hv
          exact HC_draw (Q := envQ K) hc.1 (vdr_sound hc.2 _ _ l env h hr hl (.inr sb) hv)
        · cases hl
      · exact hv
    · exact hv
  | seq a b iha ihb =>
    intro env h K hv
    simp only [cc, vc] at hv
    refine HC_seq ((iha env h _ hv).mono ?_)
    rintro e a' h' ⟨env', rfl, hk⟩
    cases e <;> simp only at hk <;> simp only [seqK]
    case normal => exact ihb env' h' K hk
    all_goals exact ⟨env', rfl, hk⟩
  | cond x a b iha ihb =>
    intro env h K hv
    simp only [cc, vc] at hv
    split at hv
    · rename_i t ht
      refine HC_cond (t := t) (by rw [eval_evl]; exact ht) ?_
      cases t
      · exact ihb env h K hv
      · exact iha env h K hv
    · exact hv.elim
  | block id c ih =>
    intro env h K hv
    simp only [cc, vc] at hv
    refine HC_block ((ih env h _ hv).mono ?_)
    rintro e a' h' ⟨env', rfl, hk⟩
    cases e <;> simp only at hk <;> simp only [blkK]
    case exit id' =>
      split
      · rename_i e; rw [if_pos e] at hk; exact ⟨env', rfl, hk⟩
      · rename_i e; rw [if_neg e] at hk; exact ⟨env', rfl, hk⟩
    all_goals exact ⟨env', rfl, hk⟩
  | loop c ih =>
    intro env h K hv
    simp only [cc, vc] at hv
    obtain ⟨J, n, ⟨g0, sb0, h0⟩, hr⟩ := hv
    refine HC_loop (fun n a h => ∃ env, a = ⟨env.toArray, []⟩ ∧ ∃ g, Sub g h ∧ J n env g) n ⟨env, rfl, g0, sb0, h0⟩ ?_
    rintro n a h ⟨env, rfl, g, sb, hj⟩
    refine (HC.weaken sb (ih env g _ (hr n env g hj))).mono ?_
    rintro e a' h' ⟨env', rfl, hk⟩
    cases e <;> simp only [loopC] at hk <;> simp only [seqK]
    case normal => obtain ⟨m, hm, hj⟩ := hk; exact ⟨m, hm, env', rfl, hj⟩
    all_goals exact ⟨env', rfl, hk⟩
  | exit id => intro env h K hv; exact HC_exit ⟨env, rfl, hv⟩
  | ret => intro env h K hv; exact HC_ret ⟨env, rfl, hv⟩
  | _ => intro env h K hv; exact hv

/-! ### A function -/

inductive RV where
  | tmp (t : Nat)
  | cell (a n : Nat) (agg : Bool)

def crv (P : Program) : ResultVar → Option RV
  | .tmp t => some (.tmp t)
  | .cell a t => match P.underlying t, P.info? t with
    | some d, some i => some (.cell a i.size (aggD d))
    | _, _ => none

def crvs (P : Program) : List ResultVar → Option (List RV)
  | [] => some []
  | r :: l => match crv P r, crvs P l with
    | some a, some b => some (a :: b)
    | _, _ => none

def resV (env : List Value) (h : H) : RV → Option Value
  | .tmp t => some (env.getD t undef)
  | .cell a n agg => match env.getD a undef with
    | .pointer (some ⟨b, k, none⟩) => hval h b k n agg
    | _ => none

def resL (env : List Value) (h : H) : List RV → Option (List Value)
  | [] => some []
  | r :: l => match resV env h r, resL env h l with
    | some v, some vs => some (v :: vs)
    | _, _ => none

def endV (R : Ending → H → Prop) (h : H) : Option (List Value) → Prop
  | some [v] => R (.returned v) h
  | some vs => R (.returned (.tuple vs.toArray)) h
  | none => False

def bodyC (rs : List RV) (R : Ending → H → Prop) : KK
  | .normal, env, h => endV R h (resL env h rs)
  | .ret, env, h => endV R h (resL env h rs)
  | .panic c, env, h => R (.panicked c) h
  | _, _, _ => False

theorem bodyC_normal (rs : List RV) (R : Ending → H → Prop) (env : List Value) (h : H) : bodyC rs R .normal env h = endV R h (resL env h rs) := rfl
theorem bodyC_ret (rs : List RV) (R : Ending → H → Prop) (env : List Value) (h : H) : bodyC rs R .ret env h = endV R h (resL env h rs) := rfl
theorem bodyC_panic (rs : List RV) (R : Ending → H → Prop) (c : List PanicEntry) (env : List Value) (h : H) : bodyC rs R (.panic c) env h = R (.panicked c) h := rfl
theorem endV_one (R : Ending → H → Prop) (h : H) (v : Value) : endV R h (some [v]) = R (.returned v) h := rfl
theorem endV_two (R : Ending → H → Prop) (h : H) (v u : Value) : endV R h (some [v, u]) = R (.returned (.tuple #[v, u])) h := rfl
theorem endV_three (R : Ending → H → Prop) (h : H) (v u x : Value) : endV R h (some [v, u, x]) = R (.returned (.tuple #[v, u, x])) h := rfl
theorem endV_zero (R : Ending → H → Prop) (h : H) : endV R h (some []) = R (.returned (.tuple #[])) h := rfl

structure IR where
  c : C
  rs : List RV
  n : Nat

def irOf (P : Program) (fn : Func) : Option IR :=
  match fn.body, crvs P fn.results.toList with
  | some c, some rs => some ⟨cc P c, rs, fn.ntmps⟩
  | _, _ => none

theorem evH_load {P : Program} {h : H} {a : Addr} {m : Mode} : evH P (Go.load a m) h = hcell h a := by
  simp only [Go.load, evH]
  cases hcell h a <;> rfl

theorem evH_hval {P : Program} {h : H} {t : TypeId} {d : TypeDesc} {i : TypeInfo} {b k : Nat} {v : Value} (hd : P.underlying t = some d) (hi : P.info? t = some i) (hv : hval h b k i.size (aggD d) = some v) : evH P (loadVar t ⟨b, k, none⟩) h = some v := by
  have under : evH P (underlying t) h = some d := by simp only [underlying, program, evH_bind', evH, Option.bind_some, hd]; rfl
  have info : evH P (typeInfo t) h = some i := by simp only [typeInfo, program, evH_bind', evH, Option.bind_some, hi]; rfl
  have agg : evH P (isAgg t) h = some (aggD d) := by
    simp only [isAgg, evH_bind', under, Option.bind_some]
    cases d <;> rfl
  have size : evH P (sizeOf t) h = some i.size := by simp only [sizeOf, evH_bind', info, Option.bind_some]; rfl
  have cells : ∀ (n j : Nat) (acc : Array Value) (l : List Value), l.length = n → (∀ q, q < n → hcel h b (k + j + q) = l[q]?) → evH P (loadCellsFrom ⟨b, k, none⟩ j n acc) h = some (acc ++ l.toArray) := by
    intro n
    induction n with
    | zero => intro j acc l hl _; have : l = [] := List.eq_nil_of_length_eq_zero hl; subst this; show some acc = _; simp only [Array.append_empty]
    | succ n ih =>
      intro j acc l hl hc
      cases l with
      | nil => cases hl
      | cons v l =>
        have h0 := hc 0 (by omega)
        simp only [Nat.add_zero, List.getElem?_cons_zero] at h0
        have hl1 : evH P (Go.load ((⟨b, k, none⟩ : Addr).add j)) h = some v := by
          rw [evH_load, add_none, hcel_hcell, h0]
        simp only [loadCellsFrom, evH_bind', hl1, Option.bind_some]
        rw [ih (j + 1) (acc.push v) l (by simpa using hl) (fun q hq => by have := hc (q + 1) (by omega); simpa [Nat.add_assoc, Nat.add_comm 1 q] using this)]
        congr 1
        simp
  unfold loadVar
  simp only [evH_bind', agg, Option.bind_some]
  unfold hval at hv
  cases ha : aggD d
  · rw [ha] at hv
    simp only [Bool.false_eq_true, if_false] at hv ⊢
    rw [evH_load, hcel_hcell, hv]
  · rw [ha] at hv
    simp only [if_true] at hv ⊢
    cases hr : hread h b k i.size with
    | none => rw [hr] at hv; cases hv
    | some l =>
      rw [hr] at hv
      cases hv
      obtain ⟨hl, hc⟩ := hread_get hr
      have := cells i.size 0 #[] l hl (fun j hj => by simpa using hc j hj)
      simp only [evH_bind', size, Option.bind_some, loadCells, this, evH_pure]
      simp

theorem results_sound {P : Program} {fn : Func} {rs : List RV} {env : List Value} {h : H} {R : Ending → H → Prop} (hc : crvs P fn.results.toList = some rs) (he : endV R h (resL env h rs)) : ∃ v, evH P (results fn env.toArray) h = some v ∧ R (.returned v) h := by
  have key : ∀ (f : ResultVar → Sem Value) (hf1 : ∀ t, f (.tmp t) = pure (env.toArray.getD t undef)) (hf2 : ∀ a t, f (.cell a t) = do loadVar t (← asAddr (env.toArray.getD a undef))) (l : List ResultVar) (rs : List RV) (vs : List Value),
      crvs P l = some rs → resL env h rs = some vs → evH P (l.mapM f) h = some vs := by
    intro f hf1 hf2 l
    induction l with
    | nil => intro rs vs hc hr; cases hc; cases hr; rfl
    | cons r l ih =>
      intro rs vs hc hr
      simp only [crvs] at hc
      split at hc
      · rename_i a b ha hb
        cases hc
        simp only [resL] at hr
        split at hr
        · rename_i v vs' hv hvs
          cases hr
          have ih' := ih b vs' hb hvs
          simp only [List.mapM_cons, evH_bind']
          rw [ih']
          cases r with
          | tmp t =>
            cases ha
            simp only [resV, Option.some.injEq] at hv
            subst hv
            simp [hf1, evH_pure]
          | cell a0 t =>
            simp only [crv] at ha
            split at ha
            · rename_i d i hd hi
              cases ha
              simp only [resV] at hv
              split at hv
              · rename_i b k hx
                have hx' : env.toArray.getD a0 undef = .pointer (some ⟨b, k, none⟩) := by simpa using hx
                simp only [hf2, hx', asAddr, evH_bind', evH_pure, Option.bind_some, evH_hval hd hi hv]
              · cases hv
            · cases ha
        · cases hr
      · cases hc
  cases hr : resL env h rs with
  | none => rw [hr] at he; exact he.elim
  | some vs =>
    rw [hr] at he
    unfold results
    rw [Array.mapM_eq_mapM_toList, map_eq_pure_bind]
    simp only [evH_bind']
    rw [key _ (fun _ => rfl) (fun _ _ => rfl) _ _ _ hc hr]
    simp only [Option.bind_some, evH_pure, Option.some.injEq, exists_eq_left']
    match vs, he with
    | [], he => exact he
    | [v], he => exact he
    | v :: u :: l, he => exact he

theorem HCalls_ir {P : Program} {f : FuncId} {fn : Func} {ir : IR} {args : List Value} {h : H} {R : Ending → H → Prop} (hf : P.funcs[f]? = some fn) (hi : irOf P fn = some ir)
    (k : vc P ir.c (args ++ List.replicate (ir.n - args.length) undef) h (bodyC ir.rs (dP R))) : HCalls P f args.toArray h R := by
  apply HCalls.drop
  unfold irOf at hi
  split at hi
  · rename_i c rs hb hr
    cases hi
    refine HCalls_of_body hf hb ?_
    have := vc_sound c _ h _ k
    rw [show args.toArray ++ Array.replicate (fn.ntmps - args.toArray.size) undef = (args ++ List.replicate (fn.ntmps - args.length) undef).toArray from by apply Array.ext'; simp]
    refine this.mono ?_
    rintro e a h' ⟨env', rfl, hk⟩
    cases e <;> simp only [bodyC] at hk <;> simp only [bodyK]
    case normal => exact ⟨trivial, results_sound hr hk⟩
    case ret => exact ⟨trivial, results_sound hr hk⟩
    case panic c => exact ⟨trivial, hk⟩
    all_goals exact hk.elim
  · cases hi
end Go.Tk
