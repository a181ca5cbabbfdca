/- Operations and code over a part of the memory. -/
import Derived.Test.YtllhdnfcneejaaaA1
import Derived.Tactics
set_option linter.unusedVariables false
set_option linter.unusedSimpArgs false
namespace Go.Tk
open Go

/-- A call, whatever lies beside the part. -/
def HCalls (P : Program) (f : FuncId) (args : Array Value) (h : H) (R : Ending → H → Prop) : Prop :=
  ∀ w, Sat h w → Calls P f args w (fun e w' => ∃ h', R e h' ∧ Pst h w h' w')

theorem HCalls.mono {P : Program} {f : FuncId} {args : Array Value} {h : H} {R R' : Ending → H → Prop} (c : HCalls P f args h R) (hr : ∀ e h', R e h' → R' e h') : HCalls P f args h R' :=
  fun w s => (c w s).mono fun e w' ⟨h', r, p⟩ => ⟨h', hr _ _ r, p⟩

theorem HCalls.weaken {P : Program} {f : FuncId} {args : Array Value} {g h : H} {R : Ending → H → Prop} (sb : Sub g h) (c : HCalls P f args g R) : HCalls P f args h R :=
  fun w s => (c w (s.sub sb)).mono fun e w' ⟨h', r, p⟩ => ⟨h', r, p.more sb⟩
theorem HCalls.drop {P : Program} {f : FuncId} {args : Array Value} {h : H} {R : Ending → H → Prop} (c : HCalls P f args h (dP R)) : HCalls P f args h R :=
  fun w s => (c w s).mono fun e w' ⟨h', ⟨g, sb, r⟩, p⟩ => ⟨g, r, p.sub sb⟩

def HRows (P : Program) (row : String) (args : Array Value) (h : H) (R : Value → H → Prop) : Prop :=
  ∀ w, Sat h w → Rows P row args w (fun v w' => ∃ h', R v h' ∧ Pst h w h' w')

/-- What a post on the part says of the world. -/
def lift (h0 : H) (w0 : World) (Q : Exit → Act → H → Prop) : Exit → Act → World → Prop := fun e a w => ∃ h', Q e a h' ∧ Pst h0 w0 h' w

def callK (K : Act → H → Prop) (Q : Exit → Act → H → Prop) (o : Oper) (a : Act) : Ending → H → Prop
  | .returned v, h => K (a.put o.dst v) h
  | .panicked c, h => Q (.panic c) a h
  | .outgrown, _ => False

def nextH (P : Program) (o : Oper) (a : Act) (K : Act → H → Prop) (Q : Exit → Act → H → Prop) : Next → H → Prop
  | .value v, h => K (a.put o.dst v) h
  | .skip, h => K (a.put o.dst undef) h
  | .defer d, h => K ({ a with defers := d :: a.defers }.put o.dst undef) h
  | .enter f args, h => HCalls P f args h (callK K Q o a)
  | .row row args, h => HRows P row args h fun v h' => K (a.put o.dst v) h'
  | _, _ => False

def opH (P : Program) (o : Oper) (a : Act) (h : H) (K : Act → H → Prop) (Q : Exit → Act → H → Prop) : Prop :=
  SH P (execOp a.eval o) (nextH P o a K Q) (fun v h' => Q (.panic [{ v, recovered := false }]) a h') h

theorem opH_sound {P : Program} {o : Oper} {a : Act} {h h0 : H} {w w0 : World} {K : Act → H → Prop} {Q : Exit → Act → H → Prop} (ho : opH P o a h K Q) (p : Pst h0 w0 h w) :
    o.wp P a w (fun a' w' => ∃ h', K a' h' ∧ Pst h0 w0 h' w') (lift h0 w0 Q) := by
  unfold opH at ho
  unfold Oper.wp
  rcases SH_sound _ ho p.sat with ⟨n, w', h', hr, hq, hp⟩ | ⟨v, w', h', hr, hq, hp⟩
  · rw [hr]
    have hp' := p.trans hp
    cases n <;> simp only [nextH] at hq <;> simp only [Oper.upon]
    case value v => exact ⟨h', hq, hp'⟩
    case skip => exact ⟨h', hq, hp'⟩
    case defer d => exact ⟨h', hq, hp'⟩
    case enter f args =>
      refine Calls.mono (hq w' hp.sat) fun e w'' ⟨h'', r, p2⟩ => ?_
      cases e with
      | returned v => exact ⟨h'', r, hp'.trans p2⟩
      | panicked c => exact ⟨h'', r, hp'.trans p2⟩
      | outgrown => exact r.elim
    case row row args => exact Rows.mono (hq w' hp.sat) fun v w'' ⟨h'', r, p2⟩ => ⟨h'', r, hp'.trans p2⟩
  · rw [hr]
    exact ⟨h', hq, p.trans hp⟩

/-- Operations in their order. -/
def listH (P : Program) (ops : Array Oper) (Q : Exit → Act → H → Prop) : List Oper → Act → H → Prop
  | [], a, h => Q .normal a h
  | o :: rest, a, h => if Region.wanted o (yielded ops a.tmps) = true then opH P o a h (listH P ops Q rest) Q else listH P ops Q rest (a.put o.dst undef) h

theorem listH_sound {P : Program} {ops : Array Oper} {h0 : H} {w0 : World} {Q : Exit → Act → H → Prop} : ∀ (l : List Oper) (a : Act) (h : H) (w : World), listH P ops Q l a h → Pst h0 w0 h w → wpList P ops (lift h0 w0 Q) l a w := by
  intro l
  induction l with
  | nil => intro a h w hl p; exact ⟨h, hl, p⟩
  | cons o rest ih =>
    intro a h w hl p
    simp only [listH] at hl
    simp only [wpList]
    split at hl
    · rename_i hw
      rw [if_pos hw]
      exact .inl (Oper.wp_mono (fun a' w' ⟨h', k, p'⟩ => ih a' h' w' k p') (opH_sound hl p))
    · rename_i hw
      rw [if_neg hw]
      exact ih _ _ _ hl p

theorem HRows.weaken {P : Program} {r : String} {args : Array Value} {g h : H} {R : Value → H → Prop} (sb : Sub g h) (c : HRows P r args g R) : HRows P r args h R :=
  fun w s => Rows.mono (c w (s.sub sb)) fun e w' ⟨h', r, p⟩ => ⟨h', r, p.more sb⟩

theorem listH_weaken {P : Program} {ops : Array Oper} {Q : Exit → Act → H → Prop} : ∀ (l : List Oper) (a : Act) (g h : H), Sub g h → listH P ops (fun e => dP (Q e)) l a g → listH P ops (fun e => dP (Q e)) l a h := by
  have tr : ∀ {e : Exit} {a : Act} {g h : H}, Sub g h → dP (Q e) a g → dP (Q e) a h := fun sb ⟨g', s', q⟩ => ⟨g', s'.trans sb, q⟩
  intro l
  induction l with
  | nil => intro a g h sb x; exact tr sb x
  | cons o l ih =>
    intro a g h sb x
    simp only [listH] at x ⊢
    split at x
    · rename_i hw
      rw [if_pos hw]
      refine SH_weaken _ sb ?_ (fun v g h sb => tr sb) x
      intro n g h sb hn
      cases n <;> simp only [nextH] at hn ⊢
      case value v => exact ih _ _ _ sb hn
      case skip => exact ih _ _ _ sb hn
      case defer d => exact ih _ _ _ sb hn
      case enter f args => exact hn.weaken sb
      case row row args => exact hn.weaken sb
    · rename_i hw
      rw [if_neg hw]
      exact ih _ _ _ sb x

/-- Code over a part of the memory. -/
def HC (P : Program) (c : Code) (Q : Exit → Act → H → Prop) (a : Act) (h : H) : Prop :=
  ∀ h0 w0 w, Pst h0 w0 h w → c.wp P (lift h0 w0 Q) a w

theorem HC.mono {P : Program} {c : Code} {Q Q' : Exit → Act → H → Prop} {a : Act} {h : H} (k : HC P c Q a h) (hq : ∀ e a h, Q e a h → Q' e a h) : HC P c Q' a h :=
  fun h0 w0 w p => wp_mono (k h0 w0 w p) fun e a' w' ⟨h', q, p'⟩ => ⟨h', hq _ _ _ q, p'⟩

theorem HC.weaken {P : Program} {c : Code} {Q : Exit → Act → H → Prop} {a : Act} {g h : H} (sb : Sub g h) (k : HC P c Q a g) : HC P c Q a h :=
  fun h0 w0 w p => k h0 w0 w (p.sub sb)
theorem HC.drop {P : Program} {c : Code} {Q : Exit → Act → H → Prop} {a : Act} {h : H} (k : HC P c (fun e => dP (Q e)) a h) : HC P c Q a h :=
  fun h0 w0 w p => wp_mono (k h0 w0 w p) fun e a' w' ⟨h', ⟨g, sb, q⟩, p'⟩ => ⟨g, q, p'.sub sb⟩

def seqK (N : Act → H → Prop) (Q : Exit → Act → H → Prop) : Exit → Act → H → Prop
  | .normal, a, h => N a h
  | e, a, h => Q e a h

def blkK (id : Nat) (Q : Exit → Act → H → Prop) : Exit → Act → H → Prop
  | .exit id', a, h => if id' = id then Q .normal a h else Q (.exit id') a h
  | e, a, h => Q e a h

theorem HC_skip {P : Program} {Q : Exit → Act → H → Prop} {a : Act} {h : H} (q : Q .normal a h) : HC P .skip Q a h := fun _ _ _ p => wp_skip ⟨h, q, p⟩
theorem HC_ret {P : Program} {Q : Exit → Act → H → Prop} {a : Act} {h : H} (q : Q .ret a h) : HC P .ret Q a h := fun _ _ _ p => wp_ret ⟨h, q, p⟩
theorem HC_exit {P : Program} {id : Nat} {Q : Exit → Act → H → Prop} {a : Act} {h : H} (q : Q (.exit id) a h) : HC P (.exit id) Q a h := fun _ _ _ p => wp_exit ⟨h, q, p⟩
theorem HC_label {P : Program} {l : Nat} {Q : Exit → Act → H → Prop} {a : Act} {h : H} (q : Q .normal a h) : HC P (.label l) Q a h := fun _ _ _ p => wp_label ⟨h, q, p⟩

theorem HC_seq {P : Program} {x y : Code} {Q : Exit → Act → H → Prop} {a : Act} {h : H} (k : HC P x (seqK (HC P y Q) Q) a h) : HC P (.seq x y) Q a h := by
  intro h0 w0 w p
  refine wp_seq (wp_mono (k h0 w0 w p) ?_)
  rintro e a' w' ⟨h', q, p'⟩
  cases e <;> simp only [seqK] at q <;> simp only [Exit.then]
  case normal => exact q h0 w0 w' p'
  all_goals exact ⟨h', q, p'⟩

theorem HC_cond {P : Program} {c : Operand} {x y : Code} {Q : Exit → Act → H → Prop} {a : Act} {h : H} {t : Bool} (hc : a.eval c = .bool t) (k : HC P (if t then x else y) Q a h) : HC P (.cond c x y) Q a h :=
  fun h0 w0 w p => wp_cond hc (k h0 w0 w p)

theorem HC_block {P : Program} {id : Nat} {c : Code} {Q : Exit → Act → H → Prop} {a : Act} {h : H} (k : HC P c (blkK id Q) a h) : HC P (.block id c) Q a h := by
  intro h0 w0 w p
  refine wp_block (wp_mono (k h0 w0 w p) ?_)
  rintro e a' w' ⟨h', q, p'⟩
  cases e <;> simp only [blkK] at q <;> simp only [Exit.inBlock]
  case exit id' =>
    split
    · rename_i e; rw [if_pos e] at q; exact ⟨h', q, p'⟩
    · rename_i e; rw [if_neg e] at q; exact ⟨h', q, p'⟩
  all_goals exact ⟨h', q, p'⟩

/-- A loop: what holds at the head of each round, and a number that falls. -/
theorem HC_loop {P : Program} {c : Code} {Q : Exit → Act → H → Prop} {a : Act} {h : H} (J : Nat → Act → H → Prop) (n : Nat) (h0 : J n a h)
    (round : ∀ n a h, J n a h → HC P c (seqK (fun a' h' => ∃ m, m < n ∧ J m a' h') Q) a h) : HC P (.loop c) Q a h := by
  intro hh w0 w p b k cs
  have key : ∀ n a h w, J n a h → Pst hh w0 h w →
      ∃ e a' w', lift hh w0 Q e a' w' ∧ Arrives P (lone (b.at a (.code c :: .inLoop c :: k)) cs w) b k cs e a' w' := by
    intro n
    induction n using Nat.strongRecOn with
    | _ n ih =>
      intro a h w hI hp
      obtain ⟨e, a₁, w₁, ⟨h1, hq, hp1⟩, harr⟩ := round n a h hI hh w0 w hp b (.inLoop c :: k) cs
      cases e with
      | normal =>
        obtain ⟨m, hlt, hI₁⟩ := hq
        obtain ⟨e₂, a₂, w₂, hq₂, harr₂⟩ := ih m hlt a₁ h1 w₁ hI₁ hp1
        exact ⟨e₂, a₂, w₂, hq₂, .of_steps (Steps.trans harr (.one step_inLoop)) harr₂⟩
      | exit id => exact ⟨_, a₁, w₁, ⟨h1, hq, hp1⟩, .pass (x := .inLoop c) rfl (fun _ _ => .inl (by simp)) harr⟩
      | goto l => exact ⟨_, a₁, w₁, ⟨h1, hq, hp1⟩, .pass (x := .inLoop c) rfl (fun _ _ => .inl (by simp)) harr⟩
      | ret => exact ⟨_, a₁, w₁, ⟨h1, hq, hp1⟩, .pass (x := .inLoop c) rfl (fun _ _ => .inl (by simp)) harr⟩
      | panic ch => exact ⟨_, a₁, w₁, ⟨h1, hq, hp1⟩, .pass (x := .inLoop c) rfl (fun _ _ => .inl (by simp)) harr⟩
      | outgrown => exact ⟨_, a₁, w₁, ⟨h1, hq, hp1⟩, .pass (x := .inLoop c) rfl (fun _ _ => .inl (by simp)) harr⟩
  obtain ⟨e, a', w', hq, harr⟩ := key n a h w h0 p
  exact ⟨e, a', w', hq, .of_steps (.one step_loop) harr⟩

theorem HC_region {P : Program} {id : Nat} {ops : Array Oper} {Q : Exit → Act → H → Prop} {a : Act} {h : H} (k : listH P ops Q ops.toList a h) : HC P (.region id ops false) Q a h :=
  fun h0 w0 w p => wp_region_list (listH_sound _ _ _ _ k p)

/-- How a function's body ends. -/
def bodyK (P : Program) (fn : Func) (R : Ending → H → Prop) : Exit → Act → H → Prop
  | .normal, a, h | .ret, a, h => a.defers = [] ∧ ∃ v, evH P (results fn a.tmps) h = some v ∧ R (.returned v) h
  | .panic chain, a, h => a.defers = [] ∧ R (.panicked chain) h
  | _, _, _ => False

theorem HCalls_of_body {P : Program} {f : FuncId} {fn : Func} {c : Code} {args : Array Value} {h : H} {R : Ending → H → Prop} (hf : P.funcs[f]? = some fn) (hb : fn.body = some c)
    (k : HC P c (bodyK P fn R) { tmps := args ++ Array.replicate (fn.ntmps - args.size) undef, defers := [] } h) : HCalls P f args h R := by
  intro w s
  refine calls_of_wp hf hb (wp_mono (k h w w (.refl s)) ?_)
  rintro e a w' ⟨h', q, p⟩
  cases e <;> simp only [bodyK] at q <;> simp only [bodyPost]
  case normal => obtain ⟨hd, v, hr, r⟩ := q; exact ⟨hd, v, evH_run _ p.sat hr, h', r, p⟩
  case ret => obtain ⟨hd, v, hr, r⟩ := q; exact ⟨hd, v, evH_run _ p.sat hr, h', r, p⟩
  case panic ch => exact ⟨q.1, h', q.2, p⟩
  all_goals exact q.elim
end Go.Tk
