/- Statements whose order is left open: one order stands for all, where what may float only reads what stays. -/
import Derived.Test.YtllhdnfcneejaaaA8
set_option linter.unusedVariables false
set_option linter.unusedSimpArgs false
namespace Go.Tk
open Go

/-- An operation on a part of the memory, whatever lies beside it. -/
def OpW (P : Program) (o : Oper) (a : Act) (h : H) (K : Act → H → Prop) : Prop :=
  ∀ w, Sat h w → o.wp P a w (fun a' w' => ∃ h', K a' h' ∧ Pst h w h' w') (fun _ _ _ => False)

theorem Oper.wp_mono2 {P : Program} {o : Oper} {a : Act} {w : World} {K K' : Act → World → Prop} {Q Q' : Exit → Act → World → Prop} (h : ∀ a w, K a w → K' a w) (hq : ∀ e a w, Q e a w → Q' e a w)
    (hh : o.wp P a w K Q) : o.wp P a w K' Q' := by
  unfold Oper.wp at *
  generalize (execOp a.eval o).run P w = r at *
  cases r with
  | ok n w' =>
    cases n <;> simp only [Oper.upon] at hh ⊢
    case value v => exact h _ _ hh
    case skip => exact h _ _ hh
    case defer d => exact h _ _ hh
    case enter f args =>
      refine Calls.mono hh (fun e w'' he => ?_)
      cases e with
      | returned v => exact h _ _ he
      | panicked c => exact hq _ _ _ he
      | outgrown => obtain ⟨a', w', q⟩ := he; exact ⟨a', w', hq _ _ _ q⟩
    case row row args => exact Rows.mono hh (fun _ _ he => h _ _ he)
  | halt x w' => cases x <;> simp only [Oper.upon] at hh ⊢ <;> exact hq _ _ _ hh

theorem OpW.mono {P : Program} {o : Oper} {a : Act} {h : H} {K K' : Act → H → Prop} (x : OpW P o a h K) (hk : ∀ a h, K a h → K' a h) : OpW P o a h K' :=
  fun w s => Oper.wp_mono2 (fun a' w' ⟨h', k, p⟩ => ⟨h', hk _ _ k, p⟩) (fun _ _ _ q => q) (x w s)

theorem OpW.drop {P : Program} {o : Oper} {a : Act} {h : H} {K : Act → H → Prop} (x : OpW P o a h (dP K)) : OpW P o a h K :=
  fun w s => Oper.wp_mono2 (fun a' w' ⟨h', ⟨g, sb, k⟩, p⟩ => ⟨g, k, p.sub sb⟩) (fun _ _ _ q => q) (x w s)

/-- An operation that leaves the part as it is gives the same where the part is greater. -/
theorem OpW.wide {P : Program} {o : Oper} {a : Act} {g h : H} {K : Act → Prop} (sb : Sub g h) (x : OpW P o a g (fun a' h' => K a' ∧ h' = g)) : OpW P o a h (fun a' h' => K a' ∧ h' = h) := by
  intro w s
  refine Oper.wp_mono2 ?_ (fun _ _ _ q => q) (x w (s.sub sb))
  rintro a' w' ⟨h', ⟨k, rfl⟩, p⟩
  refine ⟨h, ⟨k, rfl⟩, ⟨fun i o hi => ?_, p.os, p.tape, p.output, p.size, fun i hi hn => ?_, fun i hi => .inl hi⟩⟩
  · cases e : hget h' i with
    | some o' =>
      have h1 := sb i o' e
      rw [hi] at h1
      cases h1
      exact p.sat i o e
    | none =>
      rw [p.keep i (s.lt (by rw [hi]; simp)) e]
      exact s i o hi
  · refine p.keep i hi ?_
    cases e : hget h' i with
    | none => rfl
    | some o' => rw [sb i o' e] at hn; cases hn

theorem OpW_of {P : Program} {o : Oper} {a : Act} {h : H} {K : Act → H → Prop} (x : opH P o a h K (fun _ _ _ => False)) : OpW P o a h K := fun w s =>
  Oper.wp_mono2 (fun _ _ q => q) (fun _ _ _ ⟨_, q, _⟩ => q) (opH_sound x (Pst.refl s))

/-- What only looks: its answer. -/
def vfl (ρ : Operand → Value) (h : H) (K : Value → Prop) : I → Prop
  | .mov x => K (ρ x)
  | .pick c a b => match ρ c with
    | .bool t => K (if t then ρ a else ρ b)
    | _ => False
  | .load x n agg => match ρ x with
    | .pointer (some ⟨b, k, none⟩) => (match hval h b k n agg with | some v => K v | none => False)
    | _ => False
  | .fld x off => match ρ x with
    | .pointer (some ⟨b, k, none⟩) => K (.pointer (some ⟨b, k + off, none⟩))
    | _ => False
  | .get x off n agg => match ρ x with
    | .agg cs => if agg then K (.agg ((cs.toList.drop off).take n).toArray) else (match cs.toList[off]? with | some v => K v | none => False)
    | _ => False
  | .idxS x i n => match ρ x, ρ i with
    | .slice (some ⟨b, k, none⟩) len _, .int _ j => (0 ≤ j ∧ j < (len : Int)) ∧ K (.pointer (some ⟨b, k + j.toNat * n, none⟩))
    | _, _ => False
  | .idxA x i len n => match ρ x, ρ i with
    | .pointer (some ⟨b, k, none⟩), .int _ j => (0 ≤ j ∧ j < (len : Int)) ∧ K (.pointer (some ⟨b, k + j.toNat * n, none⟩))
    | _, _ => False
  | .idxT x i => match ρ x, ρ i with
    | .string s, .int _ j => 0 ≤ j ∧ (match s.data.toList[j.toNat]? with | some u => K (.int .u8 u.toNat) | none => False)
    | _, _ => False
  | .nilc x => match ρ x with
    | .pointer (some a) => K (.pointer (some a))
    | .func (.func f) fi ca => K (.func (.func f) fi ca)
    | _ => False
  | .bin op t x y => match ρ x, ρ y with
    | .int k a, .int k' b => (k = k' ∨ shiftOp op = true) ∧ (match intBin op k a b with | some v => K v | none => False)
    | .string a, .string b => (match strBin op a b with | some v => K v | none => False)
    | _, _ => False
  | .beq neg x y => match ρ x, ρ y with
    | .bool a, .bool b => K (.bool (if neg then !(a == b) else a == b))
    | _, _ => False
  | .ieq neg x y => match ρ x, ρ y with
    | .nilIface, .nilIface => ((x matches .const _) || (y matches .const _)) = true ∧ K (.bool !neg)
    | .nilIface, .iface _ _ => K (.bool neg)
    | .iface _ _, .nilIface => K (.bool neg)
    | _, _ => False
  | .leq neg x y => match ρ x, ρ y with
    | .slice none _ _, .slice b _ _ => K (.bool (if neg then !b.isNone else b.isNone))
    | .slice (some _) _ _, .slice none _ _ => K (.bool neg)
    | _, _ => False
  | .not x => match ρ x with
    | .bool b => K (.bool !b)
    | _ => False
  | .conv k x => match ρ x with
    | .int _ n => K (.int k (k.wrap n))
    | _ => False
  | .iface t x => K (.iface t (ρ x))
  | .fn f fi ca => K (.func f (fi.map ρ).toArray (ca.map ρ).toArray)
  | .build z ps => match fillL z (ps.map fun p => (p.1, p.2.1, vcells (ρ p.2.2))) with
    | some l => K (.agg l.toArray)
    | none => False
  | .slc x n lo hi => match ρ x with
    | .slice a len cap => (match lowB ρ lo, highB ρ len hi with
      | some l, some u => (0 ≤ l ∧ l ≤ u ∧ u ≤ (cap : Int)) ∧ K (.slice (if cap = l.toNat then a else a.map (·.add (l.toNat * n))) (u.toNat - l.toNat) (cap - l.toNat))
      | _, _ => False)
    | _ => False
  | .slT x lo hi => match ρ x with
    | .string s => (match lowB ρ lo, highB ρ s.size hi with
      | some l, some u => (0 ≤ l ∧ l ≤ u ∧ u ≤ (s.size : Int)) ∧ K (.string ⟨((s.data.toList.drop l.toNat).take (u.toNat - l.toNat)).toArray⟩)
      | _, _ => False)
    | _ => False
  | .lenT x => match ρ x with
    | .string s => K (.int .i64 s.size)
    | _ => False
  | .lenS x => match ρ x with
    | .slice _ n _ => K (.int .i64 n)
    | _ => False
  | .btos x => match ρ x with
    | .slice none _ _ => K (.string .empty)
    | .slice (some ⟨b, k, none⟩) len _ => (match (hread h b k len).bind toBytes with
      | some l => K (.string ⟨l.toArray⟩)
      | none => False)
    | _ => False
  | .ext x i => match ρ x with
    | .tuple vs => (match vs.toList[i]? with | some v => K v | none => False)
    | _ => False
  | .asrt x t z ok => match ρ x with
    | .iface t' v => if t' = t then K (if ok then .tuple #[v, .bool true] else v) else ok = true ∧ K (.tuple #[z, .bool false])
    | .nilIface => ok = true ∧ K (.tuple #[z, .bool false])
    | _ => False
  | _ => False

theorem vfl_vop {P : Program} {ρ : Operand → Value} {h : H} {K : Value → Prop} {i : I} (x : vfl ρ h K i) : ∃ v, K v ∧ ∀ (K' : Value → H → Prop) (X' : List PanicEntry → H → Prop), K' v h → vop P ρ h K' X' i := by
  cases i <;> simp only [vfl] at x <;> simp only [vop]
  all_goals first
    | exact x.elim
    | exact ⟨_, x, fun K' X' k => k⟩
    | ((repeat' split at x) <;> first
        | exact x.elim
        | exact ⟨_, x, fun K' X' k => by first | exact k | simp_all⟩
        | (obtain ⟨x1, x2⟩ := x; first | exact x2.elim | (refine ⟨_, x2, fun K' X' k => ?_⟩; simp_all)))

section
variable {P : Program} {ops : Array Oper} {md : Region.Mode} {N : Act → H → Prop}

def opI (P : Program) (ops : Array Oper) (tl : Nat → Bool) (hr : H) (i : Nat) (K : Act → H → Prop) (a : Act) (h : H) : Prop :=
  match ops[i]? with
  | none => K a h
  | some o => if Region.wanted o (yielded ops a.tmps) = true then OpW P o a h (fun a' h' => (tl i = false → Sub hr h') ∧ K a' h') else K (a.put o.dst undef) h

def anyI (P : Program) (md : Region.Mode) (ops : Array Oper) (tl : Nat → Bool) (hr : H) (N : Act → H → Prop) : Nat → Array Bool → Act → H → Prop
  | 0, listed, a, h => Region.ready md ops listed = [] ∧ N a h
  | fuel + 1, listed, a, h => (Region.ready md ops listed = [] → N a h) ∧ ∀ i ∈ Region.ready md ops listed, opI P ops tl hr i (anyI P md ops tl hr N fuel (listed.setIfInBounds i true)) a h

theorem opI_mono {tl : Nat → Bool} {hr : H} {i : Nat} {a : Act} {h : H} {K K' : Act → H → Prop} (hk : ∀ a h, (tl i = false → Sub hr h) → K a h → K' a h) (sb : Sub hr h) (x : opI P ops tl hr i K a h) : opI P ops tl hr i K' a h := by
  unfold opI at *
  split
  · exact hk _ _ (fun _ => sb) (by simpa [*] using x)
  · rename_i o ho
    simp only [ho] at x
    split
    · rename_i hw; rw [if_pos hw] at x; exact x.mono fun a h ⟨s, k⟩ => ⟨s, hk _ _ s k⟩
    · rename_i hw; rw [if_neg hw] at x; exact hk _ _ (fun _ => sb) x

theorem anyI_more {tl : Nat → Bool} {hr hr' : H} (sb : Sub hr hr') : ∀ (fuel : Nat) (listed : Array Bool) (a : Act) (h : H), anyI P md ops tl hr' N fuel listed a h → anyI P md ops tl hr N fuel listed a h := by
  intro fuel
  induction fuel with
  | zero => intro listed a h x; exact x
  | succ fuel ih =>
    intro listed a h x
    refine ⟨x.1, fun i hi => ?_⟩
    have x1 := x.2 i hi
    unfold opI at x1 ⊢
    cases ho : ops[i]? with
    | none => simp only [ho] at x1 ⊢; exact ih _ _ _ x1
    | some o =>
      simp only [ho] at x1 ⊢
      split at x1
      · rename_i hw
        rw [if_pos hw]
        exact x1.mono fun a h ⟨s, k⟩ => ⟨fun e => sb.trans (s e), ih _ _ _ k⟩
      · rename_i hw
        rw [if_neg hw]
        exact ih _ _ _ x1

theorem anyI_sound {tl : Nat → Bool} {hr : H} {Q : Exit → Act → H → Prop} {h0 : H} {w0 : World} : ∀ (fuel : Nat) (listed : Array Bool) (a : Act) (h : H) (w : World), anyI P md ops tl hr (Q .normal) fuel listed a h → Pst h0 w0 h w → wpAny P md ops (lift h0 w0 Q) fuel listed a w := by
  intro fuel
  induction fuel with
  | zero => intro listed a h w x p; exact ⟨x.1, h, x.2, p⟩
  | succ fuel ih =>
    intro listed a h w x p
    refine ⟨fun e => ⟨h, x.1 e, p⟩, fun i hi => ?_⟩
    have x1 := x.2 i hi
    unfold opI at x1
    unfold Go.wpOp
    split at x1
    · rename_i ho; simp only [ho]; exact ih _ _ _ _ x1 p
    · rename_i o ho
      simp only [ho]
      split at x1
      · rename_i hw
        rw [if_pos hw]
        exact .inl (Oper.wp_mono2 (fun a' w' ⟨h', ⟨_, k⟩, p'⟩ => ih _ _ _ _ k (p.trans p')) (fun _ _ _ q => q.elim) (x1 w p.sat))
      · rename_i hw
        rw [if_neg hw]
        exact ih _ _ _ _ x1 p

/-- An operation whose answer is known, and that leaves what may not change. -/
def Yd (P : Program) (ops : Array Oper) (hr : H) (o : Oper) (v : Value) (a : Act) : Prop :=
  (Region.wanted o (yielded ops a.tmps) = true ∧ OpW P o a hr (fun a' h' => a' = a.put o.dst v ∧ h' = hr)) ∨
  (Region.wanted o (yielded ops a.tmps) = false ∧ v = undef)

theorem Yd.opI {tl : Nat → Bool} {hr : H} {i : Nat} {o : Oper} {v : Value} {a : Act} {h : H} (hi : ops[i]? = some o) (hy : Yd P ops hr o v a) (sb : Sub hr h) {K : Act → H → Prop} (k : K (a.put o.dst v) h) : opI P ops tl hr i K a h := by
  unfold Tk.opI
  simp only [hi]
  rcases hy with ⟨hw, hv⟩ | ⟨hw, rfl⟩
  · rw [if_pos hw]
    exact (OpW.wide (K := fun a' => a' = a.put o.dst v) sb hv).mono fun a' h' ⟨e1, e2⟩ => by subst e1; subst e2; exact ⟨fun _ => sb, k⟩
  · rw [if_neg (by rw [hw]; simp)]
    exact k

theorem OpW.of_same {o : Oper} {a a' : Act} {h : H} {K K' : Act → H → Prop} (he : execOp a'.eval o = execOp a.eval o) (hk : ∀ v h', K (a.put o.dst v) h' → K' (a'.put o.dst v) h')
    (hd : ∀ d h', K ({ a with defers := d :: a.defers }.put o.dst undef) h' → K' ({ a' with defers := d :: a'.defers }.put o.dst undef) h') (x : OpW P o a h K) : OpW P o a' h K' := by
  intro w s
  have y := x w s
  unfold Oper.wp at *
  rw [he]
  generalize (execOp a.eval o).run P w = r at *
  cases r with
  | ok n w' =>
    cases n <;> simp only [Oper.upon] at y ⊢
    case value v => obtain ⟨h', k, p⟩ := y; exact ⟨h', hk _ _ k, p⟩
    case skip => obtain ⟨h', k, p⟩ := y; exact ⟨h', hk _ _ k, p⟩
    case defer d => obtain ⟨h', k, p⟩ := y; exact ⟨h', hd _ _ k, p⟩
    case enter f args =>
      refine Calls.mono y (fun e w'' he => ?_)
      cases e with
      | returned v => obtain ⟨h', k, p⟩ := he; exact ⟨h', hk _ _ k, p⟩
      | panicked c => exact he
      | outgrown => exact he
    case row row args => exact Rows.mono y (fun _ _ ⟨h', k, p⟩ => ⟨h', hk _ _ k, p⟩)
  | halt x w' => cases x <;> simp only [Oper.upon] at y ⊢ <;> exact y

theorem put_defers_ne (a : Act) (dst : Option Tmp) (v : Value) (d : Deferred) : ({ a with defers := d :: a.defers } : Act).put dst undef ≠ a.put dst v := by
  intro e
  have : (({ a with defers := d :: a.defers } : Act).put dst undef).defers = (a.put dst v).defers := by rw [e]
  cases dst <;> simp [Act.put] at this

theorem Yd.of_same {hr : H} {o : Oper} {v : Value} {a a' : Act} (hy : Yd P ops hr o v a) (he : execOp a'.eval o = execOp a.eval o)
    (hw : Region.wanted o (yielded ops a'.tmps) = Region.wanted o (yielded ops a.tmps)) (hinj : ∀ u, a.put o.dst u = a.put o.dst v → a'.put o.dst u = a'.put o.dst v) : Yd P ops hr o v a' := by
  unfold Yd at *
  rw [hw]
  rcases hy with ⟨h1, h2⟩ | h
  · exact .inl ⟨h1, h2.of_same he (fun u h' ⟨e1, e2⟩ => ⟨hinj u e1, e2⟩) (fun d h' ⟨e1, e2⟩ => absurd e1 (put_defers_ne a o.dst v d))⟩
  · exact .inr h

theorem put_inj {a a' : Act} {dst : Option Tmp} {u v : Value} (hs : a.tmps.size = a'.tmps.size) (e : a.put dst u = a.put dst v) : a'.put dst u = a'.put dst v := by
  cases dst with
  | none => rfl
  | some d =>
    have h1 : (a.tmps.setIfInBounds d u)[d]? = (a.tmps.setIfInBounds d v)[d]? := by
      have : (a.put (some d) u).tmps = (a.put (some d) v).tmps := by rw [e]
      simpa [Act.put] using congrArg (fun (t : Array Value) => t[d]?) this
    show ({ a' with tmps := a'.tmps.setIfInBounds d u } : Act) = { a' with tmps := a'.tmps.setIfInBounds d v }
    by_cases hd : d < a.tmps.size
    · have : u = v := by simpa [hd] using h1
      rw [this]
    · have h2 : ∀ x, a'.tmps.setIfInBounds d x = a'.tmps := fun x => Array.setIfInBounds_eq_of_size_le (hs ▸ Nat.le_of_not_lt hd)
      rw [h2, h2]

theorem put_size (a : Act) (dst : Option Tmp) (v : Value) : (a.put dst v).tmps.size = a.tmps.size := by cases dst <;> simp [Act.put]

theorem opI_put {tl : Nat → Bool} {hr : H} {j : Nat} {oi oj : Oper} {v : Value} (hj : ops[j]? = some oj) (hap : oi.apart ops oj = true)
    (hsi : ∀ cs b, oi.op ≠ .select cs b) (hsj : ∀ cs b, oj.op ≠ .select cs b) {K : Act → H → Prop} {a : Act} {h : H}
    (hy : Yd P ops hr oi v a) (x : opI P ops tl hr j K (a.put oi.dst v) h) :
    opI P ops tl hr j (fun a' h' => Yd P ops hr oi v a' ∧ K (a'.put oi.dst v) h') a h := by
  obtain ⟨h1, h2, h3⟩ := Oper.apart_spec hap
  have keep : ∀ (a : Act), Yd P ops hr oi v a → ∀ u, Yd P ops hr oi v (a.put oj.dst u) := fun a hy u =>
    hy.of_same (execOp_put oi hsi a oj.dst u h3) (wanted_put oi a oj.dst u h3) (fun u' e => put_inj (by rw [put_size]) e)
  have keepD : ∀ d, Yd P ops hr oi v { a with defers := d :: a.defers } := fun d => hy.of_same rfl rfl (fun u' e => put_inj (by rfl) e)
  unfold opI at *
  simp only [hj] at *
  rw [wanted_put oj a oi.dst v h1] at x
  split
  · rename_i hw
    rw [if_pos hw] at x
    refine OpW.of_same (a := a.put oi.dst v) (execOp_put oj hsj a oi.dst v h1).symm ?_ ?_ x
    · rintro u h' ⟨s, k⟩
      exact ⟨s, keep a hy u, by rw [← Act.put_comm a v u h2]; exact k⟩
    · rintro d h' ⟨s, k⟩
      refine ⟨s, keep _ (keepD d) _, ?_⟩
      rw [← Act.put_comm _ v undef h2, ← Act.put_defers]
      exact k
  · rename_i hw
    rw [if_neg hw] at x
    exact ⟨keep a hy _, by rw [← Act.put_comm a v undef h2]; exact x⟩

theorem anyI_first {tl : Nat → Bool} {hr : H} {i : Nat} {oi : Oper} {v : Value} (hi : ops[i]? = some oi) (hsel : ∀ (j : Nat) (o : Oper) cs b, ops[j]? = some o → o.op ≠ .select cs b)
    (htl : ∀ j oj, ops[j]? = some oj → j ≠ i → tl j = true → ∃ e ∈ oj.after, Region.binds md e = true ∧ e.on = i) :
    ∀ (fuel : Nat) (listed : Array Bool) (a : Act) (h : H),
      (∀ j oj, ops[j]? = some oj → j ≠ i → listed.getD j true = false → (∀ e ∈ oj.after, Region.binds md e = true → e.on ≠ i) → oi.apart ops oj = true) →
      i ∈ Region.ready md ops listed → Sub hr h → Yd P ops hr oi v a →
      anyI P md ops tl hr N fuel (listed.setIfInBounds i true) (a.put oi.dst v) h → anyI P md ops tl hr N (fuel + 1) listed a h := by
  intro fuel
  induction fuel with
  | zero =>
    intro listed a h _ hr' sb hy X
    refine ⟨fun h => (by rw [h] at hr'; cases hr'), fun j hj => ?_⟩
    by_cases hji : j = i
    · subst hji; exact hy.opI hi sb X
    · have := ready_mono hj hji
      rw [X.1] at this
      cases this
  | succ fuel ih =>
    intro listed a h hfree hr' sb hy X
    refine ⟨fun h => (by rw [h] at hr'; cases hr'), fun j hj => ?_⟩
    by_cases hji : j = i
    · subst hji; exact hy.opI hi sb X
    · have h1 := X.2 j (ready_mono hj hji)
      obtain ⟨hjun, oj, hoj, hall⟩ := mem_ready.1 hj
      have hnot : ∀ e ∈ oj.after, Region.binds md e = true → e.on ≠ i := fun e he hb heq => by
        have h1 := hall e he hb
        have h0 := (mem_ready.1 hr').1
        rw [heq] at h1
        rcases Nat.lt_or_ge i listed.size with h' | h'
        · simp [h'] at h0 h1; rw [h0] at h1; cases h1
        · simp [Array.getElem?_eq_none h'] at h1
      have hntl : tl j = false := by
        cases e : tl j with
        | false => rfl
        | true => obtain ⟨e, he, hb, ho⟩ := htl j oj hoj hji e; exact absurd ho (hnot e he hb)
      have h2 := opI_put hoj (hfree j oj hoj hji hjun hnot) (fun cs b => hsel i oi cs b hi) (fun cs b => hsel j oj cs b hoj) hy h1
      have hfree' : ∀ k ok, ops[k]? = some ok → k ≠ i → (listed.setIfInBounds j true).getD k true = false →
          (∀ e ∈ ok.after, Region.binds md e = true → e.on ≠ i) → oi.apart ops ok = true := fun k ok hk hki hun hno => by
        refine hfree k ok hk hki ?_ hno
        by_cases hjk : j = k
        · subst hjk; exact hjun
        · rw [getD_set_ne true hjk] at hun; exact hun
      refine opI_mono (fun a' h' sb' h3 => ih (listed.setIfInBounds j true) a' h' hfree' (ready_mono hr' (Ne.symm hji)) (sb' hntl) h3.1 ?_) sb h2
      rw [Array.setIfInBounds_comm _ _ hji]
      exact h3.2

/-- Does an operation stand behind another one by an edge of its own? -/
def behind (md : Region.Mode) (ops : Array Oper) (j i : Nat) : Bool :=
  match ops[j]? with
  | some oj => oj.after.any fun e => Region.binds md e && e.on == i
  | none => false

theorem behind_spec {j i : Nat} {oj : Oper} (hj : ops[j]? = some oj) (hb : behind md ops j i = true) : ∃ e ∈ oj.after, Region.binds md e = true ∧ e.on = i := by
  unfold behind at hb
  simp only [hj] at hb
  obtain ⟨e, he, hb⟩ := Array.any_eq_true'.1 hb
  simp only [Bool.and_eq_true, beq_iff_eq] at hb
  exact ⟨e, he, hb.1, hb.2⟩

def tailOk (md : Region.Mode) (ops : Array Oper) (tl : Nat → Bool) (i : Nat) : Bool :=
  (List.range ops.size).all fun j => j == i || !tl j || behind md ops j i

theorem anyI_take {tl : Nat → Bool} {hr : H} {i : Nat} {oi : Oper} {v : Value} {fuel : Nat} {listed : Array Bool} {a : Act} {h : H} (hi : ops[i]? = some oi)
    (hs : Region.noSelect ops = true) (ht : tailOk md ops tl i = true) (hf : Region.free md ops listed i = true) (hr' : i ∈ Region.ready md ops listed) (sb : Sub hr h) (hy : Yd P ops hr oi v a)
    (x : anyI P md ops tl hr N fuel (listed.setIfInBounds i true) (a.put oi.dst v) h) : anyI P md ops tl hr N (fuel + 1) listed a h :=
  anyI_first hi (Region.noSelect_spec hs) (fun j oj hj hne ht2 => by
    have := List.all_eq_true.1 ht j (List.mem_range.2 (Array.getElem?_eq_some_iff.1 hj).1)
    simp only [Bool.or_eq_true, beq_iff_eq, hne, false_or, ht2, Bool.not_true, Bool.false_eq_true] at this
    exact behind_spec hj this) fuel listed a h (Region.free_spec hi hf) hr' sb hy x

theorem anyI_only {tl : Nat → Bool} {hr : H} {i : Nat} {fuel : Nat} {listed : Array Bool} {a : Act} {h : H} (hr' : Region.ready md ops listed = [i])
    (x : opI P ops tl hr i (anyI P md ops tl hr N fuel (listed.setIfInBounds i true)) a h) : anyI P md ops tl hr N (fuel + 1) listed a h :=
  ⟨fun h0 => (by rw [hr'] at h0; cases h0), by rw [hr']; intro j hj; simp at hj; subst hj; exact x⟩

theorem anyI_done {tl : Nat → Bool} {hr : H} {listed : Array Bool} {a : Act} {h : H} (hr' : Region.ready md ops listed = []) (x : N a h) : ∀ fuel, anyI P md ops tl hr N fuel listed a h
  | 0 => ⟨hr', x⟩
  | _ + 1 => ⟨fun _ => x, by rw [hr']; simp⟩
end

theorem HC_draw {P : Program} {id : Nat} {ops : Array Oper} {tl : Nat → Bool} {hr : H} {Q : Exit → Act → H → Prop} {a : Act} {h : H} (hm : P.follows .mixedOrders = true)
    (x : anyI P .any ops tl hr (Q .normal) ops.size (Array.replicate ops.size false) a h) : HC P (.region id ops true) Q a h := by
  intro h0 w0 w p
  exact wp_region_any hm (anyI_sound _ _ _ _ _ x (p.trans (Pst.drawn p.sat _)))
end Go.Tk
