/- Words for the walk: loops, what keeps simp out of what is not reached yet. -/
import Derived.Test.YtllhdnfcneejaaaA9
set_option linter.unusedVariables false
set_option linter.unusedSimpArgs false
namespace Go.Tk
open Go

/-! ### What a piece of code writes -/

def wrOk : C → Bool
  | .raw _ => false
  | .seq a b | .cond _ a b => wrOk a && wrOk b
  | .block _ c | .loop c => wrOk c
  | _ => true

def nds : List N → List Nat
  | [] => []
  | ⟨some d, _, _⟩ :: l => d :: nds l
  | ⟨none, _, _⟩ :: l => nds l
def dds : List D → List Nat
  | [] => []
  | ⟨_, ⟨some d, _, _⟩⟩ :: l => d :: dds l
  | ⟨_, ⟨none, _, _⟩⟩ :: l => dds l
theorem nds_mem : ∀ {l : List N} {n : N}, n ∈ l → ∀ i, n.d = some i → i ∈ nds l := by
  intro l
  induction l with
  | nil => intro n hn; cases hn
  | cons m l ih =>
    intro n hn i hi
    obtain ⟨d, g, o⟩ := m
    rcases List.mem_cons.1 hn with rfl | hm
    · simp only at hi; subst hi; simp [nds]
    · cases d <;> simp [nds, ih hm i hi]
theorem dds_mem : ∀ {l : List D} {n : D}, n ∈ l → ∀ i, n.n.d = some i → i ∈ dds l := by
  intro l
  induction l with
  | nil => intro n hn; cases hn
  | cons m l ih =>
    intro n hn i hi
    obtain ⟨k, d, g, o⟩ := m
    rcases List.mem_cons.1 hn with rfl | hm
    · simp only at hi; subst hi; simp [dds]
    · cases d <;> simp [dds, ih hm i hi]
def wrs : C → List Nat
  | .ops l => nds l
  | .draw l => dds l
  | .seq a b | .cond _ a b => wrs a ++ wrs b
  | .block _ c | .loop c => wrs c
  | _ => []

def Agr (W : List Nat) (e e' : List Value) : Prop := e'.length = e.length ∧ ∀ i, i ∉ W → e'[i]? = e[i]?
theorem Agr.refl (W : List Nat) (e : List Value) : Agr W e e := ⟨rfl, fun _ _ => rfl⟩
theorem Agr.put {W : List Nat} {e e' : List Value} (a : Agr W e e') {d : Option Nat} (hd : ∀ i, d = some i → i ∈ W) (v : Value) : Agr W e (putE d v e') := by
  cases d with
  | none => exact a
  | some d =>
    refine ⟨by simp [putE, a.1], fun i hi => ?_⟩
    have : d ≠ i := fun e => hi (e ▸ hd d rfl)
    simp only [putE]
    rw [List.getElem?_set_ne this]
    exact a.2 i hi

theorem vfl_mono {ρ : Operand → Value} {h : H} {K K' : Value → Prop} {i : I} (hk : ∀ v, K v → K' v) (x : vfl ρ h K i) : vfl ρ h K' i := by
  cases i <;> simp only [vfl] at x ⊢
  case bin =>
    split at x
    · refine ⟨x.1, ?_⟩
      have := x.2
      split at this <;> first | exact hk _ this | exact this
    · split at x <;> first | exact hk _ x | exact x
    · exact x
  case idxT =>
    split at x
    · refine ⟨x.1, ?_⟩
      have := x.2
      split at this <;> first | exact hk _ this | exact this
    · exact x
  case asrt =>
    split at x
    · split
      · rename_i hc; rw [if_pos hc] at x; exact hk _ x
      · rename_i hc; rw [if_neg hc] at x; exact ⟨x.1, hk _ x.2⟩
    · exact ⟨x.1, hk _ x.2⟩
    · exact x
  case get =>
    split at x
    · split
      · rename_i hc; rw [if_pos hc] at x; exact hk _ x
      · rename_i hc; rw [if_neg hc] at x; split at x <;> first | exact hk _ x | exact x
    · exact x
  all_goals first
    | exact x.elim
    | exact hk _ x
    | (split at x <;> first | exact hk _ x | exact ⟨x.1, hk _ x.2⟩ | exact x.elim | (split at x <;> first | exact hk _ x | exact ⟨x.1, hk _ x.2⟩ | exact x.elim))

theorem vops_agr {P : Program} {W : List Nat} {e0 : List Value} {K : KK} : ∀ (l : List N) (env : List Value) (h : H), (∀ n ∈ l, ∀ i, n.d = some i → i ∈ W) → Agr W e0 env →
    vops P l env h (fun e env' h' => Agr W e0 env' → K e env' h') → vops P l env h K := by
  intro l
  induction l with
  | nil => intro env h _ a x; exact x a
  | cons n l ih =>
    intro env h hw a x
    have hn := hw n List.mem_cons_self
    have hl : ∀ m ∈ l, ∀ i, m.d = some i → i ∈ W := fun m hm => hw m (List.mem_cons_of_mem _ hm)
    have step : ∀ v h', vops P l (putE n.d v env) h' (fun e env' h' => Agr W e0 env' → K e env' h') → vops P l (putE n.d v env) h' K := fun v h' y => ih _ _ hl (a.put hn v) y
    simp only [vops] at x ⊢
    split at x
    · exact vop_mono step (fun c h' y => y a) x
    · split at x
      · rename_i hb; rw [if_pos hb]; exact vop_mono step (fun c h' y => y a) x
      · rename_i hb; rw [if_neg hb]; exact step _ _ x

theorem vdr_agr {P : Program} {W : List Nat} {e0 : List Value} {K : KK} : ∀ (l : List D) (env : List Value) (h hr : H), (∀ n ∈ l, ∀ i, n.n.d = some i → i ∈ W) → Agr W e0 env →
    vdr P l env h hr (fun e env' h' => Agr W e0 env' → K e env' h') → vdr P l env h hr K := by
  intro l
  induction l with
  | nil => intro env h hr _ a x; exact x a
  | cons n l ih =>
    intro env h hr hw a x
    have hn := hw n List.mem_cons_self
    have hl : ∀ m ∈ l, ∀ i, m.n.d = some i → i ∈ W := fun m hm => hw m (List.mem_cons_of_mem _ hm)
    have step : ∀ v h' hr', vdr P l (putE n.n.d v env) h' hr' (fun e env' h' => Agr W e0 env' → K e env' h') → vdr P l (putE n.n.d v env) h' hr' K := fun v h' hr' y => ih _ _ _ hl (a.put hn v) y
    simp only [vdr] at x ⊢
    split at x
    · rename_i hw
      rw [if_pos hw]
      split at x
      · exact vfl_mono (fun v y => step _ _ _ y) x
      · split at x
        · obtain ⟨v, c, y⟩ := x; exact ⟨v, c, step _ _ _ y⟩
        · exact x.elim
      · exact vop_mono (fun v h' y => ⟨y.1, step _ _ _ y.2⟩) (fun _ _ y => y) x
      · exact vop_mono (fun v h' y => ⟨y.1, step _ _ _ y.2⟩) (fun _ _ y => y) x
      · exact vop_mono (fun v h' y => step _ _ _ y) (fun _ _ y => y) x
    · rename_i hw
      rw [if_neg hw]
      exact step _ _ _ x

theorem HC_mono' {P : Program} {c : Code} {Q Q' : Exit → Act → H → Prop} {a : Act} {h : H} (hq : ∀ e a h, Q e a h → Q' e a h) (k : HC P c Q a h) : HC P c Q' a h := k.mono hq

theorem vops_mono {P : Program} {K K' : KK} (hk : ∀ e env h, K e env h → K' e env h) : ∀ (l : List N) (env : List Value) (h : H), vops P l env h K → vops P l env h K' := by
  intro l
  induction l with
  | nil => intro env h x; exact hk _ _ _ x
  | cons n l ih =>
    intro env h x
    simp only [vops] at x ⊢
    split at x
    · exact vop_mono (fun v h' y => ih _ _ y) (fun c h' y => hk _ _ _ y) x
    · split at x
      · rename_i hb; rw [if_pos hb]; exact vop_mono (fun v h' y => ih _ _ y) (fun c h' y => hk _ _ _ y) x
      · rename_i hb; rw [if_neg hb]; exact ih _ _ x

theorem vdr_mono {P : Program} {K K' : KK} (hk : ∀ e env h, K e env h → K' e env h) : ∀ (l : List D) (env : List Value) (h hr : H), vdr P l env h hr K → vdr P l env h hr K' := by
  intro l
  induction l with
  | nil => intro env h hr x; exact hk _ _ _ x
  | cons n l ih =>
    intro env h hr x
    simp only [vdr] at x ⊢
    split at x
    · rename_i hw
      rw [if_pos hw]
      split at x
      · exact vfl_mono (fun v y => ih _ _ _ y) x
      · split at x
        · obtain ⟨v, c, y⟩ := x; exact ⟨v, c, ih _ _ _ y⟩
        · exact x.elim
      · exact vop_mono (fun v h' y => ⟨y.1, ih _ _ _ y.2⟩) (fun _ _ y => y) x
      · exact vop_mono (fun v h' y => ⟨y.1, ih _ _ _ y.2⟩) (fun _ _ y => y) x
      · exact vop_mono (fun v h' y => ih _ _ _ y) (fun _ _ y => y) x
    · rename_i hw
      rw [if_neg hw]
      exact ih _ _ _ x

theorem vc_mono {P : Program} : ∀ (c : C) {K K' : KK} (hk : ∀ e env h, K e env h → K' e env h) (env : List Value) (h : H), vc P c env h K → vc P c env h K' := by
  intro c
  induction c with
  | ops l => intro K K' hk env h x; exact vops_mono hk l env h x
  | draw l => intro K K' hk env h x; obtain ⟨hr, s, x⟩ := x; exact ⟨hr, s, vdr_mono hk l env h hr x⟩
  | seq a b iha ihb =>
    intro K K' hk env h x
    rw [vc_seq] at x ⊢
    refine iha ?_ env h x
    intro e env h y
    cases e <;> simp only [seqC] at y ⊢
    case normal => exact ihb hk env h y
    all_goals exact hk _ _ _ y
  | cond o a b iha ihb =>
    intro K K' hk env h x
    rw [vc_cond] at x ⊢
    unfold vcond at x ⊢
    split at x
    · split at x
      · rename_i hc; rw [if_pos hc]; exact iha hk env h x
      · rename_i hc; rw [if_neg hc]; exact ihb hk env h x
    · exact x.elim
  | block id c ih =>
    intro K K' hk env h x
    rw [vc_block] at x ⊢
    refine ih ?_ env h x
    intro e env h y
    cases e <;> simp only [blkC] at y ⊢
    case exit id' =>
      split
      · rename_i hc; rw [if_pos hc] at y; exact hk _ _ _ y
      · rename_i hc; rw [if_neg hc] at y; exact hk _ _ _ y
    all_goals exact hk _ _ _ y
  | loop c ih =>
    intro K K' hk env h x
    obtain ⟨J, n, h0, hr⟩ := x
    refine ⟨J, n, h0, fun n env h j => ih ?_ env h (hr n env h j)⟩
    intro e env h y
    cases e <;> simp only [loopC] at y ⊢
    case normal => exact y
    all_goals exact hk _ _ _ y
  | exit id => intro K K' hk env h x; exact hk _ _ _ x
  | ret => intro K K' hk env h x; exact hk _ _ _ x
  | skip => intro K K' hk env h x; exact hk _ _ _ x
  | raw c => intro K K' hk env h x; exact HC.mono x fun e a h' ⟨env', e1, y⟩ => ⟨env', e1, hk _ _ _ y⟩

theorem vc_agr {P : Program} {W : List Nat} {e0 : List Value} : ∀ (c : C) {K : KK} (env : List Value) (h : H), wrOk c = true → (∀ i ∈ wrs c, i ∈ W) → Agr W e0 env →
    vc P c env h (fun e env' h' => Agr W e0 env' → K e env' h') → vc P c env h K := by
  intro c
  induction c with
  | ops l =>
    intro K env h _ hw a x
    exact vops_agr l env h (fun n hn i hi => hw i (nds_mem hn i hi)) a x
  | draw l =>
    intro K env h _ hw a x
    obtain ⟨hr, s, x⟩ := x
    exact ⟨hr, s, vdr_agr l env h hr (fun n hn i hi => hw i (dds_mem hn i hi)) a x⟩
  | seq c1 c2 iha ihb =>
    intro K env h ho hw a x
    simp only [wrOk, Bool.and_eq_true] at ho
    simp only [wrs, List.mem_append] at hw
    rw [vc_seq] at x ⊢
    refine iha env h ho.1 (fun i hi => hw i (.inl hi)) a (vc_mono _ ?_ env h x)
    intro e env h y a
    cases e <;> simp only [seqC] at y ⊢
    case normal => exact ihb env h ho.2 (fun i hi => hw i (.inr hi)) a y
    all_goals exact y a
  | cond o c1 c2 iha ihb =>
    intro K env h ho hw a x
    simp only [wrOk, Bool.and_eq_true] at ho
    simp only [wrs, List.mem_append] at hw
    rw [vc_cond] at x ⊢
    unfold vcond at x ⊢
    split at x
    · split at x
      · rename_i hc; rw [if_pos hc]; exact iha env h ho.1 (fun i hi => hw i (.inl hi)) a x
      · rename_i hc; rw [if_neg hc]; exact ihb env h ho.2 (fun i hi => hw i (.inr hi)) a x
    · exact x.elim
  | block id c ih =>
    intro K env h ho hw a x
    rw [vc_block] at x ⊢
    refine ih env h ho hw a (vc_mono _ ?_ env h x)
    intro e env h y a
    cases e <;> simp only [blkC] at y ⊢
    case exit id' =>
      split
      · rename_i hc; rw [if_pos hc] at y; exact y a
      · rename_i hc; rw [if_neg hc] at y; exact y a
    all_goals exact y a
  | loop c ih =>
    intro K env h ho hw a x
    obtain ⟨J, n, ⟨g0, sb0, h0⟩, hr⟩ := x
    refine ⟨fun n env h => J n env h ∧ Agr W e0 env, n, ⟨g0, sb0, h0, a⟩, fun n env h j => ih env h ho hw j.2 (vc_mono _ ?_ env h (hr n env h j.1))⟩
    intro e env h y a
    cases e <;> simp only [loopC] at y ⊢
    case normal => obtain ⟨m, hm, g, sb, hj⟩ := y; exact ⟨m, hm, g, sb, hj, a⟩
    all_goals exact y a
  | exit id => intro K env h _ _ a x; exact x a
  | ret => intro K env h _ _ a x; exact x a
  | skip => intro K env h _ _ a x; exact x a
  | raw c => intro K env h ho; cases ho

/-- The slots that are written, at whatever they hold. -/
def hav (env : List Value) : List Nat → (Nat → Value) → List Value
  | [], _ => env
  | i :: W, f => hav (env.set i (f i)) W f

theorem hav_nil (env : List Value) (f : Nat → Value) : hav env [] f = env := rfl
theorem hav_cons (env : List Value) (i : Nat) (W : List Nat) (f : Nat → Value) : hav env (i :: W) f = hav (env.set i (f i)) W f := rfl

theorem hav_get (f : Nat → Value) : ∀ (W : List Nat) (env : List Value) (j : Nat), (hav env W f)[j]? = if j ∈ W ∧ j < env.length then some (f j) else env[j]? := by
  intro W
  induction W with
  | nil => intro env j; simp [hav]
  | cons i W ih =>
    intro env j
    rw [hav_cons, ih]
    simp only [List.length_set, List.mem_cons]
    by_cases hj : j ∈ W ∧ j < env.length
    · rw [if_pos hj, if_pos ⟨.inr hj.1, hj.2⟩]
    · rw [if_neg hj]
      by_cases e : j = i
      · subst e
        by_cases hl : j < env.length
        · rw [if_pos ⟨.inl rfl, hl⟩]; simp [hl]
        · rw [if_neg (fun x => hl x.2)]
          simp [hl]
      · rw [List.getElem?_set_ne (Ne.symm e)]
        rw [if_neg (fun x => hj ⟨x.1.resolve_left e, x.2⟩)]

theorem Agr.hav {W : List Nat} {e e' : List Value} (a : Agr W e e') : e' = hav e W (fun i => e'.getD i undef) := by
  apply List.ext_getElem?
  intro j
  rw [hav_get]
  by_cases hj : j ∈ W ∧ j < e.length
  · rw [if_pos hj]
    have : j < e'.length := by rw [a.1]; exact hj.2
    simp [this]
  · rw [if_neg hj]
    by_cases hw : j ∈ W
    · have h1 : ¬ j < e.length := fun x => hj ⟨hw, x⟩
      have h2 : ¬ j < e'.length := by rw [a.1]; exact h1
      simp [List.getElem?_eq_none (Nat.le_of_not_lt h1), List.getElem?_eq_none (Nat.le_of_not_lt h2)]
    · exact a.2 j hw

/-- The end of a round. -/
def lpC (S : List Nat) (J : Nat → List Value → H → Prop) (n : Nat) (K : KK) : KK
  | .normal, env, h => ∃ m, m < n ∧ ∃ g, Sub g h ∧ J m (S.map (env.getD · undef)) g
  | e, env, h => K e env h

theorem lpC_normal (S : List Nat) (J : Nat → List Value → H → Prop) (n : Nat) (K : KK) (env : List Value) (h : H) : lpC S J n K .normal env h = ∃ m, m < n ∧ ∃ g, Sub g h ∧ J m (S.map (env.getD · undef)) g := rfl
theorem lpC_exit (S : List Nat) (J : Nat → List Value → H → Prop) (n : Nat) (K : KK) (id : Nat) (env : List Value) (h : H) : lpC S J n K (.exit id) env h = K (.exit id) env h := rfl
theorem lpC_ret (S : List Nat) (J : Nat → List Value → H → Prop) (n : Nat) (K : KK) (env : List Value) (h : H) : lpC S J n K .ret env h = K .ret env h := rfl
theorem lpC_panic (S : List Nat) (J : Nat → List Value → H → Prop) (n : Nat) (K : KK) (c : List PanicEntry) (env : List Value) (h : H) : lpC S J n K (.panic c) env h = K (.panic c) env h := rfl

/-- A loop: what holds of some slots and of the memory at the head of each round, and a number that falls. -/
theorem vc_loopS {P : Program} {c : C} {env : List Value} {h g0 : H} {K : KK} (S : List Nat) (J : Nat → List Value → H → Prop) (n : Nat) (hok : wrOk c = true) (sb0 : Sub g0 h) (h0 : J n (S.map (env.getD · undef)) g0)
    (hr : ∀ n (f : Nat → Value) h, J n (S.map f) h → vc P c (hav env (wrs c) f) h (lpC S J n K)) : vc P (.loop c) env h K := by
  refine ⟨fun n e h => Agr (wrs c) env e ∧ J n (S.map (e.getD · undef)) h, n, ⟨g0, sb0, Agr.refl _ _, h0⟩, ?_⟩
  rintro n e h ⟨a, j⟩
  have x := hr n (fun i => e.getD i undef) h j
  rw [← a.hav] at x
  refine vc_agr c e h hok (fun i hi => hi) a (vc_mono c ?_ e h x)
  intro ex env' h' y a'
  cases ex <;> simp only [lpC] at y <;> simp only [loopC]
  case normal => obtain ⟨m, hm, g, sb, hj⟩ := y; exact ⟨m, hm, g, sb, a', hj⟩
  all_goals exact y

theorem vc_loop {P : Program} {c : C} {env : List Value} {h : H} {K : KK} (S : List Nat) (J : Nat → List Value → H → Prop) (n : Nat) (hok : wrOk c = true) (h0 : J n (S.map (env.getD · undef)) h)
    (hr : ∀ n (f : Nat → Value) h, J n (S.map f) h → vc P c (hav env (wrs c) f) h (lpC S J n K)) : vc P (.loop c) env h K := vc_loopS S J n hok (.refl h) h0 hr

/-! ### Words -/

def str (l : List UInt8) : Value := .string ⟨l.toArray⟩

theorem vc_congr (P : Program) (c : C) (env env' : List Value) (h h' : H) (K : KK) (e1 : env = env') (e2 : h = h') : vc P c env h K = vc P c env' h' K := by rw [e1, e2]
theorem vops_congr (P : Program) (l : List N) (env env' : List Value) (h h' : H) (K : KK) (e1 : env = env') (e2 : h = h') : vops P l env h K = vops P l env' h' K := by rw [e1, e2]
theorem vdr_congr (P : Program) (l : List D) (env env' : List Value) (h h' hr hr' : H) (K : KK) (e1 : env = env') (e2 : h = h') (e3 : hr = hr') : vdr P l env h hr K = vdr P l env' h' hr' K := by rw [e1, e2, e3]
theorem HCalls_congr (P : Program) (f : FuncId) (a a' : Array Value) (h h' : H) (R : Ending → H → Prop) (e1 : a = a') (e2 : h = h') : HCalls P f a h R = HCalls P f a' h' R := by rw [e1, e2]

/-- A step that stands under a condition. -/
def vgd (P : Program) (v : Value) (t : Nat) (w : Bool) (d : Option Nat) (i : I) (r : List N) (env : List Value) (h : H) (K : KK) : Prop :=
  match v with
  | .bool b => if b = true then (if w then vop P (evl (env.set t (.bool true))) h (cont P r d (env.set t (.bool true)) K) (panK (env.set t (.bool true)) K) i else vops P r (putE d undef (env.set t (.bool true))) h K)
    else (if w then vops P r (putE d undef (env.set t (.bool false))) h K else vop P (evl (env.set t (.bool false))) h (cont P r d (env.set t (.bool false)) K) (panK (env.set t (.bool false)) K) i)
  | _ => vops P r (putE d undef env) h K

theorem set_self {env : List Value} {t : Nat} {b : Bool} (e : env.getD t undef = .bool b) : env.set t (.bool b) = env := by
  apply List.ext_getElem?
  intro j
  by_cases hj : t = j
  · subst hj
    rw [List.getD_eq_getElem?_getD] at e
    cases hx : env[t]? with
    | none => rw [hx] at e; cases e
    | some v =>
      rw [hx] at e
      simp only [Option.getD_some] at e
      subst e
      have := (List.getElem?_eq_some_iff.1 hx).1
      simp [this]
  · rw [List.getElem?_set_ne hj]

theorem vops_guard_aux (P : Program) (d : Option Nat) (t : Nat) (w : Bool) (i : I) (r : List N) (env : List Value) (h : H) (K : KK) (v : Value) (e : env.getD t undef = v) :
    (if isB v w = true then vop P (evl env) h (cont P r d env K) (panK env K) i else vops P r (putE d undef env) h K) = vgd P v t w d i r env h K := by
  unfold vgd
  cases v <;> simp only [isB, Bool.false_eq_true, if_false]
  rename_i b
  cases b <;> cases w <;> simp only [Bool.false_eq_true, if_false, if_true, beq_self_eq_true, set_self e] <;> rfl

theorem vops_guard (P : Program) (d : Option Nat) (t : Nat) (w : Bool) (i : I) (r : List N) (env : List Value) (h : H) (K : KK) :
    vops P (⟨d, some (t, w), i⟩ :: r) env h K = vgd P (env.getD t undef) t w d i r env h K :=
  vops_guard_aux P d t w i r env h K _ rfl

theorem vgd_t (P : Program) (b : Bool) (t : Nat) (d : Option Nat) (i : I) (r : List N) (env : List Value) (h : H) (K : KK) :
    vgd P (.bool b) t true d i r env h K = if b = true then vop P (evl (env.set t (.bool true))) h (cont P r d (env.set t (.bool true)) K) (panK (env.set t (.bool true)) K) i else vops P r (putE d undef (env.set t (.bool false))) h K := rfl
theorem vgd_f (P : Program) (b : Bool) (t : Nat) (d : Option Nat) (i : I) (r : List N) (env : List Value) (h : H) (K : KK) :
    vgd P (.bool b) t false d i r env h K = if b = true then vops P r (putE d undef (env.set t (.bool true))) h K else vop P (evl (env.set t (.bool false))) h (cont P r d (env.set t (.bool false)) K) (panK (env.set t (.bool false)) K) i := rfl
theorem vgd_undef (P : Program) (t : Nat) (w : Bool) (d : Option Nat) (i : I) (r : List N) (env : List Value) (h : H) (K : KK) :
    vgd P undef t w d i r env h K = vops P r (putE d undef env) h K := rfl

def fcont (P : Program) (r : List D) (d : Option Nat) (env : List Value) (h hr : H) (K : KK) : Value → Prop := fun v => vdr P r (putE d v env) h hr K
def bcont (P : Program) (r : List D) (d : Option Nat) (env : List Value) (hr : H) (K : KK) : Value → H → Prop := fun v h' => Sub hr h' ∧ vdr P r (putE d v env) h' hr K
def ncont (P : Program) (r : List D) (d : Option Nat) (env : List Value) (hr : H) (K : KK) : Value → H → Prop := fun v h' => Sub hr h' ∧ vdr P r (putE d v env) h' h' K
def tcont (P : Program) (r : List D) (d : Option Nat) (env : List Value) (hr : H) (K : KK) : Value → H → Prop := fun v h' => vdr P r (putE d v env) h' hr K
def noX : List PanicEntry → H → Prop := fun _ _ => False
def pcall (P : Program) (f : FuncId) (args : Array Value) (hr : H) (K : Value → Prop) : Prop := ∃ v, (∀ R : Ending → H → Prop, R (.returned v) hr → HCalls P f args hr R) ∧ K v
theorem pcall_intro {P : Program} {f : FuncId} {args : Array Value} {hr : H} {K : Value → Prop} (v : Value) (c : ∀ R : Ending → H → Prop, R (.returned v) hr → HCalls P f args hr R) (k : K v) : pcall P f args hr K := ⟨v, c, k⟩
theorem pcall_congr (P : Program) (f : FuncId) (a a' : Array Value) (h h' : H) (K : Value → Prop) (e1 : a = a') (e2 : h = h') : pcall P f a h K = pcall P f a' h' K := by rw [e1, e2]

theorem fcont_some (P : Program) (r : List D) (d : Nat) (env : List Value) (h hr : H) (K : KK) (v : Value) : fcont P r (some d) env h hr K v = vdr P r (env.set d v) h hr K := rfl
theorem bcont_some (P : Program) (r : List D) (d : Nat) (env : List Value) (hr : H) (K : KK) (v : Value) (h : H) : bcont P r (some d) env hr K v h = (Sub hr h ∧ vdr P r (env.set d v) h hr K) := rfl
theorem bcont_none (P : Program) (r : List D) (env : List Value) (hr : H) (K : KK) (v : Value) (h : H) : bcont P r none env hr K v h = (Sub hr h ∧ vdr P r env h hr K) := rfl
theorem ncont_some (P : Program) (r : List D) (d : Nat) (env : List Value) (hr : H) (K : KK) (v : Value) (h : H) : ncont P r (some d) env hr K v h = (Sub hr h ∧ vdr P r (env.set d v) h h K) := rfl
theorem ncont_none (P : Program) (r : List D) (env : List Value) (hr : H) (K : KK) (v : Value) (h : H) : ncont P r none env hr K v h = (Sub hr h ∧ vdr P r env h h K) := rfl
theorem tcont_some (P : Program) (r : List D) (d : Nat) (env : List Value) (hr : H) (K : KK) (v : Value) (h : H) : tcont P r (some d) env hr K v h = vdr P r (env.set d v) h hr K := rfl
theorem tcont_none (P : Program) (r : List D) (env : List Value) (hr : H) (K : KK) (v : Value) (h : H) : tcont P r none env hr K v h = vdr P r env h hr K := rfl

/-- A step, its condition being met. -/
def vdo (P : Program) (k : Nat) (d : Option Nat) (i : I) (r : List D) (env : List Value) (h hr : H) (K : KK) : Prop :=
  match k with
  | 0 => vfl (evl env) hr (fcont P r d env h hr K) i
  | 1 => (match i with
    | .call f args => pcall P f (args.map (evl env)).toArray hr (fcont P r d env h hr K)
    | _ => False)
  | 2 => vop P (evl env) h (bcont P r d env hr K) noX i
  | 4 => vop P (evl env) h (ncont P r d env hr K) noX i
  | _ => vop P (evl env) h (tcont P r d env hr K) noX i

theorem vdo_0 (P : Program) (d : Option Nat) (i : I) (r : List D) (env : List Value) (h hr : H) (K : KK) : vdo P 0 d i r env h hr K = vfl (evl env) hr (fcont P r d env h hr K) i := rfl
theorem vdo_1 (P : Program) (d : Option Nat) (f : FuncId) (args : List Operand) (r : List D) (env : List Value) (h hr : H) (K : KK) : vdo P 1 d (.call f args) r env h hr K = pcall P f (args.map (evl env)).toArray hr (fcont P r d env h hr K) := rfl
theorem vdo_2 (P : Program) (d : Option Nat) (i : I) (r : List D) (env : List Value) (h hr : H) (K : KK) : vdo P 2 d i r env h hr K = vop P (evl env) h (bcont P r d env hr K) noX i := rfl
theorem vdo_3 (P : Program) (d : Option Nat) (i : I) (r : List D) (env : List Value) (h hr : H) (K : KK) : vdo P 3 d i r env h hr K = vop P (evl env) h (tcont P r d env hr K) noX i := rfl
theorem vdo_4 (P : Program) (d : Option Nat) (i : I) (r : List D) (env : List Value) (h hr : H) (K : KK) : vdo P 4 d i r env h hr K = vop P (evl env) h (ncont P r d env hr K) noX i := rfl

theorem vdr_nil (P : Program) (env : List Value) (h hr : H) (K : KK) : vdr P [] env h hr K = K .normal env h := rfl
theorem vdr_vdo (P : Program) (k : Nat) (d : Option Nat) (i : I) (r : List D) (env : List Value) (h hr : H) (K : KK) (g : Option (Nat × Bool)) : vdr P (⟨k, ⟨d, g, i⟩⟩ :: r) env h hr K = if wantE env g = true then vdo P k d i r env h hr K else vdr P r (putE d undef env) h hr K := by
  simp only [vdr, vdo]
  rfl
theorem vdr_plain (P : Program) (k : Nat) (d : Option Nat) (i : I) (r : List D) (env : List Value) (h hr : H) (K : KK) : vdr P (⟨k, ⟨d, none, i⟩⟩ :: r) env h hr K = vdo P k d i r env h hr K := by
  rw [vdr_vdo]; rfl

/-- A step that stands under a condition. -/
def vgr (P : Program) (v : Value) (t : Nat) (w : Bool) (k : Nat) (d : Option Nat) (i : I) (r : List D) (env : List Value) (h hr : H) (K : KK) : Prop :=
  match v with
  | .bool b => if b = true then (if w then vdo P k d i r (env.set t (.bool true)) h hr K else vdr P r (putE d undef (env.set t (.bool true))) h hr K)
    else (if w then vdr P r (putE d undef (env.set t (.bool false))) h hr K else vdo P k d i r (env.set t (.bool false)) h hr K)
  | _ => vdr P r (putE d undef env) h hr K

theorem vdr_guard_aux (P : Program) (k : Nat) (d : Option Nat) (t : Nat) (w : Bool) (i : I) (r : List D) (env : List Value) (h hr : H) (K : KK) (v : Value) (e : env.getD t undef = v) :
    (if isB v w = true then vdo P k d i r env h hr K else vdr P r (putE d undef env) h hr K) = vgr P v t w k d i r env h hr K := by
  unfold vgr
  cases v <;> simp only [isB, Bool.false_eq_true, if_false]
  rename_i b
  cases b <;> cases w <;> simp only [Bool.false_eq_true, if_false, if_true, beq_self_eq_true, set_self e] <;> rfl

theorem vdr_guard (P : Program) (k : Nat) (d : Option Nat) (t : Nat) (w : Bool) (i : I) (r : List D) (env : List Value) (h hr : H) (K : KK) :
    vdr P (⟨k, ⟨d, some (t, w), i⟩⟩ :: r) env h hr K = vgr P (env.getD t undef) t w k d i r env h hr K := by
  rw [vdr_vdo]
  exact vdr_guard_aux P k d t w i r env h hr K _ rfl
theorem vgr_t (P : Program) (b : Bool) (t k : Nat) (d : Option Nat) (i : I) (r : List D) (env : List Value) (h hr : H) (K : KK) :
    vgr P (.bool b) t true k d i r env h hr K = if b = true then vdo P k d i r (env.set t (.bool true)) h hr K else vdr P r (putE d undef (env.set t (.bool false))) h hr K := rfl
theorem vgr_f (P : Program) (b : Bool) (t k : Nat) (d : Option Nat) (i : I) (r : List D) (env : List Value) (h hr : H) (K : KK) :
    vgr P (.bool b) t false k d i r env h hr K = if b = true then vdr P r (putE d undef (env.set t (.bool true))) h hr K else vdo P k d i r (env.set t (.bool false)) h hr K := rfl
theorem vgr_undef (P : Program) (t : Nat) (w : Bool) (k : Nat) (d : Option Nat) (i : I) (r : List D) (env : List Value) (h hr : H) (K : KK) : vgr P undef t w k d i r env h hr K = vdr P r (putE d undef env) h hr K := rfl

theorem vc_draw {P : Program} {l : List D} {env : List Value} {h : H} {K : KK} (hr : H) (s : Sub hr h) (x : vdr P l env h hr K) : vc P (.draw l) env h K := ⟨hr, s, x⟩

/-- A branch. -/
def vif (P : Program) (v : Value) (t : Nat) (a b : C) (env : List Value) (h : H) (K : KK) : Prop :=
  match v with
  | .bool c => if c = true then vc P a (env.set t (.bool true)) h K else vc P b (env.set t (.bool false)) h K
  | _ => False
theorem vc_if (P : Program) (t : Nat) (a b : C) (env : List Value) (h : H) (K : KK) : vc P (.cond (.tmp t) a b) env h K = vif P (env.getD t undef) t a b env h K := by
  rw [vc_cond]
  unfold vcond vif
  simp only [evl]
  cases e : env.getD t undef <;> simp only
  rename_i c
  cases c <;> simp [set_self e]
theorem vif_bool (P : Program) (c : Bool) (t : Nat) (a b : C) (env : List Value) (h : H) (K : KK) : vif P (.bool c) t a b env h K = if c = true then vc P a (env.set t (.bool true)) h K else vc P b (env.set t (.bool false)) h K := rfl

theorem vgd_congr (P : Program) (v v' : Value) (t : Nat) (w : Bool) (d : Option Nat) (i : I) (r : List N) (env : List Value) (h : H) (K : KK) (e : v = v') : vgd P v t w d i r env h K = vgd P v' t w d i r env h K := by rw [e]
theorem vgr_congr (P : Program) (v v' : Value) (t : Nat) (w : Bool) (k : Nat) (d : Option Nat) (i : I) (r : List D) (env : List Value) (h hr : H) (K : KK) (e : v = v') : vgr P v t w k d i r env h hr K = vgr P v' t w k d i r env h hr K := by rw [e]
theorem vif_congr (P : Program) (v v' : Value) (t : Nat) (a b : C) (env : List Value) (h : H) (K : KK) (e : v = v') : vif P v t a b env h K = vif P v' t a b env h K := by rw [e]
attribute [congr] vc_congr vops_congr vdr_congr HCalls_congr pcall_congr vgd_congr vgr_congr vif_congr

theorem evl_tmp (env : List Value) (t : Nat) : evl env (.tmp t) = env.getD t undef := rfl
theorem evl_const (env : List Value) (v : Value) : evl env (.const v) = v := rfl
theorem evl_func (env : List Value) (f : FuncId) : evl env (.func f) = .func (.func f) #[] #[] := rfl
theorem retK_ret (K : Value → H → Prop) (X : List PanicEntry → H → Prop) (v : Value) (h : H) : retK K X (.returned v) h = K v h := rfl
theorem retK_pan (K : Value → H → Prop) (X : List PanicEntry → H → Prop) (c : List PanicEntry) (h : H) : retK K X (.panicked c) h = X c h := rfl
theorem Sub_self (h : H) : Sub h h = True := eq_true (Sub.refl h)
theorem Sub_new {h : H} {j : Nat} {o : Obj} (hj : hget h j = none) : Sub h ((j, o) :: h) = True := eq_true (Sub.cons hj (Sub.refl h))

theorem wr : (∀ l, wrs (.ops l) = nds l) ∧ (∀ l, wrs (.draw l) = dds l) ∧ (∀ a b, wrs (.seq a b) = wrs a ++ wrs b) ∧ (∀ x a b, wrs (.cond x a b) = wrs a ++ wrs b) ∧ (∀ i c, wrs (.block i c) = wrs c) ∧ (∀ c, wrs (.loop c) = wrs c) ∧
    (∀ i, wrs (.exit i) = []) ∧ (wrs .ret = []) ∧ (wrs .skip = []) ∧ (nds [] = []) ∧ (∀ d g i l, nds (⟨some d, g, i⟩ :: l) = d :: nds l) ∧ (∀ g i l, nds (⟨none, g, i⟩ :: l) = nds l) ∧
    (dds [] = []) ∧ (∀ k d g i l, dds (⟨k, ⟨some d, g, i⟩⟩ :: l) = d :: dds l) ∧ (∀ k g i l, dds (⟨k, ⟨none, g, i⟩⟩ :: l) = dds l) ∧ (∀ (env : List Value) f, hav env [] f = env) ∧ (∀ (env : List Value) i W f, hav env (i :: W) f = hav (env.set i (f i)) W f) :=
  ⟨fun _ => rfl, fun _ => rfl, fun _ _ => rfl, fun _ _ _ => rfl, fun _ _ => rfl, fun _ => rfl, fun _ => rfl, rfl, rfl, rfl, fun _ _ _ _ => rfl, fun _ _ _ => rfl, rfl, fun _ _ _ _ _ => rfl, fun _ _ _ _ => rfl, fun _ _ => rfl, fun _ _ _ _ => rfl⟩
end Go.Tk
