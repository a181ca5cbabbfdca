/- Parts of the proof. -/
import Derived.Test.YtjioiemhgbkbfaaGreatDoorK153
set_option maxHeartbeats 4000000
set_option maxRecDepth 100000
set_option linter.unusedVariables false
set_option linter.unusedSimpArgs false
set_option linter.defProp false
section
namespace Go.Tk
open Go
def wrOk : C -> Bool
 | .raw _ => false
 | .rng .. => false
 | .seq a b | .cond _ a b | .cut a b => wrOk a && wrOk b
 | .block _ c | .loop c => wrOk c
 | _ => true
def dds : List D -> List Nat
 | [] => []
 | ⟨_, ⟨some d, _, _⟩⟩ :: l => d :: dds l
 | ⟨_, ⟨none, _, _⟩⟩ :: l => dds l
theorem dds_mem : ∀ {l : List D} {n : D}, n ∈ l -> ∀ i, n.n.d = some i -> i ∈ dds l := by
 intro l
 induction l with
 | nil => intro n hn; cases hn
 | cons m l ih =>
  intro n hn i hi
  obtain ⟨k, d, g, o⟩ := m
  rcases List.mem_cons.1 hn with rfl | hm
  ·simp only at hi; subst hi; simp [dds]
  ·cases d <;> simp [dds, ih hm i hi]
def wrs : C -> List Nat
 | .ops l => nds l
 | .draw l => dds l
 | .any l => nds (l.map (·.1))
 | .seq a b | .cond _ a b | .cut a b => wrs a ++ wrs b
 | .block _ c | .loop c => wrs c
 | _ => []
theorem qPS {ρ : Operand -> Value} {h : H} {K K' : Value -> Prop} {i : I} (hk : ∀ v, K v -> K' v) (x : vfl ρ h K i) : vfl ρ h K' i := by
 cases i <;> simp only [vfl] at x ⊢
 case bin =>
  split at x
  ·refine ⟨x.1, ?_⟩
   have := x.2
   split at this <;> first | exact hk _ this | exact this
  ·split at x <;> first | exact hk _ x | exact x
  ·exact x
 case idxT =>
  split at x
  ·refine ⟨x.1, ?_⟩
   have := x.2
   split at this <;> first | exact hk _ this | exact this
  ·exact x
 case asrt =>
  split at x
  ·split
   ·rename_i hc; rw [if_pos hc] at x; exact hk _ x
   ·rename_i hc; rw [if_neg hc] at x; exact ⟨x.1, hk _ x.2⟩
  ·exact ⟨x.1, hk _ x.2⟩
  ·exact x
 case get =>
  split at x
  ·split
   ·rename_i hc; rw [if_pos hc] at x; exact hk _ x
   ·rename_i hc; rw [if_neg hc] at x; split at x <;> first | exact hk _ x | exact x
  ·exact x
 all_goals first
  | exact x.elim
  | exact hk _ x
  | (split at x <;> first | exact hk _ x | exact ⟨x.1, hk _ x.2⟩ | exact x.elim | (split at x <;> first | exact hk _ x | exact ⟨x.1, hk _ x.2⟩ | exact x.elim))
theorem zDS {P : Program} {W : List Nat} {e0 : List Value} {K : KK} : ∀ (l : List N) (env : List Value) (h : H), (∀ n ∈ l, ∀ i, n.d = some i -> i ∈ W) -> Agr W e0 env ->
  vops P l env h (fun e env' h' => Agr W e0 env' -> K e env' h') -> vops P l env h K := by
 intro l
 induction l with
 | nil => intro env h _ a x; exact x a
 | cons n l ih =>
  intro env h hw a x
  have hn := hw n List.mem_cons_self
  have hl : ∀ m ∈ l, ∀ i, m.d = some i -> i ∈ W := fun m hm => hw m (List.mem_cons_of_mem _ hm)
  have step : ∀ v h', vops P l (putE n.d v env) h' (fun e env' h' => Agr W e0 env' -> K e env' h') -> vops P l (putE n.d v env) h' K := fun v h' y => ih _ _ hl (a.put hn v) y
  simp only [vops] at x ⊢
  split at x
  ·exact xT step (fun c h' y => y a) x
  ·split at x
   ·rename_i hb; rw [if_pos hb]; exact xT step (fun c h' y => y a) x
   ·rename_i hb; rw [if_neg hb]; exact step _ _ x
theorem vdr_agr {P : Program} {W : List Nat} {e0 : List Value} {K : KK} : ∀ (l : List D) (env : List Value) (h hr : H), (∀ n ∈ l, ∀ i, n.n.d = some i -> i ∈ W) -> Agr W e0 env ->
  vdr P l env h hr (fun e env' h' => Agr W e0 env' -> K e env' h') -> vdr P l env h hr K := by
 intro l
 induction l with
 | nil => intro env h hr _ a x; exact x a
 | cons n l ih =>
  intro env h hr hw a x
  have hn := hw n List.mem_cons_self
  have hl : ∀ m ∈ l, ∀ i, m.n.d = some i -> i ∈ W := fun m hm => hw m (List.mem_cons_of_mem _ hm)
  have step : ∀ v h' hr', vdr P l (putE n.n.d v env) h' hr' (fun e env' h' => Agr W e0 env' -> K e env' h') -> vdr P l (putE n.n.d v env) h' hr' K := fun v h' hr' y => ih _ _ _ hl (a.put hn v) y
  simp only [vdr] at x ⊢
  split at x
  ·rename_i hw
   rw [if_pos hw]
   split at x
   ·exact qPS (fun v y => step _ _ _ y) x
   ·split at x
    ·obtain ⟨v, c, y⟩ := x; exact ⟨v, c, step _ _ _ y⟩
    ·obtain ⟨v, c, y⟩ := x; exact ⟨v, c, step _ _ _ y⟩
    ·exact x.elim
   ·exact xT (fun v h' y => ⟨y.1, step _ _ _ y.2⟩) (fun _ _ y => y) x
   ·exact xT (fun v h' y => ⟨y.1, step _ _ _ y.2⟩) (fun _ _ y => y) x
   ·exact xT (fun v h' y => step _ _ _ y) (fun _ _ y => y) x
  ·rename_i hw
   rw [if_neg hw]
   exact step _ _ _ x
theorem qZD {P : Program} {K K' : KK} (hk : ∀ e env h, K e env h -> K' e env h) : ∀ (l : List N) (env : List Value) (h : H), vops P l env h K -> vops P l env h K' := by
 intro l
 induction l with
 | nil => intro env h x; exact hk _ _ _ x
 | cons n l ih =>
  intro env h x
  simp only [vops] at x ⊢
  split at x
  ·exact xT (fun v h' y => ih _ _ y) (fun c h' y => hk _ _ _ y) x
  ·split at x
   ·rename_i hb; rw [if_pos hb]; exact xT (fun v h' y => ih _ _ y) (fun c h' y => hk _ _ _ y) x
   ·rename_i hb; rw [if_neg hb]; exact ih _ _ x
theorem zEP {P : Program} {K K' : KK} (hk : ∀ e env h, K e env h -> K' e env h) : ∀ (l : List D) (env : List Value) (h hr : H), vdr P l env h hr K -> vdr P l env h hr K' := by
 intro l
 induction l with
 | nil => intro env h hr x; exact hk _ _ _ x
 | cons n l ih =>
  intro env h hr x
  simp only [vdr] at x ⊢
  split at x
  ·rename_i hw
   rw [if_pos hw]
   split at x
   ·exact qPS (fun v y => ih _ _ _ y) x
   ·split at x
    ·obtain ⟨v, c, y⟩ := x; exact ⟨v, c, ih _ _ _ y⟩
    ·obtain ⟨v, c, y⟩ := x; exact ⟨v, c, ih _ _ _ y⟩
    ·exact x.elim
   ·exact xT (fun v h' y => ⟨y.1, ih _ _ _ y.2⟩) (fun _ _ y => y) x
   ·exact xT (fun v h' y => ⟨y.1, ih _ _ _ y.2⟩) (fun _ _ y => y) x
   ·exact xT (fun v h' y => ih _ _ _ y) (fun _ _ y => y) x
  ·rename_i hw
   rw [if_neg hw]
   exact ih _ _ _ x
theorem qDJ {P : Program} : ∀ (c : C) {K K' : KK} (hk : ∀ e env h, K e env h -> K' e env h) (env : List Value) (h : H), vc P c env h K -> vc P c env h K' := by
 intro c
 induction c with
 | ops l => intro K K' hk env h x; exact qZD hk l env h x
 | draw l => intro K K' hk env h x; obtain ⟨hr, s, x⟩ := x; exact ⟨hr, s, zEP hk l env h hr x⟩
 | seq a b iha ihb =>
  intro K K' hk env h x
  rw [qNH] at x ⊢
  refine iha ?_ env h x
  intro e env h y
  cases e <;> simp only [seqC] at y ⊢
  case normal => exact ihb hk env h y
  all_goals exact hk _ _ _ y
 | cut a b iha ihb =>
  intro K K' hk env h x
  rw [qTY] at x ⊢
  refine iha ?_ env h x
  intro e env h y
  cases e <;> simp only [cutC] at y ⊢
  case normal => obtain ⟨g, s, y⟩ := y; exact ⟨g, s, ihb hk env g y⟩
  all_goals exact hk _ _ _ y
 | cond o a b iha ihb =>
  intro K K' hk env h x
  rw [qNI] at x ⊢
  unfold qXJ at x ⊢
  split at x
  ·split at x
   ·rename_i hc; rw [if_pos hc]; exact iha hk env h x
   ·rename_i hc; rw [if_neg hc]; exact ihb hk env h x
  ·exact x.elim
 | block id c ih =>
  intro K K' hk env h x
  rw [qHV] at x ⊢
  refine ih ?_ env h x
  intro e env h y
  cases e <;> simp only [blkC] at y ⊢
  case exit id' =>
   split
   ·rename_i hc; rw [if_pos hc] at y; exact hk _ _ _ y
   ·rename_i hc; rw [if_neg hc] at y; exact hk _ _ _ y
  all_goals exact hk _ _ _ y
 | loop c ih =>
  intro K K' hk env h x
  obtain ⟨J, n, h0, hr⟩ := x
  refine ⟨J, n, h0, fun n env h j => ih ?_ env h (hr n env h j)⟩
  intro e env h y
  cases e <;> simp only [qMA] at y ⊢
  case normal => exact y
  all_goals exact hk _ _ _ y
 | exit id => intro K K' hk env h x; exact hk _ _ _ x
 | ret => intro K K' hk env h x; exact hk _ _ _ x
 | skip => intro K K' hk env h x; exact hk _ _ _ x
 | any l => intro K K' hk env h x; obtain ⟨mem, Q, rest, h1, h2, h3, h4⟩ := x; exact ⟨mem, Q, rest, h1, h2, h3, qZX (fun env h y => hk _ _ _ y) _ _ h4⟩
 | rng => intro K K' hk env h x; exact x.elim
 | raw c => intro K K' hk env h x; exact fun ds => HC.mono (x ds) fun e a h' ⟨env', e1, y⟩ => ⟨env', e1, hk _ _ _ y⟩
theorem vc_agr {P : Program} {W : List Nat} {e0 : List Value} : ∀ (c : C) {K : KK} (env : List Value) (h : H), wrOk c = true -> (∀ i ∈ wrs c, i ∈ W) -> Agr W e0 env ->
  vc P c env h (fun e env' h' => Agr W e0 env' -> K e env' h') -> vc P c env h K := by
 intro c
 induction c with
 | ops l =>
  intro K env h _ hw a x
  exact zDS l env h (fun n hn i hi => hw i (qXW hn i hi)) a x
 | draw l =>
  intro K env h _ hw a x
  obtain ⟨hr, s, x⟩ := x
  exact ⟨hr, s, vdr_agr l env h hr (fun n hn i hi => hw i (dds_mem hn i hi)) a x⟩
 | seq c1 c2 iha ihb =>
  intro K env h ho hw a x
  simp only [wrOk, Bool.and_eq_true] at ho
  simp only [wrs, List.mem_append] at hw
  rw [qNH] at x ⊢
  refine iha env h ho.1 (fun i hi => hw i (.inl hi)) a (qDJ _ ?_ env h x)
  intro e env h y a
  cases e <;> simp only [seqC] at y ⊢
  case normal => exact ihb env h ho.2 (fun i hi => hw i (.inr hi)) a y
  all_goals exact y a
 | cut c1 c2 iha ihb =>
  intro K env h ho hw a x
  simp only [wrOk, Bool.and_eq_true] at ho
  simp only [wrs, List.mem_append] at hw
  rw [qTY] at x ⊢
  refine iha env h ho.1 (fun i hi => hw i (.inl hi)) a (qDJ _ ?_ env h x)
  intro e env h y a
  cases e <;> simp only [cutC] at y ⊢
  case normal => obtain ⟨g, s, y⟩ := y; exact ⟨g, s, ihb env g ho.2 (fun i hi => hw i (.inr hi)) a y⟩
  all_goals exact y a
 | cond o c1 c2 iha ihb =>
  intro K env h ho hw a x
  simp only [wrOk, Bool.and_eq_true] at ho
  simp only [wrs, List.mem_append] at hw
  rw [qNI] at x ⊢
  unfold qXJ at x ⊢
  split at x
  ·split at x
   ·rename_i hc; rw [if_pos hc]; exact iha env h ho.1 (fun i hi => hw i (.inl hi)) a x
   ·rename_i hc; rw [if_neg hc]; exact ihb env h ho.2 (fun i hi => hw i (.inr hi)) a x
  ·exact x.elim
 | block id c ih =>
  intro K env h ho hw a x
  rw [qHV] at x ⊢
  refine ih env h ho hw a (qDJ _ ?_ env h x)
  intro e env h y a
  cases e <;> simp only [blkC] at y ⊢
  case exit id' =>
   split
   ·rename_i hc; rw [if_pos hc] at y; exact y a
   ·rename_i hc; rw [if_neg hc] at y; exact y a
  all_goals exact y a
 | loop c ih =>
  intro K env h ho hw a x
  obtain ⟨J, n, ⟨g0, sb0, h0⟩, hr⟩ := x
  refine ⟨fun n env h => J n env h /\ Agr W e0 env, n, ⟨g0, sb0, h0, a⟩, fun n env h j => ih env h ho hw j.2 (qDJ _ ?_ env h (hr n env h j.1))⟩
  intro e env h y a
  cases e <;> simp only [qMA] at y ⊢
  case normal => obtain ⟨m, hm, g, sb, hj⟩ := y; exact ⟨m, hm, g, sb, hj, a⟩
  all_goals exact y a
 | exit id => intro K env h _ _ a x; exact x a
 | ret => intro K env h _ _ a x; exact x a
 | skip => intro K env h _ _ a x; exact x a
 | any l =>
  intro K env h _ hw a x
  obtain ⟨mem, Q, rest, h1, h2, h3, h4⟩ := x
  refine ⟨mem, Q, rest, h1, h2, h3, qZY (l := l) ?_ l 0 ⟨[], rfl⟩ h4⟩
  intro f d v h hd y
  refine y (Agr.put (a.more (hav_agr env _ f) hw) (fun i hi => hw i (hd i hi)) v)
 | rng => intro K env h ho; cases ho
 | raw c => intro K env h ho; cases ho
def lpC (S : List Nat) (J : Nat -> List Value -> H -> Prop) (n : Nat) (K : KK) : KK
 | .normal, env, h => ∃ m, m < n /\ ∃ g, Sub g h /\ J m (S.map (env.getD · undef)) g
 | e, env, h => K e env h
theorem qVD (S : List Nat) (J : Nat -> List Value -> H -> Prop) (n : Nat) (K : KK) (env : List Value) (h : H) : lpC S J n K .normal env h = ∃ m, m < n /\ ∃ g, Sub g h /\ J m (S.map (env.getD · undef)) g := rfl
theorem zGV (S : List Nat) (J : Nat -> List Value -> H -> Prop) (n : Nat) (K : KK) (id : Nat) (env : List Value) (h : H) : lpC S J n K (.exit id) env h = K (.exit id) env h := rfl
theorem lpC_ret (S : List Nat) (J : Nat -> List Value -> H -> Prop) (n : Nat) (K : KK) (env : List Value) (h : H) : lpC S J n K .ret env h = K .ret env h := rfl
theorem zBI (S : List Nat) (J : Nat -> List Value -> H -> Prop) (n : Nat) (K : KK) (c : List PanicEntry) (env : List Value) (h : H) : lpC S J n K (.panic c) env h = K (.panic c) env h := rfl
theorem qDK {P : Program} {c : C} {env : List Value} {h g0 : H} {K : KK} (S : List Nat) (J : Nat -> List Value -> H -> Prop) (n : Nat) (hok : wrOk c = true) (sb0 : Sub g0 h) (h0 : J n (S.map (env.getD · undef)) g0)
  (hr : ∀ n (f : Nat -> Value) h, J n (S.map f) h -> vc P c (hav env (wrs c) f) h (lpC S J n K)) : vc P (.loop c) env h K := by
 refine ⟨fun n e h => Agr (wrs c) env e /\ J n (S.map (e.getD · undef)) h, n, ⟨g0, sb0, Agr.refl _ _, h0⟩, ?_⟩
 rintro n e h ⟨a, j⟩
 have x := hr n (fun i => e.getD i undef) h j
 rw [<- a.hav] at x
 refine vc_agr c e h hok (fun i hi => hi) a (qDJ c ?_ e h x)
 intro ex env' h' y a'
 cases ex <;> simp only [lpC] at y <;> simp only [qMA]
 case normal => obtain ⟨m, hm, g, sb, hj⟩ := y; exact ⟨m, hm, g, sb, a', hj⟩
 all_goals exact y
theorem qP {P : Program} {c : C} {env : List Value} {h : H} {K : KK} (S : List Nat) (J : Nat -> List Value -> H -> Prop) (n : Nat) (hok : wrOk c = true) (h0 : J n (S.map (env.getD · undef)) h)
  (hr : ∀ n (f : Nat -> Value) h, J n (S.map f) h -> vc P c (hav env (wrs c) f) h (lpC S J n K)) : vc P (.loop c) env h K := qDK S J n hok (.refl h) h0 hr
def cutK (S : List Nat) (J : List Value -> H -> Prop) (K : KK) : KK
 | .normal, env, h => ∃ g, Sub g h /\ J (S.map (env.getD · undef)) g
 | e, env, h => K e env h
theorem cuts : (∀ S J K env h, cutK S J K .normal env h = ∃ g, Sub g h /\ J (S.map (env.getD · undef)) g) /\ (∀ S J K i env h, cutK S J K (.exit i) env h = K (.exit i) env h) /\ (∀ S J K env h, cutK S J K .ret env h = K .ret env h) /\
  (∀ S J K c env h, cutK S J K (.panic c) env h = K (.panic c) env h) /\ (∀ a b, wrs (.cut a b) = wrs a ++ wrs b) := ⟨fun _ _ _ _ _ => rfl, fun _ _ _ _ _ _ => rfl, fun _ _ _ _ _ => rfl, fun _ _ _ _ _ _ => rfl, fun _ _ => rfl⟩
def str (l : List UInt8) : Value := .string ⟨l.toArray⟩
theorem zEQ (P : Program) (c : C) (env env' : List Value) (h h' : H) (K : KK) (e1 : env = env') (e2 : h = h') : vc P c env h K = vc P c env' h' K := by rw [e1, e2]
theorem qTS (P : Program) (l : List N) (env env' : List Value) (h h' : H) (K : KK) (e1 : env = env') (e2 : h = h') : vops P l env h K = vops P l env' h' K := by rw [e1, e2]
theorem qZU (P : Program) (l : List D) (env env' : List Value) (h h' hr hr' : H) (K : KK) (e1 : env = env') (e2 : h = h') (e3 : hr = hr') : vdr P l env h hr K = vdr P l env' h' hr' K := by rw [e1, e2, e3]
theorem qPM (P : Program) (f : FuncId) (a a' : Array Value) (h h' : H) (R : Ending -> H -> Prop) (e1 : a = a') (e2 : h = h') : HCalls P f a h R = HCalls P f a' h' R := by rw [e1, e2]
def vgd (P : Program) (v : Value) (t : Nat) (w : Bool) (d : Option Nat) (i : I) (r : List N) (env : List Value) (h : H) (K : KK) : Prop :=
 match v with
 | .bool b => if b = true then (if w then vop P (evl (env.set t (.bool true))) h (cont P r d (env.set t (.bool true)) K) (panK (env.set t (.bool true)) K) i else vops P r (putE d undef (env.set t (.bool true))) h K)
  else (if w then vops P r (putE d undef (env.set t (.bool false))) h K else vop P (evl (env.set t (.bool false))) h (cont P r d (env.set t (.bool false)) K) (panK (env.set t (.bool false)) K) i)
 | _ => vops P r (putE d undef env) h K
theorem qII {env : List Value} {t : Nat} {b : Bool} (e : env.getD t undef = .bool b) : env.set t (.bool b) = env := by
 apply List.ext_getElem?
 intro j
 by_cases hj : t = j
 ·subst hj
  rw [List.getD_eq_getElem?_getD] at e
  cases hx : env[t]? with
  | none => rw [hx] at e; cases e
  | some v =>
   rw [hx] at e
   simp only [Option.getD_some] at e
   subst e
   have := (List.getElem?_eq_some_iff.1 hx).1
   simp [this]
 ·rw [List.getElem?_set_ne hj]
theorem qHS (P : Program) (d : Option Nat) (t : Nat) (w : Bool) (i : I) (r : List N) (env : List Value) (h : H) (K : KK) (v : Value) (e : env.getD t undef = v) :
  (if isB v w = true then vop P (evl env) h (cont P r d env K) (panK env K) i else vops P r (putE d undef env) h K) = vgd P v t w d i r env h K := by
 unfold vgd
 cases v <;> simp only [isB, Bool.false_eq_true, if_false]
 rename_i b
 cases b <;> cases w <;> simp only [Bool.false_eq_true, if_false, if_true, beq_self_eq_true, qII e] <;> rfl
theorem qTR (P : Program) (d : Option Nat) (t : Nat) (w : Bool) (i : I) (r : List N) (env : List Value) (h : H) (K : KK) :
  vops P (⟨d, some (t, w), i⟩ :: r) env h K = vgd P (env.getD t undef) t w d i r env h K :=
 qHS P d t w i r env h K _ rfl
theorem vgd_t (P : Program) (b : Bool) (t : Nat) (d : Option Nat) (i : I) (r : List N) (env : List Value) (h : H) (K : KK) :
  vgd P (.bool b) t true d i r env h K = if b = true then vop P (evl (env.set t (.bool true))) h (cont P r d (env.set t (.bool true)) K) (panK (env.set t (.bool true)) K) i else vops P r (putE d undef (env.set t (.bool false))) h K := rfl
theorem vgd_f (P : Program) (b : Bool) (t : Nat) (d : Option Nat) (i : I) (r : List N) (env : List Value) (h : H) (K : KK) :
  vgd P (.bool b) t false d i r env h K = if b = true then vops P r (putE d undef (env.set t (.bool true))) h K else vop P (evl (env.set t (.bool false))) h (cont P r d (env.set t (.bool false)) K) (panK (env.set t (.bool false)) K) i := rfl
theorem qZN (P : Program) (t : Nat) (w : Bool) (d : Option Nat) (i : I) (r : List N) (env : List Value) (h : H) (K : KK) :
  vgd P undef t w d i r env h K = vops P r (putE d undef env) h K := rfl
def qCP (P : Program) (r : List D) (d : Option Nat) (env : List Value) (h hr : H) (K : KK) : Value -> Prop := fun v => vdr P r (putE d v env) h hr K
def qKB (P : Program) (r : List D) (d : Option Nat) (env : List Value) (hr : H) (K : KK) : Value -> H -> Prop := fun v h' => Sub hr h' /\ vdr P r (putE d v env) h' hr K
def qIS (P : Program) (r : List D) (d : Option Nat) (env : List Value) (hr : H) (K : KK) : Value -> H -> Prop := fun v h' => Sub hr h' /\ vdr P r (putE d v env) h' h' K
def qIA (P : Program) (r : List D) (d : Option Nat) (env : List Value) (hr : H) (K : KK) : Value -> H -> Prop := fun v h' => vdr P r (putE d v env) h' hr K
def noX : List PanicEntry -> H -> Prop := fun _ _ => False
def qLX (P : Program) (f : FuncId) (args : Array Value) (hr : H) (K : Value -> Prop) : Prop := ∃ v, (∀ R : Ending -> H -> Prop, R (.returned v) hr -> HCalls P f args hr R) /\ K v
theorem uN {P : Program} {f : FuncId} {args : Array Value} {hr : H} {K : Value -> Prop} (v : Value) (c : ∀ R : Ending -> H -> Prop, R (.returned v) hr -> HCalls P f args hr R) (k : K v) : qLX P f args hr K := ⟨v, c, k⟩
def praw (P : Program) (op : Op) (ty : TypeId) (ρ : Operand -> Value) (hr : H) (K : Value -> Prop) : Prop := ∃ v, (∀ (K' : Value -> H -> Prop) (X' : List PanicEntry -> H -> Prop), K' v hr -> vop P ρ hr K' X' (.raw op ty)) /\ K v
theorem qCW {P : Program} {op : Op} {ty : TypeId} {ρ : Operand -> Value} {hr : H} {K : Value -> Prop} (v : Value) (c : ∀ (K' : Value -> H -> Prop) (X' : List PanicEntry -> H -> Prop), K' v hr -> vop P ρ hr K' X' (.raw op ty)) (k : K v) : praw P op ty ρ hr K := ⟨v, c, k⟩
theorem qQP (P : Program) (f : FuncId) (a a' : Array Value) (h h' : H) (K : Value -> Prop) (e1 : a = a') (e2 : h = h') : qLX P f a h K = qLX P f a' h' K := by rw [e1, e2]
theorem qWC (P : Program) (r : List D) (d : Nat) (env : List Value) (h hr : H) (K : KK) (v : Value) : qCP P r (some d) env h hr K v = vdr P r (env.set d v) h hr K := rfl
theorem qWW (P : Program) (r : List D) (d : Nat) (env : List Value) (hr : H) (K : KK) (v : Value) (h : H) : qKB P r (some d) env hr K v h = (Sub hr h /\ vdr P r (env.set d v) h hr K) := rfl
theorem qWX (P : Program) (r : List D) (env : List Value) (hr : H) (K : KK) (v : Value) (h : H) : qKB P r none env hr K v h = (Sub hr h /\ vdr P r env h hr K) := rfl
theorem qVA (P : Program) (r : List D) (d : Nat) (env : List Value) (hr : H) (K : KK) (v : Value) (h : H) : qIS P r (some d) env hr K v h = (Sub hr h /\ vdr P r (env.set d v) h h K) := rfl
theorem qVB (P : Program) (r : List D) (env : List Value) (hr : H) (K : KK) (v : Value) (h : H) : qIS P r none env hr K v h = (Sub hr h /\ vdr P r env h h K) := rfl
theorem qUE (P : Program) (r : List D) (d : Nat) (env : List Value) (hr : H) (K : KK) (v : Value) (h : H) : qIA P r (some d) env hr K v h = vdr P r (env.set d v) h hr K := rfl
theorem qUF (P : Program) (r : List D) (env : List Value) (hr : H) (K : KK) (v : Value) (h : H) : qIA P r none env hr K v h = vdr P r env h hr K := rfl
def vdo (P : Program) (k : Nat) (d : Option Nat) (i : I) (r : List D) (env : List Value) (h hr : H) (K : KK) : Prop :=
 match k with
 | 0 => vfl (evl env) hr (qCP P r d env h hr K) i
 | 1 => (match i with
  | .call f args => qLX P f (args.map (evl env)).toArray hr (qCP P r d env h hr K)
  | .raw op ty => praw P op ty (evl env) hr (qCP P r d env h hr K)
  | _ => False)
 | 2 => vop P (evl env) h (qKB P r d env hr K) noX i
 | 4 => vop P (evl env) h (qIS P r d env hr K) noX i
 | _ => vop P (evl env) h (qIA P r d env hr K) noX i
theorem vdo_0 (P : Program) (d : Option Nat) (i : I) (r : List D) (env : List Value) (h hr : H) (K : KK) : vdo P 0 d i r env h hr K = vfl (evl env) hr (qCP P r d env h hr K) i := rfl
theorem vdo_1 (P : Program) (d : Option Nat) (f : FuncId) (args : List Operand) (r : List D) (env : List Value) (h hr : H) (K : KK) : vdo P 1 d (.call f args) r env h hr K = qLX P f (args.map (evl env)).toArray hr (qCP P r d env h hr K) := rfl
theorem qFG (P : Program) (d : Option Nat) (op : Op) (ty : TypeId) (r : List D) (env : List Value) (h hr : H) (K : KK) : vdo P 1 d (.raw op ty) r env h hr K = praw P op ty (evl env) hr (qCP P r d env h hr K) := rfl
theorem vdo_2 (P : Program) (d : Option Nat) (i : I) (r : List D) (env : List Value) (h hr : H) (K : KK) : vdo P 2 d i r env h hr K = vop P (evl env) h (qKB P r d env hr K) noX i := rfl
theorem vdo_3 (P : Program) (d : Option Nat) (i : I) (r : List D) (env : List Value) (h hr : H) (K : KK) : vdo P 3 d i r env h hr K = vop P (evl env) h (qIA P r d env hr K) noX i := rfl
theorem vdo_4 (P : Program) (d : Option Nat) (i : I) (r : List D) (env : List Value) (h hr : H) (K : KK) : vdo P 4 d i r env h hr K = vop P (evl env) h (qIS P r d env hr K) noX i := rfl
theorem vdr_nil (P : Program) (env : List Value) (h hr : H) (K : KK) : vdr P [] env h hr K = K .normal env h := rfl
theorem qXI (P : Program) (k : Nat) (d : Option Nat) (i : I) (r : List D) (env : List Value) (h hr : H) (K : KK) (g : Option (Nat × Bool)) : vdr P (⟨k, ⟨d, g, i⟩⟩ :: r) env h hr K = if qDI env g = true then vdo P k d i r env h hr K else vdr P r (putE d undef env) h hr K := by
 simp only [vdr, vdo]
 rfl
theorem qZS (P : Program) (k : Nat) (d : Option Nat) (i : I) (r : List D) (env : List Value) (h hr : H) (K : KK) : vdr P (⟨k, ⟨d, none, i⟩⟩ :: r) env h hr K = vdo P k d i r env h hr K := by
 rw [qXI]; rfl
def vgr (P : Program) (v : Value) (t : Nat) (w : Bool) (k : Nat) (d : Option Nat) (i : I) (r : List D) (env : List Value) (h hr : H) (K : KK) : Prop :=
 match v with
 | .bool b => if b = true then (if w then vdo P k d i r (env.set t (.bool true)) h hr K else vdr P r (putE d undef (env.set t (.bool true))) h hr K)
  else (if w then vdr P r (putE d undef (env.set t (.bool false))) h hr K else vdo P k d i r (env.set t (.bool false)) h hr K)
 | _ => vdr P r (putE d undef env) h hr K
theorem qKI (P : Program) (k : Nat) (d : Option Nat) (t : Nat) (w : Bool) (i : I) (r : List D) (env : List Value) (h hr : H) (K : KK) (v : Value) (e : env.getD t undef = v) :
  (if isB v w = true then vdo P k d i r env h hr K else vdr P r (putE d undef env) h hr K) = vgr P v t w k d i r env h hr K := by
 unfold vgr
 cases v <;> simp only [isB, Bool.false_eq_true, if_false]
 rename_i b
 cases b <;> cases w <;> simp only [Bool.false_eq_true, if_false, if_true, beq_self_eq_true, qII e] <;> rfl
theorem qZT (P : Program) (k : Nat) (d : Option Nat) (t : Nat) (w : Bool) (i : I) (r : List D) (env : List Value) (h hr : H) (K : KK) :
  vdr P (⟨k, ⟨d, some (t, w), i⟩⟩ :: r) env h hr K = vgr P (env.getD t undef) t w k d i r env h hr K := by
 rw [qXI]
 exact qKI P k d t w i r env h hr K _ rfl
theorem vgr_t (P : Program) (b : Bool) (t k : Nat) (d : Option Nat) (i : I) (r : List D) (env : List Value) (h hr : H) (K : KK) :
  vgr P (.bool b) t true k d i r env h hr K = if b = true then vdo P k d i r (env.set t (.bool true)) h hr K else vdr P r (putE d undef (env.set t (.bool false))) h hr K := rfl
theorem vgr_f (P : Program) (b : Bool) (t k : Nat) (d : Option Nat) (i : I) (r : List D) (env : List Value) (h hr : H) (K : KK) :
  vgr P (.bool b) t false k d i r env h hr K = if b = true then vdr P r (putE d undef (env.set t (.bool true))) h hr K else vdo P k d i r (env.set t (.bool false)) h hr K := rfl
theorem qZL (P : Program) (t : Nat) (w : Bool) (k : Nat) (d : Option Nat) (i : I) (r : List D) (env : List Value) (h hr : H) (K : KK) : vgr P undef t w k d i r env h hr K = vdr P r (putE d undef env) h hr K := rfl
theorem zC {P : Program} {l : List D} {env : List Value} {h : H} {K : KK} (hr : H) (s : Sub hr h) (x : vdr P l env h hr K) : vc P (.draw l) env h K := ⟨hr, s, x⟩
def vif (P : Program) (v : Value) (t : Nat) (a b : C) (env : List Value) (h : H) (K : KK) : Prop :=
 match v with
 | .bool c => if c = true then vc P a (env.set t (.bool true)) h K else vc P b (env.set t (.bool false)) h K
 | _ => False
theorem vc_if (P : Program) (t : Nat) (a b : C) (env : List Value) (h : H) (K : KK) : vc P (.cond (.tmp t) a b) env h K = vif P (env.getD t undef) t a b env h K := by
 rw [qNI]
 unfold qXJ vif
 simp only [evl]
 cases e : env.getD t undef <;> simp only
 rename_i c
 cases c <;> simp [qII e]
theorem zED (P : Program) (c : Bool) (t : Nat) (a b : C) (env : List Value) (h : H) (K : KK) : vif P (.bool c) t a b env h K = if c = true then vc P a (env.set t (.bool true)) h K else vc P b (env.set t (.bool false)) h K := rfl
theorem qZO (P : Program) (v v' : Value) (t : Nat) (w : Bool) (d : Option Nat) (i : I) (r : List N) (env : List Value) (h : H) (K : KK) (e : v = v') : vgd P v t w d i r env h K = vgd P v' t w d i r env h K := by rw [e]
theorem qZM (P : Program) (v v' : Value) (t : Nat) (w : Bool) (k : Nat) (d : Option Nat) (i : I) (r : List D) (env : List Value) (h hr : H) (K : KK) (e : v = v') : vgr P v t w k d i r env h hr K = vgr P v' t w k d i r env h hr K := by rw [e]
theorem qZK (P : Program) (v v' : Value) (t : Nat) (a b : C) (env : List Value) (h : H) (K : KK) (e : v = v') : vif P v t a b env h K = vif P v' t a b env h K := by rw [e]
attribute [congr] zEQ qTS qZU qPM qQP qZO qZM qZK
theorem evl_tmp (env : List Value) (t : Nat) : evl env (.tmp t) = env.getD t undef := rfl
theorem zCF (env : List Value) (v : Value) : evl env (.const v) = v := rfl
theorem zIA (env : List Value) (f : FuncId) : evl env (.func f) = .func (.func f) #[] #[] := rfl
theorem zFY (K : Value -> H -> Prop) (X : List PanicEntry -> H -> Prop) (v : Value) (h : H) : retK K X (.returned v) h = K v h := rfl
theorem zFZ (K : Value -> H -> Prop) (X : List PanicEntry -> H -> Prop) (c : List PanicEntry) (h : H) : retK K X (.panicked c) h = X c h := rfl
theorem zJR (h : H) : Sub h h = True := eq_true (Sub.refl h)
theorem qFC {h : H} {j : Nat} {o : Obj} (hj : hget h j = none) : Sub h ((j, o) :: h) = True := eq_true (Sub.cons hj (Sub.refl h))
theorem wr : (∀ l, wrs (.any l) = nds (l.map (·.1))) /\ (∀ l, wrs (.ops l) = nds l) /\ (∀ l, wrs (.draw l) = dds l) /\ (∀ a b, wrs (.seq a b) = wrs a ++ wrs b) /\ (∀ x a b, wrs (.cond x a b) = wrs a ++ wrs b) /\ (∀ i c, wrs (.block i c) = wrs c) /\ (∀ c, wrs (.loop c) = wrs c) /\
  (∀ i, wrs (.exit i) = []) /\ (wrs .ret = []) /\ (wrs .skip = []) /\ (nds [] = []) /\ (∀ d g i l, nds (⟨some d, g, i⟩ :: l) = d :: nds l) /\ (∀ g i l, nds (⟨none, g, i⟩ :: l) = nds l) /\
  (dds [] = []) /\ (∀ k d g i l, dds (⟨k, ⟨some d, g, i⟩⟩ :: l) = d :: dds l) /\ (∀ k g i l, dds (⟨k, ⟨none, g, i⟩⟩ :: l) = dds l) /\ (∀ (env : List Value) f, hav env [] f = env) /\ (∀ (env : List Value) i W f, hav env (i :: W) f = hav (env.set i (f i)) W f) :=
 ⟨fun _ => rfl, fun _ => rfl, fun _ => rfl, fun _ _ => rfl, fun _ _ _ => rfl, fun _ _ => rfl, fun _ => rfl, fun _ => rfl, rfl, rfl, rfl, fun _ _ _ _ => rfl, fun _ _ _ => rfl, rfl, fun _ _ _ _ _ => rfl, fun _ _ _ _ => rfl, fun _ _ => rfl, fun _ _ _ _ => rfl⟩
theorem vc_any {P : Program} {l : List (N × List Nat)} {env : List Value} {h : H} {K : KK} (mem : Nat -> H -> H -> Prop) (Q : List (H -> Value -> Prop)) (rest : H) (hm : ∀ q ∈ Q, ∀ g g' v, Sub g g' -> q g v -> q g' v) (h0 : mem l.length h rest)
  (hd : (nds (l.map (·.1))).all (fun d => decide (d < env.length)) = true) (hv : vany P mem Q rest (nds (l.map (·.1))) env (K .normal) 0 l) : vc P (.any l) env h K := ⟨mem, Q, rest, hm, h0, hd, hv⟩
def stA (P : Program) (mem : Nat -> H -> H -> Prop) (q : H -> Value -> Prop) (rest : H) (ρ : (Nat -> Value) -> Operand -> Value) (D : H -> (Nat -> Value) -> Prop) (i : I) : Prop :=
 ∀ m f h g, mem (m + 1) h g -> Sub rest g -> D g f -> vop P (ρ f) h (fun v h' => ∃ g', mem m h' g' /\ Sub g g' /\ q g' v) (fun _ _ => False) i
def stZ (P : Program) (mem : Nat -> H -> H -> Prop) (rest : H) (ρ : (Nat -> Value) -> Operand -> Value) (D : H -> (Nat -> Value) -> Prop) (K : (Nat -> Value) -> Value -> H -> Prop) (i : I) : Prop :=
 ∀ m f h g, mem (m + 1) h g -> Sub rest g -> D g f -> ∃ g0, Sub g0 h /\ vop P (ρ f) g0 (fun v h' => K f v h') (fun _ _ => False) i
def qLK (ρ : Operand -> Value) : Option (Nat × Bool) -> Bool
 | none => true
 | some (t, w) => isB (ρ (.tmp t)) w
def stG (P : Program) (mem : Nat -> H -> H -> Prop) (q : H -> Value -> Prop) (rest : H) (ρ : (Nat -> Value) -> Operand -> Value) (D : H -> (Nat -> Value) -> Prop) (gd : Option (Nat × Bool)) (i : I) : Prop :=
 ∀ m f h g, mem (m + 1) h g -> Sub rest g -> D g f -> if qLK (ρ f) gd = true then vop P (ρ f) h (fun v h' => ∃ g', mem m h' g' /\ Sub g g' /\ q g' v) (fun _ _ => False) i else ∃ g', mem m h g' /\ Sub g g' /\ q g' undef
theorem qZC (env : List Value) (g : Option (Nat × Bool)) : qLK (evl env) g = qDI env g := by
 cases g with
 | none => rfl
 | some x => rfl
end Go.Tk
end

section
namespace Go.Tk
open Go
theorem walk :
  (∀ (P : Program) (l : List N) (env : List Value) (h : H) (K : KK), vc P (.ops l) env h K = vops P l env h K) /\
  (∀ (P : Program) (a b : C) (env : List Value) (h : H) (K : KK), vc P (.seq a b) env h K = vc P a env h (seqC P b K)) /\
  (∀ (P : Program) (id : Nat) (c : C) (env : List Value) (h : H) (K : KK), vc P (.block id c) env h K = vc P c env h (blkC id K)) /\
  (∀ (P : Program) (id : Nat) (env : List Value) (h : H) (K : KK), vc P (.exit id) env h K = K (.exit id) env h) /\
  (∀ (P : Program) (env : List Value) (h : H) (K : KK), vc P .ret env h K = K .ret env h) /\
  (∀ (P : Program) (env : List Value) (h : H) (K : KK), vc P .skip env h K = K .normal env h) /\
  (∀ (P : Program) (t : Nat) (a b : C) (env : List Value) (h : H) (K : KK), vc P (.cond (.tmp t) a b) env h K = vif P (env.getD t undef) t a b env h K) /\
  (∀ (P : Program) (c : Bool) (t : Nat) (a b : C) (env : List Value) (h : H) (K : KK), vif P (.bool c) t a b env h K = if c = true then vc P a (env.set t (.bool true)) h K else vc P b (env.set t (.bool false)) h K) /\
  (∀ (P : Program) (b : C) (K : KK) (env : List Value) (h : H), seqC P b K .normal env h = vc P b env h K) /\
  (∀ (P : Program) (b : C) (K : KK) (id : Nat) (env : List Value) (h : H), seqC P b K (.exit id) env h = K (.exit id) env h) /\
  (∀ (P : Program) (b : C) (K : KK) (env : List Value) (h : H), seqC P b K .ret env h = K .ret env h) /\
  (∀ (P : Program) (b : C) (K : KK) (c : List PanicEntry) (env : List Value) (h : H), seqC P b K (.panic c) env h = K (.panic c) env h) /\
  (∀ (id : Nat) (K : KK) (env : List Value) (h : H), blkC id K .normal env h = K .normal env h) /\
  (∀ (id id' : Nat) (K : KK) (env : List Value) (h : H), blkC id K (.exit id') env h = if id' = id then K .normal env h else K (.exit id') env h) /\
  (∀ (id : Nat) (K : KK) (env : List Value) (h : H), blkC id K .ret env h = K .ret env h) /\
  (∀ (id : Nat) (K : KK) (c : List PanicEntry) (env : List Value) (h : H), blkC id K (.panic c) env h = K (.panic c) env h) /\
  (∀ (S : List Nat) (J : Nat -> List Value -> H -> Prop) (n : Nat) (K : KK) (env : List Value) (h : H), lpC S J n K .normal env h = ∃ m, m < n /\ ∃ g, Sub g h /\ J m (S.map (env.getD · undef)) g) /\
  (∀ (S : List Nat) (J : Nat -> List Value -> H -> Prop) (n : Nat) (K : KK) (id : Nat) (env : List Value) (h : H), lpC S J n K (.exit id) env h = K (.exit id) env h) /\
  (∀ (S : List Nat) (J : Nat -> List Value -> H -> Prop) (n : Nat) (K : KK) (env : List Value) (h : H), lpC S J n K .ret env h = K .ret env h) /\
  (∀ (S : List Nat) (J : Nat -> List Value -> H -> Prop) (n : Nat) (K : KK) (c : List PanicEntry) (env : List Value) (h : H), lpC S J n K (.panic c) env h = K (.panic c) env h) /\
  (∀ (P : Program) (env : List Value) (h : H) (K : KK), vops P [] env h K = K .normal env h) /\
  (∀ (P : Program) (d : Option Nat) (i : I) (r : List N) (env : List Value) (h : H) (K : KK), vops P (⟨d, none, i⟩ :: r) env h K = vop P (evl env) h (cont P r d env K) (panK env K) i) /\
  (∀ (P : Program) (d : Option Nat) (t : Nat) (w : Bool) (i : I) (r : List N) (env : List Value) (h : H) (K : KK), vops P (⟨d, some (t, w), i⟩ :: r) env h K = vgd P (env.getD t undef) t w d i r env h K) /\
  (∀ (P : Program) (b : Bool) (t : Nat) (d : Option Nat) (i : I) (r : List N) (env : List Value) (h : H) (K : KK), vgd P (.bool b) t true d i r env h K = if b = true then vop P (evl (env.set t (.bool true))) h (cont P r d (env.set t (.bool true)) K) (panK (env.set t (.bool true)) K) i else vops P r (putE d undef (env.set t (.bool false))) h K) /\
  (∀ (P : Program) (b : Bool) (t : Nat) (d : Option Nat) (i : I) (r : List N) (env : List Value) (h : H) (K : KK), vgd P (.bool b) t false d i r env h K = if b = true then vops P r (putE d undef (env.set t (.bool true))) h K else vop P (evl (env.set t (.bool false))) h (cont P r d (env.set t (.bool false)) K) (panK (env.set t (.bool false)) K) i) /\
  (∀ (P : Program) (t : Nat) (w : Bool) (d : Option Nat) (i : I) (r : List N) (env : List Value) (h : H) (K : KK), vgd P undef t w d i r env h K = vops P r (putE d undef env) h K) /\
  (∀ (P : Program) (r : List N) (d : Nat) (env : List Value) (K : KK) (v : Value) (h : H), cont P r (some d) env K v h = vops P r (env.set d v) h K) /\
  (∀ (P : Program) (r : List N) (env : List Value) (K : KK) (v : Value) (h : H), cont P r none env K v h = vops P r env h K) /\
  (∀ (env : List Value) (K : KK) (c : List PanicEntry) (h : H), panK env K c h = K (.panic c) env h) /\
  (∀ (d : Nat) (v : Value) (env : List Value), putE (some d) v env = env.set d v) /\
  (∀ (v : Value) (env : List Value), putE none v env = env) /\
  (∀ (P : Program) (env : List Value) (h hr : H) (K : KK), vdr P [] env h hr K = K .normal env h) /\
  (∀ (P : Program) (k : Nat) (d : Option Nat) (i : I) (r : List D) (env : List Value) (h hr : H) (K : KK), vdr P (⟨k, ⟨d, none, i⟩⟩ :: r) env h hr K = vdo P k d i r env h hr K) /\
  (∀ (P : Program) (k : Nat) (d : Option Nat) (t : Nat) (w : Bool) (i : I) (r : List D) (env : List Value) (h hr : H) (K : KK), vdr P (⟨k, ⟨d, some (t, w), i⟩⟩ :: r) env h hr K = vgr P (env.getD t undef) t w k d i r env h hr K) /\
  (∀ (P : Program) (b : Bool) (t k : Nat) (d : Option Nat) (i : I) (r : List D) (env : List Value) (h hr : H) (K : KK), vgr P (.bool b) t true k d i r env h hr K = if b = true then vdo P k d i r (env.set t (.bool true)) h hr K else vdr P r (putE d undef (env.set t (.bool false))) h hr K) /\
  (∀ (P : Program) (b : Bool) (t k : Nat) (d : Option Nat) (i : I) (r : List D) (env : List Value) (h hr : H) (K : KK), vgr P (.bool b) t false k d i r env h hr K = if b = true then vdr P r (putE d undef (env.set t (.bool true))) h hr K else vdo P k d i r (env.set t (.bool false)) h hr K) /\
  (∀ (P : Program) (t : Nat) (w : Bool) (k : Nat) (d : Option Nat) (i : I) (r : List D) (env : List Value) (h hr : H) (K : KK), vgr P undef t w k d i r env h hr K = vdr P r (putE d undef env) h hr K) /\
  (∀ (P : Program) (d : Option Nat) (i : I) (r : List D) (env : List Value) (h hr : H) (K : KK), vdo P 0 d i r env h hr K = vfl (evl env) hr (qCP P r d env h hr K) i) /\
  (∀ (P : Program) (d : Option Nat) (f : FuncId) (args : List Operand) (r : List D) (env : List Value) (h hr : H) (K : KK), vdo P 1 d (.call f args) r env h hr K = qLX P f (args.map (evl env)).toArray hr (qCP P r d env h hr K)) /\
  (∀ (P : Program) (d : Option Nat) (i : I) (r : List D) (env : List Value) (h hr : H) (K : KK), vdo P 2 d i r env h hr K = vop P (evl env) h (qKB P r d env hr K) noX i) /\
  (∀ (P : Program) (d : Option Nat) (i : I) (r : List D) (env : List Value) (h hr : H) (K : KK), vdo P 3 d i r env h hr K = vop P (evl env) h (qIA P r d env hr K) noX i) /\
  (∀ (P : Program) (d : Option Nat) (i : I) (r : List D) (env : List Value) (h hr : H) (K : KK), vdo P 4 d i r env h hr K = vop P (evl env) h (qIS P r d env hr K) noX i) /\
  (∀ (P : Program) (r : List D) (d : Nat) (env : List Value) (h hr : H) (K : KK) (v : Value), qCP P r (some d) env h hr K v = vdr P r (env.set d v) h hr K) /\
  (∀ (P : Program) (r : List D) (d : Nat) (env : List Value) (hr : H) (K : KK) (v : Value) (h : H), qKB P r (some d) env hr K v h = (Sub hr h /\ vdr P r (env.set d v) h hr K)) /\
  (∀ (P : Program) (r : List D) (env : List Value) (hr : H) (K : KK) (v : Value) (h : H), qKB P r none env hr K v h = (Sub hr h /\ vdr P r env h hr K)) /\
  (∀ (P : Program) (r : List D) (d : Nat) (env : List Value) (hr : H) (K : KK) (v : Value) (h : H), qIS P r (some d) env hr K v h = (Sub hr h /\ vdr P r (env.set d v) h h K)) /\
  (∀ (P : Program) (r : List D) (env : List Value) (hr : H) (K : KK) (v : Value) (h : H), qIS P r none env hr K v h = (Sub hr h /\ vdr P r env h h K)) /\
  (∀ (P : Program) (r : List D) (d : Nat) (env : List Value) (hr : H) (K : KK) (v : Value) (h : H), qIA P r (some d) env hr K v h = vdr P r (env.set d v) h hr K) /\
  (∀ (P : Program) (r : List D) (env : List Value) (hr : H) (K : KK) (v : Value) (h : H), qIA P r none env hr K v h = vdr P r env h hr K) /\
  (∀ (rs : List RV) (R : Ending -> H -> Prop) (env : List Value) (h : H), qAW rs R .normal env h = endV R h (resL env h rs)) /\
  (∀ (rs : List RV) (R : Ending -> H -> Prop) (env : List Value) (h : H), qAW rs R .ret env h = endV R h (resL env h rs)) /\
  (∀ (rs : List RV) (R : Ending -> H -> Prop) (c : List PanicEntry) (env : List Value) (h : H), qAW rs R (.panic c) env h = R (.panicked c) h) /\
  (∀ (R : Ending -> H -> Prop) (h : H), endV R h (some []) = R (.returned (.tuple #[])) h) /\
  (∀ (R : Ending -> H -> Prop) (h : H) (v : Value), endV R h (some [v]) = R (.returned v) h) /\
  (∀ (R : Ending -> H -> Prop) (h : H) (v u : Value), endV R h (some [v, u]) = R (.returned (.tuple #[v, u])) h) /\
  (∀ (R : Ending -> H -> Prop) (h : H) (v u x : Value), endV R h (some [v, u, x]) = R (.returned (.tuple #[v, u, x])) h) /\
  (∀ (env : List Value) (t : Nat), evl env (.tmp t) = env.getD t undef) /\
  (∀ (env : List Value) (v : Value), evl env (.const v) = v) /\
  (∀ (env : List Value) (f : FuncId), evl env (.func f) = .func (.func f) #[] #[]) /\
  (∀ (K : Value -> H -> Prop) (X : List PanicEntry -> H -> Prop) (v : Value) (h : H), retK K X (.returned v) h = K v h) /\
  (∀ (K : Value -> H -> Prop) (X : List PanicEntry -> H -> Prop) (c : List PanicEntry) (h : H), retK K X (.panicked c) h = X c h) /\
  (∀ (h : H), Sub h h = True) /\
  (∀ (env : List Value) (f : Nat -> Value), hav env [] f = env) /\
  (∀ (env : List Value) (i : Nat) (W : List Nat) (f : Nat -> Value), hav env (i :: W) f = hav (env.set i (f i)) W f) :=
 ⟨vc_ops, qNH, qHV, vc_exit, vc_ret, vc_skip, vc_if, zED, qQL, zAU, zFU, qUP, qTC, zCX, zJE, qWT, qVD, zGV, lpC_ret, zBI, zDR, qZE, qTR, vgd_t, vgd_f, qZN, zIY, zCR, zGH, zAY, zAZ, vdr_nil, qZS, qZT, vgr_t, vgr_f, qZL, vdo_0, vdo_1, vdo_2, vdo_3, vdo_4, qWC, qWW, qWX, qVA, qVB, qUE, qUF, qPF, zCW, qTB, zCN, zIO, zIN, qWG, evl_tmp, zCF, zIA, zFY, zFZ, zJR, hav_nil, qJK⟩
theorem qXY {α : Type} : (∀ (x : α) (l : List α) (d : α), (x :: l).getD 0 d = x) /\ (∀ (x : α) (l : List α) (n : Nat) (d : α), (x :: l).getD (n + 1) d = l.getD n d) /\ (∀ (x y : α) (l : List α), (x :: l).set 0 y = y :: l) /\ (∀ (x y : α) (l : List α) (n : Nat), (x :: l).set (n + 1) y = x :: l.set n y) :=
 ⟨fun _ _ _ => rfl, fun _ _ _ _ => rfl, fun _ _ _ => rfl, fun _ _ _ _ => rfl⟩
end Go.Tk
end

section
namespace Go.Tk
open Go
def oK (o : Option Value) (f : Value -> Prop) : Prop := match o with | some v => f v | none => False
def hK (o : Option H) (f : H -> Prop) : Prop := match o with | some h => f h | none => False
def newB (h : H) (o : Obj) (f : Nat -> H -> Prop) : Prop := ∀ j, hget h j = none -> f j ((j, o) :: h)
def lK (o : Option (List Value)) (f : List Value -> Prop) : Prop := match o with | some v => f v | none => False
theorem zGK (o o' : Option Value) (f : Value -> Prop) (e : o = o') : oK o f = oK o' f := by rw [e]
theorem zHS (o o' : Option H) (f : H -> Prop) (e : o = o') : hK o f = hK o' f := by rw [e]
theorem zHE (o o' : Option (List Value)) (f : List Value -> Prop) (e : o = o') : lK o f = lK o' f := by rw [e]
theorem qUZ (h h' : H) (o o' : Obj) (f : Nat -> H -> Prop) (e : h = h') (e2 : o = o') : newB h o f = newB h' o' f := by rw [e, e2]
theorem qXU (v : Value) (f : Value -> Prop) : oK (some v) f = f v := rfl
theorem qYE (h : H) (f : H -> Prop) : hK (some h) f = f h := rfl
theorem lK_some (v : List Value) (f : List Value -> Prop) : lK (some v) f = f v := rfl
def ap2 (K : Value -> H -> Prop) (h : H) : Value -> Prop := fun v => K v h
def undC (K : Value -> H -> Prop) : H -> Prop := fun h => K undef h
def ptrC (K : Value -> H -> Prop) : Nat -> H -> Prop := fun j h => K (.pointer (some ⟨j, 0, none⟩)) h
def slcC (n c : Nat) (K : Value -> H -> Prop) : Nat -> H -> Prop := fun j h => K (.slice (some ⟨j, 0, none⟩) n c) h
def aggC (f : Value -> Prop) : List Value -> Prop := fun l => f (.agg l.toArray)
def bslC (e : TypeId) (n : Nat) (h : H) (K : Value -> H -> Prop) : List Value -> Prop := fun l => newB h (blk l e) (slcC n n K)
theorem ap2_eq (K : Value -> H -> Prop) (h : H) (v : Value) : ap2 K h v = K v h := rfl
theorem undC_eq (K : Value -> H -> Prop) (h : H) : undC K h = K undef h := rfl
theorem ptrC_eq (K : Value -> H -> Prop) (h : H) (j : Nat) : ptrC K j h = K (.pointer (some ⟨j, 0, none⟩)) h := rfl
theorem slcC_eq (n c : Nat) (K : Value -> H -> Prop) (h : H) (j : Nat) : slcC n c K j h = K (.slice (some ⟨j, 0, none⟩) n c) h := rfl
theorem aggC_eq (f : Value -> Prop) (l : List Value) : aggC f l = f (.agg l.toArray) := rfl
theorem bslC_eq (e : TypeId) (n : Nat) (h : H) (K : Value -> H -> Prop) (l : List Value) : bslC e n h K l = newB h (blk l e) (slcC n n K) := rfl
theorem qC {h : H} {o : Obj} {f : Nat -> H -> Prop} (x : ∀ j, hget h j = none -> f j ((j, o) :: h)) : newB h o f := x
def qGL (c a b : Value) (f : Value -> Prop) : Prop := match c with | .bool t => f (if t = true then a else b) | _ => False
def qCM (x : Value) (n : Nat) (agg : Bool) (h : H) (f : Value -> Prop) : Prop := match x with | .pointer (some ⟨b, k, none⟩) => oK (hval h b k n agg) f | _ => False
def qCR (x y : Value) (n : Nat) (h : H) (f : H -> Prop) : Prop := match x with
 | .pointer (some ⟨b, k, none⟩) => (zF y).length = n /\ (zF y).all vone = true /\ hK (zQ h b k (zF y)) f
 | _ => False
def fldK (x : Value) (off : Nat) (f : Value -> Prop) : Prop := match x with | .pointer (some ⟨b, k, none⟩) => f (.pointer (some ⟨b, k + off, none⟩)) | _ => False
def getK (x : Value) (off n : Nat) (agg : Bool) (f : Value -> Prop) : Prop := match x with
 | .agg cs => oK (if agg then some (.agg ((cs.toList.drop off).take n).toArray) else cs.toList[off]?) f
 | _ => False
def vI (x i : Value) (n : Nat) (f : Value -> Prop) : Prop := match x, i with
 | .slice (some ⟨b, k, none⟩) len _, .int _ j => (0 <= j /\ j < (len : Int)) /\ f (.pointer (some ⟨b, k + j.toNat * n, none⟩))
 | _, _ => False
def qGQ (x i : Value) (len n : Nat) (f : Value -> Prop) : Prop := match x, i with
 | .pointer (some ⟨b, k, none⟩), .int _ j => (0 <= j /\ j < (len : Int)) /\ f (.pointer (some ⟨b, k + j.toNat * n, none⟩))
 | _, _ => False
def qCO (x i : Value) (f : Value -> Prop) : Prop := match x, i with
 | .string s, .int _ j => 0 <= j /\ oK ((s.data.toList[j.toNat]?).map fun u => .int .u8 u.toNat) f
 | _, _ => False
def qCL (x : Value) (f : Value -> Prop) : Prop := match x with
 | .pointer (some a) => f (.pointer (some a))
 | .func (.func g) fi ca => f (.func (.func g) fi ca)
 | _ => False
def binK (op : BinOp) (x y : Value) (f : Value -> Prop) (other : Prop) : Prop := match x, y with
 | .int k a, .int k' b => (k = k' ∨ qAE op = true) /\ oK (intBin op k a b) f
 | .string a, .string b => oK (xP op a b) f
 | _, _ => other
def beqK (neg : Bool) (x y : Value) (f : Value -> Prop) : Prop := match x, y with | .bool a, .bool b => f (.bool (if neg = true then !(a == b) else a == b)) | _, _ => False
def ieqK (neg c : Bool) (x y : Value) (f : Value -> Prop) : Prop := match x, y with
 | .nilIface, .nilIface => c = true /\ f (.bool !neg)
 | .nilIface, .iface _ _ => f (.bool neg)
 | .iface _ _, .nilIface => f (.bool neg)
 | _, _ => False
def leqK (neg : Bool) (x y : Value) (f : Value -> Prop) : Prop := match x, y with
 | .slice none _ _, .slice b _ _ => f (.bool (if neg = true then !b.isNone else b.isNone))
 | .slice (some _) _ _, .slice none _ _ => f (.bool neg)
 | _, _ => False
def notK (x : Value) (f : Value -> Prop) : Prop := match x with | .bool b => f (.bool !b) | _ => False
def qGT (k : IntKind) (x : Value) (f : Value -> Prop) : Prop := match x with | .int _ n => f (.int k (k.wrap n)) | _ => False
def qAJ (e : TypeId) (z : List Value) (bytes : Nat) (l c : Value) (h : H) (f : Value -> H -> Prop) : Prop := match l, c with
 | .int _ a, .int _ b => (0 <= a /\ a <= b /\ b <= 9223372036854775807 /\ bytes * b <= 281474976710656) /\ newB h (blk (zrep z b.toNat) e) (slcC a.toNat b.toNat f)
 | _, _ => False
def loB : Value -> Option Int | .int _ n => some n | _ => none
def slcK (x : Value) (n : Nat) (lo hi : Option (Option Int)) (f : Value -> Prop) : Prop := match x with
 | .slice a len cap => (match lo.getD (some 0), hi.getD (some (len : Int)) with
  | some l, some u => (0 <= l /\ l <= u /\ u <= (cap : Int)) /\ f (.slice (if cap = l.toNat then a else a.map (·.add (l.toNat * n))) (u.toNat - l.toNat) (cap - l.toNat))
  | _, _ => False)
 | _ => False
def slTK (x : Value) (lo hi : Option (Option Int)) (f : Value -> Prop) : Prop := match x with
 | .string s => (match lo.getD (some 0), hi.getD (some (s.size : Int)) with
  | some l, some u => (0 <= l /\ l <= u /\ u <= (s.size : Int)) /\ f (.string ⟨((s.data.toList.drop l.toNat).take (u.toNat - l.toNat)).toArray⟩)
  | _, _ => False)
 | _ => False
def qEF (x : Value) (f : Value -> Prop) : Prop := match x with | .string s => f (.int .i64 s.size) | _ => False
def jQ (x : Value) (f : Value -> Prop) : Prop := match x with | .slice _ n _ => f (.int .i64 n) | _ => False
def kV (x : Value) (h : H) (f : Value -> Prop) : Prop := match x with
 | .slice none _ _ => f (.string .empty)
 | .slice (some ⟨b, k, none⟩) len _ => oK (((qV h b k len).bind wQ).map fun l => .string ⟨l.toArray⟩) f
 | _ => False
def extK (x : Value) (i : Nat) (f : Value -> Prop) : Prop := match x with | .tuple vs => oK (vs.toList[i]?) f | _ => False
def qCQ (x : Value) (t : TypeId) (z : Value) (ok : Bool) (f : Value -> Prop) : Prop := match x with
 | .iface t' v => if t' = t then f (if ok = true then .tuple #[v, .bool true] else v) else ok = true /\ f (.tuple #[z, .bool false])
 | .nilIface => ok = true /\ f (.tuple #[z, .bool false])
 | _ => False
def qDF (P : Program) (g : Value) (args : List Value) (h : H) (R : Ending -> H -> Prop) : Prop := match g with
 | .func (.func g) fi ca => wO P g = true /\ HCalls P g (fi.toList ++ args ++ ca.toList).toArray h R
 | .func (.yield l) fi ca => fi = #[] /\ YieldH P l args h R
 | _ => False
def invK (P : Program) (r : Value) (name : String) (args : List Value) (h : H) (R : Ending -> H -> Prop) : Prop := match r with
 | .iface t v => ∃ g r, evH P (method (P.types.size + Made.depth) t v name) h = some (g, r) /\ wO P g = true /\ HCalls P g (#[r] ++ args.toArray) h R
 | _ => False
def appK (P : Program) (t1 t2 ty : TypeId) (x y : Value) (h : H) (K : Value -> H -> Prop) (X : List PanicEntry -> H -> Prop) : Prop := SH P (Builtin.append_ #[t1, t2] ty #[x, y]) (dP K) (pK X) h
def rawK (P : Program) (o : Op) (ty : TypeId) (ρ : Operand -> Value) (h : H) (K : Value -> H -> Prop) (X : List PanicEntry -> H -> Prop) : Prop := SH P (execOp ρ (mkO o ty)) (yS P K X) (pK X) h
theorem qWZ (P : Program) (t1 t2 ty : TypeId) (x x' y y' : Value) (h h' : H) (K : Value -> H -> Prop) (X : List PanicEntry -> H -> Prop) (e1 : x = x') (e2 : y = y') (e3 : h = h') : appK P t1 t2 ty x y h K X = appK P t1 t2 ty x' y' h' K X := by rw [e1, e2, e3]
theorem qUR (P : Program) (o : Op) (ty : TypeId) (ρ : Operand -> Value) (h : H) (K : Value -> H -> Prop) (X : List PanicEntry -> H -> Prop) : rawK P o ty ρ h K X = rawK P o ty ρ h K X := rfl
theorem qQO (c c' : Value) (a a' : Value) (b b' : Value) (f : Value -> Prop) (e0 : c = c') (e1 : a = a') (e2 : b = b') : qGL c a b f = qGL c' a' b' f := by rw [e0, e1, e2]
theorem qQZ (x x' : Value) (n : Nat) (agg : Bool) (h h' : H) (f : Value -> Prop) (e0 : x = x') (e1 : h = h') : qCM x n agg h f = qCM x' n agg h' f := by rw [e0, e1]
theorem qNU (x x' : Value) (y y' : Value) (n : Nat) (h h' : H) (f : H -> Prop) (e0 : x = x') (e1 : y = y') (e2 : h = h') : qCR x y n h f = qCR x' y' n h' f := by rw [e0, e1, e2]
theorem qWA (x x' : Value) (off : Nat) (f : Value -> Prop) (e0 : x = x') : fldK x off f = fldK x' off f := by rw [e0]
theorem qVZ (x x' : Value) (off : Nat) (n : Nat) (agg : Bool) (f : Value -> Prop) (e0 : x = x') : getK x off n agg f = getK x' off n agg f := by rw [e0]
theorem qRU (x x' : Value) (i i' : Value) (n : Nat) (f : Value -> Prop) (e0 : x = x') (e1 : i = i') : vI x i n f = vI x' i' n f := by rw [e0, e1]
theorem qRV (x x' : Value) (i i' : Value) (len : Nat) (n : Nat) (f : Value -> Prop) (e0 : x = x') (e1 : i = i') : qGQ x i len n f = qGQ x' i' len n f := by rw [e0, e1]
theorem qRT (x x' : Value) (i i' : Value) (f : Value -> Prop) (e0 : x = x') (e1 : i = i') : qCO x i f = qCO x' i' f := by rw [e0, e1]
theorem qQV (x x' : Value) (f : Value -> Prop) (e0 : x = x') : qCL x f = qCL x' f := by rw [e0]
theorem qWU (op : BinOp) (x x' : Value) (y y' : Value) (f : Value -> Prop) (other : Prop) (e0 : x = x') (e1 : y = y') : binK op x y f other = binK op x' y' f other := by rw [e0, e1]
theorem qWV (neg : Bool) (x x' : Value) (y y' : Value) (f : Value -> Prop) (e0 : x = x') (e1 : y = y') : beqK neg x y f = beqK neg x' y' f := by rw [e0, e1]
theorem qVR (neg : Bool) (c : Bool) (x x' : Value) (y y' : Value) (f : Value -> Prop) (e0 : x = x') (e1 : y = y') : ieqK neg c x y f = ieqK neg c x' y' f := by rw [e0, e1]
theorem qVE (neg : Bool) (x x' : Value) (y y' : Value) (f : Value -> Prop) (e0 : x = x') (e1 : y = y') : leqK neg x y f = leqK neg x' y' f := by rw [e0, e1]
theorem qUX (x x' : Value) (f : Value -> Prop) (e0 : x = x') : notK x f = notK x' f := by rw [e0]
theorem qSN (k : IntKind) (x x' : Value) (f : Value -> Prop) (e0 : x = x') : qGT k x f = qGT k x' f := by rw [e0]
theorem qKT (e : TypeId) (z : List Value) (bytes : Nat) (l l' : Value) (c c' : Value) (h h' : H) (f : Value -> H -> Prop) (e0 : l = l') (e1 : c = c') (e2 : h = h') : qAJ e z bytes l c h f = qAJ e z bytes l' c' h' f := by rw [e0, e1, e2]
theorem qUN (x x' : Value) (n : Nat) (lo lo' : Option (Option Int)) (hi hi' : Option (Option Int)) (f : Value -> Prop) (e0 : x = x') (e1 : lo = lo') (e2 : hi = hi') : slcK x n lo hi f = slcK x' n lo' hi' f := by rw [e0, e1, e2]
theorem qUO (x x' : Value) (lo lo' : Option (Option Int)) (hi hi' : Option (Option Int)) (f : Value -> Prop) (e0 : x = x') (e1 : lo = lo') (e2 : hi = hi') : slTK x lo hi f = slTK x' lo' hi' f := by rw [e0, e1, e2]
theorem qRC (x x' : Value) (f : Value -> Prop) (e0 : x = x') : qEF x f = qEF x' f := by rw [e0]
theorem qRD (x x' : Value) (f : Value -> Prop) (e0 : x = x') : jQ x f = jQ x' f := by rw [e0]
theorem qTA (x x' : Value) (h h' : H) (f : Value -> Prop) (e0 : x = x') (e1 : h = h') : kV x h f = kV x' h' f := by rw [e0, e1]
theorem qWD (x x' : Value) (i : Nat) (f : Value -> Prop) (e0 : x = x') : extK x i f = extK x' i f := by rw [e0]
theorem qTF (x x' : Value) (t : TypeId) (z z' : Value) (ok : Bool) (f : Value -> Prop) (e0 : x = x') (e1 : z = z') : qCQ x t z ok f = qCQ x' t z' ok f := by rw [e0, e1]
theorem qPD (P : Program) (g g' : Value) (args args' : List Value) (h h' : H) (R : Ending -> H -> Prop) (e0 : g = g') (e1 : args = args') (e2 : h = h') : qDF P g args h R = qDF P g' args' h' R := by rw [e0, e1, e2]
theorem qVO (P : Program) (r r' : Value) (name : String) (args args' : List Value) (h h' : H) (R : Ending -> H -> Prop) (e0 : r = r') (e1 : args = args') (e2 : h = h') : invK P r name args h R = invK P r' name args' h' R := by rw [e0, e1, e2]
attribute [congr] qQO qQZ qNU qWA qVZ qRU qRV qRT qQV qWU qWV qVR qVE qUX qSN qKT qUN qUO qRC qRD qTA qWD qTF qPD qVO
attribute [congr] zGK zHS zHE qUZ qWZ qUR
section
variable (P : Program) (ρ : Operand -> Value) (h : H) (K : Value -> H -> Prop) (X : List PanicEntry -> H -> Prop)
theorem vop_mov (x : Operand) : vop P ρ h K X (.mov x) = K (ρ x) h := rfl
theorem zDT (c a b : Operand) : vop P ρ h K X (.pick c a b) = qGL (ρ c) (ρ a) (ρ b) (ap2 K h) := rfl
theorem qPQ (x : Operand) (n : Nat) (agg : Bool) : vop P ρ h K X (.load x n agg) = qCM (ρ x) n agg h (ap2 K h) := by
 unfold vop qCM oK; rfl
theorem qZF (x y : Operand) (n : Nat) : vop P ρ h K X (.store x y n) = qCR (ρ x) (ρ y) n h (undC K) := by
 unfold vop qCR hK; rfl
theorem qZJ (e : TypeId) (z : List Value) : vop P ρ h K X (.alloc e z) = newB h (blk z e) (ptrC K) := rfl
theorem vop_box (e : TypeId) (x : Operand) : vop P ρ h K X (.box e x) = newB h (blk (zF (ρ x)) e) (ptrC K) := rfl
theorem vop_fld (x : Operand) (off : Nat) : vop P ρ h K X (.fld x off) = fldK (ρ x) off (ap2 K h) := rfl
theorem vop_get (x : Operand) (off n : Nat) (agg : Bool) : vop P ρ h K X (.get x off n agg) = getK (ρ x) off n agg (ap2 K h) := by
 simp only [vop, getK]
 generalize ρ x = y
 cases y <;> simp only
 cases agg <;> simp only [Bool.false_eq_true, if_false, if_true] <;> rfl <;> rfl
theorem qPR (x i : Operand) (n : Nat) : vop P ρ h K X (.idxS x i n) = vI (ρ x) (ρ i) n (ap2 K h) := rfl
theorem zDY (x i : Operand) (len n : Nat) : vop P ρ h K X (.idxA x i len n) = qGQ (ρ x) (ρ i) len n (ap2 K h) := rfl
theorem zDX (x i : Operand) : vop P ρ h K X (.idxT x i) = qCO (ρ x) (ρ i) (ap2 K h) := by
 simp only [vop, qCO]
 generalize ρ x = y
 generalize ρ i = z
 cases y <;> cases z <;> simp only
 rename_i s k j
 cases s.data.toList[j.toNat]? <;> rfl
theorem zDU (x : Operand) : vop P ρ h K X (.nilc x) = qCL (ρ x) (ap2 K h) := rfl
theorem vop_bin (op : BinOp) (t : TypeId) (x y : Operand) : vop P ρ h K X (.bin op t x y) = binK op (ρ x) (ρ y) (ap2 K h) (SH P (do eqGuard op t x y (ρ x) (ρ y); binOp op t (ρ x) (ρ y)) K (pK X) h) := by
 simp only [vop, binK]
 generalize ρ x = u
 generalize ρ y = z
 cases u <;> cases z <;> rfl
theorem vop_beq (neg : Bool) (x y : Operand) : vop P ρ h K X (.beq neg x y) = beqK neg (ρ x) (ρ y) (ap2 K h) := rfl
theorem vop_ieq (neg : Bool) (x y : Operand) : vop P ρ h K X (.ieq neg x y) = ieqK neg ((x matches .const _) || (y matches .const _)) (ρ x) (ρ y) (ap2 K h) := rfl
theorem vop_leq (neg : Bool) (x y : Operand) : vop P ρ h K X (.leq neg x y) = leqK neg (ρ x) (ρ y) (ap2 K h) := rfl
theorem vop_not (x : Operand) : vop P ρ h K X (.not x) = notK (ρ x) (ap2 K h) := rfl
theorem zDZ (k : IntKind) (x : Operand) : vop P ρ h K X (.conv k x) = qGT k (ρ x) (ap2 K h) := rfl
theorem qZG (t : TypeId) (x : Operand) : vop P ρ h K X (.iface t x) = K (.iface t (ρ x)) h := rfl
theorem vop_fn (f : Fn) (fi ca : List Operand) : vop P ρ h K X (.fn f fi ca) = K (.func f (fi.map ρ).toArray (ca.map ρ).toArray) h := rfl
theorem qZI (z : List Value) (ps : List (Nat × Nat × Operand)) : vop P ρ h K X (.build z ps) = lK (wX z (ps.map fun p => (p.1, p.2.1, zF (ρ p.2.2)))) (aggC (ap2 K h)) := by
 unfold vop lK; rfl
theorem qTU (e : TypeId) (z : List Value) (len : Nat) (ps : List (Nat × Nat × Operand)) : vop P ρ h K X (.bslice e z len ps) =
  lK (wX (zrep z len) (ps.map fun p => (p.1, p.2.1, zF (ρ p.2.2)))) (bslC e len h K) := by
 unfold vop lK; rfl
theorem qTT (e : TypeId) (z : List Value) (bytes : Nat) (l c : Operand) : vop P ρ h K X (.mslice e z bytes l c) = qAJ e z bytes (ρ l) (ρ c) h K := by
 unfold vop qAJ newB; rfl
theorem qHJ (ρ : Operand -> Value) (o : Option Operand) : lowB ρ o = (o.map fun x => loB (ρ x)).getD (some 0) := by cases o <;> rfl
theorem qEM (ρ : Operand -> Value) (n : Nat) (o : Option Operand) : qGR ρ n o = (o.map fun x => loB (ρ x)).getD (some (n : Int)) := by cases o <;> rfl
theorem vop_slc (x : Operand) (n : Nat) (lo hi : Option Operand) : vop P ρ h K X (.slc x n lo hi) = slcK (ρ x) n (lo.map fun x => loB (ρ x)) (hi.map fun x => loB (ρ x)) (ap2 K h) := by
 unfold vop slcK
 simp only [qHJ, qEM]
 rfl
theorem vop_slT (x : Operand) (lo hi : Option Operand) : vop P ρ h K X (.slT x lo hi) = slTK (ρ x) (lo.map fun x => loB (ρ x)) (hi.map fun x => loB (ρ x)) (ap2 K h) := by
 unfold vop slTK
 simp only [qHJ, qEM]
 rfl
theorem zDV (x : Operand) : vop P ρ h K X (.lenT x) = qEF (ρ x) (ap2 K h) := rfl
theorem zDW (x : Operand) : vop P ρ h K X (.lenS x) = jQ (ρ x) (ap2 K h) := rfl
theorem zEB (x : Operand) : vop P ρ h K X (.btos x) = kV (ρ x) h (ap2 K h) := by
 simp only [vop, kV]
 generalize ρ x = y
 cases y with
 | slice a n c =>
  cases a with
  | none => rfl
  | some a =>
   obtain ⟨b, k, s⟩ := a
   cases s with
   | none => simp only; cases (qV h b k n).bind wQ <;> rfl
   | some s => rfl
 | _ => rfl
theorem vop_ext (x : Operand) (i : Nat) : vop P ρ h K X (.ext x i) = extK (ρ x) i (ap2 K h) := by
 unfold vop extK oK; rfl
theorem zEC (x : Operand) (t : TypeId) (z : Value) (ok : Bool) : vop P ρ h K X (.asrt x t z ok) = qCQ (ρ x) t z ok (ap2 K h) := rfl
theorem zEA (f : FuncId) (args : List Operand) : vop P ρ h K X (.call f args) = HCalls P f (args.map ρ).toArray h (retK K X) := rfl
theorem qZH (f : Operand) (args : List Operand) : vop P ρ h K X (.callv f args) = qDF P (ρ f) (args.map ρ) h (retK K X) := by
 simp only [vop, qDF]
 generalize ρ f = y
 cases y with
 | func fn fi ca =>
  cases fn with
  | func g =>
   simp only
   rw [show (fi ++ (args.map ρ).toArray ++ ca) = (fi.toList ++ args.map ρ ++ ca.toList).toArray from by apply Array.ext'; simp]
  | _ => rfl
 | _ => rfl
theorem vop_inv (r : Operand) (name : String) (args : List Operand) : vop P ρ h K X (.inv r name args) = invK P (ρ r) name (args.map ρ) h (retK K X) := rfl
theorem vop_app (t1 t2 ty : TypeId) (x y : Operand) : vop P ρ h K X (.app t1 t2 ty x y) = appK P t1 t2 ty (ρ x) (ρ y) h K X := rfl
theorem vop_raw (o : Op) (ty : TypeId) : vop P ρ h K X (.raw o ty) = rawK P o ty ρ h K X := rfl
end
section
variable (ρ : Operand -> Value) (h : H) (K : Value -> Prop)
theorem vfl_mov (x : Operand) : vfl ρ h K (.mov x) = K (ρ x) := rfl
theorem zEE (c a b : Operand) : vfl ρ h K (.pick c a b) = qGL (ρ c) (ρ a) (ρ b) K := rfl
theorem zEG (x : Operand) (n : Nat) (agg : Bool) : vfl ρ h K (.load x n agg) = qCM (ρ x) n agg h K := by
 unfold vfl qCM oK; rfl
theorem vfl_fld (x : Operand) (off : Nat) : vfl ρ h K (.fld x off) = fldK (ρ x) off K := rfl
theorem vfl_get (x : Operand) (off n : Nat) (agg : Bool) : vfl ρ h K (.get x off n agg) = getK (ρ x) off n agg K := by
 simp only [vfl, getK]
 generalize ρ x = y
 cases y <;> simp only
 cases agg <;> simp only [Bool.false_eq_true, if_false, if_true] <;> rfl <;> rfl
theorem zEK (x i : Operand) (n : Nat) : vfl ρ h K (.idxS x i n) = vI (ρ x) (ρ i) n K := rfl
theorem zEL (x i : Operand) (len n : Nat) : vfl ρ h K (.idxA x i len n) = qGQ (ρ x) (ρ i) len n K := rfl
theorem zEJ (x i : Operand) : vfl ρ h K (.idxT x i) = qCO (ρ x) (ρ i) K := by
 simp only [vfl, qCO]
 generalize ρ x = y
 generalize ρ i = z
 cases y <;> cases z <;> simp only
 rename_i s k j
 cases s.data.toList[j.toNat]? <;> rfl
theorem zEF (x : Operand) : vfl ρ h K (.nilc x) = qCL (ρ x) K := rfl
theorem vfl_bin (op : BinOp) (t : TypeId) (x y : Operand) : vfl ρ h K (.bin op t x y) = binK op (ρ x) (ρ y) K False := by
 simp only [vfl, binK]
 generalize ρ x = u
 generalize ρ y = z
 cases u <;> cases z <;> rfl
theorem vfl_beq (neg : Bool) (x y : Operand) : vfl ρ h K (.beq neg x y) = beqK neg (ρ x) (ρ y) K := rfl
theorem vfl_ieq (neg : Bool) (x y : Operand) : vfl ρ h K (.ieq neg x y) = ieqK neg ((x matches .const _) || (y matches .const _)) (ρ x) (ρ y) K := rfl
theorem vfl_leq (neg : Bool) (x y : Operand) : vfl ρ h K (.leq neg x y) = leqK neg (ρ x) (ρ y) K := rfl
theorem vfl_not (x : Operand) : vfl ρ h K (.not x) = notK (ρ x) K := rfl
theorem zEM (k : IntKind) (x : Operand) : vfl ρ h K (.conv k x) = qGT k (ρ x) K := rfl
theorem qZP (t : TypeId) (x : Operand) : vfl ρ h K (.iface t x) = K (.iface t (ρ x)) := rfl
theorem vfl_fn (f : Fn) (fi ca : List Operand) : vfl ρ h K (.fn f fi ca) = K (.func f (fi.map ρ).toArray (ca.map ρ).toArray) := rfl
theorem qZQ (z : List Value) (ps : List (Nat × Nat × Operand)) : vfl ρ h K (.build z ps) = lK (wX z (ps.map fun p => (p.1, p.2.1, zF (ρ p.2.2)))) (aggC K) := by
 unfold vfl lK; rfl
theorem vfl_slc (x : Operand) (n : Nat) (lo hi : Option Operand) : vfl ρ h K (.slc x n lo hi) = slcK (ρ x) n (lo.map fun x => loB (ρ x)) (hi.map fun x => loB (ρ x)) K := by
 unfold vfl slcK
 simp only [qHJ, qEM]
 rfl
theorem vfl_slT (x : Operand) (lo hi : Option Operand) : vfl ρ h K (.slT x lo hi) = slTK (ρ x) (lo.map fun x => loB (ρ x)) (hi.map fun x => loB (ρ x)) K := by
 unfold vfl slTK
 simp only [qHJ, qEM]
 rfl
theorem zEH (x : Operand) : vfl ρ h K (.lenT x) = qEF (ρ x) K := rfl
theorem zEI (x : Operand) : vfl ρ h K (.lenS x) = jQ (ρ x) K := rfl
theorem zEN (x : Operand) : vfl ρ h K (.btos x) = kV (ρ x) h K := by
 simp only [vfl, kV]
 generalize ρ x = y
 cases y with
 | slice a n c =>
  cases a with
  | none => rfl
  | some a =>
   obtain ⟨b, k, s⟩ := a
   cases s with
   | none => simp only; cases (qV h b k n).bind wQ <;> rfl
   | some s => rfl
 | _ => rfl
theorem vfl_ext (x : Operand) (i : Nat) : vfl ρ h K (.ext x i) = extK (ρ x) i K := by
 unfold vfl extK oK; rfl
theorem zEO (x : Operand) (t : TypeId) (z : Value) (ok : Bool) : vfl ρ h K (.asrt x t z ok) = qCQ (ρ x) t z ok K := rfl
end
section
variable (f : Value -> Prop)
theorem zGG (t : Bool) (a b : Value) : qGL (.bool t) a b f = f (if t = true then a else b) := rfl
theorem qQY (b k n : Nat) (agg : Bool) (h : H) : qCM (.pointer (some ⟨b, k, none⟩)) n agg h f = oK (hval h b k n agg) f := rfl
theorem zAO (b k n : Nat) (y : Value) (h : H) (f : H -> Prop) : qCR (.pointer (some ⟨b, k, none⟩)) y n h f = ((zF y).length = n /\ (zF y).all vone = true /\ hK (zQ h b k (zF y)) f) := rfl
theorem fldK_eq (b k off : Nat) : fldK (.pointer (some ⟨b, k, none⟩)) off f = f (.pointer (some ⟨b, k + off, none⟩)) := rfl
theorem getK_eq (cs : List Value) (off n : Nat) (agg : Bool) : getK (.agg cs.toArray) off n agg f = oK (if agg = true then some (.agg ((cs.drop off).take n).toArray) else cs[off]?) f := rfl
theorem qBL (b k len cap n : Nat) (kd : IntKind) (j : Int) : vI (.slice (some ⟨b, k, none⟩) len cap) (.int kd j) n f = ((0 <= j /\ j < (len : Int)) /\ f (.pointer (some ⟨b, k + j.toNat * n, none⟩))) := rfl
theorem zHO (b k len n : Nat) (kd : IntKind) (j : Int) : qGQ (.pointer (some ⟨b, k, none⟩)) (.int kd j) len n f = ((0 <= j /\ j < (len : Int)) /\ f (.pointer (some ⟨b, k + j.toNat * n, none⟩))) := rfl
theorem zHN (s : List UInt8) (kd : IntKind) (j : Int) : qCO (.string ⟨s.toArray⟩) (.int kd j) f = (0 <= j /\ oK ((s[j.toNat]?).map fun u => .int .u8 u.toNat) f) := rfl
theorem zGP (a : Addr) : qCL (.pointer (some a)) f = f (.pointer (some a)) := rfl
theorem zGO (g : FuncId) (fi ca : Array Value) : qCL (.func (.func g) fi ca) f = f (.func (.func g) fi ca) := rfl
theorem zJI (op : BinOp) (k : IntKind) (a b : Int) (o : Prop) : binK op (.int k a) (.int k b) f o = oK (intBin op k a b) f := by simp [binK]
theorem zJH (k k' : IntKind) (a b : Int) (o : Prop) : binK .shl (.int k a) (.int k' b) f o = oK (intBin .shl k a b) f := by simp [binK, qAE]
theorem zJG (k k' : IntKind) (a b : Int) (o : Prop) : binK .shr (.int k a) (.int k' b) f o = oK (intBin .shr k a b) f := by simp [binK, qAE]
theorem zJF (op : BinOp) (a b : ByteArray) (o : Prop) : binK op (.string a) (.string b) f o = oK (xP op a b) f := rfl
theorem beqK_eq (neg a b : Bool) : beqK neg (.bool a) (.bool b) f = f (.bool (if neg = true then !(a == b) else a == b)) := rfl
theorem ieqK_1 (neg c : Bool) : ieqK neg c .nilIface .nilIface f = (c = true /\ f (.bool !neg)) := rfl
theorem ieqK_2 (neg c : Bool) (t : TypeId) (v : Value) : ieqK neg c .nilIface (.iface t v) f = f (.bool neg) := rfl
theorem ieqK_3 (neg c : Bool) (t : TypeId) (v : Value) : ieqK neg c (.iface t v) .nilIface f = f (.bool neg) := rfl
theorem leqK_1 (neg : Bool) (n1 n2 n3 n4 : Nat) (b : Option Addr) : leqK neg (.slice none n1 n2) (.slice b n3 n4) f = f (.bool (if neg = true then !b.isNone else b.isNone)) := rfl
theorem leqK_2 (neg : Bool) (a : Addr) (n1 n2 n3 n4 : Nat) : leqK neg (.slice (some a) n1 n2) (.slice none n3 n4) f = f (.bool neg) := rfl
theorem notK_eq (b : Bool) : notK (.bool b) f = f (.bool !b) := rfl
theorem zIW (k k' : IntKind) (n : Int) : qGT k (.int k' n) f = f (.int k (k.wrap n)) := rfl
theorem qVC (e : TypeId) (z : List Value) (bytes : Nat) (k k' : IntKind) (a b : Int) (h : H) (f : Value -> H -> Prop) : qAJ e z bytes (.int k a) (.int k' b) h f =
 ((0 <= a /\ a <= b /\ b <= 9223372036854775807 /\ bytes * b <= 281474976710656) /\ newB h (blk (zrep z b.toNat) e) (slcC a.toNat b.toNat f)) := rfl
theorem loB_eq (k : IntKind) (n : Int) : loB (.int k n) = some n := rfl
theorem slcK_00 (a : Option Addr) (len cap n : Nat) : slcK (.slice a len cap) n none none f = ((0 <= (0 : Int) /\ 0 <= (len : Int) /\ (len : Int) <= cap) /\ f (.slice (if cap = 0 then a else a.map (·.add 0)) len cap)) := by simp [slcK]
theorem slcK_10 (a : Option Addr) (len cap n : Nat) (l : Int) : slcK (.slice a len cap) n (some (some l)) none f = ((0 <= l /\ l <= (len : Int) /\ (len : Int) <= cap) /\ f (.slice (if cap = l.toNat then a else a.map (·.add (l.toNat * n))) (len - l.toNat) (cap - l.toNat))) := by simp [slcK]
theorem slcK_01 (a : Option Addr) (len cap n : Nat) (u : Int) : slcK (.slice a len cap) n none (some (some u)) f = ((0 <= (0 : Int) /\ 0 <= u /\ u <= (cap : Int)) /\ f (.slice (if cap = 0 then a else a.map (·.add 0)) u.toNat cap)) := by simp [slcK]
theorem qNZ (a : Option Addr) (len cap n : Nat) (l u : Int) : slcK (.slice a len cap) n (some (some l)) (some (some u)) f = ((0 <= l /\ l <= u /\ u <= (cap : Int)) /\ f (.slice (if cap = l.toNat then a else a.map (·.add (l.toNat * n))) (u.toNat - l.toNat) (cap - l.toNat))) := rfl
theorem slTK_10 (s : List UInt8) (l : Int) : slTK (.string ⟨s.toArray⟩) (some (some l)) none f = ((0 <= l /\ l <= (s.length : Int)) /\ f (.string ⟨(s.drop l.toNat).toArray⟩)) := by
 have e : (⟨s.toArray⟩ : ByteArray).size = s.length := by simp [ByteArray.size]
 have e2 : List.take (s.length - l.toNat) (s.drop l.toNat) = s.drop l.toNat := List.take_of_length_le (by simp)
 simp [slTK, e, e2]
theorem slTK_01 (s : List UInt8) (u : Int) : slTK (.string ⟨s.toArray⟩) none (some (some u)) f = ((0 <= u /\ u <= (s.length : Int)) /\ f (.string ⟨(s.take u.toNat).toArray⟩)) := by
 have e : (⟨s.toArray⟩ : ByteArray).size = s.length := by simp [ByteArray.size]
 simp [slTK, e]
theorem slTK_11 (s : List UInt8) (l u : Int) : slTK (.string ⟨s.toArray⟩) (some (some l)) (some (some u)) f = ((0 <= l /\ l <= u /\ u <= (s.length : Int)) /\ f (.string ⟨((s.drop l.toNat).take (u.toNat - l.toNat)).toArray⟩)) := by
 have e : (⟨s.toArray⟩ : ByteArray).size = s.length := by simp [ByteArray.size]
 simp [slTK, e]
theorem zHA (s : List UInt8) : qEF (.string ⟨s.toArray⟩) f = f (.int .i64 s.length) := by simp [qEF, ByteArray.size]
theorem zHB (a : Option Addr) (n c : Nat) : jQ (.slice a n c) f = f (.int .i64 n) := rfl
theorem zCV (n c : Nat) (h : H) : kV (.slice none n c) h f = f (.string ⟨[].toArray⟩) := rfl
theorem qSZ (b k len cap : Nat) (h : H) : kV (.slice (some ⟨b, k, none⟩) len cap) h f = oK (((qV h b k len).bind wQ).map fun l => .string ⟨l.toArray⟩) f := rfl
theorem extK_eq (vs : List Value) (i : Nat) : extK (.tuple vs.toArray) i f = oK (vs[i]?) f := rfl
theorem zJK (t t' : TypeId) (v z : Value) (ok : Bool) : qCQ (.iface t' v) t z ok f = if t' = t then f (if ok = true then .tuple #[v, .bool true] else v) else (ok = true /\ f (.tuple #[z, .bool false])) := rfl
theorem zDC (t : TypeId) (z : Value) (ok : Bool) : qCQ .nilIface t z ok f = (ok = true /\ f (.tuple #[z, .bool false])) := rfl
theorem zCT (P : Program) (g : FuncId) (fi ca : List Value) (args : List Value) (h : H) (R : Ending -> H -> Prop) : qDF P (.func (.func g) fi.toArray ca.toArray) args h R = (wO P g = true /\ HCalls P g (fi ++ args ++ ca).toArray h R) := rfl
theorem hval_t (h : H) (b k n : Nat) : hval h b k n true = (qV h b k n).map fun l => .agg l.toArray := rfl
theorem zHQ (h : H) (b k n : Nat) : hval h b k n false = hcel h b k := rfl
end
section
variable (h : H) (j k n : Nat) (e : TypeId) (l vs : List Value) (o : Obj)
theorem qG : hget ((j, o) :: h) j = some o := by simp [hget]
theorem qDA : qV ((j, blk l e) :: h) j k n = if k + n <= l.length then some ((l.drop k).take n) else none := by simp [qV, qG, qBY]
theorem zBY : hcel ((j, blk l e) :: h) j k = l[k]? := by simp [hcel, qG, blk]
theorem kA : zQ ((j, blk l e) :: h) j k vs = if k + vs.length <= l.length then some ((j, blk (qJ l k vs) e) :: h) else none := by
 simp only [zQ, qG, Option.bind_some, kM]
 split <;> simp [hupd]
variable {i : Nat} (hne : i ≠ j)
include hne
theorem xE : hget ((j, o) :: h) i = hget h i := by rw [zM, if_neg hne]
theorem qVU : qV ((j, o) :: h) i k n = qV h i k n := by simp only [qV, xE h j o hne]
theorem zBZ : hcel ((j, o) :: h) i k = hcel h i k := by simp only [hcel, xE h j o hne]
theorem qRW : zQ ((j, o) :: h) i k vs = (zQ h i k vs).map ((j, o) :: ·) := by
 simp only [zQ, xE h j o hne]
 cases hget h i with
 | none => rfl
 | some x =>
  simp only [Option.bind_some]
  cases qGE x k vs with
  | none => rfl
  | some y => simp [hupd, hne]
end
theorem wW {i : Nat} {o : Obj} {h : H} {j : Nat} (e : hget ((i, o) :: h) j = none) : i ≠ j /\ j ≠ i /\ hget h j = none := by
 rw [zM] at e
 by_cases x : j = i
 ·simp [x] at e
 ·rw [if_neg x] at e; exact ⟨Ne.symm x, x, e⟩
theorem zHX (l : List Value) : wX l [] = some l := rfl
theorem zCE (l : List Value) (off n : Nat) (v : List Value) (r : List (Nat × Nat × List Value)) : wX l ((off, n, v) :: r) = if v.length = n /\ off + n <= l.length then wX (qJ l off v) r else none := rfl
theorem qTW (k : IntKind) (n : Int) : zF (.int k n) = [.int k n] := rfl
theorem qPV (b : Bool) : zF (.bool b) = [.bool b] := rfl
theorem qKJ (s : ByteArray) : zF (.string s) = [.string s] := rfl
theorem qNF (a : Option Addr) (n c : Nat) : zF (.slice a n c) = [.slice a n c] := rfl
theorem qHT (a : Option Addr) : zF (.pointer a) = [.pointer a] := rfl
theorem qNG (t : TypeId) (v : Value) : zF (.iface t v) = [.iface t v] := rfl
theorem qGW : zF .nilIface = [.nilIface] := rfl
theorem qPU (f : Fn) (a b : Array Value) : zF (.func f a b) = [.func f a b] := rfl
theorem qTV (a : Option Nat) : zF (.map a) = [.map a] := rfl
theorem qTX (l : List Value) : zF (.agg l.toArray) = l := rfl
theorem zHG (c : Prop) [Decidable c] (x y : Bool) : (if c then Value.bool x else Value.bool y) = Value.bool (if c then x else y) := by split <;> rfl
theorem qUI (a b : List UInt8) : (⟨a.toArray⟩ : ByteArray) ++ ⟨b.toArray⟩ = ⟨(a ++ b).toArray⟩ := by
 apply ByteArray.ext
 simp
theorem qQD (a : List UInt8) : (⟨a.toArray⟩ : ByteArray).size = a.length := by simp [ByteArray.size]
theorem uI (a b : List UInt8) : ((⟨a.toArray⟩ : ByteArray) = ⟨b.toArray⟩) = (a = b) := by simp [ByteArray.mk.injEq]
end Go.Tk
end
