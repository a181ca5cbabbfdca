/- The walk's words as one. -/
import Derived.Test.YtllhdnfcneejaaaA10
set_option linter.unusedVariables false
set_option linter.unusedSimpArgs false
namespace Go.Tk
open Go
theorem walk :
    (∀ (P : Program) (l : List N) (env : List Value) (h : H) (K : KK), vc P (.ops l) env h K = vops P l env h K) ∧
    (∀ (P : Program) (a b : C) (env : List Value) (h : H) (K : KK), vc P (.seq a b) env h K = vc P a env h (seqC P b K)) ∧
    (∀ (P : Program) (id : Nat) (c : C) (env : List Value) (h : H) (K : KK), vc P (.block id c) env h K = vc P c env h (blkC id K)) ∧
    (∀ (P : Program) (id : Nat) (env : List Value) (h : H) (K : KK), vc P (.exit id) env h K = K (.exit id) env h) ∧
    (∀ (P : Program) (env : List Value) (h : H) (K : KK), vc P .ret env h K = K .ret env h) ∧
    (∀ (P : Program) (env : List Value) (h : H) (K : KK), vc P .skip env h K = K .normal env h) ∧
    (∀ (P : Program) (t : Nat) (a b : C) (env : List Value) (h : H) (K : KK), vc P (.cond (.tmp t) a b) env h K = vif P (env.getD t undef) t a b env h K) ∧
    (∀ (P : Program) (c : Bool) (t : Nat) (a b : C) (env : List Value) (h : H) (K : KK), vif P (.bool c) t a b env h K = if c = true then vc P a (env.set t (.bool true)) h K else vc P b (env.set t (.bool false)) h K) ∧
    (∀ (P : Program) (b : C) (K : KK) (env : List Value) (h : H), seqC P b K .normal env h = vc P b env h K) ∧
    (∀ (P : Program) (b : C) (K : KK) (id : Nat) (env : List Value) (h : H), seqC P b K (.exit id) env h = K (.exit id) env h) ∧
    (∀ (P : Program) (b : C) (K : KK) (env : List Value) (h : H), seqC P b K .ret env h = K .ret env h) ∧
    (∀ (P : Program) (b : C) (K : KK) (c : List PanicEntry) (env : List Value) (h : H), seqC P b K (.panic c) env h = K (.panic c) env h) ∧
    (∀ (id : Nat) (K : KK) (env : List Value) (h : H), blkC id K .normal env h = K .normal env h) ∧
    (∀ (id id' : Nat) (K : KK) (env : List Value) (h : H), blkC id K (.exit id') env h = if id' = id then K .normal env h else K (.exit id') env h) ∧
    (∀ (id : Nat) (K : KK) (env : List Value) (h : H), blkC id K .ret env h = K .ret env h) ∧
    (∀ (id : Nat) (K : KK) (c : List PanicEntry) (env : List Value) (h : H), blkC id K (.panic c) env h = K (.panic c) env h) ∧
    (∀ (S : List Nat) (J : Nat → List Value → H → Prop) (n : Nat) (K : KK) (env : List Value) (h : H), lpC S J n K .normal env h = ∃ m, m < n ∧ ∃ g, Sub g h ∧ J m (S.map (env.getD · undef)) g) ∧
    (∀ (S : List Nat) (J : Nat → List Value → H → Prop) (n : Nat) (K : KK) (id : Nat) (env : List Value) (h : H), lpC S J n K (.exit id) env h = K (.exit id) env h) ∧
    (∀ (S : List Nat) (J : Nat → List Value → H → Prop) (n : Nat) (K : KK) (env : List Value) (h : H), lpC S J n K .ret env h = K .ret env h) ∧
    (∀ (S : List Nat) (J : Nat → List Value → H → Prop) (n : Nat) (K : KK) (c : List PanicEntry) (env : List Value) (h : H), lpC S J n K (.panic c) env h = K (.panic c) env h) ∧
    (∀ (P : Program) (env : List Value) (h : H) (K : KK), vops P [] env h K = K .normal env h) ∧
    (∀ (P : Program) (d : Option Nat) (i : I) (r : List N) (env : List Value) (h : H) (K : KK), vops P (⟨d, none, i⟩ :: r) env h K = vop P (evl env) h (cont P r d env K) (panK env K) i) ∧
    (∀ (P : Program) (d : Option Nat) (t : Nat) (w : Bool) (i : I) (r : List N) (env : List Value) (h : H) (K : KK), vops P (⟨d, some (t, w), i⟩ :: r) env h K = vgd P (env.getD t undef) t w d i r env h K) ∧
    (∀ (P : Program) (b : Bool) (t : Nat) (d : Option Nat) (i : I) (r : List N) (env : List Value) (h : H) (K : KK), vgd P (.bool b) t true d i r env h K = if b = true then vop P (evl (env.set t (.bool true))) h (cont P r d (env.set t (.bool true)) K) (panK (env.set t (.bool true)) K) i else vops P r (putE d undef (env.set t (.bool false))) h K) ∧
    (∀ (P : Program) (b : Bool) (t : Nat) (d : Option Nat) (i : I) (r : List N) (env : List Value) (h : H) (K : KK), vgd P (.bool b) t false d i r env h K = if b = true then vops P r (putE d undef (env.set t (.bool true))) h K else vop P (evl (env.set t (.bool false))) h (cont P r d (env.set t (.bool false)) K) (panK (env.set t (.bool false)) K) i) ∧
    (∀ (P : Program) (t : Nat) (w : Bool) (d : Option Nat) (i : I) (r : List N) (env : List Value) (h : H) (K : KK), vgd P undef t w d i r env h K = vops P r (putE d undef env) h K) ∧
    (∀ (P : Program) (r : List N) (d : Nat) (env : List Value) (K : KK) (v : Value) (h : H), cont P r (some d) env K v h = vops P r (env.set d v) h K) ∧
    (∀ (P : Program) (r : List N) (env : List Value) (K : KK) (v : Value) (h : H), cont P r none env K v h = vops P r env h K) ∧
    (∀ (env : List Value) (K : KK) (c : List PanicEntry) (h : H), panK env K c h = K (.panic c) env h) ∧
    (∀ (d : Nat) (v : Value) (env : List Value), putE (some d) v env = env.set d v) ∧
    (∀ (v : Value) (env : List Value), putE none v env = env) ∧
    (∀ (P : Program) (env : List Value) (h hr : H) (K : KK), vdr P [] env h hr K = K .normal env h) ∧
    (∀ (P : Program) (k : Nat) (d : Option Nat) (i : I) (r : List D) (env : List Value) (h hr : H) (K : KK), vdr P (⟨k, ⟨d, none, i⟩⟩ :: r) env h hr K = vdo P k d i r env h hr K) ∧
    (∀ (P : Program) (k : Nat) (d : Option Nat) (t : Nat) (w : Bool) (i : I) (r : List D) (env : List Value) (h hr : H) (K : KK), vdr P (⟨k, ⟨d, some (t, w), i⟩⟩ :: r) env h hr K = vgr P (env.getD t undef) t w k d i r env h hr K) ∧
    (∀ (P : Program) (b : Bool) (t k : Nat) (d : Option Nat) (i : I) (r : List D) (env : List Value) (h hr : H) (K : KK), vgr P (.bool b) t true k d i r env h hr K = if b = true then vdo P k d i r (env.set t (.bool true)) h hr K else vdr P r (putE d undef (env.set t (.bool false))) h hr K) ∧
    (∀ (P : Program) (b : Bool) (t k : Nat) (d : Option Nat) (i : I) (r : List D) (env : List Value) (h hr : H) (K : KK), vgr P (.bool b) t false k d i r env h hr K = if b = true then vdr P r (putE d undef (env.set t (.bool true))) h hr K else vdo P k d i r (env.set t (.bool false)) h hr K) ∧
    (∀ (P : Program) (t : Nat) (w : Bool) (k : Nat) (d : Option Nat) (i : I) (r : List D) (env : List Value) (h hr : H) (K : KK), vgr P undef t w k d i r env h hr K = vdr P r (putE d undef env) h hr K) ∧
    (∀ (P : Program) (d : Option Nat) (i : I) (r : List D) (env : List Value) (h hr : H) (K : KK), vdo P 0 d i r env h hr K = vfl (evl env) hr (fcont P r d env h hr K) i) ∧
    (∀ (P : Program) (d : Option Nat) (f : FuncId) (args : List Operand) (r : List D) (env : List Value) (h hr : H) (K : KK), vdo P 1 d (.call f args) r env h hr K = pcall P f (args.map (evl env)).toArray hr (fcont P r d env h hr K)) ∧
    (∀ (P : Program) (d : Option Nat) (i : I) (r : List D) (env : List Value) (h hr : H) (K : KK), vdo P 2 d i r env h hr K = vop P (evl env) h (bcont P r d env hr K) noX i) ∧
    (∀ (P : Program) (d : Option Nat) (i : I) (r : List D) (env : List Value) (h hr : H) (K : KK), vdo P 3 d i r env h hr K = vop P (evl env) h (tcont P r d env hr K) noX i) ∧
    (∀ (P : Program) (d : Option Nat) (i : I) (r : List D) (env : List Value) (h hr : H) (K : KK), vdo P 4 d i r env h hr K = vop P (evl env) h (ncont P r d env hr K) noX i) ∧
    (∀ (P : Program) (r : List D) (d : Nat) (env : List Value) (h hr : H) (K : KK) (v : Value), fcont P r (some d) env h hr K v = vdr P r (env.set d v) h hr K) ∧
    (∀ (P : Program) (r : List D) (d : Nat) (env : List Value) (hr : H) (K : KK) (v : Value) (h : H), bcont P r (some d) env hr K v h = (Sub hr h ∧ vdr P r (env.set d v) h hr K)) ∧
    (∀ (P : Program) (r : List D) (env : List Value) (hr : H) (K : KK) (v : Value) (h : H), bcont P r none env hr K v h = (Sub hr h ∧ vdr P r env h hr K)) ∧
    (∀ (P : Program) (r : List D) (d : Nat) (env : List Value) (hr : H) (K : KK) (v : Value) (h : H), ncont P r (some d) env hr K v h = (Sub hr h ∧ vdr P r (env.set d v) h h K)) ∧
    (∀ (P : Program) (r : List D) (env : List Value) (hr : H) (K : KK) (v : Value) (h : H), ncont P r none env hr K v h = (Sub hr h ∧ vdr P r env h h K)) ∧
    (∀ (P : Program) (r : List D) (d : Nat) (env : List Value) (hr : H) (K : KK) (v : Value) (h : H), tcont P r (some d) env hr K v h = vdr P r (env.set d v) h hr K) ∧
    (∀ (P : Program) (r : List D) (env : List Value) (hr : H) (K : KK) (v : Value) (h : H), tcont P r none env hr K v h = vdr P r env h hr K) ∧
    (∀ (rs : List RV) (R : Ending → H → Prop) (env : List Value) (h : H), bodyC rs R .normal env h = endV R h (resL env h rs)) ∧
    (∀ (rs : List RV) (R : Ending → H → Prop) (env : List Value) (h : H), bodyC rs R .ret env h = endV R h (resL env h rs)) ∧
    (∀ (rs : List RV) (R : Ending → H → Prop) (c : List PanicEntry) (env : List Value) (h : H), bodyC rs R (.panic c) env h = R (.panicked c) h) ∧
    (∀ (R : Ending → H → Prop) (h : H), endV R h (some []) = R (.returned (.tuple #[])) h) ∧
    (∀ (R : Ending → H → Prop) (h : H) (v : Value), endV R h (some [v]) = R (.returned v) h) ∧
    (∀ (R : Ending → H → Prop) (h : H) (v u : Value), endV R h (some [v, u]) = R (.returned (.tuple #[v, u])) h) ∧
    (∀ (R : Ending → H → Prop) (h : H) (v u x : Value), endV R h (some [v, u, x]) = R (.returned (.tuple #[v, u, x])) h) ∧
    (∀ (env : List Value) (t : Nat), evl env (.tmp t) = env.getD t undef) ∧
    (∀ (env : List Value) (v : Value), evl env (.const v) = v) ∧
    (∀ (env : List Value) (f : FuncId), evl env (.func f) = .func (.func f) #[] #[]) ∧
    (∀ (K : Value → H → Prop) (X : List PanicEntry → H → Prop) (v : Value) (h : H), retK K X (.returned v) h = K v h) ∧
    (∀ (K : Value → H → Prop) (X : List PanicEntry → H → Prop) (c : List PanicEntry) (h : H), retK K X (.panicked c) h = X c h) ∧
    (∀ (h : H), Sub h h = True) ∧
    (∀ (env : List Value) (f : Nat → Value), hav env [] f = env) ∧
    (∀ (env : List Value) (i : Nat) (W : List Nat) (f : Nat → Value), hav env (i :: W) f = hav (env.set i (f i)) W f) :=
  ⟨vc_ops, vc_seq, vc_block, vc_exit, vc_ret, vc_skip, vc_if, vif_bool, seqC_normal, seqC_exit, seqC_ret, seqC_panic, blkC_normal, blkC_exit, blkC_ret, blkC_panic, lpC_normal, lpC_exit, lpC_ret, lpC_panic, vops_nil, vops_cons, vops_guard, vgd_t, vgd_f, vgd_undef, cont_app, cont_app0, panK_app, putE_some, putE_none, vdr_nil, vdr_plain, vdr_guard, vgr_t, vgr_f, vgr_undef, vdo_0, vdo_1, vdo_2, vdo_3, vdo_4, fcont_some, bcont_some, bcont_none, ncont_some, ncont_none, tcont_some, tcont_none, bodyC_normal, bodyC_ret, bodyC_panic, endV_zero, endV_one, endV_two, endV_three, evl_tmp, evl_const, evl_func, retK_ret, retK_pan, Sub_self, hav_nil, hav_cons⟩

theorem lists {α : Type} : (∀ (x : α) (l : List α) (d : α), (x :: l).getD 0 d = x) ∧ (∀ (x : α) (l : List α) (n : Nat) (d : α), (x :: l).getD (n + 1) d = l.getD n d) ∧ (∀ (x y : α) (l : List α), (x :: l).set 0 y = y :: l) ∧ (∀ (x y : α) (l : List α) (n : Nat), (x :: l).set (n + 1) y = x :: l.set n y) :=
  ⟨fun _ _ _ => rfl, fun _ _ _ _ => rfl, fun _ _ _ => rfl, fun _ _ _ _ => rfl⟩
end Go.Tk
