/- Each operation with its types looked up does what the operation does: slices cut, calls; and all of them together. -/
import Derived.Test.YtllhdnfcneejaaaA7
set_option linter.unusedVariables false
set_option linter.unusedSimpArgs false
namespace Go.Tk
open Go

section
variable {P : Program} {ρ : Operand → Value} {h : H} {K : Value → H → Prop} {X : List PanicEntry → H → Prop} {ty : TypeId}

theorem SH_bounds {isSlice : Bool} {len cap : Nat} {lo hi : Option Operand} {l u : Int} {Q : Nat × Nat × Nat → H → Prop} {E : Value → H → Prop} (hl : lowB ρ lo = some l) (hu : highB ρ len hi = some u) (hb : 0 ≤ l ∧ l ≤ u ∧ u ≤ (cap : Int)) :
    SH P (Instr.sliceBounds isSlice len cap (lo.map ρ) (hi.map ρ) none) Q E h = Q (l.toNat, u.toNat, cap) h := by
  have one : ∀ (x : Operand) (n : Int) (m : Nat) (c : BoundsCode) {Q : Nat → H → Prop}, (match ρ x with | .int _ n => some n | _ => none) = some n → 0 ≤ n → n ≤ (m : Int) → SH P (Instr.sliceBound (ρ x) m c) Q E h = Q n.toNat h := by
    intro x n m c Q hx h0 h1
    split at hx
    · rename_i k n' e
      cases hx
      simp only [Instr.sliceBound, e, asIntOf, SH_bind', SH_pure, h0, h1, and_self, if_true]
    · cases hx
  unfold Instr.sliceBounds
  cases hi with
  | none =>
    simp only [highB, Option.some.injEq] at hu
    subst hu
    cases lo with
    | none =>
      simp only [lowB, Option.some.injEq] at hl
      subst hl
      simp only [Option.map_none, SH_bind', SH_pure, Int.toNat_natCast, Int.toNat_zero]
    | some x =>
      simp only [lowB] at hl
      simp only [Option.map_none, Option.map_some, SH_bind', SH_pure, Int.toNat_natCast]
      rw [one x l len _ hl hb.1 hb.2.1]
  | some y =>
    simp only [highB] at hu
    cases lo with
    | none =>
      simp only [lowB, Option.some.injEq] at hl
      subst hl
      simp only [Option.map_none, Option.map_some, SH_bind', SH_pure, Int.toNat_zero]
      rw [one y u cap _ hu (by omega) hb.2.2]
    | some x =>
      simp only [lowB] at hl
      simp only [Option.map_none, Option.map_some, SH_bind', SH_pure]
      rw [one y u cap _ hu (by omega) hb.2.2, one x l u.toNat _ hl hb.1 (by omega)]

theorem s_slc {t e : TypeId} {x : Operand} {i : TypeInfo} {lo hi : Option Operand} (hd : P.underlying t = some (.slice e)) (hi' : P.info? e = some i) (hv : vop P ρ h K X (.slc x i.size lo hi)) : SH P (execOp ρ (mkO (.slice t x lo hi none) ty)) (nextK P K X) (pK X) h := by
  simp only [vop] at hv
  simp only [execOp, mkO, wrap_v]
  split at hv
  · rename_i a len cap hx
    split at hv
    · rename_i l u hl hu
      simp only [Instr.sliceAt, SH_bind', SH_underlying hd, Instr.slice, hx, Option.map_none, SH_bounds hl hu hv.1, SH_sizeOf hi', SH_pure]
      exact hv.2
    · exact hv.elim
  · exact hv.elim

theorem s_slT {t : TypeId} {x : Operand} {lo hi : Option Operand} (hd : P.underlying t = some .string) (hv : vop P ρ h K X (.slT x lo hi)) : SH P (execOp ρ (mkO (.slice t x lo hi none) ty)) (nextK P K X) (pK X) h := by
  simp only [vop] at hv
  simp only [execOp, mkO, wrap_v]
  split at hv
  · rename_i s hx
    split at hv
    · rename_i l u hl hu
      simp only [Instr.sliceAt, SH_bind', SH_underlying hd, Instr.slice, hx, Option.map_none, Option.isSome_none, Bool.false_eq_true, if_false, SH_pure]
      rw [SH_bounds hl hu hv.1]
      rw [show s.extract l.toNat u.toNat = ⟨((s.data.toList.drop l.toNat).take (u.toNat - l.toNat)).toArray⟩ from by
        apply ByteArray.ext
        apply Array.ext'
        rw [ByteArray.data_extract]
        simp]
      exact hv.2
    · exact hv.elim
  · exact hv.elim

theorem callFunc_SH {f : FuncId} {args : Array Value} {Q : Next → H → Prop} {E : Value → H → Prop} (hc : callOk P f = true) : SH P (callFunc f args) Q E h = Q (.enter f args) h := by
  unfold callOk at hc
  unfold callFunc
  split at hc
  · rename_i fn hfn
    simp only [Bool.and_eq_true, Bool.not_eq_true'] at hc
    have hb : fn.body.isNone = false := by
      cases e : fn.body with
      | none => rw [e] at hc; cases hc.1
      | some c => rfl
    simp only [program, SH_bind', SH, hfn, hc.2, hb, Bool.false_eq_true, if_false]
    rfl
  · cases hc

theorem s_call {f : FuncId} {args : Array Operand} {ats : Array TypeId} (hc : callOk P f = true) (hρ : ρ (.func f) = .func (.func f) #[] #[]) (hv : vop P ρ h K X (.call f args.toList)) :
    SH P (execOp ρ (mkO (.call { callee := .value (.func f), args := args, argTypes := ats }) ty)) (nextK P K X) (pK X) h := by
  simp only [vop] at hv
  simp only [execOp, mkO, resolve, hρ, Deferred.ofValue, SH_bind', SH_pure, invoke, Array.empty_append, Array.append_empty, callFunc_SH hc]
  rw [show Array.map ρ args = (args.toList.map ρ).toArray from by apply Array.ext'; simp]
  exact hv

theorem s_callv {x : Operand} {args : Array Operand} {ats : Array TypeId} (hv : vop P ρ h K X (.callv x args.toList)) :
    SH P (execOp ρ (mkO (.call { callee := .value x, args := args, argTypes := ats }) ty)) (nextK P K X) (pK X) h := by
  simp only [vop] at hv
  split at hv
  · rename_i g fi ca hx
    obtain ⟨hc, hv⟩ := hv
    simp only [execOp, mkO, resolve, hx, Deferred.ofValue, SH_bind', SH_pure, invoke, callFunc_SH hc]
    rw [show Array.map ρ args = (args.toList.map ρ).toArray from by apply Array.ext'; simp]
    exact hv
  · exact hv.elim

theorem s_inv {x : Operand} {name : String} {args : Array Operand} {ats : Array TypeId} (hv : vop P ρ h K X (.inv x name args.toList)) :
    SH P (execOp ρ (mkO (.call { callee := .invoke x name, args := args, argTypes := ats }) ty)) (nextK P K X) (pK X) h := by
  simp only [vop] at hv
  split at hv
  · rename_i t v hx
    obtain ⟨g, r, hm, hc, hv⟩ := hv
    simp only [execOp, mkO, resolve, SH_bind', SH_pure, invoke, hx]
    have h0 : ((#[Value.iface t v] : Array Value) ++ Array.map ρ args)[0]? = some (Value.iface t v) := by
      rw [Array.getElem?_append]; simp
    have hp : ∀ {Q : Program → H → Prop} {E : Value → H → Prop}, SH P program Q E h = Q P h := rfl
    simp only [h0, callMethod, SH_bind', hp]
    rw [evH_SH _ hm]
    simp only [callFunc_SH hc]
    rw [show (#[Value.iface t v] ++ Array.map ρ args).extract 1 (#[Value.iface t v] ++ Array.map ρ args).size = (args.toList.map ρ).toArray from by
      apply Array.ext'; simp; rw [List.take_of_length_le (by simp)]]
    exact hv
  · exact hv.elim

/-- All operations. -/
theorem ci_sound (op : Op) (hcl : ∀ v h, dP K v h → K v h) (hc : ∀ v, ρ (.const v) = v) (hf : ∀ f, ρ (.func f) = .func (.func f) #[] #[]) (hv : vop P ρ h K X (ci P op ty)) : SH P (execOp ρ (mkO op ty)) (nextK P K X) (pK X) h := by
  unfold ci at hv
  split at hv
  · exact hv
  · exact hv
  · exact s_pick hv
  · split at hv
    · rename_i d i hd hi; exact s_load hd hi hv
    · exact hv
  · split at hv
    · rename_i i hi; exact s_store hi hv
    · exact hv
  · split at hv
    · rename_i z hz; exact s_alloc hz hv
    · exact hv
  · exact s_box hv
  · split at hv
    · rename_i off n agg hf'
      split at hv
      · exact hv
      · rename_i hn; exact s_fld hf' hn hv
    · exact hv
  · split at hv
    · rename_i off n agg hf'; exact s_get hf' hv
    · exact hv
  · split at hv
    · rename_i e hd
      split at hv
      · rename_i ie hi; exact s_idxS hd hi hv
      · exact hv
    · rename_i len e hd
      split at hv
      · rename_i ie hi; exact s_idxA hd hi hv
      · exact hv
    · exact hv
  · split at hv
    · rename_i hd; exact s_idxT hd hv
    · exact hv
  · exact s_nilc hv
  · unfold ciEq at hv
    split at hv
    · rename_i hd; exact s_beq (neg := false) rfl hd hv
    · rename_i ms hd; exact s_ieq (neg := false) rfl hd hv
    · rename_i e hd; exact s_leq (neg := false) rfl hd hv
    · exact s_bin hv
  · unfold ciEq at hv
    split at hv
    · rename_i hd; exact s_beq (neg := true) rfl hd hv
    · rename_i ms hd; exact s_ieq (neg := true) rfl hd hv
    · rename_i e hd; exact s_leq (neg := true) rfl hd hv
    · exact s_bin hv
  · exact s_bin hv
  · exact s_not hv
  · split at hv
    · rename_i k' k hs hd; exact s_conv hs hd hv
    · rename_i e hs hd
      split at hv
      · rename_i he; exact s_btos hs hd he hv
      · exact hv
    · exact hv
  · split at hv
    · exact hv
    · exact hv
    · rename_i d hn hd; exact s_iface hd (fun ms e => hn ms e) hv
  · exact s_fn hv
  · split at hv
    · rename_i fs z hd hz
      split at hv
      · rename_i pl hpl
        split at hv
        · rename_i l hl; exact s_build hd hz hpl hl hv
        · exact hv
      · exact hv
    · exact hv
  · split at hv
    · rename_i e hd
      split at hv
      · rename_i i hi
        split at hv
        · rename_i z hz
          split at hv
          · rename_i hs; exact s_bslice hd hi hz hs.1 hs.2 hv
          · exact hv
        · exact hv
      · exact hv
    · exact hv
  · split at hv
    · rename_i e hd
      split at hv
      · rename_i i hi
        split at hv
        · rename_i z hz
          split at hv
          · rename_i hs; exact s_mslice hd hi hz hs hv
          · exact hv
        · exact hv
      · exact hv
    · exact hv
  · unfold ciSlice at hv
    split at hv
    · rename_i hd; exact s_slT hd hv
    · rename_i e hd
      split at hv
      · rename_i i hi; exact s_slc hd hi hv
      · exact hv
    · exact hv
  · exact s_ext hv
  · split at hv
    · exact hv
    · rename_i d z hn hd hz; exact s_asrt hd (fun ms e => hn ms e) hz hv
    · exact hv
  · rename_i c
    obtain ⟨callee, args, ats⟩ := c
    unfold ciCall at hv
    simp only at hv
    split at hv
    · split at hv
      · rename_i x t ha ht
        split at hv
        · rename_i hd; exact s_lenT hd hv _ _ ha ht
        · rename_i e hd; exact s_lenS hd hv _ _ ha ht
        · rename_i n e hd; exact s_lenA hd hv _ _ ha ht (hc _)
        · exact hv
      · exact hv
    · split at hv
      · rename_i x y t u ha ht
        obtain ⟨args⟩ := args; obtain ⟨ats⟩ := ats
        simp only at ha ht
        subst ha; subst ht
        simp only [vop] at hv
        simp only [execOp, mkO, resolve, SH_bind', SH_pure, invoke, builtin, wrap_v]
        simp only [List.map_toArray, List.map_cons, List.map_nil]
        exact SH_mono _ (fun v h k => hcl v h k) (fun v h k => k) hv
      · exact hv
    · exact hv
    · split at hv
      · rename_i hok; exact s_call hok (hf _) hv
      · exact hv
    · exact s_callv hv
    · exact s_inv hv
  · exact hv
end

theorem vop_mono {P : Program} {ρ : Operand → Value} {h : H} {K K' : Value → H → Prop} {X X' : List PanicEntry → H → Prop} {i : I} (hk : ∀ v h, K v h → K' v h) (hx : ∀ c h, X c h → X' c h) (x : vop P ρ h K X i) : vop P ρ h K' X' i := by
  have hret : ∀ e h, retK K X e h → retK K' X' e h := fun e h r => by cases e <;> first | exact hk _ _ r | exact hx _ _ r | exact r
  have hnext : ∀ n h, nextK P K X n h → nextK P K' X' n h := fun n h r => by
    cases n <;> simp only [nextK] at r ⊢
    case value v => exact hk _ _ r
    case skip => exact hk _ _ r
    case enter f args => exact r.mono hret
    case row row args => exact fun w s => (r w s).mono fun v w' ⟨h', k, p⟩ => ⟨h', hk _ _ k, p⟩
  cases i <;> simp only [vop] at x ⊢
  case call f args => exact x.mono hret
  case app => exact SH_mono _ (fun v h ⟨g, sb, k⟩ => ⟨g, sb, hk _ _ k⟩) (fun v h => hx _ h) x
  case raw => exact SH_mono _ hnext (fun v h => hx _ h) x
  case callv => split at x <;> first | exact ⟨x.1, x.2.mono hret⟩ | exact x
  case inv => split at x <;> first | (obtain ⟨g, r, h1, h2, h3⟩ := x; exact ⟨g, r, h1, h2, h3.mono hret⟩) | exact x
  case bin =>
    split at x
    · refine ⟨x.1, ?_⟩
      have := x.2
      split at this <;> first | exact hk _ _ this | exact this
    · split at x <;> first | exact hk _ _ x | exact x
    · exact SH_mono _ hk (fun v h => hx _ h) x
  case alloc => exact fun j hj => hk _ _ (x j hj)
  case box => exact fun j hj => hk _ _ (x j hj)
  case mslice => split at x <;> first | exact ⟨x.1, fun j hj => hk _ _ (x.2 j hj)⟩ | exact x
  case bslice => split at x <;> first | exact fun j hj => hk _ _ (x j hj) | exact x
  case store =>
    split at x
    · refine ⟨x.1, x.2.1, ?_⟩
      have := x.2.2
      split at this <;> first | exact hk _ _ this | exact this
    · exact x
  case idxT =>
    split at x
    · refine ⟨x.1, ?_⟩
      have := x.2
      split at this <;> first | exact hk _ _ this | exact this
    · exact x
  case asrt =>
    split at x
    · split
      · rename_i hc; rw [if_pos hc] at x; exact hk _ _ x
      · rename_i hc; rw [if_neg hc] at x; exact ⟨x.1, hk _ _ x.2⟩
    · exact ⟨x.1, hk _ _ x.2⟩
    · exact x
  case get =>
    split at x
    · split
      · rename_i hc; rw [if_pos hc] at x; exact hk _ _ x
      · rename_i hc; rw [if_neg hc] at x; split at x <;> first | exact hk _ _ x | exact x
    · exact x
  all_goals first
    | exact hk _ _ x
    | (split at x <;> first | exact hk _ _ x | exact ⟨x.1, hk _ _ x.2⟩ | exact x.elim | (split at x <;> first | exact hk _ _ x | exact ⟨x.1, hk _ _ x.2⟩ | exact x.elim))


end Go.Tk
