/- Each operation with its types looked up does what the operation does: the rest of them. -/
import Derived.Test.YtllhdnfcneejaaaA5
set_option linter.unusedVariables false
set_option linter.unusedSimpArgs false
namespace Go.Tk
open Go

section
variable {P : Program} {ρ : Operand → Value} {h : H} {K : Value → H → Prop} {X : List PanicEntry → H → Prop} {ty : TypeId}

theorem equal_depth (t : TypeId) (x y : Value) : Op.equal t x y = Op.equalIn (9999 + 1) t x y := rfl

theorem equalIn_bool {d : Nat} {t : TypeId} {a b : Bool} {Q : Bool → H → Prop} {E : Value → H → Prop} (hd : P.underlying t = some .bool) : SH P (Op.equalIn (d + 1) t (.bool a) (.bool b)) Q E h = Q (a == b) h := by
  simp only [Op.equalIn, SH_bind', SH_underlying hd, SH_pure]
theorem equalIn_nils {d : Nat} {t : TypeId} {ms : Array (String × TypeId)} {Q : Bool → H → Prop} {E : Value → H → Prop} (hd : P.underlying t = some (.interface ms)) : SH P (Op.equalIn (d + 1) t .nilIface .nilIface) Q E h = Q true h := by
  simp only [Op.equalIn, SH_bind', SH_underlying hd, SH_pure]
theorem equalIn_nil1 {d : Nat} {t u : TypeId} {v : Value} {ms : Array (String × TypeId)} {Q : Bool → H → Prop} {E : Value → H → Prop} (hd : P.underlying t = some (.interface ms)) : SH P (Op.equalIn (d + 1) t .nilIface (.iface u v)) Q E h = Q false h := by
  simp only [Op.equalIn, SH_bind', SH_underlying hd, SH_pure]
theorem equalIn_nil2 {d : Nat} {t u : TypeId} {v : Value} {ms : Array (String × TypeId)} {Q : Bool → H → Prop} {E : Value → H → Prop} (hd : P.underlying t = some (.interface ms)) : SH P (Op.equalIn (d + 1) t (.iface u v) .nilIface) Q E h = Q false h := by
  simp only [Op.equalIn, SH_bind', SH_underlying hd, SH_pure]
theorem equalIn_slice1 {d : Nat} {t e : TypeId} {n1 n2 n3 n4 : Nat} {b : Option Addr} {Q : Bool → H → Prop} {E : Value → H → Prop} (hd : P.underlying t = some (.slice e)) : SH P (Op.equalIn (d + 1) t (.slice none n1 n2) (.slice b n3 n4)) Q E h = Q b.isNone h := by
  simp only [Op.equalIn, SH_bind', SH_underlying hd, SH_pure]
theorem equalIn_slice2 {d : Nat} {t e : TypeId} {n1 n2 n3 n4 : Nat} {a : Addr} {Q : Bool → H → Prop} {E : Value → H → Prop} (hd : P.underlying t = some (.slice e)) : SH P (Op.equalIn (d + 1) t (.slice (some a) n1 n2) (.slice none n3 n4)) Q E h = Q false h := by
  simp only [Op.equalIn, SH_bind', SH_underlying hd, SH_pure]

theorem s_beq {op : BinOp} {neg : Bool} {t u : TypeId} {x y : Operand} (ho : op = if neg then .neq else .eql) (hd : P.underlying t = some .bool) (hv : vop P ρ h K X (.beq neg x y)) : SH P (execOp ρ (mkO (.binOp op t x y u) ty)) (nextK P K X) (pK X) h := by
  simp only [vop] at hv
  simp only [execOp, mkO, wrap_v]
  split at hv
  · rename_i a b hx hy
    rw [hx, hy, eqGuard_quick (by simp) (by simp), SH_bind', SH_pure]
    subst ho
    cases neg
    · show SH P (do pure (Value.bool (← Op.equal t (.bool a) (.bool b)))) K (pK X) h
      rw [SH_bind', equal_depth, equalIn_bool hd]; exact hv
    · show SH P (do pure (Value.bool (!(← Op.equal t (.bool a) (.bool b))))) K (pK X) h
      rw [SH_bind', equal_depth, equalIn_bool hd]; exact hv
  · exact hv.elim

theorem s_ieq {op : BinOp} {neg : Bool} {t u : TypeId} {ms : Array (String × TypeId)} {x y : Operand} (ho : op = if neg then .neq else .eql) (hd : P.underlying t = some (.interface ms)) (hv : vop P ρ h K X (.ieq neg x y)) : SH P (execOp ρ (mkO (.binOp op t x y u) ty)) (nextK P K X) (pK X) h := by
  simp only [vop] at hv
  simp only [execOp, mkO, wrap_v]
  subst ho
  split at hv
  · rename_i hx hy
    obtain ⟨hc, hv⟩ := hv
    rw [hx, hy]
    have hg : eqGuard (if neg = true then .neq else .eql) t x y .nilIface .nilIface = pure () := by
      cases neg <;> exact if_pos hc
    rw [hg, SH_bind', SH_pure]
    cases neg
    · show SH P (do pure (Value.bool (← Op.equal t .nilIface .nilIface))) K (pK X) h
      rw [SH_bind', equal_depth, equalIn_nils hd]; exact hv
    · show SH P (do pure (Value.bool (!(← Op.equal t .nilIface .nilIface)))) K (pK X) h
      rw [SH_bind', equal_depth, equalIn_nils hd]; exact hv
  · rename_i t' v' hx hy
    rw [hx, hy, eqGuard_quick (by simp) (by simp), SH_bind', SH_pure]
    cases neg
    · show SH P (do pure (Value.bool (← Op.equal t .nilIface (.iface t' v')))) K (pK X) h
      rw [SH_bind', equal_depth, equalIn_nil1 hd]; exact hv
    · show SH P (do pure (Value.bool (!(← Op.equal t .nilIface (.iface t' v'))))) K (pK X) h
      rw [SH_bind', equal_depth, equalIn_nil1 hd]; exact hv
  · rename_i t' v' hx hy
    rw [hx, hy, eqGuard_quick (by simp) (by simp), SH_bind', SH_pure]
    cases neg
    · show SH P (do pure (Value.bool (← Op.equal t (.iface t' v') .nilIface))) K (pK X) h
      rw [SH_bind', equal_depth, equalIn_nil2 hd]; exact hv
    · show SH P (do pure (Value.bool (!(← Op.equal t (.iface t' v') .nilIface)))) K (pK X) h
      rw [SH_bind', equal_depth, equalIn_nil2 hd]; exact hv
  · exact hv.elim

theorem s_leq {op : BinOp} {neg : Bool} {t u e : TypeId} {x y : Operand} (ho : op = if neg then .neq else .eql) (hd : P.underlying t = some (.slice e)) (hv : vop P ρ h K X (.leq neg x y)) :
    SH P (execOp ρ (mkO (.binOp op t x y u) ty)) (nextK P K X) (pK X) h := by
  simp only [vop] at hv
  simp only [execOp, mkO, wrap_v]
  subst ho
  split at hv
  · rename_i n1 n2 b n3 n4 hx hy
    rw [hx, hy, eqGuard_quick (by simp) (by simp), SH_bind', SH_pure]
    cases neg
    · show SH P (do pure (Value.bool (← Op.equal t (.slice none n1 n2) (.slice b n3 n4)))) K (pK X) h
      rw [SH_bind', equal_depth, equalIn_slice1 hd]; exact hv
    · show SH P (do pure (Value.bool (!(← Op.equal t (.slice none n1 n2) (.slice b n3 n4))))) K (pK X) h
      rw [SH_bind', equal_depth, equalIn_slice1 hd]; exact hv
  · rename_i a n1 n2 n3 n4 hx hy
    rw [hx, hy, eqGuard_quick (by simp) (by simp), SH_bind', SH_pure]
    cases neg
    · show SH P (do pure (Value.bool (← Op.equal t (.slice (some a) n1 n2) (.slice none n3 n4)))) K (pK X) h
      rw [SH_bind', equal_depth, equalIn_slice2 hd]; exact hv
    · show SH P (do pure (Value.bool (!(← Op.equal t (.slice (some a) n1 n2) (.slice none n3 n4))))) K (pK X) h
      rw [SH_bind', equal_depth, equalIn_slice2 hd]; exact hv
  · exact hv.elim

theorem s_not {t : TypeId} {x : Operand} (hv : vop P ρ h K X (.not x)) : SH P (execOp ρ (mkO (.unOp .not t x) ty)) (nextK P K X) (pK X) h := by
  simp only [vop] at hv
  simp only [execOp, mkO, wrap_v]
  split at hv
  · rename_i b hx; rw [hx]; exact hv
  · exact hv.elim

theorem s_conv {s d : TypeId} {k k' : IntKind} {x : Operand} (hs : P.underlying s = some (.int k')) (hd : P.underlying d = some (.int k)) (hv : vop P ρ h K X (.conv k x)) : SH P (execOp ρ (mkO (.convert s d x) ty)) (nextK P K X) (pK X) h := by
  simp only [vop] at hv
  simp only [execOp, mkO, wrap_v]
  split at hv
  · rename_i kk n hx
    simp only [convert, hx, SH_bind', SH_underlying hs, SH_underlying hd, Conv.intToInt, SH_pure]
    exact hv
  · exact hv.elim

theorem toBytes_run : ∀ (l : List Value) (bs : List UInt8) (s : ByteArray) {Q : ByteArray → H → Prop} {E : Value → H → Prop}, toBytes l = some bs →
    SH P (forIn l s fun c r => (match c with | .int .u8 n => pure (ForInStep.yield (r.push (UInt8.ofNat n.toNat))) | _ => (stuck "bytesToString: byte expected" : Sem (ForInStep ByteArray)))) Q E h = Q ⟨s.data ++ bs.toArray⟩ h := by
  intro l
  induction l with
  | nil => intro bs s Q E hb; cases hb; simp [SH_pure]
  | cons c l ih =>
    intro bs s Q E hb
    cases c <;> first | (simp [toBytes] at hb; done) | skip
    rename_i k n
    cases k <;> first | (simp [toBytes] at hb; done) | skip
    simp only [toBytes, Option.map_eq_some_iff] at hb
    obtain ⟨bs, hb, rfl⟩ := hb
    simp only [List.forIn_cons, SH_bind', SH_pure]
    rw [ih bs _ hb]
    congr 1
    simp [ByteArray.push]

theorem s_btos {s d e : TypeId} {x : Operand} (hs : P.underlying s = some (.slice e)) (hd : P.underlying d = some .string) (he : P.underlying e = some (.int .u8)) (hv : vop P ρ h K X (.btos x)) : SH P (execOp ρ (mkO (.convert s d x) ty)) (nextK P K X) (pK X) h := by
  simp only [vop] at hv
  simp only [execOp, mkO, wrap_v]
  split at hv
  · rename_i n1 n2 hx
    simp only [convert, hx, SH_bind', SH_underlying hs, SH_underlying hd, SH_underlying he, Conv.bytesToString, SH_pure]
    exact hv
  · rename_i b k len cap hx
    split at hv
    · rename_i bs hbs
      obtain ⟨l, hl, hb⟩ := Option.bind_eq_some_iff.1 hbs
      simp only [convert, hx, SH_bind', SH_underlying hs, SH_underlying hd, SH_underlying he, Conv.bytesToString, SH_loadCells hl]
      rw [show forIn l.toArray ByteArray.empty = forIn l ByteArray.empty from by funext f; simp]
      have := toBytes_run (P := P) (h := h) l bs .empty (Q := fun s h => SH P (pure (Value.string s)) K (pK X) h) (E := pK X) hb
      simp only [SH_pure] at this
      refine cast ?_ hv
      symm
      refine Eq.trans ?_ (this.trans ?_)
      · congr 1
      · rw [show ByteArray.empty.data = #[] from rfl, Array.empty_append]
    · exact hv.elim
  · exact hv.elim

theorem s_iface {t : TypeId} {d : TypeDesc} {x : Operand} (hd : P.underlying t = some d) (hn : ∀ ms, d ≠ .interface ms) (hv : vop P ρ h K X (.iface t x)) : SH P (execOp ρ (mkO (.makeInterface t x) ty)) (nextK P K X) (pK X) h := by
  simp only [vop] at hv
  simp only [execOp, mkO, wrap_v]
  simp only [Instr.makeInterface, SH_bind', SH_underlying hd]
  cases d <;> first | exact hv | exact absurd rfl (hn _)

theorem s_fn {f : Fn} {fi ca : Array Operand} (hv : vop P ρ h K X (.fn f fi.toList ca.toList)) : SH P (execOp ρ (mkO (.makeFunc f fi ca) ty)) (nextK P K X) (pK X) h := by
  simp only [vop] at hv
  simp only [execOp, mkO, wrap_v]
  simp only [Instr.makeFunc, SH_pure]
  rw [show Array.map ρ fi = (fi.toList.map ρ).toArray from by apply Array.ext'; simp, show Array.map ρ ca = (ca.toList.map ρ).toArray from by apply Array.ext'; simp]
  exact hv

theorem s_ext {x : Operand} {i : Nat} (hv : vop P ρ h K X (.ext x i)) : SH P (execOp ρ (mkO (.extract x i) ty)) (nextK P K X) (pK X) h := by
  simp only [vop] at hv
  simp only [execOp, mkO, wrap_v]
  split at hv
  · rename_i vs hx
    split at hv
    · rename_i v hvv
      rw [hx]
      simp only [Instr.extract]
      rw [show vs[i]? = some v from by simpa using hvv]
      exact hv
    · exact hv.elim
  · exact hv.elim

theorem s_asrt {t t' : TypeId} {d : TypeDesc} {x : Operand} {z : Value} {ok : Bool} (hd : P.underlying t = some d) (hn : ∀ ms, d ≠ .interface ms) (hz : zeroOf P t = some z) (hv : vop P ρ h K X (.asrt x t z ok)) :
    SH P (execOp ρ (mkO (.typeAssert x t' t ok) ty)) (nextK P K X) (pK X) h := by
  unfold zeroOf at hz
  obtain ⟨i, hi, hz⟩ := Option.bind_eq_some_iff.1 hz
  simp only [vop] at hv
  simp only [execOp, mkO, wrap_v]
  split at hv
  · rename_i t2 v hx
    rw [hx]
    by_cases e : t2 = t
    · rw [if_pos e] at hv
      simp only [Instr.typeAssert, SH_bind', SH_underlying hd]
      cases d <;> first | exact absurd rfl (hn _) | (simp only [e, if_true, SH_pure]; exact hv)
    · rw [if_neg e] at hv
      obtain ⟨rfl, hv⟩ := hv
      simp only [Instr.typeAssert, SH_bind', SH_underlying hd]
      cases d <;> first | exact absurd rfl (hn _) | (simp only [e, if_true, if_false, SH_bind', SH_zeroValue hi hz, SH_pure]; exact hv)
  · rename_i hx
    rw [hx]
    obtain ⟨rfl, hv⟩ := hv
    simp only [Instr.typeAssert, SH_bind', SH_underlying hd]
    cases d <;> first | exact absurd rfl (hn _) | (simp only [if_true, if_false, SH_bind', SH_zeroValue hi hz, SH_pure]; exact hv)
  · exact hv.elim

theorem s_lenT {t : TypeId} {x : Operand} (hd : P.underlying t = some .string) (hv : vop P ρ h K X (.lenT x)) (ats : Array TypeId) (args : Array Operand) (ha : args.toList = [x]) (hats : ats.toList = [t]) :
    SH P (execOp ρ (mkO (.call { callee := .builtin .len, args := args, argTypes := ats }) ty)) (nextK P K X) (pK X) h := by
  obtain ⟨args⟩ := args; obtain ⟨ats⟩ := ats
  simp only at ha hats
  subst ha; subst hats
  simp only [vop] at hv
  simp only [execOp, mkO, resolve, SH_bind', SH_pure, invoke, builtin, wrap_v, Builtin.len_]
  simp only [List.map_toArray, List.map_cons, List.map_nil, List.getElem?_toArray, List.getElem?_cons_zero]
  split at hv
  · rename_i s hx
    simp only [hx, SH_bind', SH_underlying hd, SH_pure]; exact hv
  · exact hv.elim

theorem s_lenS {t e : TypeId} {x : Operand} (hd : P.underlying t = some (.slice e)) (hv : vop P ρ h K X (.lenS x)) (ats : Array TypeId) (args : Array Operand) (ha : args.toList = [x]) (hats : ats.toList = [t]) :
    SH P (execOp ρ (mkO (.call { callee := .builtin .len, args := args, argTypes := ats }) ty)) (nextK P K X) (pK X) h := by
  obtain ⟨args⟩ := args; obtain ⟨ats⟩ := ats
  simp only at ha hats
  subst ha; subst hats
  simp only [vop] at hv
  simp only [execOp, mkO, resolve, SH_bind', SH_pure, invoke, builtin, wrap_v, Builtin.len_]
  simp only [List.map_toArray, List.map_cons, List.map_nil, List.getElem?_toArray, List.getElem?_cons_zero]
  split at hv
  · rename_i a n c hx
    simp only [hx, SH_bind', SH_underlying hd, SH_pure]; exact hv
  · exact hv.elim

theorem s_lenA {t e : TypeId} {n : Nat} {x : Operand} (hd : P.underlying t = some (.array n e)) (hv : vop P ρ h K X (.mov (.const (.int .i64 n)))) (ats : Array TypeId) (args : Array Operand) (ha : args.toList = [x]) (hats : ats.toList = [t])
    (hρ : ρ (.const (.int .i64 n)) = .int .i64 n) :
    SH P (execOp ρ (mkO (.call { callee := .builtin .len, args := args, argTypes := ats }) ty)) (nextK P K X) (pK X) h := by
  obtain ⟨args⟩ := args; obtain ⟨ats⟩ := ats
  simp only at ha hats
  subst ha; subst hats
  simp only [vop, hρ] at hv
  simp only [execOp, mkO, resolve, SH_bind', SH_pure, invoke, builtin, wrap_v, Builtin.len_]
  simp only [List.map_toArray, List.map_cons, List.map_nil, List.getElem?_toArray, List.getElem?_cons_zero]
  simp only [SH_bind', SH_underlying hd, SH_pure]
  exact hv
end
end Go.Tk
