/- Parts of the proof. -/
import Derived.IntWalk
import Derived.Test.YtjioiemhgbkbfaaGreatDoorK151
set_option maxHeartbeats 4000000
set_option maxRecDepth 100000
set_option linter.unusedVariables false
set_option linter.unusedSimpArgs false
set_option linter.defProp false
section
namespace Go.Tk
open Go
section
variable {P : Program} {ρ : Operand -> Value} {h : H} {K : Value -> H -> Prop} {X : List PanicEntry -> H -> Prop} {ty : TypeId}
theorem yY (t : TypeId) (x y : Value) : Op.equal t x y = Op.equalIn (9999 + 1) t x y := rfl
theorem qET {d : Nat} {t : TypeId} {a b : Bool} {Q : Bool -> H -> Prop} {E : Value -> H -> Prop} (hd : P.underlying t = some .bool) : SH P (Op.equalIn (d + 1) t (.bool a) (.bool b)) Q E h = Q (a == b) h := by
 simp only [Op.equalIn, qH, qQ hd, qU]
theorem qEQ {d : Nat} {t : TypeId} {ms : Array (String × TypeId)} {Q : Bool -> H -> Prop} {E : Value -> H -> Prop} (hd : P.underlying t = some (.interface ms)) : SH P (Op.equalIn (d + 1) t .nilIface .nilIface) Q E h = Q true h := by
 simp only [Op.equalIn, qH, qQ hd, qU]
theorem qES {d : Nat} {t u : TypeId} {v : Value} {ms : Array (String × TypeId)} {Q : Bool -> H -> Prop} {E : Value -> H -> Prop} (hd : P.underlying t = some (.interface ms)) : SH P (Op.equalIn (d + 1) t .nilIface (.iface u v)) Q E h = Q false h := by
 simp only [Op.equalIn, qH, qQ hd, qU]
theorem qER {d : Nat} {t u : TypeId} {v : Value} {ms : Array (String × TypeId)} {Q : Bool -> H -> Prop} {E : Value -> H -> Prop} (hd : P.underlying t = some (.interface ms)) : SH P (Op.equalIn (d + 1) t (.iface u v) .nilIface) Q E h = Q false h := by
 simp only [Op.equalIn, qH, qQ hd, qU]
theorem qBO {d : Nat} {t e : TypeId} {n1 n2 n3 n4 : Nat} {b : Option Addr} {Q : Bool -> H -> Prop} {E : Value -> H -> Prop} (hd : P.underlying t = some (.slice e)) : SH P (Op.equalIn (d + 1) t (.slice none n1 n2) (.slice b n3 n4)) Q E h = Q b.isNone h := by
 simp only [Op.equalIn, qH, qQ hd, qU]
theorem qBN {d : Nat} {t e : TypeId} {n1 n2 n3 n4 : Nat} {a : Addr} {Q : Bool -> H -> Prop} {E : Value -> H -> Prop} (hd : P.underlying t = some (.slice e)) : SH P (Op.equalIn (d + 1) t (.slice (some a) n1 n2) (.slice none n3 n4)) Q E h = Q false h := by
 simp only [Op.equalIn, qH, qQ hd, qU]
theorem s_beq {op : BinOp} {neg : Bool} {t u : TypeId} {x y : Operand} (ho : op = if neg then .neq else .eql) (hd : P.underlying t = some .bool) (hv : vop P ρ h K X (.beq neg x y)) : SH P (execOp ρ (mkO (.binOp op t x y u) ty)) (yS P K X) (pK X) h := by
 simp only [vop] at hv
 simp only [execOp, mkO, yP]
 split at hv
 ·rename_i a b hx hy
  rw [hx, hy, xY (by simp) (by simp), qH, qU]
  subst ho
  cases neg
  ·show SH P (do pure (Value.bool (<- Op.equal t (.bool a) (.bool b)))) K (pK X) h
   rw [qH, yY, qET hd]; exact hv
  ·show SH P (do pure (Value.bool (!(<- Op.equal t (.bool a) (.bool b))))) K (pK X) h
   rw [qH, yY, qET hd]; exact hv
 ·exact hv.elim
theorem s_ieq {op : BinOp} {neg : Bool} {t u : TypeId} {ms : Array (String × TypeId)} {x y : Operand} (ho : op = if neg then .neq else .eql) (hd : P.underlying t = some (.interface ms)) (hv : vop P ρ h K X (.ieq neg x y)) : SH P (execOp ρ (mkO (.binOp op t x y u) ty)) (yS P K X) (pK X) h := by
 simp only [vop] at hv
 simp only [execOp, mkO, yP]
 subst ho
 split at hv
 ·rename_i hx hy
  obtain ⟨hc, hv⟩ := hv
  rw [hx, hy]
  have hg : eqGuard (if neg = true then .neq else .eql) t x y .nilIface .nilIface = pure () := by
   cases neg <;> exact if_pos hc
  rw [hg, qH, qU]
  cases neg
  ·show SH P (do pure (Value.bool (<- Op.equal t .nilIface .nilIface))) K (pK X) h
   rw [qH, yY, qEQ hd]; exact hv
  ·show SH P (do pure (Value.bool (!(<- Op.equal t .nilIface .nilIface)))) K (pK X) h
   rw [qH, yY, qEQ hd]; exact hv
 ·rename_i t' v' hx hy
  rw [hx, hy, xY (by simp) (by simp), qH, qU]
  cases neg
  ·show SH P (do pure (Value.bool (<- Op.equal t .nilIface (.iface t' v')))) K (pK X) h
   rw [qH, yY, qES hd]; exact hv
  ·show SH P (do pure (Value.bool (!(<- Op.equal t .nilIface (.iface t' v'))))) K (pK X) h
   rw [qH, yY, qES hd]; exact hv
 ·rename_i t' v' hx hy
  rw [hx, hy, xY (by simp) (by simp), qH, qU]
  cases neg
  ·show SH P (do pure (Value.bool (<- Op.equal t (.iface t' v') .nilIface))) K (pK X) h
   rw [qH, yY, qER hd]; exact hv
  ·show SH P (do pure (Value.bool (!(<- Op.equal t (.iface t' v') .nilIface)))) K (pK X) h
   rw [qH, yY, qER hd]; exact hv
 ·exact hv.elim
theorem s_leq {op : BinOp} {neg : Bool} {t u e : TypeId} {x y : Operand} (ho : op = if neg then .neq else .eql) (hd : P.underlying t = some (.slice e)) (hv : vop P ρ h K X (.leq neg x y)) :
  SH P (execOp ρ (mkO (.binOp op t x y u) ty)) (yS P K X) (pK X) h := by
 simp only [vop] at hv
 simp only [execOp, mkO, yP]
 subst ho
 split at hv
 ·rename_i n1 n2 b n3 n4 hx hy
  rw [hx, hy, xY (by simp) (by simp), qH, qU]
  cases neg
  ·show SH P (do pure (Value.bool (<- Op.equal t (.slice none n1 n2) (.slice b n3 n4)))) K (pK X) h
   rw [qH, yY, qBO hd]; exact hv
  ·show SH P (do pure (Value.bool (!(<- Op.equal t (.slice none n1 n2) (.slice b n3 n4))))) K (pK X) h
   rw [qH, yY, qBO hd]; exact hv
 ·rename_i a n1 n2 n3 n4 hx hy
  rw [hx, hy, xY (by simp) (by simp), qH, qU]
  cases neg
  ·show SH P (do pure (Value.bool (<- Op.equal t (.slice (some a) n1 n2) (.slice none n3 n4)))) K (pK X) h
   rw [qH, yY, qBN hd]; exact hv
  ·show SH P (do pure (Value.bool (!(<- Op.equal t (.slice (some a) n1 n2) (.slice none n3 n4))))) K (pK X) h
   rw [qH, yY, qBN hd]; exact hv
 ·exact hv.elim
theorem s_not {t : TypeId} {x : Operand} (hv : vop P ρ h K X (.not x)) : SH P (execOp ρ (mkO (.unOp .not t x) ty)) (yS P K X) (pK X) h := by
 simp only [vop] at hv
 simp only [execOp, mkO, yP]
 split at hv
 ·rename_i b hx; rw [hx]; exact hv
 ·exact hv.elim
theorem s_conv {s d : TypeId} {k k' : IntKind} {x : Operand} (hs : P.underlying s = some (.int k')) (hd : P.underlying d = some (.int k)) (hv : vop P ρ h K X (.conv k x)) : SH P (execOp ρ (mkO (.convert s d x) ty)) (yS P K X) (pK X) h := by
 simp only [vop] at hv
 simp only [execOp, mkO, yP]
 split at hv
 ·rename_i kk n hx
  simp only [convert, hx, qH, qQ hs, qQ hd, Conv.intToInt, qU]
  exact hv
 ·exact hv.elim
theorem qQB : ∀ (l : List Value) (bs : List UInt8) (s : ByteArray) {Q : ByteArray -> H -> Prop} {E : Value -> H -> Prop}, wQ l = some bs ->
  SH P (forIn l s fun c r => (match c with | .int .u8 n => pure (ForInStep.yield (r.push (UInt8.ofNat n.toNat))) | _ => (stuck "bytesToString: byte expected" : Sem (ForInStep ByteArray)))) Q E h = Q ⟨s.data ++ bs.toArray⟩ h := by
 intro l
 induction l with
 | nil => intro bs s Q E hb; cases hb; simp [qU]
 | cons c l ih =>
  intro bs s Q E hb
  cases c <;> first | (simp [wQ] at hb; done) | skip
  rename_i k n
  cases k <;> first | (simp [wQ] at hb; done) | skip
  simp only [wQ, Option.map_eq_some_iff] at hb
  obtain ⟨bs, hb, rfl⟩ := hb
  simp only [List.forIn_cons, qH, qU]
  rw [ih bs _ hb]
  congr 1
  simp [ByteArray.push]
theorem s_btos {s d e : TypeId} {x : Operand} (hs : P.underlying s = some (.slice e)) (hd : P.underlying d = some .string) (he : P.underlying e = some (.int .u8)) (hv : vop P ρ h K X (.btos x)) : SH P (execOp ρ (mkO (.convert s d x) ty)) (yS P K X) (pK X) h := by
 simp only [vop] at hv
 simp only [execOp, mkO, yP]
 split at hv
 ·rename_i n1 n2 hx
  simp only [convert, hx, qH, qQ hs, qQ hd, qQ he, Conv.bytesToString, qU]
  exact hv
 ·rename_i b k len cap hx
  split at hv
  ·rename_i bs hbs
   obtain ⟨l, hl, hb⟩ := Option.bind_eq_some_iff.1 hbs
   simp only [convert, hx, qH, qQ hs, qQ hd, qQ he, Conv.bytesToString, qAS hl]
   rw [show forIn l.toArray ByteArray.empty = forIn l ByteArray.empty from by funext f; simp]
   have := qQB (P := P) (h := h) l bs .empty (Q := fun s h => SH P (pure (Value.string s)) K (pK X) h) (E := pK X) hb
   simp only [qU] at this
   refine cast ?_ hv
   symm
   refine Eq.trans ?_ (this.trans ?_)
   ·congr 1
   ·rw [show ByteArray.empty.data = #[] from rfl, Array.empty_append]
  ·exact hv.elim
 ·exact hv.elim
theorem s_iface {t : TypeId} {d : TypeDesc} {x : Operand} (hd : P.underlying t = some d) (hn : ∀ ms, d ≠ .interface ms) (hv : vop P ρ h K X (.iface t x)) : SH P (execOp ρ (mkO (.makeInterface t x) ty)) (yS P K X) (pK X) h := by
 simp only [vop] at hv
 simp only [execOp, mkO, yP]
 simp only [Instr.makeInterface, qH, qQ hd]
 cases d <;> first | exact hv | exact absurd rfl (hn _)
theorem s_fn {f : Fn} {fi ca : Array Operand} (hv : vop P ρ h K X (.fn f fi.toList ca.toList)) : SH P (execOp ρ (mkO (.makeFunc f fi ca) ty)) (yS P K X) (pK X) h := by
 simp only [vop] at hv
 simp only [execOp, mkO, yP]
 simp only [Instr.makeFunc, qU]
 rw [show Array.map ρ fi = (fi.toList.map ρ).toArray from by apply Array.ext'; simp, show Array.map ρ ca = (ca.toList.map ρ).toArray from by apply Array.ext'; simp]
 exact hv
theorem s_ext {x : Operand} {i : Nat} (hv : vop P ρ h K X (.ext x i)) : SH P (execOp ρ (mkO (.extract x i) ty)) (yS P K X) (pK X) h := by
 simp only [vop] at hv
 simp only [execOp, mkO, yP]
 split at hv
 ·rename_i vs hx
  split at hv
  ·rename_i v hvv
   rw [hx]
   simp only [Instr.extract]
   rw [show vs[i]? = some v from by simpa using hvv]
   exact hv
  ·exact hv.elim
 ·exact hv.elim
theorem s_asrt {t t' : TypeId} {d : TypeDesc} {x : Operand} {z : Value} {ok : Bool} (hd : P.underlying t = some d) (hn : ∀ ms, d ≠ .interface ms) (hz : kE P t = some z) (hv : vop P ρ h K X (.asrt x t z ok)) :
  SH P (execOp ρ (mkO (.typeAssert x t' t ok) ty)) (yS P K X) (pK X) h := by
 unfold kE at hz
 obtain ⟨i, hi, hz⟩ := Option.bind_eq_some_iff.1 hz
 simp only [vop] at hv
 simp only [execOp, mkO, yP]
 split at hv
 ·rename_i t2 v hx
  rw [hx]
  by_cases e : t2 = t
  ·rw [if_pos e] at hv
   simp only [Instr.typeAssert, qH, qQ hd]
   cases d <;> first | exact absurd rfl (hn _) | (simp only [e, if_true, qU]; exact hv)
  ·rw [if_neg e] at hv
   obtain ⟨rfl, hv⟩ := hv
   simp only [Instr.typeAssert, qH, qQ hd]
   cases d <;> first | exact absurd rfl (hn _) | (simp only [e, if_true, if_false, qH, xJ hi hz, qU]; exact hv)
 ·rename_i hx
  rw [hx]
  obtain ⟨rfl, hv⟩ := hv
  simp only [Instr.typeAssert, qH, qQ hd]
  cases d <;> first | exact absurd rfl (hn _) | (simp only [if_true, if_false, qH, xJ hi hz, qU]; exact hv)
 ·exact hv.elim
theorem s_lenT {t : TypeId} {x : Operand} (hd : P.underlying t = some .string) (hv : vop P ρ h K X (.lenT x)) (ats : Array TypeId) (args : Array Operand) (ha : args.toList = [x]) (hats : ats.toList = [t]) :
  SH P (execOp ρ (mkO (.call { callee := .builtin .len, args := args, argTypes := ats }) ty)) (yS P K X) (pK X) h := by
 obtain ⟨args⟩ := args; obtain ⟨ats⟩ := ats
 simp only at ha hats
 subst ha; subst hats
 simp only [vop] at hv
 simp only [execOp, mkO, resolve, qH, qU, invoke, builtin, yP, Builtin.len_]
 simp only [List.map_toArray, List.map_cons, List.map_nil, List.getElem?_toArray, List.getElem?_cons_zero]
 split at hv
 ·rename_i s hx
  simp only [hx, qH, qQ hd, qU]; exact hv
 ·exact hv.elim
theorem s_lenS {t e : TypeId} {x : Operand} (hd : P.underlying t = some (.slice e)) (hv : vop P ρ h K X (.lenS x)) (ats : Array TypeId) (args : Array Operand) (ha : args.toList = [x]) (hats : ats.toList = [t]) :
  SH P (execOp ρ (mkO (.call { callee := .builtin .len, args := args, argTypes := ats }) ty)) (yS P K X) (pK X) h := by
 obtain ⟨args⟩ := args; obtain ⟨ats⟩ := ats
 simp only at ha hats
 subst ha; subst hats
 simp only [vop] at hv
 simp only [execOp, mkO, resolve, qH, qU, invoke, builtin, yP, Builtin.len_]
 simp only [List.map_toArray, List.map_cons, List.map_nil, List.getElem?_toArray, List.getElem?_cons_zero]
 split at hv
 ·rename_i a n c hx
  simp only [hx, qH, qQ hd, qU]; exact hv
 ·exact hv.elim
theorem s_lenA {t e : TypeId} {n : Nat} {x : Operand} (hd : P.underlying t = some (.array n e)) (hv : vop P ρ h K X (.mov (.const (.int .i64 n)))) (ats : Array TypeId) (args : Array Operand) (ha : args.toList = [x]) (hats : ats.toList = [t])
  (hρ : ρ (.const (.int .i64 n)) = .int .i64 n) :
  SH P (execOp ρ (mkO (.call { callee := .builtin .len, args := args, argTypes := ats }) ty)) (yS P K X) (pK X) h := by
 obtain ⟨args⟩ := args; obtain ⟨ats⟩ := ats
 simp only at ha hats
 subst ha; subst hats
 simp only [vop, hρ] at hv
 simp only [execOp, mkO, resolve, qH, qU, invoke, builtin, yP, Builtin.len_]
 simp only [List.map_toArray, List.map_cons, List.map_nil, List.getElem?_toArray, List.getElem?_cons_zero]
 simp only [qH, qQ hd, qU]
 exact hv
end
end Go.Tk
end

section
namespace Go.Tk
open Go
section
variable {P : Program} {ρ : Operand -> Value} {h : H} {K : Value -> H -> Prop} {X : List PanicEntry -> H -> Prop} {ty : TypeId}
theorem qOV : ∀ (vs : List Value) (off : Nat) (l : List Value) (j : Nat), (vs.zipIdx j).foldl (fun (cs : Array Value) (p : Value × Nat) => cs.setIfInBounds (off + p.2) p.1) l.toArray = (qJ l (off + j) vs).toArray := by
 intro vs
 induction vs with
 | nil => intro off l j; simp [qAC]
 | cons v vs ih =>
  intro off l j
  simp only [List.zipIdx_cons, List.foldl_cons, List.setIfInBounds_toArray]
  rw [ih off (l.set (off + j) v) (j + 1), qBB, Nat.add_assoc]
theorem qYH (place : Nat -> Option (Nat × Nat)) : ∀ (ps : List (Nat × Value)) (qs : List (Nat × Nat × List Value)) (l r : List Value), (∀ i : Nat, (ps[i]?).bind (fun p => (place p.1).map fun q => (q.1, q.2, zF p.2)) = qs[i]?) -> ps.length = qs.length -> wX l qs = some r ->
  Instr.fill place l.toArray ps = some r.toArray := by
 intro ps
 induction ps with
 | nil =>
  intro qs l r hq hl hf
  have : qs = [] := List.eq_nil_of_length_eq_zero hl.symm
  subst this
  cases hf
  rfl
 | cons p ps ih =>
  intro qs l r hq hl hf
  cases qs with
  | nil => cases hl
  | cons q qs =>
   have h0 := hq 0
   simp only [List.getElem?_cons_zero, Option.bind_some] at h0
   cases hp : place p.1 with
   | none => rw [hp] at h0; cases h0
   | some pl =>
    rw [hp] at h0
    cases h0
    obtain ⟨off, n⟩ := pl
    simp only [wX] at hf
    split at hf
    ·rename_i hc
     obtain ⟨i, v⟩ := p
     simp only [Instr.fill]
     simp only at hp
     rw [hp]
     simp only [vD, List.size_toArray]
     rw [if_neg (by simp at hc ⊢; omega)]
     have hfold := qOV (zF v) off l 0
     rw [show (List.foldl (fun (cs : Array Value) (p : Value × Nat) => cs.setIfInBounds (off + p.2) p.1) l.toArray ((zF v).zipIdx 0)) = (Array.foldl (fun (cs : Array Value) (p : Value × Nat) => cs.setIfInBounds (off + p.2) p.1) l.toArray ((zF v).toArray.zipIdx)) from by simp] at hfold
     rw [show (Array.foldl (fun cs x => match x with | (c, j) => cs.setIfInBounds (off + j) c) l.toArray (zF v).toArray.zipIdx) = (qJ l (off + 0) (zF v)).toArray from hfold]
     exact ih qs _ r (fun i => by simpa using hq (i + 1)) (by simpa using hl) (by simpa using hf)
    ·cases hf
theorem zDJ : ∀ (fs : List Field) (pl : List (Nat × Nat)) {Q : List (Nat × Nat) -> H -> Prop} {E : Value -> H -> Prop}, uM P fs = some pl -> SH P (fs.mapM fun f => do pure (f.offset, <- sizeOf f.type)) Q E h = Q pl h := by
 intro fs
 induction fs with
 | nil => intro pl Q E hp; cases hp; rfl
 | cons f fs ih =>
  intro pl Q E hp
  simp only [uM] at hp
  split at hp
  ·rename_i i l hi hl
   cases hp
   simp only [List.mapM_cons, qH, xG hi, qU, ih l hl]
  ·cases hp
theorem qOF : ∀ (pl : List (Nat × Nat)) (ps : List (Nat × Operand)) (l : List (Nat × Nat × Operand)), qED pl ps = some l -> ps.length = l.length /\ ∀ i : Nat, (ps[i]?).bind (fun p => (pl[p.1]?).map fun q => (q.1, q.2, p.2)) = l[i]? := by
 intro pl ps
 induction ps with
 | nil => intro l hp; cases hp; exact ⟨rfl, fun i => by simp⟩
 | cons p ps ih =>
  intro l hp
  obtain ⟨i, x⟩ := p
  simp only [qED] at hp
  split at hp
  ·rename_i off n l' h1 h2
   cases hp
   obtain ⟨ha, hb⟩ := ih l' h2
   refine ⟨by simp [ha], fun j => ?_⟩
   cases j with
   | zero => simp [h1]
   | succ j => simpa using hb j
  ·cases hp
theorem s_build {t : TypeId} {fs : Array Field} {z : Value} {ps : Array (Nat × Operand)} {pl : List (Nat × Nat)} {l : List (Nat × Nat × Operand)} (hd : P.underlying t = some (.struct fs)) (hz : kE P t = some z) (hpl : uM P fs.toList = some pl) (hl : qED pl ps.toList = some l)
  (hv : vop P ρ h K X (.build (zF z) l)) : SH P (execOp ρ (mkO (.build t ps) ty)) (yS P K X) (pK X) h := by
 unfold kE at hz
 obtain ⟨i, hi, hz⟩ := Option.bind_eq_some_iff.1 hz
 simp only [vop] at hv
 simp only [execOp, mkO, yP]
 split at hv
 ·rename_i r hr
  simp only [Instr.build, qH, xJ hi hz, qQ hd]
  rw [Array.mapM_eq_mapM_toList, map_eq_pure_bind, qH, zDJ _ _ hpl]
  obtain ⟨h1, h2⟩ := qOF _ _ _ hl
  have hf := qYH (fun i => pl.toArray[i]?) (ps.toList.map fun p => (p.1, ρ p.2)) (l.map fun p => (p.1, p.2.1, zF (ρ p.2.2))) (zF z) r (fun j => by
   have := h2 j
   rw [List.getElem?_map, List.getElem?_map, <- this]
   cases ps.toList[j]? with
   | none => rfl
   | some p => simp; cases pl[p.1]? <;> rfl) (by simp [h1]) hr
  simp only [qU]
  rw [show (Array.map (fun x => match x with | (i, x) => (i, ρ x)) ps).toList = ps.toList.map fun p => (p.1, ρ p.2) from by simp]
  rw [vD]
  rw [hf]
  exact hv
 ·exact hv.elim
theorem qWB (size len : Nat) (ps : List (Nat × Operand)) (l r : List Value) (hr : wX l ((ps.map fun p => (p.1 * size, size, p.2)).map fun p => (p.1, p.2.1, zF (ρ p.2.2))) = some r) :
  Instr.fill (fun i => some (i * size, size)) l.toArray (ps.map fun p => (p.1, ρ p.2)) = some r.toArray :=
 qYH (fun i => some (i * size, size)) (ps.map fun p => (p.1, ρ p.2)) _ l r (fun j => by
  simp only [List.getElem?_map]
  cases ps[j]? with
  | none => rfl
  | some p => rfl) (by simp) hr
theorem qGC (z : Value) (n size : Nat) (hs : (zF z).length = size) : (Array.range (n * size)).map (fun k => z.cells[k % z.cells.size]!) = (zrep (zF z) n).toArray := by
 subst hs
 rw [vD]
 exact qHO (zF z) n
theorem zGA {α : Type} (f : Nat -> α) : (Array.range 0).map f = #[] := by apply Array.ext'; simp
theorem zFW {t e : TypeId} {i : TypeInfo} {z : Value} {len : Nat} {ps : Array (Nat × Operand)} (hd : P.underlying t = some (.slice e)) (hi : P.info? e = some i) (hz : i.zero = some z) (hs : (zF z).length = i.size) (hlen : len * i.size <= 2 ^ 24)
  (hv : vop P ρ h K X (.bslice e (zF z) len (ps.toList.map fun p => (p.1 * i.size, i.size, p.2)))) : SH P (execOp ρ (mkO (.buildSlice t len ps) ty)) (yS P K X) (pK X) h := by
 simp only [vop] at hv
 simp only [execOp, mkO, yP]
 split at hv
 ·rename_i r hr
  simp only [Instr.buildSlice, qH, qQ hd, xG hi]
  rw [if_neg (by omega)]
  have hf := qWB i.size len ps.toList _ r hr
  have hpm : (Array.map (fun x => match x with | (i, x) => (i, ρ x)) ps).toList = ps.toList.map fun p => (p.1, ρ p.2) := by simp
  have fin : SH P (do pure (Value.slice (some (<- newRow e r.toArray)) len len)) K (pK X) h := by
   simp only [newRow, qH, kY, qU]
   exact hv
  by_cases h0 : len * i.size = 0
  ·simp only [h0, if_true, qU]
   have hz0 : zrep (zF z) len = [] := List.eq_nil_of_length_eq_zero (by rw [jV, hs, h0])
   rw [hz0] at hf
   simp only [qH, qU, zGA, hpm]
   rw [hf]
   exact fin
  ·simp only [h0, if_false, qH, xJ hi hz, qU, hpm]
   rw [qGC z len i.size hs, hf]
   exact fin
 ·exact hv.elim
theorem qFF (n : Int) (h : -9223372036854775808 <= n /\ n <= 9223372036854775807) : IntKind.i64.wrap n = n := by
 have e : IntKind.i64.wrap n = (let m := n % 18446744073709551616; if (decide (m ≥ 9223372036854775808)) = true then m - 18446744073709551616 else m) := rfl
 rw [e]
 simp only [decide_eq_true_eq]
 split <;> omega
theorem zFV {t e : TypeId} {i : TypeInfo} {z : Value} {l c : Operand} (hd : P.underlying t = some (.slice e)) (hi : P.info? e = some i) (hz : i.zero = some z) (hs : (zF z).length = i.size)
  (hv : vop P ρ h K X (.mslice e (zF z) i.bytes l c)) : SH P (execOp ρ (mkO (.makeSlice t l c) ty)) (yS P K X) (pK X) h := by
 simp only [vop] at hv
 simp only [execOp, mkO, yP]
 split at hv
 ·rename_i k1 a k2 b hl hc
  obtain ⟨⟨h0, h1, h2, h3⟩, hv⟩ := hv
  simp only [Instr.makeSlice, qH, qQ hd, hl, hc, asInt, asIntOf, qU, uV hi]
  rw [qFF a (by omega), qFF b (by omega)]
  have hn : ¬ (a < 0) := by omega
  have hm : ¬ (a > b) := by omega
  have hb : ¬ (b < 0) := by omega
  have hk : ¬ ((i.bytes : Int) * b > 2 ^ 48) := by
   have : ((2 : Int) ^ 48) = 281474976710656 := by decide
   rw [this]; omega
  simp only [hn, hm, hb, hk, decide_false, Bool.or_false, Bool.false_eq_true, if_false, qU]
  have room : ∀ {Q : Unit -> H -> Prop} {E : Value -> H -> Prop}, SH P (askRoom (b.toNat * i.bytes)) Q E h = Q () h := by
   intro Q E
   unfold askRoom
   split <;> rfl
  have fin : SH P (do pure (Value.slice (some (<- newRow e (zrep (zF z) b.toNat).toArray)) a.toNat b.toNat)) K (pK X) h := by
   simp only [newRow, qH, kY, qU]
   exact hv
  simp only [qH, room, xG hi]
  by_cases hz0 : b.toNat * i.size = 0
  ·simp only [hz0, if_true, qU]
   have hzz : zrep (zF z) b.toNat = [] := List.eq_nil_of_length_eq_zero (by rw [jV, hs, hz0])
   rw [hzz] at fin
   simp only [qH, qU, zGA]
   exact fin
  ·simp only [hz0, if_false, qH, xJ hi hz, qU]
   rw [qGC z b.toNat i.size hs]
   exact fin
 ·exact hv.elim
end
end Go.Tk
end

section
namespace Go.Tk
open Go
section
variable {P : Program} {ρ : Operand -> Value} {h : H} {K : Value -> H -> Prop} {X : List PanicEntry -> H -> Prop} {ty : TypeId}
theorem qNC {isSlice : Bool} {len cap : Nat} {lo hi : Option Operand} {l u : Int} {Q : Nat × Nat × Nat -> H -> Prop} {E : Value -> H -> Prop} (hl : lowB ρ lo = some l) (hu : qGR ρ len hi = some u) (hb : 0 <= l /\ l <= u /\ u <= (cap : Int)) :
  SH P (Instr.sliceBounds isSlice len cap (lo.map ρ) (hi.map ρ) none) Q E h = Q (l.toNat, u.toNat, cap) h := by
 have one : ∀ (x : Operand) (n : Int) (m : Nat) (c : BoundsCode) {Q : Nat -> H -> Prop}, (match ρ x with | .int _ n => some n | _ => none) = some n -> 0 <= n -> n <= (m : Int) -> SH P (Instr.sliceBound (ρ x) m c) Q E h = Q n.toNat h := by
  intro x n m c Q hx h0 h1
  split at hx
  ·rename_i k n' e
   cases hx
   simp only [Instr.sliceBound, e, asIntOf, qH, qU, h0, h1, and_self, if_true]
  ·cases hx
 unfold Instr.sliceBounds
 cases hi with
 | none =>
  simp only [qGR, Option.some.injEq] at hu
  subst hu
  cases lo with
  | none =>
   simp only [lowB, Option.some.injEq] at hl
   subst hl
   simp only [Option.map_none, qH, qU, Int.toNat_natCast, Int.toNat_zero]
  | some x =>
   simp only [lowB] at hl
   simp only [Option.map_none, Option.map_some, qH, qU, Int.toNat_natCast]
   rw [one x l len _ hl hb.1 hb.2.1]
 | some y =>
  simp only [qGR] at hu
  cases lo with
  | none =>
   simp only [lowB, Option.some.injEq] at hl
   subst hl
   simp only [Option.map_none, Option.map_some, qH, qU, Int.toNat_zero]
   rw [one y u cap _ hu (by omega) hb.2.2]
  | some x =>
   simp only [lowB] at hl
   simp only [Option.map_none, Option.map_some, qH, qU]
   rw [one y u cap _ hu (by omega) hb.2.2, one x l u.toNat _ hl hb.1 (by omega)]
theorem s_slc {t e : TypeId} {x : Operand} {i : TypeInfo} {lo hi : Option Operand} (hd : P.underlying t = some (.slice e)) (hi' : P.info? e = some i) (hv : vop P ρ h K X (.slc x i.size lo hi)) : SH P (execOp ρ (mkO (.slice t x lo hi none) ty)) (yS P K X) (pK X) h := by
 simp only [vop] at hv
 simp only [execOp, mkO, yP]
 split at hv
 ·rename_i a len cap hx
  split at hv
  ·rename_i l u hl hu
   simp only [Instr.sliceAt, qH, qQ hd, Instr.slice, hx, Option.map_none, qNC hl hu hv.1, xG hi', qU]
   exact hv.2
  ·exact hv.elim
 ·exact hv.elim
theorem s_slT {t : TypeId} {x : Operand} {lo hi : Option Operand} (hd : P.underlying t = some .string) (hv : vop P ρ h K X (.slT x lo hi)) : SH P (execOp ρ (mkO (.slice t x lo hi none) ty)) (yS P K X) (pK X) h := by
 simp only [vop] at hv
 simp only [execOp, mkO, yP]
 split at hv
 ·rename_i s hx
  split at hv
  ·rename_i l u hl hu
   simp only [Instr.sliceAt, qH, qQ hd, Instr.slice, hx, Option.map_none, Option.isSome_none, Bool.false_eq_true, if_false, qU]
   rw [qNC hl hu hv.1]
   rw [show s.extract l.toNat u.toNat = ⟨((s.data.toList.drop l.toNat).take (u.toNat - l.toNat)).toArray⟩ from by
    apply ByteArray.ext
    apply Array.ext'
    rw [ByteArray.data_extract]
    simp]
   exact hv.2
  ·exact hv.elim
 ·exact hv.elim
theorem qBR {f : FuncId} {args : Array Value} {Q : Next -> H -> Prop} {E : Value -> H -> Prop} (hc : wO P f = true) : SH P (callFunc f args) Q E h = Q (.enter f args) h := by
 unfold wO at hc
 unfold callFunc
 split at hc
 ·rename_i fn hfn
  simp only [Bool.and_eq_true, Bool.not_eq_true'] at hc
  have hb : fn.body.isNone = false := by
   cases e : fn.body with
   | none => rw [e] at hc; cases hc.1
   | some c => rfl
  simp only [program, qH, SH, hfn, hc.2, hb, Bool.false_eq_true, if_false]
  rfl
 ·cases hc
theorem s_call {f : FuncId} {args : Array Operand} {ats : Array TypeId} (hc : wO P f = true) (hρ : ρ (.func f) = .func (.func f) #[] #[]) (hv : vop P ρ h K X (.call f args.toList)) :
  SH P (execOp ρ (mkO (.call { callee := .value (.func f), args := args, argTypes := ats }) ty)) (yS P K X) (pK X) h := by
 simp only [vop] at hv
 simp only [execOp, mkO, resolve, hρ, Deferred.ofValue, qH, qU, invoke, Array.empty_append, Array.append_empty, qBR hc]
 rw [show Array.map ρ args = (args.toList.map ρ).toArray from by apply Array.ext'; simp]
 exact hv
theorem s_callv {x : Operand} {args : Array Operand} {ats : Array TypeId} (hv : vop P ρ h K X (.callv x args.toList)) :
  SH P (execOp ρ (mkO (.call { callee := .value x, args := args, argTypes := ats }) ty)) (yS P K X) (pK X) h := by
 simp only [vop] at hv
 split at hv
 ·rename_i g fi ca hx
  obtain ⟨hc, hv⟩ := hv
  simp only [execOp, mkO, resolve, hx, Deferred.ofValue, qH, qU, invoke, qBR hc]
  rw [show Array.map ρ args = (args.toList.map ρ).toArray from by apply Array.ext'; simp]
  exact hv
 ·rename_i l fi ca hx
  obtain ⟨rfl, r, h1, h2, h3⟩ := hv
  have hs : (Array.map ρ args).size = r.params.size := by simpa using h2
  simp only [execOp, mkO, resolve, hx, Deferred.ofValue, qH, qU, invoke, Array.empty_append, Instr.yield, Instr.getLoop, getObj, SH, h1, hs, ne_eq, not_true_eq_false, if_false]
  rw [show Array.map ρ args = (args.toList.map ρ).toArray from by apply Array.ext'; simp]
  exact h3
 ·exact hv.elim
theorem s_inv {x : Operand} {name : String} {args : Array Operand} {ats : Array TypeId} (hv : vop P ρ h K X (.inv x name args.toList)) :
  SH P (execOp ρ (mkO (.call { callee := .invoke x name, args := args, argTypes := ats }) ty)) (yS P K X) (pK X) h := by
 simp only [vop] at hv
 split at hv
 ·rename_i t v hx
  obtain ⟨g, r, hm, hc, hv⟩ := hv
  simp only [execOp, mkO, resolve, qH, qU, invoke, hx]
  have h0 : ((#[Value.iface t v] : Array Value) ++ Array.map ρ args)[0]? = some (Value.iface t v) := by
   rw [Array.getElem?_append]; simp
  have hp : ∀ {Q : Program -> H -> Prop} {E : Value -> H -> Prop}, SH P program Q E h = Q P h := rfl
  simp only [h0, callMethod, qH, hp]
  rw [evH_SH _ hm]
  simp only [qBR hc]
  rw [show (#[Value.iface t v] ++ Array.map ρ args).extract 1 (#[Value.iface t v] ++ Array.map ρ args).size = (args.toList.map ρ).toArray from by
   apply Array.ext'; simp; rw [List.take_of_length_le (by simp)]]
  exact hv
 ·exact hv.elim
theorem zIZ (op : Op) (hcl : ∀ v h, dP K v h -> K v h) (hc : ∀ v, ρ (.const v) = v) (hf : ∀ f, ρ (.func f) = .func (.func f) #[] #[]) (hv : vop P ρ h K X (ci P op ty)) : SH P (execOp ρ (mkO op ty)) (yS P K X) (pK X) h := by
 unfold ci at hv
 split at hv
 ·exact hv
 ·exact hv
 ·exact s_pick hv
 ·split at hv
  ·rename_i d i hd hi; exact s_load hd hi hv
  ·exact hv
 ·split at hv
  ·rename_i i hi; exact s_store hi hv
  ·exact hv
 ·split at hv
  ·rename_i z hz; exact s_alloc hz hv
  ·exact hv
 ·exact s_box hv
 ·split at hv
  ·rename_i off n agg hf'
   split at hv
   ·exact hv
   ·rename_i hn; exact s_fld hf' hn hv
  ·exact hv
 ·split at hv
  ·rename_i off n agg hf'; exact s_get hf' hv
  ·exact hv
 ·split at hv
  ·rename_i e hd
   split at hv
   ·rename_i ie hi; exact s_idxS hd hi hv
   ·exact hv
  ·rename_i len e hd
   split at hv
   ·rename_i ie hi; exact s_idxA hd hi hv
   ·exact hv
  ·exact hv
 ·split at hv
  ·rename_i hd; exact s_idxT hd hv
  ·exact hv
 ·exact s_nilc hv
 ·unfold ciEq at hv
  split at hv
  ·rename_i hd; exact s_beq (neg := false) rfl hd hv
  ·rename_i ms hd; exact s_ieq (neg := false) rfl hd hv
  ·rename_i e hd; exact s_leq (neg := false) rfl hd hv
  ·exact zFX hv
 ·unfold ciEq at hv
  split at hv
  ·rename_i hd; exact s_beq (neg := true) rfl hd hv
  ·rename_i ms hd; exact s_ieq (neg := true) rfl hd hv
  ·rename_i e hd; exact s_leq (neg := true) rfl hd hv
  ·exact zFX hv
 ·exact zFX hv
 ·exact s_not hv
 ·split at hv
  ·rename_i k' k hs hd; exact s_conv hs hd hv
  ·rename_i e hs hd
   split at hv
   ·rename_i he; exact s_btos hs hd he hv
   ·exact hv
  ·exact hv
 ·split at hv
  ·exact hv
  ·exact hv
  ·rename_i d hn hd; exact s_iface hd (fun ms e => hn ms e) hv
 ·exact s_fn hv
 ·split at hv
  ·rename_i fs z hd hz
   split at hv
   ·rename_i pl hpl
    split at hv
    ·rename_i l hl; exact s_build hd hz hpl hl hv
    ·exact hv
   ·exact hv
  ·exact hv
 ·split at hv
  ·rename_i e hd
   split at hv
   ·rename_i i hi
    split at hv
    ·rename_i z hz
     split at hv
     ·rename_i hs; exact zFW hd hi hz hs.1 hs.2 hv
     ·exact hv
    ·exact hv
   ·exact hv
  ·exact hv
 ·split at hv
  ·rename_i e hd
   split at hv
   ·rename_i i hi
    split at hv
    ·rename_i z hz
     split at hv
     ·rename_i hs; exact zFV hd hi hz hs hv
     ·exact hv
    ·exact hv
   ·exact hv
  ·exact hv
 ·unfold qPA at hv
  split at hv
  ·rename_i hd; exact s_slT hd hv
  ·rename_i e hd
   split at hv
   ·rename_i i hi; exact s_slc hd hi hv
   ·exact hv
  ·exact hv
 ·exact s_ext hv
 ·split at hv
  ·exact hv
  ·rename_i d z hn hd hz; exact s_asrt hd (fun ms e => hn ms e) hz hv
  ·exact hv
 ·rename_i c
  obtain ⟨callee, args, ats⟩ := c
  unfold qWO at hv
  simp only at hv
  split at hv
  ·split at hv
   ·rename_i x t ha ht
    split at hv
    ·rename_i hd; exact s_lenT hd hv _ _ ha ht
    ·rename_i e hd; exact s_lenS hd hv _ _ ha ht
    ·rename_i n e hd; exact s_lenA hd hv _ _ ha ht (hc _)
    ·exact hv
   ·exact hv
  ·split at hv
   ·rename_i x y t u ha ht
    obtain ⟨args⟩ := args; obtain ⟨ats⟩ := ats
    simp only at ha ht
    subst ha; subst ht
    simp only [vop] at hv
    simp only [execOp, mkO, resolve, qH, qU, invoke, builtin, yP]
    simp only [List.map_toArray, List.map_cons, List.map_nil]
    exact qFE _ (fun v h k => hcl v h k) (fun v h k => k) hv
   ·exact hv
  ·exact hv
  ·split at hv
   ·rename_i hok; exact s_call hok (hf _) hv
   ·exact hv
  ·exact s_callv hv
  ·exact s_inv hv
 ·exact hv
end
theorem xT {P : Program} {ρ : Operand -> Value} {h : H} {K K' : Value -> H -> Prop} {X X' : List PanicEntry -> H -> Prop} {i : I} (hk : ∀ v h, K v h -> K' v h) (hx : ∀ c h, X c h -> X' c h) (x : vop P ρ h K X i) : vop P ρ h K' X' i := by
 have hret : ∀ e h, retK K X e h -> retK K' X' e h := fun e h r => by cases e <;> first | exact hk _ _ r | exact hx _ _ r | exact r
 have hnext : ∀ n h, yS P K X n h -> yS P K' X' n h := fun n h r => by
  cases n <;> simp only [yS] at r ⊢
  case value v => exact hk _ _ r
  case skip => exact hk _ _ r
  case enter f args => exact r.mono hret
  case row row args => exact fun w s => RowsIn.mono (r w s) fun v w' ⟨h', k, p⟩ => ⟨h', hk _ _ k, p⟩
  case round l f t a b => exact r.mono hret
 cases i <;> simp only [vop] at x ⊢
 case call f args => exact x.mono hret
 case app => exact qFE _ (fun v h ⟨g, sb, k⟩ => ⟨g, sb, hk _ _ k⟩) (fun v h => hx _ h) x
 case raw => exact qFE _ hnext (fun v h => hx _ h) x
 case callv => split at x <;> first | exact ⟨x.1, HCalls.mono x.2 hret⟩ | exact ⟨x.1, YieldH.mono x.2 hret⟩ | exact x
 case inv => split at x <;> first | (obtain ⟨g, r, h1, h2, h3⟩ := x; exact ⟨g, r, h1, h2, h3.mono hret⟩) | exact x
 case bin =>
  split at x
  ·refine ⟨x.1, ?_⟩
   have := x.2
   split at this <;> first | exact hk _ _ this | exact this
  ·split at x <;> first | exact hk _ _ x | exact x
  ·exact qFE _ hk (fun v h => hx _ h) x
 case alloc => exact fun j hj => hk _ _ (x j hj)
 case box => exact fun j hj => hk _ _ (x j hj)
 case mslice => split at x <;> first | exact ⟨x.1, fun j hj => hk _ _ (x.2 j hj)⟩ | exact x
 case bslice => split at x <;> first | exact fun j hj => hk _ _ (x j hj) | exact x
 case store =>
  split at x
  ·refine ⟨x.1, x.2.1, ?_⟩
   have := x.2.2
   split at this <;> first | exact hk _ _ this | exact this
  ·exact x
 case idxT =>
  split at x
  ·refine ⟨x.1, ?_⟩
   have := x.2
   split at this <;> first | exact hk _ _ this | exact this
  ·exact x
 case asrt =>
  split at x
  ·split
   ·rename_i hc; rw [if_pos hc] at x; exact hk _ _ x
   ·rename_i hc; rw [if_neg hc] at x; exact ⟨x.1, hk _ _ x.2⟩
  ·exact ⟨x.1, hk _ _ x.2⟩
  ·exact x
 case get =>
  split at x
  ·split
   ·rename_i hc; rw [if_pos hc] at x; exact hk _ _ x
   ·rename_i hc; rw [if_neg hc] at x; split at x <;> first | exact hk _ _ x | exact x
  ·exact x
 all_goals first
  | exact hk _ _ x
  | (split at x <;> first | exact hk _ _ x | exact ⟨x.1, hk _ _ x.2⟩ | exact x.elim | (split at x <;> first | exact hk _ _ x | exact ⟨x.1, hk _ _ x.2⟩ | exact x.elim))
end Go.Tk
end

section
namespace Go.Tk
open Go
def OpW (P : Program) (o : Oper) (a : Act) (h : H) (K : Act -> H -> Prop) : Prop :=
 ∀ w, Sat h w -> o.wpIn Fence.wide 0 P a w (fun a' w' => ∃ h', K a' h' /\ Pst h w h' w') (fun _ _ _ => False)
theorem Oper.wpIn_mono2 {P : Program} {o : Oper} {a : Act} {w : World} {K K' : Act -> World -> Prop} {Q Q' : Exit -> Act -> World -> Prop} (h : ∀ a w, K a w -> K' a w) (hq : ∀ e a w, Q e a w -> Q' e a w)
  (hh : o.wpIn Fence.wide 0 P a w K Q) : o.wpIn Fence.wide 0 P a w K' Q' := by
 unfold Oper.wpIn at *
 refine ⟨hh.1, ?_⟩
 replace hh := hh.2
 generalize (o.semAt Fence.wide.round a.eval).run P w = r at *
 cases r with
 | ok n w' =>
  cases n <;> simp only [Oper.uponIn] at hh ⊢
  case value v => exact h _ _ hh
  case skip => exact h _ _ hh
  case defer d => exact h _ _ hh
  case enter f args =>
   refine ⟨hh.1, CallsIn.mono hh.2 (fun e w'' he => ?_)⟩
   cases e with
   | returned v => exact h _ _ he
   | panicked c => exact hq _ _ _ he
   | outgrown => obtain ⟨a', w', q⟩ := he; exact ⟨a', w', hq _ _ _ q⟩
  case row row args => exact ⟨hh.1, RowsIn.mono hh.2 (fun _ _ he => h _ _ he)⟩
  case round l f t x y =>
   refine ⟨hh.1, RoundIn.mono hh.2 (fun e w'' he => ?_)⟩
   cases e with
   | returned v => exact h _ _ he
   | panicked c => exact hq _ _ _ he
   | outgrown => obtain ⟨a', w', q⟩ := he; exact ⟨a', w', hq _ _ _ q⟩
 | halt x w' => cases x <;> simp only [Oper.uponIn] at hh ⊢ <;> exact hq _ _ _ hh
theorem OpW.mono {P : Program} {o : Oper} {a : Act} {h : H} {K K' : Act -> H -> Prop} (x : OpW P o a h K) (hk : ∀ a h, K a h -> K' a h) : OpW P o a h K' :=
 fun w s => Oper.wpIn_mono2 (fun a' w' ⟨h', k, p⟩ => ⟨h', hk _ _ k, p⟩) (fun _ _ _ q => q) (x w s)
theorem OpW.drop {P : Program} {o : Oper} {a : Act} {h : H} {K : Act -> H -> Prop} (x : OpW P o a h (dP K)) : OpW P o a h K :=
 fun w s => Oper.wpIn_mono2 (fun a' w' ⟨h', ⟨g, sb, k⟩, p⟩ => ⟨g, k, p.sub sb⟩) (fun _ _ _ q => q) (x w s)
theorem OpW.weaken {P : Program} {o : Oper} {a : Act} {g h : H} {K : Act -> H -> Prop} (sb : Sub g h) (x : OpW P o a g K) : OpW P o a h K :=
 fun w s => Oper.wpIn_mono2 (fun a' w' ⟨h', k, p⟩ => ⟨h', k, p.more sb⟩) (fun _ _ _ q => q) (x w (s.sub sb))
theorem OpW.wide {P : Program} {o : Oper} {a : Act} {g h : H} {K : Act -> Prop} (sb : Sub g h) (x : OpW P o a g (fun a' h' => K a' /\ h' = g)) : OpW P o a h (fun a' h' => K a' /\ h' = h) := by
 intro w s
 refine Oper.wpIn_mono2 ?_ (fun _ _ _ q => q) (x w (s.sub sb))
 rintro a' w' ⟨h', ⟨k, rfl⟩, p⟩
 refine ⟨h, ⟨k, rfl⟩, ⟨fun i o hi => ?_, p.os, p.tape, p.output, p.size, fun i hi hn => ?_, fun i hi => .inl hi⟩⟩
 ·cases e : hget h' i with
  | some o' =>
   have h1 := sb i o' e
   rw [hi] at h1
   cases h1
   exact p.sat i o e
  | none =>
   rw [p.keep i (s.lt (by rw [hi]; simp)) e]
   exact s i o hi
 ·refine p.keep i hi ?_
  cases e : hget h' i with
  | none => rfl
  | some o' => rw [sb i o' e] at hn; cases hn
theorem qGB {P : Program} {o : Oper} {a : Act} {h : H} {K : Act -> H -> Prop} (x : opH P o a h K (fun _ _ _ => False)) : OpW P o a h K := fun w s =>
 Oper.wpIn_mono2 (fun _ _ q => q) (fun _ _ _ ⟨_, q, _⟩ => q) (qLY (ro := none) (.inl rfl) x (Pst.refl s))
def vfl (ρ : Operand -> Value) (h : H) (K : Value -> Prop) : I -> Prop
 | .mov x => K (ρ x)
 | .pick c a b => match ρ c with
  | .bool t => K (if t then ρ a else ρ b)
  | _ => False
 | .load x n agg => match ρ x with
  | .pointer (some ⟨b, k, none⟩) => (match hval h b k n agg with | some v => K v | none => False)
  | _ => False
 | .fld x off => match ρ x with
  | .pointer (some ⟨b, k, none⟩) => K (.pointer (some ⟨b, k + off, none⟩))
  | _ => False
 | .get x off n agg => match ρ x with
  | .agg cs => if agg then K (.agg ((cs.toList.drop off).take n).toArray) else (match cs.toList[off]? with | some v => K v | none => False)
  | _ => False
 | .idxS x i n => match ρ x, ρ i with
  | .slice (some ⟨b, k, none⟩) len _, .int _ j => (0 <= j /\ j < (len : Int)) /\ K (.pointer (some ⟨b, k + j.toNat * n, none⟩))
  | _, _ => False
 | .idxA x i len n => match ρ x, ρ i with
  | .pointer (some ⟨b, k, none⟩), .int _ j => (0 <= j /\ j < (len : Int)) /\ K (.pointer (some ⟨b, k + j.toNat * n, none⟩))
  | _, _ => False
 | .idxT x i => match ρ x, ρ i with
  | .string s, .int _ j => 0 <= j /\ (match s.data.toList[j.toNat]? with | some u => K (.int .u8 u.toNat) | none => False)
  | _, _ => False
 | .nilc x => match ρ x with
  | .pointer (some a) => K (.pointer (some a))
  | .func (.func f) fi ca => K (.func (.func f) fi ca)
  | _ => False
 | .bin op t x y => match ρ x, ρ y with
  | .int k a, .int k' b => (k = k' ∨ qAE op = true) /\ (match intBin op k a b with | some v => K v | none => False)
  | .string a, .string b => (match xP op a b with | some v => K v | none => False)
  | _, _ => False
 | .beq neg x y => match ρ x, ρ y with
  | .bool a, .bool b => K (.bool (if neg then !(a == b) else a == b))
  | _, _ => False
 | .ieq neg x y => match ρ x, ρ y with
  | .nilIface, .nilIface => ((x matches .const _) || (y matches .const _)) = true /\ K (.bool !neg)
  | .nilIface, .iface _ _ => K (.bool neg)
  | .iface _ _, .nilIface => K (.bool neg)
  | _, _ => False
 | .leq neg x y => match ρ x, ρ y with
  | .slice none _ _, .slice b _ _ => K (.bool (if neg then !b.isNone else b.isNone))
  | .slice (some _) _ _, .slice none _ _ => K (.bool neg)
  | _, _ => False
 | .not x => match ρ x with
  | .bool b => K (.bool !b)
  | _ => False
 | .conv k x => match ρ x with
  | .int _ n => K (.int k (k.wrap n))
  | _ => False
 | .iface t x => K (.iface t (ρ x))
 | .fn f fi ca => K (.func f (fi.map ρ).toArray (ca.map ρ).toArray)
 | .build z ps => match wX z (ps.map fun p => (p.1, p.2.1, zF (ρ p.2.2))) with
  | some l => K (.agg l.toArray)
  | none => False
 | .slc x n lo hi => match ρ x with
  | .slice a len cap => (match lowB ρ lo, qGR ρ len hi with
   | some l, some u => (0 <= l /\ l <= u /\ u <= (cap : Int)) /\ K (.slice (if cap = l.toNat then a else a.map (·.add (l.toNat * n))) (u.toNat - l.toNat) (cap - l.toNat))
   | _, _ => False)
  | _ => False
 | .slT x lo hi => match ρ x with
  | .string s => (match lowB ρ lo, qGR ρ s.size hi with
   | some l, some u => (0 <= l /\ l <= u /\ u <= (s.size : Int)) /\ K (.string ⟨((s.data.toList.drop l.toNat).take (u.toNat - l.toNat)).toArray⟩)
   | _, _ => False)
  | _ => False
 | .lenT x => match ρ x with
  | .string s => K (.int .i64 s.size)
  | _ => False
 | .lenS x => match ρ x with
  | .slice _ n _ => K (.int .i64 n)
  | _ => False
 | .btos x => match ρ x with
  | .slice none _ _ => K (.string .empty)
  | .slice (some ⟨b, k, none⟩) len _ => (match (qV h b k len).bind wQ with
   | some l => K (.string ⟨l.toArray⟩)
   | none => False)
  | _ => False
 | .ext x i => match ρ x with
  | .tuple vs => (match vs.toList[i]? with | some v => K v | none => False)
  | _ => False
 | .asrt x t z ok => match ρ x with
  | .iface t' v => if t' = t then K (if ok then .tuple #[v, .bool true] else v) else ok = true /\ K (.tuple #[z, .bool false])
  | .nilIface => ok = true /\ K (.tuple #[z, .bool false])
  | _ => False
 | _ => False
theorem vfl_vop {P : Program} {ρ : Operand -> Value} {h : H} {K : Value -> Prop} {i : I} (x : vfl ρ h K i) : ∃ v, K v /\ ∀ (K' : Value -> H -> Prop) (X' : List PanicEntry -> H -> Prop), K' v h -> vop P ρ h K' X' i := by
 cases i <;> simp only [vfl] at x <;> simp only [vop]
 all_goals first
  | exact x.elim
  | exact ⟨_, x, fun K' X' k => k⟩
  | ((repeat' split at x) <;> first
    | exact x.elim
    | exact ⟨_, x, fun K' X' k => by first | exact k | simp_all⟩
    | (obtain ⟨x1, x2⟩ := x; first | exact x2.elim | (refine ⟨_, x2, fun K' X' k => ?_⟩; simp_all)))
section
variable {P : Program} {ops : Array Oper} {md : Region.Mode} {N : Act -> H -> Prop}
def kI : Op -> Bool
 | .move _ | .extract .. => true
 | _ => false
def puI (ops : Array Oper) (i : Nat) : Bool := match ops[i]? with
 | some o => kI o.op
 | none => false
def opI (P : Program) (ops : Array Oper) (tl : Nat -> Bool) (hr : H) (i : Nat) (K : Act -> H -> Prop) (a : Act) (h : H) : Prop :=
 match ops[i]? with
 | none => K a h
 | some o => if Region.wanted o (yielded ops a.tmps) = true then OpW P o a h (fun a' h' => (tl i = false -> Sub hr h') /\ (kI o.op = true -> ∀ g, Sub g hr -> Sub g h -> Sub g h') /\ K a' h') else K (a.put o.dst undef) h
def anyI (P : Program) (md : Region.Mode) (ops : Array Oper) (tl : Nat -> Bool) (hr : H) (N : Act -> H -> Prop) : Nat -> Array Bool -> Act -> H -> Prop
 | 0, listed, a, h => Region.ready md ops listed = [] /\ N a h
 | fuel + 1, listed, a, h => (Region.ready md ops listed = [] -> N a h) /\ ∀ i ∈ Region.ready md ops listed, opI P ops tl hr i (anyI P md ops tl hr N fuel (listed.setIfInBounds i true)) a h
theorem zGI {tl : Nat -> Bool} {hr : H} {i : Nat} {a : Act} {h : H} {K K' : Act -> H -> Prop} (hk : ∀ a h, (tl i = false ∨ puI ops i = true -> Sub hr h) -> K a h -> K' a h) (sb : Sub hr h) (x : opI P ops tl hr i K a h) : opI P ops tl hr i K' a h := by
 unfold opI at *
 split
 ·exact hk _ _ (fun _ => sb) (by simpa [*] using x)
 ·rename_i o ho
  simp only [ho] at x
  split
  ·rename_i hw
   rw [if_pos hw] at x
   refine x.mono fun a h' ⟨s, p, k⟩ => ⟨s, p, hk _ _ (fun c => c.elim s fun c => p ?_ hr (Sub.refl _) sb) k⟩
   unfold puI at c
   simpa [ho] using c
  ·rename_i hw; rw [if_neg hw] at x; exact hk _ _ (fun _ => sb) x
theorem zBF {tl : Nat -> Bool} {hr : H} {i : Nat} {a : Act} {h : H} {K K' : Act -> H -> Prop} (hk : ∀ a h, K a h -> K' a h) (x : opI P ops tl hr i K a h) : opI P ops tl hr i K' a h := by
 unfold opI at *
 split
 ·exact hk _ _ (by simpa [*] using x)
 ·rename_i o ho
  simp only [ho] at x
  split
  ·rename_i hw; rw [if_pos hw] at x; exact x.mono fun a h' ⟨s, p, k⟩ => ⟨s, p, hk _ _ k⟩
  ·rename_i hw; rw [if_neg hw] at x; exact hk _ _ x
theorem zDF {tl : Nat -> Bool} {hr hr' : H} (sb : Sub hr hr') : ∀ (fuel : Nat) (listed : Array Bool) (a : Act) (h : H), anyI P md ops tl hr' N fuel listed a h -> anyI P md ops tl hr N fuel listed a h := by
 intro fuel
 induction fuel with
 | zero => intro listed a h x; exact x
 | succ fuel ih =>
  intro listed a h x
  refine ⟨x.1, fun i hi => ?_⟩
  have x1 := x.2 i hi
  unfold opI at x1 ⊢
  cases ho : ops[i]? with
  | none => simp only [ho] at x1 ⊢; exact ih _ _ _ x1
  | some o =>
   simp only [ho] at x1 ⊢
   split at x1
   ·rename_i hw
    rw [if_pos hw]
    exact x1.mono fun a h ⟨s, p, k⟩ => ⟨fun e => sb.trans (s e), fun c g s' => p c g (s'.trans sb), ih _ _ _ k⟩
   ·rename_i hw
    rw [if_neg hw]
    exact ih _ _ _ x1
theorem qXA {tl : Nat -> Bool} {hr : H} {Q : Exit -> Act -> H -> Prop} {h0 : H} {w0 : World} : ∀ (fuel : Nat) (listed : Array Bool) (a : Act) (h : H) (w : World), anyI P md ops tl hr (Q .normal) fuel listed a h -> Pst h0 w0 h w -> wpAnyIn Fence.wide 0 P md ops (lift h0 w0 Q) fuel listed a w := by
 intro fuel
 induction fuel with
 | zero => intro listed a h w x p; exact ⟨x.1, h, x.2, p⟩
 | succ fuel ih =>
  intro listed a h w x p
  refine ⟨fun e => ⟨h, x.1 e, p⟩, fun i hi => ?_⟩
  have x1 := x.2 i hi
  unfold opI at x1
  unfold Go.wpOpIn
  split at x1
  ·rename_i ho; simp only [ho]; exact ih _ _ _ _ x1 p
  ·rename_i o ho
   simp only [ho]
   split at x1
   ·rename_i hw
    rw [if_pos hw]
    exact Oper.wpIn_mono2 (fun a' w' ⟨h', ⟨_, _, k⟩, p'⟩ => ih _ _ _ _ k (p.trans p')) (fun _ _ _ q => q.elim) (x1 w p.sat)
   ·rename_i hw
    rw [if_neg hw]
    exact ⟨fun _ _ => trivial, ih _ _ _ _ x1 p⟩
def Yd (P : Program) (ops : Array Oper) (hr : H) (o : Oper) (v : Value) (a : Act) : Prop :=
 (Region.wanted o (yielded ops a.tmps) = true /\ OpW P o a hr (fun a' h' => a' = a.put o.dst v /\ h' = hr)) ∨
 (Region.wanted o (yielded ops a.tmps) = false /\ v = undef)
theorem Yd.opI {tl : Nat -> Bool} {hr : H} {i : Nat} {o : Oper} {v : Value} {a : Act} {h : H} (hi : ops[i]? = some o) (hy : Yd P ops hr o v a) (sb : Sub hr h) {K : Act -> H -> Prop} (k : K (a.put o.dst v) h) : opI P ops tl hr i K a h := by
 unfold Tk.opI
 simp only [hi]
 rcases hy with ⟨hw, hv⟩ | ⟨hw, rfl⟩
 ·rw [if_pos hw]
  exact (OpW.wide (K := fun a' => a' = a.put o.dst v) sb hv).mono fun a' h' ⟨e1, e2⟩ => by subst e1; subst e2; exact ⟨fun _ => sb, fun _ _ _ s => s, k⟩
 ·rw [if_neg (by rw [hw]; simp)]
  exact k
theorem OpW.of_same {o : Oper} {a a' : Act} {h : H} {K K' : Act -> H -> Prop} (he : execOp a'.eval o = execOp a.eval o) (hk : ∀ v h', K (a.put o.dst v) h' -> K' (a'.put o.dst v) h')
  (hd : ∀ d h', K ({ a with defers := d :: a.defers }.put o.dst undef) h' -> K' ({ a' with defers := d :: a'.defers }.put o.dst undef) h') (x : OpW P o a h K) : OpW P o a' h K' := by
 intro w s
 have y := (x w s).2
 refine ⟨fun _ _ => trivial, ?_⟩
 rw [show o.semAt Fence.wide.round a'.eval = o.semAt Fence.wide.round a.eval from he]
 generalize (o.semAt Fence.wide.round a.eval).run P w = r at *
 cases r with
 | ok n w' =>
  cases n <;> simp only [Oper.uponIn] at y ⊢
  case value v => obtain ⟨h', k, p⟩ := y; exact ⟨h', hk _ _ k, p⟩
  case skip => obtain ⟨h', k, p⟩ := y; exact ⟨h', hk _ _ k, p⟩
  case defer d => obtain ⟨h', k, p⟩ := y; exact ⟨h', hd _ _ k, p⟩
  case enter f args =>
   refine ⟨y.1, CallsIn.mono y.2 (fun e w'' he => ?_)⟩
   cases e with
   | returned v => obtain ⟨h', k, p⟩ := he; exact ⟨h', hk _ _ k, p⟩
   | panicked c => exact he
   | outgrown => exact he
  case row row args => exact ⟨y.1, RowsIn.mono y.2 (fun _ _ ⟨h', k, p⟩ => ⟨h', hk _ _ k, p⟩)⟩
  case round l f t x y' =>
   refine ⟨y.1, RoundIn.mono y.2 (fun e w'' he => ?_)⟩
   cases e with
   | returned v => obtain ⟨h', k, p⟩ := he; exact ⟨h', hk _ _ k, p⟩
   | panicked c => exact he
   | outgrown => exact he
 | halt x w' => cases x <;> simp only [Oper.uponIn] at y ⊢ <;> exact y
theorem qKS (a : Act) (dst : Option Tmp) (v : Value) (d : Deferred) : ({ a with defers := d :: a.defers } : Act).put dst undef ≠ a.put dst v := by
 intro e
 have : (({ a with defers := d :: a.defers } : Act).put dst undef).defers = (a.put dst v).defers := by rw [e]
 cases dst <;> simp [Act.put] at this
theorem Yd.of_same {hr : H} {o : Oper} {v : Value} {a a' : Act} (hy : Yd P ops hr o v a) (he : execOp a'.eval o = execOp a.eval o)
  (hw : Region.wanted o (yielded ops a'.tmps) = Region.wanted o (yielded ops a.tmps)) (hinj : ∀ u, a.put o.dst u = a.put o.dst v -> a'.put o.dst u = a'.put o.dst v) : Yd P ops hr o v a' := by
 unfold Yd at *
 rw [hw]
 rcases hy with ⟨h1, h2⟩ | h
 ·exact .inl ⟨h1, h2.of_same he (fun u h' ⟨e1, e2⟩ => ⟨hinj u e1, e2⟩) (fun d h' ⟨e1, e2⟩ => absurd e1 (qKS a o.dst v d))⟩
 ·exact .inr h
theorem qXO {a a' : Act} {dst : Option Tmp} {u v : Value} (hs : a.tmps.size = a'.tmps.size) (e : a.put dst u = a.put dst v) : a'.put dst u = a'.put dst v := by
 cases dst with
 | none => rfl
 | some d =>
  have h1 : (a.tmps.setIfInBounds d u)[d]? = (a.tmps.setIfInBounds d v)[d]? := by
   have : (a.put (some d) u).tmps = (a.put (some d) v).tmps := by rw [e]
   simpa [Act.put] using congrArg (fun (t : Array Value) => t[d]?) this
  show ({ a' with tmps := a'.tmps.setIfInBounds d u } : Act) = { a' with tmps := a'.tmps.setIfInBounds d v }
  by_cases hd : d < a.tmps.size
  ·have : u = v := by simpa [hd] using h1
   rw [this]
  ·have h2 : ∀ x, a'.tmps.setIfInBounds d x = a'.tmps := fun x => Array.setIfInBounds_eq_of_size_le (hs ▸ Nat.le_of_not_lt hd)
   rw [h2, h2]
theorem zGD (a : Act) (dst : Option Tmp) (v : Value) : (a.put dst v).tmps.size = a.tmps.size := by cases dst <;> simp [Act.put]
theorem qXS {S : H -> Prop} {tl : Nat -> Bool} {hr : H} {j : Nat} {oi oj : Oper} {v : Value} (hj : ops[j]? = some oj) (hap : oi.apart ops oj = true)
  (hsi : ∀ cs b, oi.op ≠ .select cs b) (hsj : ∀ cs b, oj.op ≠ .select cs b) {K : Act -> H -> Prop} {a : Act} {h : H}
  (hy : ∀ hr, S hr -> Yd P ops hr oi v a) (x : opI P ops tl hr j K (a.put oi.dst v) h) :
  opI P ops tl hr j (fun a' h' => (∀ hr, S hr -> Yd P ops hr oi v a') /\ K (a'.put oi.dst v) h') a h := by
 obtain ⟨h1, h2, h3⟩ := Oper.apart_spec hap
 have keep : ∀ (a : Act), (∀ hr, S hr -> Yd P ops hr oi v a) -> ∀ u hr, S hr -> Yd P ops hr oi v (a.put oj.dst u) := fun a hy u hr s =>
  (hy hr s).of_same (execOp_put oi hsi a oj.dst u h3) (wanted_put oi a oj.dst u h3) (fun u' e => qXO (by rw [zGD]) e)
 have keepD : ∀ d hr, S hr -> Yd P ops hr oi v { a with defers := d :: a.defers } := fun d hr s => (hy hr s).of_same rfl rfl (fun u' e => qXO (by rfl) e)
 unfold opI at *
 simp only [hj] at *
 rw [wanted_put oj a oi.dst v h1] at x
 split
 ·rename_i hw
  rw [if_pos hw] at x
  refine OpW.of_same (a := a.put oi.dst v) (execOp_put oj hsj a oi.dst v h1).symm ?_ ?_ x
  ·rintro u h' ⟨s, p, k⟩
   exact ⟨s, p, keep a hy u, by rw [<- Act.put_comm a v u h2]; exact k⟩
  ·rintro d h' ⟨s, p, k⟩
   refine ⟨s, p, keep _ (keepD d) _, ?_⟩
   rw [<- Act.put_comm _ v undef h2, <- Act.put_defers]
   exact k
 ·rename_i hw
  rw [if_neg hw] at x
  exact ⟨keep a hy _, by rw [<- Act.put_comm a v undef h2]; exact x⟩
def Cl (md : Region.Mode) (ops : Array Oper) (listed : Array Bool) : Prop := ∀ k ok, ops[k]? = some ok -> listed.getD k true = true -> ∀ e ∈ ok.after, Region.binds md e = true -> listed.getD e.on true = true
theorem qYF {l : Array Bool} {i : Nat} (h : l.getD i false = true) : l.getD i true = true := by
 rw [Array.getD_eq_getD_getElem?] at h ⊢
 cases e : l[i]? with
 | none => rfl
 | some b => rw [e] at h; exact h
theorem Cl.set {listed : Array Bool} {i : Nat} (hc : Cl md ops listed) (hi : i ∈ Region.ready md ops listed) : Cl md ops (listed.setIfInBounds i true) := by
 intro k ok hk hl e he hb
 obtain ⟨hun, o, ho, hd⟩ := mem_ready.1 hi
 have old : listed.getD e.on true = true := by
  by_cases hki : k = i
  ·subst hki
   rw [ho] at hk; cases hk
   exact qYF (hd e he hb)
  ·rw [getD_set_ne true (Ne.symm hki)] at hl
   exact hc k ok hk hl e he hb
 by_cases hdi : e.on = i
 ·rw [hdi] at old; rw [hun] at old; cases old
 ·rw [getD_set_ne true (Ne.symm hdi)]; exact old
theorem Cl_zero (md : Region.Mode) (ops : Array Oper) : Cl md ops (Array.replicate ops.size false) := by
 intro k ok hk hl
 have := (Array.getElem?_eq_some_iff.1 hk).1
 rw [Array.getD_eq_getD_getElem?, Array.getElem?_replicate, if_pos this] at hl
 cases hl
def depsM (md : Region.Mode) (o : Oper) : List Nat := (o.after.toList.filter (Region.binds md)).map (·.on)
def sucM (md : Region.Mode) (ops : Array Oper) (i j : Nat) : Bool := (List.range (i + 1)).any fun k => decide (j < k) && (match ops[k]? with
 | some o => (depsM md o).contains j
 | none => false)
def qPJ (md : Region.Mode) (ops : Array Oper) (i : Nat) : Bool := (List.range i).all (sucM md ops i)
theorem zDG {i : Nat} {oi : Oper} {listed : Array Bool} (hi : ops[i]? = some oi) (ha : qPJ md ops i = true) (hc : Cl md ops listed) (hd : ∀ e ∈ oi.after, Region.binds md e = true -> listed.getD e.on true = true) : ∀ j, j < i -> listed.getD j true = true := by
 have key : ∀ n j, i - j <= n -> j < i -> listed.getD j true = true := by
  intro n
  induction n with
  | zero => intro j h1 h2; omega
  | succ n ih =>
   intro j h1 h2
   have hs := List.all_eq_true.1 ha j (List.mem_range.2 h2)
   unfold sucM at hs
   obtain ⟨k, hk, hs⟩ := List.any_eq_true.1 hs
   rw [List.mem_range] at hk
   simp only [Bool.and_eq_true, decide_eq_true_eq] at hs
   obtain ⟨c1, c2⟩ := hs
   split at c2
   ·rename_i o ho
    have hm : j ∈ depsM md o := by simpa using c2
    obtain ⟨x, hx, rfl⟩ := List.mem_map.1 hm
    obtain ⟨hx1, hx2⟩ := List.mem_filter.1 hx
    by_cases hki : k = i
    ·subst hki; rw [hi] at ho; cases ho
     exact hd x (by simpa using hx1) hx2
    ·exact hc k o ho (ih k (by omega) (by omega)) x (by simpa using hx1) hx2
   ·cases c2
 exact fun j hj => key (i - j) j (Nat.le_refl _) hj
theorem qXB {tl : Nat -> Bool} {hr : H} {i : Nat} {oi : Oper} {v : Value} (hi : ops[i]? = some oi) (hsel : ∀ (j : Nat) (o : Oper) cs b, ops[j]? = some o -> o.op ≠ .select cs b)
  (htl : ∀ j oj, ops[j]? = some oj -> j ≠ i -> tl j = true -> puI ops j = true ∨ (∃ e ∈ oj.after, Region.binds md e = true /\ e.on = i) ∨ (i < j /\ qPJ md ops j = true)) :
  ∀ (fuel : Nat) (listed : Array Bool) (a : Act) (h : H), Cl md ops listed ->
   (∀ j oj, ops[j]? = some oj -> j ≠ i -> listed.getD j true = false -> (∀ e ∈ oj.after, Region.binds md e = true -> e.on ≠ i) -> oi.apart ops oj = true) ->
   i ∈ Region.ready md ops listed -> Sub hr h -> Yd P ops hr oi v a ->
   anyI P md ops tl hr N fuel (listed.setIfInBounds i true) (a.put oi.dst v) h -> anyI P md ops tl hr N (fuel + 1) listed a h := by
 intro fuel
 induction fuel with
 | zero =>
  intro listed a h _ _ hr' sb hy X
  refine ⟨fun h => (by rw [h] at hr'; cases hr'), fun j hj => ?_⟩
  by_cases hji : j = i
  ·subst hji; exact hy.opI hi sb X
  ·have := ready_mono hj hji
   rw [X.1] at this
   cases this
 | succ fuel ih =>
  intro listed a h hcl hfree hr' sb hy X
  refine ⟨fun h => (by rw [h] at hr'; cases hr'), fun j hj => ?_⟩
  by_cases hji : j = i
  ·subst hji; exact hy.opI hi sb X
  ·have h1 := X.2 j (ready_mono hj hji)
   obtain ⟨hjun, oj, hoj, hall⟩ := mem_ready.1 hj
   have hnot : ∀ e ∈ oj.after, Region.binds md e = true -> e.on ≠ i := fun e he hb heq => by
    have h1 := hall e he hb
    have h0 := (mem_ready.1 hr').1
    rw [heq] at h1
    rcases Nat.lt_or_ge i listed.size with h' | h'
    ·simp [h'] at h0 h1; rw [h0] at h1; cases h1
    ·simp [Array.getElem?_eq_none h'] at h1
   have hntl : tl j = false ∨ puI ops j = true := by
    cases e : tl j with
    | false => exact .inl rfl
    | true =>
     rcases htl j oj hoj hji e with hp | ⟨e, he, hb, ho⟩ | ⟨hlt, hs⟩
     ·exact .inr hp
     ·exact absurd ho (hnot e he hb)
     ·have h1 := zDG hoj hs hcl (fun e he hb => qYF (hall e he hb)) i hlt
      rw [(mem_ready.1 hr').1] at h1; cases h1
   have h2 := qXS (S := fun x => x = hr) hoj (hfree j oj hoj hji hjun hnot) (fun cs b => hsel i oi cs b hi) (fun cs b => hsel j oj cs b hoj) (fun x e => e ▸ hy) h1
   have hfree' : ∀ k ok, ops[k]? = some ok -> k ≠ i -> (listed.setIfInBounds j true).getD k true = false ->
     (∀ e ∈ ok.after, Region.binds md e = true -> e.on ≠ i) -> oi.apart ops ok = true := fun k ok hk hki hun hno => by
    refine hfree k ok hk hki ?_ hno
    by_cases hjk : j = k
    ·subst hjk; exact hjun
    ·rw [getD_set_ne true hjk] at hun; exact hun
   refine zGI (fun a' h' sb' h3 => ih (listed.setIfInBounds j true) a' h' (hcl.set hj) hfree' (ready_mono hr' (Ne.symm hji)) (sb' hntl) (h3.1 _ rfl) ?_) sb h2
   rw [Array.setIfInBounds_comm _ _ hji]
   exact h3.2
theorem qTI {tl : Nat -> Bool} {hr : H} {i : Nat} {oi : Oper} {v : Value} (hi : ops[i]? = some oi) (hsel : ∀ (j : Nat) (o : Oper) cs b, ops[j]? = some o -> o.op ≠ .select cs b) (ht : tl i = true) :
  ∀ (fuel : Nat) (listed : Array Bool) (a : Act) (h : H),
   (∀ j oj, ops[j]? = some oj -> j ≠ i -> listed.getD j true = false -> (∀ e ∈ oj.after, Region.binds md e = true -> e.on ≠ i) -> oi.apart ops oj = true) ->
   i ∈ Region.ready md ops listed -> (∀ hr, True -> Yd P ops hr oi v a) ->
   anyI P md ops tl hr N fuel (listed.setIfInBounds i true) (a.put oi.dst v) h -> anyI P md ops tl hr N (fuel + 1) listed a h := by
 have self : ∀ (a : Act) (h : H) (K : Act -> H -> Prop), (∀ hr, True -> Yd P ops hr oi v a) -> K (a.put oi.dst v) h -> opI P ops tl hr i K a h := fun a h K hy k => by
  unfold opI
  simp only [hi]
  rcases hy h trivial with ⟨hw, hv⟩ | ⟨hw, rfl⟩
  ·rw [if_pos hw]
   exact hv.mono fun a' h' ⟨e1, e2⟩ => by subst e1; subst e2; exact ⟨fun x => (by rw [ht] at x; cases x), fun _ _ _ s => s, k⟩
  ·rw [if_neg (by rw [hw]; simp)]
   exact k
 intro fuel
 induction fuel with
 | zero =>
  intro listed a h _ hr' hy X
  refine ⟨fun h => (by rw [h] at hr'; cases hr'), fun j hj => ?_⟩
  by_cases hji : j = i
  ·subst hji; exact self a h _ hy X
  ·have := ready_mono hj hji
   rw [X.1] at this
   cases this
 | succ fuel ih =>
  intro listed a h hfree hr' hy X
  refine ⟨fun h => (by rw [h] at hr'; cases hr'), fun j hj => ?_⟩
  by_cases hji : j = i
  ·subst hji; exact self a h _ hy X
  ·have h1 := X.2 j (ready_mono hj hji)
   obtain ⟨hjun, oj, hoj, hall⟩ := mem_ready.1 hj
   have hnot : ∀ e ∈ oj.after, Region.binds md e = true -> e.on ≠ i := fun e he hb heq => by
    have h1 := hall e he hb
    have h0 := (mem_ready.1 hr').1
    rw [heq] at h1
    rcases Nat.lt_or_ge i listed.size with h' | h'
    ·simp [h'] at h0 h1; rw [h0] at h1; cases h1
    ·simp [Array.getElem?_eq_none h'] at h1
   have h2 := qXS (S := fun _ => True) hoj (hfree j oj hoj hji hjun hnot) (fun cs b => hsel i oi cs b hi) (fun cs b => hsel j oj cs b hoj) hy h1
   have hfree' : ∀ k ok, ops[k]? = some ok -> k ≠ i -> (listed.setIfInBounds j true).getD k true = false ->
     (∀ e ∈ ok.after, Region.binds md e = true -> e.on ≠ i) -> oi.apart ops ok = true := fun k ok hk hki hun hno => by
    refine hfree k ok hk hki ?_ hno
    by_cases hjk : j = k
    ·subst hjk; exact hjun
    ·rw [getD_set_ne true hjk] at hun; exact hun
   refine zBF (fun a' h' h3 => ih (listed.setIfInBounds j true) a' h' hfree' (ready_mono hr' (Ne.symm hji)) h3.1 ?_) h2
   rw [Array.setIfInBounds_comm _ _ hji]
   exact h3.2
def qPH (md : Region.Mode) (ops : Array Oper) (j i : Nat) : Bool :=
 match ops[j]? with
 | some oj => oj.after.any fun e => Region.binds md e && e.on == i
 | none => false
theorem qTD {j i : Nat} {oj : Oper} (hj : ops[j]? = some oj) (hb : qPH md ops j i = true) : ∃ e ∈ oj.after, Region.binds md e = true /\ e.on = i := by
 unfold qPH at hb
 simp only [hj] at hb
 obtain ⟨e, he, hb⟩ := Array.any_eq_true'.1 hb
 simp only [Bool.and_eq_true, beq_iff_eq] at hb
 exact ⟨e, he, hb.1, hb.2⟩
def zFF (md : Region.Mode) (ops : Array Oper) (tl : Nat -> Bool) (i : Nat) : Bool :=
 (List.range ops.size).all fun j => j == i || !tl j || puI ops j || qPH md ops j i || (decide (i < j) && qPJ md ops j)
theorem qMY {tl : Nat -> Bool} {hr : H} {i : Nat} {oi : Oper} {v : Value} {fuel : Nat} {listed : Array Bool} {a : Act} {h : H} (hi : ops[i]? = some oi)
  (hs : Region.noSelect ops = true) (hcl : Cl md ops listed) (ht : zFF md ops tl i = true) (hf : Region.free md ops listed i = true) (hr' : i ∈ Region.ready md ops listed) (sb : Sub hr h) (hy : Yd P ops hr oi v a)
  (x : anyI P md ops tl hr N fuel (listed.setIfInBounds i true) (a.put oi.dst v) h) : anyI P md ops tl hr N (fuel + 1) listed a h :=
 qXB hi (Region.noSelect_spec hs) (fun j oj hj hne ht2 => by
  have := List.all_eq_true.1 ht j (List.mem_range.2 (Array.getElem?_eq_some_iff.1 hj).1)
  simp only [Bool.or_eq_true, beq_iff_eq, hne, false_or, ht2, Bool.not_true, Bool.false_eq_true] at this
  rcases this with (this | this) | this
  ·exact .inl this
  ·exact .inr (.inl (qTD hj this))
  ·simp only [Bool.and_eq_true, decide_eq_true_eq] at this
   exact .inr (.inr this)) fuel listed a h hcl (Region.free_spec hi hf) hr' sb hy x
theorem qKC {tl : Nat -> Bool} {hr : H} {i : Nat} {oi : Oper} {v : Value} {fuel : Nat} {listed : Array Bool} {a : Act} {h : H} (hi : ops[i]? = some oi)
  (hs : Region.noSelect ops = true) (ht : tl i = true) (hf : Region.free md ops listed i = true) (hr' : i ∈ Region.ready md ops listed) (hy : ∀ hr, Yd P ops hr oi v a)
  (x : anyI P md ops tl hr N fuel (listed.setIfInBounds i true) (a.put oi.dst v) h) : anyI P md ops tl hr N (fuel + 1) listed a h :=
 qTI hi (Region.noSelect_spec hs) ht fuel listed a h (Region.free_spec hi hf) hr' (fun hr _ => hy hr) x
theorem qMZ {tl : Nat -> Bool} {hr : H} {i : Nat} {fuel : Nat} {listed : Array Bool} {a : Act} {h : H} (hr' : Region.ready md ops listed = [i])
  (x : opI P ops tl hr i (anyI P md ops tl hr N fuel (listed.setIfInBounds i true)) a h) : anyI P md ops tl hr N (fuel + 1) listed a h :=
 ⟨fun h0 => (by rw [hr'] at h0; cases h0), by rw [hr']; intro j hj; simp at hj; subst hj; exact x⟩
theorem qNA {tl : Nat -> Bool} {hr : H} {listed : Array Bool} {a : Act} {h : H} (hr' : Region.ready md ops listed = []) (x : N a h) : ∀ fuel, anyI P md ops tl hr N fuel listed a h
 | 0 => ⟨hr', x⟩
 | _ + 1 => ⟨fun _ => x, by rw [hr']; simp⟩
end
theorem qYY {P : Program} {id : Nat} {ops : Array Oper} {tl : Nat -> Bool} {hr : H} {Q : Exit -> Act -> H -> Prop} {a : Act} {h : H} (hm : P.follows .mixedOrders = true)
  (x : anyI P .any ops tl hr (Q .normal) ops.size (Array.replicate ops.size false) a h) : HC none P (.region id ops true) Q a h := by
 intro h0 w0 w p
 exact wpIn_region_any (F := Fence.wide) hm (qXA _ _ _ _ _ x (p.trans (Pst.drawn p.sat _)))
end Go.Tk
end
