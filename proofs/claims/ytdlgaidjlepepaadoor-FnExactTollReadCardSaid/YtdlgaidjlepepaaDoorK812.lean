/- Parts of the proof, put together: U24, U11, U12, U13, U14, U15, U16. -/
import Derived.Test.YtdlgaidjlepepaaDoorK811
import Derived.Test.YtdlgaidjlepepaaDoorK86
import Derived.Test.YtdlgaidjlepepaaDoorK810
/- FnExactTollRead, what the program's reader gives being given. -/
section
set_option linter.unusedVariables false
set_option linter.unusedSimpArgs false
set_option maxRecDepth 20000
attribute [local irreducible] Go.Tk.vc Go.Tk.vops Go.Tk.vdr Go.Tk.vop Go.Tk.vfl Go.Tk.HCalls
namespace Go.Proofs.YtdlgaidjlepepaaDoor
open Go Go.Tk

/-- What the program's reader of scripts gives. -/
def ImplRead (G : H → Prop) : Prop := ∀ {h : H} {t : List UInt8}, G h → t.length ≤ 4194304 → ∀ {R : Ending → H → Prop}, (∀ v g l n, TollO t l n → oLs 41 cTollEvent 11 v l g → Dj g h → R (.returned (.tuple #[v, .int .i64 n])) (g ++ h)) →
  HCalls Tryd.prog 11 #[.string ⟨t.toArray⟩] h R

theorem exactTollRead_of {G : H → Prop} (hI : ImplRead G) (hG : ∀ {g h : H}, G g → Tk.Sub g h → G h) {h : H} {t : List UInt8} (gl : G h) {R : Ending → H → Prop} (k : R (.returned (.bool true)) h) : HCalls Tryd.prog 4 #[.string ⟨t.toArray⟩] h R := by
  refine HCalls_ir (args := [.string ⟨t.toArray⟩]) Tryd.func4 ir4 ?_
  simp only [walk, lists, acts, mem, plain, seqs, maps, cells, resL, resV, intBin, ↓reduceIte, Nat.reduceAdd, Nat.reduceSub, Nat.reduceMul, Nat.reduceLeDiff, Nat.reduceEqDiff, Int.reduceToNat, Int.reduceEq, Int.reduceLT, Int.reduceLE, Int.reduceNeg, Int.reduceAdd, Int.reduceSub, Int.reduceMul, Nat.reducePow, Int.reduceNegSucc]
  refine ite_lt (fun c => .of k) fun c => ?_
  have ht : t.length ≤ 4194304 := by omega
  refine specTollRead_c ht fun v3 g3 l3 b3 O3 o3 d3 => ?_
  have s3 := Sub.right d3
  simp only [walk, lists, acts, mem, plain, seqs, maps, cells, resL, resV, intBin, ↓reduceIte, Nat.reduceAdd, Nat.reduceSub, Nat.reduceMul, Nat.reduceLeDiff, Nat.reduceEqDiff, Int.reduceToNat, Int.reduceEq, Int.reduceLT, Int.reduceLE, Int.reduceNeg, Int.reduceAdd, Int.reduceSub, Int.reduceMul, Nat.reducePow, Int.reduceNegSucc]
  refine hI (hG gl s3) ht fun v5 g5 l5 b5 O5 o5 d5 => ?_
  obtain ⟨rfl, rfl⟩ := O5.same O3
  have hlen := O5.len
  have s5 := Sub.right d5
  simp only [walk, lists, acts, mem, plain, seqs, maps, cells, resL, resV, intBin, ↓reduceIte, Nat.reduceAdd, Nat.reduceSub, Nat.reduceMul, Nat.reduceLeDiff, Nat.reduceEqDiff, Int.reduceToNat, Int.reduceEq, Int.reduceLT, Int.reduceLE, Int.reduceNeg, Int.reduceAdd, Int.reduceSub, Int.reduceMul, Nat.reducePow, Int.reduceNegSucc]
  refine eqEvents_c (o5.rd.sub (Sub.left _ _)) ((o3.rd.sub (Sub.left _ _)).sub s5) (by omega) ?_
  simp only [walk, lists, acts, mem, plain, seqs, maps, cells, resL, resV, intBin, ↓reduceIte, Nat.reduceAdd, Nat.reduceSub, Nat.reduceMul, Nat.reduceLeDiff, Nat.reduceEqDiff, Int.reduceToNat, Int.reduceEq, Int.reduceLT, Int.reduceLE, Int.reduceNeg, Int.reduceAdd, Int.reduceSub, Int.reduceMul, Nat.reducePow, Int.reduceNegSucc, decide_true]
  refine markTollEventS_c (k := 1) o5 d5 (by omega) (by omega) fun g6 o6 d6 => ?_
  have s6 := Sub.right d6
  simp only [walk, lists, acts, mem, plain, seqs, maps, cells, resL, resV, intBin, ↓reduceIte, Nat.reduceAdd, Nat.reduceSub, Nat.reduceMul, Nat.reduceLeDiff, Nat.reduceEqDiff, Int.reduceToNat, Int.reduceEq, Int.reduceLT, Int.reduceLE, Int.reduceNeg, Int.reduceAdd, Int.reduceSub, Int.reduceMul, Nat.reducePow, Int.reduceNegSucc]
  have ml := mkTollEvent_len 1 l5.length
  have hm : mkTollEvent 1 l5.length = mkTollEvent 1 (mkTollEvent 1 l5.length).length := by rw [ml]
  refine heldTollEventS_c (k := 1) (l := mkTollEvent 1 l5.length) (o6.rd.sub (Sub.left _ _)) hm (by rw [ml]; omega) (by omega) ?_
  simp only [walk, lists, acts, mem, plain, seqs, maps, cells, resL, resV, intBin, ↓reduceIte, Nat.reduceAdd, Nat.reduceSub, Nat.reduceMul, Nat.reduceLeDiff, Nat.reduceEqDiff, Int.reduceToNat, Int.reduceEq, Int.reduceLT, Int.reduceLE, Int.reduceNeg, Int.reduceAdd, Int.reduceSub, Int.reduceMul, Nat.reducePow, Int.reduceNegSucc, ml]
  refine ite_lt (fun c => by omega) fun c1 => ?_
  refine hI (hG gl (s3.trans s6)) ht fun v9 g9 l9 b9 O9 o9 d9 => ?_
  obtain ⟨rfl, rfl⟩ := O3.same O9
  have s9 := Sub.right d9
  simp only [walk, lists, acts, mem, plain, seqs, maps, cells, resL, resV, intBin, ↓reduceIte, Nat.reduceAdd, Nat.reduceSub, Nat.reduceMul, Nat.reduceLeDiff, Nat.reduceEqDiff, Int.reduceToNat, Int.reduceEq, Int.reduceLT, Int.reduceLE, Int.reduceNeg, Int.reduceAdd, Int.reduceSub, Int.reduceMul, Nat.reducePow, Int.reduceNegSucc]
  refine eqEvents_c (o9.rd.sub (Sub.left _ _)) (((o3.rd.sub (Sub.left _ _)).sub s6).sub s9) (by omega) ?_
  simp only [walk, lists, acts, mem, plain, seqs, maps, cells, resL, resV, intBin, ↓reduceIte, Nat.reduceAdd, Nat.reduceSub, Nat.reduceMul, Nat.reduceLeDiff, Nat.reduceEqDiff, Int.reduceToNat, Int.reduceEq, Int.reduceLT, Int.reduceLE, Int.reduceNeg, Int.reduceAdd, Int.reduceSub, Int.reduceMul, Nat.reducePow, Int.reduceNegSucc, decide_true]
  refine heldTollEventS_c (k := 1) (l := mkTollEvent 1 l5.length) ((o6.rd.sub (Sub.left _ _)).sub s9) hm (by rw [ml]; omega) (by omega) ?_
  simp only [walk, lists, acts, mem, plain, seqs, maps, cells, resL, resV, intBin, ↓reduceIte, Nat.reduceAdd, Nat.reduceSub, Nat.reduceMul, Nat.reduceLeDiff, Nat.reduceEqDiff, Int.reduceToNat, Int.reduceEq, Int.reduceLT, Int.reduceLE, Int.reduceNeg, Int.reduceAdd, Int.reduceSub, Int.reduceMul, Nat.reducePow, Int.reduceNegSucc, ml]
  refine ite_lt (fun c => by omega) fun c1 => ?_
  exact ⟨h, s3.trans (s6.trans s9), k⟩
end Go.Proofs.YtdlgaidjlepepaaDoor
end

/- Whether two things that happen are the same. -/
section
set_option linter.unusedVariables false
set_option linter.unusedSimpArgs false
set_option maxRecDepth 20000
attribute [local irreducible] Go.Tk.vc Go.Tk.vops Go.Tk.vdr Go.Tk.vop Go.Tk.vfl Go.Tk.HCalls
namespace Go.Proofs.YtdlgaidjlepepaaDoor
open Go Go.Tk

def bCall (a b : DCall) (o : Nat) : Bool := match o with
  | 0 => a.session == b.session
  | 1 => a.number == b.number
  | 2 => a.kind == b.kind
  | 3 => (⟨a.text.toArray⟩ : ByteArray) == ⟨b.text.toArray⟩
  | 4 => a.slot == b.slot
  | _ => a.to == b.to
theorem text_beq (a b : List UInt8) : ((⟨a.toArray⟩ : ByteArray) == ⟨b.toArray⟩) = decide (a = b) := by
  have e : ∀ l : List UInt8, (⟨l.toArray⟩ : ByteArray).toList = l := fun l => by rw [ByteArray.toList_eq]
  rw [beq_toListBytes, e, e]
  by_cases h : a = b
  · subst h; simp
  · rw [decide_eq_false h]
    exact beq_eq_false_iff_ne.2 h
theorem fCall : (Tryd.prog.fieldsOf 39).toList.map (fun f => (f.type, f.offset, f.name == "_")) = [(3, 0, false), (3, 1, false), (3, 2, false), (9, 3, false), (3, 4, false), (3, 5, false)] := by kernel_rfl
theorem all_off {fs : List Field} {l : List (TypeId × Nat × Bool)} (h : fs.map (fun f => (f.type, f.offset, f.name == "_")) = l) (b : Nat → Bool) : fs.all (fun f => b f.offset) = l.all (fun p => b p.2.1) := by
  rw [← h, List.all_map]; rfl
theorem call_eqs {d : Nat} {a b : DCall} {Q : Bool → H → Prop} {E : Value → H → Prop} {h : H} : SH Tryd.prog (Op.equalIn (d + 2) 39 (.agg (cCall a).toArray) (.agg (cCall b).toArray)) Q E h = Q (decide (a = b)) h := by
  have hd : Tryd.prog.underlying 3 = some (.int .i64) := Tryd.underlying3
  have ht : Tryd.prog.underlying 9 = some .string := Tryd.underlying9
  rw [SH_struct (fs := Tryd.prog.fieldsOf 39) (by kernel_rfl) (by kernel_rfl), SH_eqFieldsB (fun f => bCall a b f.offset) fun f hf => ?_]
  · rw [all_off fCall]
    have : ([(3, 0, false), (3, 1, false), (3, 2, false), (9, 3, false), (3, 4, false), (3, 5, false)].all fun p => bCall a b p.2.1) = decide (a = b) := by
      simp only [List.all_cons, List.all_nil, bCall, text_beq, Bool.and_true]
      rw [Bool.eq_iff_iff]
      obtain ⟨a1, a2, a3, a4, a5, a6⟩ := a
      obtain ⟨b1, b2, b3, b4, b5, b6⟩ := b
      simp only [Bool.and_eq_true, beq_iff_eq, decide_eq_true_eq, DCall.mk.injEq]
    rw [this]
  · have hm : (f.type, f.offset, f.name == "_") ∈ [(3, 0, false), (3, 1, false), (3, 2, false), (9, 3, false), (3, 4, false), (3, 5, false)] := fCall ▸ List.mem_map.2 ⟨f, hf, rfl⟩
    simp only [List.mem_cons, List.not_mem_nil, or_false, Prod.mk.injEq] at hm
    have hn : f.name ≠ "_" := by
      rcases hm with ⟨-, -, e⟩ | ⟨-, -, e⟩ | ⟨-, -, e⟩ | ⟨-, -, e⟩ | ⟨-, -, e⟩ | ⟨-, -, e⟩ <;> exact beq_eq_false_iff_ne.1 e
    refine ⟨hn, ?_⟩
    rcases hm with ⟨e1, e2, -⟩ | ⟨e1, e2, -⟩ | ⟨e1, e2, -⟩ | ⟨e1, e2, -⟩ | ⟨e1, e2, -⟩ | ⟨e1, e2, -⟩ <;> rw [e1, e2]
    · exact ⟨.int .i64 a.session, .int .i64 b.session, fun Q h => SH_part hd rfl rfl, fun Q h => SH_part hd rfl rfl, fun Q h => SH_eqIB hd⟩
    · exact ⟨.int .i64 a.number, .int .i64 b.number, fun Q h => SH_part hd rfl rfl, fun Q h => SH_part hd rfl rfl, fun Q h => SH_eqIB hd⟩
    · exact ⟨.int .i64 a.kind, .int .i64 b.kind, fun Q h => SH_part hd rfl rfl, fun Q h => SH_part hd rfl rfl, fun Q h => SH_eqIB hd⟩
    · exact ⟨.string ⟨a.text.toArray⟩, .string ⟨b.text.toArray⟩, fun Q h => SH_part ht rfl rfl, fun Q h => SH_part ht rfl rfl, fun Q h => SH_eqTB ht⟩
    · exact ⟨.int .i64 a.slot, .int .i64 b.slot, fun Q h => SH_part hd rfl rfl, fun Q h => SH_part hd rfl rfl, fun Q h => SH_eqIB hd⟩
    · exact ⟨.int .i64 a.to, .int .i64 b.to, fun Q h => SH_part hd rfl rfl, fun Q h => SH_part hd rfl rfl, fun Q h => SH_eqIB hd⟩
def bEvent (a b : DTollEvent) (o : Nat) : Bool := match o with
  | 0 => a.kind == b.kind
  | 1 => a.at_ == b.at_
  | 2 => a.session == b.session
  | 3 => a.word == b.word
  | 4 => a.keep == b.keep
  | _ => decide (a.call = b.call)
theorem fEvent : (Tryd.prog.fieldsOf 41).toList.map (fun f => (f.type, f.offset, f.name == "_")) = [(3, 0, false), (3, 1, false), (3, 2, false), (3, 3, false), (3, 4, false), (39, 5, false)] := by kernel_rfl
theorem event_eqs {d : Nat} {a b : DTollEvent} {Q : Bool → H → Prop} {E : Value → H → Prop} {h : H} : SH Tryd.prog (Op.equalIn (d + 3) 41 (.agg (cTollEvent a).toArray) (.agg (cTollEvent b).toArray)) Q E h = Q (decide (a = b)) h := by
  have hd : Tryd.prog.underlying 3 = some (.int .i64) := Tryd.underlying3
  obtain ⟨i, hi, hz⟩ : ∃ i, Tryd.prog.info? 39 = some i ∧ i.size = 6 := Option.map_eq_some_iff.1 (show (Tryd.prog.info? 39).map (·.size) = some 6 by kernel_rfl)
  have hc : Tryd.prog.underlying 39 = some (.struct (Tryd.prog.fieldsOf 39)) := by kernel_rfl
  rw [SH_struct (fs := Tryd.prog.fieldsOf 41) (by kernel_rfl) (by kernel_rfl), SH_eqFieldsB (fun f => bEvent a b f.offset) fun f hf => ?_]
  · rw [all_off fEvent]
    have : ([(3, 0, false), (3, 1, false), (3, 2, false), (3, 3, false), (3, 4, false), (39, 5, false)].all fun p => bEvent a b p.2.1) = decide (a = b) := by
      simp only [List.all_cons, List.all_nil, bEvent, Bool.and_true]
      rw [Bool.eq_iff_iff]
      obtain ⟨a1, a2, a3, a4, a5, a6⟩ := a
      obtain ⟨b1, b2, b3, b4, b5, b6⟩ := b
      simp only [Bool.and_eq_true, beq_iff_eq, decide_eq_true_eq, DTollEvent.mk.injEq]
    rw [this]
  · have hm : (f.type, f.offset, f.name == "_") ∈ [(3, 0, false), (3, 1, false), (3, 2, false), (3, 3, false), (3, 4, false), (39, 5, false)] := fEvent ▸ List.mem_map.2 ⟨f, hf, rfl⟩
    simp only [List.mem_cons, List.not_mem_nil, or_false, Prod.mk.injEq] at hm
    have hn : f.name ≠ "_" := by
      rcases hm with ⟨-, -, e⟩ | ⟨-, -, e⟩ | ⟨-, -, e⟩ | ⟨-, -, e⟩ | ⟨-, -, e⟩ | ⟨-, -, e⟩ <;> exact beq_eq_false_iff_ne.1 e
    refine ⟨hn, ?_⟩
    rcases hm with ⟨e1, e2, -⟩ | ⟨e1, e2, -⟩ | ⟨e1, e2, -⟩ | ⟨e1, e2, -⟩ | ⟨e1, e2, -⟩ | ⟨e1, e2, -⟩ <;> rw [e1, e2]
    · exact ⟨.int .i64 a.kind, .int .i64 b.kind, fun Q h => SH_part hd rfl rfl, fun Q h => SH_part hd rfl rfl, fun Q h => SH_eqIB hd⟩
    · exact ⟨.int .i64 a.at_, .int .i64 b.at_, fun Q h => SH_part hd rfl rfl, fun Q h => SH_part hd rfl rfl, fun Q h => SH_eqIB hd⟩
    · exact ⟨.int .i64 a.session, .int .i64 b.session, fun Q h => SH_part hd rfl rfl, fun Q h => SH_part hd rfl rfl, fun Q h => SH_eqIB hd⟩
    · exact ⟨.int .i64 a.word, .int .i64 b.word, fun Q h => SH_part hd rfl rfl, fun Q h => SH_part hd rfl rfl, fun Q h => SH_eqIB hd⟩
    · exact ⟨.int .i64 a.keep, .int .i64 b.keep, fun Q h => SH_part hd rfl rfl, fun Q h => SH_part hd rfl rfl, fun Q h => SH_eqIB hd⟩
    · refine ⟨.agg (cCall a.call).toArray, .agg (cCall b.call).toArray, fun Q h => ?_, fun Q h => ?_, fun Q h => call_eqs⟩
      · rw [SH_partA hc hi (by rw [hz]; exact Nat.le_refl 11), hz]; rfl
      · rw [SH_partA hc hi (by rw [hz]; exact Nat.le_refl 11), hz]; rfl
theorem event_eq {op : BinOp} {x y : Operand} {a b : DTollEvent} {Q : Value → H → Prop} {E : Value → H → Prop} {h : H} (ho : op = .eql ∨ op = .neq) (k : Q (.bool (if op = .eql then decide (a = b) else !decide (a = b))) h) :
    SH Tryd.prog (do eqGuard op 41 x y (.agg (cTollEvent a).toArray) (.agg (cTollEvent b).toArray); binOp op 41 (.agg (cTollEvent a).toArray) (.agg (cTollEvent b).toArray)) Q E h :=
  SH_eqs ho (by kernel_rfl) (fun Q' => event_eqs (d := 9997)) k
end Go.Proofs.YtdlgaidjlepepaaDoor
end

/- How the reference writes a script. -/
section
set_option linter.unusedVariables false
set_option linter.unusedSimpArgs false
set_option maxRecDepth 20000
attribute [local irreducible] Go.Tk.vc Go.Tk.vops Go.Tk.vdr Go.Tk.vop Go.Tk.vfl Go.Tk.HCalls
namespace Go.Tk
open Go
def lines (l : List DTollEvent) : List UInt8 := (l.map fun e => itext e ++ [10]).flatten
def okW (l : List DTollEvent) : Prop := (∀ e ∈ l, ∃ s, Fit e s) ∧ (lines l).length ≤ 60000
theorem lines_app (l m : List DTollEvent) : lines (l ++ m) = lines l ++ lines m := by simp [lines]
theorem lines_one (e : DTollEvent) : lines [e] = itext e ++ [10] := by simp [lines]
theorem lines_take {l : List DTollEvent} {i : Nat} (h : i < l.length) : lines (l.take (i + 1)) = lines (l.take i) ++ (itext l[i] ++ [10]) := by
  rw [List.take_succ_eq_append_getElem h, lines_app, lines_one]
theorem lines_le {l : List DTollEvent} (i : Nat) : (lines (l.take i)).length ≤ (lines l).length := by
  have : lines l = lines (l.take i) ++ lines (l.drop i) := by rw [← lines_app, List.take_append_drop]
  rw [this, List.length_append]; omega
theorem OutE.same {e e' : DTollEvent} {s : List UInt8} {ok : Bool} (o : OutE s e' ok) (hl : ∀ s', Fit e s' → s' = s) : (∃ s', Fit e s') ↔ (ok = true ∧ e' = e) := by
  constructor
  · rintro ⟨s', f⟩
    have := hl s' f
    subst this
    rcases o with ⟨h1, h2⟩ | ⟨_, h2⟩
    · exact ⟨h1, h2.inj f⟩
    · exact absurd f (h2 e)
  · rintro ⟨h1, h2⟩
    rcases o with ⟨_, h3⟩ | ⟨h3, _⟩
    · exact ⟨s, h2 ▸ h3⟩
    · rw [h1] at h3; cases h3
end Go.Tk
namespace Go.Proofs.YtdlgaidjlepepaaDoor
open Go Go.Tk

theorem specWrite_c {h : H} {v : Value} {l : List DTollEvent} (r : rLs h cTollEvent 11 v l) (hl : l.length ≤ 1048576) (hR : ∀ e ∈ l, evR e) (ht : ∀ e ∈ l, e.call.text.length ≤ 1048576) {R : Ending → H → Prop}
    (k1 : okW l → R (.returned (.string ⟨(lines l).toArray⟩)) h) (k2 : ¬ okW l → R (.returned (.string ⟨#[]⟩)) h) : HCalls Tryd.prog 6 #[v] h R := by
  refine HCalls_ir (args := [v]) Tryd.func6 ir6 ?_
  have ze := zTollEvent_eq
  simp only [str] at ze
  simp only [walk, lists, acts, mem, plain, seqs, maps, cells, resL, resV, intBin, ↓reduceIte, Nat.reduceAdd, Nat.reduceSub, Nat.reduceMul, Nat.reduceLeDiff, Nat.reduceEqDiff, Int.reduceToNat, Int.reduceEq, Int.reduceLT, Int.reduceLE, Int.reduceNeg, Int.reduceAdd, Int.reduceSub, Int.reduceMul, Nat.reducePow, Int.reduceNegSucc, str, ze]
  refine vc_loop [4, 3] (fun n vs h' => ∃ (i : Nat), vs = [.int .i64 i, .string ⟨(lines (l.take i)).toArray⟩] ∧ h' = h ∧ (∀ e ∈ l.take i, ∃ s, Fit e s) ∧ (lines (l.take i)).length ≤ 60000 ∧ i ≤ l.length ∧ n = l.length - i) l.length rfl
    ⟨0, rfl, rfl, by simp, by simp [lines], by omega, rfl⟩ ?_
  rintro n f h' ⟨i, hv, rfl, hf, hlen, hi, rfl⟩
  simp only [List.map_cons, List.map_nil, List.cons.injEq, and_true] at hv
  simp only [walk, lists, acts, mem, plain, seqs, maps, cells, resL, resV, intBin, ↓reduceIte, Nat.reduceAdd, Nat.reduceSub, Nat.reduceMul, Nat.reduceLeDiff, Nat.reduceEqDiff, Int.reduceToNat, Int.reduceEq, Int.reduceLT, Int.reduceLE, Int.reduceNeg, Int.reduceAdd, Int.reduceSub, Int.reduceMul, Nat.reducePow, Int.reduceNegSucc, wr, hv.1, hv.2, r.len, str, ze]
  refine ite_lt (fun c => ?_) fun c => ?_
  · have hi2 : i < l.length := by omega
    refine idx_leaf (i := i) eE_len r rfl hi2 fun b1 o1 e1 => ?_
    simp only [walk, lists, acts, mem, plain, seqs, maps, cells, resL, resV, intBin, ↓reduceIte, Nat.reduceAdd, Nat.reduceSub, Nat.reduceMul, Nat.reduceLeDiff, Nat.reduceEqDiff, Int.reduceToNat, Int.reduceEq, Int.reduceLT, Int.reduceLE, Int.reduceNeg, Int.reduceAdd, Int.reduceSub, Int.reduceMul, Nat.reducePow, Int.reduceNegSucc, e1, wTollEvent]
    have hm := List.getElem_mem hi2
    refine line_c (hR _ hm) (ht _ hm) fun s hs hsl => ?_
    simp only [walk, lists, acts, mem, plain, seqs, maps, cells, resL, resV, intBin, ↓reduceIte, Nat.reduceAdd, Nat.reduceSub, Nat.reduceMul, Nat.reduceLeDiff, Nat.reduceEqDiff, Int.reduceToNat, Int.reduceEq, Int.reduceLT, Int.reduceLE, Int.reduceNeg, Int.reduceAdd, Int.reduceSub, Int.reduceMul, Nat.reducePow, Int.reduceNegSucc, wTollEvent]
    refine read_c (by omega) fun e' ok ho => ?_
    simp only [walk, lists, acts, mem, plain, seqs, maps, cells, resL, resV, intBin, ↓reduceIte, Nat.reduceAdd, Nat.reduceSub, Nat.reduceMul, Nat.reduceLeDiff, Nat.reduceEqDiff, Int.reduceToNat, Int.reduceEq, Int.reduceLT, Int.reduceLE, Int.reduceNeg, Int.reduceAdd, Int.reduceSub, Int.reduceMul, Nat.reducePow, Int.reduceNegSucc, wTollEvent]
    refine newB_intro fun j hj => ?_
    have sj := Sub.cons (o := blk (cTollEvent e') 41) hj (Sub.refl h')
    have same := ho.same hs
    have bad : ¬ (ok = true ∧ e' = l[i]) → ¬ okW l := fun x y => x (same.1 (y.1 _ hm))
    simp only [walk, lists, acts, mem, plain, seqs, maps, cells, resL, resV, intBin, ↓reduceIte, Nat.reduceAdd, Nat.reduceSub, Nat.reduceMul, Nat.reduceLeDiff, Nat.reduceEqDiff, Int.reduceToNat, Int.reduceEq, Int.reduceLT, Int.reduceLE, Int.reduceNeg, Int.reduceAdd, Int.reduceSub, Int.reduceMul, Nat.reducePow, Int.reduceNegSucc, wTollEvent]
    refine vc_draw _ (Sub.refl _) ?_
    cases ok with
    | false =>
      simp only [walk, lists, acts, mem, plain, seqs, maps, cells, resL, resV, intBin, ↓reduceIte, Nat.reduceAdd, Nat.reduceSub, Nat.reduceMul, Nat.reduceLeDiff, Nat.reduceEqDiff, Int.reduceToNat, Int.reduceEq, Int.reduceLT, Int.reduceLE, Int.reduceNeg, Int.reduceAdd, Int.reduceSub, Int.reduceMul, Nat.reducePow, Int.reduceNegSucc, wTollEvent, str]
      exact ⟨h', sj, k2 (bad (by simp))⟩
    | true =>
      simp only [walk, lists, acts, mem, plain, seqs, maps, cells, resL, resV, intBin, ↓reduceIte, Nat.reduceAdd, Nat.reduceSub, Nat.reduceMul, Nat.reduceLeDiff, Nat.reduceEqDiff, Int.reduceToNat, Int.reduceEq, Int.reduceLT, Int.reduceLE, Int.reduceNeg, Int.reduceAdd, Int.reduceSub, Int.reduceMul, Nat.reducePow, Int.reduceNegSucc, wTollEvent]
      refine idx_leaf (i := i) eE_len (r.sub sj) rfl hi2 fun b2 o2 e2 => ?_
      simp only [walk, lists, acts, mem, plain, seqs, maps, cells, resL, resV, intBin, ↓reduceIte, Nat.reduceAdd, Nat.reduceSub, Nat.reduceMul, Nat.reduceLeDiff, Nat.reduceEqDiff, Int.reduceToNat, Int.reduceEq, Int.reduceLT, Int.reduceLE, Int.reduceNeg, Int.reduceAdd, Int.reduceSub, Int.reduceMul, Nat.reducePow, Int.reduceNegSucc, wTollEvent, e2]
      refine event_eq (.inr rfl) ?_
      simp only [walk, lists, acts, mem, plain, seqs, maps, cells, resL, resV, intBin, ↓reduceIte, Nat.reduceAdd, Nat.reduceSub, Nat.reduceMul, Nat.reduceLeDiff, Nat.reduceEqDiff, Int.reduceToNat, Int.reduceEq, Int.reduceLT, Int.reduceLE, Int.reduceNeg, Int.reduceAdd, Int.reduceSub, Int.reduceMul, Nat.reducePow, Int.reduceNegSucc, wTollEvent, reduceCtorEq]
      by_cases ce : e' = l[i]
      · subst ce
        have fs : Fit l[i] s := by
          rcases ho with ⟨_, f⟩ | ⟨x, _⟩
          · exact f
          · cases x
        have it := itext_fit fs
        have lt := lines_take hi2
        rw [it] at lt
        have ll := congrArg List.length lt
        simp only [List.length_append, List.length_cons, List.length_nil] at ll
        simp only [walk, lists, acts, mem, plain, seqs, maps, cells, resL, resV, intBin, ↓reduceIte, Nat.reduceAdd, Nat.reduceSub, Nat.reduceMul, Nat.reduceLeDiff, Nat.reduceEqDiff, Int.reduceToNat, Int.reduceEq, Int.reduceLT, Int.reduceLE, Int.reduceNeg, Int.reduceAdd, Int.reduceSub, Int.reduceMul, Nat.reducePow, Int.reduceNegSucc, decide_true, Bool.not_true]
        simp (disch := (first | assumption | (simp only [List.length_append, List.length_cons, List.length_nil]; omega) | omega)) only [walk, lists, acts, mem, plain, seqs, maps, cells, resL, resV, intBin, ↓reduceIte, Nat.reduceAdd, Nat.reduceSub, Nat.reduceMul, Nat.reduceLeDiff, Nat.reduceEqDiff, Int.reduceToNat, Int.reduceEq, Int.reduceLT, Int.reduceLE, Int.reduceNeg, Int.reduceAdd, Int.reduceSub, Int.reduceMul, Nat.reducePow, Int.reduceNegSucc, wTollEvent, str, str_add]
        have el : lines (l.take i) ++ s ++ [10] = lines (l.take (i + 1)) := by rw [lt]; simp
        rw [el]
        refine ite_lt (fun c6 => ?_) fun c6 => ?_
        · exact ⟨h', sj, k2 fun y => by have := y.2; have := lines_le (l := l) (i + 1); omega⟩
        · simp (disch := omega) only [wrapI]
          refine ⟨l.length - (i + 1), by omega, h', sj, i + 1, by simp, rfl, fun e he => ?_, by omega, by omega, rfl⟩
          rw [List.take_succ_eq_append_getElem hi2] at he
          rcases List.mem_append.1 he with he | he
          · exact hf e he
          · rw [List.mem_singleton] at he
            subst he
            exact ⟨s, fs⟩
      · simp only [walk, lists, acts, mem, plain, seqs, maps, cells, resL, resV, intBin, ↓reduceIte, Nat.reduceAdd, Nat.reduceSub, Nat.reduceMul, Nat.reduceLeDiff, Nat.reduceEqDiff, Int.reduceToNat, Int.reduceEq, Int.reduceLT, Int.reduceLE, Int.reduceNeg, Int.reduceAdd, Int.reduceSub, Int.reduceMul, Nat.reducePow, Int.reduceNegSucc, decide_false, Bool.not_false, ce]
        exact ⟨h', sj, k2 (bad (by simp [ce]))⟩
  · have hi2 : i = l.length := by omega
    subst hi2
    rw [List.take_length] at hf hlen ⊢
    exact .of (k1 ⟨hf, hlen⟩)
end Go.Proofs.YtdlgaidjlepepaaDoor
end

/- How the program reads numbers and what calls ask for. -/
section
set_option linter.unusedVariables false
set_option linter.unusedSimpArgs false
set_option maxRecDepth 20000
attribute [local irreducible] Go.Tk.vc Go.Tk.vops Go.Tk.vdr Go.Tk.vop Go.Tk.vfl Go.Tk.HCalls
namespace Go.Proofs.YtdlgaidjlepepaaDoor
open Go Go.Tk

theorem number_c {h : H} {t : List UInt8} (g : Gl h) (ht : t.length ≤ 4194304) {R : Ending → H → Prop}
    (k : ∀ (n : Int) (ok : Bool), i64P n → (∀ m : Nat, numS t = some m → ok = true ∧ n = (m : Int)) → (ok = true → numS t ≠ none) → R (.returned (.tuple #[.int .i64 n, .bool ok])) h) :
    HCalls Tryd.prog 43 #[.string ⟨t.toArray⟩] h R := by
  refine HCalls_ir (args := [.string ⟨t.toArray⟩]) Tryd.func43 ir43 ?_
  simp only [walk, lists, acts, mem, plain, seqs, maps, cells, resL, resV, intBin, ↓reduceIte, Nat.reduceAdd, Nat.reduceSub, Nat.reduceMul, Nat.reduceLeDiff, Nat.reduceEqDiff, Int.reduceToNat, Int.reduceEq, Int.reduceLT, Int.reduceLE, Int.reduceNeg, Int.reduceAdd, Int.reduceSub, Int.reduceMul, Nat.reducePow, Int.reduceNegSucc]
  refine atoi_c g ht fun n e hm hn he => ?_
  have bad : ∀ {b : Bool}, b = false → (e = .nilIface → 0 ≤ n → t.length ≤ 5 → ¬ decI n = t) → dP R (.returned (.tuple #[.int .i64 n, .bool b])) h := fun {b} hb f => by
    subst hb
    refine .of (k n false hn (fun m x => ?_) fun x => by cases x)
    obtain ⟨h1, h2⟩ := hm m x
    obtain ⟨h3, h4⟩ := numS_some x
    exact absurd (by rw [h1, decI_nat]; exact h3.symm) (f h2 (by omega) (by rw [h3]; exact (decN_len5 m).2 h4))
  rcases he with rfl | ⟨y, p, rfl⟩
  · simp only [walk, lists, acts, mem, plain, seqs, maps, cells, resL, resV, intBin, ↓reduceIte, Nat.reduceAdd, Nat.reduceSub, Nat.reduceMul, Nat.reduceLeDiff, Nat.reduceEqDiff, Int.reduceToNat, Int.reduceEq, Int.reduceLT, Int.reduceLE, Int.reduceNeg, Int.reduceAdd, Int.reduceSub, Int.reduceMul, Nat.reducePow, Int.reduceNegSucc, str]
    refine ⟨rfl, ?_⟩
    refine ite_ge (fun c1 => ?_) fun c1 => ?_
    · refine ite_ge (fun c2 => ?_) fun c2 => ?_
      · refine itoa_c g hn ?_
        simp only [walk, lists, acts, mem, plain, seqs, maps, cells, resL, resV, intBin, ↓reduceIte, Nat.reduceAdd, Nat.reduceSub, Nat.reduceMul, Nat.reduceLeDiff, Nat.reduceEqDiff, Int.reduceToNat, Int.reduceEq, Int.reduceLT, Int.reduceLE, Int.reduceNeg, Int.reduceAdd, Int.reduceSub, Int.reduceMul, Nat.reducePow, Int.reduceNegSucc, strBin, str_inj]
        by_cases ce : decI n = t
        · refine .of (k n _ hn (fun m x => ⟨decide_eq_true ce, (hm m x).1⟩) fun _ x => ?_)
          have hnn : decI n = decN n.toNat := by unfold decI; rw [if_neg (by omega)]
          rw [hnn] at ce
          rw [← ce, numS_dec ((decN_len5 _).1 (by rw [ce]; omega))] at x
          cases x
        · exact bad (decide_eq_false ce) fun _ _ _ => ce
      · exact bad rfl fun _ _ x => absurd x (by omega)
    · exact bad rfl fun _ x => absurd x (by omega)
  · simp only [walk, lists, acts, mem, plain, seqs, maps, cells, resL, resV, intBin, ↓reduceIte, Nat.reduceAdd, Nat.reduceSub, Nat.reduceMul, Nat.reduceLeDiff, Nat.reduceEqDiff, Int.reduceToNat, Int.reduceEq, Int.reduceLT, Int.reduceLE, Int.reduceNeg, Int.reduceAdd, Int.reduceSub, Int.reduceMul, Nat.reducePow, Int.reduceNegSucc, str]
    exact bad rfl fun x => by cases x

theorem scriptText_c {h : H} {t : List UInt8} (ht : t.length ≤ 4194304) {R : Ending → H → Prop} (k : Asks R (printP t ∧ t.length ≤ 80) h) : HCalls Tryd.prog 61 #[.string ⟨t.toArray⟩] h R := by
  refine HCalls_ir (args := [.string ⟨t.toArray⟩]) Tryd.func61 ir61 ?_
  simp only [walk, lists, acts, mem, plain, seqs, maps, cells, resL, resV, intBin, ↓reduceIte, Nat.reduceAdd, Nat.reduceSub, Nat.reduceMul, Nat.reduceLeDiff, Nat.reduceEqDiff, Int.reduceToNat, Int.reduceEq, Int.reduceLT, Int.reduceLE, Int.reduceNeg, Int.reduceAdd, Int.reduceSub, Int.reduceMul, Nat.reducePow, Int.reduceNegSucc]
  refine vc_loop [6] (fun n vs h' => ∃ (i : Nat), vs = [.int .i64 i] ∧ h' = h ∧ (∀ b ∈ t.take i, 32 ≤ b.toNat ∧ b.toNat ≤ 126) ∧ i ≤ t.length ∧ n = t.length - i) t.length rfl
    ⟨0, rfl, rfl, by simp, by omega, rfl⟩ ?_
  rintro n f h' ⟨i, hv, rfl, hp, hi, rfl⟩
  simp only [List.map_cons, List.map_nil, List.cons.injEq, and_true] at hv
  simp only [walk, lists, acts, mem, plain, seqs, maps, cells, resL, resV, intBin, ↓reduceIte, Nat.reduceAdd, Nat.reduceSub, Nat.reduceMul, Nat.reduceLeDiff, Nat.reduceEqDiff, Int.reduceToNat, Int.reduceEq, Int.reduceLT, Int.reduceLE, Int.reduceNeg, Int.reduceAdd, Int.reduceSub, Int.reduceMul, Nat.reducePow, Int.reduceNegSucc, wr, hv]
  refine ite_lt (fun c3 => ?_) fun c3 => ?_
  · have hi2 : i < t.length := by omega
    have hg : t[i]? = some t[i] := List.getElem?_eq_getElem hi2
    have bad : ¬ (32 ≤ t[i].toNat ∧ t[i].toNat ≤ 126) → ¬ (printP t ∧ t.length ≤ 80) := fun x y => x (y.1 _ (List.getElem_mem hi2))
    simp only [walk, lists, acts, mem, plain, seqs, maps, cells, resL, resV, intBin, ↓reduceIte, Nat.reduceAdd, Nat.reduceSub, Nat.reduceMul, Nat.reduceLeDiff, Nat.reduceEqDiff, Int.reduceToNat, Int.reduceEq, Int.reduceLT, Int.reduceLE, Int.reduceNeg, Int.reduceAdd, Int.reduceSub, Int.reduceMul, Nat.reducePow, Int.reduceNegSucc, wr, hv, hg]
    refine ⟨by omega, ?_⟩
    refine ite_lt (fun c4 => .of (k.no (bad (by omega)))) fun c4 => ?_
    refine ⟨by omega, ?_⟩
    refine ite_lt (fun c5 => .of (k.no (bad (by omega)))) fun c5 => ?_
    simp (disch := omega) only [walk, lists, acts, mem, plain, seqs, maps, cells, resL, resV, intBin, ↓reduceIte, Nat.reduceAdd, Nat.reduceSub, Nat.reduceMul, Nat.reduceLeDiff, Nat.reduceEqDiff, Int.reduceToNat, Int.reduceEq, Int.reduceLT, Int.reduceLE, Int.reduceNeg, Int.reduceAdd, Int.reduceSub, Int.reduceMul, Nat.reducePow, Int.reduceNegSucc, wrapI]
    refine ⟨t.length - (i + 1), by omega, _, .refl _, i + 1, by simp, rfl, fun b hb => ?_, by omega, rfl⟩
    rw [List.take_succ_eq_append_getElem hi2] at hb
    rcases List.mem_append.1 hb with hb | hb
    · exact hp b hb
    · rw [List.mem_singleton] at hb
      subst hb
      omega
  · have hi2 : i = t.length := by omega
    subst hi2
    rw [List.take_length] at hp
    refine .of (k _ ?_)
    simp only [decide_eq_true_eq]
    exact ⟨fun x => ⟨hp, by omega⟩, fun x => by omega⟩

theorem nothing_c {h : H} {v : Value} {t : List UInt8} {R : Ending → H → Prop} (k : R (.returned (.bool (decide (t = [])))) h) : HCalls Tryd.prog 52 #[v, .string ⟨t.toArray⟩] h R := by
  refine HCalls_ir (args := [v, .string ⟨t.toArray⟩]) Tryd.func52 ir52 ?_
  have e : ((⟨t.toArray⟩ : ByteArray) = ⟨#[]⟩) = (t = []) := propext ⟨fun e => by simpa using congrArg (fun a : ByteArray => a.data.toList) e, fun e => by rw [e]⟩
  simp only [walk, lists, acts, mem, plain, seqs, maps, cells, resL, resV, intBin, ↓reduceIte, Nat.reduceAdd, Nat.reduceSub, Nat.reduceMul, Nat.reduceLeDiff, Nat.reduceEqDiff, Int.reduceToNat, Int.reduceEq, Int.reduceLT, Int.reduceLE, Int.reduceNeg, Int.reduceAdd, Int.reduceSub, Int.reduceMul, Nat.reducePow, Int.reduceNegSucc, str, strBin, e]
  exact .of k
theorem noText_c {h : H} {v : Value} {R : Ending → H → Prop} (k : R (.returned (.string ⟨#[]⟩)) h) : HCalls Tryd.prog 53 #[v] h R := by
  refine HCalls_ir (args := [v]) Tryd.func53 ir53 ?_
  simp only [walk, lists, acts, mem, plain, seqs, maps, cells, resL, resV, intBin, ↓reduceIte, Nat.reduceAdd, Nat.reduceSub, Nat.reduceMul, Nat.reduceLeDiff, Nat.reduceEqDiff, Int.reduceToNat, Int.reduceEq, Int.reduceLT, Int.reduceLE, Int.reduceNeg, Int.reduceAdd, Int.reduceSub, Int.reduceMul, Nat.reducePow, Int.reduceNegSucc, str]
  exact .of k
theorem callText_c {h : H} {jd : Nat} {e : DTollEvent} (g : Gl h) (hd : hget h jd = some (blk (cTollEvent e) 74)) (h1 : i64P e.call.slot) (h2 : i64P e.call.to) (ht : e.call.text.length ≤ 4194304) {R : Ending → H → Prop} (k : R (.returned (.string ⟨(callT e.call).toArray⟩)) h) :
    HCalls Tryd.prog 51 #[.pointer (some ⟨jd, 0, none⟩)] h R := by
  refine HCalls_ir (args := [.pointer (some ⟨jd, 0, none⟩)]) Tryd.func51 ir51 ?_
  have c7 : hcel h jd 7 = some (.int .i64 e.call.kind) := by unfold hcel; rw [hd]; rfl
  have c8 : hcel h jd 8 = some (.string ⟨e.call.text.toArray⟩) := by unfold hcel; rw [hd]; rfl
  have c9 : hcel h jd 9 = some (.int .i64 e.call.slot) := by unfold hcel; rw [hd]; rfl
  have c10 : hcel h jd 10 = some (.int .i64 e.call.to) := by unfold hcel; rw [hd]; rfl
  have l1 := decI_len' h1
  have l2 := decI_len' h2
  simp only [walk, lists, acts, mem, plain, seqs, maps, cells, resL, resV, intBin, ↓reduceIte, Nat.reduceAdd, Nat.reduceSub, Nat.reduceMul, Nat.reduceLeDiff, Nat.reduceEqDiff, Int.reduceToNat, Int.reduceEq, Int.reduceLT, Int.reduceLE, Int.reduceNeg, Int.reduceAdd, Int.reduceSub, Int.reduceMul, Nat.reducePow, Int.reduceNegSucc, str, c7]
  refine ite_pos (fun e1 => ?_) fun e1 => ?_
  · simp only [walk, lists, acts, mem, plain, seqs, maps, cells, resL, resV, intBin, ↓reduceIte, Nat.reduceAdd, Nat.reduceSub, Nat.reduceMul, Nat.reduceLeDiff, Nat.reduceEqDiff, Int.reduceToNat, Int.reduceEq, Int.reduceLT, Int.reduceLE, Int.reduceNeg, Int.reduceAdd, Int.reduceSub, Int.reduceMul, Nat.reducePow, Int.reduceNegSucc, str, c8]
    simp (disch := (first | assumption | (simp only [List.length_append, List.length_cons, List.length_nil]; omega) | omega)) only [walk, lists, acts, mem, plain, seqs, maps, cells, resL, resV, intBin, ↓reduceIte, Nat.reduceAdd, Nat.reduceSub, Nat.reduceMul, Nat.reduceLeDiff, Nat.reduceEqDiff, Int.reduceToNat, Int.reduceEq, Int.reduceLT, Int.reduceLE, Int.reduceNeg, Int.reduceAdd, Int.reduceSub, Int.reduceMul, Nat.reducePow, Int.reduceNegSucc, str, str_add]
    have : callT e.call = [32, 100, 101, 97, 108, 32] ++ e.call.text := by unfold callT; rw [if_pos e1]
    rw [this] at k
    exact .of k
  · refine ite_pos (fun e2 => ?_) fun e2 => ?_
    · refine vc_draw _ (Sub.refl _) ?_
      simp only [walk, lists, acts, mem, plain, seqs, maps, cells, resL, resV, intBin, ↓reduceIte, Nat.reduceAdd, Nat.reduceSub, Nat.reduceMul, Nat.reduceLeDiff, Nat.reduceEqDiff, Int.reduceToNat, Int.reduceEq, Int.reduceLT, Int.reduceLE, Int.reduceNeg, Int.reduceAdd, Int.reduceSub, Int.reduceMul, Nat.reducePow, Int.reduceNegSucc, str, c9, c10]
      refine itoa_c g h1 ?_
      simp (disch := (first | assumption | (simp only [List.length_append, List.length_cons, List.length_nil]; omega) | omega)) only [walk, lists, acts, mem, plain, seqs, maps, cells, resL, resV, intBin, ↓reduceIte, Nat.reduceAdd, Nat.reduceSub, Nat.reduceMul, Nat.reduceLeDiff, Nat.reduceEqDiff, Int.reduceToNat, Int.reduceEq, Int.reduceLT, Int.reduceLE, Int.reduceNeg, Int.reduceAdd, Int.reduceSub, Int.reduceMul, Nat.reducePow, Int.reduceNegSucc, str, str_add]
      refine itoa_c g h2 ?_
      simp (disch := (first | assumption | (simp only [List.length_append, List.length_cons, List.length_nil]; omega) | omega)) only [walk, lists, acts, mem, plain, seqs, maps, cells, resL, resV, intBin, ↓reduceIte, Nat.reduceAdd, Nat.reduceSub, Nat.reduceMul, Nat.reduceLeDiff, Nat.reduceEqDiff, Int.reduceToNat, Int.reduceEq, Int.reduceLT, Int.reduceLE, Int.reduceNeg, Int.reduceAdd, Int.reduceSub, Int.reduceMul, Nat.reducePow, Int.reduceNegSucc, str, str_add]
      have : callT e.call = [32, 109, 111, 118, 101, 32] ++ decI e.call.slot ++ [32] ++ decI e.call.to := by unfold callT; rw [if_neg e1, if_pos e2]
      rw [this] at k
      exact .of k
    · have : callT e.call = [] := by unfold callT; rw [if_neg e1, if_neg e2]
      rw [this] at k
      exact .of k

/-- What the program reads of what a call asks for: leniently. -/
theorem readCall_c {h : H} {jd : Nat} {e : DTollEvent} {s : List UInt8} (g : Gl h) (hj : hget h jd = none) (he : e.call = zCall) (hs : s.length ≤ 4194304) {R : Ending → H → Prop}
    (k : ∀ c ok, (ok = true → askP c) → (∀ c', askP c' → s = askC c' → ok = true ∧ c = c') → i64P c.slot → i64P c.to → c.text.length ≤ 4194304 → (ok = false ∨ ok = true) → R (.returned (.bool ok)) ((jd, blk (cTollEvent { e with call := c }) 74) :: h) ) :
    HCalls Tryd.prog 50 #[.pointer (some ⟨jd, 0, none⟩), .string ⟨s.toArray⟩] ((jd, blk (cTollEvent e) 74) :: h) R := by
  refine HCalls_ir (args := [.pointer (some ⟨jd, 0, none⟩), .string ⟨s.toArray⟩]) Tryd.func50 ir50 ?_
  have zc := zCall_eq
  simp only [str] at zc
  simp only [walk, lists, acts, mem, plain, seqs, maps, cells, resL, resV, intBin, ↓reduceIte, Nat.reduceAdd, Nat.reduceSub, Nat.reduceMul, Nat.reduceLeDiff, Nat.reduceEqDiff, Int.reduceToNat, Int.reduceEq, Int.reduceLT, Int.reduceLE, Int.reduceNeg, Int.reduceAdd, Int.reduceSub, Int.reduceMul, Nat.reducePow, Int.reduceNegSucc, wTollEvent, str, zc]
  have sg : ∀ q, Gl ((jd, blk (cTollEvent q) 74) :: h) := fun q => g.sub (Sub.cons hj (Sub.refl _))
  have el : ∀ (x y : List UInt8), ((⟨x.toArray⟩ : ByteArray) = ⟨y.toArray⟩) = (x = y) := fun x y => propext ⟨fun e => by simpa using congrArg (fun a : ByteArray => a.data.toList) e, fun e => by rw [e]⟩
  refine cut_c hs fun a b f hc => ?_
  have hab : a.length ≤ s.length ∧ b.length ≤ s.length := by
    obtain ⟨_, ⟨_, h2⟩ | ⟨_, h2, h3⟩⟩ := hc
    · rw [h2]; simp; omega
    · rw [h2, h3]; simp
  simp only [walk, lists, acts, mem, plain, seqs, maps, cells, resL, resV, intBin, ↓reduceIte, Nat.reduceAdd, Nat.reduceSub, Nat.reduceMul, Nat.reduceLeDiff, Nat.reduceEqDiff, Int.reduceToNat, Int.reduceEq, Int.reduceLT, Int.reduceLE, Int.reduceNeg, Int.reduceAdd, Int.reduceSub, Int.reduceMul, Nat.reducePow, Int.reduceNegSucc, wTollEvent, str, strBin, el]
  have comp : ∀ c', askP c' → s = askC c' → (c'.kind = 1 ∧ a = [100, 101, 97, 108] ∧ b = c'.text ∧ c' = ⟨0, 0, 1, b, 0, 0⟩ ∧ printP b ∧ b.length ≤ 80) ∨ (c'.kind = 2 ∧ a = [109, 111, 118, 101] ∧ ∃ x y : Nat, x ≤ 99999 ∧ y ≤ 99999 ∧ b = decN x ++ 32 :: decN y ∧ c' = ⟨0, 0, 2, [], (x : Int), (y : Int)⟩) := by
    intro c' hp hsc
    obtain ⟨q1, q2, ⟨kd, pt, lt, s0, t0⟩ | ⟨kd, t0, sa, sb⟩⟩ := hp
    · have h1 : s = [100, 101, 97, 108] ++ 32 :: c'.text := by rw [hsc]; simp [askC, kd]
      obtain ⟨r1, r2, _⟩ := hc.at h1 (by decide)
      refine .inl ⟨kd, r1, r2, ?_, by rw [r2]; exact pt, by rw [r2]; exact lt⟩
      obtain ⟨x1, x2, x3, x4, x5, x6⟩ := c'
      simp only at q1 q2 kd s0 t0 r2
      rw [q1, q2, kd, s0, t0, r2]
    · obtain ⟨x, hx, hx2⟩ := sm5_nat sa
      obtain ⟨y, hy, hy2⟩ := sm5_nat sb
      have h1 : s = [109, 111, 118, 101] ++ 32 :: (decN x ++ 32 :: decN y) := by rw [hsc]; simp [askC, kd, hx, hy, decI_nat]
      obtain ⟨r1, r2, _⟩ := hc.at h1 (by decide)
      refine .inr ⟨kd, r1, x, y, hx2, hy2, r2, ?_⟩
      obtain ⟨x1, x2, x3, x4, x5, x6⟩ := c'
      simp only at q1 q2 kd t0 hx hy
      rw [q1, q2, kd, t0, hx, hy]
  refine ite_pos (fun ca => ?_) fun ca => ?_
  · simp only [walk, lists, acts, mem, plain, seqs, maps, cells, resL, resV, intBin, ↓reduceIte, Nat.reduceAdd, Nat.reduceSub, Nat.reduceMul, Nat.reduceLeDiff, Nat.reduceEqDiff, Int.reduceToNat, Int.reduceEq, Int.reduceLT, Int.reduceLE, Int.reduceNeg, Int.reduceAdd, Int.reduceSub, Int.reduceMul, Nat.reducePow, Int.reduceNegSucc, wTollEvent, wCall]
    refine scriptText_c (by omega) fun b1 hb1 => ?_
    simp only [walk, lists, acts, mem, plain, seqs, maps, cells, resL, resV, intBin, ↓reduceIte, Nat.reduceAdd, Nat.reduceSub, Nat.reduceMul, Nat.reduceLeDiff, Nat.reduceEqDiff, Int.reduceToNat, Int.reduceEq, Int.reduceLT, Int.reduceLE, Int.reduceNeg, Int.reduceAdd, Int.reduceSub, Int.reduceMul, Nat.reducePow, Int.reduceNegSucc, wTollEvent, wCall]
    refine .of (k ⟨0, 0, 1, b, 0, 0⟩ b1 (fun x => ⟨rfl, rfl, .inl ⟨rfl, (hb1.1 x).1, (hb1.1 x).2, rfl, rfl⟩⟩) (fun c' hp hsc => ?_) (show i64P 0 from ⟨by decide, by decide⟩) (show i64P 0 from ⟨by decide, by decide⟩) (by show b.length ≤ _; omega) (by cases b1 <;> simp))
    rcases comp c' hp hsc with ⟨_, _, _, h4, h5, h6⟩ | ⟨_, h2, _⟩
    · exact ⟨hb1.2 ⟨h5, h6⟩, h4.symm⟩
    · rw [ca] at h2; exact absurd h2 (by decide)
  · refine ite_pos (fun cb => ?_) fun cb => ?_
    · refine cut_c (by omega) fun a2 b2 f2 hc2 => ?_
      have hab2 : a2.length ≤ b.length ∧ b2.length ≤ b.length := by
        obtain ⟨_, ⟨_, h2⟩ | ⟨_, h2, h3⟩⟩ := hc2
        · rw [h2]; simp; omega
        · rw [h2, h3]; simp
      simp only [walk, lists, acts, mem, plain, seqs, maps, cells, resL, resV, intBin, ↓reduceIte, Nat.reduceAdd, Nat.reduceSub, Nat.reduceMul, Nat.reduceLeDiff, Nat.reduceEqDiff, Int.reduceToNat, Int.reduceEq, Int.reduceLT, Int.reduceLE, Int.reduceNeg, Int.reduceAdd, Int.reduceSub, Int.reduceMul, Nat.reducePow, Int.reduceNegSucc, wTollEvent, wCall]
      refine number_c (sg _) (by omega) fun n1 ok1 i1 ha1 hb1 => ?_
      simp only [walk, lists, acts, mem, plain, seqs, maps, cells, resL, resV, intBin, ↓reduceIte, Nat.reduceAdd, Nat.reduceSub, Nat.reduceMul, Nat.reduceLeDiff, Nat.reduceEqDiff, Int.reduceToNat, Int.reduceEq, Int.reduceLT, Int.reduceLE, Int.reduceNeg, Int.reduceAdd, Int.reduceSub, Int.reduceMul, Nat.reducePow, Int.reduceNegSucc, wTollEvent, wCall]
      refine number_c (sg _) (by omega) fun n2 ok2 i2 ha2 hb2 => ?_
      simp only [walk, lists, acts, mem, plain, seqs, maps, cells, resL, resV, intBin, ↓reduceIte, Nat.reduceAdd, Nat.reduceSub, Nat.reduceMul, Nat.reduceLeDiff, Nat.reduceEqDiff, Int.reduceToNat, Int.reduceEq, Int.reduceLT, Int.reduceLE, Int.reduceNeg, Int.reduceAdd, Int.reduceSub, Int.reduceMul, Nat.reducePow, Int.reduceNegSucc, wTollEvent, wCall]
      have fin : ∀ ok, (ok = true → ok1 = true ∧ ok2 = true) → (ok1 = true → ok2 = true → ok = true) → dP R (.returned (.bool ok)) ((jd, blk (cTollEvent { e with call := ⟨0, 0, 2, [], n1, n2⟩ }) 74) :: h) := fun ok h1 h2 => by
        have sm : ∀ {t : List UInt8} {n : Int}, numS t ≠ none → (∀ m : Nat, numS t = some m → n = (m : Int)) → sm5 n := fun {t n} x y => by
          cases e : numS t with
          | none => exact absurd e x
          | some m => rw [y m e]; exact nat_sm5 (numS_some e).2
        refine .of (k ⟨0, 0, 2, [], n1, n2⟩ ok (fun x => ?_) (fun c' hp hsc => ?_) i1 i2 (by simp) (by cases ok <;> simp))
        · obtain ⟨o1, o2⟩ := h1 x
          exact ⟨rfl, rfl, .inr ⟨rfl, rfl, sm (hb1 o1) fun m y => (ha1 m y).2, sm (hb2 o2) fun m y => (ha2 m y).2⟩⟩
        · rcases comp c' hp hsc with ⟨_, h2', _⟩ | ⟨_, _, x, y, hx, hy, h4, h5⟩
          · rw [cb] at h2'; exact absurd h2' (by decide)
          · obtain ⟨r1, r2, _⟩ := hc2.at h4 (decN_no32 x)
            have p1 := ha1 x (by rw [r1]; exact numS_dec hx)
            have p2 := ha2 y (by rw [r2]; exact numS_dec hy)
            exact ⟨h2 p1.1 p2.1, by rw [h5, p1.2, p2.2]⟩
      refine ite_pos (fun o1 => ?_) fun o1 => ?_
      · exact fin ok2 (fun x => ⟨o1, x⟩) fun _ x => x
      · exact fin false (fun x => by cases x) fun x _ => absurd x o1
    · refine .of ?_
      have := k e.call false (fun x => by cases x) (fun c' hp hsc => ?_) (by rw [he]; exact ⟨by decide, by decide⟩) (by rw [he]; exact ⟨by decide, by decide⟩) (by rw [he]; simp [zCall]) (.inl rfl)
      · exact this
      · rcases comp c' hp hsc with ⟨_, h2', _⟩ | ⟨_, h2', _⟩
        · exact absurd h2' ca
        · exact absurd h2' cb
end Go.Proofs.YtdlgaidjlepepaaDoor
end

/- How all that may happen is written: the forms. -/
section
set_option linter.unusedVariables false
set_option linter.unusedSimpArgs false
set_option maxRecDepth 20000
namespace Go.Tk
open Go
def F0 : Form := ⟨[98, 101, 103, 105, 110, 115], 1, 0, [2]⟩
def F1 : Form := ⟨[115, 101, 110, 100, 115], 2, 0, [2]⟩
def F2 : Form := ⟨[103, 105, 118, 101, 115], 3, 0, [2]⟩
def F3 : Form := ⟨[98, 114, 105, 110, 103, 115], 4, 0, [3]⟩
def F4 : Form := ⟨[100, 111, 117, 98, 108, 101, 115], 4, 1, [3]⟩
def F5 : Form := ⟨[108, 111, 115, 101, 115], 5, 0, [3]⟩
def F6 : Form := ⟨[102, 97, 108, 108, 115], 6, 0, [1, 4]⟩
def F7 : Form := ⟨[114, 105, 115, 101, 115], 7, 0, [1]⟩
def F8 : Form := ⟨[116, 101, 110, 100, 115], 8, 0, [1]⟩
def F9 : Form := ⟨[102, 111, 114, 99, 101, 115], 9, 0, [1]⟩
def qV (w : Value) : H → Value → Prop := fun _ v => v = w
def ePtr (a : Nat × Nat) : List Value := [.pointer (some ⟨a.1, a.2, none⟩)]
theorem ePtr_len (a : Nat × Nat) : (ePtr a).length = 1 := rfl
def qA (rest : H) (T : Nat) (L : List (Nat × Nat)) : H → Value → Prop := fun g v => ∃ j, v = .slice (some ⟨j, 0, none⟩) L.length L.length ∧ hget g j = some (blk (fl ePtr L) T) ∧ hget rest j = none
def mono (q : H → Value → Prop) : Prop := ∀ g g' v, Sub g g' → q g v → q g' v
theorem mono_qV (w : Value) : mono (qV w) := fun _ _ _ _ h => h
theorem mono_qA (rest : H) (T : Nat) (L : List (Nat × Nat)) : mono (qA rest T L) := fun _ _ _ s ⟨j, a, b, c⟩ => ⟨j, a, s _ _ b, c⟩
theorem ndr : (nds [] = []) ∧ (∀ d g i l, nds (⟨some d, g, i⟩ :: l) = d :: nds l) ∧ (∀ g i l, nds (⟨none, g, i⟩ :: l) = nds l) := ⟨rfl, fun _ _ _ _ => rfl, fun _ _ _ => rfl⟩
/-- What is kept: a part that grows. -/
def memF : Nat → H → H → Prop := fun _ h g => Sub g h
theorem hget_list {g : H} : ∀ {G : H}, (∀ p ∈ G, hget g p.1 = some p.2) → ∀ p ∈ G, hget G p.1 = some p.2 := by
  intro G
  induction G with
  | nil => intro _ p hp; cases hp
  | cons q G ih =>
    intro h p hp
    rw [hget_cons]
    split
    · rename_i e
      have h1 := h p hp
      have h2 := h q List.mem_cons_self
      rw [e, h2] at h1
      exact h1
    · rename_i e
      rcases List.mem_cons.1 hp with rfl | hp
      · exact absurd rfl e
      · exact ih (fun p hp => h p (List.mem_cons_of_mem _ hp)) p hp
theorem Sub_list {g : H} : ∀ {G rest : H}, (∀ p ∈ G, hget g p.1 = some p.2) → Sub rest g → Sub (G ++ rest) g := by
  intro G
  induction G with
  | nil => intro rest _ s; exact s
  | cons q G ih =>
    intro rest h s
    exact Sub.cons_of (h q List.mem_cons_self) (ih (fun p hp => h p (List.mem_cons_of_mem _ hp)) s)
theorem Dj_list {rest : H} {G : H} (h : ∀ p ∈ G, hget rest p.1 = none) : Dj G rest := by
  intro i hi
  induction G with
  | nil => exact absurd rfl hi
  | cons q G ih =>
    rw [hget_cons] at hi
    split at hi
    · rename_i e; rw [e]; exact h q List.mem_cons_self
    · exact ih (fun p hp => h p (List.mem_cons_of_mem _ hp)) hi
end Go.Tk
namespace Go.Proofs.YtdlgaidjlepepaaDoor
open Go Go.Tk

def rdFn (f : Tk.Form) : Nat := if f.kind = 1 then 50 else 52
def wrFn (f : Tk.Form) : Nat := if f.kind = 1 then 51 else 53
/-- The cells of a form; its numbers' row lies elsewhere. -/
def eForm (jd : Nat) (p : Tk.Form × Value) : List Value := [.string ⟨p.1.name.toArray⟩, .int .i64 p.1.kind, .int .i64 p.1.keep, p.2, .func (.func (rdFn p.1)) #[(.pointer (some ⟨jd, 0, none⟩))] #[], .func (.func (wrFn p.1)) #[(.pointer (some ⟨jd, 0, none⟩))] #[]]
theorem eForm_len (jd : Nat) (p : Tk.Form × Value) : (eForm jd p).length = 6 := rfl
def qF (rest : H) (jd : Nat) (F : Tk.Form) : H → Value → Prop := fun g v => ∃ j, v = .agg (eForm jd (F, .slice (some ⟨j, 0, none⟩) F.offs.length F.offs.length)).toArray ∧ hget g j = some (blk (fl ePtr (F.offs.map fun o => (jd, o))) 86) ∧ hget rest j = none
def rowF (rest g : H) (jd : Nat) (L : List (Tk.Form × Value)) : Prop := L.map Prod.fst = forms ∧ ∀ p ∈ L, ∃ i, p.2 = .slice (some ⟨i, 0, none⟩) p.1.offs.length p.1.offs.length ∧ hget g i = some (blk (fl ePtr (p.1.offs.map fun o => (jd, o))) 86) ∧ hget rest i = none
def qL (rest : H) (jd : Nat) : H → Value → Prop := fun g v => ∃ j L, v = .slice (some ⟨j, 0, none⟩) 10 10 ∧ hget g j = some (blk (fl (eForm jd) L) 85) ∧ hget rest j = none ∧ rowF rest g jd L
theorem mono_qF (rest : H) (jd : Nat) (F : Tk.Form) : mono (qF rest jd F) := fun _ _ _ s ⟨j, a, b, c⟩ => ⟨j, a, s _ _ b, c⟩
theorem mono_qL (rest : H) (jd : Nat) : mono (qL rest jd) := fun _ _ _ s ⟨j, L, a, b, c, d, e⟩ => ⟨j, L, a, s _ _ b, c, d, fun p hp => by obtain ⟨i, x, y, z⟩ := e p hp; exact ⟨i, x, s _ _ y, z⟩⟩
section
variable {jd : Nat} {rest : H} {ρ : (Nat → Value) → Operand → Value} {D : H → (Nat → Value) → Prop} {q : H → Value → Prop}
theorem sF_mov {x : Operand} (k : ∀ f g, Tk.Sub rest g → D g f → q g (ρ f x)) : stA Tryd.prog memF q rest ρ D (.mov x) := fun m f h g hm hs hd => ⟨g, hm, Sub.refl _, k f g hs hd⟩
theorem sF_nilc {x : Operand} (k : ∀ f g, Tk.Sub rest g → D g f → ∃ a, ρ f x = .pointer (some a) ∧ q g (.pointer (some a))) : stA Tryd.prog memF q rest ρ D (.nilc x) := fun m f h g hm hs hd => by
  obtain ⟨a, e, hq⟩ := k f g hs hd
  show (match ρ f x with | .pointer (some a) => _ | .func (.func f) fi ca => _ | _ => _)
  rw [e]
  exact ⟨g, hm, Sub.refl _, hq⟩
theorem sF_fld {x : Operand} {off : Nat} (k : ∀ f g, Tk.Sub rest g → D g f → ∃ b o, ρ f x = .pointer (some ⟨b, o, none⟩) ∧ q g (.pointer (some ⟨b, o + off, none⟩))) : stA Tryd.prog memF q rest ρ D (.fld x off) := fun m f h g hm hs hd => by
  obtain ⟨b, o, e, hq⟩ := k f g hs hd
  show (match ρ f x with | .pointer (some ⟨b, k, none⟩) => _ | _ => _)
  rw [e]
  exact ⟨g, hm, Sub.refl _, hq⟩
theorem sF_fn {F : Fn} {x : Operand} {w : Value} (k : ∀ f g, Tk.Sub rest g → D g f → Value.func F ([x].map (ρ f)).toArray (([] : List Operand).map (ρ f)).toArray = w) : stA Tryd.prog memF (qV w) rest ρ D (.fn F [x] []) := fun m f h g hm hs hd =>
  ⟨g, hm, Sub.refl _, k f g hs hd⟩
theorem sF_ptrs {e : Nat} {L : List (Nat × Nat)} {ps : List (Nat × Nat × Operand)} (k : ∀ f g, Tk.Sub rest g → D g f → fillL (zrep [.pointer none] L.length) (ps.map fun p => (p.1, p.2.1, vcells (ρ f p.2.2))) = some (fl ePtr L)) :
    stA Tryd.prog memF (qA rest e L) rest ρ D (.bslice e [.pointer none] L.length ps) := fun m f h g hm hs hd => by
  have hf := k f g hs hd
  show vop _ _ _ _ _ _
  unfold vop
  simp only [hf]
  intro j hj
  have n : hget g j = none := Sub.none' hm hj
  exact ⟨(j, blk (fl ePtr L) e) :: g, Sub.cons2 hm, Sub.cons n (Sub.refl _), j, rfl, hget_same _ _ _, hs.none' n⟩
theorem sF_build {z : List Value} {ps : List (Nat × Nat × Operand)} (k : ∀ f g, Tk.Sub rest g → D g f → ∃ l, fillL z (ps.map fun p => (p.1, p.2.1, vcells (ρ f p.2.2))) = some l ∧ q g (.agg l.toArray)) : stA Tryd.prog memF q rest ρ D (.build z ps) := fun m f h g hm hs hd => by
  obtain ⟨l, hf, hq⟩ := k f g hs hd
  show vop _ _ _ _ _ _
  unfold vop
  simp only [hf]
  exact ⟨g, hm, Sub.refl _, hq⟩
theorem sF_all {z : List Value} {ps : List (Nat × Nat × Operand)} (k : ∀ f g, Tk.Sub rest g → D g f → ∃ L, fillL (zrep z 10) (ps.map fun p => (p.1, p.2.1, vcells (ρ f p.2.2))) = some (fl (eForm jd) L) ∧ rowF rest g jd L) :
    stA Tryd.prog memF (qL rest jd) rest ρ D (.bslice 85 z 10 ps) := fun m f h g hm hs hd => by
  obtain ⟨L, hf, h1, h2⟩ := k f g hs hd
  show vop _ _ _ _ _ _
  unfold vop
  simp only [hf]
  intro j hj
  have n : hget g j = none := Sub.none' hm hj
  have sn := Sub.cons (o := blk (fl (eForm jd) L) 85) n (Sub.refl g)
  exact ⟨(j, blk (fl (eForm jd) L) 85) :: g, Sub.cons2 hm, sn, j, L, rfl, hget_same _ _ _, hs.none' n, h1, fun p hp => by obtain ⟨i, x, y, w⟩ := h2 p hp; exact ⟨i, x, sn _ _ y, w⟩⟩
end

def boxP (jd : Nat) (p : Tk.Form × Value) : Nat × Obj := match p.2 with
  | .slice (some a) _ _ => (a.block, blk (fl ePtr (p.1.offs.map fun o => (jd, o))) 86)
  | _ => (0, blk [] 0)
end Go.Proofs.YtdlgaidjlepepaaDoor
end

/- How all that may happen is written: the row of forms. -/
section
set_option linter.unusedVariables false
set_option linter.unusedSimpArgs false
set_option maxRecDepth 20000
attribute [local irreducible] Go.Tk.vc Go.Tk.vops Go.Tk.vdr Go.Tk.vop Go.Tk.vfl Go.Tk.HCalls
namespace Go.Proofs.YtdlgaidjlepepaaDoor
open Go Go.Tk

theorem forms_c {rest : H} {jd : Nat} {R : Ending → H → Prop} (k : ∀ v g L, L.map Prod.fst = forms → rLs g (eForm jd) 6 v L → (∀ p ∈ L, rLs g ePtr 1 p.2 (p.1.offs.map fun o => (jd, o))) → Dj g rest → R (.returned v) (g ++ rest)) :
    HCalls Tryd.prog 42 #[(.pointer (some ⟨jd, 0, none⟩))] rest R := by
  refine HCalls_ir (args := [(.pointer (some ⟨jd, 0, none⟩))]) Tryd.func42 ir42 ?_
  simp only [walk, lists, acts, mem, plain, seqs, maps, cells, resL, resV, intBin, ↓reduceIte, Nat.reduceAdd, Nat.reduceSub, Nat.reduceMul, Nat.reduceLeDiff, Nat.reduceEqDiff, Int.reduceToNat, Int.reduceEq, Int.reduceLT, Int.reduceLE, Int.reduceNeg, Int.reduceAdd, Int.reduceSub, Int.reduceMul, Nat.reducePow, Int.reduceNegSucc, str]
  refine vc_anyR memF [qV (.pointer (some ⟨jd, 0, none⟩)), qV (.pointer (some ⟨jd, 0, none⟩)), qV (.pointer (some ⟨jd, 0, none⟩)), qV (.pointer (some ⟨jd, 2, none⟩)), qA rest 86 [(jd, 2)], qV (.pointer (some ⟨jd, 0, none⟩)), qV (.func (.func 50) #[(.pointer (some ⟨jd, 0, none⟩))] #[]), qV (.pointer (some ⟨jd, 0, none⟩)), qV (.func (.func 51) #[(.pointer (some ⟨jd, 0, none⟩))] #[]), qF rest jd F0, qV (.pointer (some ⟨jd, 0, none⟩)), qV (.pointer (some ⟨jd, 0, none⟩)), qV (.pointer (some ⟨jd, 0, none⟩)), qV (.pointer (some ⟨jd, 2, none⟩)), qA rest 86 [(jd, 2)], qV (.pointer (some ⟨jd, 0, none⟩)), qV (.func (.func 52) #[(.pointer (some ⟨jd, 0, none⟩))] #[]), qV (.pointer (some ⟨jd, 0, none⟩)), qV (.func (.func 53) #[(.pointer (some ⟨jd, 0, none⟩))] #[]), qF rest jd F1, qV (.pointer (some ⟨jd, 0, none⟩)), qV (.pointer (some ⟨jd, 0, none⟩)), qV (.pointer (some ⟨jd, 0, none⟩)), qV (.pointer (some ⟨jd, 2, none⟩)), qA rest 86 [(jd, 2)], qV (.pointer (some ⟨jd, 0, none⟩)), qV (.func (.func 52) #[(.pointer (some ⟨jd, 0, none⟩))] #[]), qV (.pointer (some ⟨jd, 0, none⟩)), qV (.func (.func 53) #[(.pointer (some ⟨jd, 0, none⟩))] #[]), qF rest jd F2, qV (.pointer (some ⟨jd, 0, none⟩)), qV (.pointer (some ⟨jd, 0, none⟩)), qV (.pointer (some ⟨jd, 0, none⟩)), qV (.pointer (some ⟨jd, 3, none⟩)), qA rest 86 [(jd, 3)], qV (.pointer (some ⟨jd, 0, none⟩)), qV (.func (.func 52) #[(.pointer (some ⟨jd, 0, none⟩))] #[]), qV (.pointer (some ⟨jd, 0, none⟩)), qV (.func (.func 53) #[(.pointer (some ⟨jd, 0, none⟩))] #[]), qF rest jd F3, qV (.pointer (some ⟨jd, 0, none⟩)), qV (.pointer (some ⟨jd, 0, none⟩)), qV (.pointer (some ⟨jd, 0, none⟩)), qV (.pointer (some ⟨jd, 3, none⟩)), qA rest 86 [(jd, 3)], qV (.pointer (some ⟨jd, 0, none⟩)), qV (.func (.func 52) #[(.pointer (some ⟨jd, 0, none⟩))] #[]), qV (.pointer (some ⟨jd, 0, none⟩)), qV (.func (.func 53) #[(.pointer (some ⟨jd, 0, none⟩))] #[]), qF rest jd F4, qV (.pointer (some ⟨jd, 0, none⟩)), qV (.pointer (some ⟨jd, 0, none⟩)), qV (.pointer (some ⟨jd, 0, none⟩)), qV (.pointer (some ⟨jd, 3, none⟩)), qA rest 86 [(jd, 3)], qV (.pointer (some ⟨jd, 0, none⟩)), qV (.func (.func 52) #[(.pointer (some ⟨jd, 0, none⟩))] #[]), qV (.pointer (some ⟨jd, 0, none⟩)), qV (.func (.func 53) #[(.pointer (some ⟨jd, 0, none⟩))] #[]), qF rest jd F5, qV (.pointer (some ⟨jd, 0, none⟩)), qV (.pointer (some ⟨jd, 0, none⟩)), qV (.pointer (some ⟨jd, 0, none⟩)), qV (.pointer (some ⟨jd, 1, none⟩)), qV (.pointer (some ⟨jd, 0, none⟩)), qV (.pointer (some ⟨jd, 0, none⟩)), qV (.pointer (some ⟨jd, 0, none⟩)), qV (.pointer (some ⟨jd, 4, none⟩)), qA rest 86 [(jd, 1), (jd, 4)], qV (.pointer (some ⟨jd, 0, none⟩)), qV (.func (.func 52) #[(.pointer (some ⟨jd, 0, none⟩))] #[]), qV (.pointer (some ⟨jd, 0, none⟩)), qV (.func (.func 53) #[(.pointer (some ⟨jd, 0, none⟩))] #[]), qF rest jd F6, qV (.pointer (some ⟨jd, 0, none⟩)), qV (.pointer (some ⟨jd, 0, none⟩)), qV (.pointer (some ⟨jd, 0, none⟩)), qV (.pointer (some ⟨jd, 1, none⟩)), qA rest 86 [(jd, 1)], qV (.pointer (some ⟨jd, 0, none⟩)), qV (.func (.func 52) #[(.pointer (some ⟨jd, 0, none⟩))] #[]), qV (.pointer (some ⟨jd, 0, none⟩)), qV (.func (.func 53) #[(.pointer (some ⟨jd, 0, none⟩))] #[]), qF rest jd F7, qV (.pointer (some ⟨jd, 0, none⟩)), qV (.pointer (some ⟨jd, 0, none⟩)), qV (.pointer (some ⟨jd, 0, none⟩)), qV (.pointer (some ⟨jd, 1, none⟩)), qA rest 86 [(jd, 1)], qV (.pointer (some ⟨jd, 0, none⟩)), qV (.func (.func 52) #[(.pointer (some ⟨jd, 0, none⟩))] #[]), qV (.pointer (some ⟨jd, 0, none⟩)), qV (.func (.func 53) #[(.pointer (some ⟨jd, 0, none⟩))] #[]), qF rest jd F8, qV (.pointer (some ⟨jd, 0, none⟩)), qV (.pointer (some ⟨jd, 0, none⟩)), qV (.pointer (some ⟨jd, 0, none⟩)), qV (.pointer (some ⟨jd, 1, none⟩)), qA rest 86 [(jd, 1)], qV (.pointer (some ⟨jd, 0, none⟩)), qV (.func (.func 52) #[(.pointer (some ⟨jd, 0, none⟩))] #[]), qV (.pointer (some ⟨jd, 0, none⟩)), qV (.func (.func 53) #[(.pointer (some ⟨jd, 0, none⟩))] #[]), qF rest jd F9, qL rest jd] rest ?_ (Sub.refl _) rfl fun ρ hi ho hc => ?_
  · repeat' first | exact fun _ h => absurd h List.not_mem_nil | refine List.forall_mem_cons.2 ⟨?_, ?_⟩ | exact mono_qV _ | exact mono_qA _ _ _ | exact mono_qF _ _ _ | exact mono_qL _ _
  simp only [anysR, ndr, maps, lists, plain, Nat.reduceAdd]
  refine ⟨sF_mov fun f g _ _ => ho f 0 rfl, sF_nilc fun f g _ hd => ⟨_, (hi f 3 rfl).trans hd, rfl⟩, sF_fld fun f g _ hd => ⟨jd, 0, (hi f 4 rfl).trans hd, rfl⟩, sF_fld fun f g _ hd => ⟨jd, 0, (hi f 5 rfl).trans hd, rfl⟩, sF_ptrs fun f g _ hd => by simp only [maps, (hi f 6 rfl).trans hd]; rfl, sF_mov fun f g _ _ => ho f 0 rfl, sF_fn fun f g _ hd => by simp only [List.map_cons, List.map_nil, (hi f 8 rfl).trans hd], sF_mov fun f g _ _ => ho f 0 rfl, sF_fn fun f g _ hd => by simp only [List.map_cons, List.map_nil, (hi f 10 rfl).trans hd], ?b0, sF_mov fun f g _ _ => ho f 0 rfl, sF_nilc fun f g _ hd => ⟨_, (hi f 13 rfl).trans hd, rfl⟩, sF_fld fun f g _ hd => ⟨jd, 0, (hi f 14 rfl).trans hd, rfl⟩, sF_fld fun f g _ hd => ⟨jd, 0, (hi f 15 rfl).trans hd, rfl⟩, sF_ptrs fun f g _ hd => by simp only [maps, (hi f 16 rfl).trans hd]; rfl, sF_mov fun f g _ _ => ho f 0 rfl, sF_fn fun f g _ hd => by simp only [List.map_cons, List.map_nil, (hi f 18 rfl).trans hd], sF_mov fun f g _ _ => ho f 0 rfl, sF_fn fun f g _ hd => by simp only [List.map_cons, List.map_nil, (hi f 20 rfl).trans hd], ?b1, sF_mov fun f g _ _ => ho f 0 rfl, sF_nilc fun f g _ hd => ⟨_, (hi f 23 rfl).trans hd, rfl⟩, sF_fld fun f g _ hd => ⟨jd, 0, (hi f 24 rfl).trans hd, rfl⟩, sF_fld fun f g _ hd => ⟨jd, 0, (hi f 25 rfl).trans hd, rfl⟩, sF_ptrs fun f g _ hd => by simp only [maps, (hi f 26 rfl).trans hd]; rfl, sF_mov fun f g _ _ => ho f 0 rfl, sF_fn fun f g _ hd => by simp only [List.map_cons, List.map_nil, (hi f 28 rfl).trans hd], sF_mov fun f g _ _ => ho f 0 rfl, sF_fn fun f g _ hd => by simp only [List.map_cons, List.map_nil, (hi f 30 rfl).trans hd], ?b2, sF_mov fun f g _ _ => ho f 0 rfl, sF_nilc fun f g _ hd => ⟨_, (hi f 33 rfl).trans hd, rfl⟩, sF_fld fun f g _ hd => ⟨jd, 0, (hi f 34 rfl).trans hd, rfl⟩, sF_fld fun f g _ hd => ⟨jd, 0, (hi f 35 rfl).trans hd, rfl⟩, sF_ptrs fun f g _ hd => by simp only [maps, (hi f 36 rfl).trans hd]; rfl, sF_mov fun f g _ _ => ho f 0 rfl, sF_fn fun f g _ hd => by simp only [List.map_cons, List.map_nil, (hi f 38 rfl).trans hd], sF_mov fun f g _ _ => ho f 0 rfl, sF_fn fun f g _ hd => by simp only [List.map_cons, List.map_nil, (hi f 40 rfl).trans hd], ?b3, sF_mov fun f g _ _ => ho f 0 rfl, sF_nilc fun f g _ hd => ⟨_, (hi f 43 rfl).trans hd, rfl⟩, sF_fld fun f g _ hd => ⟨jd, 0, (hi f 44 rfl).trans hd, rfl⟩, sF_fld fun f g _ hd => ⟨jd, 0, (hi f 45 rfl).trans hd, rfl⟩, sF_ptrs fun f g _ hd => by simp only [maps, (hi f 46 rfl).trans hd]; rfl, sF_mov fun f g _ _ => ho f 0 rfl, sF_fn fun f g _ hd => by simp only [List.map_cons, List.map_nil, (hi f 48 rfl).trans hd], sF_mov fun f g _ _ => ho f 0 rfl, sF_fn fun f g _ hd => by simp only [List.map_cons, List.map_nil, (hi f 50 rfl).trans hd], ?b4, sF_mov fun f g _ _ => ho f 0 rfl, sF_nilc fun f g _ hd => ⟨_, (hi f 53 rfl).trans hd, rfl⟩, sF_fld fun f g _ hd => ⟨jd, 0, (hi f 54 rfl).trans hd, rfl⟩, sF_fld fun f g _ hd => ⟨jd, 0, (hi f 55 rfl).trans hd, rfl⟩, sF_ptrs fun f g _ hd => by simp only [maps, (hi f 56 rfl).trans hd]; rfl, sF_mov fun f g _ _ => ho f 0 rfl, sF_fn fun f g _ hd => by simp only [List.map_cons, List.map_nil, (hi f 58 rfl).trans hd], sF_mov fun f g _ _ => ho f 0 rfl, sF_fn fun f g _ hd => by simp only [List.map_cons, List.map_nil, (hi f 60 rfl).trans hd], ?b5, sF_mov fun f g _ _ => ho f 0 rfl, sF_nilc fun f g _ hd => ⟨_, (hi f 63 rfl).trans hd, rfl⟩, sF_fld fun f g _ hd => ⟨jd, 0, (hi f 64 rfl).trans hd, rfl⟩, sF_fld fun f g _ hd => ⟨jd, 0, (hi f 65 rfl).trans hd, rfl⟩, sF_mov fun f g _ _ => ho f 0 rfl, sF_nilc fun f g _ hd => ⟨_, (hi f 67 rfl).trans hd, rfl⟩, sF_fld fun f g _ hd => ⟨jd, 0, (hi f 68 rfl).trans hd, rfl⟩, sF_fld fun f g _ hd => ⟨jd, 0, (hi f 69 rfl).trans hd, rfl⟩, sF_ptrs fun f g _ hd => by simp only [maps, (hi f 66 rfl).trans hd.1, (hi f 70 rfl).trans hd.2]; rfl, sF_mov fun f g _ _ => ho f 0 rfl, sF_fn fun f g _ hd => by simp only [List.map_cons, List.map_nil, (hi f 72 rfl).trans hd], sF_mov fun f g _ _ => ho f 0 rfl, sF_fn fun f g _ hd => by simp only [List.map_cons, List.map_nil, (hi f 74 rfl).trans hd], ?b6, sF_mov fun f g _ _ => ho f 0 rfl, sF_nilc fun f g _ hd => ⟨_, (hi f 77 rfl).trans hd, rfl⟩, sF_fld fun f g _ hd => ⟨jd, 0, (hi f 78 rfl).trans hd, rfl⟩, sF_fld fun f g _ hd => ⟨jd, 0, (hi f 79 rfl).trans hd, rfl⟩, sF_ptrs fun f g _ hd => by simp only [maps, (hi f 80 rfl).trans hd]; rfl, sF_mov fun f g _ _ => ho f 0 rfl, sF_fn fun f g _ hd => by simp only [List.map_cons, List.map_nil, (hi f 82 rfl).trans hd], sF_mov fun f g _ _ => ho f 0 rfl, sF_fn fun f g _ hd => by simp only [List.map_cons, List.map_nil, (hi f 84 rfl).trans hd], ?b7, sF_mov fun f g _ _ => ho f 0 rfl, sF_nilc fun f g _ hd => ⟨_, (hi f 87 rfl).trans hd, rfl⟩, sF_fld fun f g _ hd => ⟨jd, 0, (hi f 88 rfl).trans hd, rfl⟩, sF_fld fun f g _ hd => ⟨jd, 0, (hi f 89 rfl).trans hd, rfl⟩, sF_ptrs fun f g _ hd => by simp only [maps, (hi f 90 rfl).trans hd]; rfl, sF_mov fun f g _ _ => ho f 0 rfl, sF_fn fun f g _ hd => by simp only [List.map_cons, List.map_nil, (hi f 92 rfl).trans hd], sF_mov fun f g _ _ => ho f 0 rfl, sF_fn fun f g _ hd => by simp only [List.map_cons, List.map_nil, (hi f 94 rfl).trans hd], ?b8, sF_mov fun f g _ _ => ho f 0 rfl, sF_nilc fun f g _ hd => ⟨_, (hi f 97 rfl).trans hd, rfl⟩, sF_fld fun f g _ hd => ⟨jd, 0, (hi f 98 rfl).trans hd, rfl⟩, sF_fld fun f g _ hd => ⟨jd, 0, (hi f 99 rfl).trans hd, rfl⟩, sF_ptrs fun f g _ hd => by simp only [maps, (hi f 100 rfl).trans hd]; rfl, sF_mov fun f g _ _ => ho f 0 rfl, sF_fn fun f g _ hd => by simp only [List.map_cons, List.map_nil, (hi f 102 rfl).trans hd], sF_mov fun f g _ _ => ho f 0 rfl, sF_fn fun f g _ hd => by simp only [List.map_cons, List.map_nil, (hi f 104 rfl).trans hd], ?b9, ?all, ?last⟩
  case b0 =>
    refine sF_build fun f g _ hd => ?_
    obtain ⟨⟨j, e, h1, h2⟩, e2, e3⟩ := hd
    exact ⟨_, by simp only [maps, hc, (hi f 7 rfl).trans e, (hi f 9 rfl).trans e2, (hi f 11 rfl).trans e3]; rfl, j, rfl, h1, h2⟩
  case b1 =>
    refine sF_build fun f g _ hd => ?_
    obtain ⟨⟨j, e, h1, h2⟩, e2, e3⟩ := hd
    exact ⟨_, by simp only [maps, hc, (hi f 17 rfl).trans e, (hi f 19 rfl).trans e2, (hi f 21 rfl).trans e3]; rfl, j, rfl, h1, h2⟩
  case b2 =>
    refine sF_build fun f g _ hd => ?_
    obtain ⟨⟨j, e, h1, h2⟩, e2, e3⟩ := hd
    exact ⟨_, by simp only [maps, hc, (hi f 27 rfl).trans e, (hi f 29 rfl).trans e2, (hi f 31 rfl).trans e3]; rfl, j, rfl, h1, h2⟩
  case b3 =>
    refine sF_build fun f g _ hd => ?_
    obtain ⟨⟨j, e, h1, h2⟩, e2, e3⟩ := hd
    exact ⟨_, by simp only [maps, hc, (hi f 37 rfl).trans e, (hi f 39 rfl).trans e2, (hi f 41 rfl).trans e3]; rfl, j, rfl, h1, h2⟩
  case b4 =>
    refine sF_build fun f g _ hd => ?_
    obtain ⟨⟨j, e, h1, h2⟩, e2, e3⟩ := hd
    exact ⟨_, by simp only [maps, hc, (hi f 47 rfl).trans e, (hi f 49 rfl).trans e2, (hi f 51 rfl).trans e3]; rfl, j, rfl, h1, h2⟩
  case b5 =>
    refine sF_build fun f g _ hd => ?_
    obtain ⟨⟨j, e, h1, h2⟩, e2, e3⟩ := hd
    exact ⟨_, by simp only [maps, hc, (hi f 57 rfl).trans e, (hi f 59 rfl).trans e2, (hi f 61 rfl).trans e3]; rfl, j, rfl, h1, h2⟩
  case b6 =>
    refine sF_build fun f g _ hd => ?_
    obtain ⟨⟨j, e, h1, h2⟩, e2, e3⟩ := hd
    exact ⟨_, by simp only [maps, hc, (hi f 71 rfl).trans e, (hi f 73 rfl).trans e2, (hi f 75 rfl).trans e3]; rfl, j, rfl, h1, h2⟩
  case b7 =>
    refine sF_build fun f g _ hd => ?_
    obtain ⟨⟨j, e, h1, h2⟩, e2, e3⟩ := hd
    exact ⟨_, by simp only [maps, hc, (hi f 81 rfl).trans e, (hi f 83 rfl).trans e2, (hi f 85 rfl).trans e3]; rfl, j, rfl, h1, h2⟩
  case b8 =>
    refine sF_build fun f g _ hd => ?_
    obtain ⟨⟨j, e, h1, h2⟩, e2, e3⟩ := hd
    exact ⟨_, by simp only [maps, hc, (hi f 91 rfl).trans e, (hi f 93 rfl).trans e2, (hi f 95 rfl).trans e3]; rfl, j, rfl, h1, h2⟩
  case b9 =>
    refine sF_build fun f g _ hd => ?_
    obtain ⟨⟨j, e, h1, h2⟩, e2, e3⟩ := hd
    exact ⟨_, by simp only [maps, hc, (hi f 101 rfl).trans e, (hi f 103 rfl).trans e2, (hi f 105 rfl).trans e3]; rfl, j, rfl, h1, h2⟩
  case all =>
    refine sF_all fun f g _ hd => ?_
    obtain ⟨⟨i0, e0, a0, b0⟩, ⟨i1, e1, a1, b1⟩, ⟨i2, e2, a2, b2⟩, ⟨i3, e3, a3, b3⟩, ⟨i4, e4, a4, b4⟩, ⟨i5, e5, a5, b5⟩, ⟨i6, e6, a6, b6⟩, ⟨i7, e7, a7, b7⟩, ⟨i8, e8, a8, b8⟩, ⟨i9, e9, a9, b9⟩⟩ := hd
    refine ⟨[(F0, .slice (some ⟨i0, 0, none⟩) 1 1), (F1, .slice (some ⟨i1, 0, none⟩) 1 1), (F2, .slice (some ⟨i2, 0, none⟩) 1 1), (F3, .slice (some ⟨i3, 0, none⟩) 1 1), (F4, .slice (some ⟨i4, 0, none⟩) 1 1), (F5, .slice (some ⟨i5, 0, none⟩) 1 1), (F6, .slice (some ⟨i6, 0, none⟩) 2 2), (F7, .slice (some ⟨i7, 0, none⟩) 1 1), (F8, .slice (some ⟨i8, 0, none⟩) 1 1), (F9, .slice (some ⟨i9, 0, none⟩) 1 1)], ?_, rfl, ?_⟩
    · simp only [maps, (hi f 12 rfl).trans e0, (hi f 22 rfl).trans e1, (hi f 32 rfl).trans e2, (hi f 42 rfl).trans e3, (hi f 52 rfl).trans e4, (hi f 62 rfl).trans e5, (hi f 76 rfl).trans e6, (hi f 86 rfl).trans e7, (hi f 96 rfl).trans e8, (hi f 106 rfl).trans e9]; rfl
    · intro p hp
      simp only [List.mem_cons, List.not_mem_nil, or_false] at hp
      rcases hp with rfl | rfl | rfl | rfl | rfl | rfl | rfl | rfl | rfl | rfl
      · exact ⟨i0, rfl, a0, b0⟩
      · exact ⟨i1, rfl, a1, b1⟩
      · exact ⟨i2, rfl, a2, b2⟩
      · exact ⟨i3, rfl, a3, b3⟩
      · exact ⟨i4, rfl, a4, b4⟩
      · exact ⟨i5, rfl, a5, b5⟩
      · exact ⟨i6, rfl, a6, b6⟩
      · exact ⟨i7, rfl, a7, b7⟩
      · exact ⟨i8, rfl, a8, b8⟩
      · exact ⟨i9, rfl, a9, b9⟩
  intro m2 f2 h2 g2 hm hs2 hd
  obtain ⟨-, -, -, -, -, -, -, -, -, -, -, -, -, -, -, -, -, -, -, -, -, -, -, -, -, -, -, -, -, -, -, -, -, -, -, -, -, -, -, -, -, -, -, -, -, -, -, -, -, -, -, -, -, -, -, -, -, -, -, -, -, -, -, -, -, -, -, -, -, -, -, -, -, -, -, -, -, -, -, -, -, -, -, -, -, -, -, -, -, -, -, -, -, -, -, -, -, -, -, -, -, -, -, -, j, L, e, hj, hr, hL1, hL2⟩ := hd
  obtain ⟨G, hG⟩ : ∃ G : H, G = (j, blk (fl (eForm jd) L) 85) :: L.map (boxP jd) := ⟨_, rfl⟩
  have inG : ∀ q ∈ G, hget g2 q.1 = some q.2 ∧ hget rest q.1 = none := fun q hq => by
    rw [hG] at hq
    rcases List.mem_cons.1 hq with rfl | hq
    · exact ⟨hj, hr⟩
    · obtain ⟨p, hp, rfl⟩ := List.mem_map.1 hq
      obtain ⟨i, x, y, z⟩ := hL2 p hp
      have : boxP jd p = (i, blk (fl ePtr (p.1.offs.map fun o => (jd, o))) 86) := by unfold boxP; rw [x]
      rw [this]
      exact ⟨y, z⟩
  have hGg : ∀ p ∈ G, hget g2 p.1 = some p.2 := fun p hp => (inG p hp).1
  have dj : Dj G rest := Dj_list fun p hp => (inG p hp).2
  refine ⟨G ++ rest, (Sub_list hGg hs2).trans hm, ?_⟩
  simp only [walk, lists, acts, mem, plain, seqs, maps, cells, resL, resV, intBin, ↓reduceIte, Nat.reduceAdd, Nat.reduceSub, Nat.reduceMul, Nat.reduceLeDiff, Nat.reduceEqDiff, Int.reduceToNat, Int.reduceEq, Int.reduceLT, Int.reduceLE, Int.reduceNeg, Int.reduceAdd, Int.reduceSub, Int.reduceMul, Nat.reducePow, Int.reduceNegSucc, wr, (hi f2 107 rfl).trans e]
  refine .of (k _ G L hL1 ?_ (fun p hp => ?_) dj)
  · have l10 : L.length = 10 := by have := congrArg List.length hL1; simpa [forms] using this
    have := rL_lit (e := 85) (j := j) (h := L.map (boxP jd)) (eForm_len jd) L
    rw [l10] at this
    rw [hG]; exact this
  · obtain ⟨i, x, y, z⟩ := hL2 p hp
    have hb : boxP jd p = (i, blk (fl ePtr (p.1.offs.map fun o => (jd, o))) 86) := by unfold boxP; rw [x]
    have hm : boxP jd p ∈ G := by rw [hG]; exact List.mem_cons_of_mem _ (List.mem_map.2 ⟨p, hp, rfl⟩)
    have hg := hget_list hGg _ hm
    rw [hb] at hg
    have := rL_lit (e := 86) (j := i) (h := []) ePtr_len (p.1.offs.map fun o => (jd, o))
    rw [List.length_map] at this
    rw [x]
    exact this.sub (Sub.cons_of hg (Sub.nil _))
end Go.Proofs.YtdlgaidjlepepaaDoor
end

/- How the program writes what happens. -/
section
set_option linter.unusedVariables false
set_option linter.unusedSimpArgs false
set_option maxRecDepth 20000
attribute [local irreducible] Go.Tk.vc Go.Tk.vops Go.Tk.vdr Go.Tk.vop Go.Tk.vfl Go.Tk.HCalls
namespace Go.Tk
open Go
theorem find_at {α : Type} {p : α → Bool} : ∀ {l : List α} {i : Nat} (hi : i < l.length), (∀ x ∈ l.take i, p x = false) → p l[i] = true → l.find? p = some l[i] := by
  intro l
  induction l with
  | nil => intro i hi; cases hi
  | cons a l ih =>
    intro i hi h hp
    cases i with
    | zero => exact List.find?_cons_of_pos hp
    | succ i =>
      have ha : ¬ p a = true := by rw [h a (by simp)]; decide
      rw [List.find?_cons_of_neg ha]
      exact ih (i := i) (by simpa using hi) (fun x hx => h x (by rw [List.take_succ_cons]; exact List.mem_cons_of_mem _ hx)) hp
theorem event_cell (e : DTollEvent) {o : Nat} (h : o ≤ 4) : (cTollEvent e)[o]? = some (.int .i64 (getN e o)) := by
  have : o = 0 ∨ o = 1 ∨ o = 2 ∨ o = 3 ∨ o = 4 := by omega
  rcases this with rfl | rfl | rfl | rfl | rfl <;> rfl
theorem forms_offs : ∀ f ∈ forms, f.offs.length ≤ 2 ∧ f.name.length ≤ 7 ∧ (∀ o ∈ f.offs, o ≤ 4 ∧ 1 ≤ o) := by decide
theorem numsT_app (l m : List Int) : numsT (l ++ m) = numsT l ++ numsT m := by simp [numsT]
theorem numsT_one (n : Int) : numsT [n] = 32 :: decI n := by simp [numsT]
theorem callT_len {e : DTollEvent} (h : evR e) : (callT e.call).length ≤ e.call.text.length + 60 := by
  have l1 := decI_len' h.2.2.2.2.1
  have l2 := decI_len' h.2.2.2.2.2
  unfold callT
  split
  · simp
  · split
    · simp only [List.length_append, List.length_cons, List.length_nil]; omega
    · simp
theorem getN_in {e : DTollEvent} (h : evR e) {o : Nat} (h1 : o ≤ 4) (h2 : 1 ≤ o) : i64P (getN e o) := by
  obtain ⟨r1, r2, r3, r4, _, _⟩ := h
  have : o = 1 ∨ o = 2 ∨ o = 3 ∨ o = 4 := by omega
  rcases this with rfl | rfl | rfl | rfl
  · exact r1
  · exact r2
  · exact r3
  · exact r4
end Go.Tk
namespace Go.Proofs.YtdlgaidjlepepaaDoor
open Go Go.Tk

theorem wForm : (∀ jd p, (eForm jd p).length = 6) ∧ (∀ jd p, (eForm jd p)[0]? = some (.string ⟨p.1.name.toArray⟩)) ∧ (∀ jd p, (eForm jd p)[1]? = some (.int .i64 p.1.kind)) ∧ (∀ jd p, (eForm jd p)[2]? = some (.int .i64 p.1.keep)) ∧ (∀ jd p, (eForm jd p)[3]? = some p.2) ∧
    (∀ jd p, (eForm jd p)[4]? = some (.func (.func (rdFn p.1)) #[.pointer (some ⟨jd, 0, none⟩)] #[])) ∧ (∀ jd p, (eForm jd p)[5]? = some (.func (.func (wrFn p.1)) #[.pointer (some ⟨jd, 0, none⟩)] #[])) ∧
    (∀ jd p, splice [.string ⟨#[]⟩, .int .i64 0, .int .i64 0, .slice none 0 0, .nilFunc, .nilFunc] 0 (eForm jd p) = eForm jd p) ∧ (∀ jd p, ((eForm jd p).drop 0).take 6 = eForm jd p) ∧ (∀ jd p, (eForm jd p).take 6 = eForm jd p) ∧ (∀ jd p, (eForm jd p).all vone = vone p.2) :=
  ⟨fun _ _ => rfl, fun _ _ => rfl, fun _ _ => rfl, fun _ _ => rfl, fun _ _ => rfl, fun _ _ => rfl, fun _ _ => rfl, fun _ _ => rfl, fun _ _ => rfl, fun _ _ => rfl, fun _ p => by simp only [eForm, cells, List.all_cons, List.all_nil, Bool.true_and, Bool.and_true]⟩

theorem text_c {h : H} {jd : Nat} {e : DTollEvent} (gl : Gl h) (hd : hget h jd = some (blk (cTollEvent e) 74)) (hR : evR e) (ht : e.call.text.length ≤ 4194304) {R : Ending → H → Prop} (k : R (.returned (.string ⟨(itext e).toArray⟩)) h) :
    HCalls Tryd.prog 36 #[.pointer (some ⟨jd, 0, none⟩)] h R := by
  refine HCalls_ir (args := [.pointer (some ⟨jd, 0, none⟩)]) Tryd.func36 ir36 ?_
  simp only [walk, lists, acts, mem, plain, seqs, maps, cells, resL, resV, intBin, ↓reduceIte, Nat.reduceAdd, Nat.reduceSub, Nat.reduceMul, Nat.reduceLeDiff, Nat.reduceEqDiff, Int.reduceToNat, Int.reduceEq, Int.reduceLT, Int.reduceLE, Int.reduceNeg, Int.reduceAdd, Int.reduceSub, Int.reduceMul, Nat.reducePow, Int.reduceNegSucc, str]
  refine forms_c fun V g L hL rL rN dj => ?_
  have hl10 : L.length = 10 := by have := congrArg List.length hL; simpa [forms] using this
  have dg : hget g jd = none := dj.of (by rw [hd]; simp)
  have sh := Sub.right dj
  have one := rL.one
  have len : ∀ {f : Value → Prop}, lenSK V f = f (.int .i64 10) := fun {f} => by have := rL.len (f := f); rw [hl10] at this; exact this
  simp only [walk, lists, acts, mem, plain, seqs, maps, cells, resL, resV, intBin, ↓reduceIte, Nat.reduceAdd, Nat.reduceSub, Nat.reduceMul, Nat.reduceLeDiff, Nat.reduceEqDiff, Int.reduceToNat, Int.reduceEq, Int.reduceLT, Int.reduceLE, Int.reduceNeg, Int.reduceAdd, Int.reduceSub, Int.reduceMul, Nat.reducePow, Int.reduceNegSucc, str, len]
  refine vc_loop [11] (fun n vs h' => ∃ (i : Nat), vs = [.int .i64 i] ∧ h' = g ++ h ∧ (∀ f ∈ forms.take i, hitF f e = false) ∧ i ≤ 10 ∧ n = 10 - i) 10 rfl
    ⟨0, rfl, rfl, by simp, by omega, rfl⟩ ?_
  rintro n f h' ⟨i, hv, rfl, hn, hi, rfl⟩
  simp only [List.map_cons, List.map_nil, List.cons.injEq, and_true] at hv
  simp only [walk, lists, acts, mem, plain, seqs, maps, cells, resL, resV, intBin, ↓reduceIte, Nat.reduceAdd, Nat.reduceSub, Nat.reduceMul, Nat.reduceLeDiff, Nat.reduceEqDiff, Int.reduceToNat, Int.reduceEq, Int.reduceLT, Int.reduceLE, Int.reduceNeg, Int.reduceAdd, Int.reduceSub, Int.reduceMul, Nat.reducePow, Int.reduceNegSucc, wr, hv]
  refine ite_lt (fun c3 => ?_) fun c3 => ?_
  · have hi2 : i < L.length := by omega
    have hi3 : i < forms.length := by simp [forms]; omega
    have hp : L[i].1 = forms[i] := by
      have h1 : (L.map Prod.fst)[i]? = forms[i]? := by rw [hL]
      rw [List.getElem?_map, List.getElem?_eq_getElem hi2, List.getElem?_eq_getElem hi3] at h1
      exact Option.some.inj h1
    have hmem : forms[i] ∈ forms := List.getElem_mem hi3
    refine idx_leaf (i := i) (eForm_len jd) (rL.sub (Sub.left g h)) rfl hi2 fun b1 o1 e1 => ?_
    have rp := rN L[i] (List.getElem_mem hi2)
    obtain ⟨p, hpe⟩ : ∃ p, p = L[i] := ⟨_, rfl⟩
    rw [← hpe] at e1 hp rp
    have pone := rp.one
    simp only [walk, lists, acts, mem, plain, seqs, maps, cells, resL, resV, intBin, ↓reduceIte, Nat.reduceAdd, Nat.reduceSub, Nat.reduceMul, Nat.reduceLeDiff, Nat.reduceEqDiff, Int.reduceToNat, Int.reduceEq, Int.reduceLT, Int.reduceLE, Int.reduceNeg, Int.reduceAdd, Int.reduceSub, Int.reduceMul, Nat.reducePow, Int.reduceNegSucc, e1, wForm, str]
    refine newB_intro fun j4 hj4 => ?_
    have n4 := hj4
    simp only [subs] at n4
    simp only [walk, lists, acts, mem, plain, seqs, maps, cells, resL, resV, intBin, ↓reduceIte, Nat.reduceAdd, Nat.reduceSub, Nat.reduceMul, Nat.reduceLeDiff, Nat.reduceEqDiff, Int.reduceToNat, Int.reduceEq, Int.reduceLT, Int.reduceLE, Int.reduceNeg, Int.reduceAdd, Int.reduceSub, Int.reduceMul, Nat.reducePow, Int.reduceNegSucc, wForm, pone]
    obtain ⟨M, hM⟩ : ∃ M, M = (j4, blk (eForm jd p) 85) :: (g ++ h) := ⟨_, rfl⟩
    have sM : Tk.Sub h M := by rw [hM]; exact sh.trans (Sub.cons hj4 (Sub.refl _))
    have sG : Tk.Sub (g ++ h) M := by rw [hM]; exact Sub.cons hj4 (Sub.refl _)
    have hdM := sM _ _ hd
    have cN : ∀ o, o ≤ 4 → hcel M jd o = some (.int .i64 (getN e o)) := fun o ho => by
      unfold hcel
      rw [hdM]
      simp only [Option.bind_some, blk, List.getElem?_toArray]
      exact event_cell e ho
    have cK : hcel M jd 0 = some (.int .i64 e.kind) := cN 0 (by omega)
    have cQ : hcel M jd 4 = some (.int .i64 e.keep) := cN 4 (by omega)
    have hj : hget M j4 = some (blk (eForm jd p) 85) := by rw [hM, hget_same]
    have f0 : hcel M j4 0 = some (.string ⟨p.1.name.toArray⟩) := by unfold hcel; rw [hj]; rfl
    have f1 : hcel M j4 1 = some (.int .i64 p.1.kind) := by unfold hcel; rw [hj]; rfl
    have f2 : hcel M j4 2 = some (.int .i64 p.1.keep) := by unfold hcel; rw [hj]; rfl
    have f3 : hcel M j4 3 = some p.2 := by unfold hcel; rw [hj]; rfl
    have f5 : hcel M j4 5 = some (.func (.func (wrFn p.1)) #[.pointer (some ⟨jd, 0, none⟩)] #[]) := by unfold hcel; rw [hj]; rfl
    rw [← hM]
    have skipIt : hitF p.1 e = false → ∃ m, m < 10 - i ∧ ∃ g', Tk.Sub g' M ∧ ∃ i' : Nat, [Value.int IntKind.i64 (IntKind.i64.wrap ((i : Int) + 1))] = [Value.int IntKind.i64 i'] ∧ g' = g ++ h ∧ (∀ f ∈ forms.take i', hitF f e = false) ∧ i' ≤ 10 ∧ m = 10 - i' := fun hf => by
      simp (disch := omega) only [wrapI]
      refine ⟨10 - (i + 1), by omega, g ++ h, sG, i + 1, by simp, rfl, fun f' hf' => ?_, by omega, rfl⟩
      rw [List.take_succ_eq_append_getElem hi3] at hf'
      rcases List.mem_append.1 hf' with hf' | hf'
      · exact hn f' hf'
      · rw [List.mem_singleton] at hf'
        rw [hf', ← hp]; exact hf
    refine vc_draw _ (Sub.refl _) ?_
    simp only [walk, lists, acts, mem, plain, seqs, maps, cells, resL, resV, intBin, ↓reduceIte, Nat.reduceAdd, Nat.reduceSub, Nat.reduceMul, Nat.reduceLeDiff, Nat.reduceEqDiff, Int.reduceToNat, Int.reduceEq, Int.reduceLT, Int.reduceLE, Int.reduceNeg, Int.reduceAdd, Int.reduceSub, Int.reduceMul, Nat.reducePow, Int.reduceNegSucc, f1, f2, cK, cQ]
    refine ite_ne (fun c1 => skipIt (by unfold hitF; rw [decide_eq_false c1]; rfl)) fun c1 => ?_
    refine ite_pos (fun c2 => ?_) fun c2 => ?_
    · refine ite_ne (fun c4 => skipIt (by unfold hitF; rw [decide_eq_false c4, decide_eq_true c2]; simp)) fun c4 => ?_
      have hit : hitF p.1 e = true := by unfold hitF; rw [decide_eq_true c1, decide_eq_true c4]; simp
      have rpM : rLs M ePtr 1 p.2 (p.1.offs.map fun o => (jd, o)) := (rp.sub (Sub.left g h)).sub sG
      have plen : ∀ {f : Value → Prop}, lenSK p.2 f = f (.int .i64 p.1.offs.length) := fun {f} => by have := rpM.len (f := f); rw [List.length_map] at this; exact this
      obtain ⟨ho1, ho2, ho3⟩ := forms_offs _ hmem
      rw [← hp] at ho1 ho2 ho3
      simp only [walk, lists, acts, mem, plain, seqs, maps, cells, resL, resV, intBin, ↓reduceIte, Nat.reduceAdd, Nat.reduceSub, Nat.reduceMul, Nat.reduceLeDiff, Nat.reduceEqDiff, Int.reduceToNat, Int.reduceEq, Int.reduceLT, Int.reduceLE, Int.reduceNeg, Int.reduceAdd, Int.reduceSub, Int.reduceMul, Nat.reducePow, Int.reduceNegSucc, f0, f3, plen]
      refine vc_loop [43, 5] (fun n vs h' => ∃ (q : Nat), vs = [.int .i64 q, .string ⟨(p.1.name ++ numsT ((p.1.offs.take q).map (getN e))).toArray⟩] ∧ h' = M ∧ (numsT ((p.1.offs.take q).map (getN e))).length ≤ 22 * q ∧ q ≤ p.1.offs.length ∧ n = p.1.offs.length - q) p.1.offs.length rfl
        ⟨0, by simp [numsT], rfl, by simp [numsT], by omega, rfl⟩ ?_
      rintro n f' h' ⟨q, hv', rfl, hql, hq, rfl⟩
      simp only [List.map_cons, List.map_nil, List.cons.injEq, and_true] at hv'
      simp only [walk, lists, acts, mem, plain, seqs, maps, cells, resL, resV, intBin, ↓reduceIte, Nat.reduceAdd, Nat.reduceSub, Nat.reduceMul, Nat.reduceLeDiff, Nat.reduceEqDiff, Int.reduceToNat, Int.reduceEq, Int.reduceLT, Int.reduceLE, Int.reduceNeg, Int.reduceAdd, Int.reduceSub, Int.reduceMul, Nat.reducePow, Int.reduceNegSucc, wr, hv'.1, hv'.2]
      refine ite_lt (fun c5 => ?_) fun c5 => ?_
      · have hq2 : q < p.1.offs.length := by omega
        refine idx_leaf (i := q) ePtr_len rpM rfl (by rw [List.length_map]; omega) fun b2 o2 e2 => ?_
        have hox := ho3 _ (List.getElem_mem hq2)
        have e2' : hread h' b2 o2 1 = some [.pointer (some ⟨jd, p.1.offs[q], none⟩)] := by rw [e2, List.getElem_map]; rfl
        have inR := getN_in hR hox.1 hox.2
        have lR := decI_len' inR
        simp only [walk, lists, acts, mem, plain, seqs, maps, cells, resL, resV, intBin, ↓reduceIte, Nat.reduceAdd, Nat.reduceSub, Nat.reduceMul, Nat.reduceLeDiff, Nat.reduceEqDiff, Int.reduceToNat, Int.reduceEq, Int.reduceLT, Int.reduceLE, Int.reduceNeg, Int.reduceAdd, Int.reduceSub, Int.reduceMul, Nat.reducePow, Int.reduceNegSucc, hread_1 e2', cN _ hox.1]
        refine itoa_c (gl.sub sM) inR ?_
        simp (disch := (first | assumption | (simp only [List.length_append, List.length_cons, List.length_nil]; omega) | omega)) only [walk, lists, acts, mem, plain, seqs, maps, cells, resL, resV, intBin, ↓reduceIte, Nat.reduceAdd, Nat.reduceSub, Nat.reduceMul, Nat.reduceLeDiff, Nat.reduceEqDiff, Int.reduceToNat, Int.reduceEq, Int.reduceLT, Int.reduceLE, Int.reduceNeg, Int.reduceAdd, Int.reduceSub, Int.reduceMul, Nat.reducePow, Int.reduceNegSucc, str, str_add]
        have en : numsT ((p.1.offs.take (q + 1)).map (getN e)) = numsT ((p.1.offs.take q).map (getN e)) ++ (32 :: decI (getN e p.1.offs[q])) := by
          rw [List.take_succ_eq_append_getElem hq2, List.map_append, numsT_app]; simp [numsT]
        have el := congrArg List.length en
        simp only [List.length_append, List.length_cons] at el
        simp (disch := omega) only [wrapI]
        exact ⟨p.1.offs.length - (q + 1), by omega, h', .refl _, q + 1, by rw [en, List.append_assoc]; simp, rfl, by omega, by omega, rfl⟩
      · have hq2 : q = p.1.offs.length := by omega
        subst hq2
        rw [List.take_length] at hql
        have it : itext e = textF p.1 e := by
          unfold itext
          rw [find_at (p := (hitF · e)) hi3 hn (by rw [← hp]; exact hit), ← hp]
        have lC := callT_len hR
        simp only [walk, lists, acts, mem, plain, seqs, maps, cells, resL, resV, intBin, ↓reduceIte, Nat.reduceAdd, Nat.reduceSub, Nat.reduceMul, Nat.reduceLeDiff, Nat.reduceEqDiff, Int.reduceToNat, Int.reduceEq, Int.reduceLT, Int.reduceLE, Int.reduceNeg, Int.reduceAdd, Int.reduceSub, Int.reduceMul, Nat.reducePow, Int.reduceNegSucc, f5, List.take_length]
        by_cases hk : p.1.kind = 1
        · have wf : wrFn p.1 = 51 := by unfold wrFn; rw [if_pos hk]
          rw [wf]
          refine ⟨by kernel_rfl, callText_c (gl.sub sM) hdM hR.2.2.2.2.1 hR.2.2.2.2.2 ht ?_⟩
          simp (disch := (first | assumption | (simp only [List.length_append, List.length_cons, List.length_nil]; omega) | omega)) only [walk, lists, acts, mem, plain, seqs, maps, cells, resL, resV, intBin, ↓reduceIte, Nat.reduceAdd, Nat.reduceSub, Nat.reduceMul, Nat.reduceLeDiff, Nat.reduceEqDiff, Int.reduceToNat, Int.reduceEq, Int.reduceLT, Int.reduceLE, Int.reduceNeg, Int.reduceAdd, Int.reduceSub, Int.reduceMul, Nat.reducePow, Int.reduceNegSucc, str, str_add]
          refine ⟨h, sM, ?_⟩
          rw [it] at k
          unfold textF at k
          rw [if_pos hk] at k
          exact k
        · have wf : wrFn p.1 = 53 := by unfold wrFn; rw [if_neg hk]
          rw [wf]
          refine ⟨by kernel_rfl, noText_c ?_⟩
          simp (disch := (first | assumption | (simp only [List.length_append, List.length_cons, List.length_nil]; omega) | omega)) only [walk, lists, acts, mem, plain, seqs, maps, cells, resL, resV, intBin, ↓reduceIte, Nat.reduceAdd, Nat.reduceSub, Nat.reduceMul, Nat.reduceLeDiff, Nat.reduceEqDiff, Int.reduceToNat, Int.reduceEq, Int.reduceLT, Int.reduceLE, Int.reduceNeg, Int.reduceAdd, Int.reduceSub, Int.reduceMul, Nat.reducePow, Int.reduceNegSucc, str, str_add]
          refine ⟨h, sM, ?_⟩
          rw [it] at k
          unfold textF at k
          rw [if_neg hk, List.append_nil] at k
          exact k
    · have hit : hitF p.1 e = true := by unfold hitF; rw [decide_eq_true c1, decide_eq_false c2]; simp
      have rpM : rLs M ePtr 1 p.2 (p.1.offs.map fun o => (jd, o)) := (rp.sub (Sub.left g h)).sub sG
      have plen : ∀ {f : Value → Prop}, lenSK p.2 f = f (.int .i64 p.1.offs.length) := fun {f} => by have := rpM.len (f := f); rw [List.length_map] at this; exact this
      obtain ⟨ho1, ho2, ho3⟩ := forms_offs _ hmem
      rw [← hp] at ho1 ho2 ho3
      simp only [walk, lists, acts, mem, plain, seqs, maps, cells, resL, resV, intBin, ↓reduceIte, Nat.reduceAdd, Nat.reduceSub, Nat.reduceMul, Nat.reduceLeDiff, Nat.reduceEqDiff, Int.reduceToNat, Int.reduceEq, Int.reduceLT, Int.reduceLE, Int.reduceNeg, Int.reduceAdd, Int.reduceSub, Int.reduceMul, Nat.reducePow, Int.reduceNegSucc, f0, f3, plen]
      refine vc_loop [43, 5] (fun n vs h' => ∃ (q : Nat), vs = [.int .i64 q, .string ⟨(p.1.name ++ numsT ((p.1.offs.take q).map (getN e))).toArray⟩] ∧ h' = M ∧ (numsT ((p.1.offs.take q).map (getN e))).length ≤ 22 * q ∧ q ≤ p.1.offs.length ∧ n = p.1.offs.length - q) p.1.offs.length rfl
        ⟨0, by simp [numsT], rfl, by simp [numsT], by omega, rfl⟩ ?_
      rintro n f' h' ⟨q, hv', rfl, hql, hq, rfl⟩
      simp only [List.map_cons, List.map_nil, List.cons.injEq, and_true] at hv'
      simp only [walk, lists, acts, mem, plain, seqs, maps, cells, resL, resV, intBin, ↓reduceIte, Nat.reduceAdd, Nat.reduceSub, Nat.reduceMul, Nat.reduceLeDiff, Nat.reduceEqDiff, Int.reduceToNat, Int.reduceEq, Int.reduceLT, Int.reduceLE, Int.reduceNeg, Int.reduceAdd, Int.reduceSub, Int.reduceMul, Nat.reducePow, Int.reduceNegSucc, wr, hv'.1, hv'.2]
      refine ite_lt (fun c5 => ?_) fun c5 => ?_
      · have hq2 : q < p.1.offs.length := by omega
        refine idx_leaf (i := q) ePtr_len rpM rfl (by rw [List.length_map]; omega) fun b2 o2 e2 => ?_
        have hox := ho3 _ (List.getElem_mem hq2)
        have e2' : hread h' b2 o2 1 = some [.pointer (some ⟨jd, p.1.offs[q], none⟩)] := by rw [e2, List.getElem_map]; rfl
        have inR := getN_in hR hox.1 hox.2
        have lR := decI_len' inR
        simp only [walk, lists, acts, mem, plain, seqs, maps, cells, resL, resV, intBin, ↓reduceIte, Nat.reduceAdd, Nat.reduceSub, Nat.reduceMul, Nat.reduceLeDiff, Nat.reduceEqDiff, Int.reduceToNat, Int.reduceEq, Int.reduceLT, Int.reduceLE, Int.reduceNeg, Int.reduceAdd, Int.reduceSub, Int.reduceMul, Nat.reducePow, Int.reduceNegSucc, hread_1 e2', cN _ hox.1]
        refine itoa_c (gl.sub sM) inR ?_
        simp (disch := (first | assumption | (simp only [List.length_append, List.length_cons, List.length_nil]; omega) | omega)) only [walk, lists, acts, mem, plain, seqs, maps, cells, resL, resV, intBin, ↓reduceIte, Nat.reduceAdd, Nat.reduceSub, Nat.reduceMul, Nat.reduceLeDiff, Nat.reduceEqDiff, Int.reduceToNat, Int.reduceEq, Int.reduceLT, Int.reduceLE, Int.reduceNeg, Int.reduceAdd, Int.reduceSub, Int.reduceMul, Nat.reducePow, Int.reduceNegSucc, str, str_add]
        have en : numsT ((p.1.offs.take (q + 1)).map (getN e)) = numsT ((p.1.offs.take q).map (getN e)) ++ (32 :: decI (getN e p.1.offs[q])) := by
          rw [List.take_succ_eq_append_getElem hq2, List.map_append, numsT_app]; simp [numsT]
        have el := congrArg List.length en
        simp only [List.length_append, List.length_cons] at el
        simp (disch := omega) only [wrapI]
        exact ⟨p.1.offs.length - (q + 1), by omega, h', .refl _, q + 1, by rw [en, List.append_assoc]; simp, rfl, by omega, by omega, rfl⟩
      · have hq2 : q = p.1.offs.length := by omega
        subst hq2
        rw [List.take_length] at hql
        have it : itext e = textF p.1 e := by
          unfold itext
          rw [find_at (p := (hitF · e)) hi3 hn (by rw [← hp]; exact hit), ← hp]
        have lC := callT_len hR
        simp only [walk, lists, acts, mem, plain, seqs, maps, cells, resL, resV, intBin, ↓reduceIte, Nat.reduceAdd, Nat.reduceSub, Nat.reduceMul, Nat.reduceLeDiff, Nat.reduceEqDiff, Int.reduceToNat, Int.reduceEq, Int.reduceLT, Int.reduceLE, Int.reduceNeg, Int.reduceAdd, Int.reduceSub, Int.reduceMul, Nat.reducePow, Int.reduceNegSucc, f5, List.take_length]
        by_cases hk : p.1.kind = 1
        · have wf : wrFn p.1 = 51 := by unfold wrFn; rw [if_pos hk]
          rw [wf]
          refine ⟨by kernel_rfl, callText_c (gl.sub sM) hdM hR.2.2.2.2.1 hR.2.2.2.2.2 ht ?_⟩
          simp (disch := (first | assumption | (simp only [List.length_append, List.length_cons, List.length_nil]; omega) | omega)) only [walk, lists, acts, mem, plain, seqs, maps, cells, resL, resV, intBin, ↓reduceIte, Nat.reduceAdd, Nat.reduceSub, Nat.reduceMul, Nat.reduceLeDiff, Nat.reduceEqDiff, Int.reduceToNat, Int.reduceEq, Int.reduceLT, Int.reduceLE, Int.reduceNeg, Int.reduceAdd, Int.reduceSub, Int.reduceMul, Nat.reducePow, Int.reduceNegSucc, str, str_add]
          refine ⟨h, sM, ?_⟩
          rw [it] at k
          unfold textF at k
          rw [if_pos hk] at k
          exact k
        · have wf : wrFn p.1 = 53 := by unfold wrFn; rw [if_neg hk]
          rw [wf]
          refine ⟨by kernel_rfl, noText_c ?_⟩
          simp (disch := (first | assumption | (simp only [List.length_append, List.length_cons, List.length_nil]; omega) | omega)) only [walk, lists, acts, mem, plain, seqs, maps, cells, resL, resV, intBin, ↓reduceIte, Nat.reduceAdd, Nat.reduceSub, Nat.reduceMul, Nat.reduceLeDiff, Nat.reduceEqDiff, Int.reduceToNat, Int.reduceEq, Int.reduceLT, Int.reduceLE, Int.reduceNeg, Int.reduceAdd, Int.reduceSub, Int.reduceMul, Nat.reducePow, Int.reduceNegSucc, str, str_add]
          refine ⟨h, sM, ?_⟩
          rw [it] at k
          unfold textF at k
          rw [if_neg hk, List.append_nil] at k
          exact k
  · have hi2 : i = 10 := by omega
    subst hi2
    have : itext e = [] := by
      unfold itext
      rw [List.find?_eq_none.2 fun f hf => by rw [hn f (by simpa [forms] using hf)]; decide]
    rw [this] at k
    exact ⟨h, sh, k⟩
end Go.Proofs.YtdlgaidjlepepaaDoor
end
