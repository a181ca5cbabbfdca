/- 'FnExactGateTend': whatever comes in the law returns true, and what came in reads as it did. The condition: the library's tables and named errors start as its text lays them (tied by the card). -/
import Derived.Test.YtgbapakcfmgahaaGreatDoorCards
import Derived.Test.YtgbapakcfmgahaaGreatDoorTie
import Derived.WalkKit
import Derived.ProofKit
import Derived.OpenShut
import Derived.ShutString
import Derived.ChangeOld
import Derived.Below
import Derived.Deep.DeepHandedRow
import Derived.Deep.DeepWitnessRowRef
import Derived.Deep.DeepLaidRun
import Derived.Test.YtgbapakcfmgahaaGreatDoorK1320
import Derived.Test.YtgbapakcfmgahaaGreatDoorK1323
set_option linter.unusedVariables false
set_option linter.unusedSimpArgs false
set_option linter.defProp false
namespace Go.Proofs.YtgbapakcfmgahaaGreatDoor.fnExactGateTend
open Go Go.ChangeShapes Go.WideShapes Go.ChangeAt Go.RowKit
open Go.ChangeMaps (open_string shut_string)
theorem own : ownKnob Tryz.prog.godebug = none := by kernel_rfl
theorem laidOut : laidOutB Tryz.prog = true := by kernel_rfl
theorem noH : (Rows.fnExactGateTendRow.laid.filter fun x => x.2.handleName?.isSome) = [] := by kernel_rfl
theorem laid_plain {W : World} (h : laidMetH Tryz.prog Rows.fnExactGateTendRow.laid W) : laidMet Tryz.prog Rows.fnExactGateTendRow.laid W := by
 unfold laidMetH at h
 rw [noH] at h
 exact h
theorem tabE : Rows.laid_internal_strconv_uint64pow10 = Lib.tabData (H := Unit) .u64 Lib.pow10Tab := by kernel_rfl
theorem glob {W : World} (h : laidMetH Tryz.prog Rows.fnExactGateTendRow.laid W) : Gl (Tk.full W) := by
 refine gl_of (laid_plain h) (s1 := "*errors.errorString") (s2 := "*errors.errorString") (e1 := .ptr (.agg [.lit (.string [105, 110, 118, 97, 108, 105, 100, 32, 115, 121, 110, 116, 97, 120])])) (e2 := .ptr (.agg [.lit (.string [118, 97, 108, 117, 101, 32, 111, 117, 116, 32, 111, 102, 32, 114, 97, 110, 103, 101])])) ?_ ?_ ?_
 ·rw [<- tabE]; exact .tail _ (.tail _ (.head _))
 ·exact .tail _ (.tail _ (.tail _ (.tail _ (.tail _ (.head _)))))
 ·exact .tail _ (.tail _ (.tail _ (.tail _ (.head _))))
theorem ends {w : World} {args : Array Value} (k : Tk.HCalls Tryz.prog 3 args (Tk.full w) (fun e h' => e = .returned (.bool true) /\ h' = Tk.full w)) :
  Calls Tryz.prog 3 args w fun e w' => e = .returned (.bool true) /\ Below w.heap.size w w' := by
 refine (k w (Tk.sat_full w)).mono ?_
 rintro e w' ⟨h', ⟨rfl, rfl⟩, p⟩
 exact ⟨rfl, p.below (Tk.sat_full w) (Tk.Sub.refl _)⟩
set_option maxRecDepth 100000 in
theorem contract (H : Type) (enc : TypeId × Value -> H) (W : World) (base : Nat) (args : Array Value) (ds gs : List (DataW H)) (before : List MemPlace)
  (hval0 : ∀ (j : Nat) t v, Tryz.f3.params[j]? = some t -> args[j]? = some v -> Value.okWide Tryz.prog W .any base t v)
  (hW : DataW.Whole enc Tryz.prog Tryz.f3.params.toList Rows.fnExactGateTendSpec.vars false W args.toList ds gs before) (hL : laidMetH Tryz.prog Rows.fnExactGateTendRow.laid W) (hS : W.ShapedOpen Tryz.prog) :
  Calls Tryz.prog 3 args W fun e W' => ∃ v, e = .returned v /\ Rows.fnExactGateTendSpec.post enc Tryz.prog Tryz.f3 false true false false W args v W' := by
 have hval : ∀ (j : Nat) t v, Tryz.f3.params[j]? = some t -> args[j]? = some v -> Value.okWide Tryz.prog W .any base t v := hval0
 have hW' := hW
 obtain ⟨p, q, hA0, hV, rfl, hfz, hnd⟩ := hW
 have hA : DataW.TrodAll enc Tryz.prog W 0 (fun _ => true) true Tryz.f3.params.toList args.toList ds p := hA0
 rw [Tryz.params3] at hA hval
 obtain ⟨v0, vs0, d0, ds0, p0, q0, hargs0, rfl, rfl, h0, r'0⟩ := trodAll_cons hA
 obtain ⟨rfl, rfl, rfl⟩ := trodAll_nil r'0
 obtain rfl : args = #[v0] := by cases args; simp_all
 obtain ⟨rfl, rfl⟩ := trodVars_none hV
 have k0 := h0
 have lt0 : ∀ x ∈ p0, x.block < W.heap.size := by obtain ⟨m, hm⟩ := k0; exact DataW.trod_lt m _ _ _ hm
 obtain ⟨cs0, rfl, hc0⟩ := Tk.okWide_struct Tryz.underlying26 (hval 0 26 v0 rfl rfl)
 obtain ⟨x0, u0_0, u0_1, u0_2, hx0, r0, hu0⟩ : ∃ x u0_0 u0_1 u0_2, cs0.toList = Tk.cGate x u0_0 u0_1 u0_2 /\ nGate (Tk.full W) x u0_0 u0_1 u0_2 /\ uGate x := by
  obtain ⟨fuel, hf⟩ := h0
  exact in_gate (cs := cs0.toList) (by rw [Array.length_toList, hc0]; kernel_rfl) hf
 obtain rfl : cs0 = (Tk.cGate x0 u0_0 u0_1 u0_2).toArray := by rw [<- hx0]
 clear hA0 hval0
 refine (ends (exactGateTend_c (glob hL) (mxl_of hS) r0 hu0 (R := fun e h' => e = .returned (.bool true) /\ h' = Tk.full W) ⟨rfl, rfl⟩)).mono fun e W' ⟨he, bel⟩ => ?_
 subst he
 exact ⟨_, rfl, _, _, _, [], _, [], hW', trodAll_mk1 (shut_bool Tryz.underlying4 _), (trodAll_cons_mk (Below.trod laidOut (by kernel_rfl) (of_decide_eq_true (by kernel_rfl)) k0 bel lt0) trodAll_mk0), rfl, bel.frame _, fun h => by cases h⟩
noncomputable def low : Nat := (World.holding Tryz.prog default ⟨#[], #[], []⟩).heap.size
noncomputable def laidWorld (os : Os) : World :=
 let w0 := World.holding Tryz.prog os ⟨#[.cells #[.string ⟨[118, 97, 108, 117, 101, 32, 111, 117, 116, 32, 111, 102, 32, 114, 97, 110, 103, 101].toArray⟩] 268, .cells #[.string ⟨[105, 110, 118, 97, 108, 105, 100, 32, 115, 121, 110, 116, 97, 120].toArray⟩] 268], #[], []⟩
 let put (h : Array Obj) (g : Nat) (cs : Array Value) : Array Obj := h.modify g fun
  | .cells _ t frozen => .cells cs t frozen
  | o => o
 let h1 := put w0.heap 6 (Tk.tabCells Rows.laid_math_bits_deBruijn32tab).toArray
 let h2 := put h1 7 (Tk.tabCells Rows.laid_math_bits_deBruijn64tab).toArray
 let h3 := put h2 5 (Tk.tabCells Rows.laid_internal_strconv_uint64pow10).toArray
 let h4 := put h3 4 (Tk.tabCells Rows.laid_unicode_utf8_acceptRanges).toArray
 let h5 := put h4 3 (Tk.tabCells Rows.laid_unicode_utf8_first).toArray
 let h6 := put h5 2 #[.iface 266 (.pointer (some ⟨low, 0, none⟩))]
 let h7 := put h6 1 #[.iface 266 (.pointer (some ⟨low + 1, 0, none⟩))]
 { w0 with heap := h7 }
theorem laid_met (os : Os) : laidMet Tryz.prog Rows.fnExactGateTendRow.laid ((laidWorld os).forCall (fun _ _ => 0) ⟨#[], #[.agg #[.bool false, .int .i64 0, .int .i64 0, .slice none 0 0, .slice none 0 0, .slice none 0 0]], []⟩).memory :=
 laidMet_of_run3 8 (by kernel_rfl) (by kernel_rfl) (by kernel_rfl)
theorem reads (os : Os) {H : Type} (enc : TypeId × Value -> H) : ∃ places, DataW.whole enc Tryz.prog ((laidWorld os).forCall (fun _ _ => 0) ⟨#[], #[.agg #[.bool false, .int .i64 0, .int .i64 0, .slice none 0 0, .slice none 0 0, .slice none 0 0]], []⟩).memory Tryz.f3.params.toList Rows.fnExactGateTendSpec.vars false #[Value.agg #[.bool false, .int .i64 0, .int .i64 0, .slice none 0 0, .slice none 0 0, .slice none 0 0]].toList 8 = some ([.agg [.lit (.bool false), .lit (.int .i64 0), .lit (.int .i64 0), .nil, .nil, .nil]], [], places) :=
 ⟨[], by kernel_rfl⟩
set_option maxRecDepth 100000 in
theorem lifted (os : Os) (started : os.Started) (H : Type) (enc : TypeId × Value -> H) (F : Stop.Interp) :
  ReturnsInHanded {} Tryz.checked os 3 .any ((OpenSpec.ofChange Rows.fnExactGateTendSpec).preRow enc Tryz.prog Tryz.f3 Rows.fnExactGateTendRow.domain false Rows.fnExactGateTendRow.laid) (((OpenSpec.ofChange Rows.fnExactGateTendSpec).at F).post enc Tryz.prog Tryz.f3 false true false false) := by
 obtain ⟨places, hx⟩ := reads os enc
 refine returnsInHanded_of_row (C := Tryz.checked) (s := OpenSpec.ofChange Rows.fnExactGateTendSpec) own started (by kernel_rfl) Tryz.func3
  (witness_row_at (enc := enc) (C := Tryz.checked) false (laidWorld os) #[.agg #[.bool false, .int .i64 0, .int .i64 0, .slice none 0 0, .slice none 0 0, .slice none 0 0]] rfl (by kernel_rfl) (by kernel_rfl) (by kernel_rfl)
   (OpenSpec.preRow_of_cond 8 hx (by kernel_rfl) (fun k hk => by cases hk) (by kernel_rfl) (laid_met os))) ?_
 intro W base args ds gs before hval hW _ _ _ hL hS _
 exact contract H enc W base args ds gs before hval hW hL hS
theorem said : Rows.FnExactGateTendSaid :=
 OpenClaim.holds_of_cond 3 Tryz.f3 rfl rfl rfl rfl rfl rfl rfl ⟨rfl, rfl, rfl, rfl, rfl⟩ rfl rfl rfl rfl rfl (by kernel_rfl) Tryz.func3 (by kernel_rfl)
  (of_decide_eq_true (by kernel_rfl)) (by unfold Func.isWrapper; first | (rw [if_pos (by decide +kernel)]; kernel_rfl) | (rw [if_neg (by decide +kernel)]; exact ⟨rfl, rfl⟩))
  (fun os started H enc _ F => by rw [OpenClaim.pre_eq_preRow]; exact lifted os started H enc F)
theorem plain (f : FuncId) (fn : Func) (hf : Tryz.pinned.checked.prog.funcNamed "loop.example/turnpike/laws.FnExactGateTend" = some f) (hfn : Tryz.pinned.checked.prog.funcs[f]? = some fn) :
  true = Tryz.pinned.checked.prog.looks [] /\ ∀ (j : Nat) t, fn.params[j]? = some t -> Tryz.pinned.checked.prog.wantsStandIn t = false := by
 obtain rfl : f = 3 := Option.some.inj ((show Tryz.prog.funcNamed "loop.example/turnpike/laws.FnExactGateTend" = some 3 by kernel_rfl).symm.trans hf) |>.symm
 obtain rfl : fn = Tryz.f3 := (Option.some.inj (Tryz.func3.symm.trans hfn)).symm
 refine ⟨by kernel_rfl, fun j t ht => ?_⟩
 rw [Tryz.params3] at ht
 have hm := Array.mem_of_getElem? ht
 simp only [List.mem_toArray, List.mem_cons, List.not_mem_nil, or_false] at hm
 rcases hm with rfl
 exact (show Tryz.prog.wantsStandIn 26 = false by kernel_rfl)
theorem proved : Rows.FnExactGateTendCardSaid :=
 Claim7.holds_tied_plain_at .later [] _ _ _ _ said (fun _ h => by cases h) (by kernel_rfl) (fun _ h => by cases h) fnExactGateTend_row_tie rfl ⟨rfl, rfl⟩ (by kernel_rfl) rfl plain (by kernel_rfl)
#print axioms proved
end Go.Proofs.YtgbapakcfmgahaaGreatDoor.fnExactGateTend
