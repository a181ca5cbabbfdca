/- 'FnExactTollWhole': whatever comes in the law returns true, and what came in reads as it did. The condition: the library's tables and named errors start as its text lays them (tied by the card). -/
import Derived.Test.YtjioiemhgbkbfaaGreatDoorCards
import Derived.Test.YtjioiemhgbkbfaaGreatDoorTie
import Derived.WalkKit
import Derived.ProofKit
import Derived.OpenShut
import Derived.ShutString
import Derived.ChangeOld
import Derived.Below
import Derived.Deep.DeepHandedRow
import Derived.Deep.DeepWitnessRowRef
import Derived.Deep.DeepLaidRun
import Derived.OpenVars
import Derived.Test.YtjioiemhgbkbfaaGreatDoorK1522
set_option maxHeartbeats 4000000
set_option maxRecDepth 100000
set_option linter.unusedVariables false
set_option linter.unusedSimpArgs false
set_option linter.defProp false
namespace Go.Proofs.YtjioiemhgbkbfaaGreatDoor.fnExactTollWhole
open Go Go.ChangeShapes Go.WideShapes Go.ChangeAt Go.RowKit
open Go.ChangeMaps (open_string shut_string)
theorem own : ownKnob Tryz.prog.godebug = none := by kernel_rfl
theorem qXZ : laidOutB Tryz.prog = true := by kernel_rfl
theorem noH : (Rows.fnExactTollWholeRow.laid.filter fun x => x.2.handleName?.isSome) = [] := by kernel_rfl
theorem qIZ {W : World} (h : laidMetH Tryz.prog Rows.fnExactTollWholeRow.laid W) : laidMet Tryz.prog Rows.fnExactTollWholeRow.laid W := by
 unfold laidMetH at h
 rw [noH] at h
 exact h
theorem tabE : Rows.laid_internal_strconv_uint64pow10 = Lib.tabData (H := Unit) .u64 Lib.pow10Tab := by kernel_rfl
theorem glob {W : World} (h : laidMetH Tryz.prog Rows.fnExactTollWholeRow.laid W) : Gl (Tk.full W) := by
 refine gl_of (qIZ h) (s1 := "*errors.errorString") (s2 := "*errors.errorString") (e1 := .ptr (.agg [.lit (.string [105, 110, 118, 97, 108, 105, 100, 32, 115, 121, 110, 116, 97, 120])])) (e2 := .ptr (.agg [.lit (.string [118, 97, 108, 117, 101, 32, 111, 117, 116, 32, 111, 102, 32, 114, 97, 110, 103, 101])])) ?_ ?_ ?_
 ·rw [<- tabE]; exact .tail _ (.tail _ (.head _))
 ·exact .tail _ (.tail _ (.tail _ (.tail _ (.tail _ (.head _)))))
 ·exact .tail _ (.tail _ (.tail _ (.tail _ (.head _))))
theorem globE {W : World} (h : laidMetH Tryz.prog Rows.fnExactTollWholeRow.laid W) : Ge (Tk.full W) := by
 refine ge_of (qIZ h) (s := "*errors.errorString") (d0 := .ptr (.agg [.lit (.string [110, 111, 32, 116, 105, 109, 101])])) (d1 := .ptr (.agg [.lit (.string [116, 104, 101, 32, 103, 97, 116, 101, 32, 105, 115, 32, 110, 111, 116, 32, 111, 107])])) (d2 := .ptr (.agg [.lit (.string [104, 111, 117, 115, 101, 115, 32, 97, 114, 101, 32, 110, 111, 116, 32, 111, 107])])) (d3 := .ptr (.agg [.lit (.string [119, 111, 114, 100, 115, 32, 117, 110, 100, 101, 114, 32, 119, 97, 121, 32, 97, 114, 101, 32, 110, 111, 116, 32, 111, 107])])) (d4 := .ptr (.agg [.lit (.string [99, 97, 108, 108, 115, 32, 97, 114, 101, 32, 110, 111, 116, 32, 105, 110, 32, 102, 111, 114, 109])])) ?_ ?_ ?_ ?_ ?_
 ·exact .tail _ (.tail _ (.tail _ (.tail _ (.tail _ (.tail _ (.head _))))))
 ·exact .tail _ (.tail _ (.tail _ (.tail _ (.tail _ (.tail _ (.tail _ (.head _)))))))
 ·exact .tail _ (.tail _ (.tail _ (.tail _ (.tail _ (.tail _ (.tail _ (.tail _ (.head _))))))))
 ·exact .tail _ (.tail _ (.tail _ (.tail _ (.tail _ (.tail _ (.tail _ (.tail _ (.tail _ (.head _)))))))))
 ·exact .tail _ (.tail _ (.tail _ (.tail _ (.tail _ (.tail _ (.tail _ (.tail _ (.tail _ (.tail _ (.head _))))))))))
theorem ends {w : World} {args : Array Value} (k : Tk.HCalls Tryz.prog 4 args (Tk.full w) (fun e h' => e = .returned (.bool true) /\ h' = Tk.full w)) :
  Calls Tryz.prog 4 args w fun e w' => e = .returned (.bool true) /\ Below w.heap.size w w' := by
 refine (k w (Tk.sat_full w)).mono ?_
 rintro e w' ⟨h', ⟨rfl, rfl⟩, p⟩
 exact ⟨rfl, p.below (Tk.sat_full w) (Tk.Sub.refl _)⟩
theorem zIX (H : Type) (enc : TypeId × Value -> H) (W : World) (base : Nat) (args : Array Value) (ds gs : List (DataW H)) (before : List MemPlace)
  (hval0 : ∀ (j : Nat) t v, Tryz.f4.params[j]? = some t -> args[j]? = some v -> Value.okWide Tryz.prog W .any base t v)
  (hW : DataW.Whole enc Tryz.prog Tryz.f4.params.toList Rows.fnExactTollWholeSpec.vars false W args.toList ds gs before) (hL : laidMetH Tryz.prog Rows.fnExactTollWholeRow.laid W) (hS : W.ShapedOpen Tryz.prog) :
  Calls Tryz.prog 4 args W fun e W' => ∃ v, e = .returned v /\ Rows.fnExactTollWholeSpec.post enc Tryz.prog Tryz.f4 false true false false W args v W' := by
 have hval : ∀ (j : Nat) t v, Tryz.f4.params[j]? = some t -> args[j]? = some v -> Value.okWide Tryz.prog W .any base t v := hval0
 have hW' := hW
 obtain ⟨p, q, hA0, hV, rfl, hfz, hnd⟩ := hW
 have hA : DataW.TrodAll enc Tryz.prog W 0 (fun _ => true) true Tryz.f4.params.toList args.toList ds p := hA0
 rw [Tryz.params4] at hA hval
 obtain ⟨v0, vs0, d0, ds0, p0, q0, hargs0, rfl, rfl, h0, r'0⟩ := trodAll_cons hA
 obtain ⟨rfl, rfl, rfl⟩ := trodAll_nil r'0
 obtain rfl : args = #[v0] := by cases args; simp_all
 have hV5 : DataW.TrodVars enc Tryz.prog W (fun _ => true) ["loop.example/turnpike/impl.errTime", "loop.example/turnpike/impl.errGate", "loop.example/turnpike/impl.errHouses", "loop.example/turnpike/impl.errRadio", "loop.example/turnpike/impl.errCalls"] gs q := hV
 obtain ⟨z0, z1, z2, z3, z4, rfl⟩ := vars5 hV5
 have k0 := h0
 have lt0 : ∀ x ∈ p0, x.block < W.heap.size := by obtain ⟨m, hm⟩ := k0; exact DataW.trod_lt m _ _ _ hm
 obtain ⟨cs0, rfl, hc0⟩ := Tk.okWide_struct Tryz.underlying31 (hval 0 31 v0 rfl rfl)
 obtain ⟨x0, u0_0, u0_1, u0_2, u0_3, u0_4, u0_5, hx0, r0, hu0⟩ : ∃ x u0_0 u0_1 u0_2 u0_3 u0_4 u0_5, cs0.toList = Tk.cTollWorld x u0_0 u0_1 u0_2 u0_3 u0_4 u0_5 /\ nWorld (Tk.full W) x u0_0 u0_1 u0_2 u0_3 u0_4 u0_5 /\ qNK x := by
  obtain ⟨fuel, hf⟩ := h0
  exact qKW (cs := cs0.toList) (by rw [Array.length_toList, hc0]; kernel_rfl) hf
 obtain rfl : cs0 = (Tk.cTollWorld x0 u0_0 u0_1 u0_2 u0_3 u0_4 u0_5).toArray := by rw [<- hx0]
 clear hA0 hval0
 refine (ends (qFT (glob hL) (mxl_of hS) (globE hL) r0 hu0 (R := fun e h' => e = .returned (.bool true) /\ h' = Tk.full W) ⟨rfl, rfl⟩)).mono fun e W' ⟨he, bel⟩ => ?_
 subst he
 exact ⟨_, rfl, _, _, _, [], _, _, hW', trodAll_mk1 (shut_bool Tryz.underlying4 _), (trodAll_cons_mk (Below.trod qXZ (by kernel_rfl) (of_decide_eq_true (by kernel_rfl)) k0 bel lt0) trodAll_mk0), Below.trodVars qXZ bel (by kernel_rfl) hV5, bel.frame _, fun h => by cases h⟩
noncomputable def low : Nat := (World.holding Tryz.prog default ⟨#[], #[], []⟩).heap.size
noncomputable def qFP (os : Os) : World :=
 let w0 := World.holding Tryz.prog os ⟨#[.cells #[.string ⟨[118, 97, 108, 117, 101, 32, 111, 117, 116, 32, 111, 102, 32, 114, 97, 110, 103, 101].toArray⟩] 351, .cells #[.string ⟨[105, 110, 118, 97, 108, 105, 100, 32, 115, 121, 110, 116, 97, 120].toArray⟩] 351, .cells #[.string ⟨[110, 111, 32, 116, 105, 109, 101].toArray⟩] 351, .cells #[.string ⟨[116, 104, 101, 32, 103, 97, 116, 101, 32, 105, 115, 32, 110, 111, 116, 32, 111, 107].toArray⟩] 351, .cells #[.string ⟨[104, 111, 117, 115, 101, 115, 32, 97, 114, 101, 32, 110, 111, 116, 32, 111, 107].toArray⟩] 351, .cells #[.string ⟨[119, 111, 114, 100, 115, 32, 117, 110, 100, 101, 114, 32, 119, 97, 121, 32, 97, 114, 101, 32, 110, 111, 116, 32, 111, 107].toArray⟩] 351, .cells #[.string ⟨[99, 97, 108, 108, 115, 32, 97, 114, 101, 32, 110, 111, 116, 32, 105, 110, 32, 102, 111, 114, 109].toArray⟩] 351], #[], []⟩
 let put (h : Array Obj) (g : Nat) (cs : Array Value) : Array Obj := h.modify g fun
  | .cells _ t frozen => .cells cs t frozen
  | o => o
 let h1 := put w0.heap 11 (Tk.tabCells Rows.laid_math_bits_deBruijn32tab).toArray
 let h2 := put h1 12 (Tk.tabCells Rows.laid_math_bits_deBruijn64tab).toArray
 let h3 := put h2 10 (Tk.tabCells Rows.laid_internal_strconv_uint64pow10).toArray
 let h4 := put h3 9 (Tk.tabCells Rows.laid_unicode_utf8_acceptRanges).toArray
 let h5 := put h4 8 (Tk.tabCells Rows.laid_unicode_utf8_first).toArray
 let h6 := put h5 7 #[.iface 349 (.pointer (some ⟨low, 0, none⟩))]
 let h7 := put h6 6 #[.iface 349 (.pointer (some ⟨low + 1, 0, none⟩))]
 let h8 := put h7 0 #[.iface 349 (.pointer (some ⟨low + 2, 0, none⟩))]
 let h9 := put h8 1 #[.iface 349 (.pointer (some ⟨low + 3, 0, none⟩))]
 let h10 := put h9 2 #[.iface 349 (.pointer (some ⟨low + 4, 0, none⟩))]
 let h11 := put h10 3 #[.iface 349 (.pointer (some ⟨low + 5, 0, none⟩))]
 let h12 := put h11 4 #[.iface 349 (.pointer (some ⟨low + 6, 0, none⟩))]
 { w0 with heap := h12 }
theorem zHD (os : Os) : laidMet Tryz.prog Rows.fnExactTollWholeRow.laid ((qFP os).forCall (fun _ _ => 0) ⟨#[], #[.agg #[.int .i64 0, .bool false, .int .i64 0, .int .i64 0, .slice none 0 0, .slice none 0 0, .slice none 0 0, .slice none 0 0, .slice none 0 0, .slice none 0 0]], []⟩).memory :=
 laidMet_of_run3 8 (by kernel_rfl) (by kernel_rfl) (by kernel_rfl)
theorem reads (os : Os) {H : Type} (enc : TypeId × Value -> H) : ∃ places, DataW.whole enc Tryz.prog ((qFP os).forCall (fun _ _ => 0) ⟨#[], #[.agg #[.int .i64 0, .bool false, .int .i64 0, .int .i64 0, .slice none 0 0, .slice none 0 0, .slice none 0 0, .slice none 0 0, .slice none 0 0, .slice none 0 0]], []⟩).memory Tryz.f4.params.toList Rows.fnExactTollWholeSpec.vars false #[Value.agg #[.int .i64 0, .bool false, .int .i64 0, .int .i64 0, .slice none 0 0, .slice none 0 0, .slice none 0 0, .slice none 0 0, .slice none 0 0, .slice none 0 0]].toList 8 = some ([.agg [.lit (.int .i64 0), .agg [.lit (.bool false), .lit (.int .i64 0), .lit (.int .i64 0), .nil, .nil, .nil], .nil, .nil, .nil]], [.held (enc (349, .pointer (some ⟨low + 2, 0, none⟩))), .held (enc (349, .pointer (some ⟨low + 3, 0, none⟩))), .held (enc (349, .pointer (some ⟨low + 4, 0, none⟩))), .held (enc (349, .pointer (some ⟨low + 5, 0, none⟩))), .held (enc (349, .pointer (some ⟨low + 6, 0, none⟩)))], places) :=
 ⟨MemPlace.row ⟨0, 0, none⟩ 1 ++ MemPlace.row ⟨1, 0, none⟩ 1 ++ MemPlace.row ⟨2, 0, none⟩ 1 ++ MemPlace.row ⟨3, 0, none⟩ 1 ++ MemPlace.row ⟨4, 0, none⟩ 1, by kernel_rfl⟩
theorem lifted (os : Os) (started : os.Started) (H : Type) (enc : TypeId × Value -> H) (F : Stop.Interp) :
  ReturnsInHanded {} Tryz.checked os 4 .any ((OpenSpec.ofChange Rows.fnExactTollWholeSpec).preRow enc Tryz.prog Tryz.f4 Rows.fnExactTollWholeRow.domain false Rows.fnExactTollWholeRow.laid) (((OpenSpec.ofChange Rows.fnExactTollWholeSpec).at F).post enc Tryz.prog Tryz.f4 false true false false) := by
 obtain ⟨places, hx⟩ := reads os enc
 refine returnsInHanded_of_row (C := Tryz.checked) (s := OpenSpec.ofChange Rows.fnExactTollWholeSpec) own started (by kernel_rfl) Tryz.func4
  (witness_row_at (enc := enc) (C := Tryz.checked) false (qFP os) #[.agg #[.int .i64 0, .bool false, .int .i64 0, .int .i64 0, .slice none 0 0, .slice none 0 0, .slice none 0 0, .slice none 0 0, .slice none 0 0, .slice none 0 0]] rfl (by kernel_rfl) (by kernel_rfl) (by kernel_rfl)
   (OpenSpec.preRow_of_cond 8 hx (by kernel_rfl) (fun k hk => by cases hk) (by kernel_rfl) (zHD os))) ?_
 intro W base args ds gs before hval hW _ _ _ hL hS _
 exact zIX H enc W base args ds gs before hval hW hL hS
theorem closed1 : Tk.joined1 Tryz.pinned.checked.prog Tryz.f4 (OpenSpec.ofChange Rows.fnExactTollWholeSpec).bare Rows.fnExactTollWholeRow = true := by kernel_rfl
theorem closed2 : Tk.joined2 Tryz.pinned.checked.prog 4 Rows.fnExactTollWholeRow = true := by kernel_rfl
theorem closed3 : Tk.joined3 Tryz.pinned.checked.prog 4 Rows.fnExactTollWholeRow = true := by kernel_rfl
theorem closed4 : Tk.joined4 Tryz.pinned.checked.prog Tryz.f4 (OpenSpec.ofChange Rows.fnExactTollWholeSpec).bare Rows.fnExactTollWholeRow = true := by kernel_rfl
theorem closed5 : Tk.joined5 Tryz.pinned.checked.prog Tryz.f4 (OpenSpec.ofChange Rows.fnExactTollWholeSpec).bare Rows.fnExactTollWholeRow = true := by kernel_rfl
theorem closed6 : Tk.joined6 Tryz.pinned.checked.prog Tryz.f4 (OpenSpec.ofChange Rows.fnExactTollWholeSpec).bare Rows.fnExactTollWholeRow = true := by kernel_rfl
theorem closed7 : Tk.joined7 Tryz.pinned.checked.prog Tryz.f4 Rows.fnExactTollWholeRow = true := by kernel_rfl
theorem closed8 : Tk.joined8 Tryz.pinned.checked.prog Tryz.f4 (OpenSpec.ofChange Rows.fnExactTollWholeSpec).bare Rows.fnExactTollWholeRow = true := by kernel_rfl
theorem said : Rows.FnExactTollWholeSaid :=
 OpenClaim.holds_of_cond 4 Tryz.f4 rfl rfl rfl rfl rfl rfl rfl ⟨rfl, rfl, rfl, rfl, rfl⟩ rfl rfl rfl rfl rfl (by kernel_rfl) Tryz.func4 (Tk.joined_of closed1 closed2 closed3 closed4 closed5 closed6 closed7 closed8)
  (of_decide_eq_true (by kernel_rfl)) (by unfold Func.isWrapper; first | (rw [if_pos (by decide +kernel)]; kernel_rfl) | (rw [if_neg (by decide +kernel)]; exact ⟨rfl, rfl⟩))
  (fun os started H enc _ F => by rw [OpenClaim.pre_eq_preRow]; exact lifted os started H enc F)
theorem plain (f : FuncId) (fn : Func) (hf : Tryz.pinned.checked.prog.funcNamed "loop.example/turnpike/laws.FnExactTollWhole" = some f) (hfn : Tryz.pinned.checked.prog.funcs[f]? = some fn) :
  true = Tryz.pinned.checked.prog.looks [] /\ ∀ (j : Nat) t, fn.params[j]? = some t -> Tryz.pinned.checked.prog.wantsStandIn t = false := by
 obtain rfl : f = 4 := Option.some.inj ((show Tryz.prog.funcNamed "loop.example/turnpike/laws.FnExactTollWhole" = some 4 by kernel_rfl).symm.trans hf) |>.symm
 obtain rfl : fn = Tryz.f4 := (Option.some.inj (Tryz.func4.symm.trans hfn)).symm
 refine ⟨by kernel_rfl, fun j t ht => ?_⟩
 rw [Tryz.params4] at ht
 have hm := Array.mem_of_getElem? ht
 simp only [List.mem_toArray, List.mem_cons, List.not_mem_nil, or_false] at hm
 rcases hm with rfl
 exact (show Tryz.prog.wantsStandIn 31 = false by kernel_rfl)
theorem proved : Rows.FnExactTollWholeCardSaid :=
 Claim7.holds_tied_plain_at .later [] _ _ _ _ said (fun _ h => by cases h) (by kernel_rfl) (fun _ h => by cases h) fnExactTollWhole_row_tie rfl ⟨rfl, rfl⟩ (by kernel_rfl) rfl plain (by kernel_rfl)
#print axioms proved
end Go.Proofs.YtjioiemhgbkbfaaGreatDoor.fnExactTollWhole
