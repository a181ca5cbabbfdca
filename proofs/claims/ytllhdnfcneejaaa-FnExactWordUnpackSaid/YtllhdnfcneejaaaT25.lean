/- What errors.Is says of a fault. -/
import Derived.Test.YtllhdnfcneejaaaA19
import Derived.Test.YtllhdnfcneejaaaChecked
import Derived.WalkKit
import Derived.LaidEql
import Derived.Test.YtllhdnfcneejaaaA20
import Derived.RowKitTokens
set_option linter.unusedVariables false
set_option linter.unusedSimpArgs false
namespace Go.Proofs.Ytllhdnfcneejaaa
open Go Go.Tk Go.RowKit

theorem isTypeOf (v : Value) (w : World) : (Extern.ReflectliteType.typeOf #[.iface 56 v]).run Try.prog w = .ok (.iface 131 (.agg #[.pointer (some ⟨3, 56, none⟩)])) w := by kernel_rfl
theorem isComparable (w : World) : ((Extern.ReflectliteType.method fun t => do Extern.Rtype.noPackHeld "Comparable" t; (fun a => Value.bool a.comparable) <$> typeInfo t) #[.agg #[.pointer (some ⟨3, 56, none⟩)]]).run Try.prog w = .ok (.bool true) w := by kernel_rfl
theorem isMethodComparable (v : Value) (w : World) : (Go.method 343 131 v "Comparable").run Try.prog w = .ok (126, v) w := by kernel_rfl
theorem isComp : (Try.prog.info? 56).map (·.comparable) = some true := by kernel_rfl
theorem noIsF (v : Value) (xT : TypeId) (w : World) : (Instr.typeAssert (.iface 56 v) xT 133 true).run Try.prog w = .ok (.tuple #[.nilIface, .bool false]) w := asrt_no Try.underlying133 (by kernel_rfl) (by kernel_rfl) v xT w
theorem noUnwrapF (v : Value) (xT : TypeId) (w : World) : (Instr.typeAssert (.iface 56 v) xT 136 true).run Try.prog w = .ok (.tuple #[.nilIface, .bool false]) w := asrt_no Try.underlying136 (by kernel_rfl) (by kernel_rfl) v xT w
theorem noUnwrapsF (v : Value) (xT : TypeId) (w : World) : (Instr.typeAssert (.iface 56 v) xT 138 true).run Try.prog w = .ok (.tuple #[.nilIface, .bool false]) w := asrt_no Try.underlying138 (by kernel_rfl) (by kernel_rfl) v xT w
theorem noIsW (v : Value) (xT : TypeId) (w : World) : (Instr.typeAssert (.iface 129 v) xT 133 true).run Try.prog w = .ok (.tuple #[.nilIface, .bool false]) w := asrt_no Try.underlying133 (by kernel_rfl) (by kernel_rfl) v xT w
theorem hasUnwrapW (v : Value) (xT : TypeId) (w : World) : (Instr.typeAssert (.iface 129 v) xT 136 true).run Try.prog w = .ok (.tuple #[.iface 129 v, .bool true]) w := asrt_yes Try.underlying136 (by kernel_rfl) v xT w
theorem methodUnwrap (v : Value) (w : World) : (Go.method 343 129 v "Unwrap").run Try.prog w = .ok (122, v) w := by kernel_rfl

theorem eql_faults (f g : Int) (w : World) : (binOp .eql 52 (.iface 56 (.int .i64 f)) (.iface 56 (.int .i64 g))).run Try.prog w = .ok (.bool (f == g)) w := by
  obtain ⟨i, hi, hcmp⟩ := Option.map_eq_some_iff.1 isComp
  have h : ∀ d : Nat, (Op.equalIn (d + 2) 52 (.iface 56 (.int .i64 f)) (.iface 56 (.int .i64 g))).run Try.prog w = .ok (f == g) w := fun d => by
    simp [Op.equalIn, run_underlying Try.underlying52, run_underlying Try.underlying56, typeInfo, hi, hcmp]
  have h2 : (Op.equal 52 (.iface 56 (.int .i64 f)) (.iface 56 (.int .i64 g))).run Try.prog w = .ok (f == g) w := h 9998
  simp only [binOp]
  simp [h2]

theorem isNil (g : Int) (w : World) :
    Calls Try.prog 29 #[.nilIface, .iface 56 (.int .i64 g)] w fun e w' => e = .returned (.bool false) ∧ w' = w := by
  have hn := run_eql_iface_nil_left (P := Try.prog) w 56 (.int .i64 g) Try.underlying52
  go_enter Try.func29, Try.ntmps29
  go_wp2
  go_ret
  exact ⟨rfl, rfl⟩

theorem isWrap (a f g : Int) (w : World) :
    Calls Try.prog 29 #[.iface 129 (.agg #[.int .i64 a, .iface 56 (.int .i64 f)]), .iface 56 (.int .i64 g)] w fun e w' => e = .returned (.bool (f == g)) ∧ ∃ o, w' = { w with heap := w.heap.push o } := by
  have h8 := @run_callFunc_extern Try.prog 78 _ Extern.ReflectliteType.typeOf Try.func78 (by kernel_rfl) (by kernel_rfl) (by kernel_rfl) (by kernel_rfl)
  have h32 := @run_callFunc_extern Try.prog 126 _ (Extern.ReflectliteType.method fun t => do Extern.Rtype.noPackHeld "Comparable" t; pure (.bool (← typeInfo t).comparable)) Try.func126 (by kernel_rfl) (by kernel_rfl) (by kernel_rfl) (by kernel_rfl)
  have tT := isTypeOf
  have cT := isComparable
  have mR := isMethodComparable
  have nE := noIsF
  have uE := noUnwrapF
  have vE := noUnwrapsF
  have nW := noIsW
  have uW := hasUnwrapW
  have mU := methodUnwrap
  have heq := eql_faults f g
  have hty := eql_types (P := Try.prog) 129 56 (.agg #[.int .i64 a, .iface 56 (.int .i64 f)]) (.int .i64 g) Try.underlying52 (by decide)
  go_enter Try.func29, Try.ntmps29
  go_wp2
  refine wp_loop_rounds 2 ?_
  rw [rounds_succ]
  go_wp2
  rw [rounds_succ]
  go_wp2
  all_goals go_ret
  all_goals refine ⟨?_, _, rfl⟩
  all_goals simp_all
end Go.Proofs.Ytllhdnfcneejaaa
