/- Types asked of values that interfaces hold. -/
import Derived.Test.YtllhdnfcneejaaaA19
import Derived.LaidEql
set_option linter.unusedVariables false
set_option linter.unusedSimpArgs false
namespace Go.Tk
open Go

/-- Is a wanted method absent? -/
def absent (want : Array (String × TypeId)) (got : Array Method) : Bool := want.toList.any fun p => !got.any fun m => m.name == p.1 && m.sig == p.2

theorem least_of {l : List String} (h : l ≠ []) : (Instr.least l).isSome = true := by
  cases l with
  | nil => exact absurd rfl h
  | cons s r => rfl
theorem least_part (p : String → Bool) (g : String → String) {L : List String} {x : String} (hx : x ∈ L) :
    ((match L.partition p with | (u, e) => Instr.least e <|> Instr.least (u.map g)) : Option String).isSome = true := by
  rw [List.partition_eq_filter_filter]
  show (Instr.least (L.filter (not ∘ p)) <|> Instr.least ((L.filter p).map g)).isSome = true
  cases hp : p x with
  | false =>
    have : (L.filter (not ∘ p)) ≠ [] := List.ne_nil_of_mem (List.mem_filter.2 ⟨hx, by simp [Function.comp, hp]⟩)
    obtain ⟨m, hm⟩ := Option.isSome_iff_exists.1 (least_of this)
    rw [hm]; rfl
  | true =>
    have : ((L.filter p).map g) ≠ [] := List.ne_nil_of_mem (List.mem_map.2 ⟨x, List.mem_filter.2 ⟨hx, hp⟩, rfl⟩)
    obtain ⟨m, hm⟩ := Option.isSome_iff_exists.1 (least_of this)
    rw [hm]
    cases Instr.least (L.filter (not ∘ p)) <;> rfl
theorem mm_yes {want : Array (String × TypeId)} {got : Array Method} (h : absent want got = true) : ∃ m, Instr.missingMethod want got = some m := by
  rw [← Option.isSome_iff_exists]
  unfold absent at h
  obtain ⟨p, hp, hq⟩ := List.any_eq_true.1 h
  exact least_part _ _ (x := p.1) (List.mem_map.2 ⟨p, List.mem_filter.2 ⟨hp, hq⟩, rfl⟩)
theorem mm_no {want : Array (String × TypeId)} {got : Array Method} (h : absent want got = false) : Instr.missingMethod want got = none := by
  have hL : (want.toList.filter fun (name, sig) => !got.any fun m => m.name == name && m.sig == sig) = [] := by
    refine List.filter_eq_nil_iff.2 fun p hp hq => ?_
    have : absent want got = true := List.any_eq_true.2 ⟨p, hp, hq⟩
    rw [h] at this; cases this
  unfold Instr.missingMethod
  rw [hL]
  rfl

theorem asrt_no {P : Program} {want : Array (String × TypeId)} {asserted t : TypeId} {z : Value} (hu : P.underlying asserted = some (.interface want)) (h : (P.info? t).map (fun i => absent want i.methods) = some true) (hz : (P.info? asserted).map (·.zero) = some (some z))
    (v : Value) (xT : TypeId) (w : World) : (Instr.typeAssert (.iface t v) xT asserted true).run P w = .ok (.tuple #[z, .bool false]) w := by
  obtain ⟨i, hi, hl⟩ := Option.map_eq_some_iff.1 h
  obtain ⟨j, hj, hz'⟩ := Option.map_eq_some_iff.1 hz
  obtain ⟨m, hm⟩ := mm_yes hl
  simp [Instr.typeAssert, run_underlying hu, typeInfo, hi, hm, zeroValue, hj, hz']
theorem asrt_yes {P : Program} {want : Array (String × TypeId)} {asserted t : TypeId} (hu : P.underlying asserted = some (.interface want)) (h : (P.info? t).map (fun i => absent want i.methods) = some false)
    (v : Value) (xT : TypeId) (w : World) : (Instr.typeAssert (.iface t v) xT asserted true).run P w = .ok (.tuple #[.iface t v, .bool true]) w := by
  obtain ⟨i, hi, hl⟩ := Option.map_eq_some_iff.1 h
  simp [Instr.typeAssert, run_underlying hu, typeInfo, hi, mm_no hl]
theorem eql_types {P : Program} {ti : TypeId} {ms : Array (String × TypeId)} (tx ty : TypeId) (vx vy : Value) (hi : P.underlying ti = some (.interface ms)) (hne : tx ≠ ty) (w : World) :
    (binOp .eql ti (.iface tx vx) (.iface ty vy)).run P w = .ok (.bool false) w := by
  have h : ∀ d : Nat, (Op.equalIn (d + 1) ti (.iface tx vx) (.iface ty vy)).run P w = .ok false w := fun d => by simp [Op.equalIn, run_underlying hi, hne]
  have h2 : (Op.equal ti (.iface tx vx) (.iface ty vy)).run P w = .ok false w := h 9999
  simp only [binOp]
  simp [h2]
theorem HCalls.of_calls {P : Program} {f : FuncId} {args : Array Value} {h : H} {R : Ending → H → Prop} (k : ∀ w, Sat h w → Calls P f args w (fun e w' => ∃ h', R e h' ∧ Pst h w h' w')) : HCalls P f args h R := k
theorem Pst.one {h : H} {w : World} {o : Obj} (s : Sat h w) : Pst h w h { w with heap := w.heap.push o } := by
  refine (Pst.push s o rfl).drop fun i x hx => ?_
  have hn : hget h w.heap.size = none := by
    cases e : hget h w.heap.size with
    | none => rfl
    | some x => exact absurd (s.lt (by rw [e]; simp)) (Nat.lt_irrefl _)
  exact Sub.cons hn (Sub.refl h) i x hx
end Go.Tk
