/- Parts of the proof, put together: U19, U20. -/
import Derived.OpenShut
import Derived.Test.YtdlgaidjlepepaaDoorK112
import Derived.Test.YtdlgaidjlepepaaDoorK16
/- FnExactTollWrite, walked whole. -/
section
set_option linter.unusedVariables false
set_option linter.unusedSimpArgs false
set_option maxRecDepth 20000
attribute [local irreducible] Go.Tk.vc Go.Tk.vops Go.Tk.vdr Go.Tk.vop Go.Tk.vfl Go.Tk.HCalls
namespace Go.Proofs.YtdlgaidjlepepaaDoor
open Go Go.Tk

theorem exactWrite_c {h : H} {v : Value} {l : List DTollEvent} (gl : Gl h) (r : rIn h cTollEvent 11 v l) (hl : l.length ≤ 9223372036854775807) (hR : ∀ e ∈ l, evR e) (ht : ∀ e ∈ l, e.call.text.length ≤ 9223372036854775807) {R : Ending → H → Prop}
    (k : R (.returned (.bool true)) h) : HCalls Tryd.prog 3 #[v] h R := by
  refine HCalls_ir (args := [v]) Tryd.func3 ir3 ?_
  simp only [walk, lists, acts, mem, plain, seqs, maps, cells, resL, resV, intBin, ↓reduceIte, Nat.reduceAdd, Nat.reduceSub, Nat.reduceMul, Nat.reduceLeDiff, Nat.reduceEqDiff, Int.reduceToNat, Int.reduceEq, Int.reduceLT, Int.reduceLE, Int.reduceNeg, Int.reduceAdd, Int.reduceSub, Int.reduceMul, Nat.reducePow, Int.reduceNegSucc]
  refine szEvents_c r hl ht fun n hn => ?_
  simp only [walk, lists, acts, mem, plain, seqs, maps, cells, resL, resV, intBin, ↓reduceIte, Nat.reduceAdd, Nat.reduceSub, Nat.reduceMul, Nat.reduceLeDiff, Nat.reduceEqDiff, Int.reduceToNat, Int.reduceEq, Int.reduceLT, Int.reduceLE, Int.reduceNeg, Int.reduceAdd, Int.reduceSub, Int.reduceMul, Nat.reducePow, Int.reduceNegSucc]
  refine ite_lt (fun c => .of k) fun c => ?_
  obtain ⟨hl2, ht2⟩ := hn c
  refine toEvents_c r hl2 fun v1 g1 o1 d1 => ?_
  have s1 := Sub.right d1
  simp only [walk, lists, acts, mem, plain, seqs, maps, cells, resL, resV, intBin, ↓reduceIte, Nat.reduceAdd, Nat.reduceSub, Nat.reduceMul, Nat.reduceLeDiff, Nat.reduceEqDiff, Int.reduceToNat, Int.reduceEq, Int.reduceLT, Int.reduceLE, Int.reduceNeg, Int.reduceAdd, Int.reduceSub, Int.reduceMul, Nat.reducePow, Int.reduceNegSucc]
  obtain ⟨s, hs1, hs2⟩ : ∃ s : List UInt8, (okW l → s = lines l) ∧ (¬ okW l → s = []) := by
    by_cases x : okW l
    · exact ⟨lines l, fun _ => rfl, fun y => absurd x y⟩
    · exact ⟨[], fun y => absurd y x, fun _ => rfl⟩
  have spec : ∀ {R : Ending → H → Prop} {M : H} {v2 : Value}, rLs M cTollEvent 11 v2 l → R (.returned (.string ⟨s.toArray⟩)) M → HCalls Tryd.prog 6 #[v2] M R := fun {R M v2} r2 k2 => by
    refine specWrite_c r2 hl2 hR ht2 (fun x => ?_) fun x => ?_
    · rw [hs1 x] at k2; exact k2
    · rw [hs2 x] at k2; exact k2
  have impl : ∀ {R : Ending → H → Prop} {M : H} {v2 : Value}, Tk.Sub h M → rLs M cTollEvent 11 v2 l → R (.returned (.string ⟨s.toArray⟩)) M → HCalls Tryd.prog 8 #[v2] M R := fun {R M v2} sM r2 k2 => by
    refine implWrite_c (gl.sub sM) r2 hl2 hR ht2 (fun x => ?_) fun x => ?_
    · rw [hs1 x] at k2; exact k2
    · rw [hs2 x] at k2; exact k2
  refine (spec (M := g1 ++ h) (o1.rd.sub (Sub.left g1 h)) ?_)
  simp only [walk, lists, acts, mem, plain, seqs, maps, cells, resL, resV, intBin, ↓reduceIte, Nat.reduceAdd, Nat.reduceSub, Nat.reduceMul, Nat.reduceLeDiff, Nat.reduceEqDiff, Int.reduceToNat, Int.reduceEq, Int.reduceLT, Int.reduceLE, Int.reduceNeg, Int.reduceAdd, Int.reduceSub, Int.reduceMul, Nat.reducePow, Int.reduceNegSucc]
  refine (toEvents_c r hl2 fun v2 g2 o2 d2 => ?_).weaken s1
  have s2 := Sub.right d2
  simp only [walk, lists, acts, mem, plain, seqs, maps, cells, resL, resV, intBin, ↓reduceIte, Nat.reduceAdd, Nat.reduceSub, Nat.reduceMul, Nat.reduceLeDiff, Nat.reduceEqDiff, Int.reduceToNat, Int.reduceEq, Int.reduceLT, Int.reduceLE, Int.reduceNeg, Int.reduceAdd, Int.reduceSub, Int.reduceMul, Nat.reducePow, Int.reduceNegSucc]
  refine impl s2 (o2.rd.sub (Sub.left g2 h)) ?_
  simp only [walk, lists, acts, mem, plain, seqs, maps, cells, resL, resV, intBin, ↓reduceIte, Nat.reduceAdd, Nat.reduceSub, Nat.reduceMul, Nat.reduceLeDiff, Nat.reduceEqDiff, Int.reduceToNat, Int.reduceEq, Int.reduceLT, Int.reduceLE, Int.reduceNeg, Int.reduceAdd, Int.reduceSub, Int.reduceMul, Nat.reducePow, Int.reduceNegSucc, strBin]
  refine (toEvents_c (r.sub s2) hl2 fun v3 g3 o3 d3 => ?_)
  have s3 := Sub.right d3
  simp only [walk, lists, acts, mem, plain, seqs, maps, cells, resL, resV, intBin, ↓reduceIte, Nat.reduceAdd, Nat.reduceSub, Nat.reduceMul, Nat.reduceLeDiff, Nat.reduceEqDiff, Int.reduceToNat, Int.reduceEq, Int.reduceLT, Int.reduceLE, Int.reduceNeg, Int.reduceAdd, Int.reduceSub, Int.reduceMul, Nat.reducePow, Int.reduceNegSucc]
  refine eqEvents_c ((o2.rd.sub (Sub.left g2 h)).sub s3) (o3.rd.sub (Sub.left g3 _)) (by omega) ?_
  simp only [walk, lists, acts, mem, plain, seqs, maps, cells, resL, resV, intBin, ↓reduceIte, Nat.reduceAdd, Nat.reduceSub, Nat.reduceMul, Nat.reduceLeDiff, Nat.reduceEqDiff, Int.reduceToNat, Int.reduceEq, Int.reduceLT, Int.reduceLE, Int.reduceNeg, Int.reduceAdd, Int.reduceSub, Int.reduceMul, Nat.reducePow, Int.reduceNegSucc, decide_true]
  exact ⟨h, s2.trans s3, k⟩
end Go.Proofs.YtdlgaidjlepepaaDoor
end

/- What comes in for a script: what happens, as read; and the library's variables. -/
section
set_option linter.unusedVariables false
set_option linter.unusedSimpArgs false
namespace Go.Proofs.YtdlgaidjlepepaaDoor
open Go Go.Tk

/-- Two of the library's tables, as the row lists them. -/
def DB32 : List Int := [0, 1, 28, 2, 29, 14, 24, 3, 30, 22, 20, 15, 25, 17, 4, 8, 31, 27, 13, 23, 21, 19, 16, 7, 26, 12, 18, 6, 11, 5, 10, 9]
def DB64 : List Int := [0, 1, 56, 2, 57, 49, 28, 3, 61, 58, 42, 50, 38, 29, 17, 4, 62, 47, 59, 36, 45, 43, 51, 22, 53, 39, 33, 30, 24, 18, 12, 5, 63, 55, 48, 27, 60, 41, 37, 16, 46, 35, 44, 21, 52, 32, 23, 11, 54, 26, 40, 15, 34, 20, 31, 10, 25, 14, 19, 9, 13, 8, 7, 6]
theorem cells_int : Tryd.prog.cellsOf 3 = 1 := by kernel_rfl
theorem cells_string : Tryd.prog.cellsOf 9 = 1 := by kernel_rfl
theorem cells_lCall : Tryd.prog.cellsOf 35 = 6 := by kernel_rfl
theorem cells_lEvent : Tryd.prog.cellsOf 37 = 11 := by kernel_rfl

section
variable {X : Type} {enc : TypeId × Value → X} {w : World} {base : Nat} {sp : Nat → Bool} {held : Bool}
theorem in_int {m : Nat} {c : Value} {y : DataW X × List MemPlace} (h : DataW.trod enc Tryd.prog w base sp held m 3 [c] = some y) : ∃ n, c = .int .i64 n ∧ i64P n := by
  obtain ⟨n, e, _, hw⟩ := DataW.trod_int Tryd.underlying3 h
  exact ⟨n, by simpa using e, bounds_i64 hw⟩
theorem in_text {m : Nat} {c : Value} {y : DataW X × List MemPlace} (h : DataW.trod enc Tryd.prog w base sp held m 9 [c] = some y) : ∃ t : List UInt8, c = .string ⟨t.toArray⟩ ∧ t.length ≤ maxLen := by
  obtain ⟨s, e, _, hw⟩ := DataW.trod_string Tryd.underlying9 h
  simp only [List.cons.injEq, and_true] at e
  refine ⟨s.data.toList, by rw [e], ?_⟩
  simpa using hw
theorem in_call {m : Nat} {cs : List Value} {y : DataW X × List MemPlace} (hl : cs.length = 6) (h : DataW.trod enc Tryd.prog w base sp held m 35 cs = some y) : ∃ c : DCall, cs = cCall c ∧ i64P c.session ∧ i64P c.number ∧ i64P c.kind ∧ i64P c.slot ∧ i64P c.to ∧ c.text.length ≤ maxLen := by
  match cs, hl with
  | [c0, c1, c2, c3, c4, c5], _ =>
    obtain ⟨_, _, h0⟩ := field_at Tryd.underlying35 h 0 0 1 (ty := 3) rfl cells_int rfl
    obtain ⟨_, _, h1⟩ := field_at Tryd.underlying35 h 1 1 1 (ty := 3) rfl cells_int rfl
    obtain ⟨_, _, h2⟩ := field_at Tryd.underlying35 h 2 2 1 (ty := 3) rfl cells_int rfl
    obtain ⟨_, _, h3⟩ := field_at Tryd.underlying35 h 3 3 1 (ty := 9) rfl cells_string rfl
    obtain ⟨_, _, h4⟩ := field_at Tryd.underlying35 h 4 4 1 (ty := 3) rfl cells_int rfl
    obtain ⟨_, _, h5⟩ := field_at Tryd.underlying35 h 5 5 1 (ty := 3) rfl cells_int rfl
    obtain ⟨n0, rfl, r0⟩ := in_int h0
    obtain ⟨n1, rfl, r1⟩ := in_int h1
    obtain ⟨n2, rfl, r2⟩ := in_int h2
    obtain ⟨t3, rfl, r3⟩ := in_text h3
    obtain ⟨n4, rfl, r4⟩ := in_int h4
    obtain ⟨n5, rfl, r5⟩ := in_int h5
    exact ⟨⟨n0, n1, n2, t3, n4, n5⟩, rfl, r0, r1, r2, r4, r5, r3⟩
theorem in_event {m : Nat} {cs : List Value} {y : DataW X × List MemPlace} (hl : cs.length = 11) (h : DataW.trod enc Tryd.prog w base sp held m 37 cs = some y) : ∃ e : DTollEvent, cs = cTollEvent e ∧ (evR e ∧ e.call.text.length ≤ 9223372036854775807) := by
  match cs, hl with
  | [c0, c1, c2, c3, c4, c5, c6, c7, c8, c9, c10], _ =>
    obtain ⟨_, _, h0⟩ := field_at Tryd.underlying37 h 0 0 1 (ty := 3) rfl cells_int rfl
    obtain ⟨_, _, h1⟩ := field_at Tryd.underlying37 h 1 1 1 (ty := 3) rfl cells_int rfl
    obtain ⟨_, _, h2⟩ := field_at Tryd.underlying37 h 2 2 1 (ty := 3) rfl cells_int rfl
    obtain ⟨_, _, h3⟩ := field_at Tryd.underlying37 h 3 3 1 (ty := 3) rfl cells_int rfl
    obtain ⟨_, _, h4⟩ := field_at Tryd.underlying37 h 4 4 1 (ty := 3) rfl cells_int rfl
    obtain ⟨_, _, h5⟩ := field_at Tryd.underlying37 h 5 5 6 (ty := 35) rfl cells_lCall rfl
    obtain ⟨n0, rfl, r0⟩ := in_int h0
    obtain ⟨n1, rfl, r1⟩ := in_int h1
    obtain ⟨n2, rfl, r2⟩ := in_int h2
    obtain ⟨n3, rfl, r3⟩ := in_int h3
    obtain ⟨n4, rfl, r4⟩ := in_int h4
    obtain ⟨c, e, _, _, _, q1, q2, q3⟩ := in_call (by rfl) h5
    refine ⟨⟨n0, n1, n2, n3, n4, c⟩, ?_, ⟨r1, r2, r3, r4, q1, q2⟩, Nat.le_trans q3 (by decide)⟩
    simp only [cCall, List.cons.injEq, and_true] at e
    obtain ⟨rfl, rfl, rfl, rfl, rfl, rfl⟩ := e
    rfl
end

theorem gl_of {w : World} {l : List (String × DataW Unit)} {e1 e2 : DataW Unit} {s1 s2 : String} (h : laidMet Tryd.prog l w) (h1 : ("internal/strconv.uint64pow10", Lib.tabData .u64 Lib.pow10Tab) ∈ l) (h2 : ("strconv.ErrSyntax", .iface s1 e1) ∈ l) (h3 : ("strconv.ErrRange", .iface s2 e2) ∈ l) : Gl (full w) where
  tab := laid_tab h (g := 3) h1 (by kernel_rfl) (t := 127) (by kernel_rfl) Tryd.underlying127 Tryd.underlying112 (by kernel_rfl) (by kernel_rfl) (by decide)
  syn := laid_err h (g := 1) h2 (by kernel_rfl) (t := 53) (by kernel_rfl) Tryd.underlying53
  rng := laid_err h (g := 2) h3 (by kernel_rfl) (t := 53) (by kernel_rfl) Tryd.underlying53
end Go.Proofs.YtdlgaidjlepepaaDoor
end
