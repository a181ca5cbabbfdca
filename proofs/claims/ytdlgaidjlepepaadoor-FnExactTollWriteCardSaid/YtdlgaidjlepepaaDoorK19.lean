/- Parts of the proof, put together: U2, U3, U4, U5, U6. -/
import Derived.Shelf.Strings.Builder1
import Derived.Laws.Externs
import Derived.Test.YtdlgaidjlepepaaDoorK17
import Derived.Test.YtdlgaidjlepepaaDoorK18
import Derived.Test.YtdlgaidjlepepaaDoorK15
/- What the library does for texts: cuts at one byte. -/
section
set_option linter.unusedVariables false
set_option linter.unusedSimpArgs false
set_option maxRecDepth 20000
attribute [local irreducible] Go.Tk.vc Go.Tk.vops Go.Tk.vdr Go.Tk.vop Go.Tk.vfl Go.Tk.HCalls
namespace Go.Tk
open Go
theorem index_cut (c : UInt8) : ∀ (s : List UInt8), ∃ a b f, CutO c s a b f ∧ Lib.indexByte s c = (if f = true then (a.length : Int) else -1) := by
  intro s
  induction s with
  | nil => exact ⟨[], [], false, ⟨by simp, .inr ⟨rfl, rfl, rfl⟩⟩, rfl⟩
  | cons x s ih =>
    by_cases hx : x = c
    · refine ⟨[], s, true, ⟨by simp, .inl ⟨rfl, by rw [hx]; rfl⟩⟩, ?_⟩
      simp [Lib.indexByte, hx]
    · obtain ⟨a, b, f, ⟨h1, h2⟩, h3⟩ := ih
      refine ⟨x :: a, b, f, ⟨fun m => ?_, ?_⟩, ?_⟩
      · rcases List.mem_cons.1 m with e | m
        · exact hx e.symm
        · exact h1 m
      · rcases h2 with ⟨rfl, h2⟩ | ⟨rfl, h2, h4⟩
        · exact .inl ⟨rfl, by rw [h2]; rfl⟩
        · exact .inr ⟨rfl, by rw [h2], h4⟩
      · unfold Lib.indexByte
        have hb : (x == c) = false := by simpa using hx
        rw [hb, h3]
        cases f
        · rfl
        · have : ((a.length : Int) == -1) = false := beq_eq_false_iff_ne.2 (by omega)
          simp [this]
end Go.Tk
namespace Go.Proofs.YtdlgaidjlepepaaDoor
open Go Go.Tk

theorem indexByte_c {h : H} {s : List UInt8} {c : UInt8} {R : Ending → H → Prop} (k : R (.returned (.int .i64 (Lib.indexByte s c))) h) :
    HCalls Tryd.prog 68 #[.string ⟨s.toArray⟩, .int .u8 c.toNat] h R := by
  refine .of_calls fun w st => ?_
  refine (Tryd.stringslite_IndexByte ⟨s.toArray⟩ c.toNat w).mono ?_
  rintro e w' ⟨rfl, rfl⟩
  have e1 : ((c.toNat : Int)).toNat.toUInt8 = c := by simp
  rw [e1]
  exact ⟨h, k, .refl st⟩
theorem index_c {h : H} {s : List UInt8} {c : UInt8} {R : Ending → H → Prop} (k : R (.returned (.int .i64 (Lib.indexByte s c))) h) :
    HCalls Tryd.prog 60 #[.string ⟨s.toArray⟩, .string ⟨#[c]⟩] h R := by
  have e1 : (⟨#[c]⟩ : ByteArray) = ⟨[c].toArray⟩ := rfl
  rw [e1]
  refine HCalls_ir (args := [.string ⟨s.toArray⟩, .string ⟨[c].toArray⟩]) Tryd.func60 ir60 ?_
  have o1 : ((1 : Nat) : Int) = 1 := rfl
  simp only [walk, lists, acts, mem, plain, seqs, maps, cells, resL, resV, intBin, ↓reduceIte, Nat.reduceAdd, Nat.reduceSub, Nat.reduceMul, Nat.reduceLeDiff, Nat.reduceEqDiff, Int.reduceToNat, Int.reduceEq, Int.reduceLT, Int.reduceLE, Int.reduceNeg, Int.reduceAdd, Int.reduceSub, Int.reduceMul, Nat.reducePow, Int.reduceNegSucc, o1, strBin, List.getElem?_cons_zero]
  split
  · rename_i e
    have e2 : s = [c] := by
      have := congrArg (fun a : ByteArray => a.data.toList) e
      simpa using this.symm
    subst e2
    have e3 : Lib.indexByte [c] c = 0 := by simp [Lib.indexByte]
    rw [e3] at k
    exact .of k
  · refine indexByte_c ?_
    simp only [walk, lists, acts, mem, plain, seqs, maps, cells, resL, resV, intBin, ↓reduceIte, Nat.reduceAdd, Nat.reduceSub, Nat.reduceMul, Nat.reduceLeDiff, Nat.reduceEqDiff, Int.reduceToNat, Int.reduceEq, Int.reduceLT, Int.reduceLE, Int.reduceNeg, Int.reduceAdd, Int.reduceSub, Int.reduceMul, Nat.reducePow, Int.reduceNegSucc]
    exact .of k
theorem cutL_c {h : H} {s : List UInt8} {c : UInt8} {R : Ending → H → Prop} (hs : s.length ≤ 4194304) (k : ∀ a b f, CutO c s a b f → R (.returned (.tuple #[.string ⟨a.toArray⟩, .string ⟨b.toArray⟩, .bool f])) h) :
    HCalls Tryd.prog 49 #[.string ⟨s.toArray⟩, .string ⟨#[c]⟩] h R := by
  have e1 : (⟨#[c]⟩ : ByteArray) = ⟨[c].toArray⟩ := rfl
  rw [e1]
  refine HCalls_ir (args := [.string ⟨s.toArray⟩, .string ⟨[c].toArray⟩]) Tryd.func49 ir49 ?_
  simp only [walk, lists, acts, mem, plain, seqs, maps, cells, resL, resV, intBin, ↓reduceIte, Nat.reduceAdd, Nat.reduceSub, Nat.reduceMul, Nat.reduceLeDiff, Nat.reduceEqDiff, Int.reduceToNat, Int.reduceEq, Int.reduceLT, Int.reduceLE, Int.reduceNeg, Int.reduceAdd, Int.reduceSub, Int.reduceMul, Nat.reducePow, Int.reduceNegSucc, str]
  refine index_c ?_
  obtain ⟨a, b, f, hc, hi⟩ := index_cut c s
  rw [hi]
  have k := k a b f hc
  obtain ⟨h1, ⟨rfl, h2⟩ | ⟨rfl, h2, h3⟩⟩ := hc
  · have o1 : ((1 : Nat) : Int) = 1 := rfl
    simp only [if_true, walk, lists, acts, mem, plain, seqs, maps, cells, resL, resV, intBin, ↓reduceIte, Nat.reduceAdd, Nat.reduceSub, Nat.reduceMul, Nat.reduceLeDiff, Nat.reduceEqDiff, Int.reduceToNat, Int.reduceEq, Int.reduceLT, Int.reduceLE, Int.reduceNeg, Int.reduceAdd, Int.reduceSub, Int.reduceMul, Nat.reducePow, Int.reduceNegSucc]
    refine ite_pos (fun _ => ?_) fun x => absurd x (by omega)
    refine vc_draw _ (Sub.refl _) ?_
    have e3 : (a.length : Int) + 1 = ((a.length + 1 : Nat) : Int) := by omega
    have hl : s.length = a.length + (b.length + 1) := by rw [h2]; simp
    simp (disch := omega) only [walk, lists, acts, mem, plain, seqs, maps, cells, resL, resV, intBin, ↓reduceIte, Nat.reduceAdd, Nat.reduceSub, Nat.reduceMul, Nat.reduceLeDiff, Nat.reduceEqDiff, Int.reduceToNat, Int.reduceEq, Int.reduceLT, Int.reduceLE, Int.reduceNeg, Int.reduceAdd, Int.reduceSub, Int.reduceMul, Nat.reducePow, Int.reduceNegSucc, o1, e3, wrapI]
    refine ⟨⟨by omega, by omega⟩, ⟨by omega, by omega⟩, .of ?_⟩
    have t1 : List.take a.length s = a := by rw [h2]; simp
    have t2 : List.drop (a.length + 1) s = b := by rw [h2, List.drop_append]; simp
    rw [t1, t2]; exact k
  · subst h2 h3
    simp only [Bool.false_eq_true, if_false, walk, lists, acts, mem, plain, seqs, maps, cells, resL, resV, intBin, ↓reduceIte, Nat.reduceAdd, Nat.reduceSub, Nat.reduceMul, Nat.reduceLeDiff, Nat.reduceEqDiff, Int.reduceToNat, Int.reduceEq, Int.reduceLT, Int.reduceLE, Int.reduceNeg, Int.reduceAdd, Int.reduceSub, Int.reduceMul, Nat.reducePow, Int.reduceNegSucc, str]
    exact .of k
theorem cut_c {h : H} {s : List UInt8} {R : Ending → H → Prop} (hs : s.length ≤ 4194304) (k : ∀ a b f, CutO 32 s a b f → R (.returned (.tuple #[.string ⟨a.toArray⟩, .string ⟨b.toArray⟩, .bool f])) h) :
    HCalls Tryd.prog 41 #[.string ⟨s.toArray⟩, .string ⟨#[32]⟩] h R := by
  have e1 : (⟨#[32]⟩ : ByteArray) = ⟨[32].toArray⟩ := rfl
  rw [e1]
  refine HCalls_ir (args := [.string ⟨s.toArray⟩, .string ⟨[32].toArray⟩]) Tryd.func41 ir41 ?_
  simp only [walk, lists, acts, mem, plain, seqs, maps, cells, resL, resV, intBin, ↓reduceIte, Nat.reduceAdd, Nat.reduceSub, Nat.reduceMul, Nat.reduceLeDiff, Nat.reduceEqDiff, Int.reduceToNat, Int.reduceEq, Int.reduceLT, Int.reduceLE, Int.reduceNeg, Int.reduceAdd, Int.reduceSub, Int.reduceMul, Nat.reducePow, Int.reduceNegSucc, str]
  refine cutL_c hs fun a b f hc => ?_
  simp only [walk, lists, acts, mem, plain, seqs, maps, cells, resL, resV, intBin, ↓reduceIte, Nat.reduceAdd, Nat.reduceSub, Nat.reduceMul, Nat.reduceLeDiff, Nat.reduceEqDiff, Int.reduceToNat, Int.reduceEq, Int.reduceLT, Int.reduceLE, Int.reduceNeg, Int.reduceAdd, Int.reduceSub, Int.reduceMul, Nat.reducePow, Int.reduceNegSucc]
  exact .of (k a b f hc)
end Go.Proofs.YtdlgaidjlepepaaDoor
end

/- What a builder of texts says when it is asked for its text, and what it looks at ahead of a write. -/
section
set_option linter.unusedVariables false
set_option linter.unusedSimpArgs false
namespace Go.Tk
open Go Go.Shelf Go.RowKit Go.Proofs
variable {P : Program} {ρ : Ren}

set_option maxHeartbeats 2000000 in
set_option maxRecDepth 100000 in
theorem builderText (L : Lays.n169 P ρ) (X : Builder.Extra P ρ) (b g cap : Nat) (p : Value) (cur : Array Value) (l : List UInt8) (w : World) (h0 : l ≠ [])
    (hbk : w.heap[b]? = some (.cells #[p, .slice (some ⟨g, 0, none⟩) l.length cap] (ρ.t 72) (0, 0))) (hg : w.heap[g]? = some (.cells cur (ρ.t 5) (0, 0))) (hcap : l.length ≤ cap) (hcs : cur.size = cap) (hmax : l.length ≤ 9223372036854775807)
    (hcur : ∀ (j : Nat) (x : UInt8), l[j]? = some x → cur[j]? = some (Value.int .u8 x.toNat)) :
    Calls P (ρ.f 169) #[.pointer (some ⟨b, 0, none⟩)] w fun e w' => e = .returned (.string ⟨l.toArray⟩) ∧ w' = w.drew.freeze ⟨g, 0, none⟩ l.length := by
  have hl0 : l.length ≠ 0 := by simpa using h0
  have c1 : w.drew.cell? ⟨b, 1, none⟩ = some (.slice (some ⟨g, 0, none⟩) l.length cap) := by
    have : w.drew.heap[b]? = some (.cells #[p, .slice (some ⟨g, 0, none⟩) l.length cap] (ρ.t 72) (0, 0)) := hbk
    rw [Lib.cell_of_heap this]; rfl
  have hSD : (Builtin.unsafeSliceData_ #[(ρ.t 37)] (ρ.t 127) #[.slice (some ⟨g, 0, none⟩) l.length cap]).run P w.drew = .ok (.pointer (some ⟨g, 0, none⟩)) w.drew :=
    Lib.run_unsafeSliceData_row _ _ _ _ _ _ (by omega)
  have hUS : (Builtin.unsafeString_ #[(ρ.t 127), (ρ.t 3)] (ρ.t 9) #[.pointer (some ⟨g, 0, none⟩), .int .i64 l.length]).run P w.drew = .ok (.string ⟨l.toArray⟩) (w.drew.freeze ⟨g, 0, none⟩ l.length) := by
    refine Lib.run_unsafeString_row w.drew (ρ.t 127) (ρ.t 3) (ρ.t 9) (ρ.t 5) L.t127 X.cellsByte g cur.size (by have hg' : w.drew.heap[g]? = some (.cells cur (ρ.t 5) (0, 0)) := hg; simp [World.shape?, hg']) l h0 (by omega) hmax ?_
    intro j x hx
    have hg' : w.drew.heap[g]? = some (.cells cur (ρ.t 5) (0, 0)) := hg
    have : ((⟨g, 0, none⟩ : Addr).add j) = ⟨g, j, none⟩ := by
      unfold Addr.add
      split
      · rename_i e; rw [e]
      · simp
    rw [this, Lib.cell_of_heap hg']
    exact hcur j x hx
  have mixed := L.mixed
  have t72 := L.t72; have a72 := L.a72; have z72 := L.z72; have v72 := L.v72; have u72 := run_underlying L.t72
  have t70 := L.t70; have a70 := L.a70; have z70 := L.z70; have v70 := L.v70; have u70 := run_underlying L.t70
  have t37 := L.t37; have a37 := L.a37; have z37 := L.z37; have v37 := L.v37; have u37 := run_underlying L.t37
  have t127 := L.t127; have a127 := L.a127; have z127 := L.z127; have v127 := L.v127; have u127 := run_underlying L.t127
  have t3 := L.t3; have a3 := L.a3; have z3 := L.z3; have v3 := L.v3; have u3 := run_underlying L.t3
  have t9 := L.t9; have a9 := L.a9; have z9 := L.z9; have v9 := L.v9; have u9 := run_underlying L.t9
  have t5 := X.t5; have a5 := X.a5; have z5 := X.z5; have v5 := X.v5; have u5 := run_underlying X.t5
  go_enter L.f169, Body.n169_ntmps ρ
  go_wp2
  go_region_o
  all_goals (go_wp2; go_ret; exact ⟨rfl, rfl⟩)
end Go.Tk
namespace Go.Proofs.YtdlgaidjlepepaaDoor
open Go Go.Tk Go.RowKit

theorem sizeB : (Tryd.prog.info? 48).map (·.size) = some 2 := by kernel_rfl
theorem liesB : liesAt Tryd.prog Tryd.prog.depth 48 (2 / Tryd.prog.cellsOf 48) 0 48 1 = true := by kernel_rfl
set_option maxHeartbeats 1000000 in
set_option maxRecDepth 100000 in
theorem ccheckUsed (b : Nat) (w : World) (h0 : w.cell? ⟨b, 0, none⟩ = some (.pointer (some ⟨b, 0, none⟩))) :
    Calls Tryd.prog 37 #[.pointer (some ⟨b, 0, none⟩)] w fun e w' => e = .returned (.tuple #[]) ∧ w' = w := by
  obtain ⟨j, hj, _⟩ := Option.map_eq_some_iff.1 sizeB
  go_enter Tryd.func37, Tryd.ntmps37
  go_wp2
  rw [Lib.run_neq_ptr_same w _ Tryd.underlying45 hj]
  go_wp2
  go_end0
  exact ⟨rfl, rfl⟩
set_option maxHeartbeats 1000000 in
set_option maxRecDepth 100000 in
theorem ccheckFresh (b : Nat) (w : World) (h0 : w.cell? ⟨b, 0, none⟩ = some (.pointer none)) (hsh : w.shape? b = some (48, 2)) (hfz : w.frozen? ⟨b, 0, none⟩ = false) :
    Calls Tryd.prog 37 #[.pointer (some ⟨b, 0, none⟩)] w fun e w' => e = .returned (.tuple #[]) ∧ w' = w.setCell ⟨b, 0, none⟩ (.pointer (some ⟨b, 0, none⟩)) := by
  obtain ⟨j, hj, hjs⟩ := Option.map_eq_some_iff.1 sizeB
  go_enter Tryd.func37, Tryd.ntmps37
  go_wp2
  rw [Lib.run_to_unsafe w ⟨b, 0, none⟩ Tryd.underlying45 Tryd.underlying92 hj (by rw [hjs]; decide) hsh (Nat.zero_lt_succ 1)]
  simp only [Result.andThen]
  rw [Oper.upon_value]
  go_wp2
  rw [run_callFunc_extern Tryd.func47 (by kernel_rfl) (by kernel_rfl) (by kernel_rfl) (e := Extern.AbiNoEscape.same) (by kernel_rfl)]
  rw [Lib.run_noEscape]
  simp only [Result.andThen]
  rw [Oper.upon_value]
  go_wp2
  rw [Lib.run_from_unsafe w ⟨b, 0, none⟩ Tryd.underlying92 Tryd.underlying45 hj hsh liesB]
  simp only [Result.andThen]
  rw [Oper.upon_value]
  go_wp2
  go_end0
  exact ⟨rfl, rfl⟩
end Go.Proofs.YtdlgaidjlepepaaDoor
end

/- Builders of texts. -/
section
set_option linter.unusedVariables false
set_option linter.unusedSimpArgs false
set_option maxRecDepth 20000
attribute [local irreducible] Go.Tk.vc Go.Tk.vops Go.Tk.vdr Go.Tk.vop Go.Tk.vfl Go.Tk.HCalls
namespace Go.Tk
open Go
theorem rLs.vc {α : Type} {h : H} {enc : α → List Value} {sz : Nat} {v : Value} {l : List α} (r : rLs h enc sz v l) : vcells v = [v] := by
  obtain ⟨_, ⟨rfl, _⟩ | ⟨b, k, cap, rfl, _, _⟩⟩ := r <;> rfl
end Go.Tk
namespace Go.Proofs.YtdlgaidjlepepaaDoor
open Go Go.Tk

theorem tBytes : Tryd.prog.underlying 46 = some (.slice 5) := by kernel_rfl
theorem tString : Tryd.prog.underlying 9 = some .string := by kernel_rfl
theorem iByte : InfoIs Tryd.prog 5 1 1 := infoB_is (by kernel_rfl)

theorem ccheck_c {h : H} {b : Nat} {p v : Value} (hp : p = .pointer none ∨ p = .pointer (some ⟨b, 0, none⟩)) {R : Ending → H → Prop} (k : R (.returned (.tuple #[])) ((b, blk [.pointer (some ⟨b, 0, none⟩), v] 48) :: h)) :
    HCalls Tryd.prog 37 #[.pointer (some ⟨b, 0, none⟩)] ((b, blk [p, v] 48) :: h) R := by
  refine .of_calls fun w s => ?_
  have hb : w.heap[b]? = some (blk [p, v] 48) := s b _ (by rw [hget_cons, if_pos rfl])
  have hc : w.cell? ⟨b, 0, none⟩ = some p := by rw [Lib.cell_of_heap hb]; rfl
  rcases hp with rfl | rfl
  · refine (ccheckFresh b w hc (by unfold World.shape?; rw [hb]; rfl) (by unfold World.frozen?; rw [hb]; rfl)).mono ?_
    rintro e w' ⟨rfl, rfl⟩
    refine ⟨_, k, ?_⟩
    have hnew : (w.setCell ⟨b, 0, none⟩ (.pointer (some ⟨b, 0, none⟩))).heap[b]? = some (blk [.pointer (some ⟨b, 0, none⟩), v] 48) := by
      simp only [World.setCell, Array.getElem?_modify, if_true, hb, Option.map_some]
      rfl
    have hold : ∀ j, j ≠ b → (w.setCell ⟨b, 0, none⟩ (.pointer (some ⟨b, 0, none⟩))).heap[j]? = w.heap[j]? := fun j hj => by
      simp only [World.setCell, Array.getElem?_modify]
      rw [if_neg (fun e => hj e.symm)]
    have := Pst.upd (h := (b, blk [.pointer none, v] 48) :: h) s (x := blk [.pointer none, v] 48) (by rw [hget_cons, if_pos rfl]) hnew hold rfl rfl rfl (by simp [World.setCell])
    simpa [hupd] using this
  · refine (ccheckUsed b w hc).mono ?_
    rintro e w' ⟨rfl, rfl⟩
    exact ⟨_, k, .refl s⟩

/-- A builder that is one's own. -/
def oB (b : Nat) (l : List UInt8) (G : H) : Prop := ∃ p v g, (p = .pointer none ∨ p = .pointer (some ⟨b, 0, none⟩)) ∧ oLs 5 eB 1 v l g ∧ hget g b = none ∧ G = (b, blk [p, v] 48) :: g
theorem oB_new {b : Nat} : oB b [] [(b, blk [.pointer none, .slice none 0 0] 48)] := ⟨_, _, [], .inl rfl, ows.nil _ _, rfl, rfl⟩

theorem blen_c {h : H} {b : Nat} {l : List UInt8} {G : H} (o : oB b l G) {R : Ending → H → Prop} (k : R (.returned (.int .i64 l.length)) (G ++ h)) :
    HCalls Tryd.prog 19 #[.pointer (some ⟨b, 0, none⟩)] (G ++ h) R := by
  refine HCalls_ir (args := [.pointer (some ⟨b, 0, none⟩)]) Tryd.func19 ir19 ?_
  obtain ⟨p, v, g, hp, ol, hg, rfl⟩ := o
  simp only [walk, lists, acts, mem, plain, seqs, maps, cells, resL, resV, intBin, ↓reduceIte, Nat.reduceAdd, Nat.reduceSub, Nat.reduceMul, Nat.reduceLeDiff, Nat.reduceEqDiff, Int.reduceToNat, Int.reduceEq, Int.reduceLT, Int.reduceLE, Int.reduceNeg, Int.reduceAdd, Int.reduceSub, Int.reduceMul, Nat.reducePow, Int.reduceNegSucc, ol.rd.len]
  exact .of k
theorem bws_c {h : H} {b : Nat} {l t : List UInt8} {G : H} (o : oB b l G) (d : Dj G h) (hl : l.length + t.length ≤ 140737488355328) {R : Ending → H → Prop} (k : ∀ G', oB b (l ++ t) G' → Dj G' h → R (.returned (.tuple #[.int .i64 t.length, .nilIface])) (G' ++ h)) :
    HCalls Tryd.prog 20 #[.pointer (some ⟨b, 0, none⟩), .string ⟨t.toArray⟩] (G ++ h) R := by
  refine HCalls_ir (args := [.pointer (some ⟨b, 0, none⟩), .string ⟨t.toArray⟩]) Tryd.func20 ir20 ?_
  obtain ⟨p, v, g, hp, ol, hg, rfl⟩ := o
  have d2 := d
  simp only [subs] at d2
  simp only [walk, lists, acts, mem, plain, seqs, maps, cells, resL, resV, intBin, ↓reduceIte, Nat.reduceAdd, Nat.reduceSub, Nat.reduceMul, Nat.reduceLeDiff, Nat.reduceEqDiff, Int.reduceToNat, Int.reduceEq, Int.reduceLT, Int.reduceLE, Int.reduceNeg, Int.reduceAdd, Int.reduceSub, Int.reduceMul, Nat.reducePow, Int.reduceNegSucc]
  refine ccheck_c hp ?_
  simp only [walk, lists, acts, mem, plain, seqs, maps, cells, resL, resV, intBin, ↓reduceIte, Nat.reduceAdd, Nat.reduceSub, Nat.reduceMul, Nat.reduceLeDiff, Nat.reduceEqDiff, Int.reduceToNat, Int.reduceEq, Int.reduceLT, Int.reduceLE, Int.reduceNeg, Int.reduceAdd, Int.reduceSub, Int.reduceMul, Nat.reducePow, Int.reduceNegSucc]
  refine app_text (g := g) (h := (b, blk [.pointer (some ⟨b, 0, none⟩), v] 48) :: h) tBytes tString iByte (by (repeat' first | exact Sub.refl _ | exact Sub.nil _ | assumption | refine Sub.both ?_ ?_ | refine Sub.cons_of (by simp only [subs, hg, d2]) ?_ | exact Sub.left _ _ | refine Sub.app (by simp only [subs, hg, d2]) ?_ | refine Sub.cons (by simp only [subs, hg, d2]) ?_)) (by simp only [subs, hg, d2]) ol (by omega) hl fun v' g' o' d3 => ?_
  have d3x := d3
  have d3y := d3.symm
  simp only [subs] at d3x d3y
  have on := o'.rd.one
  have vc := o'.rd.vc
  simp only [walk, lists, acts, mem, plain, seqs, maps, cells, resL, resV, intBin, ↓reduceIte, Nat.reduceAdd, Nat.reduceSub, Nat.reduceMul, Nat.reduceLeDiff, Nat.reduceEqDiff, Int.reduceToNat, Int.reduceEq, Int.reduceLT, Int.reduceLE, Int.reduceNeg, Int.reduceAdd, Int.reduceSub, Int.reduceMul, Nat.reducePow, Int.reduceNegSucc, apps, d3x, on, vc]
  exact ⟨((b, blk [.pointer (some ⟨b, 0, none⟩), v'] 48) :: g') ++ h, by (repeat' first | exact Sub.refl _ | exact Sub.nil _ | assumption | refine Sub.both ?_ ?_ | refine Sub.cons_of (by simp only [subs, d2, d3x, d3y]) ?_ | exact Sub.left _ _ | refine Sub.app (by simp only [subs, d2, d3x, d3y]) ?_ | refine Sub.cons (by simp only [subs, d2, d3x, d3y]) ?_), k _ ⟨_, _, g', .inr rfl, o', d3x.1, rfl⟩ (by simp only [subs, d2, d3x])⟩
theorem bwb_c {h : H} {b : Nat} {l : List UInt8} {c : UInt8} {G : H} (o : oB b l G) (d : Dj G h) (hl : l.length + 1 ≤ 140737488355328) {R : Ending → H → Prop} (k : ∀ G', oB b (l ++ [c]) G' → Dj G' h → R (.returned .nilIface) (G' ++ h)) :
    HCalls Tryd.prog 21 #[.pointer (some ⟨b, 0, none⟩), .int .u8 c.toNat] (G ++ h) R := by
  refine HCalls_ir (args := [.pointer (some ⟨b, 0, none⟩), .int .u8 c.toNat]) Tryd.func21 ir21 ?_
  obtain ⟨p, v, g, hp, ol, hg, rfl⟩ := o
  have d2 := d
  simp only [subs] at d2
  simp only [walk, lists, acts, mem, plain, seqs, maps, cells, resL, resV, intBin, ↓reduceIte, Nat.reduceAdd, Nat.reduceSub, Nat.reduceMul, Nat.reduceLeDiff, Nat.reduceEqDiff, Int.reduceToNat, Int.reduceEq, Int.reduceLT, Int.reduceLE, Int.reduceNeg, Int.reduceAdd, Int.reduceSub, Int.reduceMul, Nat.reducePow, Int.reduceNegSucc]
  refine ccheck_c hp ?_
  simp only [walk, lists, acts, mem, plain, seqs, maps, cells, resL, resV, intBin, ↓reduceIte, Nat.reduceAdd, Nat.reduceSub, Nat.reduceMul, Nat.reduceLeDiff, Nat.reduceEqDiff, Int.reduceToNat, Int.reduceEq, Int.reduceLT, Int.reduceLE, Int.reduceNeg, Int.reduceAdd, Int.reduceSub, Int.reduceMul, Nat.reducePow, Int.reduceNegSucc]
  refine newB_intro (o := blk (fl eB [c]) 5) fun j hj => ?_
  have n := hj
  simp only [subs] at n
  simp only [walk, lists, acts, mem, plain, seqs, maps, cells, resL, resV, intBin, ↓reduceIte, Nat.reduceAdd, Nat.reduceSub, Nat.reduceMul, Nat.reduceLeDiff, Nat.reduceEqDiff, Int.reduceToNat, Int.reduceEq, Int.reduceLT, Int.reduceLE, Int.reduceNeg, Int.reduceAdd, Int.reduceSub, Int.reduceMul, Nat.reducePow, Int.reduceNegSucc]
  refine app_leaf (g := g) (h := (b, blk [.pointer (some ⟨b, 0, none⟩), v] 48) :: h) eB_len eB_one tBytes iByte (by (repeat' first | exact Sub.refl _ | exact Sub.nil _ | assumption | refine Sub.both ?_ ?_ | refine Sub.cons_of (by simp only [subs, hg, d2, n]) ?_ | exact Sub.left _ _ | refine Sub.app (by simp only [subs, hg, d2, n]) ?_ | refine Sub.cons (by simp only [subs, hg, d2, n]) ?_)) (by simp only [subs, hg, d2]) ol (rL_lit eB_len [c]) (by simp; omega) (by simp; omega) fun v' g' o' d3 => ?_
  have d3x := d3
  have d3y := d3.symm
  simp only [subs] at d3x d3y
  have on := o'.rd.one
  have vc := o'.rd.vc
  simp only [walk, lists, acts, mem, plain, seqs, maps, cells, resL, resV, intBin, ↓reduceIte, Nat.reduceAdd, Nat.reduceSub, Nat.reduceMul, Nat.reduceLeDiff, Nat.reduceEqDiff, Int.reduceToNat, Int.reduceEq, Int.reduceLT, Int.reduceLE, Int.reduceNeg, Int.reduceAdd, Int.reduceSub, Int.reduceMul, Nat.reducePow, Int.reduceNegSucc, apps, d3x, on, vc]
  exact ⟨((b, blk [.pointer (some ⟨b, 0, none⟩), v'] 48) :: g') ++ h, by (repeat' first | exact Sub.refl _ | exact Sub.nil _ | assumption | refine Sub.both ?_ ?_ | refine Sub.cons_of (by simp only [subs, d2, d3x, d3y]) ?_ | exact Sub.left _ _ | refine Sub.app (by simp only [subs, d2, d3x, d3y]) ?_ | refine Sub.cons (by simp only [subs, d2, d3x, d3y]) ?_), k _ ⟨_, _, g', .inr rfl, o', d3x.1, rfl⟩ (by simp only [subs, d2, d3x])⟩
theorem bstr_c {h : H} {b : Nat} {l : List UInt8} {G : H} (o : oB b l G) (d : Dj G h) (hl : l.length ≤ 140737488355328) {R : Ending → H → Prop} (k : R (.returned (.string ⟨l.toArray⟩)) h) :
    HCalls Tryd.prog 22 #[.pointer (some ⟨b, 0, none⟩)] (G ++ h) R := by
  refine .of_calls fun w s => ?_
  obtain ⟨p, v, g, hp, ol, hg, rfl⟩ := o
  have hbk : w.heap[b]? = some (blk [p, v] 48) := s b _ (by rw [List.cons_append, hget_cons, if_pos rfl])
  have sh : Sat h w := s.sub (Sub.right d)
  obtain ⟨hn, ⟨rfl, h0, rfl⟩ | ⟨j, cap, sp, rfl, hc, hs, rfl⟩⟩ := ol
  · have e : l = [] := List.length_eq_zero_iff.1 h0
    subst e
    refine (Any.Builder_String_nil Tryd.lays169 Tryd.Builder_Extra_169 w.heap.size b p w hbk).mono ?_
    rintro e w' ⟨rfl, hb⟩
    exact ⟨h, k, (Pst.ofBelow sh hb).more (Sub.right d)⟩
  · have d2 := d
    simp only [subs] at d2
    have hjb : hget ((b, blk [p, .slice (some ⟨j, 0, none⟩) l.length cap] 48) :: ([(j, blk (fl eB l ++ sp) 5)] ++ h)) j = some (blk (fl eB l ++ sp) 5) := by
      rw [hget_cons, if_neg (fun e => by subst e; simp [hget_cons] at hg), List.singleton_append, hget_cons, if_pos rfl]
    have hgk : w.heap[j]? = some (blk (fl eB l ++ sp) 5) := s j _ hjb
    by_cases e : l = []
    · subst e
      by_cases c0 : cap = 0
      · subst c0
        refine (Any.Builder_String_noroom Tryd.lays169 Tryd.Builder_Extra_169 w.heap.size b j p _ w (Nat.le_refl _) hbk hgk).mono ?_
        rintro e w' ⟨rfl, hb⟩
        exact ⟨h, k, (Pst.ofBelow sh hb).more (Sub.right d)⟩
      · refine (Any.Builder_String_room Tryd.lays169 Tryd.Builder_Extra_169 w.heap.size b j cap p w c0 hbk).mono ?_
        rintro e w' ⟨rfl, hb⟩
        exact ⟨h, k, (Pst.ofBelow sh hb).more (Sub.right d)⟩
    · refine (builderText Tryd.lays169 Tryd.Builder_Extra_169 b j cap p (fl eB l ++ sp).toArray l w e hbk hgk hc (by simpa using hs) (by omega) fun i x hx => ?_).mono ?_
      · have hi := (List.getElem?_eq_some_iff.1 hx).1
        have h1 : (fl eB l)[i]? = some (Value.int .u8 x.toNat) := by
          have : fl eB l = l.map fun b => Value.int .u8 b.toNat := (fl_text l).symm
          rw [this, List.getElem?_map, hx]; rfl
        rw [List.getElem?_toArray, List.getElem?_append_left (List.getElem?_eq_some_iff.1 h1).1]
        exact h1
      · rintro e w' ⟨rfl, rfl⟩
        have hj : hget h j = none := by
          cases e : hget h j with
          | none => rfl
          | some x => exact absurd (d.of (by rw [e]; simp)) (by rw [hget_cons]; split <;> simp [hget_cons])
        have hr : ∀ i, i ≠ j → (w.drew.freeze ⟨j, 0, none⟩ l.length).heap[i]? = w.heap[i]? := fun i hi => by
          unfold World.freeze
          split
          · rfl
          · show (w.heap.modify j _)[i]? = _
            rw [Array.getElem?_modify, if_neg (fun e => hi e.symm)]
        have hz : (w.drew.freeze ⟨j, 0, none⟩ l.length).heap.size = w.heap.size := by
          unfold World.freeze
          split
          · rfl
          · show (w.heap.modify j _).size = _
            simp
        refine ⟨h, k, ⟨fun i o hi => ?_, ?_, ?_, ?_, by rw [hz]; exact Nat.le_refl _, fun i hi hn => hr i fun e => ?_, fun i hi => .inl fun e => ?_⟩⟩
        · rw [hr i fun e => by rw [e, hj] at hi; cases hi]; exact sh i o hi
        · unfold World.freeze; split <;> rfl
        · unfold World.freeze; split <;> rfl
        · unfold World.freeze; split <;> rfl
        · rw [e] at hn
          rw [List.cons_append, hjb] at hn; cases hn
        · cases e2 : hget h i with
          | none => exact hi e2
          | some x => rw [(Sub.right d) i x e2] at e; cases e
end Go.Proofs.YtdlgaidjlepepaaDoor
end

/- What the laws measure, copy and compare: what happens, in rows. -/
section
set_option linter.unusedVariables false
set_option linter.unusedSimpArgs false
set_option maxRecDepth 20000
attribute [local irreducible] Go.Tk.vc Go.Tk.vops Go.Tk.vdr Go.Tk.vop Go.Tk.vfl Go.Tk.HCalls
namespace Go.Tk
open Go
theorem eE_len (e : DTollEvent) : (cTollEvent e).length = 11 := rfl
theorem eE_one (l : List DTollEvent) : (fl cTollEvent l).all vone = true := by induction l <;> simp_all [fl, cTollEvent, vone]
theorem zE (n : Nat) : zrep (cTollEvent zTollEvent) n = fl cTollEvent (List.replicate n zTollEvent) := by
  induction n with
  | zero => rfl
  | succ n ih => rw [List.replicate_succ, fl_cons, ← ih]; rfl
end Go.Tk
namespace Go.Proofs.YtdlgaidjlepepaaDoor
open Go Go.Tk

theorem szCall_c {h : H} {c : DCall} {left : Int} (hl : 0 ≤ left ∧ left ≤ 1048576) (ht : c.text.length ≤ 9223372036854775807) {R : Ending → H → Prop}
    (k : ∀ n : Int, (0 ≤ n → n ≤ left ∧ (c.text.length : Int) ≤ left) → -1 ≤ n → R (.returned (.int .i64 n)) h) : HCalls Tryd.prog 28 #[.agg (cCall c).toArray, .int .i64 left] h R := by
  refine HCalls_ir (args := [.agg (cCall c).toArray, .int .i64 left]) Tryd.func28 ir28 ?_
  simp only [walk, lists, acts, mem, plain, seqs, maps, cells, resL, resV, intBin, ↓reduceIte, Nat.reduceAdd, Nat.reduceSub, Nat.reduceMul, Nat.reduceLeDiff, Nat.reduceEqDiff, Int.reduceToNat, Int.reduceEq, Int.reduceLT, Int.reduceLE, Int.reduceNeg, Int.reduceAdd, Int.reduceSub, Int.reduceMul, Nat.reducePow, Int.reduceNegSucc, wCall]
  refine newB_intro fun j hj => ?_
  simp (disch := omega) only [walk, lists, acts, mem, plain, seqs, maps, cells, resL, resV, intBin, ↓reduceIte, Nat.reduceAdd, Nat.reduceSub, Nat.reduceMul, Nat.reduceLeDiff, Nat.reduceEqDiff, Int.reduceToNat, Int.reduceEq, Int.reduceLT, Int.reduceLE, Int.reduceNeg, Int.reduceAdd, Int.reduceSub, Int.reduceMul, Nat.reducePow, Int.reduceNegSucc, wCall, wrapI]
  refine ite_lt (fun c => ⟨h, Sub.cons hj (Sub.refl h), k (-1) (by omega) (by omega)⟩) fun c => ?_
  exact ⟨h, Sub.cons hj (Sub.refl h), k _ (fun _ => by omega) (by omega)⟩
theorem szEvent_c {h : H} {e : DTollEvent} {left : Int} (hl : 0 ≤ left ∧ left ≤ 1048576) (ht : e.call.text.length ≤ 9223372036854775807) {R : Ending → H → Prop}
    (k : ∀ n : Int, (0 ≤ n → n ≤ left ∧ (e.call.text.length : Int) ≤ left) → -1 ≤ n → R (.returned (.int .i64 n)) h) : HCalls Tryd.prog 14 #[.agg (cTollEvent e).toArray, .int .i64 left] h R := by
  refine HCalls_ir (args := [.agg (cTollEvent e).toArray, .int .i64 left]) Tryd.func14 ir14 ?_
  simp only [walk, lists, acts, mem, plain, seqs, maps, cells, resL, resV, intBin, ↓reduceIte, Nat.reduceAdd, Nat.reduceSub, Nat.reduceMul, Nat.reduceLeDiff, Nat.reduceEqDiff, Int.reduceToNat, Int.reduceEq, Int.reduceLT, Int.reduceLE, Int.reduceNeg, Int.reduceAdd, Int.reduceSub, Int.reduceMul, Nat.reducePow, Int.reduceNegSucc, wTollEvent]
  refine newB_intro fun j hj => ?_
  simp only [walk, lists, acts, mem, plain, seqs, maps, cells, resL, resV, intBin, ↓reduceIte, Nat.reduceAdd, Nat.reduceSub, Nat.reduceMul, Nat.reduceLeDiff, Nat.reduceEqDiff, Int.reduceToNat, Int.reduceEq, Int.reduceLT, Int.reduceLE, Int.reduceNeg, Int.reduceAdd, Int.reduceSub, Int.reduceMul, Nat.reducePow, Int.reduceNegSucc, wTollEvent]
  refine szCall_c hl ht fun n h1 h2 => ?_
  simp only [walk, lists, acts, mem, plain, seqs, maps, cells, resL, resV, intBin, ↓reduceIte, Nat.reduceAdd, Nat.reduceSub, Nat.reduceMul, Nat.reduceLeDiff, Nat.reduceEqDiff, Int.reduceToNat, Int.reduceEq, Int.reduceLT, Int.reduceLE, Int.reduceNeg, Int.reduceAdd, Int.reduceSub, Int.reduceMul, Nat.reducePow, Int.reduceNegSucc, wTollEvent]
  refine ite_lt (fun c => ⟨h, Sub.cons hj (Sub.refl h), k (-1) (by omega) (by omega)⟩) fun c => ?_
  exact ⟨h, Sub.cons hj (Sub.refl h), k n h1 h2⟩
theorem szEvents_c {h : H} {v : Value} {l : List DTollEvent} (r : rIn h cTollEvent 11 v l) (hl : l.length ≤ 9223372036854775807) (ht : ∀ e ∈ l, e.call.text.length ≤ 9223372036854775807) {R : Ending → H → Prop}
    (k : ∀ n : Int, (0 ≤ n → l.length ≤ 1048576 ∧ ∀ e ∈ l, e.call.text.length ≤ 1048576) → R (.returned (.int .i64 n)) h) : HCalls Tryd.prog 5 #[v, .int .i64 1048576] h R := by
  refine HCalls_ir (args := [v, .int .i64 1048576]) Tryd.func5 ir5 ?_
  simp (disch := omega) only [walk, lists, acts, mem, plain, seqs, maps, cells, resL, resV, intBin, ↓reduceIte, Nat.reduceAdd, Nat.reduceSub, Nat.reduceMul, Nat.reduceLeDiff, Nat.reduceEqDiff, Int.reduceToNat, Int.reduceEq, Int.reduceLT, Int.reduceLE, Int.reduceNeg, Int.reduceAdd, Int.reduceSub, Int.reduceMul, Nat.reducePow, Int.reduceNegSucc, r.len, wrapI]
  refine ite_lt (fun c => .of (k (-1) (by omega))) fun c => ?_
  refine vc_loop [5, 1] (fun n vs h' => ∃ (i : Nat) (left : Int), vs = [.int .i64 i, .int .i64 left] ∧ h' = h ∧ 0 ≤ left ∧ left ≤ 1048576 ∧ (∀ e ∈ l.take i, e.call.text.length ≤ 1048576) ∧ i ≤ l.length ∧ n = l.length - i) l.length rfl
    ⟨0, _, rfl, rfl, by omega, by omega, by simp, by omega, rfl⟩ ?_
  rintro n f h' ⟨i, left, hv, rfl, h1, h2, h3, hi, rfl⟩
  simp only [List.map_cons, List.map_nil, List.cons.injEq, and_true] at hv
  simp only [walk, lists, acts, mem, plain, seqs, maps, cells, resL, resV, intBin, ↓reduceIte, Nat.reduceAdd, Nat.reduceSub, Nat.reduceMul, Nat.reduceLeDiff, Nat.reduceEqDiff, Int.reduceToNat, Int.reduceEq, Int.reduceLT, Int.reduceLE, Int.reduceNeg, Int.reduceAdd, Int.reduceSub, Int.reduceMul, Nat.reducePow, Int.reduceNegSucc, wr, hv.1, hv.2, r.len]
  refine ite_lt (fun c1 => ?_) fun c1 => ?_
  · have hi2 : i < l.length := by omega
    refine idx_in (i := i) eE_len r rfl hi2 fun b1 o1 e1 => ?_
    simp only [walk, lists, acts, mem, plain, seqs, maps, cells, resL, resV, intBin, ↓reduceIte, Nat.reduceAdd, Nat.reduceSub, Nat.reduceMul, Nat.reduceLeDiff, Nat.reduceEqDiff, Int.reduceToNat, Int.reduceEq, Int.reduceLT, Int.reduceLE, Int.reduceNeg, Int.reduceAdd, Int.reduceSub, Int.reduceMul, Nat.reducePow, Int.reduceNegSucc, e1, wTollEvent]
    refine szEvent_c ⟨h1, h2⟩ (ht _ (List.getElem_mem hi2)) fun n h4 h5 => ?_
    simp only [walk, lists, acts, mem, plain, seqs, maps, cells, resL, resV, intBin, ↓reduceIte, Nat.reduceAdd, Nat.reduceSub, Nat.reduceMul, Nat.reduceLeDiff, Nat.reduceEqDiff, Int.reduceToNat, Int.reduceEq, Int.reduceLT, Int.reduceLE, Int.reduceNeg, Int.reduceAdd, Int.reduceSub, Int.reduceMul, Nat.reducePow, Int.reduceNegSucc]
    refine ite_lt (fun c => .of (k (-1) (by omega))) fun c => ?_
    simp (disch := omega) only [walk, lists, acts, mem, plain, seqs, maps, cells, resL, resV, intBin, ↓reduceIte, Nat.reduceAdd, Nat.reduceSub, Nat.reduceMul, Nat.reduceLeDiff, Nat.reduceEqDiff, Int.reduceToNat, Int.reduceEq, Int.reduceLT, Int.reduceLE, Int.reduceNeg, Int.reduceAdd, Int.reduceSub, Int.reduceMul, Nat.reducePow, Int.reduceNegSucc, wrapI]
    refine ⟨l.length - (i + 1), by omega, _, .refl _, i + 1, n, by simp, rfl, by omega, by omega, fun e he => ?_, by omega, rfl⟩
    rw [List.take_succ_eq_append_getElem hi2] at he
    rcases List.mem_append.1 he with he | he
    · exact h3 e he
    · rw [List.mem_singleton] at he
      subst he
      omega
  · have hi2 : i = l.length := by omega
    subst hi2
    rw [List.take_length] at h3
    exact .of (k left fun _ => ⟨by omega, h3⟩)

theorem toCall_c {h : H} {c : DCall} {R : Ending → H → Prop} (k : R (.returned (.agg (cCall c).toArray)) h) : HCalls Tryd.prog 35 #[.agg (cCall c).toArray] h R := by
  refine HCalls_ir (args := [.agg (cCall c).toArray]) Tryd.func35 ir35 ?_
  have zc := zCall_eq
  simp only [str] at zc
  simp only [walk, lists, acts, mem, plain, seqs, maps, cells, resL, resV, intBin, ↓reduceIte, Nat.reduceAdd, Nat.reduceSub, Nat.reduceMul, Nat.reduceLeDiff, Nat.reduceEqDiff, Int.reduceToNat, Int.reduceEq, Int.reduceLT, Int.reduceLE, Int.reduceNeg, Int.reduceAdd, Int.reduceSub, Int.reduceMul, Nat.reducePow, Int.reduceNegSucc, wCall, str, zc]
  refine newB_intro fun j1 h1 => ?_
  simp only [walk, lists, acts, mem, plain, seqs, maps, cells, resL, resV, intBin, ↓reduceIte, Nat.reduceAdd, Nat.reduceSub, Nat.reduceMul, Nat.reduceLeDiff, Nat.reduceEqDiff, Int.reduceToNat, Int.reduceEq, Int.reduceLT, Int.reduceLE, Int.reduceNeg, Int.reduceAdd, Int.reduceSub, Int.reduceMul, Nat.reducePow, Int.reduceNegSucc, wCall]
  refine newB_intro fun j2 h2 => ?_
  have n2 := h2
  simp only [subs] at n2
  simp only [walk, lists, acts, mem, plain, seqs, maps, cells, resL, resV, intBin, ↓reduceIte, Nat.reduceAdd, Nat.reduceSub, Nat.reduceMul, Nat.reduceLeDiff, Nat.reduceEqDiff, Int.reduceToNat, Int.reduceEq, Int.reduceLT, Int.reduceLE, Int.reduceNeg, Int.reduceAdd, Int.reduceSub, Int.reduceMul, Nat.reducePow, Int.reduceNegSucc, wCall, n2]
  refine newB_intro fun j3 h3 => ?_
  have n3 := h3
  simp only [subs] at n3
  have m : j1 ≠ j2 ∧ j1 ≠ j3 ∧ j2 ≠ j3 ∧ j2 ≠ j1 ∧ j3 ≠ j1 ∧ j3 ≠ j2 := by refine ⟨?_, ?_, ?_, ?_, ?_, ?_⟩ <;> simp_all [Ne, eq_comm]
  simp only [walk, lists, acts, mem, plain, seqs, maps, cells, resL, resV, intBin, ↓reduceIte, Nat.reduceAdd, Nat.reduceSub, Nat.reduceMul, Nat.reduceLeDiff, Nat.reduceEqDiff, Int.reduceToNat, Int.reduceEq, Int.reduceLT, Int.reduceLE, Int.reduceNeg, Int.reduceAdd, Int.reduceSub, Int.reduceMul, Nat.reducePow, Int.reduceNegSucc, wCall, m]
  exact ⟨h, by (repeat' first | exact Sub.refl _ | exact Sub.nil _ | assumption | refine Sub.both ?_ ?_ | refine Sub.cons_of (by simp only [subs, n2, n3, m, h1]) ?_ | exact Sub.left _ _ | refine Sub.app (by simp only [subs, n2, n3, m, h1]) ?_ | refine Sub.cons (by simp only [subs, n2, n3, m, h1]) ?_), k⟩
theorem toEvent_c {h : H} {e : DTollEvent} {R : Ending → H → Prop} (k : R (.returned (.agg (cTollEvent e).toArray)) h) : HCalls Tryd.prog 17 #[.agg (cTollEvent e).toArray] h R := by
  refine HCalls_ir (args := [.agg (cTollEvent e).toArray]) Tryd.func17 ir17 ?_
  have zc := zTollEvent_eq
  simp only [str] at zc
  simp only [walk, lists, acts, mem, plain, seqs, maps, cells, resL, resV, intBin, ↓reduceIte, Nat.reduceAdd, Nat.reduceSub, Nat.reduceMul, Nat.reduceLeDiff, Nat.reduceEqDiff, Int.reduceToNat, Int.reduceEq, Int.reduceLT, Int.reduceLE, Int.reduceNeg, Int.reduceAdd, Int.reduceSub, Int.reduceMul, Nat.reducePow, Int.reduceNegSucc, wTollEvent, str, zc]
  refine newB_intro fun j1 h1 => ?_
  simp only [walk, lists, acts, mem, plain, seqs, maps, cells, resL, resV, intBin, ↓reduceIte, Nat.reduceAdd, Nat.reduceSub, Nat.reduceMul, Nat.reduceLeDiff, Nat.reduceEqDiff, Int.reduceToNat, Int.reduceEq, Int.reduceLT, Int.reduceLE, Int.reduceNeg, Int.reduceAdd, Int.reduceSub, Int.reduceMul, Nat.reducePow, Int.reduceNegSucc, wTollEvent]
  refine newB_intro fun j2 h2 => ?_
  have n2 := h2
  simp only [subs] at n2
  simp only [walk, lists, acts, mem, plain, seqs, maps, cells, resL, resV, intBin, ↓reduceIte, Nat.reduceAdd, Nat.reduceSub, Nat.reduceMul, Nat.reduceLeDiff, Nat.reduceEqDiff, Int.reduceToNat, Int.reduceEq, Int.reduceLT, Int.reduceLE, Int.reduceNeg, Int.reduceAdd, Int.reduceSub, Int.reduceMul, Nat.reducePow, Int.reduceNegSucc, wTollEvent, n2]
  refine newB_intro fun j3 h3 => ?_
  have n3 := h3
  simp only [subs] at n3
  have m : j1 ≠ j2 ∧ j1 ≠ j3 ∧ j2 ≠ j3 ∧ j2 ≠ j1 ∧ j3 ≠ j1 ∧ j3 ≠ j2 := by refine ⟨?_, ?_, ?_, ?_, ?_, ?_⟩ <;> simp_all [Ne, eq_comm]
  simp only [walk, lists, acts, mem, plain, seqs, maps, cells, resL, resV, intBin, ↓reduceIte, Nat.reduceAdd, Nat.reduceSub, Nat.reduceMul, Nat.reduceLeDiff, Nat.reduceEqDiff, Int.reduceToNat, Int.reduceEq, Int.reduceLT, Int.reduceLE, Int.reduceNeg, Int.reduceAdd, Int.reduceSub, Int.reduceMul, Nat.reducePow, Int.reduceNegSucc, wTollEvent, m]
  refine toCall_c (c := e.call) ?_
  simp only [walk, lists, acts, mem, plain, seqs, maps, cells, resL, resV, intBin, ↓reduceIte, Nat.reduceAdd, Nat.reduceSub, Nat.reduceMul, Nat.reduceLeDiff, Nat.reduceEqDiff, Int.reduceToNat, Int.reduceEq, Int.reduceLT, Int.reduceLE, Int.reduceNeg, Int.reduceAdd, Int.reduceSub, Int.reduceMul, Nat.reducePow, Int.reduceNegSucc, wTollEvent, wCall, m]
  exact ⟨h, by (repeat' first | exact Sub.refl _ | exact Sub.nil _ | assumption | refine Sub.both ?_ ?_ | refine Sub.cons_of (by simp only [subs, n2, n3, m, h1]) ?_ | exact Sub.left _ _ | refine Sub.app (by simp only [subs, n2, n3, m, h1]) ?_ | refine Sub.cons (by simp only [subs, n2, n3, m, h1]) ?_), k⟩
theorem toEvents_c {h : H} {a : Value} {l : List DTollEvent} (r : rIn h cTollEvent 11 a l) (hl : l.length ≤ 1048576) {R : Ending → H → Prop} (k : ∀ v g, oLs 41 cTollEvent 11 v l g → Dj g h → R (.returned v) (g ++ h)) : HCalls Tryd.prog 7 #[a] h R := by
  refine HCalls_ir (args := [a]) Tryd.func7 ir7 ?_
  have zc := zTollEvent_eq
  simp only [str] at zc
  simp only [walk, lists, acts, mem, plain, seqs, maps, cells, resL, resV, intBin, ↓reduceIte, Nat.reduceAdd, Nat.reduceSub, Nat.reduceMul, Nat.reduceLeDiff, Nat.reduceEqDiff, Int.reduceToNat, Int.reduceEq, Int.reduceLT, Int.reduceLE, Int.reduceNeg, Int.reduceAdd, Int.reduceSub, Int.reduceMul, Nat.reducePow, Int.reduceNegSucc, r.len, str, zc]
  refine ⟨⟨by omega, by omega, by omega, by omega⟩, newB_intro fun j hj => ?_⟩
  rw [zE]
  simp only [walk, lists, acts, mem, plain, seqs, maps, cells, resL, resV, intBin, ↓reduceIte, Nat.reduceAdd, Nat.reduceSub, Nat.reduceMul, Nat.reduceLeDiff, Nat.reduceEqDiff, Int.reduceToNat, Int.reduceEq, Int.reduceLT, Int.reduceLE, Int.reduceNeg, Int.reduceAdd, Int.reduceSub, Int.reduceMul, Nat.reducePow, Int.reduceNegSucc]
  have hr : (List.replicate l.length zTollEvent).length = l.length := by simp
  have o0 : oLs 41 cTollEvent 11 (.slice (some ⟨j, 0, none⟩) l.length l.length) (List.replicate l.length zTollEvent) [(j, blk (fl cTollEvent (List.replicate l.length zTollEvent)) 41)] := by
    have := oLs_new (e := 41) eE_len (j := j) (l := List.replicate l.length zTollEvent)
    rw [hr] at this; exact this
  obtain ⟨V, hV⟩ : ∃ V, V = Value.slice (some ⟨j, 0, none⟩) l.length l.length := ⟨_, rfl⟩
  rw [← hV] at o0 ⊢
  refine vc_loop [4] (fun n vs h' => ∃ (i : Nat) (g' : H), vs = [.int .i64 i] ∧ h' = g' ++ h ∧ Dj g' h ∧ oLs 41 cTollEvent 11 V (l.take i ++ (List.replicate l.length zTollEvent).drop i) g' ∧ i ≤ l.length ∧ n = l.length - i) l.length rfl
    ⟨0, _, rfl, rfl, Dj.one hj, by simpa using o0, by omega, rfl⟩ ?_
  rintro n f h' ⟨i, g', hv, rfl, dj', o', hi, rfl⟩
  simp only [List.map_cons, List.map_nil, List.cons.injEq, and_true] at hv
  simp only [walk, lists, acts, mem, plain, seqs, maps, cells, resL, resV, intBin, ↓reduceIte, Nat.reduceAdd, Nat.reduceSub, Nat.reduceMul, Nat.reduceLeDiff, Nat.reduceEqDiff, Int.reduceToNat, Int.reduceEq, Int.reduceLT, Int.reduceLE, Int.reduceNeg, Int.reduceAdd, Int.reduceSub, Int.reduceMul, Nat.reducePow, Int.reduceNegSucc, wr, hv, r.len]
  refine ite_lt (fun c1 => ?_) fun c1 => ?_
  · have hi2 : i < l.length := by omega
    refine idx_in (i := i) eE_len (r.sub (Sub.right dj')) rfl hi2 fun b1 o1 e1 => ?_
    simp only [walk, lists, acts, mem, plain, seqs, maps, cells, resL, resV, intBin, ↓reduceIte, Nat.reduceAdd, Nat.reduceSub, Nat.reduceMul, Nat.reduceLeDiff, Nat.reduceEqDiff, Int.reduceToNat, Int.reduceEq, Int.reduceLT, Int.reduceLE, Int.reduceNeg, Int.reduceAdd, Int.reduceSub, Int.reduceMul, Nat.reducePow, Int.reduceNegSucc, e1, wTollEvent]
    refine toEvent_c ?_
    simp only [walk, lists, acts, mem, plain, seqs, maps, cells, resL, resV, intBin, ↓reduceIte, Nat.reduceAdd, Nat.reduceSub, Nat.reduceMul, Nat.reduceLeDiff, Nat.reduceEqDiff, Int.reduceToNat, Int.reduceEq, Int.reduceLT, Int.reduceLE, Int.reduceNeg, Int.reduceAdd, Int.reduceSub, Int.reduceMul, Nat.reducePow, Int.reduceNegSucc, wTollEvent]
    refine own_idx (i := i) eE_len o' rfl (by simp; omega) fun b cap sp hv' hc hs hg => ?_
    subst hg
    simp only [walk, lists, acts, mem, plain, seqs, maps, cells, resL, resV, intBin, ↓reduceIte, Nat.reduceAdd, Nat.reduceSub, Nat.reduceMul, Nat.reduceLeDiff, Nat.reduceEqDiff, Int.reduceToNat, Int.reduceEq, Int.reduceLT, Int.reduceLE, Int.reduceNeg, Int.reduceAdd, Int.reduceSub, Int.reduceMul, Nat.reducePow, Int.reduceNegSucc, wTollEvent]
    refine st_own (i := i) (a' := l[i]'hi2) (off := 0) eE_len (by omega) (by simp; omega) rfl (by omega) rfl ?_
    simp only [walk, lists, acts, mem, plain, seqs, maps, cells, resL, resV, intBin, ↓reduceIte, Nat.reduceAdd, Nat.reduceSub, Nat.reduceMul, Nat.reduceLeDiff, Nat.reduceEqDiff, Int.reduceToNat, Int.reduceEq, Int.reduceLT, Int.reduceLE, Int.reduceNeg, Int.reduceAdd, Int.reduceSub, Int.reduceMul, Nat.reducePow, Int.reduceNegSucc]
    simp (disch := omega) only [wrapI]
    refine ⟨l.length - (i + 1), by omega, _, .refl _, i + 1, _, by simp, rfl, Dj.one dj'.one', ?_, by omega, rfl⟩
    rw [← take_set (by omega) hr]
    exact own_set eE_len hv' hc hs
  · have hi' : i = l.length := by omega
    subst hi'
    have o2 : oLs 41 cTollEvent 11 V l g' := by simpa using o'
    exact .of (k _ g' o2 dj')

theorem eqCall_c {h : H} {x y : DCall} {R : Ending → H → Prop} (k : R (.returned (.bool (decide (x = y)))) h) : HCalls Tryd.prog 38 #[.agg (cCall x).toArray, .agg (cCall y).toArray] h R := by
  refine HCalls_ir (args := [.agg (cCall x).toArray, .agg (cCall y).toArray]) Tryd.func38 ir38 ?_
  simp only [walk, lists, acts, mem, plain, seqs, maps, cells, resL, resV, intBin, ↓reduceIte, Nat.reduceAdd, Nat.reduceSub, Nat.reduceMul, Nat.reduceLeDiff, Nat.reduceEqDiff, Int.reduceToNat, Int.reduceEq, Int.reduceLT, Int.reduceLE, Int.reduceNeg, Int.reduceAdd, Int.reduceSub, Int.reduceMul, Nat.reducePow, Int.reduceNegSucc, wCall]
  refine newB_intro fun j1 h1 => ?_
  simp only [walk, lists, acts, mem, plain, seqs, maps, cells, resL, resV, intBin, ↓reduceIte, Nat.reduceAdd, Nat.reduceSub, Nat.reduceMul, Nat.reduceLeDiff, Nat.reduceEqDiff, Int.reduceToNat, Int.reduceEq, Int.reduceLT, Int.reduceLE, Int.reduceNeg, Int.reduceAdd, Int.reduceSub, Int.reduceMul, Nat.reducePow, Int.reduceNegSucc, wCall]
  refine newB_intro fun j2 h2 => ?_
  have n := fresh h2
  simp only [walk, lists, acts, mem, plain, seqs, maps, cells, resL, resV, intBin, ↓reduceIte, Nat.reduceAdd, Nat.reduceSub, Nat.reduceMul, Nat.reduceLeDiff, Nat.reduceEqDiff, Int.reduceToNat, Int.reduceEq, Int.reduceLT, Int.reduceLE, Int.reduceNeg, Int.reduceAdd, Int.reduceSub, Int.reduceMul, Nat.reducePow, Int.reduceNegSucc, wCall, n.1, n.2.1, strBin, str_inj]
  refine ite_ne (fun d => ⟨h, Sub.cons h2 (Sub.cons h1 (Sub.refl h)), kF k (fun e => d (by rw [e]))⟩) fun d0 => ?_
  refine ite_ne (fun d => ⟨h, Sub.cons h2 (Sub.cons h1 (Sub.refl h)), kF k (fun e => d (by rw [e]))⟩) fun d1 => ?_
  refine ite_ne (fun d => ⟨h, Sub.cons h2 (Sub.cons h1 (Sub.refl h)), kF k (fun e => d (by rw [e]))⟩) fun d2 => ?_
  refine ite_ne (fun d => ⟨h, Sub.cons h2 (Sub.cons h1 (Sub.refl h)), kF k (fun e => d (by rw [e]))⟩) fun d3 => ?_
  refine ite_ne (fun d => ⟨h, Sub.cons h2 (Sub.cons h1 (Sub.refl h)), kF k (fun e => d (by rw [e]))⟩) fun d4 => ?_
  refine ite_ne (fun d => ⟨h, Sub.cons h2 (Sub.cons h1 (Sub.refl h)), kF k (fun e => d (by rw [e]))⟩) fun d5 => ?_
  refine ⟨h, Sub.cons h2 (Sub.cons h1 (Sub.refl h)), kT k ?_⟩
  cases x; cases y; simp_all
theorem eqEvent_c {h : H} {x y : DTollEvent} {R : Ending → H → Prop} (k : R (.returned (.bool (decide (x = y)))) h) : HCalls Tryd.prog 23 #[.agg (cTollEvent x).toArray, .agg (cTollEvent y).toArray] h R := by
  refine HCalls_ir (args := [.agg (cTollEvent x).toArray, .agg (cTollEvent y).toArray]) Tryd.func23 ir23 ?_
  simp only [walk, lists, acts, mem, plain, seqs, maps, cells, resL, resV, intBin, ↓reduceIte, Nat.reduceAdd, Nat.reduceSub, Nat.reduceMul, Nat.reduceLeDiff, Nat.reduceEqDiff, Int.reduceToNat, Int.reduceEq, Int.reduceLT, Int.reduceLE, Int.reduceNeg, Int.reduceAdd, Int.reduceSub, Int.reduceMul, Nat.reducePow, Int.reduceNegSucc, wTollEvent]
  refine newB_intro fun j1 h1 => ?_
  simp only [walk, lists, acts, mem, plain, seqs, maps, cells, resL, resV, intBin, ↓reduceIte, Nat.reduceAdd, Nat.reduceSub, Nat.reduceMul, Nat.reduceLeDiff, Nat.reduceEqDiff, Int.reduceToNat, Int.reduceEq, Int.reduceLT, Int.reduceLE, Int.reduceNeg, Int.reduceAdd, Int.reduceSub, Int.reduceMul, Nat.reducePow, Int.reduceNegSucc, wTollEvent]
  refine newB_intro fun j2 h2 => ?_
  have n := fresh h2
  simp only [walk, lists, acts, mem, plain, seqs, maps, cells, resL, resV, intBin, ↓reduceIte, Nat.reduceAdd, Nat.reduceSub, Nat.reduceMul, Nat.reduceLeDiff, Nat.reduceEqDiff, Int.reduceToNat, Int.reduceEq, Int.reduceLT, Int.reduceLE, Int.reduceNeg, Int.reduceAdd, Int.reduceSub, Int.reduceMul, Nat.reducePow, Int.reduceNegSucc, wTollEvent, n.1, n.2.1]
  refine ite_ne (fun d => ⟨h, Sub.cons h2 (Sub.cons h1 (Sub.refl h)), kF k (fun e => d (by rw [e]))⟩) fun d0 => ?_
  refine ite_ne (fun d => ⟨h, Sub.cons h2 (Sub.cons h1 (Sub.refl h)), kF k (fun e => d (by rw [e]))⟩) fun d1 => ?_
  refine ite_ne (fun d => ⟨h, Sub.cons h2 (Sub.cons h1 (Sub.refl h)), kF k (fun e => d (by rw [e]))⟩) fun d2 => ?_
  refine ite_ne (fun d => ⟨h, Sub.cons h2 (Sub.cons h1 (Sub.refl h)), kF k (fun e => d (by rw [e]))⟩) fun d3 => ?_
  refine ite_ne (fun d => ⟨h, Sub.cons h2 (Sub.cons h1 (Sub.refl h)), kF k (fun e => d (by rw [e]))⟩) fun d4 => ?_
  refine eqCall_c (x := x.call) (y := y.call) ?_
  simp only [walk, lists, acts, mem, plain, seqs, maps, cells, resL, resV, intBin, ↓reduceIte, Nat.reduceAdd, Nat.reduceSub, Nat.reduceMul, Nat.reduceLeDiff, Nat.reduceEqDiff, Int.reduceToNat, Int.reduceEq, Int.reduceLT, Int.reduceLE, Int.reduceNeg, Int.reduceAdd, Int.reduceSub, Int.reduceMul, Nat.reducePow, Int.reduceNegSucc, wTollEvent, wCall]
  refine ite_ne (fun d => ⟨h, Sub.cons h2 (Sub.cons h1 (Sub.refl h)), kF k (fun e => d (by rw [e]))⟩) fun d5 => ?_
  refine ⟨h, Sub.cons h2 (Sub.cons h1 (Sub.refl h)), kT k ?_⟩
  cases x; cases y; simp_all
theorem eqEvents_c {h : H} {a b : Value} {la lb : List DTollEvent} (ra : rLs h cTollEvent 11 a la) (rb : rLs h cTollEvent 11 b lb) (ha : la.length ≤ 1099511627776) {R : Ending → H → Prop} (k : R (.returned (.bool (decide (la = lb)))) h) :
    HCalls Tryd.prog 9 #[a, b] h R := by
  refine HCalls_ir (args := [a, b]) Tryd.func9 ir9 ?_
  simp only [walk, lists, acts, mem, plain, seqs, maps, cells, resL, resV, intBin, ↓reduceIte, Nat.reduceAdd, Nat.reduceSub, Nat.reduceMul, Nat.reduceLeDiff, Nat.reduceEqDiff, Int.reduceToNat, Int.reduceEq, Int.reduceLT, Int.reduceLE, Int.reduceNeg, Int.reduceAdd, Int.reduceSub, Int.reduceMul, Nat.reducePow, Int.reduceNegSucc, ra.len, rb.len]
  split
  · rename_i c
    exact .of (kF k fun e => c (by rw [e]))
  · rename_i c
    have hl : la.length = lb.length := by omega
    refine vc_loop [5] (fun n vs h' => ∃ i : Nat, vs = [.int .i64 i] ∧ h' = h ∧ i ≤ la.length ∧ n = la.length - i ∧ la.take i = lb.take i) la.length rfl ⟨0, rfl, rfl, by omega, by omega, by simp⟩ ?_
    rintro n f h' ⟨i, hv, rfl, hi, rfl, ht⟩
    simp only [List.map_cons, List.map_nil, List.cons.injEq, and_true] at hv
    simp only [walk, lists, acts, mem, plain, seqs, maps, cells, resL, resV, intBin, ↓reduceIte, Nat.reduceAdd, Nat.reduceSub, Nat.reduceMul, Nat.reduceLeDiff, Nat.reduceEqDiff, Int.reduceToNat, Int.reduceEq, Int.reduceLT, Int.reduceLE, Int.reduceNeg, Int.reduceAdd, Int.reduceSub, Int.reduceMul, Nat.reducePow, Int.reduceNegSucc, wr, hv, ra.len, rb.len]
    split
    · rename_i c1
      refine vc_draw h' (Sub.refl _) ?_
      simp only [walk, lists, acts, mem, plain, seqs, maps, cells, resL, resV, intBin, ↓reduceIte, Nat.reduceAdd, Nat.reduceSub, Nat.reduceMul, Nat.reduceLeDiff, Nat.reduceEqDiff, Int.reduceToNat, Int.reduceEq, Int.reduceLT, Int.reduceLE, Int.reduceNeg, Int.reduceAdd, Int.reduceSub, Int.reduceMul, Nat.reducePow, Int.reduceNegSucc]
      refine idx_leaf (i := i) eE_len ra rfl (by omega) fun b1 o1 e1 => ?_
      simp only [walk, lists, acts, mem, plain, seqs, maps, cells, resL, resV, intBin, ↓reduceIte, Nat.reduceAdd, Nat.reduceSub, Nat.reduceMul, Nat.reduceLeDiff, Nat.reduceEqDiff, Int.reduceToNat, Int.reduceEq, Int.reduceLT, Int.reduceLE, Int.reduceNeg, Int.reduceAdd, Int.reduceSub, Int.reduceMul, Nat.reducePow, Int.reduceNegSucc, e1, wTollEvent]
      refine idx_leaf (i := i) eE_len rb rfl (by omega) fun b2 o2 e2 => ?_
      simp only [walk, lists, acts, mem, plain, seqs, maps, cells, resL, resV, intBin, ↓reduceIte, Nat.reduceAdd, Nat.reduceSub, Nat.reduceMul, Nat.reduceLeDiff, Nat.reduceEqDiff, Int.reduceToNat, Int.reduceEq, Int.reduceLT, Int.reduceLE, Int.reduceNeg, Int.reduceAdd, Int.reduceSub, Int.reduceMul, Nat.reducePow, Int.reduceNegSucc, e2, wTollEvent]
      refine eqEvent_c ?_
      simp only [walk, lists, acts, mem, plain, seqs, maps, cells, resL, resV, intBin, ↓reduceIte, Nat.reduceAdd, Nat.reduceSub, Nat.reduceMul, Nat.reduceLeDiff, Nat.reduceEqDiff, Int.reduceToNat, Int.reduceEq, Int.reduceLT, Int.reduceLE, Int.reduceNeg, Int.reduceAdd, Int.reduceSub, Int.reduceMul, Nat.reducePow, Int.reduceNegSucc]
      refine ite_ne (fun d => .of (kF k (ne_at _ _ d))) fun d => ?_
      simp (disch := omega) only [wrapI]
      exact ⟨la.length - (i + 1), by omega, h', .refl _, i + 1, by simp, rfl, by omega, rfl, take_more _ _ ht d⟩
    · rename_i c1
      exact .of (kT k (take_all (by omega) hl ht))
end Go.Proofs.YtdlgaidjlepepaaDoor
end

/- How the reference writes and reads numbers, and cuts texts. -/
section
set_option linter.unusedVariables false
set_option linter.unusedSimpArgs false
set_option maxRecDepth 20000
attribute [local irreducible] Go.Tk.vc Go.Tk.vops Go.Tk.vdr Go.Tk.vop Go.Tk.vfl Go.Tk.HCalls
namespace Go.Tk
open Go
def i64P (n : Int) : Prop := -9223372036854775808 ≤ n ∧ n ≤ 9223372036854775807
theorem decI_min : decI (-9223372036854775808) = [45, 57, 50, 50, 51, 51, 55, 50, 48, 51, 54, 56, 53, 52, 55, 55, 53, 56, 48, 56] := by
  have : decI (-9223372036854775808) = 45 :: decN 9223372036854775808 := rfl
  rw [this]
  simp [decN_big, decN_small]
theorem decI_len' {i : Int} (h : i64P i) : (decI i).length ≤ 21 := by
  by_cases c : i = -9223372036854775808
  · rw [c, decI_min]; decide
  · unfold i64P at h
    exact decI_len (by omega)
theorem numS_none_of {l : List UInt8} {b : UInt8} (hb : b ∈ l) (hd : ¬ digP b) : numS l = none := by
  cases e : numS l with
  | none => rfl
  | some m => exact absurd (numS_dig e b hb) hd
theorem take_mid (s : List UInt8) {a i : Nat} (ha : a ≤ i) (hi : i < s.length) : s.drop a = (s.drop a).take (i - a) ++ s[i] :: s.drop (i + 1) := by
  have h1 : s.drop a = (s.drop a).take (i - a) ++ (s.drop a).drop (i - a) := (List.take_append_drop _ _).symm
  have h2 : (s.drop a).drop (i - a) = s[i] :: s.drop (i + 1) := by
    rw [List.drop_drop, show a + (i - a) = i by omega, List.drop_eq_getElem_cons hi]
  rw [h2] at h1
  exact h1
theorem take_mid_one (s : List UInt8) {a i : Nat} (ha : a ≤ i) (hi : i < s.length) : (s.drop a).take (i + 1 - a) = (s.drop a).take (i - a) ++ [s[i]] := by
  have h : i - a < (s.drop a).length := by rw [List.length_drop]; omega
  rw [show i + 1 - a = i - a + 1 by omega, List.take_succ_eq_append_getElem h, List.getElem_drop]
  congr 2
  congr 1
  omega
end Go.Tk
namespace Go.Proofs.YtdlgaidjlepepaaDoor
open Go Go.Tk

theorem tStrs : Tryd.prog.underlying 59 = some (.slice 9) := by kernel_rfl
theorem iStr : InfoIs Tryd.prog 9 1 16 := infoB_is (by kernel_rfl)
theorem tInts : Tryd.prog.underlying 69 = some (.slice 3) := by kernel_rfl
theorem iInt : InfoIs Tryd.prog 3 1 8 := infoB_is (by kernel_rfl)

theorem l6In_c {a b c : Int} {h : H} {R : Ending → H → Prop} (k : Asks R (inP b c a) h) : HCalls Tryd.prog 29 #[.int .i64 a, .int .i64 b, .int .i64 c] h R := by
  refine HCalls_ir (args := [.int .i64 a, .int .i64 b, .int .i64 c]) Tryd.func29 ir29 ?_
  simp only [walk, lists, acts, mem, plain, seqs, maps, cells, resL, resV, intBin, ↓reduceIte, Nat.reduceAdd, Nat.reduceSub, Nat.reduceMul, Nat.reduceLeDiff, Nat.reduceEqDiff, Int.reduceToNat, Int.reduceEq, Int.reduceLT, Int.reduceLE, Int.reduceNeg, Int.reduceAdd, Int.reduceSub, Int.reduceMul, Nat.reducePow, Int.reduceNegSucc]
  refine ite_pos (fun x => dP.of (k _ ?_)) fun x => .of (k.no fun p => x p.1)
  simp [inP, x]

theorem l6DecN_c : ∀ (n : Nat), n ≤ 9223372036854775807 → ∀ {h : H} {R : Ending → H → Prop}, R (.returned (.string ⟨(decN n).toArray⟩)) h → HCalls Tryd.prog 31 #[.int .i64 n] h R := by
  intro n
  induction n using Nat.strongRecOn with
  | _ n ih =>
    intro hn h R k
    refine HCalls_ir (args := [.int .i64 n]) Tryd.func31 ir31 ?_
    simp only [walk, lists, acts, mem, plain, seqs, maps, cells, resL, resV, intBin, ↓reduceIte, Nat.reduceAdd, Nat.reduceSub, Nat.reduceMul, Nat.reduceLeDiff, Nat.reduceEqDiff, Int.reduceToNat, Int.reduceEq, Int.reduceLT, Int.reduceLE, Int.reduceNeg, Int.reduceAdd, Int.reduceSub, Int.reduceMul, Nat.reducePow, Int.reduceNegSucc]
    refine ite_lt (fun c => absurd c (by omega)) fun _ => ?_
    refine ite_lt (fun c => absurd c (by omega)) fun _ => ?_
    refine ite_lt (fun c => ?_) fun c => ?_
    · have e1 : (48 : Int) + (n : Int) = ((48 + n : Nat) : Int) := by omega
      simp (disch := omega) only [walk, lists, acts, mem, plain, seqs, maps, cells, resL, resV, intBin, ↓reduceIte, Nat.reduceAdd, Nat.reduceSub, Nat.reduceMul, Nat.reduceLeDiff, Nat.reduceEqDiff, Int.reduceToNat, Int.reduceEq, Int.reduceLT, Int.reduceLE, Int.reduceNeg, Int.reduceAdd, Int.reduceSub, Int.reduceMul, Nat.reducePow, Int.reduceNegSucc, wrapI, e1, u8_of]
      refine newB_intro (o := blk (fl eB [UInt8.ofNat (48 + n)]) 5) fun j hj => ?_
      have bt := fun f => btos_rd (rB_lit (j := j) (e := 5) (h := h) [UInt8.ofNat (48 + n)]) (f := f)
      simp only [List.length_cons, List.length_nil, Nat.zero_add] at bt
      simp only [walk, lists, acts, mem, plain, seqs, maps, cells, resL, resV, intBin, ↓reduceIte, Nat.reduceAdd, Nat.reduceSub, Nat.reduceMul, Nat.reduceLeDiff, Nat.reduceEqDiff, Int.reduceToNat, Int.reduceEq, Int.reduceLT, Int.reduceLE, Int.reduceNeg, Int.reduceAdd, Int.reduceSub, Int.reduceMul, Nat.reducePow, Int.reduceNegSucc, bt]
      rw [decN_small (by omega)] at k
      exact ⟨h, Sub.cons hj (Sub.refl _), k⟩
    · refine vc_draw _ (Sub.refl _) ?_
      have e1 : ((n : Nat) : Int).tdiv 10 = ((n / 10 : Nat) : Int) := rfl
      have e2 : ((n : Nat) : Int).tmod 10 = ((n % 10 : Nat) : Int) := rfl
      have e3 : (48 : Int) + ((n % 10 : Nat) : Int) = ((48 + n % 10 : Nat) : Int) := by omega
      simp (disch := omega) only [walk, lists, acts, mem, plain, seqs, maps, cells, resL, resV, intBin, ↓reduceIte, Nat.reduceAdd, Nat.reduceSub, Nat.reduceMul, Nat.reduceLeDiff, Nat.reduceEqDiff, Int.reduceToNat, Int.reduceEq, Int.reduceLT, Int.reduceLE, Int.reduceNeg, Int.reduceAdd, Int.reduceSub, Int.reduceMul, Nat.reducePow, Int.reduceNegSucc, wrapI, e1, e2, e3, u8_of]
      refine pcall_intro (.string ⟨(decN (n / 10)).toArray⟩) (fun R r => ih (n / 10) (by omega) (by omega) r) ?_
      simp only [walk, lists, acts, mem, plain, seqs, maps, cells, resL, resV, intBin, ↓reduceIte, Nat.reduceAdd, Nat.reduceSub, Nat.reduceMul, Nat.reduceLeDiff, Nat.reduceEqDiff, Int.reduceToNat, Int.reduceEq, Int.reduceLT, Int.reduceLE, Int.reduceNeg, Int.reduceAdd, Int.reduceSub, Int.reduceMul, Nat.reducePow, Int.reduceNegSucc]
      refine newB_intro (o := blk (fl eB [UInt8.ofNat (48 + n % 10)]) 5) fun j hj => ?_
      have bt := fun f => btos_rd (rB_lit (j := j) (e := 5) (h := h) [UInt8.ofNat (48 + n % 10)]) (f := f)
      simp only [List.length_cons, List.length_nil, Nat.zero_add] at bt
      have hle := decN_len20 (n := n / 10) (by omega)
      have hsz : (decN (n / 10)).length + [UInt8.ofNat (48 + n % 10)].length ≤ 9223372036854775807 := by simp only [List.length_cons, List.length_nil]; omega
      have sj := Sub_new (o := blk (fl eB [UInt8.ofNat (48 + n % 10)]) 5) hj
      simp only [walk, lists, acts, mem, plain, seqs, maps, cells, resL, resV, intBin, ↓reduceIte, Nat.reduceAdd, Nat.reduceSub, Nat.reduceMul, Nat.reduceLeDiff, Nat.reduceEqDiff, Int.reduceToNat, Int.reduceEq, Int.reduceLT, Int.reduceLE, Int.reduceNeg, Int.reduceAdd, Int.reduceSub, Int.reduceMul, Nat.reducePow, Int.reduceNegSucc, sj, bt, str_add _ _ hsz]
      rw [decN_big (by omega)] at k
      exact ⟨h, Sub.cons hj (Sub.refl _), k⟩
theorem l6Dec_c {i : Int} (hi : i64P i) {h : H} {R : Ending → H → Prop} (k : R (.returned (.string ⟨(decI i).toArray⟩)) h) : HCalls Tryd.prog 31 #[.int .i64 i] h R := by
  unfold i64P at hi
  by_cases c : 0 ≤ i
  · have e : i = ((i.toNat : Nat) : Int) := by omega
    unfold decI at k
    rw [if_neg (by omega)] at k
    rw [e]
    exact l6DecN_c i.toNat (by omega) k
  · refine HCalls_ir (args := [.int .i64 i]) Tryd.func31 ir31 ?_
    simp only [walk, lists, acts, mem, plain, seqs, maps, cells, resL, resV, intBin, ↓reduceIte, Nat.reduceAdd, Nat.reduceSub, Nat.reduceMul, Nat.reduceLeDiff, Nat.reduceEqDiff, Int.reduceToNat, Int.reduceEq, Int.reduceLT, Int.reduceLE, Int.reduceNeg, Int.reduceAdd, Int.reduceSub, Int.reduceMul, Nat.reducePow, Int.reduceNegSucc, str]
    refine ite_lt (fun c => ?_) fun _ => ?_
    · have e : i = -9223372036854775808 := by omega
      subst e
      rw [decI_min] at k
      exact .of k
    refine ite_lt (fun _ => ?_) fun c => absurd c (by omega)
    refine raw_neg (n := i) (by simp only [walk, lists, acts, mem, plain, seqs, maps, cells, resL, resV, intBin, ↓reduceIte, Nat.reduceAdd, Nat.reduceSub, Nat.reduceMul, Nat.reduceLeDiff, Nat.reduceEqDiff, Int.reduceToNat, Int.reduceEq, Int.reduceLT, Int.reduceLE, Int.reduceNeg, Int.reduceAdd, Int.reduceSub, Int.reduceMul, Nat.reducePow, Int.reduceNegSucc]) ?_
    have e : IntKind.i64.wrap (0 - i) = (((-i).toNat : Nat) : Int) := by rw [wrapI _ (by omega)]; omega
    simp only [walk, lists, acts, mem, plain, seqs, maps, cells, resL, resV, intBin, ↓reduceIte, Nat.reduceAdd, Nat.reduceSub, Nat.reduceMul, Nat.reduceLeDiff, Nat.reduceEqDiff, Int.reduceToNat, Int.reduceEq, Int.reduceLT, Int.reduceLE, Int.reduceNeg, Int.reduceAdd, Int.reduceSub, Int.reduceMul, Nat.reducePow, Int.reduceNegSucc, e]
    refine l6DecN_c (-i).toNat (by omega) ?_
    have hle := decN_len20 (n := (-i).toNat) (by omega)
    have hsz : ([45] : List UInt8).length + (decN (-i).toNat).length ≤ 9223372036854775807 := by simp only [List.length_cons, List.length_nil]; omega
    simp only [walk, lists, acts, mem, plain, seqs, maps, cells, resL, resV, intBin, ↓reduceIte, Nat.reduceAdd, Nat.reduceSub, Nat.reduceMul, Nat.reduceLeDiff, Nat.reduceEqDiff, Int.reduceToNat, Int.reduceEq, Int.reduceLT, Int.reduceLE, Int.reduceNeg, Int.reduceAdd, Int.reduceSub, Int.reduceMul, Nat.reducePow, Int.reduceNegSucc, str, str_add _ _ hsz]
    unfold decI at k
    rw [if_pos (by omega)] at k
    exact .of k
theorem l1Int_c {i : Int} (hi : -9223372036854775807 ≤ i ∧ i ≤ 9223372036854775807) {h : H} {R : Ending → H → Prop} (k : R (.returned (.string ⟨(decI i).toArray⟩)) h) : HCalls Tryd.prog 55 #[.int .i64 i] h R := by
  refine HCalls_ir (args := [.int .i64 i]) Tryd.func55 ir55 ?_
  simp only [walk, lists, acts, mem, plain, seqs, maps, cells, resL, resV, intBin, ↓reduceIte, Nat.reduceAdd, Nat.reduceSub, Nat.reduceMul, Nat.reduceLeDiff, Nat.reduceEqDiff, Int.reduceToNat, Int.reduceEq, Int.reduceLT, Int.reduceLE, Int.reduceNeg, Int.reduceAdd, Int.reduceSub, Int.reduceMul, Nat.reducePow, Int.reduceNegSucc]
  refine ite_lt (fun c => ?_) fun c => ?_
  · refine raw_neg (n := i) (by simp only [walk, lists, acts, mem, plain, seqs, maps, cells, resL, resV, intBin, ↓reduceIte, Nat.reduceAdd, Nat.reduceSub, Nat.reduceMul, Nat.reduceLeDiff, Nat.reduceEqDiff, Int.reduceToNat, Int.reduceEq, Int.reduceLT, Int.reduceLE, Int.reduceNeg, Int.reduceAdd, Int.reduceSub, Int.reduceMul, Nat.reducePow, Int.reduceNegSucc]) ?_
    have e : IntKind.i64.wrap (0 - i) = -i := by rw [wrapI _ (by omega)]; omega
    simp only [walk, lists, acts, mem, plain, seqs, maps, cells, resL, resV, intBin, ↓reduceIte, Nat.reduceAdd, Nat.reduceSub, Nat.reduceMul, Nat.reduceLeDiff, Nat.reduceEqDiff, Int.reduceToNat, Int.reduceEq, Int.reduceLT, Int.reduceLE, Int.reduceNeg, Int.reduceAdd, Int.reduceSub, Int.reduceMul, Nat.reducePow, Int.reduceNegSucc, e]
    refine l6Dec_c (by unfold i64P; omega) ?_
    have hle := decI_len (i := -i) (by omega)
    have hsz : ([45] : List UInt8).length + (decI (-i)).length ≤ 9223372036854775807 := by simp only [List.length_cons, List.length_nil]; omega
    simp only [walk, lists, acts, mem, plain, seqs, maps, cells, resL, resV, intBin, ↓reduceIte, Nat.reduceAdd, Nat.reduceSub, Nat.reduceMul, Nat.reduceLeDiff, Nat.reduceEqDiff, Int.reduceToNat, Int.reduceEq, Int.reduceLT, Int.reduceLE, Int.reduceNeg, Int.reduceAdd, Int.reduceSub, Int.reduceMul, Nat.reducePow, Int.reduceNegSucc, str, str_add _ _ hsz]
    have e2 : decI i = 45 :: decI (-i) := by
      have e3 : decI i = 45 :: decN (-i).toNat := by unfold decI; rw [if_pos c]
      have e4 : decI (-i) = decN (-i).toNat := by unfold decI; rw [if_neg (by omega)]
      rw [e3, e4]
    rw [e2] at k
    exact .of k
  · refine l6Dec_c (by unfold i64P; omega) ?_
    simp only [walk, lists, acts, mem, plain, seqs, maps, cells, resL, resV, intBin, ↓reduceIte, Nat.reduceAdd, Nat.reduceSub, Nat.reduceMul, Nat.reduceLeDiff, Nat.reduceEqDiff, Int.reduceToNat, Int.reduceEq, Int.reduceLT, Int.reduceLE, Int.reduceNeg, Int.reduceAdd, Int.reduceSub, Int.reduceMul, Nat.reducePow, Int.reduceNegSucc]
    exact .of k

theorem l1Num_c {h : H} {s : List UInt8} (hs : s.length ≤ 4194304) {R : Ending → H → Prop}
    (k : ∀ (n : Int) (ok : Bool), (∀ m : Nat, numS s = some m → ok = true ∧ n = (m : Int)) → (numS s = none → ok = true → n < 0) → R (.returned (.tuple #[.int .i64 n, .bool ok])) h) :
    HCalls Tryd.prog 45 #[.string ⟨s.toArray⟩] h R := by
  refine HCalls_ir (args := [.string ⟨s.toArray⟩]) Tryd.func45 ir45 ?_
  have no : numS s = none → dP R (.returned (.tuple #[.int .i64 0, .bool false])) h := fun e => .of (k 0 false (fun m hm => by rw [e] at hm; cases hm) fun _ x => by cases x)
  have hno : (∀ m, numS s = some m → False) → numS s = none := fun f => by
    cases e : numS s with
    | none => rfl
    | some m => exact absurd e fun e => f m e
  cases s with
  | nil =>
    have hn : numS [] = none := hno fun m hm => by have := decN_pos m; have := congrArg List.length (numS_some hm).1; simp at this; omega
    simp only [walk, lists, acts, mem, plain, seqs, maps, cells, resL, resV, intBin, ↓reduceIte, Nat.reduceAdd, Nat.reduceSub, Nat.reduceMul, Nat.reduceLeDiff, Nat.reduceEqDiff, Int.reduceToNat, Int.reduceEq, Int.reduceLT, Int.reduceLE, Int.reduceNeg, Int.reduceAdd, Int.reduceSub, Int.reduceMul, Nat.reducePow, Int.reduceNegSucc, List.length_nil]
    refine ite_lt (fun c => absurd c (by decide)) fun _ => ?_
    exact ite_lt (fun _ => no hn) fun c => absurd c (by decide)
  | cons b t =>
  simp only [walk, lists, acts, mem, plain, seqs, maps, cells, resL, resV, intBin, ↓reduceIte, Nat.reduceAdd, Nat.reduceSub, Nat.reduceMul, Nat.reduceLeDiff, Nat.reduceEqDiff, Int.reduceToNat, Int.reduceEq, Int.reduceLT, Int.reduceLE, Int.reduceNeg, Int.reduceAdd, Int.reduceSub, Int.reduceMul, Nat.reducePow, Int.reduceNegSucc, List.length_cons, List.getElem?_cons_zero]
  refine ite_lt (fun c0 => ?_) fun c0 => absurd c0 (by omega)
  refine ite_pos (fun hb => ?_) fun hb => ?_
  · have hneg : numS (b :: t) = none := numS_none_of (b := b) List.mem_cons_self fun x => by unfold digP at x; omega
    refine ⟨by omega, ?_⟩
    refine ite_lt (fun c1 => no ?_) fun c1 => ?_
    · exact hneg
    refine ite_lt (fun c2 => no ?_) fun c2 => ?_
    · exact hneg
    refine vc_loop [7, 6] (fun n vs h' => ∃ (i : Nat), vs = [.int .i64 i, .int .i64 (valN (t.take i) : Nat)] ∧ h' = h ∧ (∀ b ∈ t.take i, digP b) ∧ i ≤ t.length ∧ n = t.length - i) t.length rfl
      ⟨0, rfl, rfl, by simp, by omega, rfl⟩ ?_
    rintro n f h' ⟨i, hv, rfl, hd, hi, rfl⟩
    simp only [List.map_cons, List.map_nil, List.cons.injEq, and_true] at hv
    simp only [walk, lists, acts, mem, plain, seqs, maps, cells, resL, resV, intBin, ↓reduceIte, Nat.reduceAdd, Nat.reduceSub, Nat.reduceMul, Nat.reduceLeDiff, Nat.reduceEqDiff, Int.reduceToNat, Int.reduceEq, Int.reduceLT, Int.reduceLE, Int.reduceNeg, Int.reduceAdd, Int.reduceSub, Int.reduceMul, Nat.reducePow, Int.reduceNegSucc, wr, hv.1, hv.2]
    refine ite_lt (fun c3 => ?_) fun c3 => ?_
    · have hi2 : i < t.length := by omega
      have hg : t[i]? = some t[i] := List.getElem?_eq_getElem hi2
      have hlt := valN_lt 5 (t.take i) (by rw [List.length_take]; omega) hd
      have e5 : (10 : Nat) ^ 5 = 100000 := by decide
      have hb := UInt8.toNat_lt t[i]
      have hbad : ¬ digP t[i] → numS (b :: t) = none := fun x => numS_none_of (List.mem_cons_of_mem _ (List.getElem_mem hi2)) x
      simp only [walk, lists, acts, mem, plain, seqs, maps, cells, resL, resV, intBin, ↓reduceIte, Nat.reduceAdd, Nat.reduceSub, Nat.reduceMul, Nat.reduceLeDiff, Nat.reduceEqDiff, Int.reduceToNat, Int.reduceEq, Int.reduceLT, Int.reduceLE, Int.reduceNeg, Int.reduceAdd, Int.reduceSub, Int.reduceMul, Nat.reducePow, Int.reduceNegSucc, wr, hv.1, hv.2, hg]
      refine ⟨by omega, ?_⟩
      refine ite_lt (fun c4 => no (hbad fun x => by unfold digP at x; omega)) fun c4 => ?_
      refine ⟨by omega, ?_⟩
      refine ite_lt (fun c5 => no (hbad fun x => by unfold digP at x; omega)) fun c5 => ?_
      have e1 : IntKind.u8.wrap ((t[i].toNat : Int) - 48) = ((t[i].toNat - 48 : Nat) : Int) := by rw [u8_wrap]; omega
      have e2 : (valN (t.take i) : Int) * 10 + ((t[i].toNat - 48 : Nat) : Int) = ((valN (t.take (i + 1)) : Nat) : Int) := by
        rw [List.take_succ_eq_append_getElem hi2, valN_app]; omega
      simp (disch := omega) only [walk, lists, acts, mem, plain, seqs, maps, cells, resL, resV, intBin, ↓reduceIte, Nat.reduceAdd, Nat.reduceSub, Nat.reduceMul, Nat.reduceLeDiff, Nat.reduceEqDiff, Int.reduceToNat, Int.reduceEq, Int.reduceLT, Int.reduceLE, Int.reduceNeg, Int.reduceAdd, Int.reduceSub, Int.reduceMul, Nat.reducePow, Int.reduceNegSucc, wrapI, e1, e2]
      refine ⟨by omega, t.length - (i + 1), by omega, _, .refl _, i + 1, by simp, rfl, fun b hb => ?_, by omega, rfl⟩
      rw [List.take_succ_eq_append_getElem hi2] at hb
      rcases List.mem_append.1 hb with hb | hb
      · exact hd b hb
      · rw [List.mem_singleton] at hb
        subst hb
        unfold digP
        omega
    · have hi2 : i = t.length := by omega
      subst hi2
      rw [List.take_length] at hd
      have hlt := valN_lt 5 t (by omega) hd
      have e5 : (10 : Nat) ^ 5 = 100000 := by decide
      simp only [walk, lists, acts, mem, plain, seqs, maps, cells, resL, resV, intBin, ↓reduceIte, Nat.reduceAdd, Nat.reduceSub, Nat.reduceMul, Nat.reduceLeDiff, Nat.reduceEqDiff, Int.reduceToNat, Int.reduceEq, Int.reduceLT, Int.reduceLE, Int.reduceNeg, Int.reduceAdd, Int.reduceSub, Int.reduceMul, Nat.reducePow, Int.reduceNegSucc, List.take_length]
      refine ite_pos (fun _ => ?_) fun x => absurd hb x
      refine raw_neg (n := ((valN t : Nat) : Int)) (by simp only [walk, lists, acts, mem, plain, seqs, maps, cells, resL, resV, intBin, ↓reduceIte, Nat.reduceAdd, Nat.reduceSub, Nat.reduceMul, Nat.reduceLeDiff, Nat.reduceEqDiff, Int.reduceToNat, Int.reduceEq, Int.reduceLT, Int.reduceLE, Int.reduceNeg, Int.reduceAdd, Int.reduceSub, Int.reduceMul, Nat.reducePow, Int.reduceNegSucc]) ?_
      have e : IntKind.i64.wrap (0 - ((valN t : Nat) : Int)) = -((valN t : Nat) : Int) := by rw [wrapI _ (by omega)]; omega
      simp only [walk, lists, acts, mem, plain, seqs, maps, cells, resL, resV, intBin, ↓reduceIte, Nat.reduceAdd, Nat.reduceSub, Nat.reduceMul, Nat.reduceLeDiff, Nat.reduceEqDiff, Int.reduceToNat, Int.reduceEq, Int.reduceLT, Int.reduceLE, Int.reduceNeg, Int.reduceAdd, Int.reduceSub, Int.reduceMul, Nat.reducePow, Int.reduceNegSucc, e]
      refine l1Int_c (by omega) ?_
      simp only [walk, lists, acts, mem, plain, seqs, maps, cells, resL, resV, intBin, ↓reduceIte, Nat.reduceAdd, Nat.reduceSub, Nat.reduceMul, Nat.reduceLeDiff, Nat.reduceEqDiff, Int.reduceToNat, Int.reduceEq, Int.reduceLT, Int.reduceLE, Int.reduceNeg, Int.reduceAdd, Int.reduceSub, Int.reduceMul, Nat.reducePow, Int.reduceNegSucc, strBin, str_inj]
      refine .of (k _ _ (fun m hm => by rw [hneg] at hm; cases hm) fun _ x => ?_)
      have x := of_decide_eq_true x
      rcases Nat.eq_zero_or_pos (valN t) with z | z
      · rw [z] at x
        have x2 := congrArg List.length x
        simp [decI, decN_small] at x2
        have : t.length = 0 := by rw [x2]; rfl
        omega
      · omega
  · obtain ⟨S, hS⟩ : ∃ S, S = b :: t := ⟨_, rfl⟩
    have hSl : S.length = t.length + 1 := by rw [hS]; rfl
    rw [← hS] at hno no hs k ⊢
    refine ite_lt (fun c1 => no ?_) fun c1 => ?_
    · exact hno fun m hm => by have := decN_pos m; have := congrArg List.length (numS_some hm).1; omega
    refine ite_lt (fun c2 => no ?_) fun c2 => ?_
    · exact hno fun m hm => by have := (decN_len5 m).2 (numS_some hm).2; have := congrArg List.length (numS_some hm).1; omega
    refine vc_loop [7, 6] (fun n vs h' => ∃ (i : Nat), vs = [.int .i64 i, .int .i64 (valN (S.take i) : Nat)] ∧ h' = h ∧ (∀ b ∈ S.take i, digP b) ∧ i ≤ S.length ∧ n = S.length - i) S.length rfl
      ⟨0, rfl, rfl, by simp, by omega, rfl⟩ ?_
    rintro n f h' ⟨i, hv, rfl, hd, hi, rfl⟩
    simp only [List.map_cons, List.map_nil, List.cons.injEq, and_true] at hv
    simp only [walk, lists, acts, mem, plain, seqs, maps, cells, resL, resV, intBin, ↓reduceIte, Nat.reduceAdd, Nat.reduceSub, Nat.reduceMul, Nat.reduceLeDiff, Nat.reduceEqDiff, Int.reduceToNat, Int.reduceEq, Int.reduceLT, Int.reduceLE, Int.reduceNeg, Int.reduceAdd, Int.reduceSub, Int.reduceMul, Nat.reducePow, Int.reduceNegSucc, wr, hv.1, hv.2]
    refine ite_lt (fun c3 => ?_) fun c3 => ?_
    · have hi2 : i < S.length := by omega
      have hg : S[i]? = some S[i] := List.getElem?_eq_getElem hi2
      have hlt := valN_lt 5 (S.take i) (by rw [List.length_take]; omega) hd
      have e5 : (10 : Nat) ^ 5 = 100000 := by decide
      have hb := UInt8.toNat_lt S[i]
      have hbad : ¬ digP S[i] → numS S = none := fun x => numS_none_of (List.getElem_mem hi2) x
      simp only [walk, lists, acts, mem, plain, seqs, maps, cells, resL, resV, intBin, ↓reduceIte, Nat.reduceAdd, Nat.reduceSub, Nat.reduceMul, Nat.reduceLeDiff, Nat.reduceEqDiff, Int.reduceToNat, Int.reduceEq, Int.reduceLT, Int.reduceLE, Int.reduceNeg, Int.reduceAdd, Int.reduceSub, Int.reduceMul, Nat.reducePow, Int.reduceNegSucc, wr, hv.1, hv.2, hg]
      refine ⟨by omega, ?_⟩
      refine ite_lt (fun c4 => no (hbad fun x => by unfold digP at x; omega)) fun c4 => ?_
      refine ⟨by omega, ?_⟩
      refine ite_lt (fun c5 => no (hbad fun x => by unfold digP at x; omega)) fun c5 => ?_
      have e1 : IntKind.u8.wrap ((S[i].toNat : Int) - 48) = ((S[i].toNat - 48 : Nat) : Int) := by rw [u8_wrap]; omega
      have e2 : (valN (S.take i) : Int) * 10 + ((S[i].toNat - 48 : Nat) : Int) = ((valN (S.take (i + 1)) : Nat) : Int) := by
        rw [List.take_succ_eq_append_getElem hi2, valN_app]; omega
      simp (disch := omega) only [walk, lists, acts, mem, plain, seqs, maps, cells, resL, resV, intBin, ↓reduceIte, Nat.reduceAdd, Nat.reduceSub, Nat.reduceMul, Nat.reduceLeDiff, Nat.reduceEqDiff, Int.reduceToNat, Int.reduceEq, Int.reduceLT, Int.reduceLE, Int.reduceNeg, Int.reduceAdd, Int.reduceSub, Int.reduceMul, Nat.reducePow, Int.reduceNegSucc, wrapI, e1, e2]
      refine ⟨by omega, S.length - (i + 1), by omega, _, .refl _, i + 1, by simp, rfl, fun b hb => ?_, by omega, rfl⟩
      rw [List.take_succ_eq_append_getElem hi2] at hb
      rcases List.mem_append.1 hb with hb | hb
      · exact hd b hb
      · rw [List.mem_singleton] at hb
        subst hb
        unfold digP
        omega
    · have hi2 : i = S.length := by omega
      subst hi2
      rw [List.take_length] at hd
      have hlt := valN_lt 5 S (by omega) hd
      have e5 : (10 : Nat) ^ 5 = 100000 := by decide
      simp only [walk, lists, acts, mem, plain, seqs, maps, cells, resL, resV, intBin, ↓reduceIte, Nat.reduceAdd, Nat.reduceSub, Nat.reduceMul, Nat.reduceLeDiff, Nat.reduceEqDiff, Int.reduceToNat, Int.reduceEq, Int.reduceLT, Int.reduceLE, Int.reduceNeg, Int.reduceAdd, Int.reduceSub, Int.reduceMul, Nat.reducePow, Int.reduceNegSucc, List.take_length]
      refine ite_pos (fun x => absurd x hb) fun _ => ?_
      refine l1Int_c (by omega) ?_
      simp only [walk, lists, acts, mem, plain, seqs, maps, cells, resL, resV, intBin, ↓reduceIte, Nat.reduceAdd, Nat.reduceSub, Nat.reduceMul, Nat.reduceLeDiff, Nat.reduceEqDiff, Int.reduceToNat, Int.reduceEq, Int.reduceLT, Int.reduceLE, Int.reduceNeg, Int.reduceAdd, Int.reduceSub, Int.reduceMul, Nat.reducePow, Int.reduceNegSucc, strBin, str_inj]
      rw [decI_nat]
      refine .of (k _ _ (fun m hm => ?_) fun x y => ?_)
      · have e := (numS_some hm).1
        have e2 : valN S = m := by rw [e, valN_dec]
        exact ⟨decide_eq_true (by rw [e2]; exact e.symm), by rw [e2]⟩
      · have y := of_decide_eq_true y
        unfold numS at x
        rw [if_pos ⟨y.symm, by omega⟩] at x
        cases x
theorem l1Cut_c {h : H} {s : List UInt8} {c : UInt8} (hs : s.length ≤ 4194304) {R : Ending → H → Prop} (k : ∀ v g, oLs 9 eT 1 v (splitB c s) g → Dj g h → R (.returned v) (g ++ h)) :
    HCalls Tryd.prog 24 #[.string ⟨s.toArray⟩, .int .u8 c.toNat] h R := by
  refine HCalls_ir (args := [.string ⟨s.toArray⟩, .int .u8 c.toNat]) Tryd.func24 ir24 ?_
  simp only [walk, lists, acts, mem, plain, seqs, maps, cells, resL, resV, intBin, ↓reduceIte, Nat.reduceAdd, Nat.reduceSub, Nat.reduceMul, Nat.reduceLeDiff, Nat.reduceEqDiff, Int.reduceToNat, Int.reduceEq, Int.reduceLT, Int.reduceLE, Int.reduceNeg, Int.reduceAdd, Int.reduceSub, Int.reduceMul, Nat.reducePow, Int.reduceNegSucc]
  refine newB_intro (o := blk (fl eT []) 9) fun j1 hj1 => ?_
  have o1 : oLs 9 eT 1 (.slice (some ⟨j1, 0, none⟩) 0 0) [] [(j1, blk (fl eT []) 9)] := oLs_new eT_len
  simp only [walk, lists, acts, mem, plain, seqs, maps, cells, resL, resV, intBin, ↓reduceIte, Nat.reduceAdd, Nat.reduceSub, Nat.reduceMul, Nat.reduceLeDiff, Nat.reduceEqDiff, Int.reduceToNat, Int.reduceEq, Int.reduceLT, Int.reduceLE, Int.reduceNeg, Int.reduceAdd, Int.reduceSub, Int.reduceMul, Nat.reducePow, Int.reduceNegSucc]
  refine vc_loop [7, 6, 5] (fun n vs h' => ∃ (i a : Nat) (v' : Value) (O : List (List UInt8)) (g : H), vs = [.int .i64 i, .int .i64 a, v'] ∧ h' = g ++ h ∧ Dj g h ∧ oLs 9 eT 1 v' O g ∧ O.length ≤ i ∧ a ≤ i ∧ i ≤ s.length ∧ splitB c s = O ++ splitB c (s.drop a) ∧ c ∉ (s.drop a).take (i - a) ∧ n = s.length - i) s.length rfl
    ⟨0, 0, _, [], _, rfl, rfl, Dj.one hj1, o1, by simp, by omega, by omega, by simp, by simp, rfl⟩ ?_
  rintro n f h' ⟨i, a, v', O, g, hv, rfl, dj, o, hO, ha, hi, hs1, hs2, rfl⟩
  simp only [List.map_cons, List.map_nil, List.cons.injEq, and_true] at hv
  simp only [walk, lists, acts, mem, plain, seqs, maps, cells, resL, resV, intBin, ↓reduceIte, Nat.reduceAdd, Nat.reduceSub, Nat.reduceMul, Nat.reduceLeDiff, Nat.reduceEqDiff, Int.reduceToNat, Int.reduceEq, Int.reduceLT, Int.reduceLE, Int.reduceNeg, Int.reduceAdd, Int.reduceSub, Int.reduceMul, Nat.reducePow, Int.reduceNegSucc, wr, hv.1, hv.2.1, hv.2.2]
  refine ite_lt (fun c1 => ?_) fun c1 => ?_
  · have hi2 : i < s.length := by omega
    have hg : s[i]? = some s[i] := List.getElem?_eq_getElem hi2
    simp only [walk, lists, acts, mem, plain, seqs, maps, cells, resL, resV, intBin, ↓reduceIte, Nat.reduceAdd, Nat.reduceSub, Nat.reduceMul, Nat.reduceLeDiff, Nat.reduceEqDiff, Int.reduceToNat, Int.reduceEq, Int.reduceLT, Int.reduceLE, Int.reduceNeg, Int.reduceAdd, Int.reduceSub, Int.reduceMul, Nat.reducePow, Int.reduceNegSucc, wr, hv.1, hv.2.1, hv.2.2, hg]
    refine ⟨by omega, ?_⟩
    refine ite_pos (fun e => ?_) fun e => ?_
    · have ec : s[i] = c := UInt8.toNat_inj.1 (by omega)
      refine ⟨⟨by omega, by omega, by omega⟩, ?_⟩
      refine newB_intro (o := blk (fl eT [(s.drop a).take (i - a)]) 9) fun j2 hj2 => ?_
      simp only [walk, lists, acts, mem, plain, seqs, maps, cells, resL, resV, intBin, ↓reduceIte, Nat.reduceAdd, Nat.reduceSub, Nat.reduceMul, Nat.reduceLeDiff, Nat.reduceEqDiff, Int.reduceToNat, Int.reduceEq, Int.reduceLT, Int.reduceLE, Int.reduceNeg, Int.reduceAdd, Int.reduceSub, Int.reduceMul, Nat.reducePow, Int.reduceNegSucc]
      refine app_leaf (g := g) (h := h) eT_len eT_one tStrs iStr (Sub.cons hj2 (Sub.refl _)) dj o (rL_lit (e := 9) eT_len [(s.drop a).take (i - a)]) (by simp; omega) (by simp; omega) fun v2 g2 o2 d2 => ?_
      simp (disch := omega) only [walk, lists, acts, mem, plain, seqs, maps, cells, resL, resV, intBin, ↓reduceIte, Nat.reduceAdd, Nat.reduceSub, Nat.reduceMul, Nat.reduceLeDiff, Nat.reduceEqDiff, Int.reduceToNat, Int.reduceEq, Int.reduceLT, Int.reduceLE, Int.reduceNeg, Int.reduceAdd, Int.reduceSub, Int.reduceMul, Nat.reducePow, Int.reduceNegSucc, wrapI]
      refine ⟨s.length - (i + 1), by omega, _, .refl _, i + 1, i + 1, v2, _, g2, by simp, rfl, d2, o2, by simp; omega, by omega, by omega, ?_, by simp, rfl⟩
      have e3 : splitB c (s.drop a) = (s.drop a).take (i - a) :: splitB c (s.drop (i + 1)) := by
        have e4 := take_mid s ha hi2
        rw [ec] at e4
        have e5 := splitB_app (s.drop (i + 1)) hs2
        rw [← e4] at e5
        exact e5
      rw [hs1, e3]
      simp
    · simp (disch := omega) only [walk, lists, acts, mem, plain, seqs, maps, cells, resL, resV, intBin, ↓reduceIte, Nat.reduceAdd, Nat.reduceSub, Nat.reduceMul, Nat.reduceLeDiff, Nat.reduceEqDiff, Int.reduceToNat, Int.reduceEq, Int.reduceLT, Int.reduceLE, Int.reduceNeg, Int.reduceAdd, Int.reduceSub, Int.reduceMul, Nat.reducePow, Int.reduceNegSucc, wrapI]
      refine ⟨s.length - (i + 1), by omega, _, .refl _, i + 1, a, v', O, g, by simp, rfl, dj, o, by omega, by omega, by omega, hs1, ?_, rfl⟩
      rw [take_mid_one s ha hi2]
      intro m
      rcases List.mem_append.1 m with m | m
      · exact hs2 m
      · rw [List.mem_singleton] at m
        exact e (by rw [m])
  · have hi2 : i = s.length := by omega
    subst hi2
    refine ⟨⟨by omega, by omega⟩, newB_intro (o := blk (fl eT [s.drop a]) 9) fun j2 hj2 => ?_⟩
    simp only [walk, lists, acts, mem, plain, seqs, maps, cells, resL, resV, intBin, ↓reduceIte, Nat.reduceAdd, Nat.reduceSub, Nat.reduceMul, Nat.reduceLeDiff, Nat.reduceEqDiff, Int.reduceToNat, Int.reduceEq, Int.reduceLT, Int.reduceLE, Int.reduceNeg, Int.reduceAdd, Int.reduceSub, Int.reduceMul, Nat.reducePow, Int.reduceNegSucc]
    refine app_leaf (g := g) (h := h) eT_len eT_one tStrs iStr (Sub.cons hj2 (Sub.refl _)) dj o (rL_lit (e := 9) eT_len [s.drop a]) (by simp; omega) (by simp; omega) fun v2 g2 o2 d2 => ?_
    simp only [walk, lists, acts, mem, plain, seqs, maps, cells, resL, resV, intBin, ↓reduceIte, Nat.reduceAdd, Nat.reduceSub, Nat.reduceMul, Nat.reduceLeDiff, Nat.reduceEqDiff, Int.reduceToNat, Int.reduceEq, Int.reduceLT, Int.reduceLE, Int.reduceNeg, Int.reduceAdd, Int.reduceSub, Int.reduceMul, Nat.reducePow, Int.reduceNegSucc]
    have e1 : (s.drop a).take (s.length - a) = s.drop a := List.take_of_length_le (by rw [List.length_drop]; omega)
    rw [e1] at hs2
    have e2 : splitB c s = O ++ [s.drop a] := by rw [hs1, splitB_none hs2]
    rw [← e2] at o2
    exact .of (k v2 g2 o2 d2)
end Go.Proofs.YtdlgaidjlepepaaDoor
end
