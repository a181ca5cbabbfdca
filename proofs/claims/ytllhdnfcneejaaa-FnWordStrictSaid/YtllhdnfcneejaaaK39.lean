/- Parts of the proof, put together: T10, P3, T11, T12, T4, T13, T14, T15. -/
import Derived.Test.YtllhdnfcneejaaaK38
import Derived.Test.YtllhdnfcneejaaaK35
import Derived.Test.YtllhdnfcneejaaaK37
/- How the reference writes numbers. -/
section
set_option linter.unusedVariables false
set_option linter.unusedSimpArgs false
set_option maxRecDepth 20000
attribute [local irreducible] Go.Tk.vc Go.Tk.vops Go.Tk.vdr Go.Tk.vop Go.Tk.vfl Go.Tk.HCalls
namespace Go.Proofs.Ytllhdnfcneejaaa
open Go Go.Tk

theorem tBytes : Try.prog.underlying 22 = some (.slice 5) := by kernel_rfl
theorem tInts : Try.prog.underlying 23 = some (.slice 3) := by kernel_rfl
theorem tPen : Try.prog.underlying 75 = some (.slice 5) := by kernel_rfl
theorem tPairs : Try.prog.underlying 24 = some (.slice 69) := by kernel_rfl
theorem tText : Try.prog.underlying 9 = some .string := by kernel_rfl
theorem tByte : Try.prog.underlying 5 = some (.int .u8) := by kernel_rfl
theorem iByte : InfoIs Try.prog 5 1 1 := infoB_is (by kernel_rfl)
theorem iInt : InfoIs Try.prog 3 1 8 := infoB_is (by kernel_rfl)
theorem iPair : InfoIs Try.prog 69 2 16 := infoB_is (by kernel_rfl)

theorem l13Num_c {g h : H} {v : Value} {l : List UInt8} {n : Int} (o : oLs 5 eB 1 v l g) (dj : Dj g h) (hl : l.length ≤ 35184372088832) (hn : -1099511627776 ≤ n ∧ n ≤ 1099511627776) {R : Ending → H → Prop}
    (k : ∀ v' g', oLs 5 eB 1 v' (l ++ encI n) g' → Dj g' h → R (.returned v') (g' ++ h)) : HCalls Try.prog 41 #[v, .int .i64 n] (g ++ h) R := by
  refine HCalls_ir (args := [v, .int .i64 n]) Try.func41 ir41 ?_
  simp only [walk, lists, acts, mem, plain, seqs, maps, cells, resL, resV, intBin, ↓reduceIte, Nat.reduceAdd, Nat.reduceSub, Nat.reduceMul, Nat.reduceLeDiff, Nat.reduceEqDiff, Int.reduceToNat, Int.reduceEq, Int.reduceLT, Int.reduceLE, Int.reduceNeg, Int.reduceAdd, Int.reduceSub, Int.reduceMul, Nat.reducePow, Int.reduceNegSucc]
  have hzb : zig n ≤ 2199023255552 := by unfold zig; split <;> omega
  refine ite_lt (fun c0 => ?_) fun c0 => ?_
  · have hz : (-2 : Int) * n - 1 = (zig n : Int) := by unfold zig; rw [if_pos c0]; omega
    simp (disch := omega) only [wrapI, hz]
    refine vc_loop [0, 1] (fun n' vs h' => ∃ (m : Nat) (v' : Value) (l' : List UInt8) (g' : H), vs = [v', .int .i64 m] ∧ h' = g' ++ h ∧ Dj g' h ∧ oLs 5 eB 1 v' l' g' ∧ l' ++ encN m = l ++ encI n ∧ m ≤ zig n ∧ m = n') (zig n) rfl ⟨zig n, v, l, g, rfl, rfl, dj, o, rfl, Nat.le_refl _, rfl⟩ ?_
    rintro n' f h' ⟨m, v', l', g', hv, rfl, dj', o', hx, hm, rfl⟩
    simp only [List.map_cons, List.map_nil, List.cons.injEq, and_true] at hv
    have hlen : l'.length ≤ 40000000000000 := by
      have e1 := congrArg List.length hx
      have e2 := encN_le (zig n)
      simp only [List.length_append, encI] at e1
      omega
    have hm128 : (128 : Int) + ((m % 128 : Nat) : Int) = ((128 + m % 128 : Nat) : Int) := by omega
    simp (disch := omega) only [walk, lists, acts, mem, plain, seqs, maps, cells, resL, resV, intBin, ↓reduceIte, Nat.reduceAdd, Nat.reduceSub, Nat.reduceMul, Nat.reduceLeDiff, Nat.reduceEqDiff, Int.reduceToNat, Int.reduceEq, Int.reduceLT, Int.reduceLE, Int.reduceNeg, Int.reduceAdd, Int.reduceSub, Int.reduceMul, Nat.reducePow, Int.reduceNegSucc, wr, hv.1, hv.2, tm128, td128, wrapI, hm128, u8_of]
    refine ite_lt (fun c1 => ?_) fun c1 => ?_
    · refine newB_intro fun j hj => ?_
      simp only [walk, lists, acts, mem, plain, seqs, maps, cells, resL, resV, intBin, ↓reduceIte, Nat.reduceAdd, Nat.reduceSub, Nat.reduceMul, Nat.reduceLeDiff, Nat.reduceEqDiff, Int.reduceToNat, Int.reduceEq, Int.reduceLT, Int.reduceLE, Int.reduceNeg, Int.reduceAdd, Int.reduceSub, Int.reduceMul, Nat.reducePow, Int.reduceNegSucc]
      refine app_leaf (M := (j, blk (fl eB [UInt8.ofNat (128 + m % 128)]) 5) :: (g' ++ h)) eB_len eB_one tBytes iByte (Sub.cons hj (Sub.refl _)) dj' o' (rB_lit [UInt8.ofNat (128 + m % 128)]) (by simp; omega) (by simp; omega) fun v2 g2 o2 d2 => ?_
      simp (disch := omega) only [walk, lists, acts, mem, plain, seqs, maps, cells, resL, resV, intBin, ↓reduceIte, Nat.reduceAdd, Nat.reduceSub, Nat.reduceMul, Nat.reduceLeDiff, Nat.reduceEqDiff, Int.reduceToNat, Int.reduceEq, Int.reduceLT, Int.reduceLE, Int.reduceNeg, Int.reduceAdd, Int.reduceSub, Int.reduceMul, Nat.reducePow, Int.reduceNegSucc, tm128, td128, wrapI]
      refine ⟨m / 128, by omega, _, .refl _, m / 128, v2, _, g2, rfl, rfl, d2, o2, ?_, by omega, rfl⟩
      rw [← hx, encN_ge (by omega : ¬ m < 128)]; simp
    · refine newB_intro fun j hj => ?_
      simp only [walk, lists, acts, mem, plain, seqs, maps, cells, resL, resV, intBin, ↓reduceIte, Nat.reduceAdd, Nat.reduceSub, Nat.reduceMul, Nat.reduceLeDiff, Nat.reduceEqDiff, Int.reduceToNat, Int.reduceEq, Int.reduceLT, Int.reduceLE, Int.reduceNeg, Int.reduceAdd, Int.reduceSub, Int.reduceMul, Nat.reducePow, Int.reduceNegSucc]
      refine app_leaf (M := (j, blk (fl eB [UInt8.ofNat m]) 5) :: (g' ++ h)) eB_len eB_one tBytes iByte (Sub.cons hj (Sub.refl _)) dj' o' (rB_lit [UInt8.ofNat m]) (by simp; omega) (by simp; omega) fun v2 g2 o2 d2 => ?_
      simp only [walk, lists, acts, mem, plain, seqs, maps, cells, resL, resV, intBin, ↓reduceIte, Nat.reduceAdd, Nat.reduceSub, Nat.reduceMul, Nat.reduceLeDiff, Nat.reduceEqDiff, Int.reduceToNat, Int.reduceEq, Int.reduceLT, Int.reduceLE, Int.reduceNeg, Int.reduceAdd, Int.reduceSub, Int.reduceMul, Nat.reducePow, Int.reduceNegSucc]
      refine .of (k v2 g2 ?_ d2)
      rw [← hx, encN_lt (by omega : m < 128)]; exact o2
  · have hz : (2 : Int) * n = (zig n : Int) := by unfold zig; rw [if_neg (by omega)]; omega
    simp (disch := omega) only [wrapI, hz]
    refine vc_loop [0, 1] (fun n' vs h' => ∃ (m : Nat) (v' : Value) (l' : List UInt8) (g' : H), vs = [v', .int .i64 m] ∧ h' = g' ++ h ∧ Dj g' h ∧ oLs 5 eB 1 v' l' g' ∧ l' ++ encN m = l ++ encI n ∧ m ≤ zig n ∧ m = n') (zig n) rfl ⟨zig n, v, l, g, rfl, rfl, dj, o, rfl, Nat.le_refl _, rfl⟩ ?_
    rintro n' f h' ⟨m, v', l', g', hv, rfl, dj', o', hx, hm, rfl⟩
    simp only [List.map_cons, List.map_nil, List.cons.injEq, and_true] at hv
    have hlen : l'.length ≤ 40000000000000 := by
      have e1 := congrArg List.length hx
      have e2 := encN_le (zig n)
      simp only [List.length_append, encI] at e1
      omega
    have hm128 : (128 : Int) + ((m % 128 : Nat) : Int) = ((128 + m % 128 : Nat) : Int) := by omega
    simp (disch := omega) only [walk, lists, acts, mem, plain, seqs, maps, cells, resL, resV, intBin, ↓reduceIte, Nat.reduceAdd, Nat.reduceSub, Nat.reduceMul, Nat.reduceLeDiff, Nat.reduceEqDiff, Int.reduceToNat, Int.reduceEq, Int.reduceLT, Int.reduceLE, Int.reduceNeg, Int.reduceAdd, Int.reduceSub, Int.reduceMul, Nat.reducePow, Int.reduceNegSucc, wr, hv.1, hv.2, tm128, td128, wrapI, hm128, u8_of]
    refine ite_lt (fun c1 => ?_) fun c1 => ?_
    · refine newB_intro fun j hj => ?_
      simp only [walk, lists, acts, mem, plain, seqs, maps, cells, resL, resV, intBin, ↓reduceIte, Nat.reduceAdd, Nat.reduceSub, Nat.reduceMul, Nat.reduceLeDiff, Nat.reduceEqDiff, Int.reduceToNat, Int.reduceEq, Int.reduceLT, Int.reduceLE, Int.reduceNeg, Int.reduceAdd, Int.reduceSub, Int.reduceMul, Nat.reducePow, Int.reduceNegSucc]
      refine app_leaf (M := (j, blk (fl eB [UInt8.ofNat (128 + m % 128)]) 5) :: (g' ++ h)) eB_len eB_one tBytes iByte (Sub.cons hj (Sub.refl _)) dj' o' (rB_lit [UInt8.ofNat (128 + m % 128)]) (by simp; omega) (by simp; omega) fun v2 g2 o2 d2 => ?_
      simp (disch := omega) only [walk, lists, acts, mem, plain, seqs, maps, cells, resL, resV, intBin, ↓reduceIte, Nat.reduceAdd, Nat.reduceSub, Nat.reduceMul, Nat.reduceLeDiff, Nat.reduceEqDiff, Int.reduceToNat, Int.reduceEq, Int.reduceLT, Int.reduceLE, Int.reduceNeg, Int.reduceAdd, Int.reduceSub, Int.reduceMul, Nat.reducePow, Int.reduceNegSucc, tm128, td128, wrapI]
      refine ⟨m / 128, by omega, _, .refl _, m / 128, v2, _, g2, rfl, rfl, d2, o2, ?_, by omega, rfl⟩
      rw [← hx, encN_ge (by omega : ¬ m < 128)]; simp
    · refine newB_intro fun j hj => ?_
      simp only [walk, lists, acts, mem, plain, seqs, maps, cells, resL, resV, intBin, ↓reduceIte, Nat.reduceAdd, Nat.reduceSub, Nat.reduceMul, Nat.reduceLeDiff, Nat.reduceEqDiff, Int.reduceToNat, Int.reduceEq, Int.reduceLT, Int.reduceLE, Int.reduceNeg, Int.reduceAdd, Int.reduceSub, Int.reduceMul, Nat.reducePow, Int.reduceNegSucc]
      refine app_leaf (M := (j, blk (fl eB [UInt8.ofNat m]) 5) :: (g' ++ h)) eB_len eB_one tBytes iByte (Sub.cons hj (Sub.refl _)) dj' o' (rB_lit [UInt8.ofNat m]) (by simp; omega) (by simp; omega) fun v2 g2 o2 d2 => ?_
      simp only [walk, lists, acts, mem, plain, seqs, maps, cells, resL, resV, intBin, ↓reduceIte, Nat.reduceAdd, Nat.reduceSub, Nat.reduceMul, Nat.reduceLeDiff, Nat.reduceEqDiff, Int.reduceToNat, Int.reduceEq, Int.reduceLT, Int.reduceLE, Int.reduceNeg, Int.reduceAdd, Int.reduceSub, Int.reduceMul, Nat.reducePow, Int.reduceNegSucc]
      refine .of (k v2 g2 ?_ d2)
      rw [← hx, encN_lt (by omega : m < 128)]; exact o2
end Go.Proofs.Ytllhdnfcneejaaa
end

/- Words as bytes. -/
section
set_option linter.unusedVariables false
set_option linter.unusedSimpArgs false
namespace Go.Tk
open Go

def encIs (l : List Int) : List UInt8 := (l.map encI).flatten
theorem encIs_nil : encIs [] = [] := rfl
theorem encIs_cons (n : Int) (l : List Int) : encIs (n :: l) = encI n ++ encIs l := by simp [encIs]
theorem encIs_app (l m : List Int) : encIs (l ++ m) = encIs l ++ encIs m := by simp [encIs]
theorem encIs_one (n : Int) : encIs [n] = encI n := by simp [encIs]
def smallP (n : Int) : Prop := -9999 ≤ n ∧ n ≤ 9999
theorem encI_len {n : Int} (h : -1000000 ≤ n ∧ n ≤ 1000000) : (encI n).length ≤ 3 := encN_len3 (by have := zig_lt (n := n) (b := 1000001) (by omega); omega)
theorem encIs_len {l : List Int} (h : allP smallP l) : (encIs l).length ≤ 3 * l.length := by
  induction l with
  | nil => simp [encIs]
  | cons a l ih =>
    rw [encIs_cons, List.length_append, List.length_cons]
    have h1 := ih (fun x hx => h x (List.mem_cons_of_mem _ hx))
    have h2 : smallP a := h a List.mem_cons_self
    have h3 := encI_len (n := a) ⟨by have := h2.1; omega, by have := h2.2; omega⟩
    omega
def flatP (l : List (Int × Int)) : List Int := (l.map fun p => [p.1, p.2]).flatten
theorem flatP_nil : flatP [] = [] := rfl
theorem flatP_app (l m : List (Int × Int)) : flatP (l ++ m) = flatP l ++ flatP m := by simp [flatP]
theorem flatP_one (p : Int × Int) : flatP [p] = [p.1, p.2] := rfl
theorem flatP_cons (p : Int × Int) (l : List (Int × Int)) : flatP (p :: l) = p.1 :: p.2 :: flatP l := by simp [flatP]
def yesN (b : Bool) : Int := if b then 1 else 0
def headW (w : DWord) : List Int := [w.kind, w.from_, w.to, w.stamp, w.try_, w.what, yesN w.yes, w.code, w.call.session, w.call.number, w.call.kind, w.call.slot, w.call.to, (w.call.text.length : Int)]
def pack (w : DWord) : List UInt8 := encIs (headW w) ++ w.call.text ++ encIs ((w.slots.length : Int) :: w.slots) ++ encIs ((w.vals.length : Int) :: w.vals) ++ encIs ((w.pairs.length : Int) :: flatP w.pairs)
theorem take_app_one {α : Type} {l : List α} {i : Nat} (h : i < l.length) : l.take (i + 1) = l.take i ++ [l[i]] := List.take_succ_eq_append_getElem h

theorem slotsP_small {l : List Int} (h : slotsP l) : allP smallP l := fun x hx => by
  have := h.1 x hx
  simp only [slotP, inP] at this
  exact ⟨by omega, by omega⟩
theorem valsP_small {l : List Int} (h : valsP l) : allP smallP l := fun x hx => by
  have := h.2 x hx
  simp only [valP, inP] at this
  exact ⟨by omega, by omega⟩
theorem pairsP_small {l : List (Int × Int)} (h : pairsP l) {x : Int × Int} (hx : x ∈ l) : smallP x.1 ∧ smallP x.2 := by
  have := h.2.1 x hx
  simp only [pairP, keyP, valP, inP] at this
  exact ⟨⟨by omega, by omega⟩, ⟨by omega, by omega⟩⟩
theorem place_small {n : Int} (h : placeP n) : smallP n := by
  rcases h with h | h | h
  · simp only [houseP, inP] at h; exact ⟨by omega, by omega⟩
  · exact ⟨by omega, by omega⟩
  · simp only [inP] at h; exact ⟨by omega, by omega⟩
theorem headW_small {w : DWord} (h : wordP w) : allP smallP (headW w) := by
  obtain ⟨h1, h2, h3, h4, h5, h6, _, _, h7, _, g1, g2, g3, g4, g5, g6⟩ := h
  have p2 := place_small h2
  have p3 := place_small h3
  simp only [inP, stampP] at *
  have hy : smallP (yesN w.yes) := by unfold yesN smallP; split <;> omega
  intro x hx
  simp only [headW, List.mem_cons, List.not_mem_nil, or_false] at hx
  rcases hx with rfl | rfl | rfl | rfl | rfl | rfl | rfl | rfl | rfl | rfl | rfl | rfl | rfl | rfl <;> first | assumption | exact ⟨by omega, by omega⟩
end Go.Tk
end

/- How the reference writes words. -/
section
set_option linter.unusedVariables false
set_option linter.unusedSimpArgs false
set_option maxRecDepth 20000
attribute [local irreducible] Go.Tk.vc Go.Tk.vops Go.Tk.vdr Go.Tk.vop Go.Tk.vfl Go.Tk.HCalls
namespace Go.Proofs.Ytllhdnfcneejaaa
open Go Go.Tk

theorem l13Nums_c {g h : H} {v y : Value} {l : List UInt8} {ns : List Int} (o : oLs 5 eB 1 v l g) (dj : Dj g h) (r : rInts h y ns) (hl : l.length ≤ 17592186044416) (hs : allP smallP ns) (hn : ns.length ≤ 1099511627776) {R : Ending → H → Prop}
    (k : ∀ v' g', oLs 5 eB 1 v' (l ++ encIs ((ns.length : Int) :: ns)) g' → Dj g' h → R (.returned v') (g' ++ h)) : HCalls Try.prog 42 #[v, y] (g ++ h) R := by
  refine HCalls_ir (args := [v, y]) Try.func42 ir42 ?_
  simp only [walk, lists, acts, mem, plain, seqs, maps, cells, resL, resV, intBin, ↓reduceIte, Nat.reduceAdd, Nat.reduceSub, Nat.reduceMul, Nat.reduceLeDiff, Nat.reduceEqDiff, Int.reduceToNat, Int.reduceEq, Int.reduceLT, Int.reduceLE, Int.reduceNeg, Int.reduceAdd, Int.reduceSub, Int.reduceMul, Nat.reducePow, Int.reduceNegSucc, r.len]
  refine l13Num_c o dj (by omega) (by omega) fun v1 g1 o1 d1 => ?_
  simp only [walk, lists, acts, mem, plain, seqs, maps, cells, resL, resV, intBin, ↓reduceIte, Nat.reduceAdd, Nat.reduceSub, Nat.reduceMul, Nat.reduceLeDiff, Nat.reduceEqDiff, Int.reduceToNat, Int.reduceEq, Int.reduceLT, Int.reduceLE, Int.reduceNeg, Int.reduceAdd, Int.reduceSub, Int.reduceMul, Nat.reducePow, Int.reduceNegSucc, r.len]
  have h0 : (encI (ns.length : Int)).length ≤ 2 * ns.length + 1 := by
    have := encN_le (zig (ns.length : Int))
    have e : zig (ns.length : Int) = 2 * ns.length := by unfold zig; rw [if_neg (by omega)]; omega
    unfold encI
    rw [e] at this ⊢; exact this
  refine vc_loop [0, 5] (fun n' vs h' => ∃ (i : Nat) (v' : Value) (g' : H), vs = [v', .int .i64 i] ∧ h' = g' ++ h ∧ Dj g' h ∧ oLs 5 eB 1 v' (l ++ encIs ((ns.length : Int) :: ns.take i)) g' ∧ i ≤ ns.length ∧ n' = ns.length - i) ns.length rfl
    ⟨0, v1, g1, rfl, rfl, d1, by rw [List.take_zero, encIs_one]; exact o1, by omega, rfl⟩ ?_
  rintro n' f h' ⟨i, v', g', hv, rfl, dj', o', hi, rfl⟩
  simp only [List.map_cons, List.map_nil, List.cons.injEq, and_true] at hv
  simp only [walk, lists, acts, mem, plain, seqs, maps, cells, resL, resV, intBin, ↓reduceIte, Nat.reduceAdd, Nat.reduceSub, Nat.reduceMul, Nat.reduceLeDiff, Nat.reduceEqDiff, Int.reduceToNat, Int.reduceEq, Int.reduceLT, Int.reduceLE, Int.reduceNeg, Int.reduceAdd, Int.reduceSub, Int.reduceMul, Nat.reducePow, Int.reduceNegSucc, wr, hv.1, hv.2, r.len]
  refine ite_lt (fun c1 => ?_) fun c1 => ?_
  · have hi2 : i < ns.length := by omega
    refine idx_leaf (i := i) eI_len (r.sub (Sub.right dj')) rfl hi2 fun b1 o1 e1 => ?_
    simp only [walk, lists, acts, mem, plain, seqs, maps, cells, resL, resV, intBin, ↓reduceIte, Nat.reduceAdd, Nat.reduceSub, Nat.reduceMul, Nat.reduceLeDiff, Nat.reduceEqDiff, Int.reduceToNat, Int.reduceEq, Int.reduceLT, Int.reduceLE, Int.reduceNeg, Int.reduceAdd, Int.reduceSub, Int.reduceMul, Nat.reducePow, Int.reduceNegSucc, hread_1 e1]
    have sm : smallP ns[i] := hs _ (List.getElem_mem hi2)
    have hle : (encIs ((ns.length : Int) :: ns.take i)).length ≤ 5 * ns.length + 1 := by
      rw [encIs_cons, List.length_append]
      have := encIs_len (l := ns.take i) (fun x hx => hs x (List.mem_of_mem_take hx))
      rw [List.length_take] at this
      omega
    refine l13Num_c o' dj' (by rw [List.length_append]; omega) ⟨by have := sm.1; omega, by have := sm.2; omega⟩ fun v2 g2 o2 d2 => ?_
    simp (disch := omega) only [walk, lists, acts, mem, plain, seqs, maps, cells, resL, resV, intBin, ↓reduceIte, Nat.reduceAdd, Nat.reduceSub, Nat.reduceMul, Nat.reduceLeDiff, Nat.reduceEqDiff, Int.reduceToNat, Int.reduceEq, Int.reduceLT, Int.reduceLE, Int.reduceNeg, Int.reduceAdd, Int.reduceSub, Int.reduceMul, Nat.reducePow, Int.reduceNegSucc, wrapI]
    refine ⟨ns.length - (i + 1), by omega, _, .refl _, i + 1, v2, g2, by simp, rfl, d2, ?_, by omega, rfl⟩
    rw [take_app_one hi2, ← List.cons_append, encIs_app, encIs_one, ← List.append_assoc]; exact o2
  · have : ns.take i = ns := List.take_of_length_le (by omega)
    rw [this] at o'
    exact .of (k v' g' o' dj')

theorem l13Yes_c {b : Bool} {h : H} {R : Ending → H → Prop} (k : R (.returned (.int .i64 (yesN b))) h) : HCalls Try.prog 40 #[.bool b] h R := by
  refine HCalls_ir (args := [.bool b]) Try.func40 ir40 ?_
  simp only [walk, lists, acts, mem, plain, seqs, maps, cells, resL, resV, intBin, ↓reduceIte, Nat.reduceAdd, Nat.reduceSub, Nat.reduceMul, Nat.reduceLeDiff, Nat.reduceEqDiff, Int.reduceToNat, Int.reduceEq, Int.reduceLT, Int.reduceLE, Int.reduceNeg, Int.reduceAdd, Int.reduceSub, Int.reduceMul, Nat.reducePow, Int.reduceNegSucc]
  cases b
  · simp only [walk, lists, acts, mem, plain, seqs, maps, cells, resL, resV, intBin, ↓reduceIte, Nat.reduceAdd, Nat.reduceSub, Nat.reduceMul, Nat.reduceLeDiff, Nat.reduceEqDiff, Int.reduceToNat, Int.reduceEq, Int.reduceLT, Int.reduceLE, Int.reduceNeg, Int.reduceAdd, Int.reduceSub, Int.reduceMul, Nat.reducePow, Int.reduceNegSucc]; exact .of k
  · simp only [walk, lists, acts, mem, plain, seqs, maps, cells, resL, resV, intBin, ↓reduceIte, Nat.reduceAdd, Nat.reduceSub, Nat.reduceMul, Nat.reduceLeDiff, Nat.reduceEqDiff, Int.reduceToNat, Int.reduceEq, Int.reduceLT, Int.reduceLE, Int.reduceNeg, Int.reduceAdd, Int.reduceSub, Int.reduceMul, Nat.reducePow, Int.reduceNegSucc]; exact .of k
end Go.Proofs.Ytllhdnfcneejaaa
end

/- How the reference writes words. -/
section
set_option linter.unusedVariables false
set_option linter.unusedSimpArgs false
set_option maxRecDepth 20000
attribute [local irreducible] Go.Tk.vc Go.Tk.vops Go.Tk.vdr Go.Tk.vop Go.Tk.vfl Go.Tk.HCalls
namespace Go.Proofs.Ytllhdnfcneejaaa
open Go Go.Tk

theorem encIs_hd {l : List Int} {n : Nat} (hs : allP smallP l) : (encIs ((n : Int) :: l)).length ≤ 2 * n + 1 + 3 * l.length := by
  rw [encIs_cons, List.length_append]
  have h1 := encN_le (zig (n : Int))
  have e : zig (n : Int) = 2 * n := by unfold zig; rw [if_neg (by omega)]; omega
  have h2 := encIs_len hs
  unfold encI
  rw [e] at h1 ⊢
  omega
theorem flatP_small {l : List (Int × Int)} (h : ∀ x ∈ l, smallP x.1 ∧ smallP x.2) : allP smallP (flatP l) := by
  induction l with
  | nil => exact allP_nil _
  | cons a l ih =>
    rw [flatP_cons]
    intro x hx
    rcases List.mem_cons.1 hx with rfl | hx
    · exact (h a List.mem_cons_self).1
    · rcases List.mem_cons.1 hx with rfl | hx
      · exact (h a List.mem_cons_self).2
      · exact ih (fun y hy => h y (List.mem_cons_of_mem _ hy)) x hx
theorem flatP_len (l : List (Int × Int)) : (flatP l).length = 2 * l.length := by
  induction l with
  | nil => rfl
  | cons a l ih => rw [flatP_cons]; simp only [List.length_cons, ih]; omega

theorem specPack_c {h : H} {w : DWord} {s p v : Value} (r : sWord h w s p v) (hw : wLen w) {R : Ending → H → Prop}
    (kok : wordP w → ∀ v' g', oLs 5 eB 1 v' (pack w) g' → Dj g' h → R (.returned v') (g' ++ h))
    (kno : ¬ wordP w → ∀ v' g', oLs 5 eB 1 v' [] g' → Dj g' h → R (.returned v') (g' ++ h)) :
    HCalls Try.prog 16 #[.agg (cWord w s p v).toArray] h R := by
  refine HCalls_ir (args := [.agg (cWord w s p v).toArray]) Try.func16 ir16 ?_
  simp only [walk, lists, acts, mem, plain, seqs, maps, cells, resL, resV, intBin, ↓reduceIte, Nat.reduceAdd, Nat.reduceSub, Nat.reduceMul, Nat.reduceLeDiff, Nat.reduceEqDiff, Int.reduceToNat, Int.reduceEq, Int.reduceLT, Int.reduceLE, Int.reduceNeg, Int.reduceAdd, Int.reduceSub, Int.reduceMul, Nat.reducePow, Int.reduceNegSucc, wWord]
  refine newB_intro fun j hj => ?_
  have sj := fun o => Sub.cons (o := o) hj (Sub.refl h)
  simp only [walk, lists, acts, mem, plain, seqs, maps, cells, resL, resV, intBin, ↓reduceIte, Nat.reduceAdd, Nat.reduceSub, Nat.reduceMul, Nat.reduceLeDiff, Nat.reduceEqDiff, Int.reduceToNat, Int.reduceEq, Int.reduceLT, Int.reduceLE, Int.reduceNeg, Int.reduceAdd, Int.reduceSub, Int.reduceMul, Nat.reducePow, Int.reduceNegSucc, wWord]
  refine newB_intro fun j2 hj2 => ?_
  have n2 := fresh hj2
  have sj2 := fun o => Sub.cons (o := o) hj2 (sj _)
  simp only [walk, lists, acts, mem, plain, seqs, maps, cells, resL, resV, intBin, ↓reduceIte, Nat.reduceAdd, Nat.reduceSub, Nat.reduceMul, Nat.reduceLeDiff, Nat.reduceEqDiff, Int.reduceToNat, Int.reduceEq, Int.reduceLT, Int.reduceLE, Int.reduceNeg, Int.reduceAdd, Int.reduceSub, Int.reduceMul, Nat.reducePow, Int.reduceNegSucc, wWord, n2.1, n2.2.1]
  refine specWordOk_c (w := w) ⟨r.1.sub (sj2 _), r.2.1.sub (sj2 _), r.2.2.sub (sj2 _)⟩ hw fun b hb => ?_
  simp only [walk, lists, acts, mem, plain, seqs, maps, cells, resL, resV, intBin, ↓reduceIte, Nat.reduceAdd, Nat.reduceSub, Nat.reduceMul, Nat.reduceLeDiff, Nat.reduceEqDiff, Int.reduceToNat, Int.reduceEq, Int.reduceLT, Int.reduceLE, Int.reduceNeg, Int.reduceAdd, Int.reduceSub, Int.reduceMul, Nat.reducePow, Int.reduceNegSucc, wWord, wCall, n2.1, n2.2.1]
  have o2 : oLs 5 eB 1 (.slice (some ⟨j2, 0, none⟩) 0 0) [] [(j2, blk (fl eB []) 5)] := oLs_new eB_len
  refine ite_f (fun e => ⟨[(j2, blk [] 5)] ++ h, by (repeat' first | exact Sub.refl _ | exact Sub.nil _ | assumption | refine Sub.both ?_ ?_ | refine Sub.cons_of (by simp only [subs, hj, hj2, n2]) ?_ | exact Sub.left _ _ | refine Sub.app (by simp only [subs, hj, hj2, n2]) ?_ | refine Sub.cons (by simp only [subs, hj, hj2, n2]) ?_), kno (not_b hb e) _ _ o2 (Dj.one n2.2.2)⟩) fun e => ?_
  have ok := hb.1 e
  refine vc_draw _ (Sub.refl _) ?_
  simp only [walk, lists, acts, mem, plain, seqs, maps, cells, resL, resV, intBin, ↓reduceIte, Nat.reduceAdd, Nat.reduceSub, Nat.reduceMul, Nat.reduceLeDiff, Nat.reduceEqDiff, Int.reduceToNat, Int.reduceEq, Int.reduceLT, Int.reduceLE, Int.reduceNeg, Int.reduceAdd, Int.reduceSub, Int.reduceMul, Nat.reducePow, Int.reduceNegSucc, wWord, wCall, n2.1, n2.2.1]
  refine l13Yes_c ?_
  simp only [walk, lists, acts, mem, plain, seqs, maps, cells, resL, resV, intBin, ↓reduceIte, Nat.reduceAdd, Nat.reduceSub, Nat.reduceMul, Nat.reduceLeDiff, Nat.reduceEqDiff, Int.reduceToNat, Int.reduceEq, Int.reduceLT, Int.reduceLE, Int.reduceNeg, Int.reduceAdd, Int.reduceSub, Int.reduceMul, Nat.reducePow, Int.reduceNegSucc, wWord, wCall, n2.1, n2.2.1, Sub_self]
  refine newB_intro (o := blk (fl eI (headW w)) 3) fun j3 hj3 => ?_
  have n3 := fresh hj3
  have n3' := fresh n3.2.2
  simp only [walk, lists, acts, mem, plain, seqs, maps, cells, resL, resV, intBin, ↓reduceIte, Nat.reduceAdd, Nat.reduceSub, Nat.reduceMul, Nat.reduceLeDiff, Nat.reduceEqDiff, Int.reduceToNat, Int.reduceEq, Int.reduceLT, Int.reduceLE, Int.reduceNeg, Int.reduceAdd, Int.reduceSub, Int.reduceMul, Nat.reducePow, Int.reduceNegSucc, Sub_new hj3]
  obtain ⟨hB, ehB⟩ : ∃ hB, hB = (j3, blk (fl eI (headW w)) 3) :: (j, blk (cWord w s p v) 28) :: h := ⟨_, rfl⟩
  have rj : ∀ k, hcel hB j k = (cWord w s p v)[k]? := fun k => by rw [ehB, hcel_next _ _ _ _ n3'.1, hcel_same]
  have hjB : hget hB j ≠ none := by rw [ehB, hget_next _ _ _ n3'.1, hget_same]; simp
  have sB : Sub h hB := by rw [ehB]; exact Sub.cons (by simp only [subs, n3'.1, n3'.2.1, n3'.2.2]) (sj _)
  have rs : sWord hB w s p v := sWord.sub sB r
  obtain ⟨V, hV⟩ : ∃ V, V = Value.slice (some ⟨j3, 0, none⟩) 14 14 := ⟨_, rfl⟩
  rw [← hV]
  have rV : rInts hB V (headW w) := by rw [hV, ehB]; exact rI_lit (headW w)
  have hlen : (headW w).length = 14 := rfl
  have sm := headW_small ok
  have d2 : Dj [(j2, blk [] 5)] hB := by rw [ehB]; simp only [subs, n2, n3, n3', hj2, hget_nil, eq_self]
  refine vc_loopS (g0 := [(j2, blk [] 5)] ++ hB) [3, 5] (fun n' vs h' => ∃ (i : Nat) (v' : Value) (g' : H), vs = [v', .int .i64 i] ∧ h' = g' ++ hB ∧ Dj g' hB ∧ oLs 5 eB 1 v' (encIs ((headW w).take i)) g' ∧ i ≤ 14 ∧ n' = 14 - i) 14 rfl
    (Sub.both (Sub.cons_of (by simp only [subs, n3]) (Sub.nil _)) (by rw [ehB]; (repeat' first | exact Sub.refl _ | exact Sub.nil _ | assumption | refine Sub.both ?_ ?_ | refine Sub.cons_of (by simp only [subs, n2, n3, n3', hj2, hj]) ?_ | exact Sub.left _ _ | refine Sub.app (by simp only [subs, n2, n3, n3', hj2, hj]) ?_ | refine Sub.cons (by simp only [subs, n2, n3, n3', hj2, hj]) ?_))) ⟨0, _, _, rfl, rfl, d2, o2, by omega, rfl⟩ ?_
  rintro n' f h' ⟨i, v', g', hv, rfl, dj', o', hi, rfl⟩
  simp only [List.map_cons, List.map_nil, List.cons.injEq, and_true] at hv
  simp only [walk, lists, acts, mem, plain, seqs, maps, cells, resL, resV, intBin, ↓reduceIte, Nat.reduceAdd, Nat.reduceSub, Nat.reduceMul, Nat.reduceLeDiff, Nat.reduceEqDiff, Int.reduceToNat, Int.reduceEq, Int.reduceLT, Int.reduceLE, Int.reduceNeg, Int.reduceAdd, Int.reduceSub, Int.reduceMul, Nat.reducePow, Int.reduceNegSucc, wr, hv.1, hv.2, rV.len, hlen]
  have hjg : ∀ {g' : H}, Dj g' hB → hget g' j = none := fun d => d.of hjB
  refine ite_lt (fun c1 => ?_) fun c1 => ?_
  · have hi2 : i < (headW w).length := by rw [hlen]; omega
    refine idx_leaf (i := i) eI_len (rV.sub (Sub.right dj')) rfl hi2 fun b1 o1 e1 => ?_
    simp only [walk, lists, acts, mem, plain, seqs, maps, cells, resL, resV, intBin, ↓reduceIte, Nat.reduceAdd, Nat.reduceSub, Nat.reduceMul, Nat.reduceLeDiff, Nat.reduceEqDiff, Int.reduceToNat, Int.reduceEq, Int.reduceLT, Int.reduceLE, Int.reduceNeg, Int.reduceAdd, Int.reduceSub, Int.reduceMul, Nat.reducePow, Int.reduceNegSucc, hread_1 e1]
    have hle : (encIs ((headW w).take i)).length ≤ 42 := by
      have := encIs_len (l := (headW w).take i) (fun x hx => sm x (List.mem_of_mem_take hx))
      rw [List.length_take] at this
      omega
    have sx := sm _ (List.getElem_mem hi2)
    refine l13Num_c o' dj' (by omega) ⟨by have := sx.1; omega, by have := sx.2; omega⟩ fun v2 g2 o2 d2 => ?_
    simp (disch := omega) only [walk, lists, acts, mem, plain, seqs, maps, cells, resL, resV, intBin, ↓reduceIte, Nat.reduceAdd, Nat.reduceSub, Nat.reduceMul, Nat.reduceLeDiff, Nat.reduceEqDiff, Int.reduceToNat, Int.reduceEq, Int.reduceLT, Int.reduceLE, Int.reduceNeg, Int.reduceAdd, Int.reduceSub, Int.reduceMul, Nat.reducePow, Int.reduceNegSucc, wrapI]
    refine ⟨14 - (i + 1), by omega, _, .refl _, i + 1, v2, g2, by simp, rfl, d2, ?_, by omega, rfl⟩
    rw [take_app_one hi2, encIs_app, encIs_one]; exact o2
  · have hi2 : (headW w).take i = headW w := List.take_of_length_le (by omega)
    rw [hi2] at o'
    have hle : (encIs (headW w)).length ≤ 42 := by
      have := encIs_len sm
      omega
    simp only [walk, lists, acts, mem, plain, seqs, maps, cells, resL, resV, intBin, ↓reduceIte, Nat.reduceAdd, Nat.reduceSub, Nat.reduceMul, Nat.reduceLeDiff, Nat.reduceEqDiff, Int.reduceToNat, Int.reduceEq, Int.reduceLT, Int.reduceLE, Int.reduceNeg, Int.reduceAdd, Int.reduceSub, Int.reduceMul, Nat.reducePow, Int.reduceNegSucc, apps, hjg dj', rj, wWord, wCall]
    refine raw_bytes (s := w.call.text) (by simp only [walk, lists, acts, mem, plain, seqs, maps, cells, resL, resV, intBin, ↓reduceIte, Nat.reduceAdd, Nat.reduceSub, Nat.reduceMul, Nat.reduceLeDiff, Nat.reduceEqDiff, Int.reduceToNat, Int.reduceEq, Int.reduceLT, Int.reduceLE, Int.reduceNeg, Int.reduceAdd, Int.reduceSub, Int.reduceMul, Nat.reducePow, Int.reduceNegSucc]) tText tBytes tByte fun j4 ob v4 hj4 r4 => ?_
    simp only [walk, lists, acts, mem, plain, seqs, maps, cells, resL, resV, intBin, ↓reduceIte, Nat.reduceAdd, Nat.reduceSub, Nat.reduceMul, Nat.reduceLeDiff, Nat.reduceEqDiff, Int.reduceToNat, Int.reduceEq, Int.reduceLT, Int.reduceLE, Int.reduceNeg, Int.reduceAdd, Int.reduceSub, Int.reduceMul, Nat.reducePow, Int.reduceNegSucc]
    have hct : w.call.text.length ≤ 80 := ok.2.2.2.2.2.2.2.2.2.2.2.2.2.2.2
    refine app_leaf (M := (j4, ob) :: (g' ++ hB)) eB_len eB_one tBytes iByte (Sub.cons hj4 (Sub.refl _)) dj' o' (r4.sub (Sub.cons_of (hget_same _ _ _) (Sub.nil _))) (by omega) (by omega) fun v2 g2 o2 d2 => ?_
    simp only [walk, lists, acts, mem, plain, seqs, maps, cells, resL, resV, intBin, ↓reduceIte, Nat.reduceAdd, Nat.reduceSub, Nat.reduceMul, Nat.reduceLeDiff, Nat.reduceEqDiff, Int.reduceToNat, Int.reduceEq, Int.reduceLT, Int.reduceLE, Int.reduceNeg, Int.reduceAdd, Int.reduceSub, Int.reduceMul, Nat.reducePow, Int.reduceNegSucc]
    refine vc_draw hB (Sub.right d2) ?_
    simp only [walk, lists, acts, mem, plain, seqs, maps, cells, resL, resV, intBin, ↓reduceIte, Nat.reduceAdd, Nat.reduceSub, Nat.reduceMul, Nat.reduceLeDiff, Nat.reduceEqDiff, Int.reduceToNat, Int.reduceEq, Int.reduceLT, Int.reduceLE, Int.reduceNeg, Int.reduceAdd, Int.reduceSub, Int.reduceMul, Nat.reducePow, Int.reduceNegSucc, apps, hjg d2, rj, wWord, wCall]
    refine l13Nums_c o2 d2 rs.1 (by rw [List.length_append]; omega) (slotsP_small ok.2.2.2.2.2.2.1) hw.1 fun v3 g3 o3 d3 => ?_
    simp only [walk, lists, acts, mem, plain, seqs, maps, cells, resL, resV, intBin, ↓reduceIte, Nat.reduceAdd, Nat.reduceSub, Nat.reduceMul, Nat.reduceLeDiff, Nat.reduceEqDiff, Int.reduceToNat, Int.reduceEq, Int.reduceLT, Int.reduceLE, Int.reduceNeg, Int.reduceAdd, Int.reduceSub, Int.reduceMul, Nat.reducePow, Int.reduceNegSucc]
    refine ⟨Sub.right d3, ?_⟩
    have b1 := encIs_hd (n := w.slots.length) (slotsP_small ok.2.2.2.2.2.2.1)
    have b2 := encIs_hd (n := w.vals.length) (valsP_small ok.2.2.2.2.2.2.2.2.2.1)
    obtain ⟨w1, w2, w3⟩ := hw
    have okp : pairsP w.pairs := ok.2.2.2.2.2.2.2.1
    refine l13Nums_c o3 d3 rs.2.2 (by simp only [List.length_append]; omega) (valsP_small ok.2.2.2.2.2.2.2.2.2.1) w3 fun v5 g5 o5 d5 => ?_
    simp only [walk, lists, acts, mem, plain, seqs, maps, cells, resL, resV, intBin, ↓reduceIte, Nat.reduceAdd, Nat.reduceSub, Nat.reduceMul, Nat.reduceLeDiff, Nat.reduceEqDiff, Int.reduceToNat, Int.reduceEq, Int.reduceLT, Int.reduceLE, Int.reduceNeg, Int.reduceAdd, Int.reduceSub, Int.reduceMul, Nat.reducePow, Int.reduceNegSucc]
    refine ⟨Sub.right d5, ?_⟩
    simp only [walk, lists, acts, mem, plain, seqs, maps, cells, resL, resV, intBin, ↓reduceIte, Nat.reduceAdd, Nat.reduceSub, Nat.reduceMul, Nat.reduceLeDiff, Nat.reduceEqDiff, Int.reduceToNat, Int.reduceEq, Int.reduceLT, Int.reduceLE, Int.reduceNeg, Int.reduceAdd, Int.reduceSub, Int.reduceMul, Nat.reducePow, Int.reduceNegSucc, apps, hjg d5, rj, wWord, wCall, rs.2.1.len]
    refine l13Num_c o5 d5 (by simp only [List.length_append]; omega) (by omega) fun v6 g6 o6 d6 => ?_
    simp only [walk, lists, acts, mem, plain, seqs, maps, cells, resL, resV, intBin, ↓reduceIte, Nat.reduceAdd, Nat.reduceSub, Nat.reduceMul, Nat.reduceLeDiff, Nat.reduceEqDiff, Int.reduceToNat, Int.reduceEq, Int.reduceLT, Int.reduceLE, Int.reduceNeg, Int.reduceAdd, Int.reduceSub, Int.reduceMul, Nat.reducePow, Int.reduceNegSucc]
    obtain ⟨pre, hpre⟩ : ∃ pre, pre = encIs (headW w) ++ w.call.text ++ encIs ((w.slots.length : Int) :: w.slots) ++ encIs ((w.vals.length : Int) :: w.vals) := ⟨_, rfl⟩
    have hprel : pre.length ≤ 11000000000000 := by rw [hpre]; simp only [List.length_append]; omega
    rw [← hpre] at o6
    refine vc_loop [3, 6] (fun n' vs h' => ∃ (i : Nat) (v' : Value) (g' : H), vs = [v', .int .i64 i] ∧ h' = g' ++ hB ∧ Dj g' hB ∧ oLs 5 eB 1 v' (pre ++ encIs ((w.pairs.length : Int) :: flatP (w.pairs.take i))) g' ∧ i ≤ w.pairs.length ∧ n' = w.pairs.length - i) w.pairs.length rfl
      ⟨0, _, g6, rfl, rfl, d6, by rw [List.take_zero, flatP_nil, encIs_one]; exact o6, by omega, rfl⟩ ?_
    rintro n' f h' ⟨i, v', g', hv, rfl, dj', o', hi, rfl⟩
    simp only [List.map_cons, List.map_nil, List.cons.injEq, and_true] at hv
    simp only [walk, lists, acts, mem, plain, seqs, maps, cells, resL, resV, intBin, ↓reduceIte, Nat.reduceAdd, Nat.reduceSub, Nat.reduceMul, Nat.reduceLeDiff, Nat.reduceEqDiff, Int.reduceToNat, Int.reduceEq, Int.reduceLT, Int.reduceLE, Int.reduceNeg, Int.reduceAdd, Int.reduceSub, Int.reduceMul, Nat.reducePow, Int.reduceNegSucc, wr, hv.1, hv.2, apps, hjg dj', rj, wWord, rs.2.1.len]
    refine ite_lt (fun c1 => ?_) fun c1 => ?_
    · have hi2 : i < w.pairs.length := by omega
      refine vc_draw hB (Sub.right dj') ?_
      simp only [walk, lists, acts, mem, plain, seqs, maps, cells, resL, resV, intBin, ↓reduceIte, Nat.reduceAdd, Nat.reduceSub, Nat.reduceMul, Nat.reduceLeDiff, Nat.reduceEqDiff, Int.reduceToNat, Int.reduceEq, Int.reduceLT, Int.reduceLE, Int.reduceNeg, Int.reduceAdd, Int.reduceSub, Int.reduceMul, Nat.reducePow, Int.reduceNegSucc, rj, wWord]
      refine idx_leaf (i := i) eP_len rs.2.1 rfl hi2 fun b1 o1 e1 => ?_
      simp only [walk, lists, acts, mem, plain, seqs, maps, cells, resL, resV, intBin, ↓reduceIte, Nat.reduceAdd, Nat.reduceSub, Nat.reduceMul, Nat.reduceLeDiff, Nat.reduceEqDiff, Int.reduceToNat, Int.reduceEq, Int.reduceLT, Int.reduceLE, Int.reduceNeg, Int.reduceAdd, Int.reduceSub, Int.reduceMul, Nat.reducePow, Int.reduceNegSucc, (pair_cells e1).1, rj, wWord]
      refine idx_leaf (i := i) eP_len rs.2.1 rfl hi2 fun b2 o2 e2 => ?_
      simp only [walk, lists, acts, mem, plain, seqs, maps, cells, resL, resV, intBin, ↓reduceIte, Nat.reduceAdd, Nat.reduceSub, Nat.reduceMul, Nat.reduceLeDiff, Nat.reduceEqDiff, Int.reduceToNat, Int.reduceEq, Int.reduceLT, Int.reduceLE, Int.reduceNeg, Int.reduceAdd, Int.reduceSub, Int.reduceMul, Nat.reducePow, Int.reduceNegSucc, (pair_cells e2).2]
      have sx := pairsP_small okp (List.getElem_mem hi2)
      have hb3 := encIs_hd (l := flatP (w.pairs.take i)) (n := w.pairs.length) (flatP_small fun x hx => pairsP_small okp (List.mem_of_mem_take hx))
      rw [flatP_len, List.length_take] at hb3
      have sxl := encI_len (n := w.pairs[i].1) ⟨by have := sx.1.1; omega, by have := sx.1.2; omega⟩
      refine l13Num_c o' dj' (by rw [List.length_append]; omega) ⟨by have := sx.1.1; omega, by have := sx.1.2; omega⟩ fun v7 g7 o7 d7 => ?_
      simp only [walk, lists, acts, mem, plain, seqs, maps, cells, resL, resV, intBin, ↓reduceIte, Nat.reduceAdd, Nat.reduceSub, Nat.reduceMul, Nat.reduceLeDiff, Nat.reduceEqDiff, Int.reduceToNat, Int.reduceEq, Int.reduceLT, Int.reduceLE, Int.reduceNeg, Int.reduceAdd, Int.reduceSub, Int.reduceMul, Nat.reducePow, Int.reduceNegSucc]
      refine ⟨Sub.right d7, ?_⟩
      refine l13Num_c o7 d7 (by simp only [List.length_append]; omega) ⟨by have := sx.2.1; omega, by have := sx.2.2; omega⟩ fun v8 g8 o8 d8 => ?_
      simp (disch := omega) only [walk, lists, acts, mem, plain, seqs, maps, cells, resL, resV, intBin, ↓reduceIte, Nat.reduceAdd, Nat.reduceSub, Nat.reduceMul, Nat.reduceLeDiff, Nat.reduceEqDiff, Int.reduceToNat, Int.reduceEq, Int.reduceLT, Int.reduceLE, Int.reduceNeg, Int.reduceAdd, Int.reduceSub, Int.reduceMul, Nat.reducePow, Int.reduceNegSucc, wrapI]
      refine ⟨Sub.right d8, w.pairs.length - (i + 1), by omega, _, .refl _, i + 1, v8, g8, by simp, rfl, d8, ?_, by omega, rfl⟩
      rw [take_app_one hi2, flatP_app, flatP_one, ← List.cons_append, encIs_app, encIs_cons _ [_], encIs_one, ← List.append_assoc, ← List.append_assoc]; exact o8
    · have hi2 : w.pairs.take i = w.pairs := List.take_of_length_le (by omega)
      rw [hi2, hpre] at o'
      refine ⟨g' ++ h, Sub.both (Sub.left _ _) (sB.trans (Sub.right dj')), kok ok v' g' o' (dj'.sub (.refl _) sB)⟩
end Go.Proofs.Ytllhdnfcneejaaa
end

/- How the reference reads numbers. -/
section
set_option linter.unusedVariables false
set_option linter.unusedSimpArgs false
set_option maxRecDepth 20000
attribute [local irreducible] Go.Tk.vc Go.Tk.vops Go.Tk.vdr Go.Tk.vop Go.Tk.vfl Go.Tk.HCalls
namespace Go.Proofs.Ytllhdnfcneejaaa
open Go Go.Tk

/-- The reference's reader's cells. -/
def rd (bv : Value) (at_ : Nat) (bad : Bool) : List Value := [bv, .int .i64 at_, .bool bad]
theorem w_rd : (∀ b a d, (rd b a d).length = 3) ∧ (∀ b a d, (rd b a d)[0]? = some b) ∧ (∀ b a d, (rd b a d)[1]? = some (.int .i64 a)) ∧ (∀ b a d, (rd b a d)[2]? = some (.bool d)) ∧
    (∀ b a d (n : Nat), splice (rd b a d) 1 [.int .i64 n] = rd b n d) ∧ (∀ b a d e, splice (rd b a d) 2 [.bool e] = rd b a e) :=
  ⟨fun _ _ _ => rfl, fun _ _ _ => rfl, fun _ _ _ => rfl, fun _ _ _ => rfl, fun _ _ _ _ => rfl, fun _ _ _ _ => rfl⟩

theorem num_c {h0 : H} {j at_ : Nat} {bv : Value} {l : List UInt8} {bad : Bool} (hj : hget h0 j = none) (rb : rBytes h0 bv l) (hl : l.length ≤ 1099511627776) (ha : at_ ≤ l.length) {R : Ending → H → Prop}
    (k : ∀ (n : Int) (at' : Nat) (bad' : Bool), at' ≤ l.length → -2097152 ≤ n ∧ n ≤ 2097152 → (bad = true → bad' = true) → (∀ m r, Num (l.drop at_) m r → n = unzig m ∧ l.drop at' = r ∧ bad' = bad) → R (.returned (.int .i64 n)) ((j, blk (rd bv at' bad') 49) :: h0)) :
    HCalls Try.prog 72 #[.pointer (some ⟨j, 0, none⟩)] ((j, blk (rd bv at_ bad) 49) :: h0) R := by
  refine HCalls_ir (args := [.pointer (some ⟨j, 0, none⟩)]) Try.func72 ir72 ?_
  simp only [walk, lists, acts, mem, plain, seqs, maps, cells, resL, resV, intBin, ↓reduceIte, Nat.reduceAdd, Nat.reduceSub, Nat.reduceMul, Nat.reduceLeDiff, Nat.reduceEqDiff, Int.reduceToNat, Int.reduceEq, Int.reduceLT, Int.reduceLE, Int.reduceNeg, Int.reduceAdd, Int.reduceSub, Int.reduceMul, Nat.reducePow, Int.reduceNegSucc, w_rd]
  refine vc_loop [5, 3, 4] (fun n vs h' => ∃ (i at' : Nat) (a : Nat), vs = [.int .i64 i, .int .i64 a, .int .i64 (128 ^ i : Nat)] ∧ h' = (j, blk (rd bv at' bad) 49) :: h0 ∧ at' ≤ l.length ∧ i ≤ 3 ∧ n = 3 - i ∧ a < 128 ^ i ∧
    (∀ m r, Num (l.drop at_) m r → l.drop at' = encN (m / 128 ^ i) ++ r ∧ a = m % 128 ^ i ∧ (0 < i → 128 ^ i ≤ m))) 3 rfl ⟨0, at_, 0, rfl, rfl, ha, by omega, rfl, by simp, fun m r nm => ⟨by simpa using nm.1, by simp; omega, fun x => by omega⟩⟩ ?_
  rintro n f h' ⟨i, at', a, hv, rfl, ha', hi, rfl, hai, ex⟩
  simp only [List.map_cons, List.map_nil, List.cons.injEq, and_true] at hv
  simp only [walk, lists, acts, mem, plain, seqs, maps, cells, resL, resV, intBin, ↓reduceIte, Nat.reduceAdd, Nat.reduceSub, Nat.reduceMul, Nat.reduceLeDiff, Nat.reduceEqDiff, Int.reduceToNat, Int.reduceEq, Int.reduceLT, Int.reduceLE, Int.reduceNeg, Int.reduceAdd, Int.reduceSub, Int.reduceMul, Nat.reducePow, Int.reduceNegSucc, wr, hv.1, hv.2.1, hv.2.2, w_rd]
  split
  · rename_i c1
    have hj2 : ∀ o, Sub h0 ((j, o) :: h0) := fun o => Sub.cons hj (Sub.refl h0)
    refine vc_draw _ (Sub.refl _) ?_
    simp only [walk, lists, acts, mem, plain, seqs, maps, cells, resL, resV, intBin, ↓reduceIte, Nat.reduceAdd, Nat.reduceSub, Nat.reduceMul, Nat.reduceLeDiff, Nat.reduceEqDiff, Int.reduceToNat, Int.reduceEq, Int.reduceLT, Int.reduceLE, Int.reduceNeg, Int.reduceAdd, Int.reduceSub, Int.reduceMul, Nat.reducePow, Int.reduceNegSucc, w_rd, rb.len]
    refine ite_ge ?_ ?_
    · intro c2
      have hd : l.drop at' = [] := List.drop_eq_nil_of_le (by omega)
      refine .of (k 0 at' true ha' (by omega) (fun _ => rfl) fun m r nm => ?_)
      have := (ex m r nm).1
      rw [hd] at this
      exact absurd (List.append_eq_nil_iff.1 this.symm).1 (encN_ne _)
    · intro c2
      have hlt : at' < l.length := by omega
      refine vc_draw _ (Sub.refl _) ?_
      simp only [walk, lists, acts, mem, plain, seqs, maps, cells, resL, resV, intBin, ↓reduceIte, Nat.reduceAdd, Nat.reduceSub, Nat.reduceMul, Nat.reduceLeDiff, Nat.reduceEqDiff, Int.reduceToNat, Int.reduceEq, Int.reduceLT, Int.reduceLE, Int.reduceNeg, Int.reduceAdd, Int.reduceSub, Int.reduceMul, Nat.reducePow, Int.reduceNegSucc, w_rd]
      refine idx_leaf (i := at') eB_len (rb.sub (hj2 (blk (rd bv at' bad) 49))) rfl hlt fun b1 o1 e1 => ?_
      have hx : l[at'].toNat < 256 := UInt8.toNat_lt _
      have hdr : l.drop at' = l[at'] :: l.drop (at' + 1) := List.drop_eq_getElem_cons hlt
      have he : eB l[at'] = [.int .u8 l[at'].toNat] := rfl
      rw [he] at e1
      have st : ∀ m r, Num (l.drop at_) m r → (l[at'].toNat < 128 → a + l[at'].toNat % 128 * 128 ^ i = m ∧ l.drop (at' + 1) = r) ∧ (128 ≤ l[at'].toNat → l.drop (at' + 1) = encN (m / 128 ^ (i + 1)) ++ r ∧ a + l[at'].toNat % 128 * 128 ^ i = m % 128 ^ (i + 1) ∧ 128 ^ (i + 1) ≤ m) := by
        intro m r nm
        obtain ⟨x1, x2, _⟩ := ex m r nm
        rw [hdr] at x1
        exact num_step (c := l[at']) (l2 := l.drop (at' + 1)) (r := r) (i := i) (a := a) (m := m) x1 x2
      generalize l[at'].toNat = x at *
      have hc : (at' : Int) + 1 = ((at' + 1 : Nat) : Int) := by omega
      have hc2 : (i : Int) + 1 = ((i + 1 : Nat) : Int) := by omega
      have hp : (128 : Nat) ^ i ≤ 16384 ∧ 128 ^ (i + 1) = 128 * 128 ^ i := by
        refine ⟨?_, by rw [Nat.pow_succ, Nat.mul_comm]⟩
        rcases (by omega : i = 0 ∨ i = 1 ∨ i = 2) with rfl | rfl | rfl <;> decide
      have hmul : (x % 128) * 128 ^ i ≤ 127 * 128 ^ i := Nat.mul_le_mul_right _ (by omega)
      have hz : ((x % 128 : Nat) : Int) * ((128 ^ i : Nat) : Int) = ((x % 128 * 128 ^ i : Nat) : Int) := by simp
      have hz2 : ((128 ^ i : Nat) : Int) * 128 = ((128 ^ (i + 1) : Nat) : Int) := by rw [hp.2]; simp; omega
      have hz3 : ∀ y : Nat, (a : Int) + (y : Int) = ((a + y : Nat) : Int) := fun y => by omega
      simp (disch := omega) only [walk, lists, acts, mem, plain, seqs, maps, cells, resL, resV, intBin, ↓reduceIte, Nat.reduceAdd, Nat.reduceSub, Nat.reduceMul, Nat.reduceLeDiff, Nat.reduceEqDiff, Int.reduceToNat, Int.reduceEq, Int.reduceLT, Int.reduceLE, Int.reduceNeg, Int.reduceAdd, Int.reduceSub, Int.reduceMul, Nat.reducePow, Int.reduceNegSucc, w_rd, hread_1 e1, wrapI, tm128, hc, hz, hz2, hz3]
      generalize hM : a + x % 128 * 128 ^ i = M at *
      rw [tm2]
      by_cases c3 : (x : Int) < 128
      · rw [if_pos c3]
        by_cases c4 : ((M % 2 : Nat) : Int) = 1
        · rw [if_pos c4]
          refine raw_neg (by simp only [walk, lists, acts, mem, plain, seqs, maps, cells, resL, resV, intBin, ↓reduceIte, Nat.reduceAdd, Nat.reduceSub, Nat.reduceMul, Nat.reduceLeDiff, Nat.reduceEqDiff, Int.reduceToNat, Int.reduceEq, Int.reduceLT, Int.reduceLE, Int.reduceNeg, Int.reduceAdd, Int.reduceSub, Int.reduceMul, Nat.reducePow, Int.reduceNegSucc]; rfl) ?_
          have hn : (0 : Int) - ((M : Int) + 1) = -((M + 1 : Nat) : Int) := by omega
          simp (disch := omega) only [walk, lists, acts, mem, plain, seqs, maps, cells, resL, resV, intBin, ↓reduceIte, Nat.reduceAdd, Nat.reduceSub, Nat.reduceMul, Nat.reduceLeDiff, Nat.reduceEqDiff, Int.reduceToNat, Int.reduceEq, Int.reduceLT, Int.reduceLE, Int.reduceNeg, Int.reduceAdd, Int.reduceSub, Int.reduceMul, Nat.reducePow, Int.reduceNegSucc, wrapI]
          rw [hn, tdneg2]
          simp (disch := omega) only [wrapI]
          refine .of (k _ (at' + 1) bad (by omega) (by omega) (fun h => h) fun m r nm => ?_)
          have := (st m r nm).1 (by omega)
          refine ⟨?_, this.2, rfl⟩
          unfold unzig
          rw [← this.1, if_pos (by omega)]
        · rw [if_neg c4]
          simp (disch := omega) only [walk, lists, acts, mem, plain, seqs, maps, cells, resL, resV, intBin, ↓reduceIte, Nat.reduceAdd, Nat.reduceSub, Nat.reduceMul, Nat.reduceLeDiff, Nat.reduceEqDiff, Int.reduceToNat, Int.reduceEq, Int.reduceLT, Int.reduceLE, Int.reduceNeg, Int.reduceAdd, Int.reduceSub, Int.reduceMul, Nat.reducePow, Int.reduceNegSucc, wrapI, td2]
          refine .of (k _ (at' + 1) bad (by omega) (by omega) (fun h => h) fun m r nm => ?_)
          have := (st m r nm).1 (by omega)
          refine ⟨?_, this.2, rfl⟩
          unfold unzig
          rw [← this.1, if_neg (by omega)]
      · rw [if_neg c3]
        simp (disch := omega) only [walk, lists, acts, mem, plain, seqs, maps, cells, resL, resV, intBin, ↓reduceIte, Nat.reduceAdd, Nat.reduceSub, Nat.reduceMul, Nat.reduceLeDiff, Nat.reduceEqDiff, Int.reduceToNat, Int.reduceEq, Int.reduceLT, Int.reduceLE, Int.reduceNeg, Int.reduceAdd, Int.reduceSub, Int.reduceMul, Nat.reducePow, Int.reduceNegSucc, wrapI, hc2]
        exact ⟨3 - (i + 1), by omega, _, .refl _, i + 1, at' + 1, M, rfl, rfl, by omega, by omega, rfl, by omega, fun m r nm => by
          have := (st m r nm).2 (by omega)
          exact ⟨this.1, this.2.1, fun _ => this.2.2⟩⟩
  · rename_i c1
    refine .of (k 0 at' true ha' (by omega) (fun _ => rfl) fun m r nm => ?_)
    have hi3 : i = 3 := by omega
    subst hi3
    have := (ex m r nm).2.2 (by omega)
    have := nm.2
    omega
end Go.Proofs.Ytllhdnfcneejaaa
end

/- How the reference reads lists of numbers, and texts. -/
section
set_option linter.unusedVariables false
set_option linter.unusedSimpArgs false
set_option maxRecDepth 20000
attribute [local irreducible] Go.Tk.vc Go.Tk.vops Go.Tk.vdr Go.Tk.vop Go.Tk.vfl Go.Tk.HCalls
namespace Go.Proofs.Ytllhdnfcneejaaa
open Go Go.Tk

theorem small_num {x : Int} (h : smallP x) : zig x < 2097152 := by
  have := zig_lt (n := x) (b := 10000) ⟨by have := h.1; omega, by have := h.2; omega⟩
  omega

theorem nums_c {h0 : H} {j at_ : Nat} {bv : Value} {l : List UInt8} {bad : Bool} {n : Int} (hj : hget h0 j = none) (rb : rBytes h0 bv l) (hl : l.length ≤ 1099511627776) (ha : at_ ≤ l.length) (hn : n ≤ 2097152) {R : Ending → H → Prop}
    (k : ∀ v g ys (at' : Nat) (bad' : Bool), oLs 3 eI 1 v ys g → Dj g ((j, blk (rd bv at' bad') 49) :: h0) → at' ≤ l.length → ys.length ≤ n.toNat → (bad' = false → bad = false ∧ ys.length = n.toNat) → (∀ y ∈ ys, -2097152 ≤ y ∧ y ≤ 2097152) →
      (bad = false → ∀ xs r, l.drop at_ = encIs xs ++ r → allP smallP xs → (xs.length : Int) = n → ys = xs ∧ l.drop at' = r ∧ bad' = false) → R (.returned v) (g ++ ((j, blk (rd bv at' bad') 49) :: h0))) :
    HCalls Try.prog 70 #[.pointer (some ⟨j, 0, none⟩), .int .i64 n] ((j, blk (rd bv at_ bad) 49) :: h0) R := by
  refine HCalls_ir (args := [.pointer (some ⟨j, 0, none⟩), .int .i64 n]) Try.func70 ir70 ?_
  simp only [walk, lists, acts, mem, plain, seqs, maps, cells, resL, resV, intBin, ↓reduceIte, Nat.reduceAdd, Nat.reduceSub, Nat.reduceMul, Nat.reduceLeDiff, Nat.reduceEqDiff, Int.reduceToNat, Int.reduceEq, Int.reduceLT, Int.reduceLE, Int.reduceNeg, Int.reduceAdd, Int.reduceSub, Int.reduceMul, Nat.reducePow, Int.reduceNegSucc, w_rd]
  refine newB_intro fun j1 hj1 => ?_
  have n1 := fresh hj1
  simp only [walk, lists, acts, mem, plain, seqs, maps, cells, resL, resV, intBin, ↓reduceIte, Nat.reduceAdd, Nat.reduceSub, Nat.reduceMul, Nat.reduceLeDiff, Nat.reduceEqDiff, Int.reduceToNat, Int.reduceEq, Int.reduceLT, Int.reduceLE, Int.reduceNeg, Int.reduceAdd, Int.reduceSub, Int.reduceMul, Nat.reducePow, Int.reduceNegSucc, w_rd]
  have o1 : oLs 3 eI 1 (.slice (some ⟨j1, 0, none⟩) 0 0) [] [(j1, blk (fl eI []) 3)] := oLs_new eI_len
  refine vc_loop [5, 6] (fun n' vs h' => ∃ (i : Nat) (v' : Value) (g' : H) (ys : List Int) (at' : Nat) (bad' : Bool), vs = [v', .int .i64 i] ∧ h' = g' ++ ((j, blk (rd bv at' bad') 49) :: h0) ∧ Dj g' ((j, blk (rd bv at' bad') 49) :: h0) ∧ oLs 3 eI 1 v' ys g' ∧ ys.length = i ∧ at' ≤ l.length ∧
      (bad' = false → bad = false) ∧ (∀ y ∈ ys, -2097152 ≤ y ∧ y ≤ 2097152) ∧ i ≤ n.toNat ∧ n' = n.toNat - i ∧ (bad = false → ∀ xs r, l.drop at_ = encIs xs ++ r → allP smallP xs → (xs.length : Int) = n → ys = xs.take i ∧ l.drop at' = encIs (xs.drop i) ++ r ∧ bad' = false)) n.toNat rfl
    ⟨0, _, _, [], at_, bad, rfl, rfl, Dj.one hj1, o1, rfl, ha, fun h => h, fun y hy => (by cases hy), by omega, rfl, fun hb xs r hx _ _ => ⟨by simp, by simpa using hx, hb⟩⟩ ?_
  rintro n' f h' ⟨i, v', g', ys, at', bad', hv, rfl, dj', o', hyl, ha', hbb, hys, hi, rfl, ex⟩
  simp only [List.map_cons, List.map_nil, List.cons.injEq, and_true] at hv
  have d1 := dj'
  have d2 := dj'.symm
  simp only [subs] at d1 d2
  simp only [walk, lists, acts, mem, plain, seqs, maps, cells, resL, resV, intBin, ↓reduceIte, Nat.reduceAdd, Nat.reduceSub, Nat.reduceMul, Nat.reduceLeDiff, Nat.reduceEqDiff, Int.reduceToNat, Int.reduceEq, Int.reduceLT, Int.reduceLE, Int.reduceNeg, Int.reduceAdd, Int.reduceSub, Int.reduceMul, Nat.reducePow, Int.reduceNegSucc, wr, hv.1, hv.2, w_rd, apps, d1]
  refine ite_lt (fun c1 => ?_) fun c1 => ?_
  · cases bad'
    · simp only [walk, lists, acts, mem, plain, seqs, maps, cells, resL, resV, intBin, ↓reduceIte, Nat.reduceAdd, Nat.reduceSub, Nat.reduceMul, Nat.reduceLeDiff, Nat.reduceEqDiff, Int.reduceToNat, Int.reduceEq, Int.reduceLT, Int.reduceLE, Int.reduceNeg, Int.reduceAdd, Int.reduceSub, Int.reduceMul, Nat.reducePow, Int.reduceNegSucc]
      refine (num_c (bad := false) (at_ := at') (h0 := g' ++ h0) (by simp only [subs, d1, hj]) (rb.sub (Sub.right d1.2)) hl ha' fun x at2 bad2 ha2 hx2 hb2 ex2 => ?_).weaken (by (repeat' first | exact Sub.refl _ | exact Sub.nil _ | assumption | refine Sub.both ?_ ?_ | refine Sub.cons_of (by simp only [subs, d1, d2, hj]) ?_ | exact Sub.left _ _ | refine Sub.app (by simp only [subs, d1, d2, hj]) ?_ | refine Sub.cons (by simp only [subs, d1, d2, hj]) ?_))
      simp only [walk, lists, acts, mem, plain, seqs, maps, cells, resL, resV, intBin, ↓reduceIte, Nat.reduceAdd, Nat.reduceSub, Nat.reduceMul, Nat.reduceLeDiff, Nat.reduceEqDiff, Int.reduceToNat, Int.reduceEq, Int.reduceLT, Int.reduceLE, Int.reduceNeg, Int.reduceAdd, Int.reduceSub, Int.reduceMul, Nat.reducePow, Int.reduceNegSucc]
      refine newB_intro fun j5 hj5 => ?_
      simp only [subs] at hj5
      simp only [walk, lists, acts, mem, plain, seqs, maps, cells, resL, resV, intBin, ↓reduceIte, Nat.reduceAdd, Nat.reduceSub, Nat.reduceMul, Nat.reduceLeDiff, Nat.reduceEqDiff, Int.reduceToNat, Int.reduceEq, Int.reduceLT, Int.reduceLE, Int.reduceNeg, Int.reduceAdd, Int.reduceSub, Int.reduceMul, Nat.reducePow, Int.reduceNegSucc]
      refine app_leaf (g := g') (h := (j, blk (rd bv at2 bad2) 49) :: h0) (M := (j5, blk (fl eI [x]) 3) :: (j, blk (rd bv at2 bad2) 49) :: (g' ++ h0)) eI_len eI_one tInts iInt (by (repeat' first | exact Sub.refl _ | exact Sub.nil _ | assumption | refine Sub.both ?_ ?_ | refine Sub.cons_of (by simp only [subs, d1, d2, hj, hj5]) ?_ | exact Sub.left _ _ | refine Sub.app (by simp only [subs, d1, d2, hj, hj5]) ?_ | refine Sub.cons (by simp only [subs, d1, d2, hj, hj5]) ?_)) (by simp only [subs, d1]) o' (rI_lit [x]) (by simp; omega) (by simp; omega) fun v2 g2 o2 d3 => ?_
      simp (disch := omega) only [walk, lists, acts, mem, plain, seqs, maps, cells, resL, resV, intBin, ↓reduceIte, Nat.reduceAdd, Nat.reduceSub, Nat.reduceMul, Nat.reduceLeDiff, Nat.reduceEqDiff, Int.reduceToNat, Int.reduceEq, Int.reduceLT, Int.reduceLE, Int.reduceNeg, Int.reduceAdd, Int.reduceSub, Int.reduceMul, Nat.reducePow, Int.reduceNegSucc, wrapI]
      refine ⟨n.toNat - (i + 1), by omega, _, .refl _, i + 1, v2, g2, _, at2, bad2, by simp, rfl, d3, o2, by simp [hyl], ha2, fun _ => hbb rfl, ?_, by omega, rfl, ?_⟩
      · intro y hy
        rcases List.mem_append.1 hy with hy | hy
        · exact hys y hy
        · rw [List.mem_singleton.1 hy]; exact hx2
      · intro hb xs r hx hs hxl
        obtain ⟨e1, e2, _⟩ := ex hb xs r hx hs hxl
        have hi2 : i < xs.length := by omega
        rw [List.drop_eq_getElem_cons hi2, encIs_cons, List.append_assoc] at e2
        obtain ⟨f1, f2, f3⟩ := ex2 _ _ ⟨e2, small_num (hs _ (List.getElem_mem hi2))⟩
        refine ⟨?_, f2, f3⟩
        rw [take_app_one hi2, ← e1, f1, unzig_zig]
    · simp only [walk, lists, acts, mem, plain, seqs, maps, cells, resL, resV, intBin, ↓reduceIte, Nat.reduceAdd, Nat.reduceSub, Nat.reduceMul, Nat.reduceLeDiff, Nat.reduceEqDiff, Int.reduceToNat, Int.reduceEq, Int.reduceLT, Int.reduceLE, Int.reduceNeg, Int.reduceAdd, Int.reduceSub, Int.reduceMul, Nat.reducePow, Int.reduceNegSucc]
      refine .of (k v' g' ys at' true o' dj' ha' (by omega) (fun h => by cases h) hys fun hb xs r hx hs hxl => ?_)
      have := (ex hb xs r hx hs hxl).2.2
      cases this
  · refine .of (k v' g' ys at' bad' o' dj' ha' (by omega) (fun h => ⟨hbb h, by omega⟩) hys fun hb xs r hx hs hxl => ?_)
    obtain ⟨e1, e2, e3⟩ := ex hb xs r hx hs hxl
    have hi2 : i = xs.length := by omega
    rw [hi2] at e1 e2
    exact ⟨by simpa using e1, by simpa [encIs] using e2, e3⟩
end Go.Proofs.Ytllhdnfcneejaaa
end

/- How the reference reads texts and words. -/
section
set_option linter.unusedVariables false
set_option linter.unusedSimpArgs false
set_option maxRecDepth 20000
attribute [local irreducible] Go.Tk.vc Go.Tk.vops Go.Tk.vdr Go.Tk.vop Go.Tk.vfl Go.Tk.HCalls
namespace Go.Proofs.Ytllhdnfcneejaaa
open Go Go.Tk

theorem text_c {h0 : H} {j at_ : Nat} {bv : Value} {l : List UInt8} {bad : Bool} {n : Int} (hj : hget h0 j = none) (rb : rBytes h0 bv l) (hl : l.length ≤ 1099511627776) (ha : at_ ≤ l.length) (hn : -2097152 ≤ n ∧ n ≤ 2097152) {R : Ending → H → Prop}
    (k : ∀ (s : List UInt8) (at' : Nat) (bad' : Bool), at' ≤ l.length → s.length ≤ l.length → (bad = true → bad' = true) → (bad = false → ∀ t r, l.drop at_ = t ++ r → (t.length : Int) = n → s = t ∧ l.drop at' = r ∧ bad' = false) →
      R (.returned (.string ⟨s.toArray⟩)) ((j, blk (rd bv at' bad') 49) :: h0)) :
    HCalls Try.prog 71 #[.pointer (some ⟨j, 0, none⟩), .int .i64 n] ((j, blk (rd bv at_ bad) 49) :: h0) R := by
  refine HCalls_ir (args := [.pointer (some ⟨j, 0, none⟩), .int .i64 n]) Try.func71 ir71 ?_
  have sj := fun o => Sub.cons (o := o) hj (Sub.refl h0)
  simp only [walk, lists, acts, mem, plain, seqs, maps, cells, resL, resV, intBin, ↓reduceIte, Nat.reduceAdd, Nat.reduceSub, Nat.reduceMul, Nat.reduceLeDiff, Nat.reduceEqDiff, Int.reduceToNat, Int.reduceEq, Int.reduceLT, Int.reduceLE, Int.reduceNeg, Int.reduceAdd, Int.reduceSub, Int.reduceMul, Nat.reducePow, Int.reduceNegSucc, w_rd]
  refine vc_draw _ (Sub.refl _) ?_
  cases bad
  · simp (disch := omega) only [walk, lists, acts, mem, plain, seqs, maps, cells, resL, resV, intBin, ↓reduceIte, Nat.reduceAdd, Nat.reduceSub, Nat.reduceMul, Nat.reduceLeDiff, Nat.reduceEqDiff, Int.reduceToNat, Int.reduceEq, Int.reduceLT, Int.reduceLE, Int.reduceNeg, Int.reduceAdd, Int.reduceSub, Int.reduceMul, Nat.reducePow, Int.reduceNegSucc, w_rd, rb.len, wrapI]
    refine ite_lt (fun c1 => .of (k [] at_ true ha (by simp) (fun _ => rfl) fun _ t r ht hx => ?_)) fun c1 => ?_
    · omega
    · refine ite_lt (fun c2 => .of (k [] at_ true ha (by simp) (fun _ => rfl) fun _ t r ht hx => ?_)) fun c2 => ?_
      · have := congrArg List.length ht
        simp only [List.length_drop, List.length_append] at this
        omega
      · refine vc_draw _ (Sub.refl _) ?_
        simp (disch := omega) only [walk, lists, acts, mem, plain, seqs, maps, cells, resL, resV, intBin, ↓reduceIte, Nat.reduceAdd, Nat.reduceSub, Nat.reduceMul, Nat.reduceLeDiff, Nat.reduceEqDiff, Int.reduceToNat, Int.reduceEq, Int.reduceLT, Int.reduceLE, Int.reduceNeg, Int.reduceAdd, Int.reduceSub, Int.reduceMul, Nat.reducePow, Int.reduceNegSucc, w_rd, wrapI]
        refine slc_rd eB_len (rb.sub (sj (blk (rd bv at_ false) 49))) (by omega) (by omega) (by omega) fun v2 r2 => ?_
        have hc : (at_ : Int) + n = ((at_ + n.toNat : Nat) : Int) := by omega
        have e1 : (at_ + n.toNat) - at_ = n.toNat := by omega
        rw [hc] at r2
        simp only [Int.toNat_natCast, e1] at r2
        simp (disch := omega) only [walk, lists, acts, mem, plain, seqs, maps, cells, resL, resV, intBin, ↓reduceIte, Nat.reduceAdd, Nat.reduceSub, Nat.reduceMul, Nat.reduceLeDiff, Nat.reduceEqDiff, Int.reduceToNat, Int.reduceEq, Int.reduceLT, Int.reduceLE, Int.reduceNeg, Int.reduceAdd, Int.reduceSub, Int.reduceMul, Nat.reducePow, Int.reduceNegSucc, w_rd, wrapI, btos_rd r2, hc]
        refine .of (k _ (at_ + n.toNat) false (by omega) (by rw [List.length_take, List.length_drop]; omega) (fun h => h) fun _ t r ht hx => ?_)
        have ht2 : n.toNat = t.length := by omega
        rw [← List.drop_drop, ht, ht2]
        exact ⟨by simp, by simp, rfl⟩
  · simp (disch := omega) only [walk, lists, acts, mem, plain, seqs, maps, cells, resL, resV, intBin, ↓reduceIte, Nat.reduceAdd, Nat.reduceSub, Nat.reduceMul, Nat.reduceLeDiff, Nat.reduceEqDiff, Int.reduceToNat, Int.reduceEq, Int.reduceLT, Int.reduceLE, Int.reduceNeg, Int.reduceAdd, Int.reduceSub, Int.reduceMul, Nat.reducePow, Int.reduceNegSucc, w_rd, rb.len, wrapI]
    exact .of (k [] at_ true ha (by simp) (fun _ => rfl) fun h => by cases h)
end Go.Proofs.Ytllhdnfcneejaaa
end

/- How the reference reads words. -/
section
set_option linter.unusedVariables false
set_option linter.unusedSimpArgs false
set_option maxRecDepth 20000
attribute [local irreducible] Go.Tk.vc Go.Tk.vops Go.Tk.vdr Go.Tk.vop Go.Tk.vfl Go.Tk.HCalls
namespace Go.Proofs.Ytllhdnfcneejaaa
open Go Go.Tk

theorem list14 {l : List Int} (h : l.length = 14) : ∃ a0 a1 a2 a3 a4 a5 a6 a7 a8 a9 a10 a11 a12 a13, l = [a0, a1, a2, a3, a4, a5, a6, a7, a8, a9, a10, a11, a12, a13] := by
  match l, h with
  | [a0, a1, a2, a3, a4, a5, a6, a7, a8, a9, a10, a11, a12, a13], _ => exact ⟨_, _, _, _, _, _, _, _, _, _, _, _, _, _, rfl⟩
theorem list2 {l : List Int} (h : l.length = 2) : ∃ a0 a1, l = [a0, a1] := by
  match l, h with
  | [a0, a1], _ => exact ⟨_, _, rfl⟩

theorem vcells_one {v : Value} (h : vone v = true) : vcells v = [v] := by cases v <;> first | rfl | cases h
theorem ris_ge {l : List Int} (h0 : allP slotP l) (r : risP id l) : ∀ (i : Nat) (h : i < l.length), (i : Int) ≤ l[i] := by
  intro i
  induction i with
  | zero => intro h; have := (h0 _ (List.getElem_mem h)).1; omega
  | succ i ih =>
    intro h
    have h1 := ih (by omega)
    have h2 := r i h
    simp only [id] at h2
    omega
theorem slotsP_len {l : List Int} (h : slotsP l) : l.length ≤ 8 := by
  rcases Nat.lt_or_ge 8 l.length with c | c
  · have h1 := ris_ge h.1 h.2 8 c
    have h2 := (h.1 _ (List.getElem_mem c)).2
    omega
  · exact c
def restV (w : DWord) : List UInt8 := encIs ((w.pairs.length : Int) :: flatP w.pairs)
def restS (w : DWord) : List UInt8 := encIs ((w.vals.length : Int) :: w.vals) ++ restV w
def restT (w : DWord) : List UInt8 := encIs ((w.slots.length : Int) :: w.slots) ++ restS w
theorem pack_head (w : DWord) : pack w = encIs (headW w) ++ (w.call.text ++ restT w) := by simp [pack, restT, restS, restV]

theorem word_c {h0 : H} {j : Nat} {bv : Value} {l : List UInt8} (hj : hget h0 j = none) (rb : rBytes h0 bv l) (hl : l.length ≤ 1099511627776) {R : Ending → H → Prop}
    (k : ∀ w s p v gs gp gv (at' : Nat) (bad' : Bool), oWord 3 69 3 w s p v gs gp gv → Dj gs ((j, blk (rd bv at' bad') 49) :: h0) → Dj gp ((j, blk (rd bv at' bad') 49) :: h0) → Dj gv ((j, blk (rd bv at' bad') 49) :: h0) →
      wLen w → (∀ w0, wordP w0 → l = pack w0 → w = w0 ∧ bad' = false) → R (.returned (.agg (cWord w s p v).toArray)) (gs ++ (gp ++ (gv ++ ((j, blk (rd bv at' bad') 49) :: h0))))) :
    HCalls Try.prog 27 #[.pointer (some ⟨j, 0, none⟩)] ((j, blk (rd bv 0 false) 49) :: h0) R := by
  refine HCalls_ir (args := [.pointer (some ⟨j, 0, none⟩)]) Try.func27 ir27 ?_
  have zc := zCall_eq
  have zw := zWord_eq
  simp only [str] at zc zw
  simp only [walk, lists, acts, mem, plain, seqs, maps, cells, resL, resV, intBin, ↓reduceIte, Nat.reduceAdd, Nat.reduceSub, Nat.reduceMul, Nat.reduceLeDiff, Nat.reduceEqDiff, Int.reduceToNat, Int.reduceEq, Int.reduceLT, Int.reduceLE, Int.reduceNeg, Int.reduceAdd, Int.reduceSub, Int.reduceMul, Nat.reducePow, Int.reduceNegSucc, w_rd, str, zw]
  refine newB_intro fun jr hjr => ?_
  have nr := fresh hjr
  simp only [walk, lists, acts, mem, plain, seqs, maps, cells, resL, resV, intBin, ↓reduceIte, Nat.reduceAdd, Nat.reduceSub, Nat.reduceMul, Nat.reduceLeDiff, Nat.reduceEqDiff, Int.reduceToNat, Int.reduceEq, Int.reduceLT, Int.reduceLE, Int.reduceNeg, Int.reduceAdd, Int.reduceSub, Int.reduceMul, Nat.reducePow, Int.reduceNegSucc, w_rd]
  refine (nums_c (at_ := 0) (bad := false) (h0 := (jr, blk (cWord zWord (.slice none 0 0) (.slice none 0 0) (.slice none 0 0)) 28) :: h0) (by simp only [subs, nr, hj]) (rb.sub (Sub.cons nr.2.2 (Sub.refl _))) hl (by omega) (by omega) fun V g ys at1 bad1 oV dV ha1 hy1 hb1 hys ex1 => ?_).weaken (by (repeat' first | exact Sub.refl _ | exact Sub.nil _ | assumption | refine Sub.both ?_ ?_ | refine Sub.cons_of (by simp only [subs, nr, hj]) ?_ | exact Sub.left _ _ | refine Sub.app (by simp only [subs, nr, hj]) ?_ | refine Sub.cons (by simp only [subs, nr, hj]) ?_))
  have d1 := dV
  have d2 := dV.symm
  simp only [subs] at d1 d2
  simp only [walk, lists, acts, mem, plain, seqs, maps, cells, resL, resV, intBin, ↓reduceIte, Nat.reduceAdd, Nat.reduceSub, Nat.reduceMul, Nat.reduceLeDiff, Nat.reduceEqDiff, Int.reduceToNat, Int.reduceEq, Int.reduceLT, Int.reduceLE, Int.reduceNeg, Int.reduceAdd, Int.reduceSub, Int.reduceMul, Nat.reducePow, Int.reduceNegSucc, w_rd, apps, d1]
  cases bad1
  · simp only [walk, lists, acts, mem, plain, seqs, maps, cells, resL, resV, intBin, ↓reduceIte, Nat.reduceAdd, Nat.reduceSub, Nat.reduceMul, Nat.reduceLeDiff, Nat.reduceEqDiff, Int.reduceToNat, Int.reduceEq, Int.reduceLT, Int.reduceLE, Int.reduceNeg, Int.reduceAdd, Int.reduceSub, Int.reduceMul, Nat.reducePow, Int.reduceNegSucc, w_rd]
    have hlen := (hb1 rfl).2
    obtain ⟨y0, y1, y2, y3, y4, y5, y6, y7, y8, y9, y10, y11, y12, y13, rfl⟩ := list14 (by simpa using hlen)
    obtain ⟨hlV, ⟨_, hx, _⟩ | ⟨jv, cap, sp, rfl, hcap, hsp, rfl⟩⟩ := oV
    · cases hx
    have hfl : fl eI [y0, y1, y2, y3, y4, y5, y6, y7, y8, y9, y10, y11, y12, y13] ++ sp = .int .i64 y0 :: .int .i64 y1 :: .int .i64 y2 :: .int .i64 y3 :: .int .i64 y4 :: .int .i64 y5 :: .int .i64 y6 :: .int .i64 y7 :: .int .i64 y8 :: .int .i64 y9 :: .int .i64 y10 :: .int .i64 y11 :: .int .i64 y12 :: .int .i64 y13 :: sp := rfl
    have d3 := dV.one'
    simp only [subs] at d3
    have d3' : j ≠ jv ∧ jr ≠ jv := ⟨Ne.symm d3.1, Ne.symm d3.2.1⟩
    clear d1 d2
    have h14 : ((14 : Nat) : Int) = 14 := rfl
    rw [hfl]
    refine vc_draw _ (Sub.refl _) ?_
    simp only [walk, lists, acts, mem, plain, seqs, maps, cells, resL, resV, intBin, ↓reduceIte, Nat.reduceAdd, Nat.reduceSub, Nat.reduceMul, Nat.reduceLeDiff, Nat.reduceEqDiff, Int.reduceToNat, Int.reduceEq, Int.reduceLT, Int.reduceLE, Int.reduceNeg, Int.reduceAdd, Int.reduceSub, Int.reduceMul, Nat.reducePow, Int.reduceNegSucc, w_rd, zw, zc, h14, wWord, wCall, d3, d3', nr.1, nr.2.1]
    refine newB_intro fun j4 hj4 => ?_
    have n4 := fresh hj4
    have n4' := fresh n4.2.2
    have n4'' := fresh n4'.2.2
    simp only [walk, lists, acts, mem, plain, seqs, maps, cells, resL, resV, intBin, ↓reduceIte, Nat.reduceAdd, Nat.reduceSub, Nat.reduceMul, Nat.reduceLeDiff, Nat.reduceEqDiff, Int.reduceToNat, Int.reduceEq, Int.reduceLT, Int.reduceLE, Int.reduceNeg, Int.reduceAdd, Int.reduceSub, Int.reduceMul, Nat.reducePow, Int.reduceNegSucc, w_rd, zw, zc, h14, wWord, wCall, Sub_new hj4, d3, d3', nr.1, nr.2.1, n4.1, n4.2.1, n4'.1, n4'.2.1, n4''.1, n4''.2.1]
    refine vc_draw _ (Sub.refl _) ?_
    simp only [walk, lists, acts, mem, plain, seqs, maps, cells, resL, resV, intBin, ↓reduceIte, Nat.reduceAdd, Nat.reduceSub, Nat.reduceMul, Nat.reduceLeDiff, Nat.reduceEqDiff, Int.reduceToNat, Int.reduceEq, Int.reduceLT, Int.reduceLE, Int.reduceNeg, Int.reduceAdd, Int.reduceSub, Int.reduceMul, Nat.reducePow, Int.reduceNegSucc, w_rd, zw, zc, h14, wWord, wCall, d3, d3', nr.1, nr.2.1, n4.1, n4.2.1, n4'.1, n4'.2.1, n4''.1, n4''.2.1, Sub_self]
    have hy : ∀ y, y ∈ [y0, y1, y2, y3, y4, y5, y6, y7, y8, y9, y10, y11, y12, y13] → -2097152 ≤ y ∧ y ≤ 2097152 := hys
    have hy13 := hy y13 (by simp)
    obtain ⟨N, hN⟩ : ∃ N, N = Value.slice none 0 0 := ⟨_, rfl⟩
    have one : vone N = true := by rw [hN]; rfl
    rw [← hN]
    obtain ⟨Z, hZ⟩ : ∃ Z, Z = blk (cWord zWord N N N) 28 := ⟨_, rfl⟩
    rw [← hZ]
    generalize hD : ({ kind := y0, from_ := y1, to := y2, stamp := y3, try_ := y4, what := y5, yes := decide (y6 = 1), slots := zWord.slots, pairs := zWord.pairs, code := y7, vals := zWord.vals, call := { session := y8, number := y9, kind := y10, text := zCall.text, slot := y11, to := y12 } } : DWord) = D
    have hjj : ∀ o, hget ((j4, o) :: (jr, Z) :: h0) j = none := fun o => by simp only [subs, nr, n4, n4', n4'', hj]
    have rbb : ∀ o, rBytes ((j4, o) :: (jr, Z) :: h0) bv l := fun o => rb.sub (by (repeat' first | exact Sub.refl _ | exact Sub.nil _ | assumption | refine Sub.both ?_ ?_ | refine Sub.cons_of (by simp only [subs, nr, n4, n4', n4'', hj]) ?_ | exact Sub.left _ _ | refine Sub.app (by simp only [subs, nr, n4, n4', n4'', hj]) ?_ | refine Sub.cons (by simp only [subs, nr, n4, n4', n4'', hj]) ?_))
    refine (text_c (at_ := at1) (bad := false) (h0 := (j4, blk (cWord D N N N) 28) :: (jr, Z) :: h0) (hjj _) (rbb _) hl ha1 hy13 fun s2 at2 bad2 ha2 hs2 hb2 ex2 => ?_).weaken (by (repeat' first | exact Sub.refl _ | exact Sub.nil _ | assumption | refine Sub.both ?_ ?_ | refine Sub.cons_of (by simp only [subs, nr, n4, n4', n4'', hj, d3, d3']) ?_ | exact Sub.left _ _ | refine Sub.app (by simp only [subs, nr, n4, n4', n4'', hj, d3, d3']) ?_ | refine Sub.cons (by simp only [subs, nr, n4, n4', n4'', hj, d3, d3']) ?_))
    simp only [walk, lists, acts, mem, plain, seqs, maps, cells, resL, resV, intBin, ↓reduceIte, Nat.reduceAdd, Nat.reduceSub, Nat.reduceMul, Nat.reduceLeDiff, Nat.reduceEqDiff, Int.reduceToNat, Int.reduceEq, Int.reduceLT, Int.reduceLE, Int.reduceNeg, Int.reduceAdd, Int.reduceSub, Int.reduceMul, Nat.reducePow, Int.reduceNegSucc, w_rd, wWord, wCall, nr.1, nr.2.1, n4.1, n4.2.1, n4'.1, n4'.2.1, n4''.1, n4''.2.1]
    obtain ⟨D2, hD2⟩ : ∃ D2 : DWord, D2 = { D with call := { D.call with text := s2 } } := ⟨_, rfl⟩
    rw [← hD2]
    refine num_c (hjj _) (rbb _) hl ha2 fun n3 at3 bad3 ha3 hn3 hb3 ex3 => ?_
    simp only [walk, lists, acts, mem, plain, seqs, maps, cells, resL, resV, intBin, ↓reduceIte, Nat.reduceAdd, Nat.reduceSub, Nat.reduceMul, Nat.reduceLeDiff, Nat.reduceEqDiff, Int.reduceToNat, Int.reduceEq, Int.reduceLT, Int.reduceLE, Int.reduceNeg, Int.reduceAdd, Int.reduceSub, Int.reduceMul, Nat.reducePow, Int.reduceNegSucc, w_rd, wWord, wCall]
    refine nums_c (hjj _) (rbb _) hl ha3 hn3.2 fun V2 g2 ys2 at4 bad4 o2 e2 ha4 hl2 hb4 hy2 ex4 => ?_
    have e2' := e2.symm
    have f2 := e2
    simp only [subs] at f2 e2'
    have one2 := o2.rd.one
    have vc2 := vcells_one one2
    simp only [walk, lists, acts, mem, plain, seqs, maps, cells, resL, resV, intBin, ↓reduceIte, Nat.reduceAdd, Nat.reduceSub, Nat.reduceMul, Nat.reduceLeDiff, Nat.reduceEqDiff, Int.reduceToNat, Int.reduceEq, Int.reduceLT, Int.reduceLE, Int.reduceNeg, Int.reduceAdd, Int.reduceSub, Int.reduceMul, Nat.reducePow, Int.reduceNegSucc, w_rd, wWord, wCall, apps, f2, n4'.1, n4'.2.1, one2, vc2]
    refine (num_c (at_ := at4) (bad := bad4) (h0 := g2 ++ ((j4, blk (cWord D2 V2 N N) 28) :: (jr, Z) :: h0)) (by simp only [subs, f2, nr, n4, n4', n4'', hj]) ((rbb _).sub (by (repeat' first | exact Sub.refl _ | exact Sub.nil _ | assumption | refine Sub.both ?_ ?_ | refine Sub.cons_of (by simp only [subs, f2]) ?_ | exact Sub.left _ _ | refine Sub.app (by simp only [subs, f2]) ?_ | refine Sub.cons (by simp only [subs, f2]) ?_))) hl ha4 fun n5 at5 bad5 ha5 hn5 hb5 ex5 => ?_).weaken (by (repeat' first | exact Sub.refl _ | exact Sub.nil _ | assumption | refine Sub.both ?_ ?_ | refine Sub.cons_of (by simp only [subs, nr, n4, n4', n4'', hj, f2, e2']) ?_ | exact Sub.left _ _ | refine Sub.app (by simp only [subs, nr, n4, n4', n4'', hj, f2, e2']) ?_ | refine Sub.cons (by simp only [subs, nr, n4, n4', n4'', hj, f2, e2']) ?_))
    simp only [walk, lists, acts, mem, plain, seqs, maps, cells, resL, resV, intBin, ↓reduceIte, Nat.reduceAdd, Nat.reduceSub, Nat.reduceMul, Nat.reduceLeDiff, Nat.reduceEqDiff, Int.reduceToNat, Int.reduceEq, Int.reduceLT, Int.reduceLE, Int.reduceNeg, Int.reduceAdd, Int.reduceSub, Int.reduceMul, Nat.reducePow, Int.reduceNegSucc, w_rd, wWord, wCall]
    refine nums_c (by simp only [subs, f2, nr, n4, n4', n4'', hj]) ((rbb _).sub (by (repeat' first | exact Sub.refl _ | exact Sub.nil _ | assumption | refine Sub.both ?_ ?_ | refine Sub.cons_of (by simp only [subs, f2]) ?_ | exact Sub.left _ _ | refine Sub.app (by simp only [subs, f2]) ?_ | refine Sub.cons (by simp only [subs, f2]) ?_))) hl ha5 hn5.2 fun V3 g3 ys3 at6 bad6 o3 e3 ha6 hl3 hb6 hy3 ex6 => ?_
    have e3' := e3.symm
    have f3 := e3
    simp only [subs] at f3 e3'
    have one3 := o3.rd.one
    have vc3 := vcells_one one3
    simp only [walk, lists, acts, mem, plain, seqs, maps, cells, resL, resV, intBin, ↓reduceIte, Nat.reduceAdd, Nat.reduceSub, Nat.reduceMul, Nat.reduceLeDiff, Nat.reduceEqDiff, Int.reduceToNat, Int.reduceEq, Int.reduceLT, Int.reduceLE, Int.reduceNeg, Int.reduceAdd, Int.reduceSub, Int.reduceMul, Nat.reducePow, Int.reduceNegSucc, w_rd, wWord, wCall, apps, f2, f3, n4'.1, n4'.2.1, one3, vc3]
    have E1 : ∀ w0, wordP w0 → l = pack w0 → [y0, y1, y2, y3, y4, y5, y6, y7, y8, y9, y10, y11, y12, y13] = headW w0 ∧ l.drop at1 = w0.call.text ++ restT w0 := fun w0 ok e => by
      have := ex1 rfl (headW w0) (w0.call.text ++ restT w0) (by rw [e, pack_head]; simp) (headW_small ok) rfl
      exact ⟨this.1, this.2.1⟩
    have E2 : ∀ w0, wordP w0 → l = pack w0 → s2 = w0.call.text ∧ l.drop at2 = restT w0 ∧ bad2 = false := fun w0 ok e => by
      obtain ⟨a, b⟩ := E1 w0 ok e
      refine ex2 rfl _ _ b ?_
      simp only [headW, List.cons.injEq] at a
      exact a.2.2.2.2.2.2.2.2.2.2.2.2.2.1.symm
    have E3 : ∀ w0, wordP w0 → l = pack w0 → n3 = w0.slots.length ∧ l.drop at3 = encIs w0.slots ++ restS w0 ∧ bad3 = false := fun w0 ok e => by
      obtain ⟨_, b, c⟩ := E2 w0 ok e
      have hz := slotsP_len ok.2.2.2.2.2.2.1
      rw [restT, encIs_cons, List.append_assoc] at b
      have := ex3 _ _ ⟨b, small_num ⟨by omega, by omega⟩⟩
      rw [unzig_zig, c] at this; exact this
    have E4 : ∀ w0, wordP w0 → l = pack w0 → ys2 = w0.slots ∧ l.drop at4 = restS w0 ∧ bad4 = false := fun w0 ok e => by
      obtain ⟨a, b, c⟩ := E3 w0 ok e
      exact ex4 c _ _ b (slotsP_small ok.2.2.2.2.2.2.1) a.symm
    have E5 : ∀ w0, wordP w0 → l = pack w0 → n5 = w0.vals.length ∧ l.drop at5 = encIs w0.vals ++ restV w0 ∧ bad5 = false := fun w0 ok e => by
      obtain ⟨_, b, c⟩ := E4 w0 ok e
      have hz := ok.2.2.2.2.2.2.2.2.2.1.1
      rw [restS, encIs_cons, List.append_assoc] at b
      have := ex5 _ _ ⟨b, small_num ⟨by omega, by omega⟩⟩
      rw [unzig_zig, c] at this; exact this
    have E6 : ∀ w0, wordP w0 → l = pack w0 → ys3 = w0.vals ∧ l.drop at6 = restV w0 ∧ bad6 = false := fun w0 ok e => by
      obtain ⟨a, b, c⟩ := E5 w0 ok e
      exact ex6 c _ _ b (valsP_small ok.2.2.2.2.2.2.2.2.2.1) a.symm
    obtain ⟨hC, ehC⟩ : ∃ hC : Value → H, hC = fun q => g3 ++ (g2 ++ ((j4, blk (cWord D2 V2 q V3) 28) :: (jr, Z) :: h0)) := ⟨_, rfl⟩
    have hCj : ∀ q, hget (hC q) j = none := fun q => by rw [ehC]; simp only [subs, f2, f3, nr, n4, n4', n4'', hj]
    have hCl : ∀ q, rBytes (hC q) bv l := fun q => by rw [ehC]; exact (rbb _).sub (by (repeat' first | exact Sub.refl _ | exact Sub.nil _ | assumption | refine Sub.both ?_ ?_ | refine Sub.cons_of (by simp only [subs, f2, f3, e2', e3']) ?_ | exact Sub.left _ _ | refine Sub.app (by simp only [subs, f2, f3, e2', e3']) ?_ | refine Sub.cons (by simp only [subs, f2, f3, e2', e3']) ?_))
    refine (num_c (at_ := at6) (bad := bad6) (h0 := hC N) (hCj N) (hCl N) hl ha6 fun n7 at7 bad7 ha7 hn7 hb7 ex7 => ?_).weaken (by rw [ehC]; (repeat' first | exact Sub.refl _ | exact Sub.nil _ | assumption | refine Sub.both ?_ ?_ | refine Sub.cons_of (by simp only [subs, nr, n4, n4', n4'', hj, f2, e2', f3, e3']) ?_ | exact Sub.left _ _ | refine Sub.app (by simp only [subs, nr, n4, n4', n4'', hj, f2, e2', f3, e3']) ?_ | refine Sub.cons (by simp only [subs, nr, n4, n4', n4'', hj, f2, e2', f3, e3']) ?_))
    have E7 : ∀ w0, wordP w0 → l = pack w0 → n7 = w0.pairs.length ∧ l.drop at7 = encIs (flatP w0.pairs) ∧ bad7 = false := fun w0 ok e => by
      obtain ⟨_, b, c⟩ := E6 w0 ok e
      have hz := ok.2.2.2.2.2.2.2.1.1
      rw [restV, encIs_cons] at b
      have := ex7 _ _ ⟨b, small_num ⟨by omega, by omega⟩⟩
      rw [unzig_zig, c] at this; exact this
    simp only [walk, lists, acts, mem, plain, seqs, maps, cells, resL, resV, intBin, ↓reduceIte, Nat.reduceAdd, Nat.reduceSub, Nat.reduceMul, Nat.reduceLeDiff, Nat.reduceEqDiff, Int.reduceToNat, Int.reduceEq, Int.reduceLT, Int.reduceLE, Int.reduceNeg, Int.reduceAdd, Int.reduceSub, Int.reduceMul, Nat.reducePow, Int.reduceNegSucc, w_rd, wWord, wCall]
    refine vc_loop [5] (fun n' vs h' => ∃ (m : Int) (pv : Value) (gp : H) (ps : List (Int × Int)) (at' : Nat) (bad' : Bool), vs = [.int .i64 m] ∧ h' = gp ++ ((j, blk (rd bv at' bad') 49) :: hC pv) ∧ (∀ q, Dj gp ((j, blk (rd bv at' bad') 49) :: hC q)) ∧ oLs 69 eP 2 pv ps gp ∧
      -2097152 ≤ m ∧ m ≤ 2097152 ∧ ps.length + m.toNat ≤ 2097152 ∧ at' ≤ l.length ∧ n' = m.toNat ∧ (∀ w0, wordP w0 → l = pack w0 → bad' = false ∧ ∃ i, i ≤ w0.pairs.length ∧ ps = w0.pairs.take i ∧ m = (w0.pairs.length : Int) - i ∧ l.drop at' = encIs (flatP (w0.pairs.drop i)))) n7.toNat rfl
      ⟨n7, N, [], [], at7, bad7, rfl, rfl, fun q => Dj.nil _, by rw [hN]; exact ows.nil _ _, hn7.1, hn7.2, by simp; omega, ha7, rfl, fun w0 ok e => by
        obtain ⟨a, b, c⟩ := E7 w0 ok e
        exact ⟨c, 0, by omega, by simp, by omega, by simpa using b⟩⟩ ?_
    rintro n' f h' ⟨m, pv, gp, ps, at', bad', hv, rfl, dp, op, hm1, hm2, hpl, ha', rfl, ex⟩
    simp only [List.map_cons, List.map_nil, List.cons.injEq, and_true] at hv
    have dp1 := dp pv
    have dp2 := dp1.symm
    simp only [subs] at dp1 dp2
    simp only [walk, lists, acts, mem, plain, seqs, maps, cells, resL, resV, intBin, ↓reduceIte, Nat.reduceAdd, Nat.reduceSub, Nat.reduceMul, Nat.reduceLeDiff, Nat.reduceEqDiff, Int.reduceToNat, Int.reduceEq, Int.reduceLT, Int.reduceLE, Int.reduceNeg, Int.reduceAdd, Int.reduceSub, Int.reduceMul, Nat.reducePow, Int.reduceNegSucc, wr, hv, w_rd, apps, dp1]
    have dpx := dp pv
    rw [ehC] at dpx
    have dpx2 := dpx.symm
    simp only [subs] at dpx dpx2
    have fin : (∀ w0, wordP w0 → l = pack w0 → ps = w0.pairs ∧ bad' = false) → dP R (.returned (.agg (cWord D2 V2 pv V3).toArray)) (gp ++ ((j, blk (rd bv at' bad') 49) :: (g3 ++ (g2 ++ ((j4, blk (cWord D2 V2 pv V3) 28) :: (jr, blk (cWord D2 V2 pv V3) 28) :: h0))))) := fun hx =>
      ⟨g2 ++ (gp ++ (g3 ++ ((j, blk (rd bv at' bad') 49) :: h0))), by (repeat' first | exact Sub.refl _ | exact Sub.nil _ | assumption | refine Sub.both ?_ ?_ | refine Sub.cons_of (by simp only [subs, dpx, dpx2, f2, f3, e2', e3', nr, n4, n4', n4'', hj]) ?_ | exact Sub.left _ _ | refine Sub.app (by simp only [subs, dpx, dpx2, f2, f3, e2', e3', nr, n4, n4', n4'', hj]) ?_ | refine Sub.cons (by simp only [subs, dpx, dpx2, f2, f3, e2', e3', nr, n4, n4', n4'', hj]) ?_),
        k { D2 with slots := ys2, pairs := ps, vals := ys3 } V2 pv V3 g2 gp g3 at' bad' ⟨o2, op, o3, dpx2.2.2.1, e3'.2.1, dpx.2.1⟩ (by simp only [subs, f2]) (by simp only [subs, dpx]) (by simp only [subs, f3]) ⟨by show ys2.length ≤ _; omega, by show ps.length ≤ _; omega, by show ys3.length ≤ _; omega⟩ fun w0 ok e => by
          obtain ⟨h1, h2⟩ := hx w0 ok e
          refine ⟨?_, h2⟩
          have a1 := (E1 w0 ok e).1
          have a2 := (E2 w0 ok e).1
          have a4 := (E4 w0 ok e).1
          have a6 := (E6 w0 ok e).1
          simp only [headW, List.cons.injEq, and_true] at a1
          obtain ⟨a, b, c, d, e', f', g', h', i', j', k', l', m', n'⟩ := a1
          subst hD
          rw [hD2, h1, a2, a4, a6, a, b, c, d, e', f', g', h', i', j', k', l', m']
          have hy : decide (yesN w0.yes = 1) = w0.yes := by unfold yesN; cases w0.yes <;> rfl
          rw [hy]⟩
    have onep := op.rd.one
    refine ite_lt (fun c1 => ite_f (fun c2 => ?_) fun c2 => ?_) fun c1 => ?_
    · subst c2
      have dg : hget (gp ++ hC pv) j = none := by rw [ehC]; simp only [subs, dpx, f2, f3, nr, n4, n4', n4'', hj]
      refine (nums_c (at_ := at') (bad := false) (h0 := gp ++ hC pv) (n := 2) dg ((hCl pv).sub (Sub.right (Dj_cons.1 (dp pv)).2)) hl ha' (by omega) fun V5 g5 ys5 at8 bad8 o5 e5 ha8 hl5 hb5 hy5 ex8 => ?_).weaken (by rw [ehC]; (repeat' first | exact Sub.refl _ | exact Sub.nil _ | assumption | refine Sub.both ?_ ?_ | refine Sub.cons_of (by simp only [subs, dpx, dpx2, f2, f3, e2', e3', nr, n4, n4', n4'', hj]) ?_ | exact Sub.left _ _ | refine Sub.app (by simp only [subs, dpx, dpx2, f2, f3, e2', e3', nr, n4, n4', n4'', hj]) ?_ | refine Sub.cons (by simp only [subs, dpx, dpx2, f2, f3, e2', e3', nr, n4, n4', n4'', hj]) ?_))
      rw [ehC] at e5
      have f5 := e5
      have e5' := e5.symm
      simp only [subs] at f5 e5'
      simp only [walk, lists, acts, mem, plain, seqs, maps, cells, resL, resV, intBin, ↓reduceIte, Nat.reduceAdd, Nat.reduceSub, Nat.reduceMul, Nat.reduceLeDiff, Nat.reduceEqDiff, Int.reduceToNat, Int.reduceEq, Int.reduceLT, Int.reduceLE, Int.reduceNeg, Int.reduceAdd, Int.reduceSub, Int.reduceMul, Nat.reducePow, Int.reduceNegSucc, w_rd, apps, f5]
      have E8 : ∀ w0, wordP w0 → l = pack w0 → bad8 = false ∧ ∃ i, ∃ h : i < w0.pairs.length, ps = w0.pairs.take i ∧ m = (w0.pairs.length : Int) - i ∧ l.drop at8 = encIs (flatP (w0.pairs.drop (i + 1))) ∧ ys5 = [w0.pairs[i].1, w0.pairs[i].2] := fun w0 ok e => by
        obtain ⟨_, i, hi, h1, h2, h3⟩ := ex w0 ok e
        have hi2 : i < w0.pairs.length := by omega
        rw [List.drop_eq_getElem_cons hi2, flatP_cons] at h3
        have := ex8 rfl [w0.pairs[i].1, w0.pairs[i].2] (encIs (flatP (w0.pairs.drop (i + 1)))) (by rw [h3, encIs_cons, encIs_cons, encIs_cons, encIs_one]; simp) (fun x hx => by
          have sm := pairsP_small ok.2.2.2.2.2.2.2.1 (List.getElem_mem hi2)
          simp only [List.mem_cons, List.not_mem_nil, or_false] at hx
          rcases hx with rfl | rfl
          · exact sm.1
          · exact sm.2) rfl
        exact ⟨this.2.2, i, hi2, h1, h2, this.2.1, this.1⟩
      cases bad8
      · have hl5' := (hb5 rfl).2
        obtain ⟨ya, yb, rfl⟩ := list2 (by simpa using hl5')
        have n4j : j ≠ j4 ∧ j4 ≠ j ∧ jr ≠ j4 ∧ j4 ≠ jr := ⟨n4'.1, n4'.2.1, n4''.1, n4''.2.1⟩
        have rc8 : ∀ q, hcel (hC q) j4 8 = some q := fun q => by rw [ehC]; simp only [apps, f2, f3, mem, wWord]
        have wc8 : ∀ q x, hwrite (hC q) j4 8 [x] = some (hC x) := fun q x => by rw [ehC]; simp only [apps, f2, f3, mem, wWord, maps]; simp
        have hs5 : hget g5 j4 = none := by simp only [f5]
        have dhr : Dj gp (g5 ++ ((j, blk (rd bv at8 false) 49) :: hC pv)) := by rw [ehC]; simp only [subs, dpx, e5']
        simp only [↓reduceIte]
        refine vc_draw (g5 ++ ((j, blk (rd bv at8 false) 49) :: hC pv)) (by rw [ehC]; (repeat' first | exact Sub.refl _ | exact Sub.nil _ | assumption | refine Sub.both ?_ ?_ | refine Sub.cons_of (by simp only [subs, dpx, dpx2, f5, e5', f2, f3, e2', e3', nr, n4, n4', n4'', hj]) ?_ | exact Sub.left _ _ | refine Sub.app (by simp only [subs, dpx, dpx2, f5, e5', f2, f3, e2', e3', nr, n4, n4', n4'', hj]) ?_ | refine Sub.cons (by simp only [subs, dpx, dpx2, f5, e5', f2, f3, e2', e3', nr, n4, n4', n4'', hj]) ?_)) ?_
        simp only [walk, lists, acts, mem, plain, seqs, maps, cells, resL, resV, intBin, ↓reduceIte, Nat.reduceAdd, Nat.reduceSub, Nat.reduceMul, Nat.reduceLeDiff, Nat.reduceEqDiff, Int.reduceToNat, Int.reduceEq, Int.reduceLT, Int.reduceLE, Int.reduceNeg, Int.reduceAdd, Int.reduceSub, Int.reduceMul, Nat.reducePow, Int.reduceNegSucc, apps, hs5, n4j, rc8]
        refine idx_leaf (i := 0) eI_len (o5.rd.sub (Sub.left g5 ((j, blk (rd bv at8 false) 49) :: hC pv))) rfl (by simp) fun b1 o1 e1 => ?_
        simp only [walk, lists, acts, mem, plain, seqs, maps, cells, resL, resV, intBin, ↓reduceIte, Nat.reduceAdd, Nat.reduceSub, Nat.reduceMul, Nat.reduceLeDiff, Nat.reduceEqDiff, Int.reduceToNat, Int.reduceEq, Int.reduceLT, Int.reduceLE, Int.reduceNeg, Int.reduceAdd, Int.reduceSub, Int.reduceMul, Nat.reducePow, Int.reduceNegSucc, hread_1 e1]
        have sHR : Tk.Sub (g5 ++ ((j, blk (rd bv at8 false) 49) :: hC pv)) (g5 ++ ((j, blk (rd bv at8 false) 49) :: (gp ++ hC pv))) := by rw [ehC]; (repeat' first | exact Sub.refl _ | exact Sub.nil _ | assumption | refine Sub.both ?_ ?_ | refine Sub.cons_of (by simp only [subs, dpx, dpx2, f5, e5', f2, f3, e2', e3', nr, n4, n4', n4'', hj]) ?_ | exact Sub.left _ _ | refine Sub.app (by simp only [subs, dpx, dpx2, f5, e5', f2, f3, e2', e3', nr, n4, n4', n4'', hj]) ?_ | refine Sub.cons (by simp only [subs, dpx, dpx2, f5, e5', f2, f3, e2', e3', nr, n4, n4', n4'', hj]) ?_)
        have sGP : Tk.Sub gp (g5 ++ ((j, blk (rd bv at8 false) 49) :: (gp ++ hC pv))) := by rw [ehC]; (repeat' first | exact Sub.refl _ | exact Sub.nil _ | assumption | refine Sub.both ?_ ?_ | refine Sub.cons_of (by simp only [subs, dpx, dpx2, f5, e5', f2, f3, e2', e3', nr, n4, n4', n4'', hj]) ?_ | exact Sub.left _ _ | refine Sub.app (by simp only [subs, dpx, dpx2, f5, e5', f2, f3, e2', e3', nr, n4, n4', n4'', hj]) ?_ | refine Sub.cons (by simp only [subs, dpx, dpx2, f5, e5', f2, f3, e2', e3', nr, n4, n4', n4'', hj]) ?_)
        refine ⟨sHR, ?_⟩
        refine idx_leaf (i := 1) eI_len (o5.rd.sub (Sub.left g5 ((j, blk (rd bv at8 false) 49) :: (gp ++ hC pv)))) rfl (by simp) fun b2 o2' e2x => ?_
        simp only [walk, lists, acts, mem, plain, seqs, maps, cells, resL, resV, intBin, ↓reduceIte, Nat.reduceAdd, Nat.reduceSub, Nat.reduceMul, Nat.reduceLeDiff, Nat.reduceEqDiff, Int.reduceToNat, Int.reduceEq, Int.reduceLT, Int.reduceLE, Int.reduceNeg, Int.reduceAdd, Int.reduceSub, Int.reduceMul, Nat.reducePow, Int.reduceNegSucc, hread_1 e2x]
        refine ⟨sHR, sHR, sHR, newB_intro (o := blk (fl eP [(ya, yb)]) 69) fun j6 hj6 => ?_⟩
        simp only [walk, lists, acts, mem, plain, seqs, maps, cells, resL, resV, intBin, ↓reduceIte, Nat.reduceAdd, Nat.reduceSub, Nat.reduceMul, Nat.reduceLeDiff, Nat.reduceEqDiff, Int.reduceToNat, Int.reduceEq, Int.reduceLT, Int.reduceLE, Int.reduceNeg, Int.reduceAdd, Int.reduceSub, Int.reduceMul, Nat.reducePow, Int.reduceNegSucc]
        refine ⟨Sub.cons hj6 sHR, ?_⟩
        refine app_leaf (g := gp) (h := g5 ++ ((j, blk (rd bv at8 false) 49) :: hC pv)) (M := (j6, blk (fl eP [(ya, yb)]) 69) :: (g5 ++ ((j, blk (rd bv at8 false) 49) :: (gp ++ hC pv)))) eP_len eP_one tPairs iPair (Sub.cons hj6 (Sub.both sGP sHR)) dhr op (rL_lit eP_len [(ya, yb)]) (by simp; omega) (by simp; omega) fun v6 g6 o6 d6 => ?_
        simp only [walk, lists, acts, mem, plain, seqs, maps, cells, resL, resV, intBin, ↓reduceIte, Nat.reduceAdd, Nat.reduceSub, Nat.reduceMul, Nat.reduceLeDiff, Nat.reduceEqDiff, Int.reduceToNat, Int.reduceEq, Int.reduceLT, Int.reduceLE, Int.reduceNeg, Int.reduceAdd, Int.reduceSub, Int.reduceMul, Nat.reducePow, Int.reduceNegSucc]
        refine ⟨Sub.right d6, ?_⟩
        have d6x := d6
        rw [ehC] at d6x
        have d6y := d6x.symm
        simp only [subs] at d6x d6y
        have one6 := o6.rd.one
        have vc6 := vcells_one one6
        simp only [walk, lists, acts, mem, plain, seqs, maps, cells, resL, resV, intBin, ↓reduceIte, Nat.reduceAdd, Nat.reduceSub, Nat.reduceMul, Nat.reduceLeDiff, Nat.reduceEqDiff, Int.reduceToNat, Int.reduceEq, Int.reduceLT, Int.reduceLE, Int.reduceNeg, Int.reduceAdd, Int.reduceSub, Int.reduceMul, Nat.reducePow, Int.reduceNegSucc, apps, d6x, hs5, n4j, wc8, one6, vc6]
        simp (disch := omega) only [wrapI]
        refine ⟨(m - 1).toNat, by omega, g6 ++ ((j, blk (rd bv at8 false) 49) :: hC v6), by rw [ehC]; (repeat' first | exact Sub.refl _ | exact Sub.nil _ | assumption | refine Sub.both ?_ ?_ | refine Sub.cons_of (by simp only [subs, d6x, d6y, f5, e5', f2, f3, e2', e3', nr, n4, n4', n4'', hj]) ?_ | exact Sub.left _ _ | refine Sub.app (by simp only [subs, d6x, d6y, f5, e5', f2, f3, e2', e3', nr, n4, n4', n4'', hj]) ?_ | refine Sub.cons (by simp only [subs, d6x, d6y, f5, e5', f2, f3, e2', e3', nr, n4, n4', n4'', hj]) ?_), m - 1, v6, g6, _, at8, false, rfl, rfl, fun q => ?_, o6, by omega, by omega, by simp; omega, ha8, rfl, fun w0 ok e => ?_⟩
        · rw [ehC]; simp only [subs, d6x]
        · obtain ⟨_, i, hi, h1, h2, h3, h4⟩ := E8 w0 ok e
          simp only [List.cons.injEq, and_true] at h4
          exact ⟨rfl, i + 1, by omega, by rw [take_app_one hi, h1, h4.1, h4.2], by omega, h3⟩
      · simp (disch := omega) only [walk, lists, acts, mem, plain, seqs, maps, cells, resL, resV, intBin, ↓reduceIte, Nat.reduceAdd, Nat.reduceSub, Nat.reduceMul, Nat.reduceLeDiff, Nat.reduceEqDiff, Int.reduceToNat, Int.reduceEq, Int.reduceLT, Int.reduceLE, Int.reduceNeg, Int.reduceAdd, Int.reduceSub, Int.reduceMul, Nat.reducePow, Int.reduceNegSucc, wrapI]
        refine ⟨(m - 1).toNat, by omega, gp ++ ((j, blk (rd bv at8 true) 49) :: hC pv), by rw [ehC]; (repeat' first | exact Sub.refl _ | exact Sub.nil _ | assumption | refine Sub.both ?_ ?_ | refine Sub.cons_of (by simp only [subs, dpx, dpx2, f5, e5', f2, f3, e2', e3', nr, n4, n4', n4'', hj]) ?_ | exact Sub.left _ _ | refine Sub.app (by simp only [subs, dpx, dpx2, f5, e5', f2, f3, e2', e3', nr, n4, n4', n4'', hj]) ?_ | refine Sub.cons (by simp only [subs, dpx, dpx2, f5, e5', f2, f3, e2', e3', nr, n4, n4', n4'', hj]) ?_), m - 1, pv, gp, ps, at8, true, rfl, rfl, fun q => ?_, op, by omega, by omega, by omega, ha8, rfl, fun w0 ok e => ?_⟩
        · rw [ehC]; simp only [subs, dpx]
        · have := (E8 w0 ok e).1
          cases this
    · have hx := fin fun w0 ok e => by have := (ex w0 ok e).1; rw [c2] at this; cases this
      simp only [ehC, hZ]
      simp only [walk, lists, acts, mem, plain, seqs, maps, cells, resL, resV, intBin, ↓reduceIte, Nat.reduceAdd, Nat.reduceSub, Nat.reduceMul, Nat.reduceLeDiff, Nat.reduceEqDiff, Int.reduceToNat, Int.reduceEq, Int.reduceLT, Int.reduceLE, Int.reduceNeg, Int.reduceAdd, Int.reduceSub, Int.reduceMul, Nat.reducePow, Int.reduceNegSucc, apps, dpx, f2, f3, n4.1, n4.2.1, n4'.1, n4'.2.1, n4''.1, n4''.2.1, nr.1, nr.2.1, wWord, one2, one3, onep]
      exact hx
    · have hx := fin fun w0 ok e => by
        obtain ⟨a, i, hi, h1, h2, _⟩ := ex w0 ok e
        exact ⟨by rw [h1, List.take_of_length_le (by omega)], a⟩
      simp only [ehC, hZ]
      simp only [walk, lists, acts, mem, plain, seqs, maps, cells, resL, resV, intBin, ↓reduceIte, Nat.reduceAdd, Nat.reduceSub, Nat.reduceMul, Nat.reduceLeDiff, Nat.reduceEqDiff, Int.reduceToNat, Int.reduceEq, Int.reduceLT, Int.reduceLE, Int.reduceNeg, Int.reduceAdd, Int.reduceSub, Int.reduceMul, Nat.reducePow, Int.reduceNegSucc, apps, dpx, f2, f3, n4.1, n4.2.1, n4'.1, n4'.2.1, n4''.1, n4''.2.1, nr.1, nr.2.1, wWord, one2, one3, onep]
      exact hx
  · simp only [walk, lists, acts, mem, plain, seqs, maps, cells, resL, resV, intBin, ↓reduceIte, Nat.reduceAdd, Nat.reduceSub, Nat.reduceMul, Nat.reduceLeDiff, Nat.reduceEqDiff, Int.reduceToNat, Int.reduceEq, Int.reduceLT, Int.reduceLE, Int.reduceNeg, Int.reduceAdd, Int.reduceSub, Int.reduceMul, Nat.reducePow, Int.reduceNegSucc, w_rd, zw, nr.1, nr.2.1, d1, apps, wWord]
    refine ⟨[] ++ ([] ++ ([] ++ ((j, blk (rd bv at1 true) 49) :: h0))), by (repeat' first | exact Sub.refl _ | exact Sub.nil _ | assumption | refine Sub.both ?_ ?_ | refine Sub.cons_of (by simp only [subs, d1, d2, nr, hj]) ?_ | exact Sub.left _ _ | refine Sub.app (by simp only [subs, d1, d2, nr, hj]) ?_ | refine Sub.cons (by simp only [subs, d1, d2, nr, hj]) ?_), k zWord _ _ _ [] [] [] at1 true ⟨ows.nil _ _, ows.nil _ _, ows.nil _ _, Dj.nil _, Dj.nil _, Dj.nil _⟩ (Dj.nil _) (Dj.nil _) (Dj.nil _) ⟨by decide, by decide, by decide⟩ fun w0 ok e => ?_⟩
    have := (ex1 rfl (headW w0) (w0.call.text ++ restT w0) (by rw [e, pack_head]; simp) (headW_small ok) rfl).2.2
    cases this
end Go.Proofs.Ytllhdnfcneejaaa
end
