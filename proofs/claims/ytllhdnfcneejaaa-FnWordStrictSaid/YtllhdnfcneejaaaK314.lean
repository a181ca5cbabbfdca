/- Parts of the proof, put together: T24, T25, T26, T27, T2. -/
import Derived.Test.YtllhdnfcneejaaaChecked
import Derived.WalkKit
import Derived.LaidEql
import Derived.RowKitTokens
import Derived.Test.YtllhdnfcneejaaaK313
import Derived.Test.YtllhdnfcneejaaaK39
import Derived.Test.YtllhdnfcneejaaaK35
import Derived.Test.YtllhdnfcneejaaaK310
import Derived.Test.YtllhdnfcneejaaaK37
/- How the program reads words. -/
section
set_option linter.unusedVariables false
set_option linter.unusedSimpArgs false
set_option maxRecDepth 20000
attribute [local irreducible] Go.Tk.vc Go.Tk.vops Go.Tk.vdr Go.Tk.vop Go.Tk.vfl Go.Tk.HCalls
namespace Go.Proofs.Ytllhdnfcneejaaa
open Go Go.Tk

theorem list8 {l : List Int} (h : l.length = 8) : ∃ a0 a1 a2 a3 a4 a5 a6 a7, l = [a0, a1, a2, a3, a4, a5, a6, a7] := by
  match l, h with
  | [a0, a1, a2, a3, a4, a5, a6, a7], _ => exact ⟨_, _, _, _, _, _, _, _, rfl⟩
theorem list5 {l : List Int} (h : l.length = 5) : ∃ a0 a1 a2 a3 a4, l = [a0, a1, a2, a3, a4] := by
  match l, h with
  | [a0, a1, a2, a3, a4], _ => exact ⟨_, _, _, _, _, rfl⟩
theorem encIs_ge (zs : List Int) : zs.length ≤ (encIs zs).length := by
  induction zs with
  | nil => simp
  | cons a t ih =>
    rw [encIs_cons, List.length_append, List.length_cons]
    have : 0 < (encI a).length := List.length_pos_iff.2 (encN_ne _)
    omega

def head8 (w : DWord) : List Int := [w.kind, w.from_, w.to, w.stamp, w.try_, w.what, yesN w.yes, w.code]
def head5 (w : DWord) : List Int := [w.call.session, w.call.number, w.call.kind, w.call.slot, w.call.to]
theorem pack_cut (w : DWord) : pack w = encIs (head8 w) ++ (encIs (head5 w) ++ (encI (w.call.text.length : Int) ++ (w.call.text ++ restT w))) := by
  rw [pack_head]
  simp [headW, head8, head5, encIs]
theorem head_small {w : DWord} (h : wordP w) : allP smallP (head8 w) ∧ allP smallP (head5 w) ∧ smallP (w.call.text.length : Int) := by
  have := headW_small h
  refine ⟨fun x hx => this x ?_, fun x hx => this x ?_, this _ ?_⟩
  · simp only [head8, headW, List.mem_cons, List.not_mem_nil, or_false] at hx ⊢
    rcases hx with rfl | rfl | rfl | rfl | rfl | rfl | rfl | rfl <;> simp
  · simp only [head5, headW, List.mem_cons, List.not_mem_nil, or_false] at hx ⊢
    rcases hx with rfl | rfl | rfl | rfl | rfl <;> simp
  · simp [headW]

theorem errV_is {e : Option (Nat × Int)} {f : Value → Prop} : ieqK false true (errV e) .nilIface f = f (.bool e.isNone) := by
  cases e with
  | none => rw [errV_n, ieqK_1]; simp
  | some p => obtain ⟨a, b⟩ := p; rw [errV_s, ieqK_3]; simp

/-- A word's first numbers. -/
def D8 (ys : List Int) : DWord := { zWord with kind := ys.getD 0 0, from_ := ys.getD 1 0, to := ys.getD 2 0, stamp := ys.getD 3 0, try_ := ys.getD 4 0, what := ys.getD 5 0, code := ys.getD 7 0 }
def D5 (d : DWord) (ys : List Int) : DWord := { d with call := { session := ys.getD 0 0, number := ys.getD 1 0, kind := ys.getD 2 0, text := [], slot := ys.getD 3 0, to := ys.getD 4 0 } }
theorem D8_nil : D8 [] = zWord := rfl
theorem D5_nil (ys : List Int) : D5 (D8 ys) [] = D8 ys := rfl

theorem ar1 {n i : Nat} (h : (0 : Int) < ((n - i : Nat) : Int)) : i < n := by omega
theorem ar1' {n i : Nat} (h : ((n - i : Nat) : Int) ≤ 0) (hi : i ≤ n) : i = n := by omega
theorem ar2 {n i : Nat} (h : i < n) : n - (i + 1) < n - i := by omega
theorem ar3 {n i : Nat} (h : i < n) (hn : n ≤ 1099511627776) : IntKind.i64.wrap (((n - i : Nat) : Int) - 1) = ((n - (i + 1) : Nat) : Int) := by
  rw [wrapI _ (by omega)]; omega
theorem ar4 {a b i n : Nat} (ha : a = i) (h : i < n) (hn : n ≤ 1099511627776) (hb : b ≤ 16) : (a + 1) * b ≤ 140737488355328 := by
  have : (a + 1) * b ≤ (a + 1) * 16 := Nat.mul_le_mul_left _ hb
  omega
theorem ar5 {a i n : Nat} (ha : a = i) (h : i < n) (hn : n ≤ 1099511627776) : a + 1 ≤ 140737488355328 := by omega
theorem ar6 {a b : Nat} (h : b ≤ a) (h2 : (a : Int) < b) : False := by omega

theorem implWord_c {h0 : H} {j : Nat} {bv : Value} {l : List UInt8} (hj : hget h0 j = none) (rb : rBytes h0 bv l) (hl : l.length ≤ 1099511627776) {R : Ending → H → Prop}
    (k : ∀ w s p v gs gp gv (at' : Nat) (e' : Option (Nat × Int)), oWord 3 69 3 w s p v gs gp gv → Dj gs ((j, blk (cu bv at' (errV e')) 54) :: h0) → Dj gp ((j, blk (cu bv at' (errV e')) 54) :: h0) → Dj gv ((j, blk (cu bv at' (errV e')) 54) :: h0) →
      wLen w → okE e' → (∀ w0, wordP w0 → l = pack w0 → w = w0 ∧ e' = none) → R (.returned (.agg (cWord w s p v).toArray)) (gs ++ (gp ++ (gv ++ ((j, blk (cu bv at' (errV e')) 54) :: h0))))) :
    HCalls Try.prog 28 #[.pointer (some ⟨j, 0, none⟩)] ((j, blk (cu bv 0 (errV none)) 54) :: h0) R := by
  refine HCalls_ir (args := [.pointer (some ⟨j, 0, none⟩)]) Try.func28 ir28 ?_
  have zw := zWord_eq
  simp only [str] at zw
  obtain ⟨N, hN⟩ : ∃ N, N = Value.slice none 0 0 := ⟨_, rfl⟩
  have one : vone N = true := by rw [hN]; rfl
  simp only [walk, lists, acts, mem, plain, seqs, maps, cells, resL, resV, intBin, ↓reduceIte, Nat.reduceAdd, Nat.reduceSub, Nat.reduceMul, Nat.reduceLeDiff, Nat.reduceEqDiff, Int.reduceToNat, Int.reduceEq, Int.reduceLT, Int.reduceLE, Int.reduceNeg, Int.reduceAdd, Int.reduceSub, Int.reduceMul, Nat.reducePow, Int.reduceNegSucc, w_cu, str, zw]
  rw [← hN]
  refine newB_intro fun j2 hj2 => ?_
  have n2 := fresh hj2
  obtain ⟨Z, hZ⟩ : ∃ Z, Z = blk (cWord zWord N N N) 28 := ⟨_, rfl⟩
  simp only [walk, lists, acts, mem, plain, seqs, maps, cells, resL, resV, intBin, ↓reduceIte, Nat.reduceAdd, Nat.reduceSub, Nat.reduceMul, Nat.reduceLeDiff, Nat.reduceEqDiff, Int.reduceToNat, Int.reduceEq, Int.reduceLT, Int.reduceLE, Int.reduceNeg, Int.reduceAdd, Int.reduceSub, Int.reduceMul, Nat.reducePow, Int.reduceNegSucc, w_cu, zw]
  refine newB_intro (o := blk (cWord zWord N N N) 28) fun j3 hj3 => ?_
  have n3 := fresh hj3
  have o3 := fresh n3.2.2
  simp only [walk, lists, acts, mem, plain, seqs, maps, cells, resL, resV, intBin, ↓reduceIte, Nat.reduceAdd, Nat.reduceSub, Nat.reduceMul, Nat.reduceLeDiff, Nat.reduceEqDiff, Int.reduceToNat, Int.reduceEq, Int.reduceLT, Int.reduceLE, Int.reduceNeg, Int.reduceAdd, Int.reduceSub, Int.reduceMul, Nat.reducePow, Int.reduceNegSucc, w_cu]
  refine newB_intro fun j4 hj4 => ?_
  have n4 := fresh hj4
  have o4 := fresh n4.2.2
  have p4 := fresh o4.2.2
  simp only [walk, lists, acts, mem, plain, seqs, maps, cells, resL, resV, intBin, ↓reduceIte, Nat.reduceAdd, Nat.reduceSub, Nat.reduceMul, Nat.reduceLeDiff, Nat.reduceEqDiff, Int.reduceToNat, Int.reduceEq, Int.reduceLT, Int.reduceLE, Int.reduceNeg, Int.reduceAdd, Int.reduceSub, Int.reduceMul, Nat.reducePow, Int.reduceNegSucc, w_cu]
  refine newB_intro (o := blk (fl ePt [(j3, 0), (j3, 1), (j3, 2), (j3, 3), (j3, 4), (j3, 5), (j4, 0), (j3, 9)]) 106) fun j5 hj5 => ?_
  have n5 := fresh hj5
  have o5 := fresh n5.2.2
  have p5 := fresh o5.2.2
  have q5 := fresh p5.2.2
  simp only [walk, lists, acts, mem, plain, seqs, maps, cells, resL, resV, intBin, ↓reduceIte, Nat.reduceAdd, Nat.reduceSub, Nat.reduceMul, Nat.reduceLeDiff, Nat.reduceEqDiff, Int.reduceToNat, Int.reduceEq, Int.reduceLT, Int.reduceLE, Int.reduceNeg, Int.reduceAdd, Int.reduceSub, Int.reduceMul, Nat.reducePow, Int.reduceNegSucc, w_cu]
  rw [← hZ]
  obtain ⟨M, hM⟩ : ∃ M : List Int → H, M = fun ys => (j5, blk (fl ePt [(j3, 0), (j3, 1), (j3, 2), (j3, 3), (j3, 4), (j3, 5), (j4, 0), (j3, 9)]) 106) :: (j4, blk [.int .i64 (ys.getD 6 0)] 3) :: (j3, blk (cWord (D8 ys) N N N) 28) :: (j2, Z) :: h0 := ⟨_, rfl⟩
  have Mj : ∀ ys, hget (M ys) j = none := fun ys => by rw [hM]; simp only [subs, n2, n3, o3, n4, o4, p4, n5, o5, p5, q5, hj]
  have Ms : ∀ ys, Tk.Sub h0 (M ys) := fun ys => by rw [hM]; (repeat' first | exact Sub.refl _ | exact Sub.nil _ | assumption | refine Sub.both ?_ ?_ | refine Sub.cons_of (by simp only [subs, n2, n3, o3, n4, o4, p4, n5, o5, p5, q5]) ?_ | exact Sub.left _ _ | refine Sub.app (by simp only [subs, n2, n3, o3, n4, o4, p4, n5, o5, p5, q5]) ?_ | refine Sub.cons (by simp only [subs, n2, n3, o3, n4, o4, p4, n5, o5, p5, q5]) ?_)
  have Ml : ∀ ys, rLs (M ys) ePt 1 (.slice (some ⟨j5, 0, none⟩) 8 8) [(j3, 0), (j3, 1), (j3, 2), (j3, 3), (j3, 4), (j3, 5), (j4, 0), (j3, 9)] := fun ys => by rw [hM]; exact rL_lit ePt_len [(j3, 0), (j3, 1), (j3, 2), (j3, 3), (j3, 4), (j3, 5), (j4, 0), (j3, 9)]
  have Mw : ∀ (ys : List Int) z (h : ys.length < [(j3, 0), (j3, 1), (j3, 2), (j3, 3), (j3, 4), (j3, 5), (j4, 0), (j3, 9)].length), ([(j3, 0), (j3, 1), (j3, 2), (j3, 3), (j3, 4), (j3, 5), (j4, 0), (j3, 9)][ys.length].1 ≠ j) ∧ hwrite (M ys) [(j3, 0), (j3, 1), (j3, 2), (j3, 3), (j3, 4), (j3, 5), (j4, 0), (j3, 9)][ys.length].1 [(j3, 0), (j3, 1), (j3, 2), (j3, 3), (j3, 4), (j3, 5), (j4, 0), (j3, 9)][ys.length].2 [.int .i64 z] = some (M (ys ++ [z])) := fun ys z h => by
    rw [hM]
    rcases ys with _ | ⟨y0, _ | ⟨y1, _ | ⟨y2, _ | ⟨y3, _ | ⟨y4, _ | ⟨y5, _ | ⟨y6, _ | ⟨y7, ys⟩⟩⟩⟩⟩⟩⟩⟩
    all_goals first
      | (exfalso; simp at h; done)
      | (exfalso; simp at h; omega)
      | (refine ⟨by simp [o3.2.1, p4.2.1], ?_⟩
         simp [mem, wWord, maps, cells, D8, n5.1, n5.2.1, o5.1, o5.2.1, n4.1, n4.2.1])
  refine (into_c (M := M) (e := none) (at_ := 0) Mj (fun ys => rb.sub (Ms ys)) Ml Mw hl (by simp) (by omega) (fun _ _ h => by cases h) fun ys at1 e1 hy1 ha1 he1 _ ex1 => ?_).weaken (by rw [hM, hZ]; simp only [D8_nil, List.getD_nil]; (repeat' first | exact Sub.refl _ | exact Sub.nil _ | assumption | refine Sub.both ?_ ?_ | refine Sub.cons_of (by simp only [subs, n2, n3, o3, n4, o4, p4, n5, o5, p5, q5, hj]) ?_ | exact Sub.left _ _ | refine Sub.app (by simp only [subs, n2, n3, o3, n4, o4, p4, n5, o5, p5, q5, hj]) ?_ | refine Sub.cons (by simp only [subs, n2, n3, o3, n4, o4, p4, n5, o5, p5, q5, hj]) ?_))
  obtain ⟨y0, y1, y2, y3, y4, y5, y6, y7, rfl⟩ := list8 (by simpa using hy1)
  simp only [walk, lists, acts, mem, plain, seqs, maps, cells, resL, resV, intBin, ↓reduceIte, Nat.reduceAdd, Nat.reduceSub, Nat.reduceMul, Nat.reduceLeDiff, Nat.reduceEqDiff, Int.reduceToNat, Int.reduceEq, Int.reduceLT, Int.reduceLE, Int.reduceNeg, Int.reduceAdd, Int.reduceSub, Int.reduceMul, Nat.reducePow, Int.reduceNegSucc, w_cu]
  refine newB_intro (o := blk (fl ePt [(j3, 11), (j3, 12), (j3, 13), (j3, 15), (j3, 16)]) 106) fun j6 hj6 => ?_
  have n6 := fresh hj6
  rw [hM] at n6
  have o6 := fresh n6.2.2
  have p6 := fresh o6.2.2
  have q6 := fresh p6.2.2
  have r6 := fresh q6.2.2
  simp only [walk, lists, acts, mem, plain, seqs, maps, cells, resL, resV, intBin, ↓reduceIte, Nat.reduceAdd, Nat.reduceSub, Nat.reduceMul, Nat.reduceLeDiff, Nat.reduceEqDiff, Int.reduceToNat, Int.reduceEq, Int.reduceLT, Int.reduceLE, Int.reduceNeg, Int.reduceAdd, Int.reduceSub, Int.reduceMul, Nat.reducePow, Int.reduceNegSucc, w_cu]
  obtain ⟨D, hD⟩ : ∃ D, D = D8 [y0, y1, y2, y3, y4, y5, y6, y7] := ⟨_, rfl⟩
  rw [hM]
  simp only [← hD]
  obtain ⟨M2, hM2⟩ : ∃ M2 : List Int → H, M2 = fun ys => (j6, blk (fl ePt [(j3, 11), (j3, 12), (j3, 13), (j3, 15), (j3, 16)]) 106) :: (j4, blk [.int .i64 y6] 3) :: (j3, blk (cWord (D5 D ys) N N N) 28) :: (j2, Z) :: h0 := ⟨_, rfl⟩
  have M2j : ∀ ys, hget (M2 ys) j = none := fun ys => by rw [hM2]; simp only [subs, n2, n3, o3, n4, o4, p4, n6, o6, p6, q6, r6, hj]
  have M2s : ∀ ys, Tk.Sub h0 (M2 ys) := fun ys => by rw [hM2]; (repeat' first | exact Sub.refl _ | exact Sub.nil _ | assumption | refine Sub.both ?_ ?_ | refine Sub.cons_of (by simp only [subs, n2, n3, o3, n4, o4, p4, n6, o6, p6, q6, r6]) ?_ | exact Sub.left _ _ | refine Sub.app (by simp only [subs, n2, n3, o3, n4, o4, p4, n6, o6, p6, q6, r6]) ?_ | refine Sub.cons (by simp only [subs, n2, n3, o3, n4, o4, p4, n6, o6, p6, q6, r6]) ?_)
  have M2l : ∀ ys, rLs (M2 ys) ePt 1 (.slice (some ⟨j6, 0, none⟩) 5 5) [(j3, 11), (j3, 12), (j3, 13), (j3, 15), (j3, 16)] := fun ys => by rw [hM2]; exact rL_lit ePt_len [(j3, 11), (j3, 12), (j3, 13), (j3, 15), (j3, 16)]
  have M2w : ∀ (ys : List Int) z (h : ys.length < [(j3, 11), (j3, 12), (j3, 13), (j3, 15), (j3, 16)].length), ([(j3, 11), (j3, 12), (j3, 13), (j3, 15), (j3, 16)][ys.length].1 ≠ j) ∧ hwrite (M2 ys) [(j3, 11), (j3, 12), (j3, 13), (j3, 15), (j3, 16)][ys.length].1 [(j3, 11), (j3, 12), (j3, 13), (j3, 15), (j3, 16)][ys.length].2 [.int .i64 z] = some (M2 (ys ++ [z])) := fun ys z h => by
    rw [hM2]
    rcases ys with _ | ⟨z0, _ | ⟨z1, _ | ⟨z2, _ | ⟨z3, _ | ⟨z4, ys⟩⟩⟩⟩⟩
    all_goals first
      | (exfalso; simp at h; done)
      | (exfalso; simp at h; omega)
      | (refine ⟨by simp [o3.2.1], ?_⟩
         simp [mem, wWord, maps, cells, D5, n4.1, n4.2.1, p6.1, p6.2.1, q6.1, q6.2.1])
  have D5n : D5 D [] = D := by rw [hD]; rfl
  refine (into_c (M := M2) (e := e1) (at_ := at1) M2j (fun ys => rb.sub (M2s ys)) M2l M2w hl (by simp) ha1 he1 fun zs at2 e2 hz2 ha2 he2 hn2 ex2 => ?_).weaken (by rw [hM2]; simp only [D5n, List.getD_cons_succ, List.getD_cons_zero]; (repeat' first | exact Sub.refl _ | exact Sub.nil _ | assumption | refine Sub.both ?_ ?_ | refine Sub.cons_of (by simp only [subs, n2, n3, o3, n4, o4, p4, n5, o5, p5, q5, n6, o6, p6, q6, r6, hj]) ?_ | exact Sub.left _ _ | refine Sub.app (by simp only [subs, n2, n3, o3, n4, o4, p4, n5, o5, p5, q5, n6, o6, p6, q6, r6, hj]) ?_ | refine Sub.cons (by simp only [subs, n2, n3, o3, n4, o4, p4, n5, o5, p5, q5, n6, o6, p6, q6, r6, hj]) ?_))
  obtain ⟨z0, z1, z2, z3, z4, rfl⟩ := list5 (by simpa using hz2)
  rw [hM2]
  obtain ⟨E, hE⟩ : ∃ E, E = D5 D [z0, z1, z2, z3, z4] := ⟨_, rfl⟩
  simp only [← hE]
  simp only [walk, lists, acts, mem, plain, seqs, maps, cells, resL, resV, intBin, ↓reduceIte, Nat.reduceAdd, Nat.reduceSub, Nat.reduceMul, Nat.reduceLeDiff, Nat.reduceEqDiff, Int.reduceToNat, Int.reduceEq, Int.reduceLT, Int.reduceLE, Int.reduceNeg, Int.reduceAdd, Int.reduceSub, Int.reduceMul, Nat.reducePow, Int.reduceNegSucc, w_cu]
  have Bj : ∀ o, hget ((j4, blk [.int .i64 y6] 3) :: (j3, o) :: (j2, Z) :: h0) j = none := fun o => by simp only [subs, n2, n3, o3, n4, o4, p4, hj]
  have Bb : ∀ o, rBytes ((j4, blk [.int .i64 y6] 3) :: (j3, o) :: (j2, Z) :: h0) bv l := fun o => rb.sub (by (repeat' first | exact Sub.refl _ | exact Sub.nil _ | assumption | refine Sub.both ?_ ?_ | refine Sub.cons_of (by simp only [subs, n2, n3, o3, n4, o4, p4, hj]) ?_ | exact Sub.left _ _ | refine Sub.app (by simp only [subs, n2, n3, o3, n4, o4, p4, hj]) ?_ | refine Sub.cons (by simp only [subs, n2, n3, o3, n4, o4, p4, hj]) ?_))
  refine (implText_c (at_ := at2) (e := e2) (Bj (blk (cWord E N N N) 28)) (Bb _) hl ha2 he2 fun s2 at3 e3 ha3 hs3 he3 hn3 ex3 => ?_).weaken (by (repeat' first | exact Sub.refl _ | exact Sub.nil _ | assumption | refine Sub.both ?_ ?_ | refine Sub.cons_of (by simp only [subs, n2, n3, o3, n4, o4, p4, n6, o6, p6, q6, r6, hj]) ?_ | exact Sub.left _ _ | refine Sub.app (by simp only [subs, n2, n3, o3, n4, o4, p4, n6, o6, p6, q6, r6, hj]) ?_ | refine Sub.cons (by simp only [subs, n2, n3, o3, n4, o4, p4, n6, o6, p6, q6, r6, hj]) ?_))
  simp only [walk, lists, acts, mem, plain, seqs, maps, cells, resL, resV, intBin, ↓reduceIte, Nat.reduceAdd, Nat.reduceSub, Nat.reduceMul, Nat.reduceLeDiff, Nat.reduceEqDiff, Int.reduceToNat, Int.reduceEq, Int.reduceLT, Int.reduceLE, Int.reduceNeg, Int.reduceAdd, Int.reduceSub, Int.reduceMul, Nat.reducePow, Int.reduceNegSucc, w_cu, wWord, n4, o3]
  obtain ⟨F, hF⟩ : ∃ F : DWord, F = { E with call := { E.call with text := s2 } } := ⟨_, rfl⟩
  rw [← hF]
  refine counted_c (Bj _) (Bb _) hl ha3 he3 fun V4 g4 xs4 at4 e4 o4' d4 hx4 ha4 he4 hn4 ex4 => ?_
  have d4' := d4.symm
  have f4 := d4
  simp only [subs] at f4 d4'
  have one4 := o4'.rd.one
  have vc4 := vcells_one one4
  simp only [walk, lists, acts, mem, plain, seqs, maps, cells, resL, resV, intBin, ↓reduceIte, Nat.reduceAdd, Nat.reduceSub, Nat.reduceMul, Nat.reduceLeDiff, Nat.reduceEqDiff, Int.reduceToNat, Int.reduceEq, Int.reduceLT, Int.reduceLE, Int.reduceNeg, Int.reduceAdd, Int.reduceSub, Int.reduceMul, Nat.reducePow, Int.reduceNegSucc, w_cu, wWord, apps, f4, n4, o3, one4, vc4]
  refine (counted_c (j := j) (at_ := at4) (e := e4) (h0 := g4 ++ ((j4, blk [.int .i64 y6] 3) :: (j3, blk (cWord F V4 N N) 28) :: (j2, Z) :: h0)) (by simp only [subs, f4, n2, n3, o3, n4, o4, p4, hj]) ((Bb _).sub (by (repeat' first | exact Sub.refl _ | exact Sub.nil _ | assumption | refine Sub.both ?_ ?_ | refine Sub.cons_of (by simp only [subs, f4, n2, n3, o3, n4, o4, p4]) ?_ | exact Sub.left _ _ | refine Sub.app (by simp only [subs, f4, n2, n3, o3, n4, o4, p4]) ?_ | refine Sub.cons (by simp only [subs, f4, n2, n3, o3, n4, o4, p4]) ?_))) hl ha4 he4 fun V5 g5 xs5 at5 e5 o5' d5 hx5 ha5 he5 hn5 ex5 => ?_).weaken (by (repeat' first | exact Sub.refl _ | exact Sub.nil _ | assumption | refine Sub.both ?_ ?_ | refine Sub.cons_of (by simp only [subs, f4, d4', n2, n3, o3, n4, o4, p4, hj]) ?_ | exact Sub.left _ _ | refine Sub.app (by simp only [subs, f4, d4', n2, n3, o3, n4, o4, p4, hj]) ?_ | refine Sub.cons (by simp only [subs, f4, d4', n2, n3, o3, n4, o4, p4, hj]) ?_))
  have d5' := d5.symm
  have f5 := d5
  simp only [subs] at f5 d5'
  have one5 := o5'.rd.one
  have vc5 := vcells_one one5
  simp only [walk, lists, acts, mem, plain, seqs, maps, cells, resL, resV, intBin, ↓reduceIte, Nat.reduceAdd, Nat.reduceSub, Nat.reduceMul, Nat.reduceLeDiff, Nat.reduceEqDiff, Int.reduceToNat, Int.reduceEq, Int.reduceLT, Int.reduceLE, Int.reduceNeg, Int.reduceAdd, Int.reduceSub, Int.reduceMul, Nat.reducePow, Int.reduceNegSucc, w_cu, wWord, apps, f4, f5, n4, o3, one5, vc5]
  obtain ⟨hC, ehC⟩ : ∃ hC : Value → H, hC = fun q => g5 ++ (g4 ++ ((j4, blk [.int .i64 y6] 3) :: (j3, blk (cWord F V4 q V5) 28) :: (j2, Z) :: h0)) := ⟨_, rfl⟩
  have hCj : ∀ q, hget (hC q) j = none := fun q => by rw [ehC]; simp only [subs, f4, f5, n2, n3, o3, n4, o4, p4, hj]
  have hCl : ∀ q, rBytes (hC q) bv l := fun q => by rw [ehC]; exact (Bb _).sub (by (repeat' first | exact Sub.refl _ | exact Sub.nil _ | assumption | refine Sub.both ?_ ?_ | refine Sub.cons_of (by simp only [subs, f4, f5, d4', d5', n2, n3, o3, n4, o4, p4]) ?_ | exact Sub.left _ _ | refine Sub.app (by simp only [subs, f4, f5, d4', d5', n2, n3, o3, n4, o4, p4]) ?_ | refine Sub.cons (by simp only [subs, f4, f5, d4', d5', n2, n3, o3, n4, o4, p4]) ?_))
  refine (count_c (at_ := at5) (e := e5) (h0 := hC N) (hCj N) (hCl N) hl ha5 he5 fun n at6 e6 ha6 hn6 he6 hen6 ex6 => ?_).weaken (by rw [ehC]; (repeat' first | exact Sub.refl _ | exact Sub.nil _ | assumption | refine Sub.both ?_ ?_ | refine Sub.cons_of (by simp only [subs, n2, n3, o3, n4, o4, p4, hj, f4, d4', f5, d5']) ?_ | exact Sub.left _ _ | refine Sub.app (by simp only [subs, n2, n3, o3, n4, o4, p4, hj, f4, d4', f5, d5']) ?_ | refine Sub.cons (by simp only [subs, n2, n3, o3, n4, o4, p4, hj, f4, d4', f5, d5']) ?_))
  have X1 : ∀ w0, wordP w0 → l = pack w0 → [y0, y1, y2, y3, y4, y5, y6, y7] = head8 w0 ∧ l.drop at1 = encIs (head5 w0) ++ (encI (w0.call.text.length : Int) ++ (w0.call.text ++ restT w0)) ∧ e1 = none := fun w0 ok e =>
    ex1 rfl (head8 w0) _ rfl (head_small ok).1 (by rw [e, List.drop_zero, pack_cut])
  have X2 : ∀ w0, wordP w0 → l = pack w0 → [z0, z1, z2, z3, z4] = head5 w0 ∧ l.drop at2 = encI (w0.call.text.length : Int) ++ (w0.call.text ++ restT w0) ∧ e2 = none := fun w0 ok e => by
    obtain ⟨_, b, c⟩ := X1 w0 ok e
    exact ex2 c (head5 w0) _ rfl (head_small ok).2.1 b
  have X3 : ∀ w0, wordP w0 → l = pack w0 → s2 = w0.call.text ∧ l.drop at3 = restT w0 ∧ e3 = none := fun w0 ok e => by
    obtain ⟨_, b, c⟩ := X2 w0 ok e
    exact ex3 c _ _ b (by have := (head_small ok).2.2.2; omega)
  have X4 : ∀ w0, wordP w0 → l = pack w0 → xs4 = w0.slots ∧ l.drop at4 = restS w0 ∧ e4 = none := fun w0 ok e => by
    obtain ⟨_, b, c⟩ := X3 w0 ok e
    exact ex4 c w0.slots _ (by have := slotsP_len ok.2.2.2.2.2.2.1; omega) (slotsP_small ok.2.2.2.2.2.2.1) b
  have X5 : ∀ w0, wordP w0 → l = pack w0 → xs5 = w0.vals ∧ l.drop at5 = restV w0 ∧ e5 = none := fun w0 ok e => by
    obtain ⟨_, b, c⟩ := X4 w0 ok e
    exact ex5 c w0.vals _ (by have := ok.2.2.2.2.2.2.2.2.2.1.1; omega) (valsP_small ok.2.2.2.2.2.2.2.2.2.1) b
  have X6 : ∀ w0, wordP w0 → l = pack w0 → n = w0.pairs.length ∧ l.drop at6 = encIs (flatP w0.pairs) ∧ e6 = none := fun w0 ok e => by
    obtain ⟨_, b, c⟩ := X5 w0 ok e
    rw [restV, encIs_cons] at b
    exact ex6 c _ _ b (by have := ok.2.2.2.2.2.2.2.1.1; omega) (by have := encIs_ge (flatP w0.pairs); rw [flatP_len] at this; omega)
  simp only [walk, lists, acts, mem, plain, seqs, maps, cells, resL, resV, intBin, ↓reduceIte, Nat.reduceAdd, Nat.reduceSub, Nat.reduceMul, Nat.reduceLeDiff, Nat.reduceEqDiff, Int.reduceToNat, Int.reduceEq, Int.reduceLT, Int.reduceLE, Int.reduceNeg, Int.reduceAdd, Int.reduceSub, Int.reduceMul, Nat.reducePow, Int.reduceNegSucc, w_cu]
  refine vc_loop [5] (fun n' vs h' => ∃ (i : Nat) (pv : Value) (gp : H) (ps : List (Int × Int)) (at' : Nat) (e' : Option (Nat × Int)), vs = [.int .i64 ((n - i : Nat) : Int)] ∧ h' = gp ++ ((j, blk (cu bv at' (errV e')) 54) :: hC pv) ∧ (∀ q, Dj gp ((j, blk (cu bv at' (errV e')) 54) :: hC q)) ∧ oLs 69 eP 2 pv ps gp ∧
    ps.length = i ∧ i ≤ n ∧ at' ≤ l.length ∧ okE e' ∧ n' = n - i ∧ (∀ w0, wordP w0 → l = pack w0 → e' = none ∧ n = w0.pairs.length ∧ ps = w0.pairs.take i ∧ l.drop at' = encIs (flatP (w0.pairs.drop i)))) n rfl
    ⟨0, N, [], [], at6, e6, rfl, rfl, fun q => Dj.nil _, by rw [hN]; exact ows.nil _ _, rfl, by omega, ha6, he6, rfl, fun w0 ok e => by
      obtain ⟨a, b, c⟩ := X6 w0 ok e
      exact ⟨c, a, by simp, by simpa using b⟩⟩ ?_
  rintro n' f h' ⟨i, pv, gp, ps, at', e', hv, rfl, dp, op, hpl, hi, ha', he', rfl, ex⟩
  simp only [List.map_cons, List.map_nil, List.cons.injEq, and_true] at hv
  have dp1 := dp pv
  have dp2 := dp1.symm
  simp only [subs] at dp1 dp2
  simp only [walk, lists, acts, mem, plain, seqs, maps, cells, resL, resV, intBin, ↓reduceIte, Nat.reduceAdd, Nat.reduceSub, Nat.reduceMul, Nat.reduceLeDiff, Nat.reduceEqDiff, Int.reduceToNat, Int.reduceEq, Int.reduceLT, Int.reduceLE, Int.reduceNeg, Int.reduceAdd, Int.reduceSub, Int.reduceMul, Nat.reducePow, Int.reduceNegSucc, wr, hv, w_cu, apps, dp1, errV_is, Bool.or_true, Bool.true_or]
  have dpx := dp pv
  rw [ehC] at dpx
  have dpx2 := dpx.symm
  simp only [subs] at dpx dpx2
  have onep := op.rd.one
  have fin : (i = n ∨ e'.isNone ≠ true) → ∀ w0, wordP w0 → l = pack w0 → ps = w0.pairs ∧ l.length ≤ at' ∧ e' = none := fun hd w0 ok e => by
    obtain ⟨a, b, c, d⟩ := ex w0 ok e
    rcases hd with hd | hd
    · rw [List.take_of_length_le (by omega)] at c
      rw [show w0.pairs.drop i = [] from List.drop_eq_nil_of_le (by omega), flatP_nil, encIs_nil] at d
      exact ⟨c, List.drop_eq_nil_iff.1 d, a⟩
    · rw [a] at hd; exact absurd rfl hd
  obtain ⟨G, hG⟩ : ∃ G : DWord, G = { F with yes := decide (y6 = 1) } := ⟨_, rfl⟩
  have res : ∀ at2 e2, at2 ≤ l.length → okE e2 → (i = n ∨ e'.isNone ≠ true) → (l.length ≤ at' → e' = none → e2 = none) → ∀ m, Tk.Sub (g4 ++ (gp ++ (g5 ++ ((j, blk (cu bv at2 (errV e2)) 54) :: h0)))) m → dP R (.returned (.agg (cWord G V4 pv V5).toArray)) m := fun at2 e2 ha2 he2 hd hx m hm =>
    ⟨_, hm, k { G with slots := xs4, pairs := ps, vals := xs5 } V4 pv V5 g4 gp g5 at2 e2 ⟨o4', op, o5', dpx2.2.2.1, d5'.2.1, dpx.2.1⟩ (by simp only [subs, f4]) (by simp only [subs, dpx]) (by simp only [subs, f5]) ⟨by show xs4.length ≤ _; omega, by show ps.length ≤ _; omega, by show xs5.length ≤ _; omega⟩ he2 fun w0 ok e => by
      obtain ⟨h1, h2, h3⟩ := fin hd w0 ok e
      refine ⟨?_, hx h2 h3⟩
      have a1 := (X1 w0 ok e).1
      have a2 := (X2 w0 ok e).1
      have a3 := (X3 w0 ok e).1
      have a4 := (X4 w0 ok e).1
      have a5 := (X5 w0 ok e).1
      simp only [head8, List.cons.injEq, and_true] at a1
      simp only [head5, List.cons.injEq, and_true] at a2
      obtain ⟨b0, b1, b2, b3, b4, b5, b6, b7⟩ := a1
      obtain ⟨c0, c1, c2, c3, c4⟩ := a2
      have hy : decide (yesN w0.yes = 1) = w0.yes := by unfold yesN; cases w0.yes <;> rfl
      rw [hG, hF, hE, hD, h1, a3, a4, a5, b0, b1, b2, b3, b4, b5, b6, b7, c0, c1, c2, c3, c4, hy]
      rfl⟩
  have hnl : n ≤ 1099511627776 := Nat.le_trans hn6 (Nat.le_trans (Nat.sub_le _ _) hl)
  refine ite_lt (fun c1 => ite_pos (fun c2 => ?_) fun c2 => ?_) fun c1 => ?_
  · have A1 : i < n := ar1 c1
    have he0 : e' = none := by cases e' with
      | none => rfl
      | some p => cases c2
    subst he0
    refine newB_intro (o := blk (eP (0, 0)) 69) fun j7 hj7 => ?_
    have m7 := hj7
    rw [ehC] at m7
    simp only [subs] at m7
    simp only [walk, lists, acts, mem, plain, seqs, maps, cells, resL, resV, intBin, ↓reduceIte, Nat.reduceAdd, Nat.reduceSub, Nat.reduceMul, Nat.reduceLeDiff, Nat.reduceEqDiff, Int.reduceToNat, Int.reduceEq, Int.reduceLT, Int.reduceLE, Int.reduceNeg, Int.reduceAdd, Int.reduceSub, Int.reduceMul, Nat.reducePow, Int.reduceNegSucc, w_cu, zPair_eq]
    refine newB_intro (o := blk (fl ePt [(j7, 0), (j7, 1)]) 106) fun j8 hj8 => ?_
    have m8 := hj8
    rw [ehC] at m8
    simp only [subs] at m8
    simp only [walk, lists, acts, mem, plain, seqs, maps, cells, resL, resV, intBin, ↓reduceIte, Nat.reduceAdd, Nat.reduceSub, Nat.reduceMul, Nat.reduceLeDiff, Nat.reduceEqDiff, Int.reduceToNat, Int.reduceEq, Int.reduceLT, Int.reduceLE, Int.reduceNeg, Int.reduceAdd, Int.reduceSub, Int.reduceMul, Nat.reducePow, Int.reduceNegSucc, w_cu]
    have m78 : j4 ≠ j7 ∧ j4 ≠ j8 ∧ j2 ≠ j7 ∧ j2 ≠ j8 ∧ j7 ≠ j8 ∧ j ≠ j7 ∧ j ≠ j8 ∧ j3 ≠ j7 ∧ j3 ≠ j8 := ⟨Ne.symm m7.2.2.2.2.1, Ne.symm m8.2.2.2.2.2.1, Ne.symm m7.2.2.2.2.2.2.1, Ne.symm m8.2.2.2.2.2.2.2.1, Ne.symm m8.1, Ne.symm m7.2.1, Ne.symm m8.2.2.1, Ne.symm m7.2.2.2.2.2.1, Ne.symm m8.2.2.2.2.2.2.1⟩
    obtain ⟨M3, hM3⟩ : ∃ M3 : List Int → H, M3 = fun ys => (j8, blk (fl ePt [(j7, 0), (j7, 1)]) 106) :: (j7, blk (eP (ys.getD 0 0, ys.getD 1 0)) 69) :: (gp ++ hC pv) := ⟨_, rfl⟩
    have M3j : ∀ ys, hget (M3 ys) j = none := fun ys => by rw [hM3, ehC]; simp only [subs, dpx, f4, f5, n2, n3, o3, n4, o4, p4, hj, m78]
    have M3b : ∀ ys, rBytes (M3 ys) bv l := fun ys => (hCl pv).sub (by rw [hM3, ehC]; (repeat' first | exact Sub.refl _ | exact Sub.nil _ | assumption | refine Sub.both ?_ ?_ | refine Sub.cons_of (by simp only [subs, dpx, dpx2, f4, f5, d4', d5', n2, n3, o3, n4, o4, p4, hj, m7, m8, m78]) ?_ | exact Sub.left _ _ | refine Sub.app (by simp only [subs, dpx, dpx2, f4, f5, d4', d5', n2, n3, o3, n4, o4, p4, hj, m7, m8, m78]) ?_ | refine Sub.cons (by simp only [subs, dpx, dpx2, f4, f5, d4', d5', n2, n3, o3, n4, o4, p4, hj, m7, m8, m78]) ?_))
    have M3l : ∀ ys, rLs (M3 ys) ePt 1 (.slice (some ⟨j8, 0, none⟩) 2 2) [(j7, 0), (j7, 1)] := fun ys => by rw [hM3]; exact rL_lit ePt_len [(j7, 0), (j7, 1)]
    have M3w : ∀ (ys : List Int) z (h : ys.length < [(j7, 0), (j7, 1)].length), ([(j7, 0), (j7, 1)][ys.length].1 ≠ j) ∧ hwrite (M3 ys) [(j7, 0), (j7, 1)][ys.length].1 [(j7, 0), (j7, 1)][ys.length].2 [.int .i64 z] = some (M3 (ys ++ [z])) := fun ys z h => by
      rw [hM3]
      rcases ys with _ | ⟨z0, _ | ⟨z1, ys⟩⟩
      all_goals first
        | (exfalso; simp at h; done)
        | (exfalso; simp at h; omega)
        | (refine ⟨by simp [m7.2.1], ?_⟩
           simp [mem, wPair, maps, cells, m8.1, m78.2.2.2.2.1])
    refine (into_c (M := M3) (e := none) (at_ := at') M3j M3b M3l M3w hl (by simp) ha' he' fun zs at8 e8 hz8 ha8 he8 hn8 ex8 => ?_).weaken (by rw [hM3, ehC]; simp only [List.getD_nil]; (repeat' first | exact Sub.refl _ | exact Sub.nil _ | assumption | refine Sub.both ?_ ?_ | refine Sub.cons_of (by simp only [subs, dpx, dpx2, f4, f5, d4', d5', n2, n3, o3, n4, o4, p4, hj, m7, m8, m78]) ?_ | exact Sub.left _ _ | refine Sub.app (by simp only [subs, dpx, dpx2, f4, f5, d4', d5', n2, n3, o3, n4, o4, p4, hj, m7, m8, m78]) ?_ | refine Sub.cons (by simp only [subs, dpx, dpx2, f4, f5, d4', d5', n2, n3, o3, n4, o4, p4, hj, m7, m8, m78]) ?_))
    obtain ⟨ya, yb, rfl⟩ := list2 (by simpa using hz8)
    have rc8 : ∀ q, hcel (hC q) j3 8 = some q := fun q => by rw [ehC]; simp only [plain, apps, f4, f5, mem, wWord, n4]
    have wc8 : ∀ q x, hwrite (hC q) j3 8 [x] = some (hC x) := fun q x => by rw [ehC]; simp only [plain, apps, f4, f5, mem, wWord, maps, n4]; simp
    rw [hM3]
    simp only [List.getD_cons_succ, List.getD_cons_zero]
    simp only [walk, lists, acts, mem, plain, seqs, maps, cells, resL, resV, intBin, ↓reduceIte, Nat.reduceAdd, Nat.reduceSub, Nat.reduceMul, Nat.reduceLeDiff, Nat.reduceEqDiff, Int.reduceToNat, Int.reduceEq, Int.reduceLT, Int.reduceLE, Int.reduceNeg, Int.reduceAdd, Int.reduceSub, Int.reduceMul, Nat.reducePow, Int.reduceNegSucc, w_cu, wPair, apps, dpx, m78, m7.2.1, o3, rc8]
    refine newB_intro (o := blk (fl eP [(ya, yb)]) 69) fun j9 hj9 => ?_
    simp only [walk, lists, acts, mem, plain, seqs, maps, cells, resL, resV, intBin, ↓reduceIte, Nat.reduceAdd, Nat.reduceSub, Nat.reduceMul, Nat.reduceLeDiff, Nat.reduceEqDiff, Int.reduceToNat, Int.reduceEq, Int.reduceLT, Int.reduceLE, Int.reduceNeg, Int.reduceAdd, Int.reduceSub, Int.reduceMul, Nat.reducePow, Int.reduceNegSucc]
    have sGP : Tk.Sub gp ((j9, blk (fl eP [(ya, yb)]) 69) :: (j, blk (cu bv at8 (errV e8)) 54) :: (j8, blk (fl ePt [(j7, 0), (j7, 1)]) 106) :: (j7, blk (eP (ya, yb)) 69) :: (gp ++ hC pv)) := .cons hj9 (by rw [ehC]; (repeat' first | exact Sub.refl _ | exact Sub.nil _ | assumption | refine Sub.both ?_ ?_ | refine Sub.cons_of (by simp only [subs, dpx, dpx2, f4, f5, d4', d5', n2, n3, o3, n4, o4, p4, hj, m7, m8, m78]) ?_ | exact Sub.left _ _ | refine Sub.app (by simp only [subs, dpx, dpx2, f4, f5, d4', d5', n2, n3, o3, n4, o4, p4, hj, m7, m8, m78]) ?_ | refine Sub.cons (by simp only [subs, dpx, dpx2, f4, f5, d4', d5', n2, n3, o3, n4, o4, p4, hj, m7, m8, m78]) ?_))
    have sHR : Tk.Sub ((j, blk (cu bv at8 (errV e8)) 54) :: hC pv) ((j9, blk (fl eP [(ya, yb)]) 69) :: (j, blk (cu bv at8 (errV e8)) 54) :: (j8, blk (fl ePt [(j7, 0), (j7, 1)]) 106) :: (j7, blk (eP (ya, yb)) 69) :: (gp ++ hC pv)) := by
      refine .cons hj9 (.cons2 ?_)
      rw [ehC]
      (repeat' first | exact Sub.refl _ | exact Sub.nil _ | assumption | refine Sub.both ?_ ?_ | refine Sub.cons_of (by simp only [subs, dpx, dpx2, f4, f5, d4', d5', n2, n3, o3, n4, o4, p4, hj, m7, m8, m78]) ?_ | exact Sub.left _ _ | refine Sub.app (by simp only [subs, dpx, dpx2, f4, f5, d4', d5', n2, n3, o3, n4, o4, p4, hj, m7, m8, m78]) ?_ | refine Sub.cons (by simp only [subs, dpx, dpx2, f4, f5, d4', d5', n2, n3, o3, n4, o4, p4, hj, m7, m8, m78]) ?_)
    refine app_leaf (g := gp) (h := (j, blk (cu bv at8 (errV e8)) 54) :: hC pv) (M := (j9, blk (fl eP [(ya, yb)]) 69) :: (j, blk (cu bv at8 (errV e8)) 54) :: (j8, blk (fl ePt [(j7, 0), (j7, 1)]) 106) :: (j7, blk (eP (ya, yb)) 69) :: (gp ++ hC pv)) eP_len eP_one tPairs iPair (Sub.both sGP sHR) (by rw [ehC]; simp only [subs, dpx]) op (rL_lit eP_len [(ya, yb)]) (ar4 hpl A1 hnl (by decide)) (ar5 hpl A1 hnl) fun v6 g6 q6 d6 => ?_
    have d6x := d6
    rw [ehC] at d6x
    simp only [subs] at d6x
    have one6 := q6.rd.one
    have vc6 := vcells_one one6
    simp only [walk, lists, acts, mem, plain, seqs, maps, cells, resL, resV, intBin, ↓reduceIte, Nat.reduceAdd, Nat.reduceSub, Nat.reduceMul, Nat.reduceLeDiff, Nat.reduceEqDiff, Int.reduceToNat, Int.reduceEq, Int.reduceLT, Int.reduceLE, Int.reduceNeg, Int.reduceAdd, Int.reduceSub, Int.reduceMul, Nat.reducePow, Int.reduceNegSucc, apps, d6x, o3, wc8, one6, vc6]
    rw [ar3 A1 hnl]
    refine ⟨n - (i + 1), ar2 A1, _, .refl _, i + 1, v6, g6, _, at8, e8, rfl, rfl, fun q => by rw [ehC]; simp only [subs, d6x], q6, by simp [hpl], A1, ha8, he8, rfl, fun w0 ok e => ?_⟩
    obtain ⟨_, b, c, d⟩ := ex w0 ok e
    have hi2 : i < w0.pairs.length := b ▸ A1
    rw [List.drop_eq_getElem_cons hi2, flatP_cons] at d
    obtain ⟨g1, g2, g3⟩ := ex8 rfl [w0.pairs[i].1, w0.pairs[i].2] (encIs (flatP (w0.pairs.drop (i + 1)))) rfl (fun x hx => by
      have sm := pairsP_small ok.2.2.2.2.2.2.2.1 (List.getElem_mem hi2)
      simp only [List.mem_cons, List.not_mem_nil, or_false] at hx
      rcases hx with rfl | rfl
      · exact sm.1
      · exact sm.2) (by rw [d, encIs_cons, encIs_cons, encIs_cons, encIs_one]; simp)
    simp only [List.cons.injEq, and_true] at g1
    exact ⟨g3, b, by rw [take_app_one hi2, c, g1.1, g1.2], g2⟩
  all_goals
    have hd : i = n ∨ e'.isNone ≠ true := by first | exact .inr c2 | exact .inl (ar1' c1 hi)
    simp only [ehC, hZ]
    simp only [walk, lists, acts, mem, plain, seqs, maps, cells, resL, resV, intBin, ↓reduceIte, Nat.reduceAdd, Nat.reduceSub, Nat.reduceMul, Nat.reduceLeDiff, Nat.reduceEqDiff, Int.reduceToNat, Int.reduceEq, Int.reduceLT, Int.reduceLE, Int.reduceNeg, Int.reduceAdd, Int.reduceSub, Int.reduceMul, Nat.reducePow, Int.reduceNegSucc, apps, dpx, f4, f5, n2.1, n2.2.1, n3.1, n3.2.1, o3.1, o3.2.1, n4.1, n4.2.1, o4.1, o4.2.1, p4.1, p4.2.1, wWord, one4, one5, onep]
    rw [← hG]
    refine vc_draw _ (Sub.refl _) ?_
    simp only [walk, lists, acts, mem, plain, seqs, maps, cells, resL, resV, intBin, ↓reduceIte, Nat.reduceAdd, Nat.reduceSub, Nat.reduceMul, Nat.reduceLeDiff, Nat.reduceEqDiff, Int.reduceToNat, Int.reduceEq, Int.reduceLT, Int.reduceLE, Int.reduceNeg, Int.reduceAdd, Int.reduceSub, Int.reduceMul, Nat.reducePow, Int.reduceNegSucc, w_cu, apps, dpx, rb.len]
    refine ite_lt (fun c3 => ?_) fun c3 => ?_
    · refine (fail_c (bv := bv) (at_ := at') (h0 := gp ++ (g5 ++ (g4 ++ ((j4, blk [.int .i64 y6] 3) :: (j3, blk (cWord G V4 pv V5) 28) :: (j2, blk (cWord zWord N N N) 28) :: h0)))) (e := e') ?_).weaken (by (repeat' first | exact Sub.refl _ | exact Sub.nil _ | assumption | refine Sub.both ?_ ?_ | refine Sub.cons_of (by simp only [subs, dpx, dpx2, f4, f5, d4', d5', n2, n3, o3, n4, o4, p4, hj]) ?_ | exact Sub.left _ _ | refine Sub.app (by simp only [subs, dpx, dpx2, f4, f5, d4', d5', n2, n3, o3, n4, o4, p4, hj]) ?_ | refine Sub.cons (by simp only [subs, dpx, dpx2, f4, f5, d4', d5', n2, n3, o3, n4, o4, p4, hj]) ?_))
      simp only [walk, lists, acts, mem, plain, seqs, maps, cells, resL, resV, intBin, ↓reduceIte, Nat.reduceAdd, Nat.reduceSub, Nat.reduceMul, Nat.reduceLeDiff, Nat.reduceEqDiff, Int.reduceToNat, Int.reduceEq, Int.reduceLT, Int.reduceLE, Int.reduceNeg, Int.reduceAdd, Int.reduceSub, Int.reduceMul, Nat.reducePow, Int.reduceNegSucc, apps, dpx, f4, f5, n2.1, n2.2.1, n3.1, n3.2.1, o3.1, o3.2.1, n4.1, n4.2.1, o4.1, o4.2.1, p4.1, p4.2.1, wWord, one, one4, one5, onep]
      refine res at' (e'.or (some (at', 2))) ha' (fun a f h => ?_) hd (fun h => (ar6 h c3).elim) _ (by (repeat' first | exact Sub.refl _ | exact Sub.nil _ | assumption | refine Sub.both ?_ ?_ | refine Sub.cons_of (by simp only [subs, dpx, dpx2, f4, f5, d4', d5', n2, n3, o3, n4, o4, p4, hj]) ?_ | exact Sub.left _ _ | refine Sub.app (by simp only [subs, dpx, dpx2, f4, f5, d4', d5', n2, n3, o3, n4, o4, p4, hj]) ?_ | refine Sub.cons (by simp only [subs, dpx, dpx2, f4, f5, d4', d5', n2, n3, o3, n4, o4, p4, hj]) ?_))
      cases e' with
      | none => cases h; exact .inr rfl
      | some p => exact he' a f h
    · simp only [walk, lists, acts, mem, plain, seqs, maps, cells, resL, resV, intBin, ↓reduceIte, Nat.reduceAdd, Nat.reduceSub, Nat.reduceMul, Nat.reduceLeDiff, Nat.reduceEqDiff, Int.reduceToNat, Int.reduceEq, Int.reduceLT, Int.reduceLE, Int.reduceNeg, Int.reduceAdd, Int.reduceSub, Int.reduceMul, Nat.reducePow, Int.reduceNegSucc, apps, dpx, f4, f5, n2.1, n2.2.1, n3.1, n3.2.1, o3.1, o3.2.1, n4.1, n4.2.1, o4.1, o4.2.1, p4.1, p4.2.1, wWord, one, one4, one5, onep]
      exact res at' e' ha' he' hd (fun _ h => h) _ (by (repeat' first | exact Sub.refl _ | exact Sub.nil _ | assumption | refine Sub.both ?_ ?_ | refine Sub.cons_of (by simp only [subs, dpx, dpx2, f4, f5, d4', d5', n2, n3, o3, n4, o4, p4, hj]) ?_ | exact Sub.left _ _ | refine Sub.app (by simp only [subs, dpx, dpx2, f4, f5, d4', d5', n2, n3, o3, n4, o4, p4, hj]) ?_ | refine Sub.cons (by simp only [subs, dpx, dpx2, f4, f5, d4', d5', n2, n3, o3, n4, o4, p4, hj]) ?_))
end Go.Proofs.Ytllhdnfcneejaaa
end

/- What errors.Is says of a fault. -/
section
set_option linter.unusedVariables false
set_option linter.unusedSimpArgs false
namespace Go.Proofs.Ytllhdnfcneejaaa
open Go Go.Tk Go.RowKit

theorem isTypeOf (v : Value) (w : World) : (Extern.ReflectliteType.typeOf #[.iface 56 v]).run Try.prog w = .ok (.iface 131 (.agg #[.pointer (some ⟨3, 56, none⟩)])) w := by kernel_rfl
theorem isComparable (w : World) : ((Extern.ReflectliteType.method fun t => do Extern.Rtype.noPackHeld "Comparable" t; (fun a => Value.bool a.comparable) <$> typeInfo t) #[.agg #[.pointer (some ⟨3, 56, none⟩)]]).run Try.prog w = .ok (.bool true) w := by kernel_rfl
theorem isMethodComparable (v : Value) (w : World) : (Go.method 343 131 v "Comparable").run Try.prog w = .ok (126, v) w := by kernel_rfl
theorem isComp : (Try.prog.info? 56).map (·.comparable) = some true := by kernel_rfl
theorem noIsF (v : Value) (xT : TypeId) (w : World) : (Instr.typeAssert (.iface 56 v) xT 133 true).run Try.prog w = .ok (.tuple #[.nilIface, .bool false]) w := asrt_no Try.underlying133 (by kernel_rfl) (by kernel_rfl) v xT w
theorem noUnwrapF (v : Value) (xT : TypeId) (w : World) : (Instr.typeAssert (.iface 56 v) xT 136 true).run Try.prog w = .ok (.tuple #[.nilIface, .bool false]) w := asrt_no Try.underlying136 (by kernel_rfl) (by kernel_rfl) v xT w
theorem noUnwrapsF (v : Value) (xT : TypeId) (w : World) : (Instr.typeAssert (.iface 56 v) xT 138 true).run Try.prog w = .ok (.tuple #[.nilIface, .bool false]) w := asrt_no Try.underlying138 (by kernel_rfl) (by kernel_rfl) v xT w
theorem noIsW (v : Value) (xT : TypeId) (w : World) : (Instr.typeAssert (.iface 129 v) xT 133 true).run Try.prog w = .ok (.tuple #[.nilIface, .bool false]) w := asrt_no Try.underlying133 (by kernel_rfl) (by kernel_rfl) v xT w
theorem hasUnwrapW (v : Value) (xT : TypeId) (w : World) : (Instr.typeAssert (.iface 129 v) xT 136 true).run Try.prog w = .ok (.tuple #[.iface 129 v, .bool true]) w := asrt_yes Try.underlying136 (by kernel_rfl) v xT w
theorem methodUnwrap (v : Value) (w : World) : (Go.method 343 129 v "Unwrap").run Try.prog w = .ok (122, v) w := by kernel_rfl

theorem eql_faults (f g : Int) (w : World) : (binOp .eql 52 (.iface 56 (.int .i64 f)) (.iface 56 (.int .i64 g))).run Try.prog w = .ok (.bool (f == g)) w := by
  obtain ⟨i, hi, hcmp⟩ := Option.map_eq_some_iff.1 isComp
  have h : ∀ d : Nat, (Op.equalIn (d + 2) 52 (.iface 56 (.int .i64 f)) (.iface 56 (.int .i64 g))).run Try.prog w = .ok (f == g) w := fun d => by
    simp [Op.equalIn, run_underlying Try.underlying52, run_underlying Try.underlying56, typeInfo, hi, hcmp]
  have h2 : (Op.equal 52 (.iface 56 (.int .i64 f)) (.iface 56 (.int .i64 g))).run Try.prog w = .ok (f == g) w := h 9998
  simp only [binOp]
  simp [h2]

theorem isNil (g : Int) (w : World) :
    Calls Try.prog 29 #[.nilIface, .iface 56 (.int .i64 g)] w fun e w' => e = .returned (.bool false) ∧ w' = w := by
  have hn := run_eql_iface_nil_left (P := Try.prog) w 56 (.int .i64 g) Try.underlying52
  go_enter Try.func29, Try.ntmps29
  go_wp2
  go_ret
  exact ⟨rfl, rfl⟩

theorem isWrap (a f g : Int) (w : World) :
    Calls Try.prog 29 #[.iface 129 (.agg #[.int .i64 a, .iface 56 (.int .i64 f)]), .iface 56 (.int .i64 g)] w fun e w' => e = .returned (.bool (f == g)) ∧ ∃ o, w' = { w with heap := w.heap.push o } := by
  have h8 := @run_callFunc_extern Try.prog 78 _ Extern.ReflectliteType.typeOf Try.func78 (by kernel_rfl) (by kernel_rfl) (by kernel_rfl) (by kernel_rfl)
  have h32 := @run_callFunc_extern Try.prog 126 _ (Extern.ReflectliteType.method fun t => do Extern.Rtype.noPackHeld "Comparable" t; pure (.bool (← typeInfo t).comparable)) Try.func126 (by kernel_rfl) (by kernel_rfl) (by kernel_rfl) (by kernel_rfl)
  have tT := isTypeOf
  have cT := isComparable
  have mR := isMethodComparable
  have nE := noIsF
  have uE := noUnwrapF
  have vE := noUnwrapsF
  have nW := noIsW
  have uW := hasUnwrapW
  have mU := methodUnwrap
  have heq := eql_faults f g
  have hty := eql_types (P := Try.prog) 129 56 (.agg #[.int .i64 a, .iface 56 (.int .i64 f)]) (.int .i64 g) Try.underlying52 (by decide)
  go_enter Try.func29, Try.ntmps29
  go_wp2
  refine wp_loop_rounds 2 ?_
  rw [rounds_succ]
  go_wp2
  rw [rounds_succ]
  go_wp2
  all_goals go_ret
  all_goals refine ⟨?_, _, rfl⟩
  all_goals simp_all
end Go.Proofs.Ytllhdnfcneejaaa
end

/- What errors.Is says of the reader's fault, and whether rows of bytes are equal. -/
section
set_option linter.unusedVariables false
set_option linter.unusedSimpArgs false
set_option maxRecDepth 20000
attribute [local irreducible] Go.Tk.vc Go.Tk.vops Go.Tk.vdr Go.Tk.vop Go.Tk.vfl Go.Tk.HCalls
namespace Go.Proofs.Ytllhdnfcneejaaa
open Go Go.Tk

def isF (e : Option (Nat × Int)) (g : Int) : Bool := match e with
  | none => false
  | some (_, f) => f == g

theorem is_c {h : H} {e : Option (Nat × Int)} {g : Int} {R : Ending → H → Prop} (k : R (.returned (.bool (isF e g))) h) :
    HCalls Try.prog 29 #[errV e, .iface 56 (.int .i64 g)] h R := by
  refine .of_calls fun w s => ?_
  cases e with
  | none =>
    refine (isNil g w).mono ?_
    rintro e w' ⟨rfl, rfl⟩
    exact ⟨h, k, .refl s⟩
  | some p =>
    obtain ⟨a, f⟩ := p
    refine (isWrap a f g w).mono ?_
    rintro e w' ⟨rfl, o, rfl⟩
    exact ⟨h, k, .one s⟩

theorem equal_c {h : H} {x y : Value} {a b : List UInt8} (ra : rBytes h x a) (rb : rBytes h y b) (hb : b.length ≤ 1099511627776) {R : Ending → H → Prop} (k : R (.returned (.bool (decide (a = b)))) h) :
    HCalls Try.prog 30 #[x, y] h R := by
  refine HCalls_ir (args := [x, y]) Try.func30 ir30 ?_
  simp only [walk, lists, acts, mem, plain, seqs, maps, cells, resL, resV, intBin, ↓reduceIte, Nat.reduceAdd, Nat.reduceSub, Nat.reduceMul, Nat.reduceLeDiff, Nat.reduceEqDiff, Int.reduceToNat, Int.reduceEq, Int.reduceLT, Int.reduceLE, Int.reduceNeg, Int.reduceAdd, Int.reduceSub, Int.reduceMul, Nat.reducePow, Int.reduceNegSucc, ra.len, rb.len]
  refine ite_ne (fun c1 => .of (kF k fun e => c1 (by rw [e]))) fun c1 => ?_
  have hl : a.length = b.length := by omega
  refine vc_loop [13] (fun n' vs h' => ∃ (i : Nat), vs = [.int .i64 i] ∧ h' = h ∧ i ≤ a.length ∧ n' = a.length - i ∧ a.take i = b.take i) a.length rfl ⟨0, rfl, rfl, by omega, rfl, by simp⟩ ?_
  rintro n' f h' ⟨i, hv, rfl, hi, rfl, ht⟩
  simp only [List.map_cons, List.map_nil, List.cons.injEq, and_true] at hv
  simp only [walk, lists, acts, mem, plain, seqs, maps, cells, resL, resV, intBin, ↓reduceIte, Nat.reduceAdd, Nat.reduceSub, Nat.reduceMul, Nat.reduceLeDiff, Nat.reduceEqDiff, Int.reduceToNat, Int.reduceEq, Int.reduceLT, Int.reduceLE, Int.reduceNeg, Int.reduceAdd, Int.reduceSub, Int.reduceMul, Nat.reducePow, Int.reduceNegSucc, wr, hv]
  refine ite_lt (fun c2 => ?_) fun c2 => ?_
  · have hi2 : i < a.length := by omega
    refine vc_draw _ (Sub.refl _) ?_
    simp only [walk, lists, acts, mem, plain, seqs, maps, cells, resL, resV, intBin, ↓reduceIte, Nat.reduceAdd, Nat.reduceSub, Nat.reduceMul, Nat.reduceLeDiff, Nat.reduceEqDiff, Int.reduceToNat, Int.reduceEq, Int.reduceLT, Int.reduceLE, Int.reduceNeg, Int.reduceAdd, Int.reduceSub, Int.reduceMul, Nat.reducePow, Int.reduceNegSucc]
    refine idx_leaf (i := i) eB_len ra rfl hi2 fun b1 o1 e1 => ?_
    simp only [walk, lists, acts, mem, plain, seqs, maps, cells, resL, resV, intBin, ↓reduceIte, Nat.reduceAdd, Nat.reduceSub, Nat.reduceMul, Nat.reduceLeDiff, Nat.reduceEqDiff, Int.reduceToNat, Int.reduceEq, Int.reduceLT, Int.reduceLE, Int.reduceNeg, Int.reduceAdd, Int.reduceSub, Int.reduceMul, Nat.reducePow, Int.reduceNegSucc, hread_1 e1]
    refine idx_leaf (i := i) eB_len rb rfl (by omega) fun b2 o2 e2 => ?_
    simp only [walk, lists, acts, mem, plain, seqs, maps, cells, resL, resV, intBin, ↓reduceIte, Nat.reduceAdd, Nat.reduceSub, Nat.reduceMul, Nat.reduceLeDiff, Nat.reduceEqDiff, Int.reduceToNat, Int.reduceEq, Int.reduceLT, Int.reduceLE, Int.reduceNeg, Int.reduceAdd, Int.reduceSub, Int.reduceMul, Nat.reducePow, Int.reduceNegSucc, hread_1 e2]
    refine ite_ne (fun d => .of (kF k (ne_at hi2 (by omega) fun e => d (by rw [e])))) fun d => ?_
    simp (disch := omega) only [wrapI]
    exact ⟨a.length - (i + 1), by omega, h', .refl _, i + 1, by simp, rfl, by omega, rfl, take_more _ _ ht (UInt8.toNat_inj.1 (by omega))⟩
  · exact .of (kT k (take_all (by omega) hl ht))
end Go.Proofs.Ytllhdnfcneejaaa
end

/- How the program reads a word of bytes. -/
section
set_option linter.unusedVariables false
set_option linter.unusedSimpArgs false
set_option maxRecDepth 20000
attribute [local irreducible] Go.Tk.vc Go.Tk.vops Go.Tk.vdr Go.Tk.vop Go.Tk.vfl Go.Tk.HCalls
namespace Go.Proofs.Ytllhdnfcneejaaa
open Go Go.Tk

theorem cu_zero : cu (.slice none 0 0) 0 .nilIface = [.slice none 0 0, .int .i64 0, .nilIface] := rfl
theorem cu_new (b : Value) : cu b 0 .nilIface = [b, .int .i64 0, .nilIface] := rfl

theorem implUnpack_c {h : H} {b : Value} {l : List UInt8} (rb : rBytes h b l) (hl : l.length ≤ 1099511627776) {R : Ending → H → Prop}
    (kok : ∀ w s p v gs gp gv, wordP w → l = pack w → (∀ w0, wordP w0 → l = pack w0 → w = w0) → oWord 3 69 3 w s p v gs gp gv → wLen w → Dj gs h → Dj gp h → Dj gv h → R (.returned (.tuple #[.agg (cWord w s p v).toArray, .bool true])) (gs ++ (gp ++ (gv ++ h))))
    (kno : (∀ w, wordP w → l ≠ pack w) → R (.returned (.tuple #[.agg (cWord zWord (.slice none 0 0) (.slice none 0 0) (.slice none 0 0)).toArray, .bool false])) h) :
    HCalls Try.prog 9 #[b] h R := by
  refine HCalls_ir (args := [b]) Try.func9 ir9 ?_
  have zw := zWord_eq
  simp only [str] at zw
  have oneb := rLs.one rb
  have vcb := vcells_one oneb
  simp only [walk, lists, acts, mem, plain, seqs, maps, cells, resL, resV, intBin, ↓reduceIte, Nat.reduceAdd, Nat.reduceSub, Nat.reduceMul, Nat.reduceLeDiff, Nat.reduceEqDiff, Int.reduceToNat, Int.reduceEq, Int.reduceLT, Int.reduceLE, Int.reduceNeg, Int.reduceAdd, Int.reduceSub, Int.reduceMul, Nat.reducePow, Int.reduceNegSucc, str, zw]
  refine newB_intro fun jr hjr => ?_
  simp only [walk, lists, acts, mem, plain, seqs, maps, cells, resL, resV, intBin, ↓reduceIte, Nat.reduceAdd, Nat.reduceSub, Nat.reduceMul, Nat.reduceLeDiff, Nat.reduceEqDiff, Int.reduceToNat, Int.reduceEq, Int.reduceLT, Int.reduceLE, Int.reduceNeg, Int.reduceAdd, Int.reduceSub, Int.reduceMul, Nat.reducePow, Int.reduceNegSucc, vcb]
  refine newB_intro fun jb hjb => ?_
  have nb := fresh hjb
  simp only [walk, lists, acts, mem, plain, seqs, maps, cells, resL, resV, intBin, ↓reduceIte, Nat.reduceAdd, Nat.reduceSub, Nat.reduceMul, Nat.reduceLeDiff, Nat.reduceEqDiff, Int.reduceToNat, Int.reduceEq, Int.reduceLT, Int.reduceLE, Int.reduceNeg, Int.reduceAdd, Int.reduceSub, Int.reduceMul, Nat.reducePow, Int.reduceNegSucc, vcb, oneb]
  refine implWord_c hjb (rb.sub (Sub.cons hjr (Sub.refl _))) hl fun w s p v gs gp gv at' e' ow ds dp dv hw he' ex => ?_
  have os := ow.s.rd.one
  have op := ow.p.rd.one
  have ov := ow.v.rd.one
  have sp2 := ow.sp.symm
  have sv2 := ow.sv.symm
  have pv2 := ow.pv.symm
  have ds2 := ds.symm
  have dp2 := dp.symm
  have dv2 := dv.symm
  simp only [subs] at ds dp dv ds2 dp2 dv2
  simp only [walk, lists, acts, mem, plain, seqs, maps, cells, resL, resV, intBin, ↓reduceIte, Nat.reduceAdd, Nat.reduceSub, Nat.reduceMul, Nat.reduceLeDiff, Nat.reduceEqDiff, Int.reduceToNat, Int.reduceEq, Int.reduceLT, Int.reduceLE, Int.reduceNeg, Int.reduceAdd, Int.reduceSub, Int.reduceMul, Nat.reducePow, Int.reduceNegSucc, zw]
  refine newB_intro fun jw hjw => ?_
  simp only [subs] at hjw
  have njw : jb ≠ jw ∧ jr ≠ jw := ⟨Ne.symm hjw.2.2.2.1, Ne.symm hjw.2.2.2.2.1⟩
  simp only [walk, lists, acts, mem, plain, seqs, maps, cells, resL, resV, intBin, ↓reduceIte, Nat.reduceAdd, Nat.reduceSub, Nat.reduceMul, Nat.reduceLeDiff, Nat.reduceEqDiff, Int.reduceToNat, Int.reduceEq, Int.reduceLT, Int.reduceLE, Int.reduceNeg, Int.reduceAdd, Int.reduceSub, Int.reduceMul, Nat.reducePow, Int.reduceNegSucc, wWord, w_cu, apps, hjw, njw, nb.1, nb.2.1, ds, dp, dv, os, op, ov]
  have S0 : Tk.Sub h ((jw, blk (cWord w s p v) 28) :: (gs ++ (gp ++ (gv ++ ((jb, blk (cu b at' (errV e')) 54) :: (jr, blk (cWord zWord (.slice none 0 0) (.slice none 0 0) (.slice none 0 0)) 28) :: h))))) := by (repeat' first | exact Sub.refl _ | exact Sub.nil _ | assumption | refine Sub.both ?_ ?_ | refine Sub.cons_of (by simp only [subs, hjw, njw, nb, ds, dp, dv, ds2, dp2, dv2, hjr, ow.sp, ow.sv, ow.pv, sp2, sv2, pv2]) ?_ | exact Sub.left _ _ | refine Sub.app (by simp only [subs, hjw, njw, nb, ds, dp, dv, ds2, dp2, dv2, hjr, ow.sp, ow.sv, ow.pv, sp2, sv2, pv2]) ?_ | refine Sub.cons (by simp only [subs, hjw, njw, nb, ds, dp, dv, ds2, dp2, dv2, hjr, ow.sp, ow.sv, ow.pv, sp2, sv2, pv2]) ?_)
  have SW : Tk.Sub (gs ++ (gp ++ gv)) ((jw, blk (cWord w s p v) 28) :: (gs ++ (gp ++ (gv ++ ((jb, blk (cu b at' (errV e')) 54) :: (jr, blk (cWord zWord (.slice none 0 0) (.slice none 0 0) (.slice none 0 0)) 28) :: h))))) := by (repeat' first | exact Sub.refl _ | exact Sub.nil _ | assumption | refine Sub.both ?_ ?_ | refine Sub.cons_of (by simp only [subs, hjw, njw, nb, ds, dp, dv, ds2, dp2, dv2, hjr, ow.sp, ow.sv, ow.pv, sp2, sv2, pv2]) ?_ | exact Sub.left _ _ | refine Sub.app (by simp only [subs, hjw, njw, nb, ds, dp, dv, ds2, dp2, dv2, hjr, ow.sp, ow.sv, ow.pv, sp2, sv2, pv2]) ?_ | refine Sub.cons (by simp only [subs, hjw, njw, nb, ds, dp, dv, ds2, dp2, dv2, hjr, ow.sp, ow.sv, ow.pv, sp2, sv2, pv2]) ?_)
  have rbM := rb.sub S0
  have rwM := sWord.sub SW ow.rd
  refine is_c ?_
  simp only [walk, lists, acts, mem, plain, seqs, maps, cells, resL, resV, intBin, ↓reduceIte, Nat.reduceAdd, Nat.reduceSub, Nat.reduceMul, Nat.reduceLeDiff, Nat.reduceEqDiff, Int.reduceToNat, Int.reduceEq, Int.reduceLT, Int.reduceLE, Int.reduceNeg, Int.reduceAdd, Int.reduceSub, Int.reduceMul, Nat.reducePow, Int.reduceNegSucc, w_cu, apps, hjw, njw, nb.1, nb.2.1, ds, dp, dv, wWord, zw]
  refine ite_pos (fun c1 => dP_sub S0 (kno fun w0 ok e => by rw [(ex w0 ok e).2] at c1; cases c1)) fun c1 => ?_
  refine is_c ?_
  simp only [walk, lists, acts, mem, plain, seqs, maps, cells, resL, resV, intBin, ↓reduceIte, Nat.reduceAdd, Nat.reduceSub, Nat.reduceMul, Nat.reduceLeDiff, Nat.reduceEqDiff, Int.reduceToNat, Int.reduceEq, Int.reduceLT, Int.reduceLE, Int.reduceNeg, Int.reduceAdd, Int.reduceSub, Int.reduceMul, Nat.reducePow, Int.reduceNegSucc, w_cu, apps, hjw, njw, nb.1, nb.2.1, ds, dp, dv, wWord, zw]
  refine ite_pos (fun c2 => dP_sub S0 (kno fun w0 ok e => by rw [(ex w0 ok e).2] at c2; cases c2)) fun c2 => ?_
  have e0 : e' = none := by
    cases e' with
    | none => rfl
    | some p =>
      obtain ⟨a, f⟩ := p
      rcases he' a f rfl with rfl | rfl
      · exact absurd rfl c1
      · exact absurd rfl c2
  refine implWordOk_c rwM hw fun bk hb => ?_
  simp only [walk, lists, acts, mem, plain, seqs, maps, cells, resL, resV, intBin, ↓reduceIte, Nat.reduceAdd, Nat.reduceSub, Nat.reduceMul, Nat.reduceLeDiff, Nat.reduceEqDiff, Int.reduceToNat, Int.reduceEq, Int.reduceLT, Int.reduceLE, Int.reduceNeg, Int.reduceAdd, Int.reduceSub, Int.reduceMul, Nat.reducePow, Int.reduceNegSucc, w_cu, apps, hjw, njw, nb.1, nb.2.1, ds, dp, dv, wWord, zw]
  refine ite_f (fun c3 => dP_sub S0 (kno fun w0 ok e => by
    have := (ex w0 ok e).1
    subst this
    rw [hb.2 ok] at c3; cases c3)) fun c3 => ?_
  have okw := hb.1 c3
  refine implPack_c rwM hw (fun _ v' g' o' d' => ?_) fun no => absurd okw no
  have sR := Sub.right d'
  have dx := d'
  have dy := d'.symm
  simp only [subs] at dx dy
  simp only [walk, lists, acts, mem, plain, seqs, maps, cells, resL, resV, intBin, ↓reduceIte, Nat.reduceAdd, Nat.reduceSub, Nat.reduceMul, Nat.reduceLeDiff, Nat.reduceEqDiff, Int.reduceToNat, Int.reduceEq, Int.reduceLT, Int.reduceLE, Int.reduceNeg, Int.reduceAdd, Int.reduceSub, Int.reduceMul, Nat.reducePow, Int.reduceNegSucc]
  refine equal_c (o'.rd.sub (Sub.left _ _)) (rbM.sub sR) hl ?_
  simp only [walk, lists, acts, mem, plain, seqs, maps, cells, resL, resV, intBin, ↓reduceIte, Nat.reduceAdd, Nat.reduceSub, Nat.reduceMul, Nat.reduceLeDiff, Nat.reduceEqDiff, Int.reduceToNat, Int.reduceEq, Int.reduceLT, Int.reduceLE, Int.reduceNeg, Int.reduceAdd, Int.reduceSub, Int.reduceMul, Nat.reducePow, Int.reduceNegSucc, w_cu, apps, dx, hjw, njw, nb.1, nb.2.1, ds, dp, dv, wWord, zw, os, op, ov]
  refine ite_ne (fun hne => ⟨h, by (repeat' first | exact Sub.refl _ | exact Sub.nil _ | assumption | refine Sub.both ?_ ?_ | refine Sub.cons_of (by simp only [subs, dx, dy, hjw, njw, nb, ds, dp, dv, ds2, dp2, dv2, hjr, ow.sp, ow.sv, ow.pv, sp2, sv2, pv2]) ?_ | exact Sub.left _ _ | refine Sub.app (by simp only [subs, dx, dy, hjw, njw, nb, ds, dp, dv, ds2, dp2, dv2, hjr, ow.sp, ow.sv, ow.pv, sp2, sv2, pv2]) ?_ | refine Sub.cons (by simp only [subs, dx, dy, hjw, njw, nb, ds, dp, dv, ds2, dp2, dv2, hjr, ow.sp, ow.sv, ow.pv, sp2, sv2, pv2]) ?_), kno fun w0 ok e => ?_⟩) fun heq => ⟨gs ++ (gp ++ (gv ++ h)), by (repeat' first | exact Sub.refl _ | exact Sub.nil _ | assumption | refine Sub.both ?_ ?_ | refine Sub.cons_of (by simp only [subs, dx, dy, hjw, njw, nb, ds, dp, dv, ds2, dp2, dv2, hjr, ow.sp, ow.sv, ow.pv, sp2, sv2, pv2]) ?_ | exact Sub.left _ _ | refine Sub.app (by simp only [subs, dx, dy, hjw, njw, nb, ds, dp, dv, ds2, dp2, dv2, hjr, ow.sp, ow.sv, ow.pv, sp2, sv2, pv2]) ?_ | refine Sub.cons (by simp only [subs, dx, dy, hjw, njw, nb, ds, dp, dv, ds2, dp2, dv2, hjr, ow.sp, ow.sv, ow.pv, sp2, sv2, pv2]) ?_), kok w s p v gs gp gv okw heq.symm (fun w0 ok e => (ex w0 ok e).1) ow hw ds.2.2 dp.2.2 dv.2.2⟩
  have := (ex w0 ok e).1
  subst this
  exact hne e.symm
end Go.Proofs.Ytllhdnfcneejaaa
end

/- What the laws compare and mark: slices of numbers, bytes, pairs. -/
section
set_option linter.unusedVariables false
set_option linter.unusedSimpArgs false
set_option maxRecDepth 20000
attribute [local irreducible] Go.Tk.vc Go.Tk.vops Go.Tk.vdr Go.Tk.vop Go.Tk.vfl Go.Tk.HCalls
namespace Go.Proofs.Ytllhdnfcneejaaa
open Go Go.Tk

theorem eqIntS_c {h : H} {a b : Value} {la lb : List Int} (ra : rInts h a la) (rb : rInts h b lb) (ha : la.length ≤ 1099511627776) {R : Ending → H → Prop} (k : R (.returned (.bool (decide (la = lb)))) h) :
    HCalls Try.prog 31 #[a, b] h R := by
  refine HCalls_ir (args := [a, b]) Try.func31 ir31 ?_
  simp only [walk, lists, acts, mem, plain, seqs, maps, cells, resL, resV, intBin, ↓reduceIte, Nat.reduceAdd, Nat.reduceSub, Nat.reduceMul, Nat.reduceLeDiff, Nat.reduceEqDiff, Int.reduceToNat, Int.reduceEq, Int.reduceLT, Int.reduceLE, Int.reduceNeg, Int.reduceAdd, Int.reduceSub, Int.reduceMul, Nat.reducePow, Int.reduceNegSucc, ra.len, rb.len]
  split
  · rename_i c
    have : la ≠ lb := fun e => c (by rw [e])
    simp only [this, decide_false] at k
    exact .of k
  · rename_i c
    have hl : la.length = lb.length := by omega
    refine vc_loop [5] (fun n vs h' => ∃ i : Nat, vs = [.int .i64 i] ∧ h' = h ∧ i ≤ la.length ∧ n = la.length - i ∧ la.take i = lb.take i) la.length rfl ⟨0, rfl, rfl, by omega, by omega, by simp⟩ ?_
    rintro n f h' ⟨i, hv, rfl, hi, rfl, ht⟩
    simp only [List.map_cons, List.map_nil, List.cons.injEq, and_true] at hv
    simp only [walk, lists, acts, mem, plain, seqs, maps, cells, resL, resV, intBin, ↓reduceIte, Nat.reduceAdd, Nat.reduceSub, Nat.reduceMul, Nat.reduceLeDiff, Nat.reduceEqDiff, Int.reduceToNat, Int.reduceEq, Int.reduceLT, Int.reduceLE, Int.reduceNeg, Int.reduceAdd, Int.reduceSub, Int.reduceMul, Nat.reducePow, Int.reduceNegSucc, wr, hv, ra.len, rb.len]
    split
    · rename_i c1
      refine vc_draw h' (Sub.refl _) ?_
      simp only [walk, lists, acts, mem, plain, seqs, maps, cells, resL, resV, intBin, ↓reduceIte, Nat.reduceAdd, Nat.reduceSub, Nat.reduceMul, Nat.reduceLeDiff, Nat.reduceEqDiff, Int.reduceToNat, Int.reduceEq, Int.reduceLT, Int.reduceLE, Int.reduceNeg, Int.reduceAdd, Int.reduceSub, Int.reduceMul, Nat.reducePow, Int.reduceNegSucc]
      refine idx_leaf (i := i) eI_len ra rfl (by omega) fun b1 o1 e1 => ?_
      simp only [walk, lists, acts, mem, plain, seqs, maps, cells, resL, resV, intBin, ↓reduceIte, Nat.reduceAdd, Nat.reduceSub, Nat.reduceMul, Nat.reduceLeDiff, Nat.reduceEqDiff, Int.reduceToNat, Int.reduceEq, Int.reduceLT, Int.reduceLE, Int.reduceNeg, Int.reduceAdd, Int.reduceSub, Int.reduceMul, Nat.reducePow, Int.reduceNegSucc, hread_1 e1]
      refine idx_leaf (i := i) eI_len rb rfl (by omega) fun b2 o2 e2 => ?_
      simp only [walk, lists, acts, mem, plain, seqs, maps, cells, resL, resV, intBin, ↓reduceIte, Nat.reduceAdd, Nat.reduceSub, Nat.reduceMul, Nat.reduceLeDiff, Nat.reduceEqDiff, Int.reduceToNat, Int.reduceEq, Int.reduceLT, Int.reduceLE, Int.reduceNeg, Int.reduceAdd, Int.reduceSub, Int.reduceMul, Nat.reducePow, Int.reduceNegSucc, hread_1 e2]
      split
      · rename_i d
        have : la ≠ lb := ne_at _ _ d
        simp only [this, decide_false] at k
        exact .of k
      · rename_i d
        simp (disch := omega) only [wrapI]
        exact ⟨la.length - (i + 1), by omega, h', .refl _, i + 1, by simp, rfl, by omega, rfl, take_more _ _ ht (by simpa using d)⟩
    · rename_i c1
      have := take_all (by omega) hl ht
      simp only [this, decide_true] at k
      exact .of k

theorem markIntS_c {e : TypeId} {g h0 : H} {v : Value} {l : List Int} {k : Int} (o : oLs e eI 1 v l g) (dj : Dj g h0) (hl : l.length ≤ 1099511627776) (hk : 0 ≤ k ∧ k ≤ 1099511627776000) {R : Ending → H → Prop}
    (kr : ∀ g', oLs e eI 1 v (mks k l.length) g' → Dj g' h0 → R (.returned (.int .i64 (k + l.length))) (g' ++ h0)) :
    HCalls Try.prog 34 #[v, .int .i64 k] (g ++ h0) R := by
  refine HCalls_ir (args := [v, .int .i64 k]) Try.func34 ir34 ?_
  simp only [walk, lists, acts, mem, plain, seqs, maps, cells, resL, resV, intBin, ↓reduceIte, Nat.reduceAdd, Nat.reduceSub, Nat.reduceMul, Nat.reduceLeDiff, Nat.reduceEqDiff, Int.reduceToNat, Int.reduceEq, Int.reduceLT, Int.reduceLE, Int.reduceNeg, Int.reduceAdd, Int.reduceSub, Int.reduceMul, Nat.reducePow, Int.reduceNegSucc]
  refine vc_loop [5, 1] (fun n vs h' => ∃ (i : Nat) (g' : H), vs = [.int .i64 i, .int .i64 (k + i)] ∧ h' = g' ++ h0 ∧ Dj g' h0 ∧ oLs e eI 1 v (mks k i ++ l.drop i) g' ∧ i ≤ l.length ∧ n = l.length - i) l.length rfl ⟨0, g, by simp, rfl, dj, by simpa [mks] using o, by omega, rfl⟩ ?_
  rintro n f h' ⟨i, g', hv, rfl, dj', o', hi, rfl⟩
  simp only [List.map_cons, List.map_nil, List.cons.injEq, and_true] at hv
  have hll : (mks k i ++ l.drop i).length = l.length := by simp [mks_len]; omega
  have hlen : ∀ {f : Value → Prop}, lenSK v f = f (.int .i64 l.length) := fun {f} => by rw [← hll]; exact o'.rd.len
  simp only [walk, lists, acts, mem, plain, seqs, maps, cells, resL, resV, intBin, ↓reduceIte, Nat.reduceAdd, Nat.reduceSub, Nat.reduceMul, Nat.reduceLeDiff, Nat.reduceEqDiff, Int.reduceToNat, Int.reduceEq, Int.reduceLT, Int.reduceLE, Int.reduceNeg, Int.reduceAdd, Int.reduceSub, Int.reduceMul, Nat.reducePow, Int.reduceNegSucc, wr, hv.1, hv.2, hlen]
  split
  · rename_i c1
    refine own_idx (i := i) eI_len o' rfl (by omega) fun b cap sp hv' hc hs hg => ?_
    subst hg
    simp only [walk, lists, acts, mem, plain, seqs, maps, cells, resL, resV, intBin, ↓reduceIte, Nat.reduceAdd, Nat.reduceSub, Nat.reduceMul, Nat.reduceLeDiff, Nat.reduceEqDiff, Int.reduceToNat, Int.reduceEq, Int.reduceLT, Int.reduceLE, Int.reduceNeg, Int.reduceAdd, Int.reduceSub, Int.reduceMul, Nat.reducePow, Int.reduceNegSucc]
    refine st_own (i := i) (a' := k + i) (off := 0) eI_len (by omega) (by omega) rfl (by omega) rfl ?_
    simp only [walk, lists, acts, mem, plain, seqs, maps, cells, resL, resV, intBin, ↓reduceIte, Nat.reduceAdd, Nat.reduceSub, Nat.reduceMul, Nat.reduceLeDiff, Nat.reduceEqDiff, Int.reduceToNat, Int.reduceEq, Int.reduceLT, Int.reduceLE, Int.reduceNeg, Int.reduceAdd, Int.reduceSub, Int.reduceMul, Nat.reducePow, Int.reduceNegSucc]
    simp (disch := omega) only [wrapI]
    refine ⟨l.length - (i + 1), by omega, _, .refl _, i + 1, _, ?_, rfl, dj'.sub (.refl _) (.refl _) |> fun d => Dj.one d.one', ?_, by omega, rfl⟩
    · simp; omega
    · rw [← mks_set k l i (by omega)]; exact own_set eI_len hv' hc hs
  · rename_i c1
    have hi' : i = l.length := by omega
    subst hi'
    simp only [List.drop_length, List.append_nil] at o'
    exact .of (kr g' o' dj')

theorem heldIntS_c {h : H} {v : Value} {l : List Int} {k : Int} (r : rInts h v l) (hm : l = mks k l.length) (hl : l.length ≤ 1099511627776) (hk : 0 ≤ k ∧ k ≤ 1099511627776000) {R : Ending → H → Prop}
    (kr : R (.returned (.int .i64 (k + l.length))) h) : HCalls Try.prog 36 #[v, .int .i64 k] h R := by
  refine HCalls_ir (args := [v, .int .i64 k]) Try.func36 ir36 ?_
  simp only [walk, lists, acts, mem, plain, seqs, maps, cells, resL, resV, intBin, ↓reduceIte, Nat.reduceAdd, Nat.reduceSub, Nat.reduceMul, Nat.reduceLeDiff, Nat.reduceEqDiff, Int.reduceToNat, Int.reduceEq, Int.reduceLT, Int.reduceLE, Int.reduceNeg, Int.reduceAdd, Int.reduceSub, Int.reduceMul, Nat.reducePow, Int.reduceNegSucc]
  refine vc_loop [5, 1] (fun n vs h' => ∃ (i : Nat), vs = [.int .i64 i, .int .i64 (k + i)] ∧ h' = h ∧ i ≤ l.length ∧ n = l.length - i) l.length rfl ⟨0, by simp, rfl, by omega, rfl⟩ ?_
  rintro n f h' ⟨i, hv, rfl, hi, rfl⟩
  simp only [List.map_cons, List.map_nil, List.cons.injEq, and_true] at hv
  simp only [walk, lists, acts, mem, plain, seqs, maps, cells, resL, resV, intBin, ↓reduceIte, Nat.reduceAdd, Nat.reduceSub, Nat.reduceMul, Nat.reduceLeDiff, Nat.reduceEqDiff, Int.reduceToNat, Int.reduceEq, Int.reduceLT, Int.reduceLE, Int.reduceNeg, Int.reduceAdd, Int.reduceSub, Int.reduceMul, Nat.reducePow, Int.reduceNegSucc, wr, hv.1, hv.2, r.len]
  split
  · rename_i c1
    refine idx_leaf (i := i) eI_len r rfl (by omega) fun b1 o1 e1 => ?_
    have hx : l[i]'(by omega) = k + i := by
      have : ∀ (m : List Int) (hi : i < m.length), m = mks k l.length → m[i] = k + i := by rintro m hi rfl; exact mks_at _ _ _ _
      exact this l _ hm
    rw [hx] at e1
    simp only [walk, lists, acts, mem, plain, seqs, maps, cells, resL, resV, intBin, ↓reduceIte, Nat.reduceAdd, Nat.reduceSub, Nat.reduceMul, Nat.reduceLeDiff, Nat.reduceEqDiff, Int.reduceToNat, Int.reduceEq, Int.reduceLT, Int.reduceLE, Int.reduceNeg, Int.reduceAdd, Int.reduceSub, Int.reduceMul, Nat.reducePow, Int.reduceNegSucc, hread_1 e1]
    simp (disch := omega) only [wrapI]
    exact ⟨l.length - (i + 1), by omega, h', .refl _, i + 1, by simp; omega, rfl, by omega, rfl⟩
  · rename_i c1
    have hi' : i = l.length := by omega
    subst hi'
    exact .of kr

theorem markPairS_c {e : TypeId} {g h0 : H} {v : Value} {l : List (Int × Int)} {k : Int} (o : oLs e eP 2 v l g) (dj : Dj g h0) (hl : l.length ≤ 1099511627776) (hk : 0 ≤ k ∧ k ≤ 1099511627776000) {R : Ending → H → Prop}
    (kr : ∀ g', oLs e eP 2 v (mkp k l.length) g' → Dj g' h0 → R (.returned (.int .i64 (k + 2 * l.length))) (g' ++ h0)) :
    HCalls Try.prog 35 #[v, .int .i64 k] (g ++ h0) R := by
  refine HCalls_ir (args := [v, .int .i64 k]) Try.func35 ir35 ?_
  simp only [walk, lists, acts, mem, plain, seqs, maps, cells, resL, resV, intBin, ↓reduceIte, Nat.reduceAdd, Nat.reduceSub, Nat.reduceMul, Nat.reduceLeDiff, Nat.reduceEqDiff, Int.reduceToNat, Int.reduceEq, Int.reduceLT, Int.reduceLE, Int.reduceNeg, Int.reduceAdd, Int.reduceSub, Int.reduceMul, Nat.reducePow, Int.reduceNegSucc]
  refine vc_loop [5, 1] (fun n vs h' => ∃ (i : Nat) (g' : H), vs = [.int .i64 i, .int .i64 (k + 2 * i)] ∧ h' = g' ++ h0 ∧ Dj g' h0 ∧ oLs e eP 2 v (mkp k i ++ l.drop i) g' ∧ i ≤ l.length ∧ n = l.length - i) l.length rfl ⟨0, g, by simp, rfl, dj, by simpa [mkp] using o, by omega, rfl⟩ ?_
  rintro n f h' ⟨i, g', hv, rfl, dj', o', hi, rfl⟩
  simp only [List.map_cons, List.map_nil, List.cons.injEq, and_true] at hv
  have hll : (mkp k i ++ l.drop i).length = l.length := by simp [mkp_len]; omega
  have hlen : ∀ {f : Value → Prop}, lenSK v f = f (.int .i64 l.length) := fun {f} => by rw [← hll]; exact o'.rd.len
  simp only [walk, lists, acts, mem, plain, seqs, maps, cells, resL, resV, intBin, ↓reduceIte, Nat.reduceAdd, Nat.reduceSub, Nat.reduceMul, Nat.reduceLeDiff, Nat.reduceEqDiff, Int.reduceToNat, Int.reduceEq, Int.reduceLT, Int.reduceLE, Int.reduceNeg, Int.reduceAdd, Int.reduceSub, Int.reduceMul, Nat.reducePow, Int.reduceNegSucc, wr, hv.1, hv.2, hlen]
  split
  · rename_i c1
    refine own_idx (i := i) eP_len o' rfl (by omega) fun b cap sp hv' hc hs hg => ?_
    subst hg
    simp only [walk, lists, acts, mem, plain, seqs, maps, cells, resL, resV, intBin, ↓reduceIte, Nat.reduceAdd, Nat.reduceSub, Nat.reduceMul, Nat.reduceLeDiff, Nat.reduceEqDiff, Int.reduceToNat, Int.reduceEq, Int.reduceLT, Int.reduceLE, Int.reduceNeg, Int.reduceAdd, Int.reduceSub, Int.reduceMul, Nat.reducePow, Int.reduceNegSucc]
    have hb : i < (mkp k i ++ l.drop i).length := by omega
    refine st_own (i := i) (a' := (k + 2 * i, ((mkp k i ++ l.drop i)[i]).2)) (off := 0) eP_len (by omega) hb rfl (by omega) rfl ?_
    simp only [walk, lists, acts, mem, plain, seqs, maps, cells, resL, resV, intBin, ↓reduceIte, Nat.reduceAdd, Nat.reduceSub, Nat.reduceMul, Nat.reduceLeDiff, Nat.reduceEqDiff, Int.reduceToNat, Int.reduceEq, Int.reduceLT, Int.reduceLE, Int.reduceNeg, Int.reduceAdd, Int.reduceSub, Int.reduceMul, Nat.reducePow, Int.reduceNegSucc]
    have o2 := own_set (e := e) (i := i) (a' := (k + 2 * i, ((mkp k i ++ l.drop i)[i]).2)) eP_len hv' hc hs
    refine own_idx (i := i) eP_len o2 rfl (by rw [List.length_set]; omega) fun b2 cap2 sp2 hv2 hc2 hs2 hg2 => ?_
    simp only [List.singleton_append, List.cons.injEq, Prod.mk.injEq, and_true] at hg2
    obtain ⟨rfl, hg2⟩ := hg2
    rw [hg2]
    simp only [walk, lists, acts, mem, plain, seqs, maps, cells, resL, resV, intBin, ↓reduceIte, Nat.reduceAdd, Nat.reduceSub, Nat.reduceMul, Nat.reduceLeDiff, Nat.reduceEqDiff, Int.reduceToNat, Int.reduceEq, Int.reduceLT, Int.reduceLE, Int.reduceNeg, Int.reduceAdd, Int.reduceSub, Int.reduceMul, Nat.reducePow, Int.reduceNegSucc]
    simp (disch := omega) only [wrapI]
    refine st_own (i := i) (a' := (k + 2 * i, k + 2 * i + 1)) (off := 1) eP_len (by omega) (by rw [List.length_set]; omega) rfl (by omega) (by simp [eP, splice, vcells]) ?_
    simp only [walk, lists, acts, mem, plain, seqs, maps, cells, resL, resV, intBin, ↓reduceIte, Nat.reduceAdd, Nat.reduceSub, Nat.reduceMul, Nat.reduceLeDiff, Nat.reduceEqDiff, Int.reduceToNat, Int.reduceEq, Int.reduceLT, Int.reduceLE, Int.reduceNeg, Int.reduceAdd, Int.reduceSub, Int.reduceMul, Nat.reducePow, Int.reduceNegSucc]
    simp (disch := omega) only [wrapI]
    have o3 := own_set (e := e) (i := i) (a' := (k + 2 * i, k + 2 * i + 1)) eP_len hv2 hc2 hs2
    refine ⟨l.length - (i + 1), by omega, _, .refl _, i + 1, _, ?_, rfl, Dj.one dj'.one', ?_, by omega, rfl⟩
    · simp; omega
    · rw [← mkp_set k l i (by omega)]; rw [List.set_set] at o3; rw [List.set_set]; exact o3
  · rename_i c1
    have hi' : i = l.length := by omega
    subst hi'
    simp only [List.drop_length, List.append_nil] at o'
    exact .of (kr g' o' dj')

theorem eqByteS_c {h : H} {a b : Value} {la lb : List UInt8} (ra : rBytes h a la) (rb : rBytes h b lb) (ha : la.length ≤ 1099511627776) {R : Ending → H → Prop} (k : R (.returned (.bool (decide (la = lb)))) h) :
    HCalls Try.prog 11 #[a, b] h R := by
  refine HCalls_ir (args := [a, b]) Try.func11 ir11 ?_
  simp only [walk, lists, acts, mem, plain, seqs, maps, cells, resL, resV, intBin, ↓reduceIte, Nat.reduceAdd, Nat.reduceSub, Nat.reduceMul, Nat.reduceLeDiff, Nat.reduceEqDiff, Int.reduceToNat, Int.reduceEq, Int.reduceLT, Int.reduceLE, Int.reduceNeg, Int.reduceAdd, Int.reduceSub, Int.reduceMul, Nat.reducePow, Int.reduceNegSucc, ra.len, rb.len]
  split
  · rename_i c
    have : la ≠ lb := fun e => c (by rw [e])
    simp only [this, decide_false] at k
    exact .of k
  · rename_i c
    have hl : la.length = lb.length := by omega
    refine vc_loop [5] (fun n vs h' => ∃ i : Nat, vs = [.int .i64 i] ∧ h' = h ∧ i ≤ la.length ∧ n = la.length - i ∧ la.take i = lb.take i) la.length rfl ⟨0, rfl, rfl, by omega, by omega, by simp⟩ ?_
    rintro n f h' ⟨i, hv, rfl, hi, rfl, ht⟩
    simp only [List.map_cons, List.map_nil, List.cons.injEq, and_true] at hv
    simp only [walk, lists, acts, mem, plain, seqs, maps, cells, resL, resV, intBin, ↓reduceIte, Nat.reduceAdd, Nat.reduceSub, Nat.reduceMul, Nat.reduceLeDiff, Nat.reduceEqDiff, Int.reduceToNat, Int.reduceEq, Int.reduceLT, Int.reduceLE, Int.reduceNeg, Int.reduceAdd, Int.reduceSub, Int.reduceMul, Nat.reducePow, Int.reduceNegSucc, wr, hv, ra.len, rb.len]
    split
    · rename_i c1
      refine vc_draw h' (Sub.refl _) ?_
      simp only [walk, lists, acts, mem, plain, seqs, maps, cells, resL, resV, intBin, ↓reduceIte, Nat.reduceAdd, Nat.reduceSub, Nat.reduceMul, Nat.reduceLeDiff, Nat.reduceEqDiff, Int.reduceToNat, Int.reduceEq, Int.reduceLT, Int.reduceLE, Int.reduceNeg, Int.reduceAdd, Int.reduceSub, Int.reduceMul, Nat.reducePow, Int.reduceNegSucc]
      refine idx_leaf (i := i) eB_len ra rfl (by omega) fun b1 o1 e1 => ?_
      simp only [walk, lists, acts, mem, plain, seqs, maps, cells, resL, resV, intBin, ↓reduceIte, Nat.reduceAdd, Nat.reduceSub, Nat.reduceMul, Nat.reduceLeDiff, Nat.reduceEqDiff, Int.reduceToNat, Int.reduceEq, Int.reduceLT, Int.reduceLE, Int.reduceNeg, Int.reduceAdd, Int.reduceSub, Int.reduceMul, Nat.reducePow, Int.reduceNegSucc, hread_1 e1]
      refine idx_leaf (i := i) eB_len rb rfl (by omega) fun b2 o2 e2 => ?_
      simp only [walk, lists, acts, mem, plain, seqs, maps, cells, resL, resV, intBin, ↓reduceIte, Nat.reduceAdd, Nat.reduceSub, Nat.reduceMul, Nat.reduceLeDiff, Nat.reduceEqDiff, Int.reduceToNat, Int.reduceEq, Int.reduceLT, Int.reduceLE, Int.reduceNeg, Int.reduceAdd, Int.reduceSub, Int.reduceMul, Nat.reducePow, Int.reduceNegSucc, hread_1 e2]
      split
      · rename_i d
        have : la ≠ lb := ne_at _ _ (fun e => d (by rw [e]))
        simp only [this, decide_false] at k
        exact .of k
      · rename_i d
        simp (disch := omega) only [wrapI]
        exact ⟨la.length - (i + 1), by omega, h', .refl _, i + 1, by simp, rfl, by omega, rfl, take_more _ _ ht (UInt8.toNat_inj.1 (by omega))⟩
    · rename_i c1
      have := take_all (by omega) hl ht
      simp only [this, decide_true] at k
      exact .of k

theorem markByteS_c {e : TypeId} {g h0 : H} {v : Value} {l : List UInt8} {k : Int} (o : oLs e eB 1 v l g) (dj : Dj g h0) (hl : l.length ≤ 1099511627776) (hk : 0 ≤ k ∧ k ≤ 1099511627776000) {R : Ending → H → Prop}
    (kr : ∀ l' g', l'.length = l.length → oLs e eB 1 v l' g' → Dj g' h0 → R (.returned (.int .i64 (k + l.length))) (g' ++ h0)) :
    HCalls Try.prog 12 #[v, .int .i64 k] (g ++ h0) R := by
  refine HCalls_ir (args := [v, .int .i64 k]) Try.func12 ir12 ?_
  simp only [walk, lists, acts, mem, plain, seqs, maps, cells, resL, resV, intBin, ↓reduceIte, Nat.reduceAdd, Nat.reduceSub, Nat.reduceMul, Nat.reduceLeDiff, Nat.reduceEqDiff, Int.reduceToNat, Int.reduceEq, Int.reduceLT, Int.reduceLE, Int.reduceNeg, Int.reduceAdd, Int.reduceSub, Int.reduceMul, Nat.reducePow, Int.reduceNegSucc]
  refine vc_loop [5, 1] (fun n vs h' => ∃ (i : Nat) (g' : H) (l' : List UInt8), vs = [.int .i64 i, .int .i64 (k + i)] ∧ h' = g' ++ h0 ∧ Dj g' h0 ∧ oLs e eB 1 v l' g' ∧ l'.length = l.length ∧ i ≤ l.length ∧ n = l.length - i) l.length rfl ⟨0, g, l, by simp, rfl, dj, o, rfl, by omega, rfl⟩ ?_
  rintro n f h' ⟨i, g', l', hv, rfl, dj', o', hll, hi, rfl⟩
  simp only [List.map_cons, List.map_nil, List.cons.injEq, and_true] at hv
  simp only [walk, lists, acts, mem, plain, seqs, maps, cells, resL, resV, intBin, ↓reduceIte, Nat.reduceAdd, Nat.reduceSub, Nat.reduceMul, Nat.reduceLeDiff, Nat.reduceEqDiff, Int.reduceToNat, Int.reduceEq, Int.reduceLT, Int.reduceLE, Int.reduceNeg, Int.reduceAdd, Int.reduceSub, Int.reduceMul, Nat.reducePow, Int.reduceNegSucc, wr, hv.1, hv.2, o'.rd.len, hll]
  split
  · rename_i c1
    refine own_idx (i := i) eB_len o' rfl (by omega) fun b cap sp hv' hc hs hg => ?_
    subst hg
    simp only [walk, lists, acts, mem, plain, seqs, maps, cells, resL, resV, intBin, ↓reduceIte, Nat.reduceAdd, Nat.reduceSub, Nat.reduceMul, Nat.reduceLeDiff, Nat.reduceEqDiff, Int.reduceToNat, Int.reduceEq, Int.reduceLT, Int.reduceLE, Int.reduceNeg, Int.reduceAdd, Int.reduceSub, Int.reduceMul, Nat.reducePow, Int.reduceNegSucc]
    refine st_own (i := i) (a' := UInt8.ofNat (IntKind.u8.wrap (k + i)).toNat) (off := 0) eB_len (by omega) (by omega) rfl (by omega) (eB_wrap _ _) ?_
    simp only [walk, lists, acts, mem, plain, seqs, maps, cells, resL, resV, intBin, ↓reduceIte, Nat.reduceAdd, Nat.reduceSub, Nat.reduceMul, Nat.reduceLeDiff, Nat.reduceEqDiff, Int.reduceToNat, Int.reduceEq, Int.reduceLT, Int.reduceLE, Int.reduceNeg, Int.reduceAdd, Int.reduceSub, Int.reduceMul, Nat.reducePow, Int.reduceNegSucc]
    simp (disch := omega) only [wrapI]
    exact ⟨l.length - (i + 1), by omega, _, .refl _, i + 1, _, _, by simp; omega, rfl, Dj.one dj'.one', own_set eB_len hv' hc hs, by rw [List.length_set]; exact hll, by omega, rfl⟩
  · rename_i c1
    have hi' : i = l.length := by omega
    subst hi'
    exact .of (kr l' g' hll o' dj')
end Go.Proofs.Ytllhdnfcneejaaa
end
