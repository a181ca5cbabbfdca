/- How the program reads words. -/
import Derived.Test.YtllhdnfcneejaaaT23
import Derived.Test.YtllhdnfcneejaaaT15
set_option linter.unusedVariables false
set_option linter.unusedSimpArgs false
set_option maxRecDepth 20000
attribute [local irreducible] Go.Tk.vc Go.Tk.vops Go.Tk.vdr Go.Tk.vop Go.Tk.vfl Go.Tk.HCalls
namespace Go.Proofs.Ytllhdnfcneejaaa
open Go Go.Tk

theorem list8 {l : List Int} (h : l.length = 8) : ∃ a0 a1 a2 a3 a4 a5 a6 a7, l = [a0, a1, a2, a3, a4, a5, a6, a7] := by
  match l, h with
  | [a0, a1, a2, a3, a4, a5, a6, a7], _ => exact ⟨_, _, _, _, _, _, _, _, rfl⟩
theorem list5 {l : List Int} (h : l.length = 5) : ∃ a0 a1 a2 a3 a4, l = [a0, a1, a2, a3, a4] := by
  match l, h with
  | [a0, a1, a2, a3, a4], _ => exact ⟨_, _, _, _, _, rfl⟩
theorem encIs_ge (zs : List Int) : zs.length ≤ (encIs zs).length := by
  induction zs with
  | nil => simp
  | cons a t ih =>
    rw [encIs_cons, List.length_append, List.length_cons]
    have : 0 < (encI a).length := List.length_pos_iff.2 (encN_ne _)
    omega

def head8 (w : DWord) : List Int := [w.kind, w.from_, w.to, w.stamp, w.try_, w.what, yesN w.yes, w.code]
def head5 (w : DWord) : List Int := [w.call.session, w.call.number, w.call.kind, w.call.slot, w.call.to]
theorem pack_cut (w : DWord) : pack w = encIs (head8 w) ++ (encIs (head5 w) ++ (encI (w.call.text.length : Int) ++ (w.call.text ++ restT w))) := by
  rw [pack_head]
  simp [headW, head8, head5, encIs]
theorem head_small {w : DWord} (h : wordP w) : allP smallP (head8 w) ∧ allP smallP (head5 w) ∧ smallP (w.call.text.length : Int) := by
  have := headW_small h
  refine ⟨fun x hx => this x ?_, fun x hx => this x ?_, this _ ?_⟩
  · simp only [head8, headW, List.mem_cons, List.not_mem_nil, or_false] at hx ⊢
    rcases hx with rfl | rfl | rfl | rfl | rfl | rfl | rfl | rfl <;> simp
  · simp only [head5, headW, List.mem_cons, List.not_mem_nil, or_false] at hx ⊢
    rcases hx with rfl | rfl | rfl | rfl | rfl <;> simp
  · simp [headW]

theorem errV_is {e : Option (Nat × Int)} {f : Value → Prop} : ieqK false true (errV e) .nilIface f = f (.bool e.isNone) := by
  cases e with
  | none => rw [errV_n, ieqK_1]; simp
  | some p => obtain ⟨a, b⟩ := p; rw [errV_s, ieqK_3]; simp

/-- A word's first numbers. -/
def D8 (ys : List Int) : DWord := { zWord with kind := ys.getD 0 0, from_ := ys.getD 1 0, to := ys.getD 2 0, stamp := ys.getD 3 0, try_ := ys.getD 4 0, what := ys.getD 5 0, code := ys.getD 7 0 }
def D5 (d : DWord) (ys : List Int) : DWord := { d with call := { session := ys.getD 0 0, number := ys.getD 1 0, kind := ys.getD 2 0, text := [], slot := ys.getD 3 0, to := ys.getD 4 0 } }
theorem D8_nil : D8 [] = zWord := rfl
theorem D5_nil (ys : List Int) : D5 (D8 ys) [] = D8 ys := rfl

theorem ar1 {n i : Nat} (h : (0 : Int) < ((n - i : Nat) : Int)) : i < n := by omega
theorem ar1' {n i : Nat} (h : ((n - i : Nat) : Int) ≤ 0) (hi : i ≤ n) : i = n := by omega
theorem ar2 {n i : Nat} (h : i < n) : n - (i + 1) < n - i := by omega
theorem ar3 {n i : Nat} (h : i < n) (hn : n ≤ 1099511627776) : IntKind.i64.wrap (((n - i : Nat) : Int) - 1) = ((n - (i + 1) : Nat) : Int) := by
  rw [wrapI _ (by omega)]; omega
theorem ar4 {a b i n : Nat} (ha : a = i) (h : i < n) (hn : n ≤ 1099511627776) (hb : b ≤ 16) : (a + 1) * b ≤ 140737488355328 := by
  have : (a + 1) * b ≤ (a + 1) * 16 := Nat.mul_le_mul_left _ hb
  omega
theorem ar5 {a i n : Nat} (ha : a = i) (h : i < n) (hn : n ≤ 1099511627776) : a + 1 ≤ 140737488355328 := by omega
theorem ar6 {a b : Nat} (h : b ≤ a) (h2 : (a : Int) < b) : False := by omega

theorem implWord_c {h0 : H} {j : Nat} {bv : Value} {l : List UInt8} (hj : hget h0 j = none) (rb : rBytes h0 bv l) (hl : l.length ≤ 1099511627776) {R : Ending → H → Prop}
    (k : ∀ w s p v gs gp gv (at' : Nat) (e' : Option (Nat × Int)), oWord 3 69 3 w s p v gs gp gv → Dj gs ((j, blk (cu bv at' (errV e')) 54) :: h0) → Dj gp ((j, blk (cu bv at' (errV e')) 54) :: h0) → Dj gv ((j, blk (cu bv at' (errV e')) 54) :: h0) →
      wLen w → okE e' → (∀ w0, wordP w0 → l = pack w0 → w = w0 ∧ e' = none) → R (.returned (.agg (cWord w s p v).toArray)) (gs ++ (gp ++ (gv ++ ((j, blk (cu bv at' (errV e')) 54) :: h0))))) :
    HCalls Try.prog 28 #[.pointer (some ⟨j, 0, none⟩)] ((j, blk (cu bv 0 (errV none)) 54) :: h0) R := by
  refine HCalls_ir (args := [.pointer (some ⟨j, 0, none⟩)]) Try.func28 ir28 ?_
  have zw := zWord_eq
  simp only [str] at zw
  obtain ⟨N, hN⟩ : ∃ N, N = Value.slice none 0 0 := ⟨_, rfl⟩
  have one : vone N = true := by rw [hN]; rfl
  simp only [walk, lists, acts, mem, plain, seqs, maps, cells, resL, resV, intBin, ↓reduceIte, Nat.reduceAdd, Nat.reduceSub, Nat.reduceMul, Nat.reduceLeDiff, Nat.reduceEqDiff, Int.reduceToNat, Int.reduceEq, Int.reduceLT, Int.reduceLE, Int.reduceNeg, Int.reduceAdd, Int.reduceSub, Int.reduceMul, Nat.reducePow, Int.reduceNegSucc, w_cu, str, zw]
  rw [← hN]
  refine newB_intro fun j2 hj2 => ?_
  have n2 := fresh hj2
  obtain ⟨Z, hZ⟩ : ∃ Z, Z = blk (cWord zWord N N N) 28 := ⟨_, rfl⟩
  simp only [walk, lists, acts, mem, plain, seqs, maps, cells, resL, resV, intBin, ↓reduceIte, Nat.reduceAdd, Nat.reduceSub, Nat.reduceMul, Nat.reduceLeDiff, Nat.reduceEqDiff, Int.reduceToNat, Int.reduceEq, Int.reduceLT, Int.reduceLE, Int.reduceNeg, Int.reduceAdd, Int.reduceSub, Int.reduceMul, Nat.reducePow, Int.reduceNegSucc, w_cu, zw]
  refine newB_intro (o := blk (cWord zWord N N N) 28) fun j3 hj3 => ?_
  have n3 := fresh hj3
  have o3 := fresh n3.2.2
  simp only [walk, lists, acts, mem, plain, seqs, maps, cells, resL, resV, intBin, ↓reduceIte, Nat.reduceAdd, Nat.reduceSub, Nat.reduceMul, Nat.reduceLeDiff, Nat.reduceEqDiff, Int.reduceToNat, Int.reduceEq, Int.reduceLT, Int.reduceLE, Int.reduceNeg, Int.reduceAdd, Int.reduceSub, Int.reduceMul, Nat.reducePow, Int.reduceNegSucc, w_cu]
  refine newB_intro fun j4 hj4 => ?_
  have n4 := fresh hj4
  have o4 := fresh n4.2.2
  have p4 := fresh o4.2.2
  simp only [walk, lists, acts, mem, plain, seqs, maps, cells, resL, resV, intBin, ↓reduceIte, Nat.reduceAdd, Nat.reduceSub, Nat.reduceMul, Nat.reduceLeDiff, Nat.reduceEqDiff, Int.reduceToNat, Int.reduceEq, Int.reduceLT, Int.reduceLE, Int.reduceNeg, Int.reduceAdd, Int.reduceSub, Int.reduceMul, Nat.reducePow, Int.reduceNegSucc, w_cu]
  refine newB_intro (o := blk (fl ePt [(j3, 0), (j3, 1), (j3, 2), (j3, 3), (j3, 4), (j3, 5), (j4, 0), (j3, 9)]) 106) fun j5 hj5 => ?_
  have n5 := fresh hj5
  have o5 := fresh n5.2.2
  have p5 := fresh o5.2.2
  have q5 := fresh p5.2.2
  simp only [walk, lists, acts, mem, plain, seqs, maps, cells, resL, resV, intBin, ↓reduceIte, Nat.reduceAdd, Nat.reduceSub, Nat.reduceMul, Nat.reduceLeDiff, Nat.reduceEqDiff, Int.reduceToNat, Int.reduceEq, Int.reduceLT, Int.reduceLE, Int.reduceNeg, Int.reduceAdd, Int.reduceSub, Int.reduceMul, Nat.reducePow, Int.reduceNegSucc, w_cu]
  rw [← hZ]
  obtain ⟨M, hM⟩ : ∃ M : List Int → H, M = fun ys => (j5, blk (fl ePt [(j3, 0), (j3, 1), (j3, 2), (j3, 3), (j3, 4), (j3, 5), (j4, 0), (j3, 9)]) 106) :: (j4, blk [.int .i64 (ys.getD 6 0)] 3) :: (j3, blk (cWord (D8 ys) N N N) 28) :: (j2, Z) :: h0 := ⟨_, rfl⟩
  have Mj : ∀ ys, hget (M ys) j = none := fun ys => by rw [hM]; simp only [subs, n2, n3, o3, n4, o4, p4, n5, o5, p5, q5, hj]
  have Ms : ∀ ys, Tk.Sub h0 (M ys) := fun ys => by rw [hM]; (repeat' first | exact Sub.refl _ | exact Sub.nil _ | assumption | refine Sub.both ?_ ?_ | refine Sub.cons_of (by simp only [subs, n2, n3, o3, n4, o4, p4, n5, o5, p5, q5]) ?_ | exact Sub.left _ _ | refine Sub.app (by simp only [subs, n2, n3, o3, n4, o4, p4, n5, o5, p5, q5]) ?_ | refine Sub.cons (by simp only [subs, n2, n3, o3, n4, o4, p4, n5, o5, p5, q5]) ?_)
  have Ml : ∀ ys, rLs (M ys) ePt 1 (.slice (some ⟨j5, 0, none⟩) 8 8) [(j3, 0), (j3, 1), (j3, 2), (j3, 3), (j3, 4), (j3, 5), (j4, 0), (j3, 9)] := fun ys => by rw [hM]; exact rL_lit ePt_len [(j3, 0), (j3, 1), (j3, 2), (j3, 3), (j3, 4), (j3, 5), (j4, 0), (j3, 9)]
  have Mw : ∀ (ys : List Int) z (h : ys.length < [(j3, 0), (j3, 1), (j3, 2), (j3, 3), (j3, 4), (j3, 5), (j4, 0), (j3, 9)].length), ([(j3, 0), (j3, 1), (j3, 2), (j3, 3), (j3, 4), (j3, 5), (j4, 0), (j3, 9)][ys.length].1 ≠ j) ∧ hwrite (M ys) [(j3, 0), (j3, 1), (j3, 2), (j3, 3), (j3, 4), (j3, 5), (j4, 0), (j3, 9)][ys.length].1 [(j3, 0), (j3, 1), (j3, 2), (j3, 3), (j3, 4), (j3, 5), (j4, 0), (j3, 9)][ys.length].2 [.int .i64 z] = some (M (ys ++ [z])) := fun ys z h => by
    rw [hM]
    rcases ys with _ | ⟨y0, _ | ⟨y1, _ | ⟨y2, _ | ⟨y3, _ | ⟨y4, _ | ⟨y5, _ | ⟨y6, _ | ⟨y7, ys⟩⟩⟩⟩⟩⟩⟩⟩
    all_goals first
      | (exfalso; simp at h; done)
      | (exfalso; simp at h; omega)
      | (refine ⟨by simp [o3.2.1, p4.2.1], ?_⟩
         simp [mem, wWord, maps, cells, D8, n5.1, n5.2.1, o5.1, o5.2.1, n4.1, n4.2.1])
  refine (into_c (M := M) (e := none) (at_ := 0) Mj (fun ys => rb.sub (Ms ys)) Ml Mw hl (by simp) (by omega) (fun _ _ h => by cases h) fun ys at1 e1 hy1 ha1 he1 _ ex1 => ?_).weaken (by rw [hM, hZ]; simp only [D8_nil, List.getD_nil]; (repeat' first | exact Sub.refl _ | exact Sub.nil _ | assumption | refine Sub.both ?_ ?_ | refine Sub.cons_of (by simp only [subs, n2, n3, o3, n4, o4, p4, n5, o5, p5, q5, hj]) ?_ | exact Sub.left _ _ | refine Sub.app (by simp only [subs, n2, n3, o3, n4, o4, p4, n5, o5, p5, q5, hj]) ?_ | refine Sub.cons (by simp only [subs, n2, n3, o3, n4, o4, p4, n5, o5, p5, q5, hj]) ?_))
  obtain ⟨y0, y1, y2, y3, y4, y5, y6, y7, rfl⟩ := list8 (by simpa using hy1)
  simp only [walk, lists, acts, mem, plain, seqs, maps, cells, resL, resV, intBin, ↓reduceIte, Nat.reduceAdd, Nat.reduceSub, Nat.reduceMul, Nat.reduceLeDiff, Nat.reduceEqDiff, Int.reduceToNat, Int.reduceEq, Int.reduceLT, Int.reduceLE, Int.reduceNeg, Int.reduceAdd, Int.reduceSub, Int.reduceMul, Nat.reducePow, Int.reduceNegSucc, w_cu]
  refine newB_intro (o := blk (fl ePt [(j3, 11), (j3, 12), (j3, 13), (j3, 15), (j3, 16)]) 106) fun j6 hj6 => ?_
  have n6 := fresh hj6
  rw [hM] at n6
  have o6 := fresh n6.2.2
  have p6 := fresh o6.2.2
  have q6 := fresh p6.2.2
  have r6 := fresh q6.2.2
  simp only [walk, lists, acts, mem, plain, seqs, maps, cells, resL, resV, intBin, ↓reduceIte, Nat.reduceAdd, Nat.reduceSub, Nat.reduceMul, Nat.reduceLeDiff, Nat.reduceEqDiff, Int.reduceToNat, Int.reduceEq, Int.reduceLT, Int.reduceLE, Int.reduceNeg, Int.reduceAdd, Int.reduceSub, Int.reduceMul, Nat.reducePow, Int.reduceNegSucc, w_cu]
  obtain ⟨D, hD⟩ : ∃ D, D = D8 [y0, y1, y2, y3, y4, y5, y6, y7] := ⟨_, rfl⟩
  rw [hM]
  simp only [← hD]
  obtain ⟨M2, hM2⟩ : ∃ M2 : List Int → H, M2 = fun ys => (j6, blk (fl ePt [(j3, 11), (j3, 12), (j3, 13), (j3, 15), (j3, 16)]) 106) :: (j4, blk [.int .i64 y6] 3) :: (j3, blk (cWord (D5 D ys) N N N) 28) :: (j2, Z) :: h0 := ⟨_, rfl⟩
  have M2j : ∀ ys, hget (M2 ys) j = none := fun ys => by rw [hM2]; simp only [subs, n2, n3, o3, n4, o4, p4, n6, o6, p6, q6, r6, hj]
  have M2s : ∀ ys, Tk.Sub h0 (M2 ys) := fun ys => by rw [hM2]; (repeat' first | exact Sub.refl _ | exact Sub.nil _ | assumption | refine Sub.both ?_ ?_ | refine Sub.cons_of (by simp only [subs, n2, n3, o3, n4, o4, p4, n6, o6, p6, q6, r6]) ?_ | exact Sub.left _ _ | refine Sub.app (by simp only [subs, n2, n3, o3, n4, o4, p4, n6, o6, p6, q6, r6]) ?_ | refine Sub.cons (by simp only [subs, n2, n3, o3, n4, o4, p4, n6, o6, p6, q6, r6]) ?_)
  have M2l : ∀ ys, rLs (M2 ys) ePt 1 (.slice (some ⟨j6, 0, none⟩) 5 5) [(j3, 11), (j3, 12), (j3, 13), (j3, 15), (j3, 16)] := fun ys => by rw [hM2]; exact rL_lit ePt_len [(j3, 11), (j3, 12), (j3, 13), (j3, 15), (j3, 16)]
  have M2w : ∀ (ys : List Int) z (h : ys.length < [(j3, 11), (j3, 12), (j3, 13), (j3, 15), (j3, 16)].length), ([(j3, 11), (j3, 12), (j3, 13), (j3, 15), (j3, 16)][ys.length].1 ≠ j) ∧ hwrite (M2 ys) [(j3, 11), (j3, 12), (j3, 13), (j3, 15), (j3, 16)][ys.length].1 [(j3, 11), (j3, 12), (j3, 13), (j3, 15), (j3, 16)][ys.length].2 [.int .i64 z] = some (M2 (ys ++ [z])) := fun ys z h => by
    rw [hM2]
    rcases ys with _ | ⟨z0, _ | ⟨z1, _ | ⟨z2, _ | ⟨z3, _ | ⟨z4, ys⟩⟩⟩⟩⟩
    all_goals first
      | (exfalso; simp at h; done)
      | (exfalso; simp at h; omega)
      | (refine ⟨by simp [o3.2.1], ?_⟩
         simp [mem, wWord, maps, cells, D5, n4.1, n4.2.1, p6.1, p6.2.1, q6.1, q6.2.1])
  have D5n : D5 D [] = D := by rw [hD]; rfl
  refine (into_c (M := M2) (e := e1) (at_ := at1) M2j (fun ys => rb.sub (M2s ys)) M2l M2w hl (by simp) ha1 he1 fun zs at2 e2 hz2 ha2 he2 hn2 ex2 => ?_).weaken (by rw [hM2]; simp only [D5n, List.getD_cons_succ, List.getD_cons_zero]; (repeat' first | exact Sub.refl _ | exact Sub.nil _ | assumption | refine Sub.both ?_ ?_ | refine Sub.cons_of (by simp only [subs, n2, n3, o3, n4, o4, p4, n5, o5, p5, q5, n6, o6, p6, q6, r6, hj]) ?_ | exact Sub.left _ _ | refine Sub.app (by simp only [subs, n2, n3, o3, n4, o4, p4, n5, o5, p5, q5, n6, o6, p6, q6, r6, hj]) ?_ | refine Sub.cons (by simp only [subs, n2, n3, o3, n4, o4, p4, n5, o5, p5, q5, n6, o6, p6, q6, r6, hj]) ?_))
  obtain ⟨z0, z1, z2, z3, z4, rfl⟩ := list5 (by simpa using hz2)
  rw [hM2]
  obtain ⟨E, hE⟩ : ∃ E, E = D5 D [z0, z1, z2, z3, z4] := ⟨_, rfl⟩
  simp only [← hE]
  simp only [walk, lists, acts, mem, plain, seqs, maps, cells, resL, resV, intBin, ↓reduceIte, Nat.reduceAdd, Nat.reduceSub, Nat.reduceMul, Nat.reduceLeDiff, Nat.reduceEqDiff, Int.reduceToNat, Int.reduceEq, Int.reduceLT, Int.reduceLE, Int.reduceNeg, Int.reduceAdd, Int.reduceSub, Int.reduceMul, Nat.reducePow, Int.reduceNegSucc, w_cu]
  have Bj : ∀ o, hget ((j4, blk [.int .i64 y6] 3) :: (j3, o) :: (j2, Z) :: h0) j = none := fun o => by simp only [subs, n2, n3, o3, n4, o4, p4, hj]
  have Bb : ∀ o, rBytes ((j4, blk [.int .i64 y6] 3) :: (j3, o) :: (j2, Z) :: h0) bv l := fun o => rb.sub (by (repeat' first | exact Sub.refl _ | exact Sub.nil _ | assumption | refine Sub.both ?_ ?_ | refine Sub.cons_of (by simp only [subs, n2, n3, o3, n4, o4, p4, hj]) ?_ | exact Sub.left _ _ | refine Sub.app (by simp only [subs, n2, n3, o3, n4, o4, p4, hj]) ?_ | refine Sub.cons (by simp only [subs, n2, n3, o3, n4, o4, p4, hj]) ?_))
  refine (implText_c (at_ := at2) (e := e2) (Bj (blk (cWord E N N N) 28)) (Bb _) hl ha2 he2 fun s2 at3 e3 ha3 hs3 he3 hn3 ex3 => ?_).weaken (by (repeat' first | exact Sub.refl _ | exact Sub.nil _ | assumption | refine Sub.both ?_ ?_ | refine Sub.cons_of (by simp only [subs, n2, n3, o3, n4, o4, p4, n6, o6, p6, q6, r6, hj]) ?_ | exact Sub.left _ _ | refine Sub.app (by simp only [subs, n2, n3, o3, n4, o4, p4, n6, o6, p6, q6, r6, hj]) ?_ | refine Sub.cons (by simp only [subs, n2, n3, o3, n4, o4, p4, n6, o6, p6, q6, r6, hj]) ?_))
  simp only [walk, lists, acts, mem, plain, seqs, maps, cells, resL, resV, intBin, ↓reduceIte, Nat.reduceAdd, Nat.reduceSub, Nat.reduceMul, Nat.reduceLeDiff, Nat.reduceEqDiff, Int.reduceToNat, Int.reduceEq, Int.reduceLT, Int.reduceLE, Int.reduceNeg, Int.reduceAdd, Int.reduceSub, Int.reduceMul, Nat.reducePow, Int.reduceNegSucc, w_cu, wWord, n4, o3]
  obtain ⟨F, hF⟩ : ∃ F : DWord, F = { E with call := { E.call with text := s2 } } := ⟨_, rfl⟩
  rw [← hF]
  refine counted_c (Bj _) (Bb _) hl ha3 he3 fun V4 g4 xs4 at4 e4 o4' d4 hx4 ha4 he4 hn4 ex4 => ?_
  have d4' := d4.symm
  have f4 := d4
  simp only [subs] at f4 d4'
  have one4 := o4'.rd.one
  have vc4 := vcells_one one4
  simp only [walk, lists, acts, mem, plain, seqs, maps, cells, resL, resV, intBin, ↓reduceIte, Nat.reduceAdd, Nat.reduceSub, Nat.reduceMul, Nat.reduceLeDiff, Nat.reduceEqDiff, Int.reduceToNat, Int.reduceEq, Int.reduceLT, Int.reduceLE, Int.reduceNeg, Int.reduceAdd, Int.reduceSub, Int.reduceMul, Nat.reducePow, Int.reduceNegSucc, w_cu, wWord, apps, f4, n4, o3, one4, vc4]
  refine (counted_c (j := j) (at_ := at4) (e := e4) (h0 := g4 ++ ((j4, blk [.int .i64 y6] 3) :: (j3, blk (cWord F V4 N N) 28) :: (j2, Z) :: h0)) (by simp only [subs, f4, n2, n3, o3, n4, o4, p4, hj]) ((Bb _).sub (by (repeat' first | exact Sub.refl _ | exact Sub.nil _ | assumption | refine Sub.both ?_ ?_ | refine Sub.cons_of (by simp only [subs, f4, n2, n3, o3, n4, o4, p4]) ?_ | exact Sub.left _ _ | refine Sub.app (by simp only [subs, f4, n2, n3, o3, n4, o4, p4]) ?_ | refine Sub.cons (by simp only [subs, f4, n2, n3, o3, n4, o4, p4]) ?_))) hl ha4 he4 fun V5 g5 xs5 at5 e5 o5' d5 hx5 ha5 he5 hn5 ex5 => ?_).weaken (by (repeat' first | exact Sub.refl _ | exact Sub.nil _ | assumption | refine Sub.both ?_ ?_ | refine Sub.cons_of (by simp only [subs, f4, d4', n2, n3, o3, n4, o4, p4, hj]) ?_ | exact Sub.left _ _ | refine Sub.app (by simp only [subs, f4, d4', n2, n3, o3, n4, o4, p4, hj]) ?_ | refine Sub.cons (by simp only [subs, f4, d4', n2, n3, o3, n4, o4, p4, hj]) ?_))
  have d5' := d5.symm
  have f5 := d5
  simp only [subs] at f5 d5'
  have one5 := o5'.rd.one
  have vc5 := vcells_one one5
  simp only [walk, lists, acts, mem, plain, seqs, maps, cells, resL, resV, intBin, ↓reduceIte, Nat.reduceAdd, Nat.reduceSub, Nat.reduceMul, Nat.reduceLeDiff, Nat.reduceEqDiff, Int.reduceToNat, Int.reduceEq, Int.reduceLT, Int.reduceLE, Int.reduceNeg, Int.reduceAdd, Int.reduceSub, Int.reduceMul, Nat.reducePow, Int.reduceNegSucc, w_cu, wWord, apps, f4, f5, n4, o3, one5, vc5]
  obtain ⟨hC, ehC⟩ : ∃ hC : Value → H, hC = fun q => g5 ++ (g4 ++ ((j4, blk [.int .i64 y6] 3) :: (j3, blk (cWord F V4 q V5) 28) :: (j2, Z) :: h0)) := ⟨_, rfl⟩
  have hCj : ∀ q, hget (hC q) j = none := fun q => by rw [ehC]; simp only [subs, f4, f5, n2, n3, o3, n4, o4, p4, hj]
  have hCl : ∀ q, rBytes (hC q) bv l := fun q => by rw [ehC]; exact (Bb _).sub (by (repeat' first | exact Sub.refl _ | exact Sub.nil _ | assumption | refine Sub.both ?_ ?_ | refine Sub.cons_of (by simp only [subs, f4, f5, d4', d5', n2, n3, o3, n4, o4, p4]) ?_ | exact Sub.left _ _ | refine Sub.app (by simp only [subs, f4, f5, d4', d5', n2, n3, o3, n4, o4, p4]) ?_ | refine Sub.cons (by simp only [subs, f4, f5, d4', d5', n2, n3, o3, n4, o4, p4]) ?_))
  refine (count_c (at_ := at5) (e := e5) (h0 := hC N) (hCj N) (hCl N) hl ha5 he5 fun n at6 e6 ha6 hn6 he6 hen6 ex6 => ?_).weaken (by rw [ehC]; (repeat' first | exact Sub.refl _ | exact Sub.nil _ | assumption | refine Sub.both ?_ ?_ | refine Sub.cons_of (by simp only [subs, n2, n3, o3, n4, o4, p4, hj, f4, d4', f5, d5']) ?_ | exact Sub.left _ _ | refine Sub.app (by simp only [subs, n2, n3, o3, n4, o4, p4, hj, f4, d4', f5, d5']) ?_ | refine Sub.cons (by simp only [subs, n2, n3, o3, n4, o4, p4, hj, f4, d4', f5, d5']) ?_))
  have X1 : ∀ w0, wordP w0 → l = pack w0 → [y0, y1, y2, y3, y4, y5, y6, y7] = head8 w0 ∧ l.drop at1 = encIs (head5 w0) ++ (encI (w0.call.text.length : Int) ++ (w0.call.text ++ restT w0)) ∧ e1 = none := fun w0 ok e =>
    ex1 rfl (head8 w0) _ rfl (head_small ok).1 (by rw [e, List.drop_zero, pack_cut])
  have X2 : ∀ w0, wordP w0 → l = pack w0 → [z0, z1, z2, z3, z4] = head5 w0 ∧ l.drop at2 = encI (w0.call.text.length : Int) ++ (w0.call.text ++ restT w0) ∧ e2 = none := fun w0 ok e => by
    obtain ⟨_, b, c⟩ := X1 w0 ok e
    exact ex2 c (head5 w0) _ rfl (head_small ok).2.1 b
  have X3 : ∀ w0, wordP w0 → l = pack w0 → s2 = w0.call.text ∧ l.drop at3 = restT w0 ∧ e3 = none := fun w0 ok e => by
    obtain ⟨_, b, c⟩ := X2 w0 ok e
    exact ex3 c _ _ b (by have := (head_small ok).2.2.2; omega)
  have X4 : ∀ w0, wordP w0 → l = pack w0 → xs4 = w0.slots ∧ l.drop at4 = restS w0 ∧ e4 = none := fun w0 ok e => by
    obtain ⟨_, b, c⟩ := X3 w0 ok e
    exact ex4 c w0.slots _ (by have := slotsP_len ok.2.2.2.2.2.2.1; omega) (slotsP_small ok.2.2.2.2.2.2.1) b
  have X5 : ∀ w0, wordP w0 → l = pack w0 → xs5 = w0.vals ∧ l.drop at5 = restV w0 ∧ e5 = none := fun w0 ok e => by
    obtain ⟨_, b, c⟩ := X4 w0 ok e
    exact ex5 c w0.vals _ (by have := ok.2.2.2.2.2.2.2.2.2.1.1; omega) (valsP_small ok.2.2.2.2.2.2.2.2.2.1) b
  have X6 : ∀ w0, wordP w0 → l = pack w0 → n = w0.pairs.length ∧ l.drop at6 = encIs (flatP w0.pairs) ∧ e6 = none := fun w0 ok e => by
    obtain ⟨_, b, c⟩ := X5 w0 ok e
    rw [restV, encIs_cons] at b
    exact ex6 c _ _ b (by have := ok.2.2.2.2.2.2.2.1.1; omega) (by have := encIs_ge (flatP w0.pairs); rw [flatP_len] at this; omega)
  simp only [walk, lists, acts, mem, plain, seqs, maps, cells, resL, resV, intBin, ↓reduceIte, Nat.reduceAdd, Nat.reduceSub, Nat.reduceMul, Nat.reduceLeDiff, Nat.reduceEqDiff, Int.reduceToNat, Int.reduceEq, Int.reduceLT, Int.reduceLE, Int.reduceNeg, Int.reduceAdd, Int.reduceSub, Int.reduceMul, Nat.reducePow, Int.reduceNegSucc, w_cu]
  refine vc_loop [5] (fun n' vs h' => ∃ (i : Nat) (pv : Value) (gp : H) (ps : List (Int × Int)) (at' : Nat) (e' : Option (Nat × Int)), vs = [.int .i64 ((n - i : Nat) : Int)] ∧ h' = gp ++ ((j, blk (cu bv at' (errV e')) 54) :: hC pv) ∧ (∀ q, Dj gp ((j, blk (cu bv at' (errV e')) 54) :: hC q)) ∧ oLs 69 eP 2 pv ps gp ∧
    ps.length = i ∧ i ≤ n ∧ at' ≤ l.length ∧ okE e' ∧ n' = n - i ∧ (∀ w0, wordP w0 → l = pack w0 → e' = none ∧ n = w0.pairs.length ∧ ps = w0.pairs.take i ∧ l.drop at' = encIs (flatP (w0.pairs.drop i)))) n rfl
    ⟨0, N, [], [], at6, e6, rfl, rfl, fun q => Dj.nil _, by rw [hN]; exact ows.nil _ _, rfl, by omega, ha6, he6, rfl, fun w0 ok e => by
      obtain ⟨a, b, c⟩ := X6 w0 ok e
      exact ⟨c, a, by simp, by simpa using b⟩⟩ ?_
  rintro n' f h' ⟨i, pv, gp, ps, at', e', hv, rfl, dp, op, hpl, hi, ha', he', rfl, ex⟩
  simp only [List.map_cons, List.map_nil, List.cons.injEq, and_true] at hv
  have dp1 := dp pv
  have dp2 := dp1.symm
  simp only [subs] at dp1 dp2
  simp only [walk, lists, acts, mem, plain, seqs, maps, cells, resL, resV, intBin, ↓reduceIte, Nat.reduceAdd, Nat.reduceSub, Nat.reduceMul, Nat.reduceLeDiff, Nat.reduceEqDiff, Int.reduceToNat, Int.reduceEq, Int.reduceLT, Int.reduceLE, Int.reduceNeg, Int.reduceAdd, Int.reduceSub, Int.reduceMul, Nat.reducePow, Int.reduceNegSucc, wr, hv, w_cu, apps, dp1, errV_is, Bool.or_true, Bool.true_or]
  have dpx := dp pv
  rw [ehC] at dpx
  have dpx2 := dpx.symm
  simp only [subs] at dpx dpx2
  have onep := op.rd.one
  have fin : (i = n ∨ e'.isNone ≠ true) → ∀ w0, wordP w0 → l = pack w0 → ps = w0.pairs ∧ l.length ≤ at' ∧ e' = none := fun hd w0 ok e => by
    obtain ⟨a, b, c, d⟩ := ex w0 ok e
    rcases hd with hd | hd
    · rw [List.take_of_length_le (by omega)] at c
      rw [show w0.pairs.drop i = [] from List.drop_eq_nil_of_le (by omega), flatP_nil, encIs_nil] at d
      exact ⟨c, List.drop_eq_nil_iff.1 d, a⟩
    · rw [a] at hd; exact absurd rfl hd
  obtain ⟨G, hG⟩ : ∃ G : DWord, G = { F with yes := decide (y6 = 1) } := ⟨_, rfl⟩
  have res : ∀ at2 e2, at2 ≤ l.length → okE e2 → (i = n ∨ e'.isNone ≠ true) → (l.length ≤ at' → e' = none → e2 = none) → ∀ m, Tk.Sub (g4 ++ (gp ++ (g5 ++ ((j, blk (cu bv at2 (errV e2)) 54) :: h0)))) m → dP R (.returned (.agg (cWord G V4 pv V5).toArray)) m := fun at2 e2 ha2 he2 hd hx m hm =>
    ⟨_, hm, k { G with slots := xs4, pairs := ps, vals := xs5 } V4 pv V5 g4 gp g5 at2 e2 ⟨o4', op, o5', dpx2.2.2.1, d5'.2.1, dpx.2.1⟩ (by simp only [subs, f4]) (by simp only [subs, dpx]) (by simp only [subs, f5]) ⟨by show xs4.length ≤ _; omega, by show ps.length ≤ _; omega, by show xs5.length ≤ _; omega⟩ he2 fun w0 ok e => by
      obtain ⟨h1, h2, h3⟩ := fin hd w0 ok e
      refine ⟨?_, hx h2 h3⟩
      have a1 := (X1 w0 ok e).1
      have a2 := (X2 w0 ok e).1
      have a3 := (X3 w0 ok e).1
      have a4 := (X4 w0 ok e).1
      have a5 := (X5 w0 ok e).1
      simp only [head8, List.cons.injEq, and_true] at a1
      simp only [head5, List.cons.injEq, and_true] at a2
      obtain ⟨b0, b1, b2, b3, b4, b5, b6, b7⟩ := a1
      obtain ⟨c0, c1, c2, c3, c4⟩ := a2
      have hy : decide (yesN w0.yes = 1) = w0.yes := by unfold yesN; cases w0.yes <;> rfl
      rw [hG, hF, hE, hD, h1, a3, a4, a5, b0, b1, b2, b3, b4, b5, b6, b7, c0, c1, c2, c3, c4, hy]
      rfl⟩
  have hnl : n ≤ 1099511627776 := Nat.le_trans hn6 (Nat.le_trans (Nat.sub_le _ _) hl)
  refine ite_lt (fun c1 => ite_pos (fun c2 => ?_) fun c2 => ?_) fun c1 => ?_
  · have A1 : i < n := ar1 c1
    have he0 : e' = none := by cases e' with
      | none => rfl
      | some p => cases c2
    subst he0
    refine newB_intro (o := blk (eP (0, 0)) 69) fun j7 hj7 => ?_
    have m7 := hj7
    rw [ehC] at m7
    simp only [subs] at m7
    simp only [walk, lists, acts, mem, plain, seqs, maps, cells, resL, resV, intBin, ↓reduceIte, Nat.reduceAdd, Nat.reduceSub, Nat.reduceMul, Nat.reduceLeDiff, Nat.reduceEqDiff, Int.reduceToNat, Int.reduceEq, Int.reduceLT, Int.reduceLE, Int.reduceNeg, Int.reduceAdd, Int.reduceSub, Int.reduceMul, Nat.reducePow, Int.reduceNegSucc, w_cu, zPair_eq]
    refine newB_intro (o := blk (fl ePt [(j7, 0), (j7, 1)]) 106) fun j8 hj8 => ?_
    have m8 := hj8
    rw [ehC] at m8
    simp only [subs] at m8
    simp only [walk, lists, acts, mem, plain, seqs, maps, cells, resL, resV, intBin, ↓reduceIte, Nat.reduceAdd, Nat.reduceSub, Nat.reduceMul, Nat.reduceLeDiff, Nat.reduceEqDiff, Int.reduceToNat, Int.reduceEq, Int.reduceLT, Int.reduceLE, Int.reduceNeg, Int.reduceAdd, Int.reduceSub, Int.reduceMul, Nat.reducePow, Int.reduceNegSucc, w_cu]
    have m78 : j4 ≠ j7 ∧ j4 ≠ j8 ∧ j2 ≠ j7 ∧ j2 ≠ j8 ∧ j7 ≠ j8 ∧ j ≠ j7 ∧ j ≠ j8 ∧ j3 ≠ j7 ∧ j3 ≠ j8 := ⟨Ne.symm m7.2.2.2.2.1, Ne.symm m8.2.2.2.2.2.1, Ne.symm m7.2.2.2.2.2.2.1, Ne.symm m8.2.2.2.2.2.2.2.1, Ne.symm m8.1, Ne.symm m7.2.1, Ne.symm m8.2.2.1, Ne.symm m7.2.2.2.2.2.1, Ne.symm m8.2.2.2.2.2.2.1⟩
    obtain ⟨M3, hM3⟩ : ∃ M3 : List Int → H, M3 = fun ys => (j8, blk (fl ePt [(j7, 0), (j7, 1)]) 106) :: (j7, blk (eP (ys.getD 0 0, ys.getD 1 0)) 69) :: (gp ++ hC pv) := ⟨_, rfl⟩
    have M3j : ∀ ys, hget (M3 ys) j = none := fun ys => by rw [hM3, ehC]; simp only [subs, dpx, f4, f5, n2, n3, o3, n4, o4, p4, hj, m78]
    have M3b : ∀ ys, rBytes (M3 ys) bv l := fun ys => (hCl pv).sub (by rw [hM3, ehC]; (repeat' first | exact Sub.refl _ | exact Sub.nil _ | assumption | refine Sub.both ?_ ?_ | refine Sub.cons_of (by simp only [subs, dpx, dpx2, f4, f5, d4', d5', n2, n3, o3, n4, o4, p4, hj, m7, m8, m78]) ?_ | exact Sub.left _ _ | refine Sub.app (by simp only [subs, dpx, dpx2, f4, f5, d4', d5', n2, n3, o3, n4, o4, p4, hj, m7, m8, m78]) ?_ | refine Sub.cons (by simp only [subs, dpx, dpx2, f4, f5, d4', d5', n2, n3, o3, n4, o4, p4, hj, m7, m8, m78]) ?_))
    have M3l : ∀ ys, rLs (M3 ys) ePt 1 (.slice (some ⟨j8, 0, none⟩) 2 2) [(j7, 0), (j7, 1)] := fun ys => by rw [hM3]; exact rL_lit ePt_len [(j7, 0), (j7, 1)]
    have M3w : ∀ (ys : List Int) z (h : ys.length < [(j7, 0), (j7, 1)].length), ([(j7, 0), (j7, 1)][ys.length].1 ≠ j) ∧ hwrite (M3 ys) [(j7, 0), (j7, 1)][ys.length].1 [(j7, 0), (j7, 1)][ys.length].2 [.int .i64 z] = some (M3 (ys ++ [z])) := fun ys z h => by
      rw [hM3]
      rcases ys with _ | ⟨z0, _ | ⟨z1, ys⟩⟩
      all_goals first
        | (exfalso; simp at h; done)
        | (exfalso; simp at h; omega)
        | (refine ⟨by simp [m7.2.1], ?_⟩
           simp [mem, wPair, maps, cells, m8.1, m78.2.2.2.2.1])
    refine (into_c (M := M3) (e := none) (at_ := at') M3j M3b M3l M3w hl (by simp) ha' he' fun zs at8 e8 hz8 ha8 he8 hn8 ex8 => ?_).weaken (by rw [hM3, ehC]; simp only [List.getD_nil]; (repeat' first | exact Sub.refl _ | exact Sub.nil _ | assumption | refine Sub.both ?_ ?_ | refine Sub.cons_of (by simp only [subs, dpx, dpx2, f4, f5, d4', d5', n2, n3, o3, n4, o4, p4, hj, m7, m8, m78]) ?_ | exact Sub.left _ _ | refine Sub.app (by simp only [subs, dpx, dpx2, f4, f5, d4', d5', n2, n3, o3, n4, o4, p4, hj, m7, m8, m78]) ?_ | refine Sub.cons (by simp only [subs, dpx, dpx2, f4, f5, d4', d5', n2, n3, o3, n4, o4, p4, hj, m7, m8, m78]) ?_))
    obtain ⟨ya, yb, rfl⟩ := list2 (by simpa using hz8)
    have rc8 : ∀ q, hcel (hC q) j3 8 = some q := fun q => by rw [ehC]; simp only [plain, apps, f4, f5, mem, wWord, n4]
    have wc8 : ∀ q x, hwrite (hC q) j3 8 [x] = some (hC x) := fun q x => by rw [ehC]; simp only [plain, apps, f4, f5, mem, wWord, maps, n4]; simp
    rw [hM3]
    simp only [List.getD_cons_succ, List.getD_cons_zero]
    simp only [walk, lists, acts, mem, plain, seqs, maps, cells, resL, resV, intBin, ↓reduceIte, Nat.reduceAdd, Nat.reduceSub, Nat.reduceMul, Nat.reduceLeDiff, Nat.reduceEqDiff, Int.reduceToNat, Int.reduceEq, Int.reduceLT, Int.reduceLE, Int.reduceNeg, Int.reduceAdd, Int.reduceSub, Int.reduceMul, Nat.reducePow, Int.reduceNegSucc, w_cu, wPair, apps, dpx, m78, m7.2.1, o3, rc8]
    refine newB_intro (o := blk (fl eP [(ya, yb)]) 69) fun j9 hj9 => ?_
    simp only [walk, lists, acts, mem, plain, seqs, maps, cells, resL, resV, intBin, ↓reduceIte, Nat.reduceAdd, Nat.reduceSub, Nat.reduceMul, Nat.reduceLeDiff, Nat.reduceEqDiff, Int.reduceToNat, Int.reduceEq, Int.reduceLT, Int.reduceLE, Int.reduceNeg, Int.reduceAdd, Int.reduceSub, Int.reduceMul, Nat.reducePow, Int.reduceNegSucc]
    have sGP : Tk.Sub gp ((j9, blk (fl eP [(ya, yb)]) 69) :: (j, blk (cu bv at8 (errV e8)) 54) :: (j8, blk (fl ePt [(j7, 0), (j7, 1)]) 106) :: (j7, blk (eP (ya, yb)) 69) :: (gp ++ hC pv)) := .cons hj9 (by rw [ehC]; (repeat' first | exact Sub.refl _ | exact Sub.nil _ | assumption | refine Sub.both ?_ ?_ | refine Sub.cons_of (by simp only [subs, dpx, dpx2, f4, f5, d4', d5', n2, n3, o3, n4, o4, p4, hj, m7, m8, m78]) ?_ | exact Sub.left _ _ | refine Sub.app (by simp only [subs, dpx, dpx2, f4, f5, d4', d5', n2, n3, o3, n4, o4, p4, hj, m7, m8, m78]) ?_ | refine Sub.cons (by simp only [subs, dpx, dpx2, f4, f5, d4', d5', n2, n3, o3, n4, o4, p4, hj, m7, m8, m78]) ?_))
    have sHR : Tk.Sub ((j, blk (cu bv at8 (errV e8)) 54) :: hC pv) ((j9, blk (fl eP [(ya, yb)]) 69) :: (j, blk (cu bv at8 (errV e8)) 54) :: (j8, blk (fl ePt [(j7, 0), (j7, 1)]) 106) :: (j7, blk (eP (ya, yb)) 69) :: (gp ++ hC pv)) := by
      refine .cons hj9 (.cons2 ?_)
      rw [ehC]
      (repeat' first | exact Sub.refl _ | exact Sub.nil _ | assumption | refine Sub.both ?_ ?_ | refine Sub.cons_of (by simp only [subs, dpx, dpx2, f4, f5, d4', d5', n2, n3, o3, n4, o4, p4, hj, m7, m8, m78]) ?_ | exact Sub.left _ _ | refine Sub.app (by simp only [subs, dpx, dpx2, f4, f5, d4', d5', n2, n3, o3, n4, o4, p4, hj, m7, m8, m78]) ?_ | refine Sub.cons (by simp only [subs, dpx, dpx2, f4, f5, d4', d5', n2, n3, o3, n4, o4, p4, hj, m7, m8, m78]) ?_)
    refine app_leaf (g := gp) (h := (j, blk (cu bv at8 (errV e8)) 54) :: hC pv) (M := (j9, blk (fl eP [(ya, yb)]) 69) :: (j, blk (cu bv at8 (errV e8)) 54) :: (j8, blk (fl ePt [(j7, 0), (j7, 1)]) 106) :: (j7, blk (eP (ya, yb)) 69) :: (gp ++ hC pv)) eP_len eP_one tPairs iPair (Sub.both sGP sHR) (by rw [ehC]; simp only [subs, dpx]) op (rL_lit eP_len [(ya, yb)]) (ar4 hpl A1 hnl (by decide)) (ar5 hpl A1 hnl) fun v6 g6 q6 d6 => ?_
    have d6x := d6
    rw [ehC] at d6x
    simp only [subs] at d6x
    have one6 := q6.rd.one
    have vc6 := vcells_one one6
    simp only [walk, lists, acts, mem, plain, seqs, maps, cells, resL, resV, intBin, ↓reduceIte, Nat.reduceAdd, Nat.reduceSub, Nat.reduceMul, Nat.reduceLeDiff, Nat.reduceEqDiff, Int.reduceToNat, Int.reduceEq, Int.reduceLT, Int.reduceLE, Int.reduceNeg, Int.reduceAdd, Int.reduceSub, Int.reduceMul, Nat.reducePow, Int.reduceNegSucc, apps, d6x, o3, wc8, one6, vc6]
    rw [ar3 A1 hnl]
    refine ⟨n - (i + 1), ar2 A1, _, .refl _, i + 1, v6, g6, _, at8, e8, rfl, rfl, fun q => by rw [ehC]; simp only [subs, d6x], q6, by simp [hpl], A1, ha8, he8, rfl, fun w0 ok e => ?_⟩
    obtain ⟨_, b, c, d⟩ := ex w0 ok e
    have hi2 : i < w0.pairs.length := b ▸ A1
    rw [List.drop_eq_getElem_cons hi2, flatP_cons] at d
    obtain ⟨g1, g2, g3⟩ := ex8 rfl [w0.pairs[i].1, w0.pairs[i].2] (encIs (flatP (w0.pairs.drop (i + 1)))) rfl (fun x hx => by
      have sm := pairsP_small ok.2.2.2.2.2.2.2.1 (List.getElem_mem hi2)
      simp only [List.mem_cons, List.not_mem_nil, or_false] at hx
      rcases hx with rfl | rfl
      · exact sm.1
      · exact sm.2) (by rw [d, encIs_cons, encIs_cons, encIs_cons, encIs_one]; simp)
    simp only [List.cons.injEq, and_true] at g1
    exact ⟨g3, b, by rw [take_app_one hi2, c, g1.1, g1.2], g2⟩
  all_goals
    have hd : i = n ∨ e'.isNone ≠ true := by first | exact .inr c2 | exact .inl (ar1' c1 hi)
    simp only [ehC, hZ]
    simp only [walk, lists, acts, mem, plain, seqs, maps, cells, resL, resV, intBin, ↓reduceIte, Nat.reduceAdd, Nat.reduceSub, Nat.reduceMul, Nat.reduceLeDiff, Nat.reduceEqDiff, Int.reduceToNat, Int.reduceEq, Int.reduceLT, Int.reduceLE, Int.reduceNeg, Int.reduceAdd, Int.reduceSub, Int.reduceMul, Nat.reducePow, Int.reduceNegSucc, apps, dpx, f4, f5, n2.1, n2.2.1, n3.1, n3.2.1, o3.1, o3.2.1, n4.1, n4.2.1, o4.1, o4.2.1, p4.1, p4.2.1, wWord, one4, one5, onep]
    rw [← hG]
    refine vc_draw _ (Sub.refl _) ?_
    simp only [walk, lists, acts, mem, plain, seqs, maps, cells, resL, resV, intBin, ↓reduceIte, Nat.reduceAdd, Nat.reduceSub, Nat.reduceMul, Nat.reduceLeDiff, Nat.reduceEqDiff, Int.reduceToNat, Int.reduceEq, Int.reduceLT, Int.reduceLE, Int.reduceNeg, Int.reduceAdd, Int.reduceSub, Int.reduceMul, Nat.reducePow, Int.reduceNegSucc, w_cu, apps, dpx, rb.len]
    refine ite_lt (fun c3 => ?_) fun c3 => ?_
    · refine (fail_c (bv := bv) (at_ := at') (h0 := gp ++ (g5 ++ (g4 ++ ((j4, blk [.int .i64 y6] 3) :: (j3, blk (cWord G V4 pv V5) 28) :: (j2, blk (cWord zWord N N N) 28) :: h0)))) (e := e') ?_).weaken (by (repeat' first | exact Sub.refl _ | exact Sub.nil _ | assumption | refine Sub.both ?_ ?_ | refine Sub.cons_of (by simp only [subs, dpx, dpx2, f4, f5, d4', d5', n2, n3, o3, n4, o4, p4, hj]) ?_ | exact Sub.left _ _ | refine Sub.app (by simp only [subs, dpx, dpx2, f4, f5, d4', d5', n2, n3, o3, n4, o4, p4, hj]) ?_ | refine Sub.cons (by simp only [subs, dpx, dpx2, f4, f5, d4', d5', n2, n3, o3, n4, o4, p4, hj]) ?_))
      simp only [walk, lists, acts, mem, plain, seqs, maps, cells, resL, resV, intBin, ↓reduceIte, Nat.reduceAdd, Nat.reduceSub, Nat.reduceMul, Nat.reduceLeDiff, Nat.reduceEqDiff, Int.reduceToNat, Int.reduceEq, Int.reduceLT, Int.reduceLE, Int.reduceNeg, Int.reduceAdd, Int.reduceSub, Int.reduceMul, Nat.reducePow, Int.reduceNegSucc, apps, dpx, f4, f5, n2.1, n2.2.1, n3.1, n3.2.1, o3.1, o3.2.1, n4.1, n4.2.1, o4.1, o4.2.1, p4.1, p4.2.1, wWord, one, one4, one5, onep]
      refine res at' (e'.or (some (at', 2))) ha' (fun a f h => ?_) hd (fun h => (ar6 h c3).elim) _ (by (repeat' first | exact Sub.refl _ | exact Sub.nil _ | assumption | refine Sub.both ?_ ?_ | refine Sub.cons_of (by simp only [subs, dpx, dpx2, f4, f5, d4', d5', n2, n3, o3, n4, o4, p4, hj]) ?_ | exact Sub.left _ _ | refine Sub.app (by simp only [subs, dpx, dpx2, f4, f5, d4', d5', n2, n3, o3, n4, o4, p4, hj]) ?_ | refine Sub.cons (by simp only [subs, dpx, dpx2, f4, f5, d4', d5', n2, n3, o3, n4, o4, p4, hj]) ?_))
      cases e' with
      | none => cases h; exact .inr rfl
      | some p => exact he' a f h
    · simp only [walk, lists, acts, mem, plain, seqs, maps, cells, resL, resV, intBin, ↓reduceIte, Nat.reduceAdd, Nat.reduceSub, Nat.reduceMul, Nat.reduceLeDiff, Nat.reduceEqDiff, Int.reduceToNat, Int.reduceEq, Int.reduceLT, Int.reduceLE, Int.reduceNeg, Int.reduceAdd, Int.reduceSub, Int.reduceMul, Nat.reducePow, Int.reduceNegSucc, apps, dpx, f4, f5, n2.1, n2.2.1, n3.1, n3.2.1, o3.1, o3.2.1, n4.1, n4.2.1, o4.1, o4.2.1, p4.1, p4.2.1, wWord, one, one4, one5, onep]
      exact res at' e' ha' he' hd (fun _ h => h) _ (by (repeat' first | exact Sub.refl _ | exact Sub.nil _ | assumption | refine Sub.both ?_ ?_ | refine Sub.cons_of (by simp only [subs, dpx, dpx2, f4, f5, d4', d5', n2, n3, o3, n4, o4, p4, hj]) ?_ | exact Sub.left _ _ | refine Sub.app (by simp only [subs, dpx, dpx2, f4, f5, d4', d5', n2, n3, o3, n4, o4, p4, hj]) ?_ | refine Sub.cons (by simp only [subs, dpx, dpx2, f4, f5, d4', d5', n2, n3, o3, n4, o4, p4, hj]) ?_))
end Go.Proofs.Ytllhdnfcneejaaa
