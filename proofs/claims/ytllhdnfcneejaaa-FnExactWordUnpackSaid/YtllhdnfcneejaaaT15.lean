/- How the reference reads words. -/
import Derived.Test.YtllhdnfcneejaaaT14
set_option linter.unusedVariables false
set_option linter.unusedSimpArgs false
set_option maxRecDepth 20000
attribute [local irreducible] Go.Tk.vc Go.Tk.vops Go.Tk.vdr Go.Tk.vop Go.Tk.vfl Go.Tk.HCalls
namespace Go.Proofs.Ytllhdnfcneejaaa
open Go Go.Tk

theorem list14 {l : List Int} (h : l.length = 14) : ∃ a0 a1 a2 a3 a4 a5 a6 a7 a8 a9 a10 a11 a12 a13, l = [a0, a1, a2, a3, a4, a5, a6, a7, a8, a9, a10, a11, a12, a13] := by
  match l, h with
  | [a0, a1, a2, a3, a4, a5, a6, a7, a8, a9, a10, a11, a12, a13], _ => exact ⟨_, _, _, _, _, _, _, _, _, _, _, _, _, _, rfl⟩
theorem list2 {l : List Int} (h : l.length = 2) : ∃ a0 a1, l = [a0, a1] := by
  match l, h with
  | [a0, a1], _ => exact ⟨_, _, rfl⟩

theorem vcells_one {v : Value} (h : vone v = true) : vcells v = [v] := by cases v <;> first | rfl | cases h
theorem ris_ge {l : List Int} (h0 : allP slotP l) (r : risP id l) : ∀ (i : Nat) (h : i < l.length), (i : Int) ≤ l[i] := by
  intro i
  induction i with
  | zero => intro h; have := (h0 _ (List.getElem_mem h)).1; omega
  | succ i ih =>
    intro h
    have h1 := ih (by omega)
    have h2 := r i h
    simp only [id] at h2
    omega
theorem slotsP_len {l : List Int} (h : slotsP l) : l.length ≤ 8 := by
  rcases Nat.lt_or_ge 8 l.length with c | c
  · have h1 := ris_ge h.1 h.2 8 c
    have h2 := (h.1 _ (List.getElem_mem c)).2
    omega
  · exact c
def restV (w : DWord) : List UInt8 := encIs ((w.pairs.length : Int) :: flatP w.pairs)
def restS (w : DWord) : List UInt8 := encIs ((w.vals.length : Int) :: w.vals) ++ restV w
def restT (w : DWord) : List UInt8 := encIs ((w.slots.length : Int) :: w.slots) ++ restS w
theorem pack_head (w : DWord) : pack w = encIs (headW w) ++ (w.call.text ++ restT w) := by simp [pack, restT, restS, restV]

theorem word_c {h0 : H} {j : Nat} {bv : Value} {l : List UInt8} (hj : hget h0 j = none) (rb : rBytes h0 bv l) (hl : l.length ≤ 1099511627776) {R : Ending → H → Prop}
    (k : ∀ w s p v gs gp gv (at' : Nat) (bad' : Bool), oWord 3 69 3 w s p v gs gp gv → Dj gs ((j, blk (rd bv at' bad') 49) :: h0) → Dj gp ((j, blk (rd bv at' bad') 49) :: h0) → Dj gv ((j, blk (rd bv at' bad') 49) :: h0) →
      wLen w → (∀ w0, wordP w0 → l = pack w0 → w = w0 ∧ bad' = false) → R (.returned (.agg (cWord w s p v).toArray)) (gs ++ (gp ++ (gv ++ ((j, blk (rd bv at' bad') 49) :: h0))))) :
    HCalls Try.prog 27 #[.pointer (some ⟨j, 0, none⟩)] ((j, blk (rd bv 0 false) 49) :: h0) R := by
  refine HCalls_ir (args := [.pointer (some ⟨j, 0, none⟩)]) Try.func27 ir27 ?_
  have zc := zCall_eq
  have zw := zWord_eq
  simp only [str] at zc zw
  simp only [walk, lists, acts, mem, plain, seqs, maps, cells, resL, resV, intBin, ↓reduceIte, Nat.reduceAdd, Nat.reduceSub, Nat.reduceMul, Nat.reduceLeDiff, Nat.reduceEqDiff, Int.reduceToNat, Int.reduceEq, Int.reduceLT, Int.reduceLE, Int.reduceNeg, Int.reduceAdd, Int.reduceSub, Int.reduceMul, Nat.reducePow, Int.reduceNegSucc, w_rd, str, zw]
  refine newB_intro fun jr hjr => ?_
  have nr := fresh hjr
  simp only [walk, lists, acts, mem, plain, seqs, maps, cells, resL, resV, intBin, ↓reduceIte, Nat.reduceAdd, Nat.reduceSub, Nat.reduceMul, Nat.reduceLeDiff, Nat.reduceEqDiff, Int.reduceToNat, Int.reduceEq, Int.reduceLT, Int.reduceLE, Int.reduceNeg, Int.reduceAdd, Int.reduceSub, Int.reduceMul, Nat.reducePow, Int.reduceNegSucc, w_rd]
  refine (nums_c (at_ := 0) (bad := false) (h0 := (jr, blk (cWord zWord (.slice none 0 0) (.slice none 0 0) (.slice none 0 0)) 28) :: h0) (by simp only [subs, nr, hj]) (rb.sub (Sub.cons nr.2.2 (Sub.refl _))) hl (by omega) (by omega) fun V g ys at1 bad1 oV dV ha1 hy1 hb1 hys ex1 => ?_).weaken (by (repeat' first | exact Sub.refl _ | exact Sub.nil _ | assumption | refine Sub.both ?_ ?_ | refine Sub.cons_of (by simp only [subs, nr, hj]) ?_ | exact Sub.left _ _ | refine Sub.app (by simp only [subs, nr, hj]) ?_ | refine Sub.cons (by simp only [subs, nr, hj]) ?_))
  have d1 := dV
  have d2 := dV.symm
  simp only [subs] at d1 d2
  simp only [walk, lists, acts, mem, plain, seqs, maps, cells, resL, resV, intBin, ↓reduceIte, Nat.reduceAdd, Nat.reduceSub, Nat.reduceMul, Nat.reduceLeDiff, Nat.reduceEqDiff, Int.reduceToNat, Int.reduceEq, Int.reduceLT, Int.reduceLE, Int.reduceNeg, Int.reduceAdd, Int.reduceSub, Int.reduceMul, Nat.reducePow, Int.reduceNegSucc, w_rd, apps, d1]
  cases bad1
  · simp only [walk, lists, acts, mem, plain, seqs, maps, cells, resL, resV, intBin, ↓reduceIte, Nat.reduceAdd, Nat.reduceSub, Nat.reduceMul, Nat.reduceLeDiff, Nat.reduceEqDiff, Int.reduceToNat, Int.reduceEq, Int.reduceLT, Int.reduceLE, Int.reduceNeg, Int.reduceAdd, Int.reduceSub, Int.reduceMul, Nat.reducePow, Int.reduceNegSucc, w_rd]
    have hlen := (hb1 rfl).2
    obtain ⟨y0, y1, y2, y3, y4, y5, y6, y7, y8, y9, y10, y11, y12, y13, rfl⟩ := list14 (by simpa using hlen)
    obtain ⟨hlV, ⟨_, hx, _⟩ | ⟨jv, cap, sp, rfl, hcap, hsp, rfl⟩⟩ := oV
    · cases hx
    have hfl : fl eI [y0, y1, y2, y3, y4, y5, y6, y7, y8, y9, y10, y11, y12, y13] ++ sp = .int .i64 y0 :: .int .i64 y1 :: .int .i64 y2 :: .int .i64 y3 :: .int .i64 y4 :: .int .i64 y5 :: .int .i64 y6 :: .int .i64 y7 :: .int .i64 y8 :: .int .i64 y9 :: .int .i64 y10 :: .int .i64 y11 :: .int .i64 y12 :: .int .i64 y13 :: sp := rfl
    have d3 := dV.one'
    simp only [subs] at d3
    have d3' : j ≠ jv ∧ jr ≠ jv := ⟨Ne.symm d3.1, Ne.symm d3.2.1⟩
    clear d1 d2
    have h14 : ((14 : Nat) : Int) = 14 := rfl
    rw [hfl]
    refine vc_draw _ (Sub.refl _) ?_
    simp only [walk, lists, acts, mem, plain, seqs, maps, cells, resL, resV, intBin, ↓reduceIte, Nat.reduceAdd, Nat.reduceSub, Nat.reduceMul, Nat.reduceLeDiff, Nat.reduceEqDiff, Int.reduceToNat, Int.reduceEq, Int.reduceLT, Int.reduceLE, Int.reduceNeg, Int.reduceAdd, Int.reduceSub, Int.reduceMul, Nat.reducePow, Int.reduceNegSucc, w_rd, zw, zc, h14, wWord, wCall, d3, d3', nr.1, nr.2.1]
    refine newB_intro fun j4 hj4 => ?_
    have n4 := fresh hj4
    have n4' := fresh n4.2.2
    have n4'' := fresh n4'.2.2
    simp only [walk, lists, acts, mem, plain, seqs, maps, cells, resL, resV, intBin, ↓reduceIte, Nat.reduceAdd, Nat.reduceSub, Nat.reduceMul, Nat.reduceLeDiff, Nat.reduceEqDiff, Int.reduceToNat, Int.reduceEq, Int.reduceLT, Int.reduceLE, Int.reduceNeg, Int.reduceAdd, Int.reduceSub, Int.reduceMul, Nat.reducePow, Int.reduceNegSucc, w_rd, zw, zc, h14, wWord, wCall, Sub_new hj4, d3, d3', nr.1, nr.2.1, n4.1, n4.2.1, n4'.1, n4'.2.1, n4''.1, n4''.2.1]
    refine vc_draw _ (Sub.refl _) ?_
    simp only [walk, lists, acts, mem, plain, seqs, maps, cells, resL, resV, intBin, ↓reduceIte, Nat.reduceAdd, Nat.reduceSub, Nat.reduceMul, Nat.reduceLeDiff, Nat.reduceEqDiff, Int.reduceToNat, Int.reduceEq, Int.reduceLT, Int.reduceLE, Int.reduceNeg, Int.reduceAdd, Int.reduceSub, Int.reduceMul, Nat.reducePow, Int.reduceNegSucc, w_rd, zw, zc, h14, wWord, wCall, d3, d3', nr.1, nr.2.1, n4.1, n4.2.1, n4'.1, n4'.2.1, n4''.1, n4''.2.1, Sub_self]
    have hy : ∀ y, y ∈ [y0, y1, y2, y3, y4, y5, y6, y7, y8, y9, y10, y11, y12, y13] → -2097152 ≤ y ∧ y ≤ 2097152 := hys
    have hy13 := hy y13 (by simp)
    obtain ⟨N, hN⟩ : ∃ N, N = Value.slice none 0 0 := ⟨_, rfl⟩
    have one : vone N = true := by rw [hN]; rfl
    rw [← hN]
    obtain ⟨Z, hZ⟩ : ∃ Z, Z = blk (cWord zWord N N N) 28 := ⟨_, rfl⟩
    rw [← hZ]
    generalize hD : ({ kind := y0, from_ := y1, to := y2, stamp := y3, try_ := y4, what := y5, yes := decide (y6 = 1), slots := zWord.slots, pairs := zWord.pairs, code := y7, vals := zWord.vals, call := { session := y8, number := y9, kind := y10, text := zCall.text, slot := y11, to := y12 } } : DWord) = D
    have hjj : ∀ o, hget ((j4, o) :: (jr, Z) :: h0) j = none := fun o => by simp only [subs, nr, n4, n4', n4'', hj]
    have rbb : ∀ o, rBytes ((j4, o) :: (jr, Z) :: h0) bv l := fun o => rb.sub (by (repeat' first | exact Sub.refl _ | exact Sub.nil _ | assumption | refine Sub.both ?_ ?_ | refine Sub.cons_of (by simp only [subs, nr, n4, n4', n4'', hj]) ?_ | exact Sub.left _ _ | refine Sub.app (by simp only [subs, nr, n4, n4', n4'', hj]) ?_ | refine Sub.cons (by simp only [subs, nr, n4, n4', n4'', hj]) ?_))
    refine (text_c (at_ := at1) (bad := false) (h0 := (j4, blk (cWord D N N N) 28) :: (jr, Z) :: h0) (hjj _) (rbb _) hl ha1 hy13 fun s2 at2 bad2 ha2 hs2 hb2 ex2 => ?_).weaken (by (repeat' first | exact Sub.refl _ | exact Sub.nil _ | assumption | refine Sub.both ?_ ?_ | refine Sub.cons_of (by simp only [subs, nr, n4, n4', n4'', hj, d3, d3']) ?_ | exact Sub.left _ _ | refine Sub.app (by simp only [subs, nr, n4, n4', n4'', hj, d3, d3']) ?_ | refine Sub.cons (by simp only [subs, nr, n4, n4', n4'', hj, d3, d3']) ?_))
    simp only [walk, lists, acts, mem, plain, seqs, maps, cells, resL, resV, intBin, ↓reduceIte, Nat.reduceAdd, Nat.reduceSub, Nat.reduceMul, Nat.reduceLeDiff, Nat.reduceEqDiff, Int.reduceToNat, Int.reduceEq, Int.reduceLT, Int.reduceLE, Int.reduceNeg, Int.reduceAdd, Int.reduceSub, Int.reduceMul, Nat.reducePow, Int.reduceNegSucc, w_rd, wWord, wCall, nr.1, nr.2.1, n4.1, n4.2.1, n4'.1, n4'.2.1, n4''.1, n4''.2.1]
    obtain ⟨D2, hD2⟩ : ∃ D2 : DWord, D2 = { D with call := { D.call with text := s2 } } := ⟨_, rfl⟩
    rw [← hD2]
    refine num_c (hjj _) (rbb _) hl ha2 fun n3 at3 bad3 ha3 hn3 hb3 ex3 => ?_
    simp only [walk, lists, acts, mem, plain, seqs, maps, cells, resL, resV, intBin, ↓reduceIte, Nat.reduceAdd, Nat.reduceSub, Nat.reduceMul, Nat.reduceLeDiff, Nat.reduceEqDiff, Int.reduceToNat, Int.reduceEq, Int.reduceLT, Int.reduceLE, Int.reduceNeg, Int.reduceAdd, Int.reduceSub, Int.reduceMul, Nat.reducePow, Int.reduceNegSucc, w_rd, wWord, wCall]
    refine nums_c (hjj _) (rbb _) hl ha3 hn3.2 fun V2 g2 ys2 at4 bad4 o2 e2 ha4 hl2 hb4 hy2 ex4 => ?_
    have e2' := e2.symm
    have f2 := e2
    simp only [subs] at f2 e2'
    have one2 := o2.rd.one
    have vc2 := vcells_one one2
    simp only [walk, lists, acts, mem, plain, seqs, maps, cells, resL, resV, intBin, ↓reduceIte, Nat.reduceAdd, Nat.reduceSub, Nat.reduceMul, Nat.reduceLeDiff, Nat.reduceEqDiff, Int.reduceToNat, Int.reduceEq, Int.reduceLT, Int.reduceLE, Int.reduceNeg, Int.reduceAdd, Int.reduceSub, Int.reduceMul, Nat.reducePow, Int.reduceNegSucc, w_rd, wWord, wCall, apps, f2, n4'.1, n4'.2.1, one2, vc2]
    refine (num_c (at_ := at4) (bad := bad4) (h0 := g2 ++ ((j4, blk (cWord D2 V2 N N) 28) :: (jr, Z) :: h0)) (by simp only [subs, f2, nr, n4, n4', n4'', hj]) ((rbb _).sub (by (repeat' first | exact Sub.refl _ | exact Sub.nil _ | assumption | refine Sub.both ?_ ?_ | refine Sub.cons_of (by simp only [subs, f2]) ?_ | exact Sub.left _ _ | refine Sub.app (by simp only [subs, f2]) ?_ | refine Sub.cons (by simp only [subs, f2]) ?_))) hl ha4 fun n5 at5 bad5 ha5 hn5 hb5 ex5 => ?_).weaken (by (repeat' first | exact Sub.refl _ | exact Sub.nil _ | assumption | refine Sub.both ?_ ?_ | refine Sub.cons_of (by simp only [subs, nr, n4, n4', n4'', hj, f2, e2']) ?_ | exact Sub.left _ _ | refine Sub.app (by simp only [subs, nr, n4, n4', n4'', hj, f2, e2']) ?_ | refine Sub.cons (by simp only [subs, nr, n4, n4', n4'', hj, f2, e2']) ?_))
    simp only [walk, lists, acts, mem, plain, seqs, maps, cells, resL, resV, intBin, ↓reduceIte, Nat.reduceAdd, Nat.reduceSub, Nat.reduceMul, Nat.reduceLeDiff, Nat.reduceEqDiff, Int.reduceToNat, Int.reduceEq, Int.reduceLT, Int.reduceLE, Int.reduceNeg, Int.reduceAdd, Int.reduceSub, Int.reduceMul, Nat.reducePow, Int.reduceNegSucc, w_rd, wWord, wCall]
    refine nums_c (by simp only [subs, f2, nr, n4, n4', n4'', hj]) ((rbb _).sub (by (repeat' first | exact Sub.refl _ | exact Sub.nil _ | assumption | refine Sub.both ?_ ?_ | refine Sub.cons_of (by simp only [subs, f2]) ?_ | exact Sub.left _ _ | refine Sub.app (by simp only [subs, f2]) ?_ | refine Sub.cons (by simp only [subs, f2]) ?_))) hl ha5 hn5.2 fun V3 g3 ys3 at6 bad6 o3 e3 ha6 hl3 hb6 hy3 ex6 => ?_
    have e3' := e3.symm
    have f3 := e3
    simp only [subs] at f3 e3'
    have one3 := o3.rd.one
    have vc3 := vcells_one one3
    simp only [walk, lists, acts, mem, plain, seqs, maps, cells, resL, resV, intBin, ↓reduceIte, Nat.reduceAdd, Nat.reduceSub, Nat.reduceMul, Nat.reduceLeDiff, Nat.reduceEqDiff, Int.reduceToNat, Int.reduceEq, Int.reduceLT, Int.reduceLE, Int.reduceNeg, Int.reduceAdd, Int.reduceSub, Int.reduceMul, Nat.reducePow, Int.reduceNegSucc, w_rd, wWord, wCall, apps, f2, f3, n4'.1, n4'.2.1, one3, vc3]
    have E1 : ∀ w0, wordP w0 → l = pack w0 → [y0, y1, y2, y3, y4, y5, y6, y7, y8, y9, y10, y11, y12, y13] = headW w0 ∧ l.drop at1 = w0.call.text ++ restT w0 := fun w0 ok e => by
      have := ex1 rfl (headW w0) (w0.call.text ++ restT w0) (by rw [e, pack_head]; simp) (headW_small ok) rfl
      exact ⟨this.1, this.2.1⟩
    have E2 : ∀ w0, wordP w0 → l = pack w0 → s2 = w0.call.text ∧ l.drop at2 = restT w0 ∧ bad2 = false := fun w0 ok e => by
      obtain ⟨a, b⟩ := E1 w0 ok e
      refine ex2 rfl _ _ b ?_
      simp only [headW, List.cons.injEq] at a
      exact a.2.2.2.2.2.2.2.2.2.2.2.2.2.1.symm
    have E3 : ∀ w0, wordP w0 → l = pack w0 → n3 = w0.slots.length ∧ l.drop at3 = encIs w0.slots ++ restS w0 ∧ bad3 = false := fun w0 ok e => by
      obtain ⟨_, b, c⟩ := E2 w0 ok e
      have hz := slotsP_len ok.2.2.2.2.2.2.1
      rw [restT, encIs_cons, List.append_assoc] at b
      have := ex3 _ _ ⟨b, small_num ⟨by omega, by omega⟩⟩
      rw [unzig_zig, c] at this; exact this
    have E4 : ∀ w0, wordP w0 → l = pack w0 → ys2 = w0.slots ∧ l.drop at4 = restS w0 ∧ bad4 = false := fun w0 ok e => by
      obtain ⟨a, b, c⟩ := E3 w0 ok e
      exact ex4 c _ _ b (slotsP_small ok.2.2.2.2.2.2.1) a.symm
    have E5 : ∀ w0, wordP w0 → l = pack w0 → n5 = w0.vals.length ∧ l.drop at5 = encIs w0.vals ++ restV w0 ∧ bad5 = false := fun w0 ok e => by
      obtain ⟨_, b, c⟩ := E4 w0 ok e
      have hz := ok.2.2.2.2.2.2.2.2.2.1.1
      rw [restS, encIs_cons, List.append_assoc] at b
      have := ex5 _ _ ⟨b, small_num ⟨by omega, by omega⟩⟩
      rw [unzig_zig, c] at this; exact this
    have E6 : ∀ w0, wordP w0 → l = pack w0 → ys3 = w0.vals ∧ l.drop at6 = restV w0 ∧ bad6 = false := fun w0 ok e => by
      obtain ⟨a, b, c⟩ := E5 w0 ok e
      exact ex6 c _ _ b (valsP_small ok.2.2.2.2.2.2.2.2.2.1) a.symm
    obtain ⟨hC, ehC⟩ : ∃ hC : Value → H, hC = fun q => g3 ++ (g2 ++ ((j4, blk (cWord D2 V2 q V3) 28) :: (jr, Z) :: h0)) := ⟨_, rfl⟩
    have hCj : ∀ q, hget (hC q) j = none := fun q => by rw [ehC]; simp only [subs, f2, f3, nr, n4, n4', n4'', hj]
    have hCl : ∀ q, rBytes (hC q) bv l := fun q => by rw [ehC]; exact (rbb _).sub (by (repeat' first | exact Sub.refl _ | exact Sub.nil _ | assumption | refine Sub.both ?_ ?_ | refine Sub.cons_of (by simp only [subs, f2, f3, e2', e3']) ?_ | exact Sub.left _ _ | refine Sub.app (by simp only [subs, f2, f3, e2', e3']) ?_ | refine Sub.cons (by simp only [subs, f2, f3, e2', e3']) ?_))
    refine (num_c (at_ := at6) (bad := bad6) (h0 := hC N) (hCj N) (hCl N) hl ha6 fun n7 at7 bad7 ha7 hn7 hb7 ex7 => ?_).weaken (by rw [ehC]; (repeat' first | exact Sub.refl _ | exact Sub.nil _ | assumption | refine Sub.both ?_ ?_ | refine Sub.cons_of (by simp only [subs, nr, n4, n4', n4'', hj, f2, e2', f3, e3']) ?_ | exact Sub.left _ _ | refine Sub.app (by simp only [subs, nr, n4, n4', n4'', hj, f2, e2', f3, e3']) ?_ | refine Sub.cons (by simp only [subs, nr, n4, n4', n4'', hj, f2, e2', f3, e3']) ?_))
    have E7 : ∀ w0, wordP w0 → l = pack w0 → n7 = w0.pairs.length ∧ l.drop at7 = encIs (flatP w0.pairs) ∧ bad7 = false := fun w0 ok e => by
      obtain ⟨_, b, c⟩ := E6 w0 ok e
      have hz := ok.2.2.2.2.2.2.2.1.1
      rw [restV, encIs_cons] at b
      have := ex7 _ _ ⟨b, small_num ⟨by omega, by omega⟩⟩
      rw [unzig_zig, c] at this; exact this
    simp only [walk, lists, acts, mem, plain, seqs, maps, cells, resL, resV, intBin, ↓reduceIte, Nat.reduceAdd, Nat.reduceSub, Nat.reduceMul, Nat.reduceLeDiff, Nat.reduceEqDiff, Int.reduceToNat, Int.reduceEq, Int.reduceLT, Int.reduceLE, Int.reduceNeg, Int.reduceAdd, Int.reduceSub, Int.reduceMul, Nat.reducePow, Int.reduceNegSucc, w_rd, wWord, wCall]
    refine vc_loop [5] (fun n' vs h' => ∃ (m : Int) (pv : Value) (gp : H) (ps : List (Int × Int)) (at' : Nat) (bad' : Bool), vs = [.int .i64 m] ∧ h' = gp ++ ((j, blk (rd bv at' bad') 49) :: hC pv) ∧ (∀ q, Dj gp ((j, blk (rd bv at' bad') 49) :: hC q)) ∧ oLs 69 eP 2 pv ps gp ∧
      -2097152 ≤ m ∧ m ≤ 2097152 ∧ ps.length + m.toNat ≤ 2097152 ∧ at' ≤ l.length ∧ n' = m.toNat ∧ (∀ w0, wordP w0 → l = pack w0 → bad' = false ∧ ∃ i, i ≤ w0.pairs.length ∧ ps = w0.pairs.take i ∧ m = (w0.pairs.length : Int) - i ∧ l.drop at' = encIs (flatP (w0.pairs.drop i)))) n7.toNat rfl
      ⟨n7, N, [], [], at7, bad7, rfl, rfl, fun q => Dj.nil _, by rw [hN]; exact ows.nil _ _, hn7.1, hn7.2, by simp; omega, ha7, rfl, fun w0 ok e => by
        obtain ⟨a, b, c⟩ := E7 w0 ok e
        exact ⟨c, 0, by omega, by simp, by omega, by simpa using b⟩⟩ ?_
    rintro n' f h' ⟨m, pv, gp, ps, at', bad', hv, rfl, dp, op, hm1, hm2, hpl, ha', rfl, ex⟩
    simp only [List.map_cons, List.map_nil, List.cons.injEq, and_true] at hv
    have dp1 := dp pv
    have dp2 := dp1.symm
    simp only [subs] at dp1 dp2
    simp only [walk, lists, acts, mem, plain, seqs, maps, cells, resL, resV, intBin, ↓reduceIte, Nat.reduceAdd, Nat.reduceSub, Nat.reduceMul, Nat.reduceLeDiff, Nat.reduceEqDiff, Int.reduceToNat, Int.reduceEq, Int.reduceLT, Int.reduceLE, Int.reduceNeg, Int.reduceAdd, Int.reduceSub, Int.reduceMul, Nat.reducePow, Int.reduceNegSucc, wr, hv, w_rd, apps, dp1]
    have dpx := dp pv
    rw [ehC] at dpx
    have dpx2 := dpx.symm
    simp only [subs] at dpx dpx2
    have fin : (∀ w0, wordP w0 → l = pack w0 → ps = w0.pairs ∧ bad' = false) → dP R (.returned (.agg (cWord D2 V2 pv V3).toArray)) (gp ++ ((j, blk (rd bv at' bad') 49) :: (g3 ++ (g2 ++ ((j4, blk (cWord D2 V2 pv V3) 28) :: (jr, blk (cWord D2 V2 pv V3) 28) :: h0))))) := fun hx =>
      ⟨g2 ++ (gp ++ (g3 ++ ((j, blk (rd bv at' bad') 49) :: h0))), by (repeat' first | exact Sub.refl _ | exact Sub.nil _ | assumption | refine Sub.both ?_ ?_ | refine Sub.cons_of (by simp only [subs, dpx, dpx2, f2, f3, e2', e3', nr, n4, n4', n4'', hj]) ?_ | exact Sub.left _ _ | refine Sub.app (by simp only [subs, dpx, dpx2, f2, f3, e2', e3', nr, n4, n4', n4'', hj]) ?_ | refine Sub.cons (by simp only [subs, dpx, dpx2, f2, f3, e2', e3', nr, n4, n4', n4'', hj]) ?_),
        k { D2 with slots := ys2, pairs := ps, vals := ys3 } V2 pv V3 g2 gp g3 at' bad' ⟨o2, op, o3, dpx2.2.2.1, e3'.2.1, dpx.2.1⟩ (by simp only [subs, f2]) (by simp only [subs, dpx]) (by simp only [subs, f3]) ⟨by show ys2.length ≤ _; omega, by show ps.length ≤ _; omega, by show ys3.length ≤ _; omega⟩ fun w0 ok e => by
          obtain ⟨h1, h2⟩ := hx w0 ok e
          refine ⟨?_, h2⟩
          have a1 := (E1 w0 ok e).1
          have a2 := (E2 w0 ok e).1
          have a4 := (E4 w0 ok e).1
          have a6 := (E6 w0 ok e).1
          simp only [headW, List.cons.injEq, and_true] at a1
          obtain ⟨a, b, c, d, e', f', g', h', i', j', k', l', m', n'⟩ := a1
          subst hD
          rw [hD2, h1, a2, a4, a6, a, b, c, d, e', f', g', h', i', j', k', l', m']
          have hy : decide (yesN w0.yes = 1) = w0.yes := by unfold yesN; cases w0.yes <;> rfl
          rw [hy]⟩
    have onep := op.rd.one
    refine ite_lt (fun c1 => ite_f (fun c2 => ?_) fun c2 => ?_) fun c1 => ?_
    · subst c2
      have dg : hget (gp ++ hC pv) j = none := by rw [ehC]; simp only [subs, dpx, f2, f3, nr, n4, n4', n4'', hj]
      refine (nums_c (at_ := at') (bad := false) (h0 := gp ++ hC pv) (n := 2) dg ((hCl pv).sub (Sub.right (Dj_cons.1 (dp pv)).2)) hl ha' (by omega) fun V5 g5 ys5 at8 bad8 o5 e5 ha8 hl5 hb5 hy5 ex8 => ?_).weaken (by rw [ehC]; (repeat' first | exact Sub.refl _ | exact Sub.nil _ | assumption | refine Sub.both ?_ ?_ | refine Sub.cons_of (by simp only [subs, dpx, dpx2, f2, f3, e2', e3', nr, n4, n4', n4'', hj]) ?_ | exact Sub.left _ _ | refine Sub.app (by simp only [subs, dpx, dpx2, f2, f3, e2', e3', nr, n4, n4', n4'', hj]) ?_ | refine Sub.cons (by simp only [subs, dpx, dpx2, f2, f3, e2', e3', nr, n4, n4', n4'', hj]) ?_))
      rw [ehC] at e5
      have f5 := e5
      have e5' := e5.symm
      simp only [subs] at f5 e5'
      simp only [walk, lists, acts, mem, plain, seqs, maps, cells, resL, resV, intBin, ↓reduceIte, Nat.reduceAdd, Nat.reduceSub, Nat.reduceMul, Nat.reduceLeDiff, Nat.reduceEqDiff, Int.reduceToNat, Int.reduceEq, Int.reduceLT, Int.reduceLE, Int.reduceNeg, Int.reduceAdd, Int.reduceSub, Int.reduceMul, Nat.reducePow, Int.reduceNegSucc, w_rd, apps, f5]
      have E8 : ∀ w0, wordP w0 → l = pack w0 → bad8 = false ∧ ∃ i, ∃ h : i < w0.pairs.length, ps = w0.pairs.take i ∧ m = (w0.pairs.length : Int) - i ∧ l.drop at8 = encIs (flatP (w0.pairs.drop (i + 1))) ∧ ys5 = [w0.pairs[i].1, w0.pairs[i].2] := fun w0 ok e => by
        obtain ⟨_, i, hi, h1, h2, h3⟩ := ex w0 ok e
        have hi2 : i < w0.pairs.length := by omega
        rw [List.drop_eq_getElem_cons hi2, flatP_cons] at h3
        have := ex8 rfl [w0.pairs[i].1, w0.pairs[i].2] (encIs (flatP (w0.pairs.drop (i + 1)))) (by rw [h3, encIs_cons, encIs_cons, encIs_cons, encIs_one]; simp) (fun x hx => by
          have sm := pairsP_small ok.2.2.2.2.2.2.2.1 (List.getElem_mem hi2)
          simp only [List.mem_cons, List.not_mem_nil, or_false] at hx
          rcases hx with rfl | rfl
          · exact sm.1
          · exact sm.2) rfl
        exact ⟨this.2.2, i, hi2, h1, h2, this.2.1, this.1⟩
      cases bad8
      · have hl5' := (hb5 rfl).2
        obtain ⟨ya, yb, rfl⟩ := list2 (by simpa using hl5')
        have n4j : j ≠ j4 ∧ j4 ≠ j ∧ jr ≠ j4 ∧ j4 ≠ jr := ⟨n4'.1, n4'.2.1, n4''.1, n4''.2.1⟩
        have rc8 : ∀ q, hcel (hC q) j4 8 = some q := fun q => by rw [ehC]; simp only [apps, f2, f3, mem, wWord]
        have wc8 : ∀ q x, hwrite (hC q) j4 8 [x] = some (hC x) := fun q x => by rw [ehC]; simp only [apps, f2, f3, mem, wWord, maps]; simp
        have hs5 : hget g5 j4 = none := by simp only [f5]
        have dhr : Dj gp (g5 ++ ((j, blk (rd bv at8 false) 49) :: hC pv)) := by rw [ehC]; simp only [subs, dpx, e5']
        simp only [↓reduceIte]
        refine vc_draw (g5 ++ ((j, blk (rd bv at8 false) 49) :: hC pv)) (by rw [ehC]; (repeat' first | exact Sub.refl _ | exact Sub.nil _ | assumption | refine Sub.both ?_ ?_ | refine Sub.cons_of (by simp only [subs, dpx, dpx2, f5, e5', f2, f3, e2', e3', nr, n4, n4', n4'', hj]) ?_ | exact Sub.left _ _ | refine Sub.app (by simp only [subs, dpx, dpx2, f5, e5', f2, f3, e2', e3', nr, n4, n4', n4'', hj]) ?_ | refine Sub.cons (by simp only [subs, dpx, dpx2, f5, e5', f2, f3, e2', e3', nr, n4, n4', n4'', hj]) ?_)) ?_
        simp only [walk, lists, acts, mem, plain, seqs, maps, cells, resL, resV, intBin, ↓reduceIte, Nat.reduceAdd, Nat.reduceSub, Nat.reduceMul, Nat.reduceLeDiff, Nat.reduceEqDiff, Int.reduceToNat, Int.reduceEq, Int.reduceLT, Int.reduceLE, Int.reduceNeg, Int.reduceAdd, Int.reduceSub, Int.reduceMul, Nat.reducePow, Int.reduceNegSucc, apps, hs5, n4j, rc8]
        refine idx_leaf (i := 0) eI_len (o5.rd.sub (Sub.left g5 ((j, blk (rd bv at8 false) 49) :: hC pv))) rfl (by simp) fun b1 o1 e1 => ?_
        simp only [walk, lists, acts, mem, plain, seqs, maps, cells, resL, resV, intBin, ↓reduceIte, Nat.reduceAdd, Nat.reduceSub, Nat.reduceMul, Nat.reduceLeDiff, Nat.reduceEqDiff, Int.reduceToNat, Int.reduceEq, Int.reduceLT, Int.reduceLE, Int.reduceNeg, Int.reduceAdd, Int.reduceSub, Int.reduceMul, Nat.reducePow, Int.reduceNegSucc, hread_1 e1]
        have sHR : Tk.Sub (g5 ++ ((j, blk (rd bv at8 false) 49) :: hC pv)) (g5 ++ ((j, blk (rd bv at8 false) 49) :: (gp ++ hC pv))) := by rw [ehC]; (repeat' first | exact Sub.refl _ | exact Sub.nil _ | assumption | refine Sub.both ?_ ?_ | refine Sub.cons_of (by simp only [subs, dpx, dpx2, f5, e5', f2, f3, e2', e3', nr, n4, n4', n4'', hj]) ?_ | exact Sub.left _ _ | refine Sub.app (by simp only [subs, dpx, dpx2, f5, e5', f2, f3, e2', e3', nr, n4, n4', n4'', hj]) ?_ | refine Sub.cons (by simp only [subs, dpx, dpx2, f5, e5', f2, f3, e2', e3', nr, n4, n4', n4'', hj]) ?_)
        have sGP : Tk.Sub gp (g5 ++ ((j, blk (rd bv at8 false) 49) :: (gp ++ hC pv))) := by rw [ehC]; (repeat' first | exact Sub.refl _ | exact Sub.nil _ | assumption | refine Sub.both ?_ ?_ | refine Sub.cons_of (by simp only [subs, dpx, dpx2, f5, e5', f2, f3, e2', e3', nr, n4, n4', n4'', hj]) ?_ | exact Sub.left _ _ | refine Sub.app (by simp only [subs, dpx, dpx2, f5, e5', f2, f3, e2', e3', nr, n4, n4', n4'', hj]) ?_ | refine Sub.cons (by simp only [subs, dpx, dpx2, f5, e5', f2, f3, e2', e3', nr, n4, n4', n4'', hj]) ?_)
        refine ⟨sHR, ?_⟩
        refine idx_leaf (i := 1) eI_len (o5.rd.sub (Sub.left g5 ((j, blk (rd bv at8 false) 49) :: (gp ++ hC pv)))) rfl (by simp) fun b2 o2' e2x => ?_
        simp only [walk, lists, acts, mem, plain, seqs, maps, cells, resL, resV, intBin, ↓reduceIte, Nat.reduceAdd, Nat.reduceSub, Nat.reduceMul, Nat.reduceLeDiff, Nat.reduceEqDiff, Int.reduceToNat, Int.reduceEq, Int.reduceLT, Int.reduceLE, Int.reduceNeg, Int.reduceAdd, Int.reduceSub, Int.reduceMul, Nat.reducePow, Int.reduceNegSucc, hread_1 e2x]
        refine ⟨sHR, sHR, sHR, newB_intro (o := blk (fl eP [(ya, yb)]) 69) fun j6 hj6 => ?_⟩
        simp only [walk, lists, acts, mem, plain, seqs, maps, cells, resL, resV, intBin, ↓reduceIte, Nat.reduceAdd, Nat.reduceSub, Nat.reduceMul, Nat.reduceLeDiff, Nat.reduceEqDiff, Int.reduceToNat, Int.reduceEq, Int.reduceLT, Int.reduceLE, Int.reduceNeg, Int.reduceAdd, Int.reduceSub, Int.reduceMul, Nat.reducePow, Int.reduceNegSucc]
        refine ⟨Sub.cons hj6 sHR, ?_⟩
        refine app_leaf (g := gp) (h := g5 ++ ((j, blk (rd bv at8 false) 49) :: hC pv)) (M := (j6, blk (fl eP [(ya, yb)]) 69) :: (g5 ++ ((j, blk (rd bv at8 false) 49) :: (gp ++ hC pv)))) eP_len eP_one tPairs iPair (Sub.cons hj6 (Sub.both sGP sHR)) dhr op (rL_lit eP_len [(ya, yb)]) (by simp; omega) (by simp; omega) fun v6 g6 o6 d6 => ?_
        simp only [walk, lists, acts, mem, plain, seqs, maps, cells, resL, resV, intBin, ↓reduceIte, Nat.reduceAdd, Nat.reduceSub, Nat.reduceMul, Nat.reduceLeDiff, Nat.reduceEqDiff, Int.reduceToNat, Int.reduceEq, Int.reduceLT, Int.reduceLE, Int.reduceNeg, Int.reduceAdd, Int.reduceSub, Int.reduceMul, Nat.reducePow, Int.reduceNegSucc]
        refine ⟨Sub.right d6, ?_⟩
        have d6x := d6
        rw [ehC] at d6x
        have d6y := d6x.symm
        simp only [subs] at d6x d6y
        have one6 := o6.rd.one
        have vc6 := vcells_one one6
        simp only [walk, lists, acts, mem, plain, seqs, maps, cells, resL, resV, intBin, ↓reduceIte, Nat.reduceAdd, Nat.reduceSub, Nat.reduceMul, Nat.reduceLeDiff, Nat.reduceEqDiff, Int.reduceToNat, Int.reduceEq, Int.reduceLT, Int.reduceLE, Int.reduceNeg, Int.reduceAdd, Int.reduceSub, Int.reduceMul, Nat.reducePow, Int.reduceNegSucc, apps, d6x, hs5, n4j, wc8, one6, vc6]
        simp (disch := omega) only [wrapI]
        refine ⟨(m - 1).toNat, by omega, g6 ++ ((j, blk (rd bv at8 false) 49) :: hC v6), by rw [ehC]; (repeat' first | exact Sub.refl _ | exact Sub.nil _ | assumption | refine Sub.both ?_ ?_ | refine Sub.cons_of (by simp only [subs, d6x, d6y, f5, e5', f2, f3, e2', e3', nr, n4, n4', n4'', hj]) ?_ | exact Sub.left _ _ | refine Sub.app (by simp only [subs, d6x, d6y, f5, e5', f2, f3, e2', e3', nr, n4, n4', n4'', hj]) ?_ | refine Sub.cons (by simp only [subs, d6x, d6y, f5, e5', f2, f3, e2', e3', nr, n4, n4', n4'', hj]) ?_), m - 1, v6, g6, _, at8, false, rfl, rfl, fun q => ?_, o6, by omega, by omega, by simp; omega, ha8, rfl, fun w0 ok e => ?_⟩
        · rw [ehC]; simp only [subs, d6x]
        · obtain ⟨_, i, hi, h1, h2, h3, h4⟩ := E8 w0 ok e
          simp only [List.cons.injEq, and_true] at h4
          exact ⟨rfl, i + 1, by omega, by rw [take_app_one hi, h1, h4.1, h4.2], by omega, h3⟩
      · simp (disch := omega) only [walk, lists, acts, mem, plain, seqs, maps, cells, resL, resV, intBin, ↓reduceIte, Nat.reduceAdd, Nat.reduceSub, Nat.reduceMul, Nat.reduceLeDiff, Nat.reduceEqDiff, Int.reduceToNat, Int.reduceEq, Int.reduceLT, Int.reduceLE, Int.reduceNeg, Int.reduceAdd, Int.reduceSub, Int.reduceMul, Nat.reducePow, Int.reduceNegSucc, wrapI]
        refine ⟨(m - 1).toNat, by omega, gp ++ ((j, blk (rd bv at8 true) 49) :: hC pv), by rw [ehC]; (repeat' first | exact Sub.refl _ | exact Sub.nil _ | assumption | refine Sub.both ?_ ?_ | refine Sub.cons_of (by simp only [subs, dpx, dpx2, f5, e5', f2, f3, e2', e3', nr, n4, n4', n4'', hj]) ?_ | exact Sub.left _ _ | refine Sub.app (by simp only [subs, dpx, dpx2, f5, e5', f2, f3, e2', e3', nr, n4, n4', n4'', hj]) ?_ | refine Sub.cons (by simp only [subs, dpx, dpx2, f5, e5', f2, f3, e2', e3', nr, n4, n4', n4'', hj]) ?_), m - 1, pv, gp, ps, at8, true, rfl, rfl, fun q => ?_, op, by omega, by omega, by omega, ha8, rfl, fun w0 ok e => ?_⟩
        · rw [ehC]; simp only [subs, dpx]
        · have := (E8 w0 ok e).1
          cases this
    · have hx := fin fun w0 ok e => by have := (ex w0 ok e).1; rw [c2] at this; cases this
      simp only [ehC, hZ]
      simp only [walk, lists, acts, mem, plain, seqs, maps, cells, resL, resV, intBin, ↓reduceIte, Nat.reduceAdd, Nat.reduceSub, Nat.reduceMul, Nat.reduceLeDiff, Nat.reduceEqDiff, Int.reduceToNat, Int.reduceEq, Int.reduceLT, Int.reduceLE, Int.reduceNeg, Int.reduceAdd, Int.reduceSub, Int.reduceMul, Nat.reducePow, Int.reduceNegSucc, apps, dpx, f2, f3, n4.1, n4.2.1, n4'.1, n4'.2.1, n4''.1, n4''.2.1, nr.1, nr.2.1, wWord, one2, one3, onep]
      exact hx
    · have hx := fin fun w0 ok e => by
        obtain ⟨a, i, hi, h1, h2, _⟩ := ex w0 ok e
        exact ⟨by rw [h1, List.take_of_length_le (by omega)], a⟩
      simp only [ehC, hZ]
      simp only [walk, lists, acts, mem, plain, seqs, maps, cells, resL, resV, intBin, ↓reduceIte, Nat.reduceAdd, Nat.reduceSub, Nat.reduceMul, Nat.reduceLeDiff, Nat.reduceEqDiff, Int.reduceToNat, Int.reduceEq, Int.reduceLT, Int.reduceLE, Int.reduceNeg, Int.reduceAdd, Int.reduceSub, Int.reduceMul, Nat.reducePow, Int.reduceNegSucc, apps, dpx, f2, f3, n4.1, n4.2.1, n4'.1, n4'.2.1, n4''.1, n4''.2.1, nr.1, nr.2.1, wWord, one2, one3, onep]
      exact hx
  · simp only [walk, lists, acts, mem, plain, seqs, maps, cells, resL, resV, intBin, ↓reduceIte, Nat.reduceAdd, Nat.reduceSub, Nat.reduceMul, Nat.reduceLeDiff, Nat.reduceEqDiff, Int.reduceToNat, Int.reduceEq, Int.reduceLT, Int.reduceLE, Int.reduceNeg, Int.reduceAdd, Int.reduceSub, Int.reduceMul, Nat.reducePow, Int.reduceNegSucc, w_rd, zw, nr.1, nr.2.1, d1, apps, wWord]
    refine ⟨[] ++ ([] ++ ([] ++ ((j, blk (rd bv at1 true) 49) :: h0))), by (repeat' first | exact Sub.refl _ | exact Sub.nil _ | assumption | refine Sub.both ?_ ?_ | refine Sub.cons_of (by simp only [subs, d1, d2, nr, hj]) ?_ | exact Sub.left _ _ | refine Sub.app (by simp only [subs, d1, d2, nr, hj]) ?_ | refine Sub.cons (by simp only [subs, d1, d2, nr, hj]) ?_), k zWord _ _ _ [] [] [] at1 true ⟨ows.nil _ _, ows.nil _ _, ows.nil _ _, Dj.nil _, Dj.nil _, Dj.nil _⟩ (Dj.nil _) (Dj.nil _) (Dj.nil _) ⟨by decide, by decide, by decide⟩ fun w0 ok e => ?_⟩
    have := (ex1 rfl (headW w0) (w0.call.text ++ restT w0) (by rw [e, pack_head]; simp) (headW_small ok) rfl).2.2
    cases this
end Go.Proofs.Ytllhdnfcneejaaa
