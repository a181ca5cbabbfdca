/- Parts of the proof, put together: Q2, Q4, Q3, Q5, Q6, Q7, Q8, C2. -/
import Derived.Test.YtgbapakcfmgahaaGreatDoorK1314
set_option linter.unusedVariables false
set_option linter.unusedSimpArgs false
set_option linter.defProp false
section
set_option maxRecDepth 20000
attribute [local irreducible] Go.Tk.vc Go.Tk.vops Go.Tk.vdr Go.Tk.vop Go.Tk.vfl Go.Tk.HCalls
namespace Go.Proofs.YtgbapakcfmgahaaGreatDoor
open Go Go.Tk
set_option maxHeartbeats 1000000 in
theorem markRecordS_c {M : H} {v : Value} {l : List DRecord} {S : Nat -> Prop} {k : Int} (d : dR 97 WRecord 11 M v l S) (hl : sumL cnRec l <= 33554432) (hk : 1 <= k /\ k <= 1073741824) {R : Ending -> H -> Prop}
  (kr : ∀ M', dR 97 WRecord 11 M' v (mkL (mkRec mT) cnRec k l) S -> Ch S M M' -> R (.returned (.int .i64 (k + sumL cnRec l))) M') : HCalls Tryz.prog 36 #[v, .int .i64 k] M R := by
 refine qB (args := [v, .int .i64 k]) Tryz.func36 ir36 ?_
 have hlen : ∀ {f : Value -> Prop}, lenSK v f = f (.int .i64 l.length) := by rcases d with ⟨rfl, rfl, _⟩ | ⟨b, cap, css, sp, Ss, rfl, _⟩ <;> exact fun {f} => rfl
 have hll0 : l.length <= 33554432 := by
  have h1 := sumL_le (f := fun _ => 1) (cnt := fun _ => 1) (l := l) (c := 0) (d := 1) (fun a _ => by omega)
  have h2 : l.length <= sumL cnRec l := by
   clear hlen d kr hl h1
   induction l with
   | nil => simp
   | cons a l ih => simp only [List.length_cons, sumL]; have : 1 <= cnRec a := by unfold cnRec; omega
                    omega
  omega
 simp only [wk, seval]
 refine qS [5, 1] (fun n vs M' => ∃ (i : Nat), vs = [.int .i64 i, .int .i64 (k + sumL cnRec (l.take i))] /\ Ch S M M' /\ dR 97 WRecord 11 M' v (mkL (mkRec mT) cnRec k (l.take i) ++ l.drop i) S /\ i <= l.length /\ n = l.length - i) l.length rfl ⟨0, by simp [sumL], Ch.refl _ _, by simpa [mkL] using d, by omega, rfl⟩ ?_
 rintro n f M' ⟨i, hv, hch, hd, hi, rfl⟩
 simp only [lm4] at hv
 simp only [wk, seval, wr, hv.1, hv.2, hlen]
 refine qF (fun c1 => ?_) fun c1 => ?_
 ·have hi2 : i < l.length := by omega
  have hset := mkL_set (mkRec mT) cnRec k l i hi2
  have hsum := sumL_more cnRec hi2
  have hle := sumL_take cnRec l (i + 1)
  obtain ⟨L, hL⟩ : ∃ L, L = mkL (mkRec mT) cnRec k (l.take i) ++ l.drop i := ⟨_, rfl⟩
  have hll : L.length = l.length := by rw [hL, List.length_append, mkL_len, List.length_take, List.length_drop]; omega
  have hcur : ∀ h2 : i < L.length, L[i] = l[i] := by subst hL; exact fun h2 => mkL_cur (mkRec mT) cnRec k l i hi2 h2
  obtain ⟨q, hq⟩ : ∃ q : Int, q = k + sumL cnRec (l.take i) := ⟨_, rfl⟩
  rw [<- hL] at hd hset
  rw [<- hq] at hset ⊢
  rcases hd with ⟨_, e0, _⟩ | ⟨b, cap, css, sp, Ss, hv0, hc, hs, D⟩
  ·rw [e0] at hll; simp at hll; omega
  have hiL : i < L.length := by omega
  obtain ⟨A, B, hAB, hA, hset2⟩ := D.split hiL
  have hW := D.el i (by rw [D.len]; exact hiL) hiL
  rw [hcur hiL] at hW
  obtain ⟨E, hE⟩ : ∃ E, E = l[i] := ⟨_, rfl⟩
  rw [<- hE] at hW hset hsum
  have hcn : cnRec E = 9 + E.vals.length + 2 * E.pairs.length := rfl
  have hqb : 1 <= q /\ q + cnRec E <= 1107296256 := by omega
  obtain ⟨v1, v2, S1, S2, hcs, w1, w2, su⟩ := hW
  have i1 : ∀ x, S1 x -> Ss i x := fun x hx => (su.2 x).2 (.inl hx)
  have i2 : ∀ x, S2 x -> Ss i x := fun x hx => (su.2 x).2 (.inr hx)
  have hget : hget M' b = some (blk (A ++ (qC E v1 v2 ++ B)) 97) := by rw [D.get, hAB, hcs]
  have hx := idx_top (sz := 11) hv0 hiL
  have nbb : ∀ x, Ss i x -> x ≠ b := fun x hx e => D.nb i hiL (e ▸ hx)
  have wr0 : ∀ d x, qT (slot M' b 97 A B (qC d v1 v2)) b (i * 11) [x] = some (slot M' b 97 A B (qJ (qC d v1 v2) 0 [x])) := fun d x => zQ (j := 0) hget hA (by show 0 + 1 <= 11; omega)
  have wr1 : ∀ d x, qT (slot M' b 97 A B (qC d v1 v2)) b (i * 11 + 1) [x] = some (slot M' b 97 A B (qJ (qC d v1 v2) 1 [x])) := fun d x => zQ (j := 1) hget hA (by show 1 + 1 <= 11; omega)
  have wr2 : ∀ d x, qT (slot M' b 97 A B (qC d v1 v2)) b (i * 11 + 2) [x] = some (slot M' b 97 A B (qJ (qC d v1 v2) 2 [x])) := fun d x => zQ (j := 2) hget hA (by show 2 + 1 <= 11; omega)
  have wr3 : ∀ d x, qT (slot M' b 97 A B (qC d v1 v2)) b (i * 11 + 3) [x] = some (slot M' b 97 A B (qJ (qC d v1 v2) 3 [x])) := fun d x => zQ (j := 3) hget hA (by show 3 + 1 <= 11; omega)
  have wr4 : ∀ d x, qT (slot M' b 97 A B (qC d v1 v2)) b (i * 11 + 4) [x] = some (slot M' b 97 A B (qJ (qC d v1 v2) 4 [x])) := fun d x => zQ (j := 4) hget hA (by show 4 + 1 <= 11; omega)
  have wr5 : ∀ d x, qT (slot M' b 97 A B (qC d v1 v2)) b (i * 11 + 5) [x] = some (slot M' b 97 A B (qJ (qC d v1 v2) 5 [x])) := fun d x => zQ (j := 5) hget hA (by show 5 + 1 <= 11; omega)
  have wr6 : ∀ d x, qT (slot M' b 97 A B (qC d v1 v2)) b (i * 11 + 6) [x] = some (slot M' b 97 A B (qJ (qC d v1 v2) 6 [x])) := fun d x => zQ (j := 6) hget hA (by show 6 + 1 <= 11; omega)
  have wr7 : ∀ d x, qT (slot M' b 97 A B (qC d v1 v2)) b (i * 11 + 7) [x] = some (slot M' b 97 A B (qJ (qC d v1 v2) 7 [x])) := fun d x => zQ (j := 7) hget hA (by show 7 + 1 <= 11; omega)
  have wr8 : ∀ d x, qT (slot M' b 97 A B (qC d v1 v2)) b (i * 11 + 8) [x] = some (slot M' b 97 A B (qJ (qC d v1 v2) 8 [x])) := fun d x => zQ (j := 8) hget hA (by show 8 + 1 <= 11; omega)
  have cl1 : ∀ d, hcel (slot M' b 97 A B (qC d v1 v2)) b (i * 11 + 9) = some v1 := fun d => slot_cel (j := 9) hget hA rfl
  rw [(slot_self hget).symm]
  simp (disch := omega) only [wk, seval, hx, wr0, wr1, wr2, wr3, wr4, wr5, wr6, wr7, wr8, wRecord, cl1, qI, Int.add_assoc, Int.reduceAdd]
  refine markText_c (k := q + 5) (by omega) ?_
  simp (disch := omega) only [wk, seval, hx, wr0, wr1, wr2, wr3, wr4, wr5, wr6, wr7, wr8, wRecord, cl1, qI, Int.add_assoc, Int.reduceAdd]
  obtain ⟨N1, hN1⟩ : ∃ N1, N1 = slot M' b 97 A B (qC ⟨q, q + 1, ⟨q + 2, q + 3, q + 4, mT (q + 5), q + 6, q + 7⟩, q + 8, E.vals, E.pairs⟩ v1 v2) := ⟨_, rfl⟩
  have n1 : ∀ x, x ≠ b -> Tk.hget N1 x = Tk.hget M' x := fun x hx => by rw [hN1]; exact slot_ne hx
  have g1 : Tk.hget N1 b = some (blk (A ++ (qC ⟨q, q + 1, ⟨q + 2, q + 3, q + 4, mT (q + 5), q + 6, q + 7⟩, q + 8, E.vals, E.pairs⟩ v1 v2 ++ B)) 97) := by rw [hN1]; exact slot_get hget
  rw [<- hN1]
  refine HCalls_ch (w1.frame fun x hx => n1 x (nbb x (i1 x hx))) (fun g h0 R o dj kr => markIntS_c o dj (by omega) (by omega) kr) fun N2 u1 ch1 => ?_
  have g2 : Tk.hget N2 b = some (blk (A ++ (qC ⟨q, q + 1, ⟨q + 2, q + 3, q + 4, mT (q + 5), q + 6, q + 7⟩, q + 8, E.vals, E.pairs⟩ v1 v2 ++ B)) 97) := by rw [ch1 b (fun c => nbb b (i1 b c) rfl)]; exact g1
  have cl2 : hcel N2 b (i * 11 + 10) = some v2 := cel_at g2 hA rfl
  simp (disch := omega) only [wk, seval, hx, cl2]
  refine HCalls_ch (w2.frame fun x hx => by rw [ch1 x (fun c => su.1 x c hx), n1 x (nbb x (i2 x hx))]) (fun g h0 R o dj kr => markPairS_c o dj (by omega) (by omega) kr) fun N3 u2 ch2 => ?_
  have g3 : Tk.hget N3 b = some (blk (A ++ (qC ⟨q, q + 1, ⟨q + 2, q + 3, q + 4, mT (q + 5), q + 6, q + 7⟩, q + 8, E.vals, E.pairs⟩ v1 v2 ++ B)) 97) := by rw [ch2 b (fun c => nbb b (i2 b c) rfl)]; exact g2
  simp (disch := omega) only [wk, seval, qI]
  have hf : ∀ x, x ≠ b -> ¬ Ss i x -> Tk.hget N3 x = Tk.hget M' x := fun x hb hn => by
   rw [ch2 x (fun c => hn (i2 x c)), ch1 x (fun c => hn (i1 x c)), n1 x hb]
  refine ⟨l.length - (i + 1), by omega, N3, .refl _, i + 1, ?_, ?_, ?_, by omega, rfl⟩
  ·rw [hsum, hcn]
   simp only [List.cons.injEq, Value.int.injEq, and_true, true_and]
   refine ⟨by omega, by omega⟩
  ·exact hch.trans fun x hn => hf x (fun c => hn ((D.dom x).2 (.inl c))) fun c => hn ((D.dom x).2 (.inr ⟨i, hiL, c⟩))
  ·rw [<- hset]
   refine .inr ⟨b, cap, css.set i (qC ⟨q, q + 1, ⟨q + 2, q + 3, q + 4, mT (q + 5), q + 6, q + 7⟩, q + 8, E.vals, E.pairs⟩ v1 v2), sp, Ss, by rw [List.length_set]; exact hv0, by rw [List.length_set]; exact hc, ?_, D.step WRecord.fr hiL (a' := (mkRec mT) q E) rfl (by rw [hset2 _ rfl]; exact g3) ?_ hf⟩
   ·rw [hset2 _ rfl, <- hs, hAB, hcs]; simp only [List.length_append]; rfl
   ·exact ⟨v1, v2, S1, S2, rfl, u1.frame fun x hx => ch2 x (su.1 x hx), u2, su⟩
 ·have hi' : i = l.length := by omega
  subst hi'
  rw [List.take_length] at *
  rw [List.drop_length, List.append_nil] at hd
  exact .of (kr M' hd hch)
end Go.Proofs.YtgbapakcfmgahaaGreatDoor
end

section
set_option maxRecDepth 20000
attribute [local irreducible] Go.Tk.vc Go.Tk.vops Go.Tk.vdr Go.Tk.vop Go.Tk.vfl Go.Tk.HCalls
namespace Go.Proofs.YtgbapakcfmgahaaGreatDoor
open Go Go.Tk
end Go.Proofs.YtgbapakcfmgahaaGreatDoor
end

section
set_option maxRecDepth 20000
attribute [local irreducible] Go.Tk.vc Go.Tk.vops Go.Tk.vdr Go.Tk.vop Go.Tk.vfl Go.Tk.HCalls
namespace Go.Proofs.YtgbapakcfmgahaaGreatDoor
open Go Go.Tk
set_option maxHeartbeats 1000000 in
theorem markToldS_c {M : H} {v : Value} {l : List DTold} {S : Nat -> Prop} {k : Int} (d : dR 54 WTold 2 M v l S) (hl : sumL cnTold l <= 33554432) (hk : 1 <= k /\ k <= 4294967296) {R : Ending -> H -> Prop}
  (kr : ∀ M', dR 54 WTold 2 M' v (mkL mkTold cnTold k l) S -> Ch S M M' -> R (.returned (.int .i64 (k + sumL cnTold l))) M') : HCalls Tryz.prog 77 #[v, .int .i64 k] M R := by
 refine qB (args := [v, .int .i64 k]) Tryz.func77 ir77 ?_
 have hlen : ∀ {f : Value -> Prop}, lenSK v f = f (.int .i64 l.length) := by rcases d with ⟨rfl, rfl, _⟩ | ⟨b, cap, css, sp, Ss, rfl, _⟩ <;> exact fun {f} => rfl
 have hll0 : l.length <= 33554432 := by
  have h1 := sumL_le (f := fun _ => 1) (cnt := fun _ => 1) (l := l) (c := 0) (d := 1) (fun a _ => by omega)
  have h2 : l.length <= sumL cnTold l := by
   clear hlen d kr hl h1
   induction l with
   | nil => simp
   | cons a l ih => simp only [List.length_cons, sumL]; have : 1 <= cnTold a := by unfold cnTold; omega
                    omega
  omega
 simp only [wk, seval]
 refine qS [5, 1] (fun n vs M' => ∃ (i : Nat), vs = [.int .i64 i, .int .i64 (k + sumL cnTold (l.take i))] /\ Ch S M M' /\ dR 54 WTold 2 M' v (mkL mkTold cnTold k (l.take i) ++ l.drop i) S /\ i <= l.length /\ n = l.length - i) l.length rfl ⟨0, by simp [sumL], Ch.refl _ _, by simpa [mkL] using d, by omega, rfl⟩ ?_
 rintro n f M' ⟨i, hv, hch, hd, hi, rfl⟩
 simp only [lm4] at hv
 simp only [wk, seval, wr, hv.1, hv.2, hlen]
 refine qF (fun c1 => ?_) fun c1 => ?_
 ·have hi2 : i < l.length := by omega
  have hset := mkL_set mkTold cnTold k l i hi2
  have hsum := sumL_more cnTold hi2
  have hle := sumL_take cnTold l (i + 1)
  obtain ⟨L, hL⟩ : ∃ L, L = mkL mkTold cnTold k (l.take i) ++ l.drop i := ⟨_, rfl⟩
  have hll : L.length = l.length := by rw [hL, List.length_append, mkL_len, List.length_take, List.length_drop]; omega
  have hcur : ∀ h2 : i < L.length, L[i] = l[i] := by subst hL; exact fun h2 => mkL_cur mkTold cnTold k l i hi2 h2
  obtain ⟨q, hq⟩ : ∃ q : Int, q = k + sumL cnTold (l.take i) := ⟨_, rfl⟩
  rw [<- hL] at hd hset
  rw [<- hq] at hset ⊢
  rcases hd with ⟨_, e0, _⟩ | ⟨b, cap, css, sp, Ss, hv0, hc, hs, D⟩
  ·rw [e0] at hll; simp at hll; omega
  have hiL : i < L.length := by omega
  obtain ⟨A, B, hAB, hA, hset2⟩ := D.split hiL
  have hW := D.el i (by rw [D.len]; exact hiL) hiL
  rw [hcur hiL] at hW
  obtain ⟨E, hE⟩ : ∃ E, E = l[i] := ⟨_, rfl⟩
  rw [<- hE] at hW hset hsum
  have hcn : cnTold E = 1 + 2 * E.pairs.length := rfl
  have hqb : 1 <= q /\ q + cnTold E <= 4328521728 := by omega
  obtain ⟨v1, hcs, w1⟩ := hW
  have i1 : ∀ x, Ss i x -> Ss i x := fun x hx => hx
  have hget : hget M' b = some (blk (A ++ (zA E v1 ++ B)) 54) := by rw [D.get, hAB, hcs]
  have hx := idx_top (sz := 2) hv0 hiL
  have nbb : ∀ x, Ss i x -> x ≠ b := fun x hx e => D.nb i hiL (e ▸ hx)
  have wr0 : ∀ d x, qT (slot M' b 54 A B (zA d v1)) b (i * 2) [x] = some (slot M' b 54 A B (qJ (zA d v1) 0 [x])) := fun d x => zQ (j := 0) hget hA (by show 0 + 1 <= 2; omega)
  have cl1 : ∀ d, hcel (slot M' b 54 A B (zA d v1)) b (i * 2 + 1) = some v1 := fun d => slot_cel (j := 1) hget hA rfl
  rw [(slot_self hget).symm]
  simp (disch := omega) only [wk, seval, hx, wr0, wTold, cl1, qI, Int.add_assoc, Int.reduceAdd]
  obtain ⟨N1, hN1⟩ : ∃ N1, N1 = slot M' b 54 A B (zA ⟨q, E.pairs⟩ v1) := ⟨_, rfl⟩
  have n1 : ∀ x, x ≠ b -> Tk.hget N1 x = Tk.hget M' x := fun x hx => by rw [hN1]; exact slot_ne hx
  have g1 : Tk.hget N1 b = some (blk (A ++ (zA ⟨q, E.pairs⟩ v1 ++ B)) 54) := by rw [hN1]; exact slot_get hget
  rw [<- hN1]
  refine HCalls_ch (w1.frame fun x hx => n1 x (nbb x (i1 x hx))) (fun g h0 R o dj kr => markPairS_c o dj (by omega) (by omega) kr) fun N2 u1 ch1 => ?_
  have g2 : Tk.hget N2 b = some (blk (A ++ (zA ⟨q, E.pairs⟩ v1 ++ B)) 54) := by rw [ch1 b (fun c => nbb b (i1 b c) rfl)]; exact g1
  simp (disch := omega) only [wk, seval, qI]
  have hf : ∀ x, x ≠ b -> ¬ Ss i x -> Tk.hget N2 x = Tk.hget M' x := fun x hb hn => by
   rw [ch1 x (fun c => hn (i1 x c)), n1 x hb]
  refine ⟨l.length - (i + 1), by omega, N2, .refl _, i + 1, ?_, ?_, ?_, by omega, rfl⟩
  ·rw [hsum, hcn]
   simp only [List.cons.injEq, Value.int.injEq, and_true, true_and]
   refine ⟨by omega, by omega⟩
  ·exact hch.trans fun x hn => hf x (fun c => hn ((D.dom x).2 (.inl c))) fun c => hn ((D.dom x).2 (.inr ⟨i, hiL, c⟩))
  ·rw [<- hset]
   refine .inr ⟨b, cap, css.set i (zA ⟨q, E.pairs⟩ v1), sp, Ss, by rw [List.length_set]; exact hv0, by rw [List.length_set]; exact hc, ?_, D.step WTold.fr hiL (a' := mkTold q E) rfl (by rw [hset2 _ rfl]; exact g2) ?_ hf⟩
   ·rw [hset2 _ rfl, <- hs, hAB, hcs]; simp only [List.length_append]; rfl
   ·exact ⟨v1, rfl, u1⟩
 ·have hi' : i = l.length := by omega
  subst hi'
  rw [List.take_length] at *
  rw [List.drop_length, List.append_nil] at hd
  exact .of (kr M' hd hch)
set_option maxHeartbeats 1000000 in
theorem markLiveS_c {M : H} {v : Value} {l : List DLive} {S : Nat -> Prop} {k : Int} (d : dR 50 WLive 12 M v l S) (hl : sumL cnLive l <= 33554432) (hk : 1 <= k /\ k <= 1073741824) {R : Ending -> H -> Prop}
  (kr : ∀ M', dR 50 WLive 12 M' v (mkL (mkLive mT) cnLive k l) S -> Ch S M M' -> R (.returned (.int .i64 (k + sumL cnLive l))) M') : HCalls Tryz.prog 37 #[v, .int .i64 k] M R := by
 refine qB (args := [v, .int .i64 k]) Tryz.func37 ir37 ?_
 have hlen : ∀ {f : Value -> Prop}, lenSK v f = f (.int .i64 l.length) := by rcases d with ⟨rfl, rfl, _⟩ | ⟨b, cap, css, sp, Ss, rfl, _⟩ <;> exact fun {f} => rfl
 have hll0 : l.length <= 33554432 := by
  have h1 := sumL_le (f := fun _ => 1) (cnt := fun _ => 1) (l := l) (c := 0) (d := 1) (fun a _ => by omega)
  have h2 : l.length <= sumL cnLive l := by
   clear hlen d kr hl h1
   induction l with
   | nil => simp
   | cons a l ih => simp only [List.length_cons, sumL]; have : 1 <= cnLive a := by unfold cnLive; omega
                    omega
  omega
 simp only [wk, seval]
 refine qS [5, 1] (fun n vs M' => ∃ (i : Nat), vs = [.int .i64 i, .int .i64 (k + sumL cnLive (l.take i))] /\ Ch S M M' /\ dR 50 WLive 12 M' v (mkL (mkLive mT) cnLive k (l.take i) ++ l.drop i) S /\ i <= l.length /\ n = l.length - i) l.length rfl ⟨0, by simp [sumL], Ch.refl _ _, by simpa [mkL] using d, by omega, rfl⟩ ?_
 rintro n f M' ⟨i, hv, hch, hd, hi, rfl⟩
 simp only [lm4] at hv
 simp only [wk, seval, wr, hv.1, hv.2, hlen]
 refine qF (fun c1 => ?_) fun c1 => ?_
 ·have hi2 : i < l.length := by omega
  have hset := mkL_set (mkLive mT) cnLive k l i hi2
  have hsum := sumL_more cnLive hi2
  have hle := sumL_take cnLive l (i + 1)
  obtain ⟨L, hL⟩ : ∃ L, L = mkL (mkLive mT) cnLive k (l.take i) ++ l.drop i := ⟨_, rfl⟩
  have hll : L.length = l.length := by rw [hL, List.length_append, mkL_len, List.length_take, List.length_drop]; omega
  have hcur : ∀ h2 : i < L.length, L[i] = l[i] := by subst hL; exact fun h2 => mkL_cur (mkLive mT) cnLive k l i hi2 h2
  obtain ⟨q, hq⟩ : ∃ q : Int, q = k + sumL cnLive (l.take i) := ⟨_, rfl⟩
  rw [<- hL] at hd hset
  rw [<- hq] at hset ⊢
  rcases hd with ⟨_, e0, _⟩ | ⟨b, cap, css, sp, Ss, hv0, hc, hs, D⟩
  ·rw [e0] at hll; simp at hll; omega
  have hiL : i < L.length := by omega
  obtain ⟨A, B, hAB, hA, hset2⟩ := D.split hiL
  have hW := D.el i (by rw [D.len]; exact hiL) hiL
  rw [hcur hiL] at hW
  obtain ⟨E, hE⟩ : ∃ E, E = l[i] := ⟨_, rfl⟩
  rw [<- hE] at hW hset hsum
  have hcn : cnLive E = 10 + E.locked.length + sumL cnTold E.told := rfl
  have hqb : 1 <= q /\ q + cnLive E <= 1107296256 := by omega
  obtain ⟨v1, v2, S1, S2, hcs, w1, w2, su⟩ := hW
  have i1 : ∀ x, S1 x -> Ss i x := fun x hx => (su.2 x).2 (.inl hx)
  have i2 : ∀ x, S2 x -> Ss i x := fun x hx => (su.2 x).2 (.inr hx)
  have hget : hget M' b = some (blk (A ++ (qE E v1 v2 ++ B)) 50) := by rw [D.get, hAB, hcs]
  have hx := idx_top (sz := 12) hv0 hiL
  have nbb : ∀ x, Ss i x -> x ≠ b := fun x hx e => D.nb i hiL (e ▸ hx)
  have wr0 : ∀ d x, qT (slot M' b 50 A B (qE d v1 v2)) b (i * 12) [x] = some (slot M' b 50 A B (qJ (qE d v1 v2) 0 [x])) := fun d x => zQ (j := 0) hget hA (by show 0 + 1 <= 12; omega)
  have wr1 : ∀ d x, qT (slot M' b 50 A B (qE d v1 v2)) b (i * 12 + 1) [x] = some (slot M' b 50 A B (qJ (qE d v1 v2) 1 [x])) := fun d x => zQ (j := 1) hget hA (by show 1 + 1 <= 12; omega)
  have wr2 : ∀ d x, qT (slot M' b 50 A B (qE d v1 v2)) b (i * 12 + 2) [x] = some (slot M' b 50 A B (qJ (qE d v1 v2) 2 [x])) := fun d x => zQ (j := 2) hget hA (by show 2 + 1 <= 12; omega)
  have wr3 : ∀ d x, qT (slot M' b 50 A B (qE d v1 v2)) b (i * 12 + 3) [x] = some (slot M' b 50 A B (qJ (qE d v1 v2) 3 [x])) := fun d x => zQ (j := 3) hget hA (by show 3 + 1 <= 12; omega)
  have wr4 : ∀ d x, qT (slot M' b 50 A B (qE d v1 v2)) b (i * 12 + 4) [x] = some (slot M' b 50 A B (qJ (qE d v1 v2) 4 [x])) := fun d x => zQ (j := 4) hget hA (by show 4 + 1 <= 12; omega)
  have wr5 : ∀ d x, qT (slot M' b 50 A B (qE d v1 v2)) b (i * 12 + 5) [x] = some (slot M' b 50 A B (qJ (qE d v1 v2) 5 [x])) := fun d x => zQ (j := 5) hget hA (by show 5 + 1 <= 12; omega)
  have wr6 : ∀ d x, qT (slot M' b 50 A B (qE d v1 v2)) b (i * 12 + 6) [x] = some (slot M' b 50 A B (qJ (qE d v1 v2) 6 [x])) := fun d x => zQ (j := 6) hget hA (by show 6 + 1 <= 12; omega)
  have wr7 : ∀ d x, qT (slot M' b 50 A B (qE d v1 v2)) b (i * 12 + 7) [x] = some (slot M' b 50 A B (qJ (qE d v1 v2) 7 [x])) := fun d x => zQ (j := 7) hget hA (by show 7 + 1 <= 12; omega)
  have wr8 : ∀ d x, qT (slot M' b 50 A B (qE d v1 v2)) b (i * 12 + 8) [x] = some (slot M' b 50 A B (qJ (qE d v1 v2) 8 [x])) := fun d x => zQ (j := 8) hget hA (by show 8 + 1 <= 12; omega)
  have wr9 : ∀ d x, qT (slot M' b 50 A B (qE d v1 v2)) b (i * 12 + 9) [x] = some (slot M' b 50 A B (qJ (qE d v1 v2) 9 [x])) := fun d x => zQ (j := 9) hget hA (by show 9 + 1 <= 12; omega)
  have cl1 : ∀ d, hcel (slot M' b 50 A B (qE d v1 v2)) b (i * 12 + 10) = some v1 := fun d => slot_cel (j := 10) hget hA rfl
  rw [(slot_self hget).symm]
  simp (disch := omega) only [wk, seval, hx, wr0, wr1, wr2, wr3, wr4, wr5, wr6, wr7, wr8, wr9, wLive, cl1, qI, Int.add_assoc, Int.reduceAdd]
  refine markText_c (k := q + 7) (by omega) ?_
  simp (disch := omega) only [wk, seval, hx, wr0, wr1, wr2, wr3, wr4, wr5, wr6, wr7, wr8, wr9, wLive, cl1, qI, Int.add_assoc, Int.reduceAdd]
  obtain ⟨N1, hN1⟩ : ∃ N1, N1 = slot M' b 50 A B (qE ⟨q, q + 1, q + 2, q + 3, ⟨q + 4, q + 5, q + 6, mT (q + 7), q + 8, q + 9⟩, E.locked, E.told⟩ v1 v2) := ⟨_, rfl⟩
  have n1 : ∀ x, x ≠ b -> Tk.hget N1 x = Tk.hget M' x := fun x hx => by rw [hN1]; exact slot_ne hx
  have g1 : Tk.hget N1 b = some (blk (A ++ (qE ⟨q, q + 1, q + 2, q + 3, ⟨q + 4, q + 5, q + 6, mT (q + 7), q + 8, q + 9⟩, E.locked, E.told⟩ v1 v2 ++ B)) 50) := by rw [hN1]; exact slot_get hget
  rw [<- hN1]
  refine HCalls_ch (w1.frame fun x hx => n1 x (nbb x (i1 x hx))) (fun g h0 R o dj kr => markIntS_c o dj (by omega) (by omega) kr) fun N2 u1 ch1 => ?_
  have g2 : Tk.hget N2 b = some (blk (A ++ (qE ⟨q, q + 1, q + 2, q + 3, ⟨q + 4, q + 5, q + 6, mT (q + 7), q + 8, q + 9⟩, E.locked, E.told⟩ v1 v2 ++ B)) 50) := by rw [ch1 b (fun c => nbb b (i1 b c) rfl)]; exact g1
  have cl2 : hcel N2 b (i * 12 + 11) = some v2 := cel_at g2 hA rfl
  simp (disch := omega) only [wk, seval, hx, cl2]
  refine markToldS_c (w2.frame WTold.fr fun x hx => by rw [ch1 x (fun c => su.1 x c hx), n1 x (nbb x (i2 x hx))]) (by omega) (by omega) fun N3 u2 ch2 => ?_
  have g3 : Tk.hget N3 b = some (blk (A ++ (qE ⟨q, q + 1, q + 2, q + 3, ⟨q + 4, q + 5, q + 6, mT (q + 7), q + 8, q + 9⟩, E.locked, E.told⟩ v1 v2 ++ B)) 50) := by rw [ch2 b (fun c => nbb b (i2 b c) rfl)]; exact g2
  simp (disch := omega) only [wk, seval, qI]
  have hf : ∀ x, x ≠ b -> ¬ Ss i x -> Tk.hget N3 x = Tk.hget M' x := fun x hb hn => by
   rw [ch2 x (fun c => hn (i2 x c)), ch1 x (fun c => hn (i1 x c)), n1 x hb]
  refine ⟨l.length - (i + 1), by omega, N3, .refl _, i + 1, ?_, ?_, ?_, by omega, rfl⟩
  ·rw [hsum, hcn]
   simp only [List.cons.injEq, Value.int.injEq, and_true, true_and]
   refine ⟨by omega, by omega⟩
  ·exact hch.trans fun x hn => hf x (fun c => hn ((D.dom x).2 (.inl c))) fun c => hn ((D.dom x).2 (.inr ⟨i, hiL, c⟩))
  ·rw [<- hset]
   refine .inr ⟨b, cap, css.set i (qE ⟨q, q + 1, q + 2, q + 3, ⟨q + 4, q + 5, q + 6, mT (q + 7), q + 8, q + 9⟩, E.locked, E.told⟩ v1 v2), sp, Ss, by rw [List.length_set]; exact hv0, by rw [List.length_set]; exact hc, ?_, D.step WLive.fr hiL (a' := (mkLive mT) q E) rfl (by rw [hset2 _ rfl]; exact g3) ?_ hf⟩
   ·rw [hset2 _ rfl, <- hs, hAB, hcs]; simp only [List.length_append]; rfl
   ·exact ⟨v1, v2, S1, S2, rfl, u1.frame fun x hx => ch2 x (su.1 x hx), u2, su⟩
 ·have hi' : i = l.length := by omega
  subst hi'
  rw [List.take_length] at *
  rw [List.drop_length, List.append_nil] at hd
  exact .of (kr M' hd hch)
end Go.Proofs.YtgbapakcfmgahaaGreatDoor
end

section
set_option maxRecDepth 20000
attribute [local irreducible] Go.Tk.vc Go.Tk.vops Go.Tk.vdr Go.Tk.vop Go.Tk.vfl Go.Tk.HCalls
namespace Go.Proofs.YtgbapakcfmgahaaGreatDoor
open Go Go.Tk
end Go.Proofs.YtgbapakcfmgahaaGreatDoor
end

section
set_option maxRecDepth 20000
attribute [local irreducible] Go.Tk.vc Go.Tk.vops Go.Tk.vdr Go.Tk.vop Go.Tk.vfl Go.Tk.HCalls
namespace Go.Proofs.YtgbapakcfmgahaaGreatDoor
open Go Go.Tk
theorem eqRecord_c {h : H} {x y : DRecord} {v1 v2 w1 w2 : Value} (rx : sRecord h x v1 v2) (ry : sRecord h y w1 w2) (hx : bRecord x) {R : Ending -> H -> Prop} (k : R (.returned (.bool (decide (x = y)))) h) :
  HCalls Tryz.prog 74 #[.agg (qC x v1 v2).toArray, .agg (qC y w1 w2).toArray] h R := by
 refine qB (args := [.agg (qC x v1 v2).toArray, .agg (qC y w1 w2).toArray]) Tryz.func74 ir74 ?_
 simp only [wk, seval, wRecord]
 refine qA fun j1 h1 => ?_
 simp only [wk, seval, wRecord]
 refine qA fun j2 h2 => ?_
 have n := fresh h2
 have sb := fun o => Sub.cons (o := o) h2 (Sub.cons h1 (Sub.refl h))
 simp only [wk, seval, wRecord, zE, n.1, n.2.1]
 refine zK (fun d => ⟨h, Sub.cons h2 (Sub.cons h1 (Sub.refl h)), kF k (fun e => d (by rw [e]))⟩) fun d0 => ?_
 refine zK (fun d => ⟨h, Sub.cons h2 (Sub.cons h1 (Sub.refl h)), kF k (fun e => d (by rw [e]))⟩) fun d1 => ?_
 refine eqCall_c (x := x.call) (y := y.call) ?_
 simp only [wk, seval, wRecord, zE, n.1, n.2.1]
 refine zK (fun d => ⟨h, Sub.cons h2 (Sub.cons h1 (Sub.refl h)), kF k (fun e => d (by rw [e]))⟩) fun d2 => ?_
 refine zK (fun d => ⟨h, Sub.cons h2 (Sub.cons h1 (Sub.refl h)), kF k (fun e => d (by rw [e]))⟩) fun d3 => ?_
 refine eqIntS_c (rx.1.sub (sb _)) (ry.1.sub (sb _)) (by have := hx.v; unfold lim at this; omega) ?_
 simp only [wk, seval, wRecord, zE, n.1, n.2.1]
 refine zK (fun d => ⟨h, Sub.cons h2 (Sub.cons h1 (Sub.refl h)), kF k (fun e => d (by rw [e]))⟩) fun d4 => ?_
 refine eqPairS_c (rx.2.sub (sb _)) (ry.2.sub (sb _)) (by have := hx.p; unfold lim at this; omega) ?_
 simp only [wk, seval, wRecord, zE, n.1, n.2.1]
 refine zK (fun d => ⟨h, Sub.cons h2 (Sub.cons h1 (Sub.refl h)), kF k (fun e => d (by rw [e]))⟩) fun d5 => ?_
 refine ⟨h, Sub.cons h2 (Sub.cons h1 (Sub.refl h)), kT k ?_⟩
 cases x; cases y; simp_all
theorem eqRecordS_c {h : H} {a b : Value} {la lb : List DRecord} (ra : rRs h (rRecord h) 11 a la) (rb : rRs h (rRecord h) 11 b lb) (hb : ∀ x ∈ la, bRecord x) (ha : la.length <= 1099511627776) {R : Ending -> H -> Prop} (k : R (.returned (.bool (decide (la = lb)))) h) :
  HCalls Tryz.prog 33 #[a, b] h R := by
 refine qB (args := [a, b]) Tryz.func33 ir33 ?_
 simp only [wk, seval, ra.len, rb.len]
 split
 ·rename_i c
  exact .of (kF k fun e => c (by rw [e]))
 ·rename_i c
  have hl : la.length = lb.length := by omega
  refine qS [5] (fun n vs h' => ∃ i : Nat, vs = [.int .i64 i] /\ h' = h /\ i <= la.length /\ n = la.length - i /\ la.take i = lb.take i) la.length rfl ⟨0, rfl, rfl, by omega, by omega, by simp⟩ ?_
  rintro n f h' ⟨i, hv, rfl, hi, rfl, ht⟩
  simp only [lm4] at hv
  simp only [wk, seval, wr, hv, ra.len, rb.len]
  split
  ·rename_i c1
   have hia : i < la.length := by omega
   have hib : i < lb.length := by omega
   obtain ⟨b1, o1, cs1, hx1, e1, v1, v2, rfl, s1⟩ := zU ra hia
   obtain ⟨b2, o2, cs2, hx2, e2, w1, w2, rfl, s2⟩ := zU rb hib
   refine qY h' (Sub.refl _) ?_
   simp only [wk, seval, hx1, hx2, e1, e2, Sub.refl h']
   refine eqRecord_c s1 s2 (hb _ (List.getElem_mem hia)) ?_
   simp only [wk, seval, Sub.refl h']
   refine zK (fun d => .of (kF k (ne_at hia hib d))) fun d => ?_
   simp (disch := omega) only [qI]
   exact ⟨la.length - (i + 1), by omega, h', .refl _, i + 1, by simp, rfl, by omega, rfl, take_more hia hib ht d⟩
  ·rename_i c1
   exact .of (kT k (take_all (by omega) hl ht))
theorem eqTold_c {h : H} {x y : DTold} {v1 w1 : Value} (rx : sTold h x v1) (ry : sTold h y w1) (hx : bTold x) {R : Ending -> H -> Prop} (k : R (.returned (.bool (decide (x = y)))) h) :
  HCalls Tryz.prog 145 #[.agg (zA x v1).toArray, .agg (zA y w1).toArray] h R := by
 refine qB (args := [.agg (zA x v1).toArray, .agg (zA y w1).toArray]) Tryz.func145 ir145 ?_
 simp only [wk, seval, wTold]
 refine qA fun j1 h1 => ?_
 simp only [wk, seval, wTold]
 refine qA fun j2 h2 => ?_
 have n := fresh h2
 have sb := fun o => Sub.cons (o := o) h2 (Sub.cons h1 (Sub.refl h))
 simp only [wk, seval, wTold, zE, n.1, n.2.1]
 refine zK (fun d => ⟨h, Sub.cons h2 (Sub.cons h1 (Sub.refl h)), kF k (fun e => d (by rw [e]))⟩) fun d0 => ?_
 refine eqPairS_c (rx.sub (sb _)) (ry.sub (sb _)) (by have := hx; unfold bTold lim at this; omega) ?_
 simp only [wk, seval, wTold, zE, n.1, n.2.1]
 refine zK (fun d => ⟨h, Sub.cons h2 (Sub.cons h1 (Sub.refl h)), kF k (fun e => d (by rw [e]))⟩) fun d1 => ?_
 refine ⟨h, Sub.cons h2 (Sub.cons h1 (Sub.refl h)), kT k ?_⟩
 cases x; cases y; simp_all
theorem eqToldS_c {h : H} {a b : Value} {la lb : List DTold} (ra : rRs h (rTold h) 2 a la) (rb : rRs h (rTold h) 2 b lb) (hb : ∀ x ∈ la, bTold x) (ha : la.length <= 1099511627776) {R : Ending -> H -> Prop} (k : R (.returned (.bool (decide (la = lb)))) h) :
  HCalls Tryz.prog 117 #[a, b] h R := by
 refine qB (args := [a, b]) Tryz.func117 ir117 ?_
 simp only [wk, seval, ra.len, rb.len]
 split
 ·rename_i c
  exact .of (kF k fun e => c (by rw [e]))
 ·rename_i c
  have hl : la.length = lb.length := by omega
  refine qS [5] (fun n vs h' => ∃ i : Nat, vs = [.int .i64 i] /\ h' = h /\ i <= la.length /\ n = la.length - i /\ la.take i = lb.take i) la.length rfl ⟨0, rfl, rfl, by omega, by omega, by simp⟩ ?_
  rintro n f h' ⟨i, hv, rfl, hi, rfl, ht⟩
  simp only [lm4] at hv
  simp only [wk, seval, wr, hv, ra.len, rb.len]
  split
  ·rename_i c1
   have hia : i < la.length := by omega
   have hib : i < lb.length := by omega
   obtain ⟨b1, o1, cs1, hx1, e1, v1, rfl, s1⟩ := zU ra hia
   obtain ⟨b2, o2, cs2, hx2, e2, w1, rfl, s2⟩ := zU rb hib
   refine qY h' (Sub.refl _) ?_
   simp only [wk, seval, hx1, hx2, e1, e2, Sub.refl h']
   refine eqTold_c s1 s2 (hb _ (List.getElem_mem hia)) ?_
   simp only [wk, seval, Sub.refl h']
   refine zK (fun d => .of (kF k (ne_at hia hib d))) fun d => ?_
   simp (disch := omega) only [qI]
   exact ⟨la.length - (i + 1), by omega, h', .refl _, i + 1, by simp, rfl, by omega, rfl, take_more hia hib ht d⟩
  ·rename_i c1
   exact .of (kT k (take_all (by omega) hl ht))
theorem eqLive_c {h : H} {x y : DLive} {v1 v2 w1 w2 : Value} (rx : sLive h x v1 v2) (ry : sLive h y w1 w2) (hx : bLive x) {R : Ending -> H -> Prop} (k : R (.returned (.bool (decide (x = y)))) h) :
  HCalls Tryz.prog 75 #[.agg (qE x v1 v2).toArray, .agg (qE y w1 w2).toArray] h R := by
 refine qB (args := [.agg (qE x v1 v2).toArray, .agg (qE y w1 w2).toArray]) Tryz.func75 ir75 ?_
 simp only [wk, seval, wLive]
 refine qA fun j1 h1 => ?_
 simp only [wk, seval, wLive]
 refine qA fun j2 h2 => ?_
 have n := fresh h2
 have sb := fun o => Sub.cons (o := o) h2 (Sub.cons h1 (Sub.refl h))
 simp only [wk, seval, wLive, zE, n.1, n.2.1]
 refine zK (fun d => ⟨h, Sub.cons h2 (Sub.cons h1 (Sub.refl h)), kF k (fun e => d (by rw [e]))⟩) fun d0 => ?_
 refine zK (fun d => ⟨h, Sub.cons h2 (Sub.cons h1 (Sub.refl h)), kF k (fun e => d (by rw [e]))⟩) fun d1 => ?_
 refine zK (fun d => ⟨h, Sub.cons h2 (Sub.cons h1 (Sub.refl h)), kF k (fun e => d (by rw [e]))⟩) fun d2 => ?_
 refine zK (fun d => ⟨h, Sub.cons h2 (Sub.cons h1 (Sub.refl h)), kF k (fun e => d (by rw [e]))⟩) fun d3 => ?_
 refine eqCall_c (x := x.call) (y := y.call) ?_
 simp only [wk, seval, wLive, zE, n.1, n.2.1]
 refine zK (fun d => ⟨h, Sub.cons h2 (Sub.cons h1 (Sub.refl h)), kF k (fun e => d (by rw [e]))⟩) fun d4 => ?_
 refine eqIntS_c (rx.1.sub (sb _)) (ry.1.sub (sb _)) (by have := hx.l; unfold lim at this; omega) ?_
 simp only [wk, seval, wLive, zE, n.1, n.2.1]
 refine zK (fun d => ⟨h, Sub.cons h2 (Sub.cons h1 (Sub.refl h)), kF k (fun e => d (by rw [e]))⟩) fun d5 => ?_
 refine eqToldS_c (rx.2.sub (sb _) fun c a q => rTold.sub (sb _) q) (ry.2.sub (sb _) fun c a q => rTold.sub (sb _) q) hx.ts (by have := hx.t; unfold lim at this; omega) ?_
 simp only [wk, seval, wLive, zE, n.1, n.2.1]
 refine zK (fun d => ⟨h, Sub.cons h2 (Sub.cons h1 (Sub.refl h)), kF k (fun e => d (by rw [e]))⟩) fun d6 => ?_
 refine ⟨h, Sub.cons h2 (Sub.cons h1 (Sub.refl h)), kT k ?_⟩
 cases x; cases y; simp_all
theorem eqLiveS_c {h : H} {a b : Value} {la lb : List DLive} (ra : rRs h (rLive h) 12 a la) (rb : rRs h (rLive h) 12 b lb) (hb : ∀ x ∈ la, bLive x) (ha : la.length <= 1099511627776) {R : Ending -> H -> Prop} (k : R (.returned (.bool (decide (la = lb)))) h) :
  HCalls Tryz.prog 34 #[a, b] h R := by
 refine qB (args := [a, b]) Tryz.func34 ir34 ?_
 simp only [wk, seval, ra.len, rb.len]
 split
 ·rename_i c
  exact .of (kF k fun e => c (by rw [e]))
 ·rename_i c
  have hl : la.length = lb.length := by omega
  refine qS [5] (fun n vs h' => ∃ i : Nat, vs = [.int .i64 i] /\ h' = h /\ i <= la.length /\ n = la.length - i /\ la.take i = lb.take i) la.length rfl ⟨0, rfl, rfl, by omega, by omega, by simp⟩ ?_
  rintro n f h' ⟨i, hv, rfl, hi, rfl, ht⟩
  simp only [lm4] at hv
  simp only [wk, seval, wr, hv, ra.len, rb.len]
  split
  ·rename_i c1
   have hia : i < la.length := by omega
   have hib : i < lb.length := by omega
   obtain ⟨b1, o1, cs1, hx1, e1, v1, v2, rfl, s1⟩ := zU ra hia
   obtain ⟨b2, o2, cs2, hx2, e2, w1, w2, rfl, s2⟩ := zU rb hib
   refine qY h' (Sub.refl _) ?_
   simp only [wk, seval, hx1, hx2, e1, e2, Sub.refl h']
   refine eqLive_c s1 s2 (hb _ (List.getElem_mem hia)) ?_
   simp only [wk, seval, Sub.refl h']
   refine zK (fun d => .of (kF k (ne_at hia hib d))) fun d => ?_
   simp (disch := omega) only [qI]
   exact ⟨la.length - (i + 1), by omega, h', .refl _, i + 1, by simp, rfl, by omega, rfl, take_more hia hib ht d⟩
  ·rename_i c1
   exact .of (kT k (take_all (by omega) hl ht))
end Go.Proofs.YtgbapakcfmgahaaGreatDoor
end

section
set_option maxRecDepth 20000
attribute [local irreducible] Go.Tk.vc Go.Tk.vops Go.Tk.vdr Go.Tk.vop Go.Tk.vfl Go.Tk.HCalls
namespace Go.Proofs.YtgbapakcfmgahaaGreatDoor
open Go Go.Tk
theorem szCallX_c {h : H} {c : DCall} {left : Int} (hl : 0 <= left /\ left <= 1048576) (ht : c.text.length <= 9223372036854775807) {R : Ending -> H -> Prop}
  (k : ∀ x : Int, (0 <= x -> x = left - c.text.length) -> x <= 1048576 -> R (.returned (.int .i64 x)) h) : HCalls Tryz.prog 78 #[.agg (zL c).toArray, .int .i64 left] h R := by
 refine qB (args := [.agg (zL c).toArray, .int .i64 left]) Tryz.func78 ir78 ?_
 simp only [wk, seval, zE]
 refine qA fun j hj => ?_
 simp (disch := omega) only [wk, seval, zE, qI]
 refine qF (fun c => ⟨h, Sub.cons hj (Sub.refl h), k (-1) (by omega) (by omega)⟩) fun c => ?_
 exact ⟨h, Sub.cons hj (Sub.refl h), k _ (fun _ => by omega) (by omega)⟩
def nRecord (h : H) (cs : List Value) (d : DRecord) : Prop := ∃ v1 v2, cs = qC d v1 v2 /\ rIn h eI 1 v1 d.vals /\ rIn h eP 2 v2 d.pairs
theorem nRecord.sub {g h : H} (s : Tk.Sub g h) {cs : List Value} {d : DRecord} (r : nRecord g cs d) : nRecord h cs d := by
 obtain ⟨v1, v2, e, r1, r2⟩ := r
 exact ⟨v1, v2, e, rIn.sub s r1, rIn.sub s r2⟩
def uRecord (d : DRecord) : Prop := d.call.text.length <= 9223372036854775807 /\ d.vals.length <= 9223372036854775807 /\ d.pairs.length <= 9223372036854775807
def nTold (h : H) (cs : List Value) (d : DTold) : Prop := ∃ v1, cs = zA d v1 /\ rIn h eP 2 v1 d.pairs
theorem nTold.sub {g h : H} (s : Tk.Sub g h) {cs : List Value} {d : DTold} (r : nTold g cs d) : nTold h cs d := by
 obtain ⟨v1, e, r1⟩ := r
 exact ⟨v1, e, rIn.sub s r1⟩
def uTold (d : DTold) : Prop := d.pairs.length <= 9223372036854775807
def nLive (h : H) (cs : List Value) (d : DLive) : Prop := ∃ v1 v2, cs = qE d v1 v2 /\ rIn h eI 1 v1 d.locked /\ rIRs h (nTold h) 2 v2 d.told
theorem nLive.sub {g h : H} (s : Tk.Sub g h) {cs : List Value} {d : DLive} (r : nLive g cs d) : nLive h cs d := by
 obtain ⟨v1, v2, e, r1, r2⟩ := r
 exact ⟨v1, v2, e, rIn.sub s r1, rIRs.sub s (fun _ _ q => nTold.sub s q) r2⟩
def uLive (d : DLive) : Prop := d.call.text.length <= 9223372036854775807 /\ d.locked.length <= 9223372036854775807 /\ d.told.length <= 9223372036854775807 /\ ∀ t ∈ d.told, uTold t
theorem szRecord_c {h : H} {d : DRecord} {v1 v2 : Value} {left : Int} (r1 : rIn h eI 1 v1 d.vals) (r2 : rIn h eP 2 v2 d.pairs) (hl : 0 <= left /\ left <= 1048576) (hu : uRecord d) {R : Ending -> H -> Prop} (k : ∀ x, (0 <= x -> x = left - szRec d) -> x <= 1048576 -> R (.returned (.int .i64 x)) h) :
  HCalls Tryz.prog 44 #[.agg (qC d v1 v2).toArray, .int .i64 left] h R := by
 refine qB (args := [.agg (qC d v1 v2).toArray, .int .i64 left]) Tryz.func44 ir44 ?_
 unfold uRecord at hu
 unfold szRec at k
 simp only [wk, seval, wRecord]
 refine qA fun j hj => ?_
 have sb := fun o => Sub.cons (o := o) hj (Sub.refl h)
 simp (disch := omega) only [wk, seval, wRecord, zE]
 refine szCallX_c ⟨by omega, by omega⟩ (by have := hu.1; omega) fun x0 a0 b0 => ?_
 simp (disch := omega) only [wk, seval, wRecord, zE]
 refine qF (fun c => ⟨h, sb _, k _ (fun q => absurd q (by omega)) (by omega)⟩) fun c0 => ?_
 have a0' := a0 (by omega)
 try simp (disch := omega) only [wk, seval, wRecord, zE]
 refine szIntS_c (r1.sub (sb _)) ⟨by omega, by omega⟩ (by have := hu.2.1; omega) fun x1 a1 b1 => ?_
 simp (disch := omega) only [wk, seval, wRecord, zE]
 refine qF (fun c => ⟨h, sb _, k _ (fun q => absurd q (by omega)) (by omega)⟩) fun c1 => ?_
 have a1' := a1 (by omega)
 try simp (disch := omega) only [wk, seval, wRecord, zE]
 refine szPairS_c (r2.sub (sb _)) ⟨by omega, by omega⟩ (by have := hu.2.2; omega) fun x2 a2 b2 => ?_
 simp (disch := omega) only [wk, seval, wRecord, zE]
 refine qF (fun c => ⟨h, sb _, k _ (fun q => absurd q (by omega)) (by omega)⟩) fun c2 => ?_
 have a2' := a2 (by omega)
 try simp (disch := omega) only [wk, seval, wRecord, zE]
 exact ⟨h, sb _, k _ (fun _ => by omega) (by omega)⟩
theorem szRecordS_c {h : H} {v : Value} {l : List DRecord} {left : Int} (r : rIRs h (nRecord h) 11 v l) (hl : 0 <= left /\ left <= 1048576) (hb : l.length <= 9223372036854775807) (hu : ∀ d ∈ l, uRecord d) {R : Ending -> H -> Prop} (k : ∀ x, (0 <= x -> x = left - (l.length + sumL szRec l : Nat)) -> x <= 1048576 -> R (.returned (.int .i64 x)) h) :
  HCalls Tryz.prog 13 #[v, .int .i64 left] h R := by
 refine qB (args := [v, .int .i64 left]) Tryz.func13 ir13 ?_
 simp (disch := omega) only [wk, seval, r.len, qI]
 refine qF (fun c => .of (k _ (fun q => absurd q (by omega)) (by omega))) fun c => ?_
 refine qS [5, 1] (fun n vs h' => ∃ (i : Nat) (x : Int), vs = [.int .i64 i, .int .i64 x] /\ h' = h /\ i <= l.length /\ n = l.length - i /\ 0 <= x /\ x = left - l.length - sumL szRec (l.take i)) l.length rfl ⟨0, _, rfl, rfl, by omega, rfl, by omega, by simp [sumL]⟩ ?_
 rintro n f h' ⟨i, x, hv, rfl, hi, rfl, hx0, hx1⟩
 simp only [lm4] at hv
 simp only [wk, seval, wr, hv.1, hv.2, r.len]
 refine qF (fun c1 => ?_) fun c1 => ?_
 ·have hi2 : i < l.length := by omega
  have hsum := sumL_more szRec hi2
  obtain ⟨b1, o1, cs1, hx2, e1, v1, v2, rfl, q1, q2⟩ := r.at hi2
  simp only [wk, seval, hx2, e1]
  refine szRecord_c q1 q2 ⟨hx0, by omega⟩ (hu _ (List.getElem_mem hi2)) fun y hy1 hy2 => ?_
  simp only [wk, seval]
  refine qF (fun c => .of (k _ (fun q => absurd q (by omega)) (by omega))) fun c3 => ?_
  have := hy1 (by omega)
  simp (disch := omega) only [wk, seval, qI]
  exact ⟨l.length - (i + 1), by omega, h', .refl _, i + 1, y, by simp, rfl, by omega, rfl, by omega, by omega⟩
 ·have hi' : i = l.length := by omega
  subst hi'
  rw [List.take_length] at *
  exact .of (k _ (fun _ => by omega) (by omega))
theorem szTold_c {h : H} {d : DTold} {v1 : Value} {left : Int} (r1 : rIn h eP 2 v1 d.pairs) (hl : 0 <= left /\ left <= 1048576) (hu : uTold d) {R : Ending -> H -> Prop} (k : ∀ x, (0 <= x -> x = left - szTold d) -> x <= 1048576 -> R (.returned (.int .i64 x)) h) :
  HCalls Tryz.prog 118 #[.agg (zA d v1).toArray, .int .i64 left] h R := by
 refine qB (args := [.agg (zA d v1).toArray, .int .i64 left]) Tryz.func118 ir118 ?_
 unfold uTold at hu
 unfold szTold at k
 simp only [wk, seval, wTold]
 refine qA fun j hj => ?_
 have sb := fun o => Sub.cons (o := o) hj (Sub.refl h)
 simp (disch := omega) only [wk, seval, wTold, zE]
 refine szPairS_c (r1.sub (sb _)) ⟨by omega, by omega⟩ (by have := hu; omega) fun x0 a0 b0 => ?_
 simp (disch := omega) only [wk, seval, wTold, zE]
 refine qF (fun c => ⟨h, sb _, k _ (fun q => absurd q (by omega)) (by omega)⟩) fun c0 => ?_
 have a0' := a0 (by omega)
 try simp (disch := omega) only [wk, seval, wTold, zE]
 exact ⟨h, sb _, k _ (fun _ => by omega) (by omega)⟩
theorem szToldS_c {h : H} {v : Value} {l : List DTold} {left : Int} (r : rIRs h (nTold h) 2 v l) (hl : 0 <= left /\ left <= 1048576) (hb : l.length <= 9223372036854775807) (hu : ∀ d ∈ l, uTold d) {R : Ending -> H -> Prop} (k : ∀ x, (0 <= x -> x = left - (l.length + sumL szTold l : Nat)) -> x <= 1048576 -> R (.returned (.int .i64 x)) h) :
  HCalls Tryz.prog 81 #[v, .int .i64 left] h R := by
 refine qB (args := [v, .int .i64 left]) Tryz.func81 ir81 ?_
 simp (disch := omega) only [wk, seval, r.len, qI]
 refine qF (fun c => .of (k _ (fun q => absurd q (by omega)) (by omega))) fun c => ?_
 refine qS [5, 1] (fun n vs h' => ∃ (i : Nat) (x : Int), vs = [.int .i64 i, .int .i64 x] /\ h' = h /\ i <= l.length /\ n = l.length - i /\ 0 <= x /\ x = left - l.length - sumL szTold (l.take i)) l.length rfl ⟨0, _, rfl, rfl, by omega, rfl, by omega, by simp [sumL]⟩ ?_
 rintro n f h' ⟨i, x, hv, rfl, hi, rfl, hx0, hx1⟩
 simp only [lm4] at hv
 simp only [wk, seval, wr, hv.1, hv.2, r.len]
 refine qF (fun c1 => ?_) fun c1 => ?_
 ·have hi2 : i < l.length := by omega
  have hsum := sumL_more szTold hi2
  obtain ⟨b1, o1, cs1, hx2, e1, v1, rfl, q1⟩ := r.at hi2
  simp only [wk, seval, hx2, e1]
  refine szTold_c q1 ⟨hx0, by omega⟩ (hu _ (List.getElem_mem hi2)) fun y hy1 hy2 => ?_
  simp only [wk, seval]
  refine qF (fun c => .of (k _ (fun q => absurd q (by omega)) (by omega))) fun c3 => ?_
  have := hy1 (by omega)
  simp (disch := omega) only [wk, seval, qI]
  exact ⟨l.length - (i + 1), by omega, h', .refl _, i + 1, y, by simp, rfl, by omega, rfl, by omega, by omega⟩
 ·have hi' : i = l.length := by omega
  subst hi'
  rw [List.take_length] at *
  exact .of (k _ (fun _ => by omega) (by omega))
theorem szLive_c {h : H} {d : DLive} {v1 v2 : Value} {left : Int} (r1 : rIn h eI 1 v1 d.locked) (r2 : rIRs h (nTold h) 2 v2 d.told) (hl : 0 <= left /\ left <= 1048576) (hu : uLive d) {R : Ending -> H -> Prop} (k : ∀ x, (0 <= x -> x = left - szLive d) -> x <= 1048576 -> R (.returned (.int .i64 x)) h) :
  HCalls Tryz.prog 45 #[.agg (qE d v1 v2).toArray, .int .i64 left] h R := by
 refine qB (args := [.agg (qE d v1 v2).toArray, .int .i64 left]) Tryz.func45 ir45 ?_
 unfold uLive at hu
 unfold szLive at k
 simp only [wk, seval, wLive]
 refine qA fun j hj => ?_
 have sb := fun o => Sub.cons (o := o) hj (Sub.refl h)
 simp (disch := omega) only [wk, seval, wLive, zE]
 refine szCallX_c ⟨by omega, by omega⟩ (by have := hu.1; omega) fun x0 a0 b0 => ?_
 simp (disch := omega) only [wk, seval, wLive, zE]
 refine qF (fun c => ⟨h, sb _, k _ (fun q => absurd q (by omega)) (by omega)⟩) fun c0 => ?_
 have a0' := a0 (by omega)
 try simp (disch := omega) only [wk, seval, wLive, zE]
 refine szIntS_c (r1.sub (sb _)) ⟨by omega, by omega⟩ (by have := hu.2.1; omega) fun x1 a1 b1 => ?_
 simp (disch := omega) only [wk, seval, wLive, zE]
 refine qF (fun c => ⟨h, sb _, k _ (fun q => absurd q (by omega)) (by omega)⟩) fun c1 => ?_
 have a1' := a1 (by omega)
 try simp (disch := omega) only [wk, seval, wLive, zE]
 refine szToldS_c (r2.sub (sb _) fun _ _ q => nTold.sub (sb _) q) ⟨by omega, by omega⟩ (by have := hu.2.2.1; omega) hu.2.2.2 fun x2 a2 b2 => ?_
 simp (disch := omega) only [wk, seval, wLive, zE]
 refine qF (fun c => ⟨h, sb _, k _ (fun q => absurd q (by omega)) (by omega)⟩) fun c2 => ?_
 have a2' := a2 (by omega)
 try simp (disch := omega) only [wk, seval, wLive, zE]
 exact ⟨h, sb _, k _ (fun _ => by omega) (by omega)⟩
theorem szLiveS_c {h : H} {v : Value} {l : List DLive} {left : Int} (r : rIRs h (nLive h) 12 v l) (hl : 0 <= left /\ left <= 1048576) (hb : l.length <= 9223372036854775807) (hu : ∀ d ∈ l, uLive d) {R : Ending -> H -> Prop} (k : ∀ x, (0 <= x -> x = left - (l.length + sumL szLive l : Nat)) -> x <= 1048576 -> R (.returned (.int .i64 x)) h) :
  HCalls Tryz.prog 14 #[v, .int .i64 left] h R := by
 refine qB (args := [v, .int .i64 left]) Tryz.func14 ir14 ?_
 simp (disch := omega) only [wk, seval, r.len, qI]
 refine qF (fun c => .of (k _ (fun q => absurd q (by omega)) (by omega))) fun c => ?_
 refine qS [5, 1] (fun n vs h' => ∃ (i : Nat) (x : Int), vs = [.int .i64 i, .int .i64 x] /\ h' = h /\ i <= l.length /\ n = l.length - i /\ 0 <= x /\ x = left - l.length - sumL szLive (l.take i)) l.length rfl ⟨0, _, rfl, rfl, by omega, rfl, by omega, by simp [sumL]⟩ ?_
 rintro n f h' ⟨i, x, hv, rfl, hi, rfl, hx0, hx1⟩
 simp only [lm4] at hv
 simp only [wk, seval, wr, hv.1, hv.2, r.len]
 refine qF (fun c1 => ?_) fun c1 => ?_
 ·have hi2 : i < l.length := by omega
  have hsum := sumL_more szLive hi2
  obtain ⟨b1, o1, cs1, hx2, e1, v1, v2, rfl, q1, q2⟩ := r.at hi2
  simp only [wk, seval, hx2, e1]
  refine szLive_c q1 q2 ⟨hx0, by omega⟩ (hu _ (List.getElem_mem hi2)) fun y hy1 hy2 => ?_
  simp only [wk, seval]
  refine qF (fun c => .of (k _ (fun q => absurd q (by omega)) (by omega))) fun c3 => ?_
  have := hy1 (by omega)
  simp (disch := omega) only [wk, seval, qI]
  exact ⟨l.length - (i + 1), by omega, h', .refl _, i + 1, y, by simp, rfl, by omega, rfl, by omega, by omega⟩
 ·have hi' : i = l.length := by omega
  subst hi'
  rw [List.take_length] at *
  exact .of (k _ (fun _ => by omega) (by omega))
end Go.Proofs.YtgbapakcfmgahaaGreatDoor
end

section
set_option maxRecDepth 20000
attribute [local irreducible] Go.Tk.vc Go.Tk.vops Go.Tk.vdr Go.Tk.vop Go.Tk.vfl Go.Tk.HCalls
namespace Go.Proofs.YtgbapakcfmgahaaGreatDoor
open Go Go.Tk
theorem toIntS_d {h : H} {a : Value} {l : List Int} (r : rIn h eI 1 a l) (hl : l.length <= 1048576) {R : Ending -> H -> Prop} (k : ∀ M' v S, Tk.Sub h M' -> dL 3 eI 1 M' v l S -> (∀ x, S x -> hget h x = none) -> R (.returned v) M') : HCalls Tryz.prog 92 #[a] h R :=
 toIntS_c r hl fun v g o d => k _ v _ (Sub.right d) (dL.of (h := h) o (Sub.left _ _)) fun x q => d x q
theorem toPairS_d {h : H} {a : Value} {l : List (Int × Int)} (r : rIn h eP 2 a l) (hl : l.length <= 1048576) {R : Ending -> H -> Prop} (k : ∀ M' v S, Tk.Sub h M' -> dL 132 eP 2 M' v l S -> (∀ x, S x -> hget h x = none) -> R (.returned v) M') : HCalls Tryz.prog 93 #[a] h R :=
 toPairS_c r hl fun v g o d => k _ v _ (Sub.right d) (dL.of (h := h) o (Sub.left _ _)) fun x q => d x q
set_option maxHeartbeats 1000000 in
theorem toRecord_c {h : H} {d : DRecord} {v1 v2 : Value} (r1 : rIn h eI 1 v1 d.vals) (r2 : rIn h eP 2 v2 d.pairs) (hx : bRecord d) {R : Ending -> H -> Prop}
  (k : ∀ M' w1 w2 S, Tk.Sub h M' -> WRecord M' (qC d w1 w2) d S -> (∀ x, S x -> hget h x = none) -> R (.returned (.agg (qC d w1 w2).toArray)) M') : HCalls Tryz.prog 54 #[.agg (qC d v1 v2).toArray] h R := by
 refine qB (args := [.agg (qC d v1 v2).toArray]) Tryz.func54 ir54 ?_
 have z1 := zRecord_eq
 try simp only [str] at z1
 simp only [wk, seval, wRecord, str, z1]
 refine qA fun j1 h1 => ?_
 simp only [wk, seval, wRecord]
 refine qA fun j2 h2 => ?_
 simp only [wk, seval, wRecord]
 refine qA fun j3 h3 => ?_
 have n2 := h2
 have n3 := h3
 simp only [subs] at n2 n3
 have m : j1 ≠ j2 /\ j1 ≠ j3 /\ j2 ≠ j3 /\ j2 ≠ j1 /\ j3 ≠ j1 /\ j3 ≠ j2 := by refine ⟨?_, ?_, ?_, ?_, ?_, ?_⟩ <;> simp_all [Ne, eq_comm]
 try simp only [wk, seval, wRecord, zE, z1, m]
 refine toCall_c ?_
 try simp only [wk, seval, wRecord, zE, z1, m]
 obtain ⟨M0, hM0⟩ : ∃ M0, M0 = (j3, blk (qC ⟨d.stamp, d.try_, d.call, d.code, zRecord.vals, zRecord.pairs⟩ (.slice none 0 0) (.slice none 0 0)) 97) :: (j2, blk (qC zRecord (.slice none 0 0) (.slice none 0 0)) 97) :: (j1, blk (qC d v1 v2) 88) :: h := ⟨_, rfl⟩
 have sM0 : Tk.Sub h M0 := by rw [hM0]; (repeat' first | exact Sub.refl _ | exact Sub.nil _ | assumption | refine Sub.both ?_ ?_ | refine Sub.cons_of (by simp only [subs, n2, n3, h1, m]) ?_ | exact Sub.left _ _ | refine Sub.app (by simp only [subs, n2, n3, h1, m]) ?_ | refine Sub.cons (by simp only [subs, n2, n3, h1, m]) ?_)
 have g1 : hget M0 j1 = some (blk (qC d v1 v2) 88) := by rw [hM0]; simp only [mem, m, ne_eq, not_false_eq_true]
 have g2 : hget M0 j2 = some (blk (qC zRecord (.slice none 0 0) (.slice none 0 0)) 97) := by rw [hM0]; simp only [mem, m, ne_eq, not_false_eq_true]
 have g3 : hget M0 j3 = some (blk (qC ⟨d.stamp, d.try_, d.call, d.code, zRecord.vals, zRecord.pairs⟩ (.slice none 0 0) (.slice none 0 0)) 97) := by rw [hM0]; simp only [mem]
 rw [<- hM0]
 have cl1 : hcel M0 j1 9 = some v1 := qH g1 rfl
 try simp only [wk, seval, wRecord, cl1]
 refine toIntS_d (r1.sub sM0) (by have := hx.v; unfold lim at this; omega) fun M1 w1 S1 t1 u1 f1 => ?_
 have g1_1' : hget M1 j1 = some (blk (qC d v1 v2) 88) := t1 _ _ g1
 have g2_1' : hget M1 j2 = some (blk (qC zRecord (.slice none 0 0) (.slice none 0 0)) 97) := t1 _ _ g2
 have g3_1' := t1 _ _ g3
 obtain ⟨N1, hN1⟩ : ∃ N1, N1 = hupd M1 j3 (blk (qC ⟨d.stamp, d.try_, d.call, d.code, zRecord.vals, zRecord.pairs⟩ w1 (.slice none 0 0)) 97) := ⟨_, rfl⟩
 have wt1 : qT M1 j3 9 [w1] = some N1 := by
  rw [hN1]; exact zH g3_1' (by show 9 + 1 <= 11; omega)
 have on1 := u1.one
 have vcw1 := vc1 on1
 have g3_1 : hget N1 j3 = some (blk (qC ⟨d.stamp, d.try_, d.call, d.code, zRecord.vals, zRecord.pairs⟩ w1 (.slice none 0 0)) 97) := by rw [hN1]; exact qN g3_1'
 have g1_1 : hget N1 j1 = some (blk (qC d v1 v2) 88) := by rw [hN1, qG m.2.1]; exact g1_1'
 have g2_1 : hget N1 j2 = some (blk (qC zRecord (.slice none 0 0) (.slice none 0 0)) 97) := by rw [hN1, qG m.2.2.1]; exact g2_1'
 have fr1 : ∀ x, x ≠ j3 -> hget N1 x = hget M1 x := fun x e => by rw [hN1, qG e]
 have sN1 : Tk.Sub h N1 := fun x o e => by
  rw [fr1 x (fun c => by subst c; rw [n3.2.2] at e; cases e)]; exact t1 _ _ (sM0 _ _ e)
 simp only [wk, seval, wRecord, wt1, on1, vcw1]
 have cl2 : hcel N1 j1 10 = some v2 := qH g1_1 rfl
 try simp only [wk, seval, wRecord, cl2]
 refine toPairS_d (r2.sub sN1) (by have := hx.p; unfold lim at this; omega) fun M2 w2 S2 t2 u2 f2 => ?_
 have g1_2' : hget M2 j1 = some (blk (qC d v1 v2) 88) := t2 _ _ g1_1
 have g2_2' : hget M2 j2 = some (blk (qC zRecord (.slice none 0 0) (.slice none 0 0)) 97) := t2 _ _ g2_1
 have g3_2' := t2 _ _ g3_1
 obtain ⟨N2, hN2⟩ : ∃ N2, N2 = hupd M2 j3 (blk (qC ⟨d.stamp, d.try_, d.call, d.code, zRecord.vals, zRecord.pairs⟩ w1 w2) 97) := ⟨_, rfl⟩
 have wt2 : qT M2 j3 10 [w2] = some N2 := by
  rw [hN2]; exact zH g3_2' (by show 10 + 1 <= 11; omega)
 have on2 := u2.one
 have vcw2 := vc1 on2
 have g3_2 : hget N2 j3 = some (blk (qC ⟨d.stamp, d.try_, d.call, d.code, zRecord.vals, zRecord.pairs⟩ w1 w2) 97) := by rw [hN2]; exact qN g3_2'
 have g1_2 : hget N2 j1 = some (blk (qC d v1 v2) 88) := by rw [hN2, qG m.2.1]; exact g1_2'
 have g2_2 : hget N2 j2 = some (blk (qC zRecord (.slice none 0 0) (.slice none 0 0)) 97) := by rw [hN2, qG m.2.2.1]; exact g2_2'
 have fr2 : ∀ x, x ≠ j3 -> hget N2 x = hget M2 x := fun x e => by rw [hN2, qG e]
 have sN2 : Tk.Sub h N2 := fun x o e => by
  rw [fr2 x (fun c => by subst c; rw [n3.2.2] at e; cases e)]; exact t2 _ _ (sN1 _ _ e)
 simp only [wk, seval, wRecord, wt2, on2, vcw2]
 have rd3 : qQ N2 j3 0 11 = some (qC ⟨d.stamp, d.try_, d.call, d.code, zRecord.vals, zRecord.pairs⟩ w1 w2) := qU g3_2 rfl
 obtain ⟨Z3, hZ3⟩ : ∃ Z3, Z3 = hupd N2 j2 (blk (qC ⟨d.stamp, d.try_, d.call, d.code, zRecord.vals, zRecord.pairs⟩ w1 w2) 97) := ⟨_, rfl⟩
 have wtz : qT N2 j2 0 (qC ⟨d.stamp, d.try_, d.call, d.code, zRecord.vals, zRecord.pairs⟩ w1 w2) = some Z3 := by
  rw [hZ3]; exact zH g2_2 (by show 0 + 11 <= 11; omega)
 have hone : (qC ⟨d.stamp, d.try_, d.call, d.code, zRecord.vals, zRecord.pairs⟩ w1 w2).all vone = true := by simp only [qC, List.all_cons, List.all_nil, on1, on2]; rfl
 simp only [wk, seval, wRecord, rd3, wtz, hone]
 have rdz : qQ Z3 j2 0 11 = some (qC ⟨d.stamp, d.try_, d.call, d.code, zRecord.vals, zRecord.pairs⟩ w1 w2) := qU (by rw [hZ3]; exact qN g2_2) rfl
 simp only [wk, seval, wRecord, rdz]
 have frz : ∀ x, x ≠ j2 -> hget Z3 x = hget N2 x := fun x e => by rw [hZ3, qG e]
 have ne1 : ∀ x, S1 x -> x ≠ j2 /\ x ≠ j3 := fun x q => ⟨fun e => (by have := f1 x q; rw [e, g2] at this; cases this), fun e => (by have := f1 x q; rw [e, g3] at this; cases this)⟩
 have ne2 : ∀ x, S2 x -> x ≠ j2 /\ x ≠ j3 := fun x q => ⟨fun e => (by have := f2 x q; rw [e, g2_1] at this; cases this), fun e => (by have := f2 x q; rw [e, g3_1] at this; cases this)⟩
 have d12 : ∀ x, S1 x -> ¬ S2 x := fun x q q2 => by
  have := f2 x q2
  rw [fr1 x (ne1 x q).2] at this
  exact u1.in q this
 refine dP.of (k Z3 w1 w2 (fun x => S1 x ∨ S2 x) (fun x o e => by rw [frz x (fun c => by subst c; rw [n2.2] at e; cases e)]; exact sN2 x o e) ⟨w1, w2, S1, S2, rfl, (u1.frame fun x q => by rw [frz x (ne1 x q).1, fr2 x (ne1 x q).2, Sub.eq t2 (by rw [fr1 x (ne1 x q).2]; exact u1.in q), fr1 x (ne1 x q).2]), (u2.frame fun x q => by rw [frz x (ne2 x q).1, fr2 x (ne2 x q).2]), d12, fun _ => Iff.rfl⟩ ?_)
 rintro x (q | q)
 ·exact sM0.none' (f1 x q)
 ·exact sN1.none' (f2 x q)
set_option maxHeartbeats 1000000 in
theorem toRecordS_c {h : H} {a : Value} {l : List DRecord} (r : rIRs h (nRecord h) 11 a l) (hl : l.length <= 1048576) (hb : ∀ d ∈ l, bRecord d) {R : Ending -> H -> Prop} (k : ∀ M' v S, Tk.Sub h M' -> dR 97 WRecord 11 M' v l S -> (∀ x, S x -> hget h x = none) -> R (.returned v) M') :
  HCalls Tryz.prog 20 #[a] h R := by
 refine qB (args := [a]) Tryz.func20 ir20 ?_
 have z1 := zRecord_eq
 try simp only [str] at z1
 simp only [wk, seval, r.len, str, z1]
 refine ⟨⟨by omega, by omega, by omega, by omega⟩, qA fun j hj => ?_⟩
 simp only [wk, seval]
 obtain ⟨V, hV⟩ : ∃ V, V = Value.slice (some ⟨j, 0, none⟩) l.length l.length := ⟨_, rfl⟩
 obtain ⟨M0, hM0⟩ : ∃ M0, M0 = (j, blk (zrep (qC zRecord (.slice none 0 0) (.slice none 0 0)) l.length) 97) :: h := ⟨_, rfl⟩
 have D0 : dRb 97 WRecord 11 M0 (List.replicate l.length zRecord) (fun x => x = j) j (List.replicate l.length (qC zRecord (.slice none 0 0) (.slice none 0 0))) [] (fun _ _ => False) := by
  refine ⟨by rw [hM0, List.append_nil]; exact qL _ _ _, by simp, fun c hc => by rw [List.eq_of_mem_replicate hc]; rfl, fun i h1 h2 => ?_, fun _ _ q => q, fun _ _ _ _ _ _ q => q.elim, fun x => by simp⟩
  simp only [List.getElem_replicate]
  exact ⟨_, _, _, _, rfl, dL.nil, dL.nil, fun _ q => q.elim, fun _ => by simp⟩
 have d0 : dR 97 WRecord 11 M0 V (l.take 0 ++ (List.replicate l.length zRecord).drop 0) (fun x => x = j) := by
  have hr : (List.replicate l.length zRecord).length = l.length := by simp
  refine .inr ⟨j, l.length, List.replicate l.length (qC zRecord (.slice none 0 0) (.slice none 0 0)), [], fun _ _ => False, by simp only [List.take_zero, List.nil_append, List.drop_zero, hr]; exact hV, by simp, ?_, D0⟩
  rw [List.append_nil, flat_len (sz := 11) (fun c hc => by rw [List.eq_of_mem_replicate hc]; rfl)]; simp
 rw [<- hV, <- hM0]
 refine qS [4] (fun n vs M' => ∃ (i : Nat) (S : Nat -> Prop), vs = [.int .i64 i] /\ Tk.Sub h M' /\ dR 97 WRecord 11 M' V (l.take i ++ (List.replicate l.length zRecord).drop i) S /\ (∀ x, S x -> hget h x = none) /\ i <= l.length /\ n = l.length - i) l.length rfl
  ⟨0, _, rfl, by rw [hM0]; exact Sub.cons hj (Sub.refl _), d0, fun x e => e ▸ hj, by omega, rfl⟩ ?_
 rintro n f M' ⟨i, S, hv, sM, hd, hfr, hi, rfl⟩
 simp only [lm4] at hv
 simp only [wk, seval, wr, hv, r.len]
 refine qF (fun c1 => ?_) fun c1 => ?_
 ·have hi2 : i < l.length := by omega
  obtain ⟨b1, o1, cs1, hx1, e1, v1, v2, rfl, q1, q2⟩ := (r.sub sM fun _ _ q => nRecord.sub sM q).at hi2
  simp only [wk, seval, hx1, e1]
  refine toRecord_c q1 q2 (hb _ (List.getElem_mem hi2)) fun M2 w1 w2 T s2 wn fn => ?_
  have hsame : ∀ x, S x -> hget M2 x = hget M' x := fun x q => Sub.eq s2 (hd.in WRecord.in q)
  have hdj : ∀ x, T x -> ¬ S x := fun x q q2 => hd.in WRecord.in q2 (fn x q)
  have hd2 := hd.frame WRecord.fr hsame
  rcases hd2 with ⟨_, e0, _⟩ | ⟨b, cap, css, sp, Ss, hv0, hc, hs, D⟩
  ·have := congrArg List.length e0
   rw [List.length_append, List.length_take, List.length_drop, List.length_replicate] at this
   simp at this; omega
  have hset := take_set hi2 (by simp : (List.replicate l.length zRecord).length = l.length)
  have hll : (l.take i ++ (List.replicate l.length zRecord).drop i).length = l.length := by rw [List.length_append, List.length_take, List.length_drop, List.length_replicate]; omega
  have hiL : i < (l.take i ++ (List.replicate l.length zRecord).drop i).length := by omega
  obtain ⟨A, B, hAB, hA, hset2⟩ := D.split hiL
  have hx := idx_top (sz := 11) hv0 hiL
  have hget0 : hget M2 b = some (blk (A ++ (css[i]'(by rw [D.len]; exact hiL) ++ B)) 97) := by rw [D.get, hAB]
  have hcl : (css[i]'(by rw [D.len]; exact hiL)).length = 11 := D.sz _ (List.getElem_mem _)
  have wt : qT M2 b (i * 11) (qC l[i] w1 w2) = some (slot M2 b 97 A B (qC l[i] w1 w2)) := by
   have := zQ (j := 0) (e := 97) (B := B) (vs := qC l[i] w1 w2) hget0 hA (by rw [hcl]; exact Nat.le_refl _)
   rw [slot_self hget0] at this
   have h2 := splice_all (x := qC l[i] w1 w2) (y := css[i]'(by rw [D.len]; exact hiL)) (by rw [hcl]; rfl)
   rw [h2] at this
   exact this
  have hone : (qC l[i] w1 w2).all vone = true := by
   obtain ⟨_, _, _, _, e, p1, p2, _⟩ := wn
   rw [e]
   simp only [qC, List.all_cons, List.all_nil, p1.one, p2.one]; rfl
  simp only [wk, seval, hx, wt, hone, wRecord]
  simp (disch := omega) only [wk, seval, qI]
  have fb : ∀ x, x ≠ b -> hget (slot M2 b 97 A B (qC l[i] w1 w2)) x = hget M2 x := fun x e => slot_ne e
  have hbS : S b := (D.dom b).2 (.inl rfl)
  refine ⟨l.length - (i + 1), by omega, _, .refl _, i + 1, (fun x => x = b ∨ ∃ j, j < ((l.take i ++ (List.replicate l.length zRecord).drop i).set i l[i]).length /\ (if j = i then T else Ss j) x), by simp, fun x o e => ?_, .inr ⟨b, cap, css.set i (qC l[i] w1 w2), sp, (fun j => if j = i then T else Ss j), ?_, ?_, ?_, ?_⟩, ?_, by omega, rfl⟩
  ·rw [fb x (fun c => by subst c; rw [hfr _ hbS] at e; cases e)]; exact s2 _ _ (sM _ _ e)
  ·rw [<- hset, List.length_set]; exact hv0
  ·rw [<- hset, List.length_set]; exact hc
  ·rw [hset2 _ rfl, <- hs, hAB]; simp only [List.length_append, hcl]; rfl
  ·rw [<- hset]
   exact D.grow WRecord.fr hiL rfl (by rw [hset2 _ rfl]; exact slot_get hget0) (WRecord.fr _ _ _ _ _ (fun x q => fb x fun e => hdj x q (e ▸ hbS)) wn) hdj fun x _ e => fb x e
  ·rintro x (e | ⟨j, hj, q⟩)
   ·exact e ▸ hfr _ hbS
   ·by_cases e : j = i
    ·rw [if_pos e] at q; exact sM.none' (fn x q)
    ·rw [if_neg e] at q
     rw [List.length_set] at hj
     exact hfr x ((D.dom x).2 (.inr ⟨j, hj, q⟩))
 ·have hi' : i = l.length := by omega
  subst hi'
  rw [List.take_length, List.drop_of_length_le (by simp), List.append_nil] at hd
  exact .of (k M' V S sM hd hfr)
set_option maxHeartbeats 1000000 in
theorem toTold_c {h : H} {d : DTold} {v1 : Value} (r1 : rIn h eP 2 v1 d.pairs) (hx : bTold d) {R : Ending -> H -> Prop}
  (k : ∀ M' w1 S, Tk.Sub h M' -> WTold M' (zA d w1) d S -> (∀ x, S x -> hget h x = none) -> R (.returned (.agg (zA d w1).toArray)) M') : HCalls Tryz.prog 127 #[.agg (zA d v1).toArray] h R := by
 refine qB (args := [.agg (zA d v1).toArray]) Tryz.func127 ir127 ?_
 have z1 := zTold_eq
 try simp only [str] at z1
 simp only [wk, seval, wTold, str, z1]
 refine qA fun j1 h1 => ?_
 simp only [wk, seval, wTold]
 refine qA fun j2 h2 => ?_
 simp only [wk, seval, wTold]
 refine qA fun j3 h3 => ?_
 have n2 := h2
 have n3 := h3
 simp only [subs] at n2 n3
 have m : j1 ≠ j2 /\ j1 ≠ j3 /\ j2 ≠ j3 /\ j2 ≠ j1 /\ j3 ≠ j1 /\ j3 ≠ j2 := by refine ⟨?_, ?_, ?_, ?_, ?_, ?_⟩ <;> simp_all [Ne, eq_comm]
 try simp only [wk, seval, wTold, zE, z1, m]
 obtain ⟨M0, hM0⟩ : ∃ M0, M0 = (j3, blk (zA ⟨d.house, zTold.pairs⟩ (.slice none 0 0)) 54) :: (j2, blk (zA zTold (.slice none 0 0)) 54) :: (j1, blk (zA d v1) 168) :: h := ⟨_, rfl⟩
 have sM0 : Tk.Sub h M0 := by rw [hM0]; (repeat' first | exact Sub.refl _ | exact Sub.nil _ | assumption | refine Sub.both ?_ ?_ | refine Sub.cons_of (by simp only [subs, n2, n3, h1, m]) ?_ | exact Sub.left _ _ | refine Sub.app (by simp only [subs, n2, n3, h1, m]) ?_ | refine Sub.cons (by simp only [subs, n2, n3, h1, m]) ?_)
 have g1 : hget M0 j1 = some (blk (zA d v1) 168) := by rw [hM0]; simp only [mem, m, ne_eq, not_false_eq_true]
 have g2 : hget M0 j2 = some (blk (zA zTold (.slice none 0 0)) 54) := by rw [hM0]; simp only [mem, m, ne_eq, not_false_eq_true]
 have g3 : hget M0 j3 = some (blk (zA ⟨d.house, zTold.pairs⟩ (.slice none 0 0)) 54) := by rw [hM0]; simp only [mem]
 rw [<- hM0]
 have cl1 : hcel M0 j1 1 = some v1 := qH g1 rfl
 try simp only [wk, seval, wTold, cl1]
 refine toPairS_d (r1.sub sM0) (by have := hx; unfold bTold lim at this; omega) fun M1 w1 S1 t1 u1 f1 => ?_
 have g1_1' : hget M1 j1 = some (blk (zA d v1) 168) := t1 _ _ g1
 have g2_1' : hget M1 j2 = some (blk (zA zTold (.slice none 0 0)) 54) := t1 _ _ g2
 have g3_1' := t1 _ _ g3
 obtain ⟨N1, hN1⟩ : ∃ N1, N1 = hupd M1 j3 (blk (zA ⟨d.house, zTold.pairs⟩ w1) 54) := ⟨_, rfl⟩
 have wt1 : qT M1 j3 1 [w1] = some N1 := by
  rw [hN1]; exact zH g3_1' (by show 1 + 1 <= 2; omega)
 have on1 := u1.one
 have vcw1 := vc1 on1
 have g3_1 : hget N1 j3 = some (blk (zA ⟨d.house, zTold.pairs⟩ w1) 54) := by rw [hN1]; exact qN g3_1'
 have g1_1 : hget N1 j1 = some (blk (zA d v1) 168) := by rw [hN1, qG m.2.1]; exact g1_1'
 have g2_1 : hget N1 j2 = some (blk (zA zTold (.slice none 0 0)) 54) := by rw [hN1, qG m.2.2.1]; exact g2_1'
 have fr1 : ∀ x, x ≠ j3 -> hget N1 x = hget M1 x := fun x e => by rw [hN1, qG e]
 have sN1 : Tk.Sub h N1 := fun x o e => by
  rw [fr1 x (fun c => by subst c; rw [n3.2.2] at e; cases e)]; exact t1 _ _ (sM0 _ _ e)
 simp only [wk, seval, wTold, wt1, on1, vcw1]
 have rd3 : qQ N1 j3 0 2 = some (zA ⟨d.house, zTold.pairs⟩ w1) := qU g3_1 rfl
 obtain ⟨Z3, hZ3⟩ : ∃ Z3, Z3 = hupd N1 j2 (blk (zA ⟨d.house, zTold.pairs⟩ w1) 54) := ⟨_, rfl⟩
 have wtz : qT N1 j2 0 (zA ⟨d.house, zTold.pairs⟩ w1) = some Z3 := by
  rw [hZ3]; exact zH g2_1 (by show 0 + 2 <= 2; omega)
 have hone : (zA ⟨d.house, zTold.pairs⟩ w1).all vone = true := by simp only [zA, List.all_cons, List.all_nil, on1]; rfl
 simp only [wk, seval, wTold, rd3, wtz, hone]
 have rdz : qQ Z3 j2 0 2 = some (zA ⟨d.house, zTold.pairs⟩ w1) := qU (by rw [hZ3]; exact qN g2_1) rfl
 simp only [wk, seval, wTold, rdz]
 have frz : ∀ x, x ≠ j2 -> hget Z3 x = hget N1 x := fun x e => by rw [hZ3, qG e]
 have ne1 : ∀ x, S1 x -> x ≠ j2 /\ x ≠ j3 := fun x q => ⟨fun e => (by have := f1 x q; rw [e, g2] at this; cases this), fun e => (by have := f1 x q; rw [e, g3] at this; cases this)⟩
 exact dP.of (k Z3 w1 S1 (fun x o e => by rw [frz x (fun c => by subst c; rw [n2.2] at e; cases e)]; exact sN1 x o e) ⟨w1, rfl, (u1.frame fun x q => by rw [frz x (ne1 x q).1, fr1 x (ne1 x q).2])⟩ fun x q => sM0.none' (f1 x q))
set_option maxHeartbeats 1000000 in
theorem toToldS_c {h : H} {a : Value} {l : List DTold} (r : rIRs h (nTold h) 2 a l) (hl : l.length <= 1048576) (hb : ∀ d ∈ l, bTold d) {R : Ending -> H -> Prop} (k : ∀ M' v S, Tk.Sub h M' -> dR 54 WTold 2 M' v l S -> (∀ x, S x -> hget h x = none) -> R (.returned v) M') :
  HCalls Tryz.prog 94 #[a] h R := by
 refine qB (args := [a]) Tryz.func94 ir94 ?_
 have z1 := zTold_eq
 try simp only [str] at z1
 simp only [wk, seval, r.len, str, z1]
 refine ⟨⟨by omega, by omega, by omega, by omega⟩, qA fun j hj => ?_⟩
 simp only [wk, seval]
 obtain ⟨V, hV⟩ : ∃ V, V = Value.slice (some ⟨j, 0, none⟩) l.length l.length := ⟨_, rfl⟩
 obtain ⟨M0, hM0⟩ : ∃ M0, M0 = (j, blk (zrep (zA zTold (.slice none 0 0)) l.length) 54) :: h := ⟨_, rfl⟩
 have D0 : dRb 54 WTold 2 M0 (List.replicate l.length zTold) (fun x => x = j) j (List.replicate l.length (zA zTold (.slice none 0 0))) [] (fun _ _ => False) := by
  refine ⟨by rw [hM0, List.append_nil]; exact qL _ _ _, by simp, fun c hc => by rw [List.eq_of_mem_replicate hc]; rfl, fun i h1 h2 => ?_, fun _ _ q => q, fun _ _ _ _ _ _ q => q.elim, fun x => by simp⟩
  simp only [List.getElem_replicate]
  exact ⟨_, rfl, dL.nil⟩
 have d0 : dR 54 WTold 2 M0 V (l.take 0 ++ (List.replicate l.length zTold).drop 0) (fun x => x = j) := by
  have hr : (List.replicate l.length zTold).length = l.length := by simp
  refine .inr ⟨j, l.length, List.replicate l.length (zA zTold (.slice none 0 0)), [], fun _ _ => False, by simp only [List.take_zero, List.nil_append, List.drop_zero, hr]; exact hV, by simp, ?_, D0⟩
  rw [List.append_nil, flat_len (sz := 2) (fun c hc => by rw [List.eq_of_mem_replicate hc]; rfl)]; simp
 rw [<- hV, <- hM0]
 refine qS [4] (fun n vs M' => ∃ (i : Nat) (S : Nat -> Prop), vs = [.int .i64 i] /\ Tk.Sub h M' /\ dR 54 WTold 2 M' V (l.take i ++ (List.replicate l.length zTold).drop i) S /\ (∀ x, S x -> hget h x = none) /\ i <= l.length /\ n = l.length - i) l.length rfl
  ⟨0, _, rfl, by rw [hM0]; exact Sub.cons hj (Sub.refl _), d0, fun x e => e ▸ hj, by omega, rfl⟩ ?_
 rintro n f M' ⟨i, S, hv, sM, hd, hfr, hi, rfl⟩
 simp only [lm4] at hv
 simp only [wk, seval, wr, hv, r.len]
 refine qF (fun c1 => ?_) fun c1 => ?_
 ·have hi2 : i < l.length := by omega
  obtain ⟨b1, o1, cs1, hx1, e1, v1, rfl, q1⟩ := (r.sub sM fun _ _ q => nTold.sub sM q).at hi2
  simp only [wk, seval, hx1, e1]
  refine toTold_c q1 (hb _ (List.getElem_mem hi2)) fun M2 w1 T s2 wn fn => ?_
  have hsame : ∀ x, S x -> hget M2 x = hget M' x := fun x q => Sub.eq s2 (hd.in WTold.in q)
  have hdj : ∀ x, T x -> ¬ S x := fun x q q2 => hd.in WTold.in q2 (fn x q)
  have hd2 := hd.frame WTold.fr hsame
  rcases hd2 with ⟨_, e0, _⟩ | ⟨b, cap, css, sp, Ss, hv0, hc, hs, D⟩
  ·have := congrArg List.length e0
   rw [List.length_append, List.length_take, List.length_drop, List.length_replicate] at this
   simp at this; omega
  have hset := take_set hi2 (by simp : (List.replicate l.length zTold).length = l.length)
  have hll : (l.take i ++ (List.replicate l.length zTold).drop i).length = l.length := by rw [List.length_append, List.length_take, List.length_drop, List.length_replicate]; omega
  have hiL : i < (l.take i ++ (List.replicate l.length zTold).drop i).length := by omega
  obtain ⟨A, B, hAB, hA, hset2⟩ := D.split hiL
  have hx := idx_top (sz := 2) hv0 hiL
  have hget0 : hget M2 b = some (blk (A ++ (css[i]'(by rw [D.len]; exact hiL) ++ B)) 54) := by rw [D.get, hAB]
  have hcl : (css[i]'(by rw [D.len]; exact hiL)).length = 2 := D.sz _ (List.getElem_mem _)
  have wt : qT M2 b (i * 2) (zA l[i] w1) = some (slot M2 b 54 A B (zA l[i] w1)) := by
   have := zQ (j := 0) (e := 54) (B := B) (vs := zA l[i] w1) hget0 hA (by rw [hcl]; exact Nat.le_refl _)
   rw [slot_self hget0] at this
   have h2 := splice_all (x := zA l[i] w1) (y := css[i]'(by rw [D.len]; exact hiL)) (by rw [hcl]; rfl)
   rw [h2] at this
   exact this
  have hone : (zA l[i] w1).all vone = true := by
   obtain ⟨_, e, p1⟩ := wn
   rw [e]
   simp only [zA, List.all_cons, List.all_nil, p1.one]; rfl
  simp only [wk, seval, hx, wt, hone, wTold]
  simp (disch := omega) only [wk, seval, qI]
  have fb : ∀ x, x ≠ b -> hget (slot M2 b 54 A B (zA l[i] w1)) x = hget M2 x := fun x e => slot_ne e
  have hbS : S b := (D.dom b).2 (.inl rfl)
  refine ⟨l.length - (i + 1), by omega, _, .refl _, i + 1, (fun x => x = b ∨ ∃ j, j < ((l.take i ++ (List.replicate l.length zTold).drop i).set i l[i]).length /\ (if j = i then T else Ss j) x), by simp, fun x o e => ?_, .inr ⟨b, cap, css.set i (zA l[i] w1), sp, (fun j => if j = i then T else Ss j), ?_, ?_, ?_, ?_⟩, ?_, by omega, rfl⟩
  ·rw [fb x (fun c => by subst c; rw [hfr _ hbS] at e; cases e)]; exact s2 _ _ (sM _ _ e)
  ·rw [<- hset, List.length_set]; exact hv0
  ·rw [<- hset, List.length_set]; exact hc
  ·rw [hset2 _ rfl, <- hs, hAB]; simp only [List.length_append, hcl]; rfl
  ·rw [<- hset]
   exact D.grow WTold.fr hiL rfl (by rw [hset2 _ rfl]; exact slot_get hget0) (WTold.fr _ _ _ _ _ (fun x q => fb x fun e => hdj x q (e ▸ hbS)) wn) hdj fun x _ e => fb x e
  ·rintro x (e | ⟨j, hj, q⟩)
   ·exact e ▸ hfr _ hbS
   ·by_cases e : j = i
    ·rw [if_pos e] at q; exact sM.none' (fn x q)
    ·rw [if_neg e] at q
     rw [List.length_set] at hj
     exact hfr x ((D.dom x).2 (.inr ⟨j, hj, q⟩))
 ·have hi' : i = l.length := by omega
  subst hi'
  rw [List.take_length, List.drop_of_length_le (by simp), List.append_nil] at hd
  exact .of (k M' V S sM hd hfr)
set_option maxHeartbeats 1000000 in
theorem toLive_c {h : H} {d : DLive} {v1 v2 : Value} (r1 : rIn h eI 1 v1 d.locked) (r2 : rIRs h (nTold h) 2 v2 d.told) (hx : bLive d) {R : Ending -> H -> Prop}
  (k : ∀ M' w1 w2 S, Tk.Sub h M' -> WLive M' (qE d w1 w2) d S -> (∀ x, S x -> hget h x = none) -> R (.returned (.agg (qE d w1 w2).toArray)) M') : HCalls Tryz.prog 55 #[.agg (qE d v1 v2).toArray] h R := by
 refine qB (args := [.agg (qE d v1 v2).toArray]) Tryz.func55 ir55 ?_
 have z1 := zLive_eq
 try simp only [str] at z1
 simp only [wk, seval, wLive, str, z1]
 refine qA fun j1 h1 => ?_
 simp only [wk, seval, wLive]
 refine qA fun j2 h2 => ?_
 simp only [wk, seval, wLive]
 refine qA fun j3 h3 => ?_
 have n2 := h2
 have n3 := h3
 simp only [subs] at n2 n3
 have m : j1 ≠ j2 /\ j1 ≠ j3 /\ j2 ≠ j3 /\ j2 ≠ j1 /\ j3 ≠ j1 /\ j3 ≠ j2 := by refine ⟨?_, ?_, ?_, ?_, ?_, ?_⟩ <;> simp_all [Ne, eq_comm]
 try simp only [wk, seval, wLive, zE, z1, m]
 refine toCall_c ?_
 try simp only [wk, seval, wLive, zE, z1, m]
 obtain ⟨M0, hM0⟩ : ∃ M0, M0 = (j3, blk (qE ⟨d.stamp, d.try_, d.version, d.phase, d.call, zLive.locked, zLive.told⟩ (.slice none 0 0) (.slice none 0 0)) 50) :: (j2, blk (qE zLive (.slice none 0 0) (.slice none 0 0)) 50) :: (j1, blk (qE d v1 v2) 92) :: h := ⟨_, rfl⟩
 have sM0 : Tk.Sub h M0 := by rw [hM0]; (repeat' first | exact Sub.refl _ | exact Sub.nil _ | assumption | refine Sub.both ?_ ?_ | refine Sub.cons_of (by simp only [subs, n2, n3, h1, m]) ?_ | exact Sub.left _ _ | refine Sub.app (by simp only [subs, n2, n3, h1, m]) ?_ | refine Sub.cons (by simp only [subs, n2, n3, h1, m]) ?_)
 have g1 : hget M0 j1 = some (blk (qE d v1 v2) 92) := by rw [hM0]; simp only [mem, m, ne_eq, not_false_eq_true]
 have g2 : hget M0 j2 = some (blk (qE zLive (.slice none 0 0) (.slice none 0 0)) 50) := by rw [hM0]; simp only [mem, m, ne_eq, not_false_eq_true]
 have g3 : hget M0 j3 = some (blk (qE ⟨d.stamp, d.try_, d.version, d.phase, d.call, zLive.locked, zLive.told⟩ (.slice none 0 0) (.slice none 0 0)) 50) := by rw [hM0]; simp only [mem]
 rw [<- hM0]
 have cl1 : hcel M0 j1 10 = some v1 := qH g1 rfl
 try simp only [wk, seval, wLive, cl1]
 refine toIntS_d (r1.sub sM0) (by have := hx.l; unfold lim at this; omega) fun M1 w1 S1 t1 u1 f1 => ?_
 have g1_1' : hget M1 j1 = some (blk (qE d v1 v2) 92) := t1 _ _ g1
 have g2_1' : hget M1 j2 = some (blk (qE zLive (.slice none 0 0) (.slice none 0 0)) 50) := t1 _ _ g2
 have g3_1' := t1 _ _ g3
 obtain ⟨N1, hN1⟩ : ∃ N1, N1 = hupd M1 j3 (blk (qE ⟨d.stamp, d.try_, d.version, d.phase, d.call, zLive.locked, zLive.told⟩ w1 (.slice none 0 0)) 50) := ⟨_, rfl⟩
 have wt1 : qT M1 j3 10 [w1] = some N1 := by
  rw [hN1]; exact zH g3_1' (by show 10 + 1 <= 12; omega)
 have on1 := u1.one
 have vcw1 := vc1 on1
 have g3_1 : hget N1 j3 = some (blk (qE ⟨d.stamp, d.try_, d.version, d.phase, d.call, zLive.locked, zLive.told⟩ w1 (.slice none 0 0)) 50) := by rw [hN1]; exact qN g3_1'
 have g1_1 : hget N1 j1 = some (blk (qE d v1 v2) 92) := by rw [hN1, qG m.2.1]; exact g1_1'
 have g2_1 : hget N1 j2 = some (blk (qE zLive (.slice none 0 0) (.slice none 0 0)) 50) := by rw [hN1, qG m.2.2.1]; exact g2_1'
 have fr1 : ∀ x, x ≠ j3 -> hget N1 x = hget M1 x := fun x e => by rw [hN1, qG e]
 have sN1 : Tk.Sub h N1 := fun x o e => by
  rw [fr1 x (fun c => by subst c; rw [n3.2.2] at e; cases e)]; exact t1 _ _ (sM0 _ _ e)
 simp only [wk, seval, wLive, wt1, on1, vcw1]
 have cl2 : hcel N1 j1 11 = some v2 := qH g1_1 rfl
 try simp only [wk, seval, wLive, cl2]
 refine toToldS_c (r2.sub sN1 fun _ _ q => nTold.sub sN1 q) (by have := hx.t; unfold lim at this; omega) hx.ts fun M2 w2 S2 t2 u2 f2 => ?_
 have g1_2' : hget M2 j1 = some (blk (qE d v1 v2) 92) := t2 _ _ g1_1
 have g2_2' : hget M2 j2 = some (blk (qE zLive (.slice none 0 0) (.slice none 0 0)) 50) := t2 _ _ g2_1
 have g3_2' := t2 _ _ g3_1
 obtain ⟨N2, hN2⟩ : ∃ N2, N2 = hupd M2 j3 (blk (qE ⟨d.stamp, d.try_, d.version, d.phase, d.call, zLive.locked, zLive.told⟩ w1 w2) 50) := ⟨_, rfl⟩
 have wt2 : qT M2 j3 11 [w2] = some N2 := by
  rw [hN2]; exact zH g3_2' (by show 11 + 1 <= 12; omega)
 have on2 := u2.one
 have vcw2 := vc1 on2
 have g3_2 : hget N2 j3 = some (blk (qE ⟨d.stamp, d.try_, d.version, d.phase, d.call, zLive.locked, zLive.told⟩ w1 w2) 50) := by rw [hN2]; exact qN g3_2'
 have g1_2 : hget N2 j1 = some (blk (qE d v1 v2) 92) := by rw [hN2, qG m.2.1]; exact g1_2'
 have g2_2 : hget N2 j2 = some (blk (qE zLive (.slice none 0 0) (.slice none 0 0)) 50) := by rw [hN2, qG m.2.2.1]; exact g2_2'
 have fr2 : ∀ x, x ≠ j3 -> hget N2 x = hget M2 x := fun x e => by rw [hN2, qG e]
 have sN2 : Tk.Sub h N2 := fun x o e => by
  rw [fr2 x (fun c => by subst c; rw [n3.2.2] at e; cases e)]; exact t2 _ _ (sN1 _ _ e)
 simp only [wk, seval, wLive, wt2, on2, vcw2]
 have rd3 : qQ N2 j3 0 12 = some (qE ⟨d.stamp, d.try_, d.version, d.phase, d.call, zLive.locked, zLive.told⟩ w1 w2) := qU g3_2 rfl
 obtain ⟨Z3, hZ3⟩ : ∃ Z3, Z3 = hupd N2 j2 (blk (qE ⟨d.stamp, d.try_, d.version, d.phase, d.call, zLive.locked, zLive.told⟩ w1 w2) 50) := ⟨_, rfl⟩
 have wtz : qT N2 j2 0 (qE ⟨d.stamp, d.try_, d.version, d.phase, d.call, zLive.locked, zLive.told⟩ w1 w2) = some Z3 := by
  rw [hZ3]; exact zH g2_2 (by show 0 + 12 <= 12; omega)
 have hone : (qE ⟨d.stamp, d.try_, d.version, d.phase, d.call, zLive.locked, zLive.told⟩ w1 w2).all vone = true := by simp only [qE, List.all_cons, List.all_nil, on1, on2]; rfl
 simp only [wk, seval, wLive, rd3, wtz, hone]
 have rdz : qQ Z3 j2 0 12 = some (qE ⟨d.stamp, d.try_, d.version, d.phase, d.call, zLive.locked, zLive.told⟩ w1 w2) := qU (by rw [hZ3]; exact qN g2_2) rfl
 simp only [wk, seval, wLive, rdz]
 have frz : ∀ x, x ≠ j2 -> hget Z3 x = hget N2 x := fun x e => by rw [hZ3, qG e]
 have ne1 : ∀ x, S1 x -> x ≠ j2 /\ x ≠ j3 := fun x q => ⟨fun e => (by have := f1 x q; rw [e, g2] at this; cases this), fun e => (by have := f1 x q; rw [e, g3] at this; cases this)⟩
 have ne2 : ∀ x, S2 x -> x ≠ j2 /\ x ≠ j3 := fun x q => ⟨fun e => (by have := f2 x q; rw [e, g2_1] at this; cases this), fun e => (by have := f2 x q; rw [e, g3_1] at this; cases this)⟩
 have d12 : ∀ x, S1 x -> ¬ S2 x := fun x q q2 => by
  have := f2 x q2
  rw [fr1 x (ne1 x q).2] at this
  exact u1.in q this
 refine dP.of (k Z3 w1 w2 (fun x => S1 x ∨ S2 x) (fun x o e => by rw [frz x (fun c => by subst c; rw [n2.2] at e; cases e)]; exact sN2 x o e) ⟨w1, w2, S1, S2, rfl, (u1.frame fun x q => by rw [frz x (ne1 x q).1, fr2 x (ne1 x q).2, Sub.eq t2 (by rw [fr1 x (ne1 x q).2]; exact u1.in q), fr1 x (ne1 x q).2]), (u2.frame WTold.fr fun x q => by rw [frz x (ne2 x q).1, fr2 x (ne2 x q).2]), d12, fun _ => Iff.rfl⟩ ?_)
 rintro x (q | q)
 ·exact sM0.none' (f1 x q)
 ·exact sN1.none' (f2 x q)
set_option maxHeartbeats 1000000 in
theorem toLiveS_c {h : H} {a : Value} {l : List DLive} (r : rIRs h (nLive h) 12 a l) (hl : l.length <= 1048576) (hb : ∀ d ∈ l, bLive d) {R : Ending -> H -> Prop} (k : ∀ M' v S, Tk.Sub h M' -> dR 50 WLive 12 M' v l S -> (∀ x, S x -> hget h x = none) -> R (.returned v) M') :
  HCalls Tryz.prog 21 #[a] h R := by
 refine qB (args := [a]) Tryz.func21 ir21 ?_
 have z1 := zLive_eq
 try simp only [str] at z1
 simp only [wk, seval, r.len, str, z1]
 refine ⟨⟨by omega, by omega, by omega, by omega⟩, qA fun j hj => ?_⟩
 simp only [wk, seval]
 obtain ⟨V, hV⟩ : ∃ V, V = Value.slice (some ⟨j, 0, none⟩) l.length l.length := ⟨_, rfl⟩
 obtain ⟨M0, hM0⟩ : ∃ M0, M0 = (j, blk (zrep (qE zLive (.slice none 0 0) (.slice none 0 0)) l.length) 50) :: h := ⟨_, rfl⟩
 have D0 : dRb 50 WLive 12 M0 (List.replicate l.length zLive) (fun x => x = j) j (List.replicate l.length (qE zLive (.slice none 0 0) (.slice none 0 0))) [] (fun _ _ => False) := by
  refine ⟨by rw [hM0, List.append_nil]; exact qL _ _ _, by simp, fun c hc => by rw [List.eq_of_mem_replicate hc]; rfl, fun i h1 h2 => ?_, fun _ _ q => q, fun _ _ _ _ _ _ q => q.elim, fun x => by simp⟩
  simp only [List.getElem_replicate]
  exact ⟨_, _, _, _, rfl, dL.nil, dR.nil, fun _ q => q.elim, fun _ => by simp⟩
 have d0 : dR 50 WLive 12 M0 V (l.take 0 ++ (List.replicate l.length zLive).drop 0) (fun x => x = j) := by
  have hr : (List.replicate l.length zLive).length = l.length := by simp
  refine .inr ⟨j, l.length, List.replicate l.length (qE zLive (.slice none 0 0) (.slice none 0 0)), [], fun _ _ => False, by simp only [List.take_zero, List.nil_append, List.drop_zero, hr]; exact hV, by simp, ?_, D0⟩
  rw [List.append_nil, flat_len (sz := 12) (fun c hc => by rw [List.eq_of_mem_replicate hc]; rfl)]; simp
 rw [<- hV, <- hM0]
 refine qS [4] (fun n vs M' => ∃ (i : Nat) (S : Nat -> Prop), vs = [.int .i64 i] /\ Tk.Sub h M' /\ dR 50 WLive 12 M' V (l.take i ++ (List.replicate l.length zLive).drop i) S /\ (∀ x, S x -> hget h x = none) /\ i <= l.length /\ n = l.length - i) l.length rfl
  ⟨0, _, rfl, by rw [hM0]; exact Sub.cons hj (Sub.refl _), d0, fun x e => e ▸ hj, by omega, rfl⟩ ?_
 rintro n f M' ⟨i, S, hv, sM, hd, hfr, hi, rfl⟩
 simp only [lm4] at hv
 simp only [wk, seval, wr, hv, r.len]
 refine qF (fun c1 => ?_) fun c1 => ?_
 ·have hi2 : i < l.length := by omega
  obtain ⟨b1, o1, cs1, hx1, e1, v1, v2, rfl, q1, q2⟩ := (r.sub sM fun _ _ q => nLive.sub sM q).at hi2
  simp only [wk, seval, hx1, e1]
  refine toLive_c q1 q2 (hb _ (List.getElem_mem hi2)) fun M2 w1 w2 T s2 wn fn => ?_
  have hsame : ∀ x, S x -> hget M2 x = hget M' x := fun x q => Sub.eq s2 (hd.in WLive.in q)
  have hdj : ∀ x, T x -> ¬ S x := fun x q q2 => hd.in WLive.in q2 (fn x q)
  have hd2 := hd.frame WLive.fr hsame
  rcases hd2 with ⟨_, e0, _⟩ | ⟨b, cap, css, sp, Ss, hv0, hc, hs, D⟩
  ·have := congrArg List.length e0
   rw [List.length_append, List.length_take, List.length_drop, List.length_replicate] at this
   simp at this; omega
  have hset := take_set hi2 (by simp : (List.replicate l.length zLive).length = l.length)
  have hll : (l.take i ++ (List.replicate l.length zLive).drop i).length = l.length := by rw [List.length_append, List.length_take, List.length_drop, List.length_replicate]; omega
  have hiL : i < (l.take i ++ (List.replicate l.length zLive).drop i).length := by omega
  obtain ⟨A, B, hAB, hA, hset2⟩ := D.split hiL
  have hx := idx_top (sz := 12) hv0 hiL
  have hget0 : hget M2 b = some (blk (A ++ (css[i]'(by rw [D.len]; exact hiL) ++ B)) 50) := by rw [D.get, hAB]
  have hcl : (css[i]'(by rw [D.len]; exact hiL)).length = 12 := D.sz _ (List.getElem_mem _)
  have wt : qT M2 b (i * 12) (qE l[i] w1 w2) = some (slot M2 b 50 A B (qE l[i] w1 w2)) := by
   have := zQ (j := 0) (e := 50) (B := B) (vs := qE l[i] w1 w2) hget0 hA (by rw [hcl]; exact Nat.le_refl _)
   rw [slot_self hget0] at this
   have h2 := splice_all (x := qE l[i] w1 w2) (y := css[i]'(by rw [D.len]; exact hiL)) (by rw [hcl]; rfl)
   rw [h2] at this
   exact this
  have hone : (qE l[i] w1 w2).all vone = true := by
   obtain ⟨_, _, _, _, e, p1, p2, _⟩ := wn
   rw [e]
   simp only [qE, List.all_cons, List.all_nil, p1.one, p2.one]; rfl
  simp only [wk, seval, hx, wt, hone, wLive]
  simp (disch := omega) only [wk, seval, qI]
  have fb : ∀ x, x ≠ b -> hget (slot M2 b 50 A B (qE l[i] w1 w2)) x = hget M2 x := fun x e => slot_ne e
  have hbS : S b := (D.dom b).2 (.inl rfl)
  refine ⟨l.length - (i + 1), by omega, _, .refl _, i + 1, (fun x => x = b ∨ ∃ j, j < ((l.take i ++ (List.replicate l.length zLive).drop i).set i l[i]).length /\ (if j = i then T else Ss j) x), by simp, fun x o e => ?_, .inr ⟨b, cap, css.set i (qE l[i] w1 w2), sp, (fun j => if j = i then T else Ss j), ?_, ?_, ?_, ?_⟩, ?_, by omega, rfl⟩
  ·rw [fb x (fun c => by subst c; rw [hfr _ hbS] at e; cases e)]; exact s2 _ _ (sM _ _ e)
  ·rw [<- hset, List.length_set]; exact hv0
  ·rw [<- hset, List.length_set]; exact hc
  ·rw [hset2 _ rfl, <- hs, hAB]; simp only [List.length_append, hcl]; rfl
  ·rw [<- hset]
   exact D.grow WLive.fr hiL rfl (by rw [hset2 _ rfl]; exact slot_get hget0) (WLive.fr _ _ _ _ _ (fun x q => fb x fun e => hdj x q (e ▸ hbS)) wn) hdj fun x _ e => fb x e
  ·rintro x (e | ⟨j, hj, q⟩)
   ·exact e ▸ hfr _ hbS
   ·by_cases e : j = i
    ·rw [if_pos e] at q; exact sM.none' (fn x q)
    ·rw [if_neg e] at q
     rw [List.length_set] at hj
     exact hfr x ((D.dom x).2 (.inr ⟨j, hj, q⟩))
 ·have hi' : i = l.length := by omega
  subst hi'
  rw [List.take_length, List.drop_of_length_le (by simp), List.append_nil] at hd
  exact .of (k M' V S sM hd hfr)
end Go.Proofs.YtgbapakcfmgahaaGreatDoor
end

section
set_option maxRecDepth 20000
attribute [local irreducible] Go.Tk.vc Go.Tk.vops Go.Tk.vdr Go.Tk.vop Go.Tk.vfl Go.Tk.HCalls
namespace Go.Tk
open Go
end Go.Tk
namespace Go.Proofs.YtgbapakcfmgahaaGreatDoor
open Go Go.Tk
end Go.Proofs.YtgbapakcfmgahaaGreatDoor
end
