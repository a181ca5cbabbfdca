/- Parts of the proof, put together: A32, A36, D2, P9, P10, P11, D3, D4, P12, P15, P16, P17, C1, C1B, U5, M0, T2I, Q0, Q1. -/
import Derived.Test.YtgbapakcfmgahaaGreatDoorK1313
import Derived.Test.YtgbapakcfmgahaaGreatDoorK135
import Derived.Test.YtgbapakcfmgahaaGreatDoorK136
import Derived.Test.YtgbapakcfmgahaaGreatDoorK1312
set_option linter.unusedVariables false
set_option linter.unusedSimpArgs false
set_option linter.defProp false
section
set_option maxRecDepth 20000
attribute [local irreducible] Go.Tk.vc Go.Tk.vops Go.Tk.vdr Go.Tk.vop Go.Tk.vfl Go.Tk.HCalls
namespace Go.Tk
open Go
def Ch (S : Nat -> Prop) (M M' : H) : Prop := ∀ i, ¬ S i -> hget M' i = hget M i
theorem Ch.refl (S : Nat -> Prop) (M : H) : Ch S M M := fun _ _ => rfl
theorem Ch.trans {S : Nat -> Prop} {M M1 M2 : H} (a : Ch S M M1) (b : Ch S M1 M2) : Ch S M M2 := fun i hi => (b i hi).trans (a i hi)
def hdel (M g : H) : H := M.filter fun p => (hget g p.1).isNone
theorem hget_hdel (M g : H) (i : Nat) : hget (hdel M g) i = if (hget g i).isNone = true then hget M i else none := by
 induction M with
 | nil => simp [hdel, hget_nil]
 | cons p t ih =>
  unfold hdel at ih ⊢
  rw [List.filter_cons]
  by_cases c : (hget g p.1).isNone = true
  ·rw [if_pos c, qX, qX]
   by_cases e : i = p.1
   ·subst e; simp [c]
   ·simp only [e, if_false]; exact ih
  ·rw [if_neg c, ih, qX]
   by_cases e : i = p.1
   ·subst e; simp [c]
   ·simp only [e, if_false]
theorem Sub_hdel {g M : H} (s : Sub g M) : Sub (g ++ hdel M g) M := fun i o e => by
 rw [hget_app] at e
 cases hg : hget g i with
 | none => rw [hg, hget_hdel, hg] at e; simpa using e
 | some x => rw [hg] at e; exact s i o (hg.trans (by simpa using e))
theorem Dj_hdel (g M : H) : Dj g (hdel M g) := fun i hi => by
 rw [hget_hdel]
 cases hg : hget g i with
 | none => exact absurd hg hi
 | some x => simp
theorem ows_dom {e e' sz sz' : Nat} {v : Value} {n n' : Nat} {cs cs' : List Value} {g g' : H} (o : ows e sz v n cs g) (o' : ows e' sz' v n' cs' g') (i : Nat) : hget g i ≠ none ↔ hget g' i ≠ none := by
 obtain ⟨_, ⟨rfl, _, rfl⟩ | ⟨j, cap, sp, rfl, _, _, rfl⟩⟩ := o
 ·obtain ⟨_, ⟨_, _, rfl⟩ | ⟨j', cap', sp', e', _, _, rfl⟩⟩ := o'
  ·exact Iff.rfl
  ·cases e'
 ·obtain ⟨_, ⟨e', _, _⟩ | ⟨j', cap', sp', e', _, _, rfl⟩⟩ := o'
  ·cases e'
  ·injection e' with e1 _ _
   injection e1 with e1
   injection e1 with e1 _ _
   subst e1
   simp only [qX, hget_nil]
   split <;> simp
section
variable {α : Type}
def dL (e : TypeId) (enc : α -> List Value) (sz : Nat) (M : H) (v : Value) (l : List α) (S : Nat -> Prop) : Prop := ∃ g, oLs e enc sz v l g /\ Sub g M /\ ∀ i, S i ↔ hget g i ≠ none
variable {e : TypeId} {enc : α -> List Value} {sz : Nat} {M M' : H} {v : Value} {l l' : List α} {S : Nat -> Prop}
theorem dL.rd (d : dL e enc sz M v l S) : rLs M enc sz v l := by obtain ⟨g, o, s, _⟩ := d; exact o.rd.sub s
theorem dL.one (d : dL e enc sz M v l S) : vone v = true := d.rd.one
theorem dL.frame (d : dL e enc sz M v l S) (c : ∀ i, S i -> hget M' i = hget M i) : dL e enc sz M' v l S := by
 obtain ⟨g, o, s, hS⟩ := d
 exact ⟨g, o, fun i x hx => by rw [c i ((hS i).2 (by rw [hx]; simp))]; exact s i x hx, hS⟩
theorem dL.in (d : dL e enc sz M v l S) {i : Nat} (h : S i) : hget M i ≠ none := by
 obtain ⟨g, o, s, hS⟩ := d
 intro c
 exact (hS i).1 h (s.none' c)
theorem dL.of {g h : H} (o : oLs e enc sz v l g) (s : Sub g M) : dL e enc sz M v l (fun i => hget g i ≠ none) := ⟨g, o, s, fun _ => Iff.rfl⟩
theorem dL.nil : dL e enc sz M (.slice none 0 0) [] (fun _ => False) := ⟨[], ows.nil _ _, Sub.nil _, fun i => by simp [hget_nil]⟩
theorem HCalls_ch {P : Program} {f : FuncId} {args : Array Value} {r : Value} (d : dL e enc sz M v l S)
  (c : ∀ (g h0 : H) (R : Ending -> H -> Prop), oLs e enc sz v l g -> Dj g h0 -> (∀ g', oLs e enc sz v l' g' -> Dj g' h0 -> R (.returned r) (g' ++ h0)) -> HCalls P f args (g ++ h0) R)
  {R : Ending -> H -> Prop} (k : ∀ M', dL e enc sz M' v l' S -> Ch S M M' -> R (.returned r) M') : HCalls P f args M R := by
 obtain ⟨g, o, s, hS⟩ := d
 refine (c g (hdel M g) R o (Dj_hdel _ _) fun g' o' d' => k _ ⟨g', o', Sub.left _ _, fun i => (hS i).trans (ows_dom o o' i)⟩ fun i hi => ?_).weaken (Sub_hdel s)
 have hg : hget g i = none := Classical.byContradiction fun c => hi ((hS i).2 c)
 have hg' : hget g' i = none := Classical.byContradiction fun c => hi ((hS i).2 ((ows_dom o o' i).2 c))
 rw [hget_app, hg', hget_hdel, hg]; rfl
end
def slot (M : H) (b : Nat) (e : TypeId) (A B c : List Value) : H := hupd M b (blk (A ++ (c ++ B)) e)
section
variable {M : H} {b : Nat} {e : TypeId} {A B c : List Value} {o : Nat}
theorem slot_self (h : hget M b = some (blk (A ++ (c ++ B)) e)) : slot M b e A B c = M := hupd_self _ _ _ h
theorem slot_get {x : Obj} (h : hget M b = some x) : hget (slot M b e A B c) b = some (blk (A ++ (c ++ B)) e) := qN h
theorem slot_ne {x : Nat} (h : x ≠ b) : hget (slot M b e A B c) x = hget M x := qG h
theorem slot_cel {x : Obj} (h : hget M b = some x) (hA : A.length = o) {j : Nat} {y : Value} (hy : c[j]? = some y) : hcel (slot M b e A B c) b (o + j) = some y := by
 have hj : j < c.length := by
  rcases Nat.lt_or_ge j c.length with q | q
  ·exact q
  ·rw [List.getElem?_eq_none q] at hy; cases hy
 unfold hcel
 rw [slot_get h]
 show ((A ++ (c ++ B)).toArray)[o + j]? = some y
 rw [List.getElem?_toArray, <- hA, List.getElem?_append_right (by omega), Nat.add_sub_cancel_left, List.getElem?_append_left hj]
 exact hy
theorem zQ {x : Obj} (h : hget M b = some x) (hA : A.length = o) {j : Nat} {vs : List Value} (hj : j + vs.length <= c.length) : qT (slot M b e A B c) b (o + j) vs = some (slot M b e A B (qJ c j vs)) := by
 unfold qT
 rw [slot_get h]
 simp only [Option.bind_some, wrObj_blk]
 rw [if_pos (by simp only [List.length_append]; omega)]
 simp only [Option.map_some, Option.some.injEq, slot, hupd_hupd]
 rw [<- hA, splice_right, splice_left _ _ _ _ hj]
end
structure dRb {α : Type} (e : TypeId) (W : H -> List Value -> α -> (Nat -> Prop) -> Prop) (sz : Nat) (M : H) (l : List α) (S : Nat -> Prop) (b : Nat) (css : List (List Value)) (sp : List Value) (Ss : Nat -> Nat -> Prop) : Prop where
 get : hget M b = some (blk (css.flatten ++ sp) e)
 len : css.length = l.length
 sz : ∀ c ∈ css, c.length = sz
 el : ∀ i (h1 : i < css.length) (h2 : i < l.length), W M css[i] l[i] (Ss i)
 nb : ∀ i, i < l.length -> ¬ Ss i b
 dj : ∀ i j, i < l.length -> j < l.length -> i ≠ j -> ∀ x, Ss i x -> ¬ Ss j x
 dom : ∀ x, S x ↔ x = b ∨ ∃ i, i < l.length /\ Ss i x
def dR {α : Type} (e : TypeId) (W : H -> List Value -> α -> (Nat -> Prop) -> Prop) (sz : Nat) (M : H) (v : Value) (l : List α) (S : Nat -> Prop) : Prop :=
 (v = .slice none 0 0 /\ l = [] /\ ∀ i, ¬ S i) ∨ ∃ b cap css sp Ss, v = .slice (some ⟨b, 0, none⟩) l.length cap /\ l.length <= cap /\ (css.flatten ++ sp).length = cap * sz /\ dRb e W sz M l S b css sp Ss
def dFr {α : Type} (W : H -> List Value -> α -> (Nat -> Prop) -> Prop) : Prop := ∀ M M' cs a S, (∀ x, S x -> hget M' x = hget M x) -> W M cs a S -> W M' cs a S
section
variable {α : Type} {e : TypeId} {W : H -> List Value -> α -> (Nat -> Prop) -> Prop} {sz : Nat} {M M' : H} {v : Value} {l : List α} {S : Nat -> Prop} {b : Nat} {css : List (List Value)} {sp : List Value} {Ss : Nat -> Nat -> Prop}
theorem dRb.frame (hW : dFr W) (d : dRb e W sz M l S b css sp Ss) (c : ∀ i, S i -> hget M' i = hget M i) : dRb e W sz M' l S b css sp Ss where
 get := by rw [c b ((d.dom b).2 (.inl rfl))]; exact d.get
 len := d.len
 sz := d.sz
 el := fun i h1 h2 => hW _ _ _ _ _ (fun x hx => c x ((d.dom x).2 (.inr ⟨i, h2, hx⟩))) (d.el i h1 h2)
 nb := d.nb
 dj := d.dj
 dom := d.dom
theorem dR.frame (hW : dFr W) (d : dR e W sz M v l S) (c : ∀ i, S i -> hget M' i = hget M i) : dR e W sz M' v l S := by
 rcases d with d | ⟨b, cap, css, sp, Ss, h1, h2, h3, d⟩
 ·exact .inl d
 ·exact .inr ⟨b, cap, css, sp, Ss, h1, h2, h3, d.frame hW c⟩
theorem dR.nil : dR e W sz M (.slice none 0 0) [] (fun _ => False) := .inl ⟨rfl, rfl, fun _ h => h⟩
theorem dR.rd {rel : H -> List Value -> α -> Prop} (hr : ∀ M cs a S, W M cs a S -> rel M cs a) (d : dR e W sz M v l S) : rRs M (rel M) sz v l := by
 rcases d with ⟨rfl, rfl, _⟩ | ⟨b, cap, css, sp, Ss, rfl, h2, h3, d⟩
 ·exact rRs.nil
 ·have hf := flat_len d.sz
  refine ⟨css, ⟨by rw [hf, d.len], .inr ⟨b, 0, cap, rfl, h2, ?_⟩⟩, ?_⟩
  ·unfold qQ
   rw [d.get]
   simp only [Option.bind_some, rdObj_blk]
   rw [if_pos (by rw [List.length_append, hf, d.len]; omega)]
   simp only [List.drop_zero]
   rw [<- d.len, <- hf, List.take_left']
   rfl
  ·have key : ∀ (css : List (List Value)) (l : List α) (h : css.length = l.length), (∀ i (h1 : i < css.length) (h2 : i < l.length), css[i].length = sz /\ rel M css[i] l[i]) -> All2 (fun c a => c.length = sz /\ rel M c a) css l := by
    intro css
    induction css with
    | nil => intro l h _; cases l with
     | nil => exact .nil
     | cons => cases h
    | cons c css ih =>
     intro l h x
     cases l with
     | nil => cases h
     | cons a l => exact .cons (x 0 (by simp) (by simp)) (ih l (by simpa using h) fun i h1 h2 => x (i + 1) (by simpa using h1) (by simpa using h2))
   exact key css l d.len fun i h1 h2 => ⟨d.sz _ (List.getElem_mem h1), hr _ _ _ _ (d.el i h1 h2)⟩
theorem dR.one (d : dR e W sz M v l S) : vone v = true := by
 rcases d with ⟨rfl, _⟩ | ⟨b, cap, css, sp, Ss, rfl, _⟩ <;> rfl
theorem dR.in (hi : ∀ M cs a S i, W M cs a S -> S i -> hget M i ≠ none) (d : dR e W sz M v l S) {i : Nat} (h : S i) : hget M i ≠ none := by
 rcases d with ⟨rfl, rfl, n⟩ | ⟨b, cap, css, sp, Ss, rfl, h2, h3, d⟩
 ·exact absurd h (n i)
 ·rcases (d.dom i).1 h with rfl | ⟨j, hj, hs⟩
  ·rw [d.get]; simp
  ·exact hi _ _ _ _ _ (d.el j (by rw [d.len]; exact hj) hj) hs
theorem dRb.split (d : dRb e W sz M l S b css sp Ss) {i : Nat} (hi : i < l.length) : ∃ A B, css.flatten ++ sp = A ++ ((css[i]'(by rw [d.len]; exact hi)) ++ B) /\ A.length = i * sz /\ ∀ c', c'.length = sz -> (css.set i c').flatten ++ sp = A ++ (c' ++ B) := by
 have hi2 : i < css.length := by rw [d.len]; exact hi
 refine ⟨(css.take i).flatten, (css.drop (i + 1)).flatten ++ sp, ?_, ?_, fun c' hc => ?_⟩
 ·have h0 : css = css.take i ++ (css[i] :: css.drop (i + 1)) := by rw [<- List.drop_eq_getElem_cons hi2, List.take_append_drop]
  have : css.flatten = (css.take i).flatten ++ (css[i] ++ (css.drop (i + 1)).flatten) := by
   conv => lhs; rw [h0]
   rw [List.flatten_append, List.flatten_cons]
  rw [this]; simp only [List.append_assoc]
 ·rw [flat_len fun c hc => d.sz c (List.mem_of_mem_take hc), List.length_take]
  congr 1; omega
 ·rw [List.set_eq_take_append_cons_drop, if_pos hi2, List.flatten_append, List.flatten_cons]; simp only [List.append_assoc]
theorem dRb.step (hW : dFr W) (d : dRb e W sz M l S b css sp Ss) {i : Nat} (hi : i < l.length) {c' : List Value} {a' : α} (hc : c'.length = sz) (hg : hget M' b = some (blk ((css.set i c').flatten ++ sp) e)) (hw : W M' c' a' (Ss i))
  (ch : ∀ x, x ≠ b -> ¬ Ss i x -> hget M' x = hget M x) : dRb e W sz M' (l.set i a') S b (css.set i c') sp Ss where
 get := hg
 len := by rw [List.length_set, List.length_set]; exact d.len
 sz := fun c hm => by
  rcases List.mem_or_eq_of_mem_set hm with hm | rfl
  ·exact d.sz c hm
  ·exact hc
 el := fun j h1 h2 => by
  rw [List.length_set] at h1 h2
  by_cases e : i = j
  ·subst e
   simp only [List.getElem_set_self]; exact hw
  ·simp only [List.getElem_set_ne e]
   refine hW _ _ _ _ _ (fun x hx => ch x (fun c => d.nb j h2 (c ▸ hx)) fun c => d.dj i j hi h2 e x c hx) (d.el j h1 h2)
 nb := fun j hj => d.nb j (by simpa using hj)
 dj := fun j k hj hk => d.dj j k (by simpa using hj) (by simpa using hk)
 dom := fun x => by rw [List.length_set]; exact d.dom x
end
def sU (S S1 S2 : Nat -> Prop) : Prop := (∀ i, S1 i -> ¬ S2 i) /\ ∀ i, S i ↔ S1 i ∨ S2 i
theorem idx_top {v : Value} {b n cap sz i : Nat} (hv : v = .slice (some ⟨b, 0, none⟩) n cap) (hi : i < n) (kd : IntKind) (f : Value -> Prop) : idxSK v (.int kd (i : Int)) sz f = f (.pointer (some ⟨b, i * sz, none⟩)) := by
 subst hv
 rw [idxSK_eq, Nat.zero_add, Int.toNat_natCast]
 exact propext ⟨fun x => x.2, fun x => ⟨⟨by omega, by omega⟩, x⟩⟩
theorem cel_at {M : H} {b : Nat} {e : TypeId} {A B c : List Value} {o : Nat} (h : hget M b = some (blk (A ++ (c ++ B)) e)) (hA : A.length = o) {j : Nat} {y : Value} (hy : c[j]? = some y) : hcel M b (o + j) = some y := by
 rw [<- slot_self h]; exact slot_cel h hA hy
theorem dRb.grow {α : Type} {e : TypeId} {W : H -> List Value -> α -> (Nat -> Prop) -> Prop} {sz : Nat} {M M' : H} {l : List α} {S : Nat -> Prop} {b : Nat} {css : List (List Value)} {sp : List Value} {Ss : Nat -> Nat -> Prop} (hW : dFr W) (d : dRb e W sz M l S b css sp Ss)
  {i : Nat} (hi : i < l.length) {c' : List Value} {a' : α} {T : Nat -> Prop} (hc : c'.length = sz) (hg : hget M' b = some (blk ((css.set i c').flatten ++ sp) e)) (hw : W M' c' a' T) (hT : ∀ x, T x -> ¬ S x) (ch : ∀ x, S x -> x ≠ b -> hget M' x = hget M x) :
  dRb e W sz M' (l.set i a') (fun x => x = b ∨ ∃ j, j < (l.set i a').length /\ (if j = i then T else Ss j) x) b (css.set i c') sp (fun j => if j = i then T else Ss j) where
 get := hg
 len := by rw [List.length_set, List.length_set]; exact d.len
 sz := fun c hm => by
  rcases List.mem_or_eq_of_mem_set hm with hm | rfl
  ·exact d.sz c hm
  ·exact hc
 el := fun j h1 h2 => by
  rw [List.length_set] at h1 h2
  by_cases e : j = i
  ·subst e
   simp only [List.getElem_set_self, if_true]; exact hw
  ·simp only [List.getElem_set_ne (Ne.symm e), if_neg e]
   exact hW _ _ _ _ _ (fun x hx => ch x ((d.dom x).2 (.inr ⟨j, h2, hx⟩)) (fun c => d.nb j h2 (c ▸ hx))) (d.el j h1 h2)
 nb := fun j hj hx => by
  rw [List.length_set] at hj
  by_cases e : j = i
  ·rw [if_pos e] at hx; exact hT b hx ((d.dom b).2 (.inl rfl))
  ·rw [if_neg e] at hx; exact d.nb j hj hx
 dj := fun j k hj hk hjk x hx hy => by
  rw [List.length_set] at hj hk
  by_cases e : j = i
  ·rw [if_pos e] at hx
   rw [if_neg (fun c => hjk (e.trans c.symm))] at hy
   exact hT x hx ((d.dom x).2 (.inr ⟨k, hk, hy⟩))
  ·rw [if_neg e] at hx
   by_cases e2 : k = i
   ·rw [if_pos e2] at hy; exact hT x hy ((d.dom x).2 (.inr ⟨j, hj, hx⟩))
   ·rw [if_neg e2] at hy; exact d.dj j k hj hk hjk x hx hy
 dom := fun x => Iff.rfl
theorem qH {M : H} {b : Nat} {cs : List Value} {e : TypeId} {j : Nat} {y : Value} (h : hget M b = some (blk cs e)) (hy : cs[j]? = some y) : hcel M b j = some y := by
 unfold hcel; rw [h]; show (cs.toArray)[j]? = some y; simpa using hy
theorem qU {M : H} {b n : Nat} {cs : List Value} {e : TypeId} (h : hget M b = some (blk cs e)) (hn : cs.length = n) : qQ M b 0 n = some cs := by
 unfold qQ; rw [h]; simp only [Option.bind_some, rdObj_blk]; rw [if_pos (by omega), List.drop_zero, <- hn, List.take_length]
theorem zH {M : H} {b : Nat} {cs : List Value} {e : TypeId} {j : Nat} {vs : List Value} (h : hget M b = some (blk cs e)) (hj : j + vs.length <= cs.length) : qT M b j vs = some (hupd M b (blk (qJ cs j vs) e)) := by
 unfold qT; rw [h]; simp only [Option.bind_some, wrObj_blk]; rw [if_pos hj]; rfl
theorem Sub.eq {g h : H} (s : Tk.Sub g h) {x : Nat} (q : hget g x ≠ none) : hget h x = hget g x := by
 cases e : hget g x with
 | none => exact absurd e q
 | some o => exact s x o e
theorem splice_all {x y : List Value} (h : y.length = x.length) : qJ y 0 x = x := by
 rw [splice_eq _ _ _ (by omega), List.take_zero, List.nil_append, Nat.zero_add, List.drop_of_length_le (by omega), List.append_nil]
theorem Ch.unbox {S : Nat -> Prop} {M N N' : H} {j : Nat} {o : Obj} (hN : N = (j, o) :: M) (hj : hget M j = none) (c : Ch S N N') (hS : ¬ S j) : ∃ N3, Tk.Sub N3 N' /\ Ch S M N3 /\ ∀ x, S x -> hget N3 x = hget N' x := by
 have g3 : ∀ x, x ≠ j -> hget (hdel N' [(j, o)]) x = hget N' x := fun x e => by
  rw [hget_hdel, if_pos]; simp [qX, hget_nil, e]
 have g3j : hget (hdel N' [(j, o)]) j = none := by rw [hget_hdel, if_neg]; simp [qX]
 refine ⟨hdel N' [(j, o)], fun x y e => ?_, fun x q => ?_, fun x q => g3 x fun e => hS (e ▸ q)⟩
 ·by_cases d : x = j
  ·subst d; rw [g3j] at e; cases e
  ·rw [<- g3 x d]; exact e
 ·by_cases d : x = j
  ·subst d; rw [g3j, hj]
  ·rw [g3 x d, c x q, hN, qX, if_neg d]
def rIRs {α : Type} (h : H) (rel : List Value -> α -> Prop) (sz : Nat) (v : Value) (l : List α) : Prop := rRs h rel sz v l ∨ (l = [] /\ ∃ a c, v = .slice a 0 c)
theorem rIRs.len {α : Type} {h : H} {rel : List Value -> α -> Prop} {sz : Nat} {v : Value} {l : List α} (r : rIRs h rel sz v l) {f : Value -> Prop} : lenSK v f = f (.int .i64 l.length) := by
 rcases r with r | ⟨rfl, a, c, rfl⟩
 ·exact r.len
 ·rfl
theorem rIRs.sub {α : Type} {g h : H} {rel rel' : List Value -> α -> Prop} {sz : Nat} {v : Value} {l : List α} (s : Tk.Sub g h) (hr : ∀ c a, rel c a -> rel' c a) (r : rIRs g rel sz v l) : rIRs h rel' sz v l := r.imp (rRs.sub s hr) id
theorem rIRs.at {α : Type} {h : H} {rel : List Value -> α -> Prop} {sz : Nat} {v : Value} {l : List α} {i : Nat} (r : rIRs h rel sz v l) (hi : i < l.length) :
  ∃ b o cs, (∀ (kd : IntKind) (f : Value -> Prop), idxSK v (.int kd (i : Int)) sz f = f (.pointer (some ⟨b, o, none⟩))) /\ qQ h b o sz = some cs /\ rel cs l[i] := by
 rcases r with r | ⟨rfl, a, c, rfl⟩
 ·exact zU r hi
 ·cases hi
end Go.Tk
end

section
namespace Go.Tk
open Go
section
variable {X : Type} {enc : TypeId × Value -> X} {P : Program} {w : World} {base : Nat} {sp : Nat -> Bool} {held : Bool}
theorem slice_rel {α : Type} {rel : List Value -> α -> Prop} {ok : α -> Prop} {t e : TypeId} {fuel sz : Nat} {a : Option Addr} {len cap : Nat} {x : DataW X × List MemPlace} (ht : P.underlying t = some (.slice e)) (hc : P.cellsOf e = sz) (hsz : 0 < sz)
  (h : DataW.trod enc P w base sp held fuel t [.slice a len cap] = some x) (dec : ∀ cs m y, cs.length = sz -> DataW.trod enc P w base sp held m e cs = some y -> ∃ b : α, rel cs b /\ ok b) :
  ∃ l : List α, rIRs (full w) rel sz (.slice a len cap) l /\ l.length <= maxLen /\ ∀ b ∈ l, ok b := by
 obtain ⟨hm, css, hlen, hall, hr⟩ := slice_rows ht hc hsz h
 have key : ∀ css : List (List Value), (∀ cs ∈ css, cs.length = sz /\ ∃ m y, DataW.trod enc P w base sp held m e cs = some y) -> ∃ l : List α, All2 (fun c b => c.length = sz /\ rel c b) css l /\ ∀ b ∈ l, ok b := by
  intro css
  induction css with
  | nil => exact fun _ => ⟨[], .nil, fun _ h => absurd h List.not_mem_nil⟩
  | cons c css ih =>
   intro hx
   obtain ⟨l, hl, hl2⟩ := ih fun cs hcs => hx cs (List.mem_cons_of_mem _ hcs)
   obtain ⟨h1, m, y, h2⟩ := hx c List.mem_cons_self
   obtain ⟨b, hb, hb2⟩ := dec c m y h1 h2
   refine ⟨b :: l, .cons ⟨h1, hb⟩ hl, fun b' hb' => ?_⟩
   rcases List.mem_cons.1 hb' with rfl | hb'
   ·exact hb2
   ·exact hl2 _ hb'
 obtain ⟨l, hl, hl2⟩ := key css hall
 have hll := hl.len
 refine ⟨l, ?_, by omega, hl2⟩
 have hf : css.flatten.length = l.length * sz := by rw [flat_len fun c hc => (hall c hc).1, hll]
 rcases hr with ⟨rfl, rfl, rfl⟩ | rfl | ⟨b, off, rfl, hcap, qQ⟩
 ·exact .inr ⟨List.length_eq_zero_iff.1 (by omega), _, _, rfl⟩
 ·exact .inr ⟨List.length_eq_zero_iff.1 (by omega), _, _, rfl⟩
 ·have : len = l.length := by omega
  subst this
  exact .inl ⟨css, ⟨hf, .inr ⟨b, off, cap, rfl, hcap, qQ⟩⟩, hl⟩
theorem slice_val {t e : TypeId} {fuel : Nat} {c : Value} {x : DataW X × List MemPlace} (ht : P.underlying t = some (.slice e)) (h : DataW.trod enc P w base sp held fuel t [c] = some x) : ∃ a len cap, c = .slice a len cap := by
 rcases DataW.trod_slice ht h with ⟨h0, _⟩ | ⟨ad, len', cap', elems, rest, n, _, h0, _⟩
 ·exact ⟨_, _, _, by simpa using h0⟩
 ·exact ⟨_, _, _, by simpa using h0⟩
end
end Go.Tk
end

section
set_option maxRecDepth 4000
namespace Go.Tk
open Go
structure DRec where
 kind : Int
 stamp : Int
 try_ : Int
 what : Int
 slots : List Int
 pairs : List ((Int × Int))
deriving DecidableEq
end Go.Tk
end

section
namespace Go.Tk
open Go
def stampP1 (n : Int) : Prop := inP 1 9999 n
end Go.Tk
end

section
namespace Go.Tk
open Go
def slotK (k : Int) : Int := if 0 <= k /\ k <= 31 then (k * 8).tdiv 32 else -1
theorem slotK_in {k : Int} (h : keyP k) : 0 <= slotK k /\ slotK k <= 7 := by
 have h2 : 0 <= k /\ k <= 31 := h
 obtain ⟨n, rfl⟩ : ∃ n : Nat, k = n := ⟨k.toNat, by omega⟩
 unfold slotK
 rw [if_pos h2]
 have : ((n : Int) * 8).tdiv 32 = ((n * 8 / 32 : Nat) : Int) := rfl
 rw [this]
 omega
def getP (l : List (Int × Int)) (k : Int) : Int := ((l.find? fun p => decide (p.1 = k)).map (·.2)).getD 0
def putV (l more : List (Int × Int)) (k : Int) : Int := ((more.find? fun p => decide (p.1 = k)).map (·.2)).getD (getP l k)
def putPs (l more : List (Int × Int)) (n : Nat) : List (Int × Int) := (List.range n).filterMap fun (k : Nat) => if putV l more k = 0 then none else some ((k : Int), putV l more k)
open Classical in
noncomputable def pairsPut (l more : List (Int × Int)) : List (Int × Int) := if pairsP l /\ pairsP more then putPs l more 32 else []
def noSlot (l : List (Int × Int)) (s : Int) : List (Int × Int) := l.filter fun p => !decide (slotK p.1 = s)
def promB (s t : Int) (r : DRec) : Bool := decide (r.kind = 1) && decide (r.stamp = s) && decide (r.try_ = t)
def promOf (log : List DRec) (s t : Int) : Option DRec := log.find? (promB s t)
abbrev Kept := Int -> Bool
def setK (f : Kept) (s : Int) (b : Bool) : Kept := fun x => if x = s then b else f x
def startK (id : Int) : Kept := fun s => decide (s.tmod 3 = id)
noncomputable def keepStep (log : List DRec) (st : Kept × List (Int × Int)) (r : DRec) : Kept × List (Int × Int) :=
 if r.kind ≠ 2 then st else
 match promOf log r.stamp r.try_ with
 | none => st
 | some p =>
  if p.what = 2 then (setK st.1 (p.slots.headD 0) false, noSlot st.2 (p.slots.headD 0))
  else if p.what = 3 then (setK st.1 (p.slots.headD 0) true, pairsPut (noSlot st.2 (p.slots.headD 0)) r.pairs)
  else (st.1, pairsPut st.2 r.pairs)
noncomputable def keepS (id : Int) (log l : List DRec) : Kept × List (Int × Int) := l.foldl (keepStep log) (startK id, [])
noncomputable def keeps (id : Int) (log : List DRec) : Kept × List (Int × Int) := keepS id log log
end Go.Tk
end

section
namespace Go.Tk
open Go
noncomputable section
end
end Go.Tk
end

section
set_option maxRecDepth 4000
namespace Go.Tk
open Go
structure DRecord where
 stamp : Int
 try_ : Int
 call : DCall
 code : Int
 vals : List Int
 pairs : List ((Int × Int))
deriving DecidableEq
def qC (d : DRecord) (vals' pairs' : Value) : List Value := [.int .i64 d.stamp, .int .i64 d.try_, .int .i64 d.call.session, .int .i64 d.call.number, .int .i64 d.call.kind, .string ⟨(d.call.text).toArray⟩, .int .i64 d.call.slot, .int .i64 d.call.to, .int .i64 d.code, vals', pairs']
def zRecord : DRecord := ⟨0, 0, ⟨0, 0, 0, [], 0, 0⟩, 0, [], []⟩
theorem zRecord_eq : [.int .i64 0, .int .i64 0, .int .i64 0, .int .i64 0, .int .i64 0, str [], .int .i64 0, .int .i64 0, .int .i64 0, .slice none 0 0, .slice none 0 0] = qC zRecord (.slice none 0 0) (.slice none 0 0) := rfl
theorem wRecord :
  (∀ (d : DRecord) (vals' pairs' : Value), (qC d vals' pairs').length = 11) /\
  (∀ (d : DRecord) (vals' pairs' : Value), (qC d vals' pairs')[0]? = some (.int .i64 d.stamp)) /\
  (∀ (d : DRecord) (vals' pairs' : Value), (qC d vals' pairs')[1]? = some (.int .i64 d.try_)) /\
  (∀ (d : DRecord) (vals' pairs' : Value), (qC d vals' pairs')[2]? = some (.int .i64 d.call.session)) /\
  (∀ (d : DRecord) (vals' pairs' : Value), (qC d vals' pairs')[3]? = some (.int .i64 d.call.number)) /\
  (∀ (d : DRecord) (vals' pairs' : Value), (qC d vals' pairs')[4]? = some (.int .i64 d.call.kind)) /\
  (∀ (d : DRecord) (vals' pairs' : Value), (qC d vals' pairs')[5]? = some (.string ⟨(d.call.text).toArray⟩)) /\
  (∀ (d : DRecord) (vals' pairs' : Value), (qC d vals' pairs')[6]? = some (.int .i64 d.call.slot)) /\
  (∀ (d : DRecord) (vals' pairs' : Value), (qC d vals' pairs')[7]? = some (.int .i64 d.call.to)) /\
  (∀ (d : DRecord) (vals' pairs' : Value), (qC d vals' pairs')[8]? = some (.int .i64 d.code)) /\
  (∀ (d : DRecord) (vals' pairs' : Value), (qC d vals' pairs')[9]? = some (vals')) /\
  (∀ (d : DRecord) (vals' pairs' : Value), (qC d vals' pairs')[10]? = some (pairs')) /\
  (∀ (d : DRecord) (vals' pairs' : Value), ((qC d vals' pairs').drop 0).take 11 = qC d vals' pairs') /\
  (∀ (d : DRecord) (vals' pairs' : Value), (qC d vals' pairs').take 11 = qC d vals' pairs') /\
  (∀ (d : DRecord) (vals' pairs' : Value), vone vals' = true -> vone pairs' = true -> (qC d vals' pairs').all vone = true) /\
  (∀ (d : DRecord) (vals' pairs' : Value) (x : Int), qJ (qC d vals' pairs') 0 [.int .i64 x] = qC { d with stamp := x } vals' pairs') /\
  (∀ (d : DRecord) (vals' pairs' : Value) (x : Int), qJ (qC d vals' pairs') 1 [.int .i64 x] = qC { d with try_ := x } vals' pairs') /\
  (∀ (d : DRecord) (vals' pairs' : Value) (x : Int), qJ (qC d vals' pairs') 2 [.int .i64 x] = qC { d with call := { d.call with session := x } } vals' pairs') /\
  (∀ (d : DRecord) (vals' pairs' : Value) (x : Int), qJ (qC d vals' pairs') 3 [.int .i64 x] = qC { d with call := { d.call with number := x } } vals' pairs') /\
  (∀ (d : DRecord) (vals' pairs' : Value) (x : Int), qJ (qC d vals' pairs') 4 [.int .i64 x] = qC { d with call := { d.call with kind := x } } vals' pairs') /\
  (∀ (d : DRecord) (vals' pairs' : Value) (x : List UInt8), qJ (qC d vals' pairs') 5 [.string ⟨(x).toArray⟩] = qC { d with call := { d.call with text := x } } vals' pairs') /\
  (∀ (d : DRecord) (vals' pairs' : Value) (x : Int), qJ (qC d vals' pairs') 6 [.int .i64 x] = qC { d with call := { d.call with slot := x } } vals' pairs') /\
  (∀ (d : DRecord) (vals' pairs' : Value) (x : Int), qJ (qC d vals' pairs') 7 [.int .i64 x] = qC { d with call := { d.call with to := x } } vals' pairs') /\
  (∀ (d : DRecord) (vals' pairs' : Value) (x : Int), qJ (qC d vals' pairs') 8 [.int .i64 x] = qC { d with code := x } vals' pairs') /\
  (∀ (d : DRecord) (vals' pairs' : Value) (x : Value), qJ (qC d vals' pairs') 9 [x] = qC d x pairs') /\
  (∀ (d : DRecord) (vals' pairs' : Value) (x : Value), qJ (qC d vals' pairs') 10 [x] = qC d vals' x) /\
  (∀ (d e : DRecord) (vals' pairs' : Value) (vals'' pairs'' : Value), qJ (qC d vals' pairs') 0 (qC e vals'' pairs'') = qC e vals'' pairs'') /\
  (∀ (d : DRecord) (vals' pairs' : Value), ((qC d vals' pairs').drop 2).take 6 = zL d.call) /\
  (∀ (d : DRecord) (vals' pairs' : Value) (x : DCall), qJ (qC d vals' pairs') 2 (zL x) = qC { d with call := x } vals' pairs') :=
 ⟨fun _ _ _ => rfl, fun _ _ _ => rfl, fun _ _ _ => rfl, fun _ _ _ => rfl, fun _ _ _ => rfl, fun _ _ _ => rfl, fun _ _ _ => rfl, fun _ _ _ => rfl, fun _ _ _ => rfl, fun _ _ _ => rfl, fun _ _ _ => rfl, fun _ _ _ => rfl, fun _ _ _ => rfl, fun _ _ _ => rfl, fun _ _ _ h0 h1 => by simp only [qC, List.all_cons, List.all_nil, h0, h1]; rfl, fun _ _ _ _ => rfl, fun _ _ _ _ => rfl, fun _ _ _ _ => rfl, fun _ _ _ _ => rfl, fun _ _ _ _ => rfl, fun _ _ _ _ => rfl, fun _ _ _ _ => rfl, fun _ _ _ _ => rfl, fun _ _ _ _ => rfl, fun _ _ _ _ => rfl, fun _ _ _ _ => rfl, fun _ _ _ _ _ _ => rfl, fun _ _ _ => rfl, fun _ _ _ _ => rfl⟩
def sRecord (h : H) (d : DRecord) (vals' pairs' : Value) : Prop := rLs h eI 1 vals' d.vals /\ rLs h eP 2 pairs' d.pairs
def rRecord (h : H) (cs : List Value) (d : DRecord) : Prop := ∃ vals' pairs', cs = qC d vals' pairs' /\ sRecord h d vals' pairs'
theorem sRecord.sub {g h : H} (s : Sub g h) {d : DRecord} {vals' pairs' : Value} (r : sRecord g d vals' pairs') : sRecord h d vals' pairs' := by
 obtain ⟨u0, u1⟩ := r
 exact ⟨rLs.sub s u0, rLs.sub s u1⟩
theorem rRecord.sub {g h : H} (s : Sub g h) {c : List Value} {d : DRecord} (r : rRecord g c d) : rRecord h c d := by
 obtain ⟨vals', pairs', e, r⟩ := r
 exact ⟨vals', pairs', e, sRecord.sub s r⟩
structure DTold where
 house : Int
 pairs : List ((Int × Int))
deriving DecidableEq
def zA (d : DTold) (pairs' : Value) : List Value := [.int .i64 d.house, pairs']
def zTold : DTold := ⟨0, []⟩
theorem zTold_eq : [.int .i64 0, .slice none 0 0] = zA zTold (.slice none 0 0) := rfl
theorem wTold :
  (∀ (d : DTold) (pairs' : Value), (zA d pairs').length = 2) /\
  (∀ (d : DTold) (pairs' : Value), (zA d pairs')[0]? = some (.int .i64 d.house)) /\
  (∀ (d : DTold) (pairs' : Value), (zA d pairs')[1]? = some (pairs')) /\
  (∀ (d : DTold) (pairs' : Value), ((zA d pairs').drop 0).take 2 = zA d pairs') /\
  (∀ (d : DTold) (pairs' : Value), (zA d pairs').take 2 = zA d pairs') /\
  (∀ (d : DTold) (pairs' : Value), vone pairs' = true -> (zA d pairs').all vone = true) /\
  (∀ (d : DTold) (pairs' : Value) (x : Int), qJ (zA d pairs') 0 [.int .i64 x] = zA { d with house := x } pairs') /\
  (∀ (d : DTold) (pairs' : Value) (x : Value), qJ (zA d pairs') 1 [x] = zA d x) /\
  (∀ (d e : DTold) (pairs' : Value) (pairs'' : Value), qJ (zA d pairs') 0 (zA e pairs'') = zA e pairs'') :=
 ⟨fun _ _ => rfl, fun _ _ => rfl, fun _ _ => rfl, fun _ _ => rfl, fun _ _ => rfl, fun _ _ h0 => by simp only [zA, List.all_cons, List.all_nil, h0]; rfl, fun _ _ _ => rfl, fun _ _ _ => rfl, fun _ _ _ _ => rfl⟩
def sTold (h : H) (d : DTold) (pairs' : Value) : Prop := rLs h eP 2 pairs' d.pairs
def rTold (h : H) (cs : List Value) (d : DTold) : Prop := ∃ pairs', cs = zA d pairs' /\ sTold h d pairs'
theorem sTold.sub {g h : H} (s : Sub g h) {d : DTold} {pairs' : Value} (r : sTold g d pairs') : sTold h d pairs' := rLs.sub s r
theorem rTold.sub {g h : H} (s : Sub g h) {c : List Value} {d : DTold} (r : rTold g c d) : rTold h c d := by
 obtain ⟨pairs', e, r⟩ := r
 exact ⟨pairs', e, sTold.sub s r⟩
structure DLive where
 stamp : Int
 try_ : Int
 version : Int
 phase : Int
 call : DCall
 locked : List Int
 told : List DTold
deriving DecidableEq
def qE (d : DLive) (locked' told' : Value) : List Value := [.int .i64 d.stamp, .int .i64 d.try_, .int .i64 d.version, .int .i64 d.phase, .int .i64 d.call.session, .int .i64 d.call.number, .int .i64 d.call.kind, .string ⟨(d.call.text).toArray⟩, .int .i64 d.call.slot, .int .i64 d.call.to, locked', told']
def zLive : DLive := ⟨0, 0, 0, 0, ⟨0, 0, 0, [], 0, 0⟩, [], []⟩
theorem zLive_eq : [.int .i64 0, .int .i64 0, .int .i64 0, .int .i64 0, .int .i64 0, .int .i64 0, .int .i64 0, str [], .int .i64 0, .int .i64 0, .slice none 0 0, .slice none 0 0] = qE zLive (.slice none 0 0) (.slice none 0 0) := rfl
theorem wLive :
  (∀ (d : DLive) (locked' told' : Value), (qE d locked' told').length = 12) /\
  (∀ (d : DLive) (locked' told' : Value), (qE d locked' told')[0]? = some (.int .i64 d.stamp)) /\
  (∀ (d : DLive) (locked' told' : Value), (qE d locked' told')[1]? = some (.int .i64 d.try_)) /\
  (∀ (d : DLive) (locked' told' : Value), (qE d locked' told')[2]? = some (.int .i64 d.version)) /\
  (∀ (d : DLive) (locked' told' : Value), (qE d locked' told')[3]? = some (.int .i64 d.phase)) /\
  (∀ (d : DLive) (locked' told' : Value), (qE d locked' told')[4]? = some (.int .i64 d.call.session)) /\
  (∀ (d : DLive) (locked' told' : Value), (qE d locked' told')[5]? = some (.int .i64 d.call.number)) /\
  (∀ (d : DLive) (locked' told' : Value), (qE d locked' told')[6]? = some (.int .i64 d.call.kind)) /\
  (∀ (d : DLive) (locked' told' : Value), (qE d locked' told')[7]? = some (.string ⟨(d.call.text).toArray⟩)) /\
  (∀ (d : DLive) (locked' told' : Value), (qE d locked' told')[8]? = some (.int .i64 d.call.slot)) /\
  (∀ (d : DLive) (locked' told' : Value), (qE d locked' told')[9]? = some (.int .i64 d.call.to)) /\
  (∀ (d : DLive) (locked' told' : Value), (qE d locked' told')[10]? = some (locked')) /\
  (∀ (d : DLive) (locked' told' : Value), (qE d locked' told')[11]? = some (told')) /\
  (∀ (d : DLive) (locked' told' : Value), ((qE d locked' told').drop 0).take 12 = qE d locked' told') /\
  (∀ (d : DLive) (locked' told' : Value), (qE d locked' told').take 12 = qE d locked' told') /\
  (∀ (d : DLive) (locked' told' : Value), vone locked' = true -> vone told' = true -> (qE d locked' told').all vone = true) /\
  (∀ (d : DLive) (locked' told' : Value) (x : Int), qJ (qE d locked' told') 0 [.int .i64 x] = qE { d with stamp := x } locked' told') /\
  (∀ (d : DLive) (locked' told' : Value) (x : Int), qJ (qE d locked' told') 1 [.int .i64 x] = qE { d with try_ := x } locked' told') /\
  (∀ (d : DLive) (locked' told' : Value) (x : Int), qJ (qE d locked' told') 2 [.int .i64 x] = qE { d with version := x } locked' told') /\
  (∀ (d : DLive) (locked' told' : Value) (x : Int), qJ (qE d locked' told') 3 [.int .i64 x] = qE { d with phase := x } locked' told') /\
  (∀ (d : DLive) (locked' told' : Value) (x : Int), qJ (qE d locked' told') 4 [.int .i64 x] = qE { d with call := { d.call with session := x } } locked' told') /\
  (∀ (d : DLive) (locked' told' : Value) (x : Int), qJ (qE d locked' told') 5 [.int .i64 x] = qE { d with call := { d.call with number := x } } locked' told') /\
  (∀ (d : DLive) (locked' told' : Value) (x : Int), qJ (qE d locked' told') 6 [.int .i64 x] = qE { d with call := { d.call with kind := x } } locked' told') /\
  (∀ (d : DLive) (locked' told' : Value) (x : List UInt8), qJ (qE d locked' told') 7 [.string ⟨(x).toArray⟩] = qE { d with call := { d.call with text := x } } locked' told') /\
  (∀ (d : DLive) (locked' told' : Value) (x : Int), qJ (qE d locked' told') 8 [.int .i64 x] = qE { d with call := { d.call with slot := x } } locked' told') /\
  (∀ (d : DLive) (locked' told' : Value) (x : Int), qJ (qE d locked' told') 9 [.int .i64 x] = qE { d with call := { d.call with to := x } } locked' told') /\
  (∀ (d : DLive) (locked' told' : Value) (x : Value), qJ (qE d locked' told') 10 [x] = qE d x told') /\
  (∀ (d : DLive) (locked' told' : Value) (x : Value), qJ (qE d locked' told') 11 [x] = qE d locked' x) /\
  (∀ (d e : DLive) (locked' told' : Value) (locked'' told'' : Value), qJ (qE d locked' told') 0 (qE e locked'' told'') = qE e locked'' told'') /\
  (∀ (d : DLive) (locked' told' : Value), ((qE d locked' told').drop 4).take 6 = zL d.call) /\
  (∀ (d : DLive) (locked' told' : Value) (x : DCall), qJ (qE d locked' told') 4 (zL x) = qE { d with call := x } locked' told') :=
 ⟨fun _ _ _ => rfl, fun _ _ _ => rfl, fun _ _ _ => rfl, fun _ _ _ => rfl, fun _ _ _ => rfl, fun _ _ _ => rfl, fun _ _ _ => rfl, fun _ _ _ => rfl, fun _ _ _ => rfl, fun _ _ _ => rfl, fun _ _ _ => rfl, fun _ _ _ => rfl, fun _ _ _ => rfl, fun _ _ _ => rfl, fun _ _ _ => rfl, fun _ _ _ h0 h1 => by simp only [qE, List.all_cons, List.all_nil, h0, h1]; rfl, fun _ _ _ _ => rfl, fun _ _ _ _ => rfl, fun _ _ _ _ => rfl, fun _ _ _ _ => rfl, fun _ _ _ _ => rfl, fun _ _ _ _ => rfl, fun _ _ _ _ => rfl, fun _ _ _ _ => rfl, fun _ _ _ _ => rfl, fun _ _ _ _ => rfl, fun _ _ _ _ => rfl, fun _ _ _ _ => rfl, fun _ _ _ _ _ _ => rfl, fun _ _ _ => rfl, fun _ _ _ _ => rfl⟩
def sLive (h : H) (d : DLive) (locked' told' : Value) : Prop := rLs h eI 1 locked' d.locked /\ rRs h (rTold h) 2 told' d.told
def rLive (h : H) (cs : List Value) (d : DLive) : Prop := ∃ locked' told', cs = qE d locked' told' /\ sLive h d locked' told'
theorem sLive.sub {g h : H} (s : Sub g h) {d : DLive} {locked' told' : Value} (r : sLive g d locked' told') : sLive h d locked' told' := by
 obtain ⟨u0, u1⟩ := r
 exact ⟨rLs.sub s u0, rRs.sub s (fun c d r => rTold.sub s r) u1⟩
theorem rLive.sub {g h : H} (s : Sub g h) {c : List Value} {d : DLive} (r : rLive g c d) : rLive h c d := by
 obtain ⟨locked', told', e, r⟩ := r
 exact ⟨locked', told', e, sLive.sub s r⟩
structure DWay where
 house : Int
 stamp : Int
deriving DecidableEq
def cWay (d : DWay) : List Value := [.int .i64 d.house, .int .i64 d.stamp]
def zWay : DWay := ⟨0, 0⟩
theorem zWay_eq : [.int .i64 0, .int .i64 0] = cWay zWay := rfl
theorem wWay :
  (∀ (d : DWay), (cWay d).length = 2) /\
  (∀ (d : DWay), (cWay d)[0]? = some (.int .i64 d.house)) /\
  (∀ (d : DWay), (cWay d)[1]? = some (.int .i64 d.stamp)) /\
  (∀ (d : DWay), ((cWay d).drop 0).take 2 = cWay d) /\
  (∀ (d : DWay), (cWay d).take 2 = cWay d) /\
  (∀ (d : DWay), (cWay d).all vone = true) /\
  (∀ (d : DWay) (x : Int), qJ (cWay d) 0 [.int .i64 x] = cWay { d with house := x }) /\
  (∀ (d : DWay) (x : Int), qJ (cWay d) 1 [.int .i64 x] = cWay { d with stamp := x }) /\
  (∀ (d e : DWay), qJ (cWay d) 0 (cWay e) = cWay e) :=
 ⟨fun _ => rfl, fun _ => rfl, fun _ => rfl, fun _ => rfl, fun _ => rfl, fun _ => rfl, fun _ _ => rfl, fun _ _ => rfl, fun _ _ => rfl⟩
structure DGate where
 up : Bool
 life : Int
 next : Int
 log : List DRecord
 lives : List DLive
 ways : List DWay
deriving DecidableEq
def cGate (d : DGate) (log' lives' ways' : Value) : List Value := [.bool d.up, .int .i64 d.life, .int .i64 d.next, log', lives', ways']
def zGate : DGate := ⟨false, 0, 0, [], [], []⟩
theorem zGate_eq : [.bool false, .int .i64 0, .int .i64 0, .slice none 0 0, .slice none 0 0, .slice none 0 0] = cGate zGate (.slice none 0 0) (.slice none 0 0) (.slice none 0 0) := rfl
theorem zB :
  (∀ (d : DGate) (log' lives' ways' : Value), (cGate d log' lives' ways').length = 6) /\
  (∀ (d : DGate) (log' lives' ways' : Value), (cGate d log' lives' ways')[0]? = some (.bool d.up)) /\
  (∀ (d : DGate) (log' lives' ways' : Value), (cGate d log' lives' ways')[1]? = some (.int .i64 d.life)) /\
  (∀ (d : DGate) (log' lives' ways' : Value), (cGate d log' lives' ways')[2]? = some (.int .i64 d.next)) /\
  (∀ (d : DGate) (log' lives' ways' : Value), (cGate d log' lives' ways')[3]? = some (log')) /\
  (∀ (d : DGate) (log' lives' ways' : Value), (cGate d log' lives' ways')[4]? = some (lives')) /\
  (∀ (d : DGate) (log' lives' ways' : Value), (cGate d log' lives' ways')[5]? = some (ways')) /\
  (∀ (d : DGate) (log' lives' ways' : Value), ((cGate d log' lives' ways').drop 0).take 6 = cGate d log' lives' ways') /\
  (∀ (d : DGate) (log' lives' ways' : Value), (cGate d log' lives' ways').take 6 = cGate d log' lives' ways') /\
  (∀ (d : DGate) (log' lives' ways' : Value), vone log' = true -> vone lives' = true -> vone ways' = true -> (cGate d log' lives' ways').all vone = true) /\
  (∀ (d : DGate) (log' lives' ways' : Value) (x : Bool), qJ (cGate d log' lives' ways') 0 [.bool x] = cGate { d with up := x } log' lives' ways') /\
  (∀ (d : DGate) (log' lives' ways' : Value) (x : Int), qJ (cGate d log' lives' ways') 1 [.int .i64 x] = cGate { d with life := x } log' lives' ways') /\
  (∀ (d : DGate) (log' lives' ways' : Value) (x : Int), qJ (cGate d log' lives' ways') 2 [.int .i64 x] = cGate { d with next := x } log' lives' ways') /\
  (∀ (d : DGate) (log' lives' ways' : Value) (x : Value), qJ (cGate d log' lives' ways') 3 [x] = cGate d x lives' ways') /\
  (∀ (d : DGate) (log' lives' ways' : Value) (x : Value), qJ (cGate d log' lives' ways') 4 [x] = cGate d log' x ways') /\
  (∀ (d : DGate) (log' lives' ways' : Value) (x : Value), qJ (cGate d log' lives' ways') 5 [x] = cGate d log' lives' x) /\
  (∀ (d e : DGate) (log' lives' ways' : Value) (log'' lives'' ways'' : Value), qJ (cGate d log' lives' ways') 0 (cGate e log'' lives'' ways'') = cGate e log'' lives'' ways'') :=
 ⟨fun _ _ _ _ => rfl, fun _ _ _ _ => rfl, fun _ _ _ _ => rfl, fun _ _ _ _ => rfl, fun _ _ _ _ => rfl, fun _ _ _ _ => rfl, fun _ _ _ _ => rfl, fun _ _ _ _ => rfl, fun _ _ _ _ => rfl, fun _ _ _ _ h0 h1 h2 => by simp only [cGate, List.all_cons, List.all_nil, h0, h1, h2]; rfl, fun _ _ _ _ _ => rfl, fun _ _ _ _ _ => rfl, fun _ _ _ _ _ => rfl, fun _ _ _ _ _ => rfl, fun _ _ _ _ _ => rfl, fun _ _ _ _ _ => rfl, fun _ _ _ _ _ _ _ _ => rfl⟩
def sGate (h : H) (d : DGate) (log' lives' ways' : Value) : Prop := rRs h (rRecord h) 11 log' d.log /\ rRs h (rLive h) 12 lives' d.lives /\ rLs h cWay 2 ways' d.ways
theorem sGate.sub {g h : H} (s : Sub g h) {d : DGate} {log' lives' ways' : Value} (r : sGate g d log' lives' ways') : sGate h d log' lives' ways' := by
 obtain ⟨u0, u1, u2⟩ := r
 exact ⟨rRs.sub s (fun c d r => rRecord.sub s r) u0, rRs.sub s (fun c d r => rLive.sub s r) u1, rLs.sub s u2⟩
end Go.Tk
end

section
set_option maxRecDepth 4000
namespace Go.Tk
open Go
structure DMap where
 version : Int
 owners : List Int
deriving DecidableEq
def cMap (d : DMap) (owners' : Value) : List Value := [.int .i64 d.version, owners']
def zMap : DMap := ⟨0, []⟩
theorem zMap_eq : [.int .i64 0, .slice none 0 0] = cMap zMap (.slice none 0 0) := rfl
theorem wMap :
  (∀ (d : DMap) (owners' : Value), (cMap d owners').length = 2) /\
  (∀ (d : DMap) (owners' : Value), (cMap d owners')[0]? = some (.int .i64 d.version)) /\
  (∀ (d : DMap) (owners' : Value), (cMap d owners')[1]? = some (owners')) /\
  (∀ (d : DMap) (owners' : Value), ((cMap d owners').drop 0).take 2 = cMap d owners') /\
  (∀ (d : DMap) (owners' : Value), (cMap d owners').take 2 = cMap d owners') /\
  (∀ (d : DMap) (owners' : Value), vone owners' = true -> (cMap d owners').all vone = true) /\
  (∀ (d : DMap) (owners' : Value) (x : Int), qJ (cMap d owners') 0 [.int .i64 x] = cMap { d with version := x } owners') /\
  (∀ (d : DMap) (owners' : Value) (x : Value), qJ (cMap d owners') 1 [x] = cMap d x) /\
  (∀ (d e : DMap) (owners' : Value) (owners'' : Value), qJ (cMap d owners') 0 (cMap e owners'') = cMap e owners'') :=
 ⟨fun _ _ => rfl, fun _ _ => rfl, fun _ _ => rfl, fun _ _ => rfl, fun _ _ => rfl, fun _ _ h0 => by simp only [cMap, List.all_cons, List.all_nil, h0]; rfl, fun _ _ _ => rfl, fun _ _ _ => rfl, fun _ _ _ _ => rfl⟩
end Go.Tk
end

section
namespace Go.Tk
open Go
def lim : Nat := 1048576
def bCall (c : DCall) : Prop := c.text.length <= lim
structure bRecord (r : DRecord) : Prop where
 v : r.vals.length <= lim
 p : r.pairs.length <= lim
 c : bCall r.call
def bTold (t : DTold) : Prop := t.pairs.length <= lim
structure bLive (x : DLive) : Prop where
 l : x.locked.length <= lim
 t : x.told.length <= lim
 ts : allP bTold x.told
 c : bCall x.call
structure bGate (g : DGate) : Prop where
 log : g.log.length <= lim
 recs : allP bRecord g.log
 lives : g.lives.length <= lim
 live : allP bLive g.lives
 ways : g.ways.length <= lim
end Go.Tk
end

section
namespace Go.Tk
open Go
def mapP (m : DMap) : Prop := inP 1 99 m.version /\ m.owners.length = 8 /\ allP zO m.owners
def map0 : DMap := ⟨1, (List.range 8).map fun (i : Nat) => (i : Int).tmod 3⟩
open Classical in
noncomputable def mapMove (m : DMap) (slot to : Int) : DMap × Int :=
 if ¬ mapP m then (zMap, 9)
 else if ¬ slotP slot ∨ ¬ zO to then (m, 9)
 else if 99 <= m.version then (m, 2)
 else if m.owners.getD slot.toNat 0 = to then (m, 3)
 else (⟨m.version + 1, m.owners.set slot.toNat to⟩, 0)
noncomputable def mapStep (m : DMap) (r : DRecord) : DMap := if r.call.kind = 2 /\ r.code = 0 then (mapMove m r.call.slot r.call.to).1 else m
noncomputable def zR (log : List DRecord) : DMap := log.foldl mapStep map0
def lastOf (log : List DRecord) (s : Int) : Option DRecord := log.reverse.find? fun r => decide (r.call.session = s)
def recordP (log : List DRecord) (next : Int) (r : DRecord) : Prop := inP 1 (next - 1) r.stamp /\ stampP1 r.try_ /\ callOkP r.call /\ inP 0 9 r.code /\ valsP r.vals /\ pairsP r.pairs /\
 (∀ x ∈ log, x.stamp ≠ r.stamp) /\ (∀ x, lastOf log r.call.session = some x -> x.call.number < r.call.number)
def glogP (log : List DRecord) (next : Int) : Prop := log.length <= 60 /\ ∀ i (h : i < log.length), recordP (log.take i) next log[i]
def toldP (l : List DTold) : Prop := (∀ t ∈ l, zO t.house /\ pairsP t.pairs) /\ risP (·.house) l
def liveP (x : DLive) (next : Int) : Prop := inP 1 (next - 1) x.stamp /\ stampP1 x.try_ /\ inP 1 99 x.version /\ inP 0 2 x.phase /\ callOkP x.call /\ (x.phase < 2 -> x.told = []) /\ (x.phase < 1 -> x.locked = []) /\
 toldP x.told /\ allP zO x.locked /\ risP id x.locked
def usedN (l : List DWay) (h : Int) : Nat := l.countP fun w => decide (w.house = h)
def liveOf (l : List DLive) (s : Int) : Option DLive := l.find? fun x => decide (x.stamp = s)
def wayLt (a b : DWay) : Prop := a.house < b.house ∨ (a.house = b.house /\ a.stamp < b.stamp)
def waysP (lives : List DLive) (ways : List DWay) : Prop := (∀ w ∈ ways, zO w.house /\ (∃ x, liveOf lives w.stamp = some x /\ x.phase ≠ 0) /\ usedN ways w.house <= 2) /\ ∀ i (h : i + 1 < ways.length), wayLt (ways[i]'(by omega)) ways[i + 1]
def livesP (g : DGate) : Prop := g.lives.length <= 3 /\ (∀ x ∈ g.lives, liveP x g.next /\ (∀ r ∈ g.log, r.stamp ≠ x.stamp) /\ ∀ r, lastOf g.log x.call.session = some r -> r.call.number < x.call.number) /\
 risP (·.stamp) g.lives /\ ∀ i j (hj : j < g.lives.length) (hi : i < j), (g.lives[i]'(by omega)).call.session ≠ g.lives[j].call.session
def gateOkP (g : DGate) : Prop := inP 1 99 g.life /\ inP 1 9999 g.next /\ glogP g.log g.next /\ livesP g /\ (g.up = false -> g.lives = [] /\ g.ways = []) /\ waysP g.lives g.ways
end Go.Tk
end

section
namespace Go.Tk
open Go
section
variable {α : Type} (mk : Int -> α -> α) (cnt : α -> Nat)
def sumL : List α -> Nat
 | [] => 0
 | a :: l => cnt a + sumL l
def mkL : Int -> List α -> List α
 | _, [] => []
 | k, a :: l => mk k a :: mkL (k + cnt a) l
theorem sumL_app (l m : List α) : sumL cnt (l ++ m) = sumL cnt l + sumL cnt m := by
 induction l with
 | nil => simp [sumL]
 | cons a l ih => simp only [List.cons_append, sumL, ih]; omega
theorem sumL_more {l : List α} {i : Nat} (h : i < l.length) : sumL cnt (l.take (i + 1)) = sumL cnt (l.take i) + cnt l[i] := by
 rw [List.take_succ_eq_append_getElem h, sumL_app]; simp [sumL]
theorem sumL_take (l : List α) (i : Nat) : sumL cnt (l.take i) <= sumL cnt l := by
 have := sumL_app cnt (l.take i) (l.drop i)
 rw [List.take_append_drop] at this; omega
theorem sumL_mem {l : List α} {a : α} (h : a ∈ l) : cnt a <= sumL cnt l := by
 induction l with
 | nil => cases h
 | cons b l ih =>
  simp only [sumL]
  rcases List.mem_cons.1 h with rfl | h
  ·omega
  ·have := ih h; omega
theorem sumL_le {f : α -> Nat} {l : List α} {c d : Nat} (h : ∀ a ∈ l, cnt a <= c + d * f a) : sumL cnt l <= c * l.length + d * sumL f l := by
 induction l with
 | nil => simp [sumL]
 | cons a l ih =>
  have h1 := h a List.mem_cons_self
  have h2 := ih fun b hb => h b (List.mem_cons_of_mem _ hb)
  simp only [sumL, List.length_cons, Nat.mul_add, Nat.mul_one]; omega
theorem mkL_len (k : Int) (l : List α) : (mkL mk cnt k l).length = l.length := by
 induction l generalizing k with
 | nil => rfl
 | cons a l ih => simp [mkL, ih]
theorem mkL_at : ∀ (l : List α) (k : Int) (i : Nat) (h : i < (mkL mk cnt k l).length) (h2 : i < l.length), (mkL mk cnt k l)[i] = mk (k + sumL cnt (l.take i)) l[i] := by
 intro l
 induction l with
 | nil => intro k i h h2; cases h2
 | cons a l ih =>
  intro k i h h2
  cases i with
  | zero => simp [mkL, sumL]
  | succ i =>
   simp only [mkL, List.getElem_cons_succ, List.take_succ_cons, sumL]
   rw [ih (k + cnt a) i (by simpa [mkL] using h) (by simpa using h2)]
   congr 1; omega
theorem mkL_app (l m : List α) (k : Int) : mkL mk cnt k (l ++ m) = mkL mk cnt k l ++ mkL mk cnt (k + sumL cnt l) m := by
 induction l generalizing k with
 | nil => simp [mkL, sumL]
 | cons a l ih =>
  simp only [List.cons_append, mkL, ih, sumL]
  congr 3; omega
theorem mkL_set (k : Int) (l : List α) (i : Nat) (h : i < l.length) : (mkL mk cnt k (l.take i) ++ l.drop i).set i (mk (k + sumL cnt (l.take i)) l[i]) = mkL mk cnt k (l.take (i + 1)) ++ l.drop (i + 1) := by
 have hl : (mkL mk cnt k (l.take i)).length = i := by rw [mkL_len, List.length_take]; omega
 rw [List.set_append_right _ _ (by omega), hl, Nat.sub_self, List.drop_eq_getElem_cons h, List.set_cons_zero, List.take_succ_eq_append_getElem h, mkL_app]
 simp [mkL]
theorem mkL_cur (k : Int) (l : List α) (i : Nat) (h : i < l.length) (h2 : i < (mkL mk cnt k (l.take i) ++ l.drop i).length) : (mkL mk cnt k (l.take i) ++ l.drop i)[i] = l[i] := by
 have hl : (mkL mk cnt k (l.take i)).length = i := by rw [mkL_len, List.length_take]; omega
 rw [List.getElem_append_right (by omega)]
 simp [hl]
end
end Go.Tk
end

section
namespace Go.Tk
open Go
def mkRec (mT : Int -> List UInt8) (k : Int) (r : DRecord) : DRecord := ⟨k, k + 1, ⟨k + 2, k + 3, k + 4, mT (k + 5), k + 6, k + 7⟩, k + 8, mks (k + 9) r.vals.length, mkp (k + 9 + r.vals.length) r.pairs.length⟩
def cnRec (r : DRecord) : Nat := 9 + r.vals.length + 2 * r.pairs.length
def szRec (r : DRecord) : Nat := r.call.text.length + r.vals.length + r.pairs.length
def mkTold (k : Int) (t : DTold) : DTold := ⟨k, mkp (k + 1) t.pairs.length⟩
def cnTold (t : DTold) : Nat := 1 + 2 * t.pairs.length
def szTold (t : DTold) : Nat := t.pairs.length
def mkLive (mT : Int -> List UInt8) (k : Int) (x : DLive) : DLive := ⟨k, k + 1, k + 2, k + 3, ⟨k + 4, k + 5, k + 6, mT (k + 7), k + 8, k + 9⟩, mks (k + 10) x.locked.length, mkL mkTold cnTold (k + 10 + x.locked.length) x.told⟩
def cnLive (x : DLive) : Nat := 10 + x.locked.length + sumL cnTold x.told
def szLive (x : DLive) : Nat := x.call.text.length + x.locked.length + (x.told.length + sumL szTold x.told)
def szGateN (g : DGate) : Nat := (g.log.length + sumL szRec g.log) + (g.lives.length + sumL szLive g.lives) + g.ways.length
end Go.Tk
end

section
set_option maxRecDepth 20000
attribute [local irreducible] Go.Tk.vc Go.Tk.vops Go.Tk.vdr Go.Tk.vop Go.Tk.vfl Go.Tk.HCalls
namespace Go.Proofs.YtgbapakcfmgahaaGreatDoor
open Go Go.Tk
theorem szCall_c {h : H} {c : DCall} {left : Int} (hl : 0 <= left /\ left <= 1048576) (ht : c.text.length <= 9223372036854775807) {R : Ending -> H -> Prop}
  (k : ∀ n : Int, (0 <= n -> n <= left /\ (c.text.length : Int) <= left) -> -1 <= n -> R (.returned (.int .i64 n)) h) : HCalls Tryz.prog 78 #[.agg (zL c).toArray, .int .i64 left] h R := by
 refine qB (args := [.agg (zL c).toArray, .int .i64 left]) Tryz.func78 ir78 ?_
 simp only [wk, seval, zE]
 refine qA fun j hj => ?_
 simp (disch := omega) only [wk, seval, zE, qI]
 refine qF (fun c => ⟨h, Sub.cons hj (Sub.refl h), k (-1) (by omega) (by omega)⟩) fun c => ?_
 exact ⟨h, Sub.cons hj (Sub.refl h), k _ (fun _ => by omega) (by omega)⟩
theorem toCall_c {h : H} {c : DCall} {R : Ending -> H -> Prop} (k : R (.returned (.agg (zL c).toArray)) h) : HCalls Tryz.prog 91 #[.agg (zL c).toArray] h R := by
 refine qB (args := [.agg (zL c).toArray]) Tryz.func91 ir91 ?_
 have zc := zCall_eq
 simp only [str] at zc
 simp only [wk, seval, zE, str, zc]
 refine qA fun j1 h1 => ?_
 simp only [wk, seval, zE]
 refine qA fun j2 h2 => ?_
 have n2 := h2
 simp only [subs] at n2
 simp only [wk, seval, zE, n2]
 refine qA fun j3 h3 => ?_
 have n3 := h3
 simp only [subs] at n3
 have m : j1 ≠ j2 /\ j1 ≠ j3 /\ j2 ≠ j3 /\ j2 ≠ j1 /\ j3 ≠ j1 /\ j3 ≠ j2 := by refine ⟨?_, ?_, ?_, ?_, ?_, ?_⟩ <;> simp_all [Ne, eq_comm]
 simp only [wk, seval, zE, m]
 exact ⟨h, by (repeat' first | exact Sub.refl _ | exact Sub.nil _ | assumption | refine Sub.both ?_ ?_ | refine Sub.cons_of (by simp only [subs, n2, n3, m, h1]) ?_ | exact Sub.left _ _ | refine Sub.app (by simp only [subs, n2, n3, m, h1]) ?_ | refine Sub.cons (by simp only [subs, n2, n3, m, h1]) ?_), k⟩
end Go.Proofs.YtgbapakcfmgahaaGreatDoor
end

section
set_option maxRecDepth 20000
attribute [local irreducible] Go.Tk.vc Go.Tk.vops Go.Tk.vdr Go.Tk.vop Go.Tk.vfl Go.Tk.HCalls
namespace Go.Proofs.YtgbapakcfmgahaaGreatDoor
open Go Go.Tk
theorem eqCall_c {h : H} {x y : DCall} {R : Ending -> H -> Prop} (k : R (.returned (.bool (decide (x = y)))) h) : HCalls Tryz.prog 73 #[.agg (zL x).toArray, .agg (zL y).toArray] h R := by
 refine qB (args := [.agg (zL x).toArray, .agg (zL y).toArray]) Tryz.func73 ir73 ?_
 simp only [wk, seval, zE]
 refine qA fun j1 h1 => ?_
 simp only [wk, seval, zE]
 refine qA fun j2 h2 => ?_
 have n := fresh h2
 simp only [wk, seval, zE, n.1, n.2.1, strBin, str_inj]
 refine zK (fun d => ⟨h, Sub.cons h2 (Sub.cons h1 (Sub.refl h)), kF k (fun e => d (by rw [e]))⟩) fun d0 => ?_
 refine zK (fun d => ⟨h, Sub.cons h2 (Sub.cons h1 (Sub.refl h)), kF k (fun e => d (by rw [e]))⟩) fun d1 => ?_
 refine zK (fun d => ⟨h, Sub.cons h2 (Sub.cons h1 (Sub.refl h)), kF k (fun e => d (by rw [e]))⟩) fun d2 => ?_
 refine zK (fun d => ⟨h, Sub.cons h2 (Sub.cons h1 (Sub.refl h)), kF k (fun e => d (by rw [e]))⟩) fun d3 => ?_
 refine zK (fun d => ⟨h, Sub.cons h2 (Sub.cons h1 (Sub.refl h)), kF k (fun e => d (by rw [e]))⟩) fun d4 => ?_
 refine zK (fun d => ⟨h, Sub.cons h2 (Sub.cons h1 (Sub.refl h)), kF k (fun e => d (by rw [e]))⟩) fun d5 => ?_
 refine ⟨h, Sub.cons h2 (Sub.cons h1 (Sub.refl h)), kT k ?_⟩
 cases x; cases y; simp_all
end Go.Proofs.YtgbapakcfmgahaaGreatDoor
end

section
set_option maxRecDepth 20000
attribute [local irreducible] Go.Tk.vc Go.Tk.vops Go.Tk.vdr Go.Tk.vop Go.Tk.vfl Go.Tk.HCalls
namespace Go.Tk
open Go
end Go.Tk
namespace Go.Proofs.YtgbapakcfmgahaaGreatDoor
open Go Go.Tk
end Go.Proofs.YtgbapakcfmgahaaGreatDoor
end

section
set_option maxRecDepth 20000
attribute [local irreducible] Go.Tk.vc Go.Tk.vops Go.Tk.vdr Go.Tk.vop Go.Tk.vfl Go.Tk.HCalls
namespace Go.Tk
open Go
def mT (k : Int) : List UInt8 := 109 :: decN k.toNat
end Go.Tk
namespace Go.Proofs.YtgbapakcfmgahaaGreatDoor
open Go Go.Tk
theorem markText_c {k : Int} (hk : 1 <= k /\ k <= 1099511627776) {h : H} {R : Ending -> H -> Prop} (kr : R (.returned (.string ⟨(mT k).toArray⟩)) h) : HCalls Tryz.prog 41 #[.int .i64 k] h R := by
 obtain ⟨K, rfl⟩ : ∃ K : Nat, k = K := ⟨k.toNat, by omega⟩
 refine qB (args := [.int .i64 K]) Tryz.func41 ir41 ?_
 have hK := decN_len20 (n := K) (by omega)
 simp only [wk, seval, str]
 refine ite_ge (fun c => by omega) fun c => ?_
 refine vc_loopS (g0 := h) [3, 0] (fun n vs h' => ∃ (m : Nat) (s : List UInt8), vs = [.string ⟨s.toArray⟩, .int .i64 m] /\ h' = h /\ ((m = 0 /\ s = decN K) ∨ (1 <= m /\ decN K = decN m ++ s)) /\ m <= K /\ n = m) K rfl (Sub.refl _)
  ⟨K, [], rfl, rfl, .inr ⟨by omega, by simp⟩, by omega, rfl⟩ ?_
 rintro n f h' ⟨m, s, hv, rfl, hs, hm, rfl⟩
 simp only [lm4] at hv
 simp only [wk, seval, wr, hv.1, hv.2, str]
 refine qZ (fun c1 => ?_) fun c1 => ?_
 ·have hn0 : 1 <= n := by omega
  have hs := (hs.resolve_left fun x => by omega).2
  have e1 : ((n : Nat) : Int).tdiv 10 = ((n / 10 : Nat) : Int) := rfl
  have e2 : ((n : Nat) : Int).tmod 10 = ((n % 10 : Nat) : Int) := rfl
  have e3 : (48 : Int) + ((n % 10 : Nat) : Int) = ((48 + n % 10 : Nat) : Int) := by omega
  simp (disch := omega) only [wk, seval, qI, e1, e2, e3, u8_of]
  refine qA (o := blk (fl eB [UInt8.ofNat (48 + n % 10)]) 5) fun j hj => ?_
  have bt := fun f => btos_rd (rB_lit (j := j) (e := 5) (h := h') [UInt8.ofNat (48 + n % 10)]) (f := f)
  simp only [List.length_cons, List.length_nil, Nat.zero_add] at bt
  have hsl : s.length <= 20 := by have := congrArg List.length hs; rw [List.length_append] at this; omega
  have hsz : [UInt8.ofNat (48 + n % 10)].length + s.length <= 9223372036854775807 := by simp only [List.length_cons, List.length_nil]; omega
  simp (disch := omega) only [wk, seval, bt, str_add _ _ hsz, qI, e1]
  refine ⟨n / 10, by omega, h', Sub.cons hj (Sub.refl _), n / 10, [UInt8.ofNat (48 + n % 10)] ++ s, rfl, rfl, ?_, by omega, rfl⟩
  by_cases c2 : n < 10
  ·refine .inl ⟨by omega, ?_⟩
   rw [hs, decN_small c2]
   have : n % 10 = n := by omega
   rw [this]
  ·refine .inr ⟨by omega, ?_⟩
   rw [hs, decN_big c2, List.append_assoc]
 ·have hs := (hs.resolve_right fun x => by omega).2
  subst hs
  have hsz : ([109] : List UInt8).length + (decN K).length <= 9223372036854775807 := by simp only [List.length_cons, List.length_nil]; omega
  simp only [wk, seval, str, str_add _ _ hsz]
  exact .of kr
end Go.Proofs.YtgbapakcfmgahaaGreatDoor
end

section
set_option maxRecDepth 20000
attribute [local irreducible] Go.Tk.vc Go.Tk.vops Go.Tk.vdr Go.Tk.vop Go.Tk.vfl Go.Tk.HCalls
namespace Go.Proofs.YtgbapakcfmgahaaGreatDoor
open Go Go.Tk
theorem eqIntS_c {h : H} {a b : Value} {la lb : List Int} (ra : rInts h a la) (rb : rInts h b lb) (ha : la.length <= 1099511627776) {R : Ending -> H -> Prop} (k : R (.returned (.bool (decide (la = lb)))) h) :
  HCalls Tryz.prog 71 #[a, b] h R := by
 refine qB (args := [a, b]) Tryz.func71 ir71 ?_
 simp only [wk, seval, ra.len, rb.len]
 split
 ·rename_i c
  have : la ≠ lb := fun e => c (by rw [e])
  simp only [this, decide_false] at k
  exact .of k
 ·rename_i c
  have hl : la.length = lb.length := by omega
  refine qS [5] (fun n vs h' => ∃ i : Nat, vs = [.int .i64 i] /\ h' = h /\ i <= la.length /\ n = la.length - i /\ la.take i = lb.take i) la.length rfl ⟨0, rfl, rfl, by omega, by omega, by simp⟩ ?_
  rintro n f h' ⟨i, hv, rfl, hi, rfl, ht⟩
  simp only [lm4] at hv
  simp only [wk, seval, wr, hv, ra.len, rb.len]
  split
  ·rename_i c1
   refine qY h' (Sub.refl _) ?_
   simp only [wk, seval]
   refine zJ (i := i) zC ra rfl (by omega) fun b1 o1 e1 => ?_
   simp only [wk, seval, zW e1]
   refine zJ (i := i) zC rb rfl (by omega) fun b2 o2 e2 => ?_
   simp only [wk, seval, zW e2]
   split
   ·rename_i d
    have : la ≠ lb := ne_at _ _ d
    simp only [this, decide_false] at k
    exact .of k
   ·rename_i d
    simp (disch := omega) only [qI]
    exact ⟨la.length - (i + 1), by omega, h', .refl _, i + 1, by simp, rfl, by omega, rfl, take_more _ _ ht (by simpa using d)⟩
  ·rename_i c1
   have := take_all (by omega) hl ht
   simp only [this, decide_true] at k
   exact .of k
theorem markIntS_c {e : TypeId} {g h0 : H} {v : Value} {l : List Int} {k : Int} (o : oLs e eI 1 v l g) (dj : Dj g h0) (hl : l.length <= 1099511627776) (hk : 0 <= k /\ k <= 1099511627776000) {R : Ending -> H -> Prop}
  (kr : ∀ g', oLs e eI 1 v (mks k l.length) g' -> Dj g' h0 -> R (.returned (.int .i64 (k + l.length))) (g' ++ h0)) :
  HCalls Tryz.prog 39 #[v, .int .i64 k] (g ++ h0) R := by
 refine qB (args := [v, .int .i64 k]) Tryz.func39 ir39 ?_
 simp only [wk, seval]
 refine qS [5, 1] (fun n vs h' => ∃ (i : Nat) (g' : H), vs = [.int .i64 i, .int .i64 (k + i)] /\ h' = g' ++ h0 /\ Dj g' h0 /\ oLs e eI 1 v (mks k i ++ l.drop i) g' /\ i <= l.length /\ n = l.length - i) l.length rfl ⟨0, g, by simp, rfl, dj, by simpa [mks] using o, by omega, rfl⟩ ?_
 rintro n f h' ⟨i, g', hv, rfl, dj', o', hi, rfl⟩
 simp only [lm4] at hv
 have hll : (mks k i ++ l.drop i).length = l.length := by simp [mks_len]; omega
 have hlen : ∀ {f : Value -> Prop}, lenSK v f = f (.int .i64 l.length) := fun {f} => by rw [<- hll]; exact o'.rd.len
 simp only [wk, seval, wr, hv.1, hv.2, hlen]
 split
 ·rename_i c1
  refine own_idx (i := i) zC o' rfl (by omega) fun b cap sp hv' hc hs hg => ?_
  subst hg
  simp only [wk, seval]
  refine st_own (i := i) (a' := k + i) (off := 0) zC (by omega) (by omega) rfl (by omega) rfl ?_
  simp only [wk, seval]
  simp (disch := omega) only [qI]
  refine ⟨l.length - (i + 1), by omega, _, .refl _, i + 1, _, ?_, rfl, dj'.sub (.refl _) (.refl _) |> fun d => Dj.one d.one', ?_, by omega, rfl⟩
  ·simp; omega
  ·rw [<- mks_set k l i (by omega)]; exact own_set zC hv' hc hs
 ·rename_i c1
  have hi' : i = l.length := by omega
  subst hi'
  simp only [List.drop_length, List.append_nil] at o'
  exact .of (kr g' o' dj')
theorem heldIntS_c {h : H} {v : Value} {l : List Int} {k : Int} (r : rInts h v l) (hm : l = mks k l.length) (hl : l.length <= 1099511627776) (hk : 0 <= k /\ k <= 1099511627776000) {R : Ending -> H -> Prop}
  (kr : R (.returned (.int .i64 (k + l.length))) h) : HCalls Tryz.prog 42 #[v, .int .i64 k] h R := by
 refine qB (args := [v, .int .i64 k]) Tryz.func42 ir42 ?_
 simp only [wk, seval]
 refine qS [5, 1] (fun n vs h' => ∃ (i : Nat), vs = [.int .i64 i, .int .i64 (k + i)] /\ h' = h /\ i <= l.length /\ n = l.length - i) l.length rfl ⟨0, by simp, rfl, by omega, rfl⟩ ?_
 rintro n f h' ⟨i, hv, rfl, hi, rfl⟩
 simp only [lm4] at hv
 simp only [wk, seval, wr, hv.1, hv.2, r.len]
 split
 ·rename_i c1
  refine zJ (i := i) zC r rfl (by omega) fun b1 o1 e1 => ?_
  have hx : l[i]'(by omega) = k + i := by
   have : ∀ (m : List Int) (hi : i < m.length), m = mks k l.length -> m[i] = k + i := by rintro m hi rfl; exact mks_at _ _ _ _
   exact this l _ hm
  rw [hx] at e1
  simp only [wk, seval, zW e1]
  simp (disch := omega) only [qI]
  exact ⟨l.length - (i + 1), by omega, h', .refl _, i + 1, by simp; omega, rfl, by omega, rfl⟩
 ·rename_i c1
  have hi' : i = l.length := by omega
  subst hi'
  exact .of kr
end Go.Proofs.YtgbapakcfmgahaaGreatDoor
end

section
set_option maxRecDepth 20000
attribute [local irreducible] Go.Tk.vc Go.Tk.vops Go.Tk.vdr Go.Tk.vop Go.Tk.vfl Go.Tk.HCalls
namespace Go.Proofs.YtgbapakcfmgahaaGreatDoor
open Go Go.Tk
theorem eqPair_c {h : H} {x y : Int × Int} {R : Ending -> H -> Prop} (k : R (.returned (.bool (decide (x = y)))) h) : HCalls Tryz.prog 116 #[.agg (eP x).toArray, .agg (eP y).toArray] h R := by
 refine qB (args := [.agg (eP x).toArray, .agg (eP y).toArray]) Tryz.func116 ir116 ?_
 simp only [wk, seval, wPair]
 refine qA fun j1 h1 => ?_
 simp only [wk, seval, wPair]
 refine qA fun j2 h2 => ?_
 have n := fresh h2
 simp only [wk, seval, wPair, n.1, n.2.1]
 refine zK (fun d => ⟨h, Sub.cons h2 (Sub.cons h1 (Sub.refl h)), kF k (fun e => d (by rw [e]))⟩) fun d0 => ?_
 refine zK (fun d => ⟨h, Sub.cons h2 (Sub.cons h1 (Sub.refl h)), kF k (fun e => d (by rw [e]))⟩) fun d1 => ?_
 exact ⟨h, Sub.cons h2 (Sub.cons h1 (Sub.refl h)), kT k (Prod.ext d0 d1)⟩
theorem eqPairS_c {h : H} {a b : Value} {la lb : List (Int × Int)} (ra : rPairs h a la) (rb : rPairs h b lb) (ha : la.length <= 1099511627776) {R : Ending -> H -> Prop} (k : R (.returned (.bool (decide (la = lb)))) h) :
  HCalls Tryz.prog 72 #[a, b] h R := by
 refine qB (args := [a, b]) Tryz.func72 ir72 ?_
 simp only [wk, seval, ra.len, rb.len]
 split
 ·rename_i c
  exact .of (kF k fun e => c (by rw [e]))
 ·rename_i c
  have hl : la.length = lb.length := by omega
  refine qS [5] (fun n vs h' => ∃ i : Nat, vs = [.int .i64 i] /\ h' = h /\ i <= la.length /\ n = la.length - i /\ la.take i = lb.take i) la.length rfl ⟨0, rfl, rfl, by omega, by omega, by simp⟩ ?_
  rintro n f h' ⟨i, hv, rfl, hi, rfl, ht⟩
  simp only [lm4] at hv
  simp only [wk, seval, wr, hv, ra.len, rb.len]
  split
  ·rename_i c1
   refine qY h' (Sub.refl _) ?_
   simp only [wk, seval]
   refine zJ (i := i) eP_len ra rfl (by omega) fun b1 o1 e1 => ?_
   simp only [wk, seval, e1]
   refine zJ (i := i) eP_len rb rfl (by omega) fun b2 o2 e2 => ?_
   simp only [wk, seval, e2]
   refine eqPair_c ?_
   simp only [wk, seval]
   refine zK (fun d => .of (kF k (ne_at _ _ d))) fun d => ?_
   simp (disch := omega) only [qI]
   exact ⟨la.length - (i + 1), by omega, h', .refl _, i + 1, by simp, rfl, by omega, rfl, take_more _ _ ht d⟩
  ·rename_i c1
   exact .of (kT k (take_all (by omega) hl ht))
theorem markPairS_c {e : TypeId} {g h0 : H} {v : Value} {l : List (Int × Int)} {k : Int} (o : oLs e eP 2 v l g) (dj : Dj g h0) (hl : l.length <= 1099511627776) (hk : 0 <= k /\ k <= 1099511627776000) {R : Ending -> H -> Prop}
  (kr : ∀ g', oLs e eP 2 v (mkp k l.length) g' -> Dj g' h0 -> R (.returned (.int .i64 (k + 2 * l.length))) (g' ++ h0)) :
  HCalls Tryz.prog 40 #[v, .int .i64 k] (g ++ h0) R := by
 refine qB (args := [v, .int .i64 k]) Tryz.func40 ir40 ?_
 simp only [wk, seval]
 refine qS [5, 1] (fun n vs h' => ∃ (i : Nat) (g' : H), vs = [.int .i64 i, .int .i64 (k + 2 * i)] /\ h' = g' ++ h0 /\ Dj g' h0 /\ oLs e eP 2 v (mkp k i ++ l.drop i) g' /\ i <= l.length /\ n = l.length - i) l.length rfl ⟨0, g, by simp, rfl, dj, by simpa [mkp] using o, by omega, rfl⟩ ?_
 rintro n f h' ⟨i, g', hv, rfl, dj', o', hi, rfl⟩
 simp only [lm4] at hv
 have hll : (mkp k i ++ l.drop i).length = l.length := by simp [mkp_len]; omega
 have hlen : ∀ {f : Value -> Prop}, lenSK v f = f (.int .i64 l.length) := fun {f} => by rw [<- hll]; exact o'.rd.len
 simp only [wk, seval, wr, hv.1, hv.2, hlen]
 split
 ·rename_i c1
  refine own_idx (i := i) eP_len o' rfl (by omega) fun b cap sp hv' hc hs hg => ?_
  subst hg
  simp only [wk, seval]
  have hb : i < (mkp k i ++ l.drop i).length := by omega
  refine st_own (i := i) (a' := (k + 2 * i, ((mkp k i ++ l.drop i)[i]).2)) (off := 0) eP_len (by omega) hb rfl (by omega) rfl ?_
  simp only [wk, seval]
  have o2 := own_set (e := e) (i := i) (a' := (k + 2 * i, ((mkp k i ++ l.drop i)[i]).2)) eP_len hv' hc hs
  refine own_idx (i := i) eP_len o2 rfl (by rw [List.length_set]; omega) fun b2 cap2 sp2 hv2 hc2 hs2 hg2 => ?_
  simp only [List.singleton_append, List.cons.injEq, Prod.mk.injEq, and_true] at hg2
  obtain ⟨rfl, hg2⟩ := hg2
  rw [hg2]
  simp only [wk, seval]
  simp (disch := omega) only [qI]
  refine st_own (i := i) (a' := (k + 2 * i, k + 2 * i + 1)) (off := 1) eP_len (by omega) (by rw [List.length_set]; omega) rfl (by omega) (by simp [eP, qJ, qV]) ?_
  simp only [wk, seval]
  simp (disch := omega) only [qI]
  have o3 := own_set (e := e) (i := i) (a' := (k + 2 * i, k + 2 * i + 1)) eP_len hv2 hc2 hs2
  refine ⟨l.length - (i + 1), by omega, _, .refl _, i + 1, _, ?_, rfl, Dj.one dj'.one', ?_, by omega, rfl⟩
  ·simp; omega
  ·rw [<- mkp_set k l i (by omega)]; rw [List.set_set] at o3; rw [List.set_set]; exact o3
 ·rename_i c1
  have hi' : i = l.length := by omega
  subst hi'
  simp only [List.drop_length, List.append_nil] at o'
  exact .of (kr g' o' dj')
theorem heldPairS_c {h : H} {v : Value} {l : List (Int × Int)} {k : Int} (r : rPairs h v l) (hm : l = mkp k l.length) (hl : l.length <= 1099511627776) (hk : 0 <= k /\ k <= 1099511627776000) {R : Ending -> H -> Prop}
  (kr : R (.returned (.int .i64 (k + 2 * l.length))) h) : HCalls Tryz.prog 43 #[v, .int .i64 k] h R := by
 refine qB (args := [v, .int .i64 k]) Tryz.func43 ir43 ?_
 simp only [wk, seval]
 refine qS [5, 1] (fun n vs h' => ∃ (i : Nat), vs = [.int .i64 i, .int .i64 (k + 2 * i)] /\ h' = h /\ i <= l.length /\ n = l.length - i) l.length rfl ⟨0, by simp, rfl, by omega, rfl⟩ ?_
 rintro n f h' ⟨i, hv, rfl, hi, rfl⟩
 simp only [lm4] at hv
 simp only [wk, seval, wr, hv.1, hv.2, r.len]
 split
 ·rename_i c1
  have hx : l[i]'(by omega) = (k + 2 * i, k + 2 * i + 1) := by
   have : ∀ (m : List (Int × Int)) (hi : i < m.length), m = mkp k l.length -> m[i] = (k + 2 * i, k + 2 * i + 1) := by rintro m hi rfl; exact mkp_at _ _ _ _
   exact this l _ hm
  refine zJ (i := i) eP_len r rfl (by omega) fun b1 o1 e1 => ?_
  rw [hx] at e1
  have e10 := qW e1 0 rfl
  have e11 := qW e1 1 rfl
  rw [Nat.add_zero] at e10
  simp only [wk, seval, e10]
  refine zJ (i := i) eP_len r rfl (by omega) fun b2 o2 e2 => ?_
  rw [hx] at e2
  have e21 := qW e2 1 rfl
  simp (disch := omega) only [wk, seval, e21, qI]
  exact ⟨l.length - (i + 1), by omega, h', .refl _, i + 1, by simp; omega, rfl, by omega, rfl⟩
 ·rename_i c1
  have hi' : i = l.length := by omega
  subst hi'
  exact .of kr
theorem szIntS_c {h : H} {v : Value} {l : List Int} {left : Int} (r : rIn h eI 1 v l) (hl : 0 <= left /\ left <= 1048576) (hb : l.length <= 9223372036854775807) {R : Ending -> H -> Prop} (k : ∀ x, (0 <= x -> x = left - l.length) -> x <= 1048576 -> R (.returned (.int .i64 x)) h) : HCalls Tryz.prog 79 #[v, .int .i64 left] h R := by
 refine qB (args := [v, .int .i64 left]) Tryz.func79 ir79 ?_
 simp (disch := omega) only [wk, seval, r.len, qI]
 refine qF (fun c => .of (k _ (fun q => by omega) (by omega))) fun c => .of (k _ (fun _ => rfl) (by omega))
theorem szPairS_c {h : H} {v : Value} {l : List (Int × Int)} {left : Int} (r : rIn h eP 2 v l) (hl : 0 <= left /\ left <= 1048576) (hb : l.length <= 9223372036854775807) {R : Ending -> H -> Prop} (k : ∀ x, (0 <= x -> x = left - l.length) -> x <= 1048576 -> R (.returned (.int .i64 x)) h) : HCalls Tryz.prog 80 #[v, .int .i64 left] h R := by
 refine qB (args := [v, .int .i64 left]) Tryz.func80 ir80 ?_
 simp (disch := omega) only [wk, seval, r.len, qI]
 refine qF (fun c => .of (k _ (fun q => by omega) (by omega))) fun c => .of (k _ (fun _ => rfl) (by omega))
theorem toPair_c {h : H} {p : Int × Int} {R : Ending -> H -> Prop} (k : R (.returned (.agg (eP p).toArray)) h) : HCalls Tryz.prog 126 #[.agg (eP p).toArray] h R := by
 refine qB (args := [.agg (eP p).toArray]) Tryz.func126 ir126 ?_
 have zp : [Value.int .i64 0, .int .i64 0] = eP (0, 0) := rfl
 simp only [wk, seval, zp, wPair]
 refine qA fun j1 h1 => ?_
 simp only [wk, seval, zp, wPair]
 refine qA fun j2 h2 => ?_
 simp only [wk, seval, zp, wPair]
 refine qA fun j3 h3 => ?_
 have n2 := fresh h2
 have n3 := fresh h3
 simp only [subs] at h2 h3
 have e31 : ¬ j1 = j3 := fun e => h3.2.1 e.symm
 have e32 : ¬ j2 = j3 := fun e => h3.1 e.symm
 have e21 : ¬ j1 = j2 := fun e => h2.1 e.symm
 simp only [wk, seval, zp, wPair, e31, e32, e21, h3, h2]
 refine ⟨h, ?_, k⟩
 (repeat' first | exact Sub.refl _ | exact Sub.nil _ | assumption | refine Sub.both ?_ ?_ | refine Sub.cons_of (by simp only [subs, h1, h2, h3, e31, e32, e21]) ?_ | exact Sub.left _ _ | refine Sub.app (by simp only [subs, h1, h2, h3, e31, e32, e21]) ?_ | refine Sub.cons (by simp only [subs, h1, h2, h3, e31, e32, e21]) ?_)
theorem toIntS_c {h : H} {a : Value} {l : List Int} (r : rIn h eI 1 a l) (hl : l.length <= 1048576) {R : Ending -> H -> Prop} (k : ∀ v g, oLs 3 eI 1 v l g -> Dj g h -> R (.returned v) (g ++ h)) : HCalls Tryz.prog 92 #[a] h R := by
 refine qB (args := [a]) Tryz.func92 ir92 ?_
 simp only [wk, seval, r.len, str]
 refine ⟨⟨by omega, by omega, by omega, by omega⟩, qA fun j hj => ?_⟩
 rw [zI]
 simp only [wk, seval]
 have hr : (List.replicate l.length (0 : Int)).length = l.length := by simp
 have o0 : oLs 3 eI 1 (.slice (some ⟨j, 0, none⟩) l.length l.length) (List.replicate l.length (0 : Int)) [(j, blk (fl eI (List.replicate l.length (0 : Int))) 3)] := by
  have := oLs_new (e := 3) zC (j := j) (l := List.replicate l.length (0 : Int))
  rw [hr] at this; exact this
 obtain ⟨V, hV⟩ : ∃ V, V = Value.slice (some ⟨j, 0, none⟩) l.length l.length := ⟨_, rfl⟩
 rw [<- hV] at o0 ⊢
 refine qS [4] (fun n vs h' => ∃ (i : Nat) (g' : H), vs = [.int .i64 i] /\ h' = g' ++ h /\ Dj g' h /\ oLs 3 eI 1 V (l.take i ++ (List.replicate l.length (0 : Int)).drop i) g' /\ i <= l.length /\ n = l.length - i) l.length rfl
  ⟨0, _, rfl, rfl, Dj.one hj, by simpa using o0, by omega, rfl⟩ ?_
 rintro n f h' ⟨i, g', hv, rfl, dj', o', hi, rfl⟩
 simp only [lm4] at hv
 simp only [wk, seval, wr, hv, r.len]
 refine qF (fun c1 => ?_) fun c1 => ?_
 ·have hi2 : i < l.length := by omega
  refine idx_in (i := i) zC (r.sub (Sub.right dj')) rfl hi2 fun b1 o1 e1 => ?_
  have f1 := zW e1
  simp only [wk, seval, f1]
  refine own_idx (i := i) zC o' rfl (by simp; omega) fun b cap sp hv' hc hs hg => ?_
  subst hg
  simp only [wk, seval]
  refine st_own (i := i) (a' := l[i]'hi2) (off := 0) zC (by omega) (by simp; omega) rfl (by omega) rfl ?_
  simp only [wk, seval]
  simp (disch := omega) only [qI]
  refine ⟨l.length - (i + 1), by omega, _, .refl _, i + 1, _, by simp, rfl, Dj.one dj'.one', ?_, by omega, rfl⟩
  rw [<- take_set (by omega) hr]
  exact own_set zC hv' hc hs
 ·have hi' : i = l.length := by omega
  subst hi'
  have o2 : oLs 3 eI 1 V l g' := by simpa using o'
  exact .of (k _ g' o2 dj')
theorem toPairS_c {h : H} {a : Value} {l : List (Int × Int)} (r : rIn h eP 2 a l) (hl : l.length <= 1048576) {R : Ending -> H -> Prop} (k : ∀ v g, oLs 132 eP 2 v l g -> Dj g h -> R (.returned v) (g ++ h)) : HCalls Tryz.prog 93 #[a] h R := by
 refine qB (args := [a]) Tryz.func93 ir93 ?_
 have zp : [Value.int .i64 0, .int .i64 0] = eP (0, 0) := rfl
 simp only [wk, seval, r.len, str, zp]
 refine ⟨⟨by omega, by omega, by omega, by omega⟩, qA fun j hj => ?_⟩
 rw [zrep_fl (enc := eP) (a := ((0 : Int), (0 : Int))) rfl]
 simp only [wk, seval]
 have hr : (List.replicate l.length ((0 : Int), (0 : Int))).length = l.length := by simp
 have o0 : oLs 132 eP 2 (.slice (some ⟨j, 0, none⟩) l.length l.length) (List.replicate l.length ((0 : Int), (0 : Int))) [(j, blk (fl eP (List.replicate l.length ((0 : Int), (0 : Int)))) 132)] := by
  have := oLs_new (e := 132) eP_len (j := j) (l := List.replicate l.length ((0 : Int), (0 : Int)))
  rw [hr] at this; exact this
 obtain ⟨V, hV⟩ : ∃ V, V = Value.slice (some ⟨j, 0, none⟩) l.length l.length := ⟨_, rfl⟩
 rw [<- hV] at o0 ⊢
 refine qS [4] (fun n vs h' => ∃ (i : Nat) (g' : H), vs = [.int .i64 i] /\ h' = g' ++ h /\ Dj g' h /\ oLs 132 eP 2 V (l.take i ++ (List.replicate l.length ((0 : Int), (0 : Int))).drop i) g' /\ i <= l.length /\ n = l.length - i) l.length rfl
  ⟨0, _, rfl, rfl, Dj.one hj, by simpa using o0, by omega, rfl⟩ ?_
 rintro n f h' ⟨i, g', hv, rfl, dj', o', hi, rfl⟩
 simp only [lm4] at hv
 simp only [wk, seval, wr, hv, r.len]
 refine qF (fun c1 => ?_) fun c1 => ?_
 ·have hi2 : i < l.length := by omega
  refine idx_in (i := i) eP_len (r.sub (Sub.right dj')) rfl hi2 fun b1 o1 e1 => ?_
  simp only [wk, seval, e1, wPair]
  refine toPair_c ?_
  simp only [wk, seval, wPair]
  refine own_idx (i := i) eP_len o' rfl (by simp; omega) fun b cap sp hv' hc hs hg => ?_
  subst hg
  simp only [wk, seval, wPair]
  refine st_own (i := i) (a' := l[i]'hi2) (off := 0) eP_len (by omega) (by simp; omega) rfl (by omega) rfl ?_
  simp only [wk, seval]
  simp (disch := omega) only [qI]
  refine ⟨l.length - (i + 1), by omega, _, .refl _, i + 1, _, by simp, rfl, Dj.one dj'.one', ?_, by omega, rfl⟩
  rw [<- take_set (by omega) hr]
  exact own_set eP_len hv' hc hs
 ·have hi' : i = l.length := by omega
  subst hi'
  have o2 : oLs 132 eP 2 V l g' := by simpa using o'
  exact .of (k _ g' o2 dj')
end Go.Proofs.YtgbapakcfmgahaaGreatDoor
end

section
set_option maxRecDepth 20000
attribute [local irreducible] Go.Tk.vc Go.Tk.vops Go.Tk.vdr Go.Tk.vop Go.Tk.vfl Go.Tk.HCalls
namespace Go.Proofs.YtgbapakcfmgahaaGreatDoor
open Go Go.Tk
def WRecord (M : H) (cs : List Value) (d : DRecord) (S : Nat -> Prop) : Prop := ∃ v p S1 S2, cs = qC d v p /\ dL 3 eI 1 M v d.vals S1 /\ dL 132 eP 2 M p d.pairs S2 /\ sU S S1 S2
theorem WRecord.fr : dFr WRecord := by
 rintro M M' cs d S hx ⟨v, p, S1, S2, e, w1, w2, su⟩
 exact ⟨v, p, S1, S2, e, w1.frame fun x q => hx x ((su.2 x).2 (.inl q)), w2.frame fun x q => hx x ((su.2 x).2 (.inr q)), su⟩
theorem WRecord.rd : ∀ M cs a S, WRecord M cs a S -> rRecord M cs a := by
 rintro M cs d S ⟨v, p, S1, S2, e, w1, w2, su⟩
 exact ⟨v, p, e, w1.rd, w2.rd⟩
theorem WRecord.in : ∀ M cs a S i, WRecord M cs a S -> S i -> hget M i ≠ none := by
 rintro M cs d S i ⟨v, p, S1, S2, e, w1, w2, su⟩ hi
 rcases (su.2 i).1 hi with q | q
 ·exact w1.in q
 ·exact w2.in q
def WTold (M : H) (cs : List Value) (d : DTold) (S : Nat -> Prop) : Prop := ∃ p, cs = zA d p /\ dL 132 eP 2 M p d.pairs S
theorem WTold.fr : dFr WTold := by
 rintro M M' cs d S hx ⟨p, e, w1⟩
 exact ⟨p, e, w1.frame hx⟩
theorem WTold.rd : ∀ M cs a S, WTold M cs a S -> rTold M cs a := by
 rintro M cs d S ⟨p, e, w1⟩
 exact ⟨p, e, w1.rd⟩
theorem WTold.in : ∀ M cs a S i, WTold M cs a S -> S i -> hget M i ≠ none := by
 rintro M cs d S i ⟨p, e, w1⟩ hi
 exact w1.in hi
def WLive (M : H) (cs : List Value) (d : DLive) (S : Nat -> Prop) : Prop := ∃ v p S1 S2, cs = qE d v p /\ dL 3 eI 1 M v d.locked S1 /\ dR 54 WTold 2 M p d.told S2 /\ sU S S1 S2
theorem WLive.fr : dFr WLive := by
 rintro M M' cs d S hx ⟨v, p, S1, S2, e, w1, w2, su⟩
 exact ⟨v, p, S1, S2, e, w1.frame fun x q => hx x ((su.2 x).2 (.inl q)), w2.frame WTold.fr fun x q => hx x ((su.2 x).2 (.inr q)), su⟩
theorem WLive.rd : ∀ M cs a S, WLive M cs a S -> rLive M cs a := by
 rintro M cs d S ⟨v, p, S1, S2, e, w1, w2, su⟩
 exact ⟨v, p, e, w1.rd, w2.rd WTold.rd⟩
theorem WLive.in : ∀ M cs a S i, WLive M cs a S -> S i -> hget M i ≠ none := by
 rintro M cs d S i ⟨v, p, S1, S2, e, w1, w2, su⟩ hi
 rcases (su.2 i).1 hi with q | q
 ·exact w1.in q
 ·exact w2.in WTold.in q
def WGate (M : H) (d : DGate) (lg lv wy : Value) (S : Nat -> Prop) : Prop := ∃ S1 S2 S3, dR 97 WRecord 11 M lg d.log S1 /\ dR 50 WLive 12 M lv d.lives S2 /\ dL 108 cWay 2 M wy d.ways S3 /\
 (∀ i, S1 i -> ¬ S2 i) /\ (∀ i, S1 i -> ¬ S3 i) /\ (∀ i, S2 i -> ¬ S3 i) /\ ∀ i, S i ↔ S1 i ∨ S2 i ∨ S3 i
theorem WGate.frame {M M' : H} {d : DGate} {lg lv wy : Value} {S : Nat -> Prop} (w : WGate M d lg lv wy S) (hx : ∀ i, S i -> hget M' i = hget M i) : WGate M' d lg lv wy S := by
 obtain ⟨S1, S2, S3, w1, w2, w3, d1, d2, d3, su⟩ := w
 exact ⟨S1, S2, S3, w1.frame WRecord.fr fun x q => hx x ((su x).2 (.inl q)), w2.frame WLive.fr fun x q => hx x ((su x).2 (.inr (.inl q))), w3.frame fun x q => hx x ((su x).2 (.inr (.inr q))), d1, d2, d3, su⟩
theorem WGate.rd {M : H} {d : DGate} {lg lv wy : Value} {S : Nat -> Prop} (w : WGate M d lg lv wy S) : sGate M d lg lv wy := by
 obtain ⟨S1, S2, S3, w1, w2, w3, d1, d2, d3, su⟩ := w
 exact ⟨w1.rd WRecord.rd, w2.rd WLive.rd, w3.rd⟩
theorem WGate.in {M : H} {d : DGate} {lg lv wy : Value} {S : Nat -> Prop} (w : WGate M d lg lv wy S) {i : Nat} (h : S i) : hget M i ≠ none := by
 obtain ⟨S1, S2, S3, w1, w2, w3, d1, d2, d3, su⟩ := w
 rcases (su i).1 h with q | q | q
 ·exact w1.in WRecord.in q
 ·exact w2.in WLive.in q
 ·exact w3.in q
end Go.Proofs.YtgbapakcfmgahaaGreatDoor
end
