/- Parts of the proof. -/
import Derived.Test.YtjioiemhgbkbfaaGreatDoorK1510
import Derived.Test.YtjioiemhgbkbfaaGreatDoorK155
import Derived.Test.YtjioiemhgbkbfaaGreatDoorK156
import Derived.Test.YtjioiemhgbkbfaaGreatDoorK159
set_option maxHeartbeats 4000000
set_option maxRecDepth 100000
set_option linter.unusedVariables false
set_option linter.unusedSimpArgs false
set_option linter.defProp false
section
attribute [local irreducible] Go.Tk.vc Go.Tk.vops Go.Tk.vdr Go.Tk.vop Go.Tk.vfl Go.Tk.HCalls
namespace Go.Tk
open Go
def hdel (M g : H) : H := M.filter fun p => (hget g p.1).isNone
theorem jH (M g : H) (i : Nat) : hget (hdel M g) i = if (hget g i).isNone = true then hget M i else none := by
 induction M with
 | nil => simp [hdel, uQ]
 | cons p t ih =>
  unfold hdel at ih ⊢
  rw [List.filter_cons]
  by_cases c : (hget g p.1).isNone = true
  ·rw [if_pos c, zM, zM]
   by_cases e : i = p.1
   ·subst e; simp [c]
   ·simp only [e, if_false]; exact ih
  ·rw [if_neg c, ih, zM]
   by_cases e : i = p.1
   ·subst e; simp [c]
   ·simp only [e, if_false]
theorem qKG {g M : H} (s : Sub g M) : Sub (g ++ hdel M g) M := fun i o e => by
 rw [xW] at e
 cases hg : hget g i with
 | none => rw [hg, jH, hg] at e; simpa using e
 | some x => rw [hg] at e; exact s i o (hg.trans (by simpa using e))
theorem qPN (g M : H) : Dj g (hdel M g) := fun i hi => by
 rw [jH]
 cases hg : hget g i with
 | none => exact absurd hg hi
 | some x => simp
section
variable {α : Type}
def dL (e : TypeId) (enc : α -> List Value) (sz : Nat) (M : H) (v : Value) (l : List α) (S : Nat -> Prop) : Prop := ∃ g, oLs e enc sz v l g /\ Sub g M /\ ∀ i, S i ↔ hget g i ≠ none
variable {e : TypeId} {enc : α -> List Value} {sz : Nat} {M M' : H} {v : Value} {l l' : List α} {S : Nat -> Prop}
theorem dL.rd (d : dL e enc sz M v l S) : rLs M enc sz v l := by obtain ⟨g, o, s, _⟩ := d; exact o.rd.sub s
theorem dL.one (d : dL e enc sz M v l S) : vone v = true := d.rd.one
theorem dL.frame (d : dL e enc sz M v l S) (c : ∀ i, S i -> hget M' i = hget M i) : dL e enc sz M' v l S := by
 obtain ⟨g, o, s, hS⟩ := d
 exact ⟨g, o, fun i x hx => by rw [c i ((hS i).2 (by rw [hx]; simp))]; exact s i x hx, hS⟩
theorem dL.in (d : dL e enc sz M v l S) {i : Nat} (h : S i) : hget M i ≠ none := by
 obtain ⟨g, o, s, hS⟩ := d
 intro c
 exact (hS i).1 h (s.none' c)
theorem dL.of {g h : H} (o : oLs e enc sz v l g) (s : Sub g M) : dL e enc sz M v l (fun i => hget g i ≠ none) := ⟨g, o, s, fun _ => Iff.rfl⟩
theorem dL.nil : dL e enc sz M (.slice none 0 0) [] (fun _ => False) := ⟨[], ows.nil _ _, Sub.nil _, fun i => by simp [uQ]⟩
end
def slot (M : H) (b : Nat) (e : TypeId) (A B c : List Value) : H := hupd M b (blk (A ++ (c ++ B)) e)
section
variable {M : H} {b : Nat} {e : TypeId} {A B c : List Value} {o : Nat}
theorem vG (h : hget M b = some (blk (A ++ (c ++ B)) e)) : slot M b e A B c = M := qFQ _ _ _ h
theorem vL {x : Obj} (h : hget M b = some x) : hget (slot M b e A B c) b = some (blk (A ++ (c ++ B)) e) := zH h
theorem jA {x : Nat} (h : x ≠ b) : hget (slot M b e A B c) x = hget M x := qS h
theorem uZ {x : Obj} (h : hget M b = some x) (hA : A.length = o) {j : Nat} {vs : List Value} (hj : j + vs.length <= c.length) : zQ (slot M b e A B c) b (o + j) vs = some (slot M b e A B (qJ c j vs)) := by
 unfold zQ
 rw [vL h]
 simp only [Option.bind_some, kM]
 rw [if_pos (by simp only [List.length_append]; omega)]
 simp only [Option.map_some, Option.some.injEq, slot, qML]
 rw [<- hA, qDY, qBA _ _ _ _ hj]
end
structure dRb {α : Type} (e : TypeId) (W : H -> List Value -> α -> (Nat -> Prop) -> Prop) (sz : Nat) (M : H) (l : List α) (S : Nat -> Prop) (b : Nat) (css : List (List Value)) (sp : List Value) (Ss : Nat -> Nat -> Prop) : Prop where
 get : hget M b = some (blk (css.flatten ++ sp) e)
 len : css.length = l.length
 sz : ∀ c ∈ css, c.length = sz
 el : ∀ i (h1 : i < css.length) (h2 : i < l.length), W M css[i] l[i] (Ss i)
 nb : ∀ i, i < l.length -> ¬ Ss i b
 dj : ∀ i j, i < l.length -> j < l.length -> i ≠ j -> ∀ x, Ss i x -> ¬ Ss j x
 dom : ∀ x, S x ↔ x = b ∨ ∃ i, i < l.length /\ Ss i x
def dR {α : Type} (e : TypeId) (W : H -> List Value -> α -> (Nat -> Prop) -> Prop) (sz : Nat) (M : H) (v : Value) (l : List α) (S : Nat -> Prop) : Prop :=
 (v = .slice none 0 0 /\ l = [] /\ ∀ i, ¬ S i) ∨ ∃ b cap css sp Ss, v = .slice (some ⟨b, 0, none⟩) l.length cap /\ l.length <= cap /\ (css.flatten ++ sp).length = cap * sz /\ dRb e W sz M l S b css sp Ss
def dFr {α : Type} (W : H -> List Value -> α -> (Nat -> Prop) -> Prop) : Prop := ∀ M M' cs a S, (∀ x, S x -> hget M' x = hget M x) -> W M cs a S -> W M' cs a S
section
variable {α : Type} {e : TypeId} {W : H -> List Value -> α -> (Nat -> Prop) -> Prop} {sz : Nat} {M M' : H} {v : Value} {l : List α} {S : Nat -> Prop} {b : Nat} {css : List (List Value)} {sp : List Value} {Ss : Nat -> Nat -> Prop}
theorem dRb.frame (hW : dFr W) (d : dRb e W sz M l S b css sp Ss) (c : ∀ i, S i -> hget M' i = hget M i) : dRb e W sz M' l S b css sp Ss where
 get := by rw [c b ((d.dom b).2 (.inl rfl))]; exact d.get
 len := d.len
 sz := d.sz
 el := fun i h1 h2 => hW _ _ _ _ _ (fun x hx => c x ((d.dom x).2 (.inr ⟨i, h2, hx⟩))) (d.el i h1 h2)
 nb := d.nb
 dj := d.dj
 dom := d.dom
theorem dR.frame (hW : dFr W) (d : dR e W sz M v l S) (c : ∀ i, S i -> hget M' i = hget M i) : dR e W sz M' v l S := by
 rcases d with d | ⟨b, cap, css, sp, Ss, h1, h2, h3, d⟩
 ·exact .inl d
 ·exact .inr ⟨b, cap, css, sp, Ss, h1, h2, h3, d.frame hW c⟩
theorem dR.nil : dR e W sz M (.slice none 0 0) [] (fun _ => False) := .inl ⟨rfl, rfl, fun _ h => h⟩
theorem dR.rd {rel : H -> List Value -> α -> Prop} (hr : ∀ M cs a S, W M cs a S -> rel M cs a) (d : dR e W sz M v l S) : rRs M (rel M) sz v l := by
 rcases d with ⟨rfl, rfl, _⟩ | ⟨b, cap, css, sp, Ss, rfl, h2, h3, d⟩
 ·exact rRs.nil
 ·have hf := wE d.sz
  refine ⟨css, ⟨by rw [hf, d.len], .inr ⟨b, 0, cap, rfl, h2, ?_⟩⟩, ?_⟩
  ·unfold qV
   rw [d.get]
   simp only [Option.bind_some, qBY]
   rw [if_pos (by rw [List.length_append, hf, d.len]; omega)]
   simp only [List.drop_zero]
   rw [<- d.len, <- hf, List.take_left']
   rfl
  ·have key : ∀ (css : List (List Value)) (l : List α) (h : css.length = l.length), (∀ i (h1 : i < css.length) (h2 : i < l.length), css[i].length = sz /\ rel M css[i] l[i]) -> All2 (fun c a => c.length = sz /\ rel M c a) css l := by
    intro css
    induction css with
    | nil => intro l h _; cases l with
     | nil => exact .nil
     | cons => cases h
    | cons c css ih =>
     intro l h x
     cases l with
     | nil => cases h
     | cons a l => exact .cons (x 0 (by simp) (by simp)) (ih l (by simpa using h) fun i h1 h2 => x (i + 1) (by simpa using h1) (by simpa using h2))
   exact key css l d.len fun i h1 h2 => ⟨d.sz _ (List.getElem_mem h1), hr _ _ _ _ (d.el i h1 h2)⟩
theorem dR.one (d : dR e W sz M v l S) : vone v = true := by
 rcases d with ⟨rfl, _⟩ | ⟨b, cap, css, sp, Ss, rfl, _⟩ <;> rfl
theorem dR.in (hi : ∀ M cs a S i, W M cs a S -> S i -> hget M i ≠ none) (d : dR e W sz M v l S) {i : Nat} (h : S i) : hget M i ≠ none := by
 rcases d with ⟨rfl, rfl, n⟩ | ⟨b, cap, css, sp, Ss, rfl, h2, h3, d⟩
 ·exact absurd h (n i)
 ·rcases (d.dom i).1 h with rfl | ⟨j, hj, hs⟩
  ·rw [d.get]; simp
  ·exact hi _ _ _ _ _ (d.el j (by rw [d.len]; exact hj) hj) hs
theorem dRb.split (d : dRb e W sz M l S b css sp Ss) {i : Nat} (hi : i < l.length) : ∃ A B, css.flatten ++ sp = A ++ ((css[i]'(by rw [d.len]; exact hi)) ++ B) /\ A.length = i * sz /\ ∀ c', c'.length = sz -> (css.set i c').flatten ++ sp = A ++ (c' ++ B) := by
 have hi2 : i < css.length := by rw [d.len]; exact hi
 refine ⟨(css.take i).flatten, (css.drop (i + 1)).flatten ++ sp, ?_, ?_, fun c' hc => ?_⟩
 ·have h0 : css = css.take i ++ (css[i] :: css.drop (i + 1)) := by rw [<- List.drop_eq_getElem_cons hi2, List.take_append_drop]
  have : css.flatten = (css.take i).flatten ++ (css[i] ++ (css.drop (i + 1)).flatten) := by
   conv => lhs; rw [h0]
   rw [List.flatten_append, List.flatten_cons]
  rw [this]; simp only [List.append_assoc]
 ·rw [wE fun c hc => d.sz c (List.mem_of_mem_take hc), List.length_take]
  congr 1; omega
 ·rw [List.set_eq_take_append_cons_drop, if_pos hi2, List.flatten_append, List.flatten_cons]; simp only [List.append_assoc]
end
def sU (S S1 S2 : Nat -> Prop) : Prop := (∀ i, S1 i -> ¬ S2 i) /\ ∀ i, S i ↔ S1 i ∨ S2 i
theorem jC {v : Value} {b n cap sz i : Nat} (hv : v = .slice (some ⟨b, 0, none⟩) n cap) (hi : i < n) (kd : IntKind) (f : Value -> Prop) : vI v (.int kd (i : Int)) sz f = f (.pointer (some ⟨b, i * sz, none⟩)) := by
 subst hv
 rw [qBL, Nat.zero_add, Int.toNat_natCast]
 exact propext ⟨fun x => x.2, fun x => ⟨⟨by omega, by omega⟩, x⟩⟩
theorem dRb.grow {α : Type} {e : TypeId} {W : H -> List Value -> α -> (Nat -> Prop) -> Prop} {sz : Nat} {M M' : H} {l : List α} {S : Nat -> Prop} {b : Nat} {css : List (List Value)} {sp : List Value} {Ss : Nat -> Nat -> Prop} (hW : dFr W) (d : dRb e W sz M l S b css sp Ss)
  {i : Nat} (hi : i < l.length) {c' : List Value} {a' : α} {T : Nat -> Prop} (hc : c'.length = sz) (hg : hget M' b = some (blk ((css.set i c').flatten ++ sp) e)) (hw : W M' c' a' T) (hT : ∀ x, T x -> ¬ S x) (ch : ∀ x, S x -> x ≠ b -> hget M' x = hget M x) :
  dRb e W sz M' (l.set i a') (fun x => x = b ∨ ∃ j, j < (l.set i a').length /\ (if j = i then T else Ss j) x) b (css.set i c') sp (fun j => if j = i then T else Ss j) where
 get := hg
 len := by rw [List.length_set, List.length_set]; exact d.len
 sz := fun c hm => by
  rcases List.mem_or_eq_of_mem_set hm with hm | rfl
  ·exact d.sz c hm
  ·exact hc
 el := fun j h1 h2 => by
  rw [List.length_set] at h1 h2
  by_cases e : j = i
  ·subst e
   simp only [List.getElem_set_self, if_true]; exact hw
  ·simp only [List.getElem_set_ne (Ne.symm e), if_neg e]
   exact hW _ _ _ _ _ (fun x hx => ch x ((d.dom x).2 (.inr ⟨j, h2, hx⟩)) (fun c => d.nb j h2 (c ▸ hx))) (d.el j h1 h2)
 nb := fun j hj hx => by
  rw [List.length_set] at hj
  by_cases e : j = i
  ·rw [if_pos e] at hx; exact hT b hx ((d.dom b).2 (.inl rfl))
  ·rw [if_neg e] at hx; exact d.nb j hj hx
 dj := fun j k hj hk hjk x hx hy => by
  rw [List.length_set] at hj hk
  by_cases e : j = i
  ·rw [if_pos e] at hx
   rw [if_neg (fun c => hjk (e.trans c.symm))] at hy
   exact hT x hx ((d.dom x).2 (.inr ⟨k, hk, hy⟩))
  ·rw [if_neg e] at hx
   by_cases e2 : k = i
   ·rw [if_pos e2] at hy; exact hT x hy ((d.dom x).2 (.inr ⟨j, hj, hx⟩))
   ·rw [if_neg e2] at hy; exact d.dj j k hj hk hjk x hx hy
 dom := fun x => Iff.rfl
theorem qE {M : H} {b : Nat} {cs : List Value} {e : TypeId} {j : Nat} {y : Value} (h : hget M b = some (blk cs e)) (hy : cs[j]? = some y) : hcel M b j = some y := by
 unfold hcel; rw [h]; show (cs.toArray)[j]? = some y; simpa using hy
theorem zD {M : H} {b n : Nat} {cs : List Value} {e : TypeId} (h : hget M b = some (blk cs e)) (hn : cs.length = n) : qV M b 0 n = some cs := by
 unfold qV; rw [h]; simp only [Option.bind_some, qBY]; rw [if_pos (by omega), List.drop_zero, <- hn, List.take_length]
theorem yI {M : H} {b : Nat} {cs : List Value} {e : TypeId} {j : Nat} {vs : List Value} (h : hget M b = some (blk cs e)) (hj : j + vs.length <= cs.length) : zQ M b j vs = some (hupd M b (blk (qJ cs j vs) e)) := by
 unfold zQ; rw [h]; simp only [Option.bind_some, kM]; rw [if_pos hj]; rfl
theorem Sub.eq {g h : H} (s : Tk.Sub g h) {x : Nat} (q : hget g x ≠ none) : hget h x = hget g x := by
 cases e : hget g x with
 | none => exact absurd e q
 | some o => exact s x o e
theorem yW {x y : List Value} (h : y.length = x.length) : qJ y 0 x = x := by
 rw [qBX _ _ _ (by omega), List.take_zero, List.nil_append, Nat.zero_add, List.drop_of_length_le (by omega), List.append_nil]
def rIRs {α : Type} (h : H) (rel : List Value -> α -> Prop) (sz : Nat) (v : Value) (l : List α) : Prop := rRs h rel sz v l ∨ (l = [] /\ ∃ a c, v = .slice a 0 c)
theorem rIRs.len {α : Type} {h : H} {rel : List Value -> α -> Prop} {sz : Nat} {v : Value} {l : List α} (r : rIRs h rel sz v l) {f : Value -> Prop} : jQ v f = f (.int .i64 l.length) := by
 rcases r with r | ⟨rfl, a, c, rfl⟩
 ·exact r.len
 ·rfl
theorem rIRs.sub {α : Type} {g h : H} {rel rel' : List Value -> α -> Prop} {sz : Nat} {v : Value} {l : List α} (s : Tk.Sub g h) (hr : ∀ c a, rel c a -> rel' c a) (r : rIRs g rel sz v l) : rIRs h rel' sz v l := r.imp (rRs.sub s hr) id
theorem rIRs.at {α : Type} {h : H} {rel : List Value -> α -> Prop} {sz : Nat} {v : Value} {l : List α} {i : Nat} (r : rIRs h rel sz v l) (hi : i < l.length) :
  ∃ b o cs, (∀ (kd : IntKind) (f : Value -> Prop), vI v (.int kd (i : Int)) sz f = f (.pointer (some ⟨b, o, none⟩))) /\ qV h b o sz = some cs /\ rel cs l[i] := by
 rcases r with r | ⟨rfl, a, c, rfl⟩
 ·exact zU r hi
 ·cases hi
end Go.Tk
end

section
namespace Go.Tk
open Go
section
variable {X : Type} {enc : TypeId × Value -> X} {P : Program} {w : World} {base : Nat} {sp : Nat -> Bool} {held : Bool}
theorem vH {α : Type} {rel : List Value -> α -> Prop} {ok : α -> Prop} {t e : TypeId} {fuel sz : Nat} {a : Option Addr} {len cap : Nat} {x : DataW X × List MemPlace} (ht : P.underlying t = some (.slice e)) (hc : P.cellsOf e = sz) (hsz : 0 < sz)
  (h : DataW.trod enc P w base sp held fuel t [.slice a len cap] = some x) (dec : ∀ cs m y, cs.length = sz -> DataW.trod enc P w base sp held m e cs = some y -> ∃ b : α, rel cs b /\ ok b) :
  ∃ l : List α, rIRs (full w) rel sz (.slice a len cap) l /\ l.length <= maxLen /\ ∀ b ∈ l, ok b := by
 obtain ⟨hm, css, hlen, hall, hr⟩ := qIH ht hc hsz h
 have key : ∀ css : List (List Value), (∀ cs ∈ css, cs.length = sz /\ ∃ m y, DataW.trod enc P w base sp held m e cs = some y) -> ∃ l : List α, All2 (fun c b => c.length = sz /\ rel c b) css l /\ ∀ b ∈ l, ok b := by
  intro css
  induction css with
  | nil => exact fun _ => ⟨[], .nil, fun _ h => absurd h List.not_mem_nil⟩
  | cons c css ih =>
   intro hx
   obtain ⟨l, hl, hl2⟩ := ih fun cs hcs => hx cs (List.mem_cons_of_mem _ hcs)
   obtain ⟨h1, m, y, h2⟩ := hx c List.mem_cons_self
   obtain ⟨b, hb, hb2⟩ := dec c m y h1 h2
   refine ⟨b :: l, .cons ⟨h1, hb⟩ hl, fun b' hb' => ?_⟩
   rcases List.mem_cons.1 hb' with rfl | hb'
   ·exact hb2
   ·exact hl2 _ hb'
 obtain ⟨l, hl, hl2⟩ := key css hall
 have hll := hl.len
 refine ⟨l, ?_, by omega, hl2⟩
 have hf : css.flatten.length = l.length * sz := by rw [wE fun c hc => (hall c hc).1, hll]
 rcases hr with ⟨rfl, rfl, rfl⟩ | rfl | ⟨b, off, rfl, hcap, qV⟩
 ·exact .inr ⟨List.length_eq_zero_iff.1 (by omega), _, _, rfl⟩
 ·exact .inr ⟨List.length_eq_zero_iff.1 (by omega), _, _, rfl⟩
 ·have : len = l.length := by omega
  subst this
  exact .inl ⟨css, ⟨hf, .inr ⟨b, off, cap, rfl, hcap, qV⟩⟩, hl⟩
theorem xC {t e : TypeId} {fuel : Nat} {c : Value} {x : DataW X × List MemPlace} (ht : P.underlying t = some (.slice e)) (h : DataW.trod enc P w base sp held fuel t [c] = some x) : ∃ a len cap, c = .slice a len cap := by
 rcases DataW.trod_slice ht h with ⟨h0, _⟩ | ⟨ad, len', cap', elems, rest, n, _, h0, _⟩
 ·exact ⟨_, _, _, by simpa using h0⟩
 ·exact ⟨_, _, _, by simpa using h0⟩
end
end Go.Tk
end

section
namespace Go.Tk
open Go
structure DHold where
 stamp : Int
 try_ : Int
 share : Bool
 firm : Bool
deriving DecidableEq
def zE (d : DHold) : List Value := [.int .i64 d.stamp, .int .i64 d.try_, .bool d.share, .bool d.firm]
def qCJ : DHold := ⟨0, 0, false, false⟩
theorem qDH : [.int .i64 0, .int .i64 0, .bool false, .bool false] = zE qCJ := rfl
theorem yV :
  (∀ (d : DHold), (zE d).length = 4) /\
  (∀ (d : DHold), (zE d)[0]? = some (.int .i64 d.stamp)) /\
  (∀ (d : DHold), (zE d)[1]? = some (.int .i64 d.try_)) /\
  (∀ (d : DHold), (zE d)[2]? = some (.bool d.share)) /\
  (∀ (d : DHold), (zE d)[3]? = some (.bool d.firm)) /\
  (∀ (d : DHold), ((zE d).drop 0).take 4 = zE d) /\
  (∀ (d : DHold), (zE d).take 4 = zE d) /\
  (∀ (d : DHold), (zE d).all vone = true) /\
  (∀ (d : DHold) (x : Int), qJ (zE d) 0 [.int .i64 x] = zE { d with stamp := x }) /\
  (∀ (d : DHold) (x : Int), qJ (zE d) 1 [.int .i64 x] = zE { d with try_ := x }) /\
  (∀ (d : DHold) (x : Bool), qJ (zE d) 2 [.bool x] = zE { d with share := x }) /\
  (∀ (d : DHold) (x : Bool), qJ (zE d) 3 [.bool x] = zE { d with firm := x }) /\
  (∀ (d e : DHold), qJ (zE d) 0 (zE e) = zE e) :=
 ⟨fun _ => rfl, fun _ => rfl, fun _ => rfl, fun _ => rfl, fun _ => rfl, fun _ => rfl, fun _ => rfl, fun _ => rfl, fun _ _ => rfl, fun _ _ => rfl, fun _ _ => rfl, fun _ _ => rfl, fun _ _ => rfl⟩
structure DLock where
 slot : Int
 held : List DHold
 waits : List DHold
deriving DecidableEq
def zP (d : DLock) (held' waits' : Value) : List Value := [.int .i64 d.slot, held', waits']
def zLock : DLock := ⟨0, [], []⟩
theorem qAY : [.int .i64 0, .slice none 0 0, .slice none 0 0] = zP zLock (.slice none 0 0) (.slice none 0 0) := rfl
theorem xN :
  (∀ (d : DLock) (held' waits' : Value), (zP d held' waits').length = 3) /\
  (∀ (d : DLock) (held' waits' : Value), (zP d held' waits')[0]? = some (.int .i64 d.slot)) /\
  (∀ (d : DLock) (held' waits' : Value), (zP d held' waits')[1]? = some (held')) /\
  (∀ (d : DLock) (held' waits' : Value), (zP d held' waits')[2]? = some (waits')) /\
  (∀ (d : DLock) (held' waits' : Value), ((zP d held' waits').drop 0).take 3 = zP d held' waits') /\
  (∀ (d : DLock) (held' waits' : Value), (zP d held' waits').take 3 = zP d held' waits') /\
  (∀ (d : DLock) (held' waits' : Value), vone held' = true -> vone waits' = true -> (zP d held' waits').all vone = true) /\
  (∀ (d : DLock) (held' waits' : Value) (x : Int), qJ (zP d held' waits') 0 [.int .i64 x] = zP { d with slot := x } held' waits') /\
  (∀ (d : DLock) (held' waits' : Value) (x : Value), qJ (zP d held' waits') 1 [x] = zP d x waits') /\
  (∀ (d : DLock) (held' waits' : Value) (x : Value), qJ (zP d held' waits') 2 [x] = zP d held' x) /\
  (∀ (d e : DLock) (held' waits' : Value) (held'' waits'' : Value), qJ (zP d held' waits') 0 (zP e held'' waits'') = zP e held'' waits'') :=
 ⟨fun _ _ _ => rfl, fun _ _ _ => rfl, fun _ _ _ => rfl, fun _ _ _ => rfl, fun _ _ _ => rfl, fun _ _ _ => rfl, fun _ _ _ h0 h1 => by simp only [zP, List.all_cons, List.all_nil, h0, h1]; rfl, fun _ _ _ _ => rfl, fun _ _ _ _ => rfl, fun _ _ _ _ => rfl, fun _ _ _ _ _ _ => rfl⟩
def sLock (h : H) (d : DLock) (held' waits' : Value) : Prop := rLs h zE 4 held' d.held /\ rLs h zE 4 waits' d.waits
def rLock (h : H) (cs : List Value) (d : DLock) : Prop := ∃ held' waits', cs = zP d held' waits' /\ sLock h d held' waits'
theorem sLock.sub {g h : H} (s : Sub g h) {d : DLock} {held' waits' : Value} (r : sLock g d held' waits') : sLock h d held' waits' := by
 obtain ⟨u0, u1⟩ := r
 exact ⟨rLs.sub s u0, rLs.sub s u1⟩
theorem rLock.sub {g h : H} (s : Sub g h) {c : List Value} {d : DLock} (r : rLock g c d) : rLock h c d := by
 obtain ⟨held', waits', e, r⟩ := r
 exact ⟨held', waits', e, sLock.sub s r⟩
structure DRec where
 kind : Int
 stamp : Int
 try_ : Int
 what : Int
 slots : List Int
 pairs : List ((Int × Int))
deriving DecidableEq
def cRec (d : DRec) (slots' pairs' : Value) : List Value := [.int .i64 d.kind, .int .i64 d.stamp, .int .i64 d.try_, .int .i64 d.what, slots', pairs']
def zRec : DRec := ⟨0, 0, 0, 0, [], []⟩
theorem vR : [.int .i64 0, .int .i64 0, .int .i64 0, .int .i64 0, .slice none 0 0, .slice none 0 0] = cRec zRec (.slice none 0 0) (.slice none 0 0) := rfl
theorem wRec :
  (∀ (d : DRec) (slots' pairs' : Value), (cRec d slots' pairs').length = 6) /\
  (∀ (d : DRec) (slots' pairs' : Value), (cRec d slots' pairs')[0]? = some (.int .i64 d.kind)) /\
  (∀ (d : DRec) (slots' pairs' : Value), (cRec d slots' pairs')[1]? = some (.int .i64 d.stamp)) /\
  (∀ (d : DRec) (slots' pairs' : Value), (cRec d slots' pairs')[2]? = some (.int .i64 d.try_)) /\
  (∀ (d : DRec) (slots' pairs' : Value), (cRec d slots' pairs')[3]? = some (.int .i64 d.what)) /\
  (∀ (d : DRec) (slots' pairs' : Value), (cRec d slots' pairs')[4]? = some (slots')) /\
  (∀ (d : DRec) (slots' pairs' : Value), (cRec d slots' pairs')[5]? = some (pairs')) /\
  (∀ (d : DRec) (slots' pairs' : Value), ((cRec d slots' pairs').drop 0).take 6 = cRec d slots' pairs') /\
  (∀ (d : DRec) (slots' pairs' : Value), (cRec d slots' pairs').take 6 = cRec d slots' pairs') /\
  (∀ (d : DRec) (slots' pairs' : Value), vone slots' = true -> vone pairs' = true -> (cRec d slots' pairs').all vone = true) /\
  (∀ (d : DRec) (slots' pairs' : Value) (x : Int), qJ (cRec d slots' pairs') 0 [.int .i64 x] = cRec { d with kind := x } slots' pairs') /\
  (∀ (d : DRec) (slots' pairs' : Value) (x : Int), qJ (cRec d slots' pairs') 1 [.int .i64 x] = cRec { d with stamp := x } slots' pairs') /\
  (∀ (d : DRec) (slots' pairs' : Value) (x : Int), qJ (cRec d slots' pairs') 2 [.int .i64 x] = cRec { d with try_ := x } slots' pairs') /\
  (∀ (d : DRec) (slots' pairs' : Value) (x : Int), qJ (cRec d slots' pairs') 3 [.int .i64 x] = cRec { d with what := x } slots' pairs') /\
  (∀ (d : DRec) (slots' pairs' : Value) (x : Value), qJ (cRec d slots' pairs') 4 [x] = cRec d x pairs') /\
  (∀ (d : DRec) (slots' pairs' : Value) (x : Value), qJ (cRec d slots' pairs') 5 [x] = cRec d slots' x) /\
  (∀ (d e : DRec) (slots' pairs' : Value) (slots'' pairs'' : Value), qJ (cRec d slots' pairs') 0 (cRec e slots'' pairs'') = cRec e slots'' pairs'') :=
 ⟨fun _ _ _ => rfl, fun _ _ _ => rfl, fun _ _ _ => rfl, fun _ _ _ => rfl, fun _ _ _ => rfl, fun _ _ _ => rfl, fun _ _ _ => rfl, fun _ _ _ => rfl, fun _ _ _ => rfl, fun _ _ _ h0 h1 => by simp only [cRec, List.all_cons, List.all_nil, h0, h1]; rfl, fun _ _ _ _ => rfl, fun _ _ _ _ => rfl, fun _ _ _ _ => rfl, fun _ _ _ _ => rfl, fun _ _ _ _ => rfl, fun _ _ _ _ => rfl, fun _ _ _ _ _ _ => rfl⟩
def sRec (h : H) (d : DRec) (slots' pairs' : Value) : Prop := rLs h eI 1 slots' d.slots /\ rLs h eP 2 pairs' d.pairs
def rRec (h : H) (cs : List Value) (d : DRec) : Prop := ∃ slots' pairs', cs = cRec d slots' pairs' /\ sRec h d slots' pairs'
theorem sRec.sub {g h : H} (s : Sub g h) {d : DRec} {slots' pairs' : Value} (r : sRec g d slots' pairs') : sRec h d slots' pairs' := by
 obtain ⟨u0, u1⟩ := r
 exact ⟨rLs.sub s u0, rLs.sub s u1⟩
theorem rRec.sub {g h : H} (s : Sub g h) {c : List Value} {d : DRec} (r : rRec g c d) : rRec h c d := by
 obtain ⟨slots', pairs', e, r⟩ := r
 exact ⟨slots', pairs', e, sRec.sub s r⟩
structure DWork where
 stamp : Int
 try_ : Int
 what : Int
 slots : List Int
deriving DecidableEq
def zT (d : DWork) (slots' : Value) : List Value := [.int .i64 d.stamp, .int .i64 d.try_, .int .i64 d.what, slots']
def zWork : DWork := ⟨0, 0, 0, []⟩
theorem qHP : [.int .i64 0, .int .i64 0, .int .i64 0, .slice none 0 0] = zT zWork (.slice none 0 0) := rfl
theorem vV :
  (∀ (d : DWork) (slots' : Value), (zT d slots').length = 4) /\
  (∀ (d : DWork) (slots' : Value), (zT d slots')[0]? = some (.int .i64 d.stamp)) /\
  (∀ (d : DWork) (slots' : Value), (zT d slots')[1]? = some (.int .i64 d.try_)) /\
  (∀ (d : DWork) (slots' : Value), (zT d slots')[2]? = some (.int .i64 d.what)) /\
  (∀ (d : DWork) (slots' : Value), (zT d slots')[3]? = some (slots')) /\
  (∀ (d : DWork) (slots' : Value), ((zT d slots').drop 0).take 4 = zT d slots') /\
  (∀ (d : DWork) (slots' : Value), (zT d slots').take 4 = zT d slots') /\
  (∀ (d : DWork) (slots' : Value), vone slots' = true -> (zT d slots').all vone = true) /\
  (∀ (d : DWork) (slots' : Value) (x : Int), qJ (zT d slots') 0 [.int .i64 x] = zT { d with stamp := x } slots') /\
  (∀ (d : DWork) (slots' : Value) (x : Int), qJ (zT d slots') 1 [.int .i64 x] = zT { d with try_ := x } slots') /\
  (∀ (d : DWork) (slots' : Value) (x : Int), qJ (zT d slots') 2 [.int .i64 x] = zT { d with what := x } slots') /\
  (∀ (d : DWork) (slots' : Value) (x : Value), qJ (zT d slots') 3 [x] = zT d x) /\
  (∀ (d e : DWork) (slots' : Value) (slots'' : Value), qJ (zT d slots') 0 (zT e slots'') = zT e slots'') :=
 ⟨fun _ _ => rfl, fun _ _ => rfl, fun _ _ => rfl, fun _ _ => rfl, fun _ _ => rfl, fun _ _ => rfl, fun _ _ => rfl, fun _ _ h0 => by simp only [zT, List.all_cons, List.all_nil, h0]; rfl, fun _ _ _ => rfl, fun _ _ _ => rfl, fun _ _ _ => rfl, fun _ _ _ => rfl, fun _ _ _ _ => rfl⟩
def sWork (h : H) (d : DWork) (slots' : Value) : Prop := rLs h eI 1 slots' d.slots
def rWork (h : H) (cs : List Value) (d : DWork) : Prop := ∃ slots', cs = zT d slots' /\ sWork h d slots'
theorem sWork.sub {g h : H} (s : Sub g h) {d : DWork} {slots' : Value} (r : sWork g d slots') : sWork h d slots' := rLs.sub s r
theorem rWork.sub {g h : H} (s : Sub g h) {c : List Value} {d : DWork} (r : rWork g c d) : rWork h c d := by
 obtain ⟨slots', e, r⟩ := r
 exact ⟨slots', e, sWork.sub s r⟩
structure DHouse where
 id : Int
 up : Bool
 log : List DRec
 forced : Int
 locks : List DLock
 works : List DWork
deriving DecidableEq
def qT (d : DHouse) (log' locks' works' : Value) : List Value := [.int .i64 d.id, .bool d.up, log', .int .i64 d.forced, locks', works']
def zHouse : DHouse := ⟨0, false, [], 0, [], []⟩
theorem kL : [.int .i64 0, .bool false, .slice none 0 0, .int .i64 0, .slice none 0 0, .slice none 0 0] = qT zHouse (.slice none 0 0) (.slice none 0 0) (.slice none 0 0) := rfl
theorem yC :
  (∀ (d : DHouse) (log' locks' works' : Value), (qT d log' locks' works').length = 6) /\
  (∀ (d : DHouse) (log' locks' works' : Value), (qT d log' locks' works')[0]? = some (.int .i64 d.id)) /\
  (∀ (d : DHouse) (log' locks' works' : Value), (qT d log' locks' works')[1]? = some (.bool d.up)) /\
  (∀ (d : DHouse) (log' locks' works' : Value), (qT d log' locks' works')[2]? = some (log')) /\
  (∀ (d : DHouse) (log' locks' works' : Value), (qT d log' locks' works')[3]? = some (.int .i64 d.forced)) /\
  (∀ (d : DHouse) (log' locks' works' : Value), (qT d log' locks' works')[4]? = some (locks')) /\
  (∀ (d : DHouse) (log' locks' works' : Value), (qT d log' locks' works')[5]? = some (works')) /\
  (∀ (d : DHouse) (log' locks' works' : Value), ((qT d log' locks' works').drop 0).take 6 = qT d log' locks' works') /\
  (∀ (d : DHouse) (log' locks' works' : Value), (qT d log' locks' works').take 6 = qT d log' locks' works') /\
  (∀ (d : DHouse) (log' locks' works' : Value), vone log' = true -> vone locks' = true -> vone works' = true -> (qT d log' locks' works').all vone = true) /\
  (∀ (d : DHouse) (log' locks' works' : Value) (x : Int), qJ (qT d log' locks' works') 0 [.int .i64 x] = qT { d with id := x } log' locks' works') /\
  (∀ (d : DHouse) (log' locks' works' : Value) (x : Bool), qJ (qT d log' locks' works') 1 [.bool x] = qT { d with up := x } log' locks' works') /\
  (∀ (d : DHouse) (log' locks' works' : Value) (x : Value), qJ (qT d log' locks' works') 2 [x] = qT d x locks' works') /\
  (∀ (d : DHouse) (log' locks' works' : Value) (x : Int), qJ (qT d log' locks' works') 3 [.int .i64 x] = qT { d with forced := x } log' locks' works') /\
  (∀ (d : DHouse) (log' locks' works' : Value) (x : Value), qJ (qT d log' locks' works') 4 [x] = qT d log' x works') /\
  (∀ (d : DHouse) (log' locks' works' : Value) (x : Value), qJ (qT d log' locks' works') 5 [x] = qT d log' locks' x) /\
  (∀ (d e : DHouse) (log' locks' works' : Value) (log'' locks'' works'' : Value), qJ (qT d log' locks' works') 0 (qT e log'' locks'' works'') = qT e log'' locks'' works'') :=
 ⟨fun _ _ _ _ => rfl, fun _ _ _ _ => rfl, fun _ _ _ _ => rfl, fun _ _ _ _ => rfl, fun _ _ _ _ => rfl, fun _ _ _ _ => rfl, fun _ _ _ _ => rfl, fun _ _ _ _ => rfl, fun _ _ _ _ => rfl, fun _ _ _ _ h0 h1 h2 => by simp only [qT, List.all_cons, List.all_nil, h0, h1, h2]; rfl, fun _ _ _ _ _ => rfl, fun _ _ _ _ _ => rfl, fun _ _ _ _ _ => rfl, fun _ _ _ _ _ => rfl, fun _ _ _ _ _ => rfl, fun _ _ _ _ _ => rfl, fun _ _ _ _ _ _ _ _ => rfl⟩
def sHouse (h : H) (d : DHouse) (log' locks' works' : Value) : Prop := rRs h (rRec h) 6 log' d.log /\ rRs h (rLock h) 3 locks' d.locks /\ rRs h (rWork h) 4 works' d.works
def rHouse (h : H) (cs : List Value) (d : DHouse) : Prop := ∃ log' locks' works', cs = qT d log' locks' works' /\ sHouse h d log' locks' works'
theorem sHouse.sub {g h : H} (s : Sub g h) {d : DHouse} {log' locks' works' : Value} (r : sHouse g d log' locks' works') : sHouse h d log' locks' works' := by
 obtain ⟨u0, u1, u2⟩ := r
 exact ⟨rRs.sub s (fun c d r => rRec.sub s r) u0, rRs.sub s (fun c d r => rLock.sub s r) u1, rRs.sub s (fun c d r => rWork.sub s r) u2⟩
theorem rHouse.sub {g h : H} (s : Sub g h) {c : List Value} {d : DHouse} (r : rHouse g c d) : rHouse h c d := by
 obtain ⟨log', locks', works', e, r⟩ := r
 exact ⟨log', locks', works', e, sHouse.sub s r⟩
def vS (n : Int) : Prop := inP 1 9999 n
def qAU (h : DHold) : Prop := vS h.stamp /\ vS h.try_
def vN (a b : DHold) : Bool := decide (a.stamp ≠ b.stamp) && !(a.share && b.share)
def qIV (l : DLock) : Prop := qIG l.slot /\ l.held.length + l.waits.length <= 16 /\ allP qAU l.held /\ risP (·.stamp) l.held /\ (∀ a ∈ l.held, ∀ b ∈ l.held, vN a b = false) /\
 allP qAU l.waits /\ risP (·.stamp) l.waits /\ (∀ w ∈ l.waits, w.firm = false) /\ (∀ w ∈ l.waits, ∀ a ∈ l.held, a.stamp ≠ w.stamp)
def yZ (l : List DHold) (s : Int) : Option DHold := l.find? fun x => decide (x.stamp = s)
theorem qQW {l : List DHold} (hr : risP (·.stamp) l) : (∀ a ∈ l, ∀ b ∈ l, vN a b = false) ↔ ∀ i (h : i < l.length), 0 < i -> vN (l[0]'(by omega)) l[i] = false := by
 have lt : ∀ j i (hj : j < l.length) (hi : i < l.length), i < j -> l[i].stamp < l[j].stamp := by
  intro j
  induction j with
  | zero => intro i _ _ h; omega
  | succ j ih =>
   intro i hj hi h
   have := hr j hj
   by_cases e : i = j
   ·subst e; exact this
   ·exact Int.lt_trans (ih i (by omega) hi (by omega)) this
 constructor
 ·intro h i hi _
  exact h _ (List.getElem_mem _) _ (List.getElem_mem _)
 ·intro h a ha b hb
  obtain ⟨i, hi, rfl⟩ := List.getElem_of_mem ha
  obtain ⟨j, hj, rfl⟩ := List.getElem_of_mem hb
  have sh : ∀ k (hk : k < l.length), 0 < k -> (l[0]'(by omega)).share = true /\ l[k].share = true := by
   intro k hk h0
   have h1 := h k hk h0
   have h2 := lt k 0 hk (by omega) h0
   unfold vN at h1
   have h3 : decide ((l[0]'(by omega)).stamp ≠ l[k].stamp) = true := by simp; omega
   rw [h3] at h1
   simpa using h1
  unfold vN
  by_cases e : i = j
  ·subst e; simp
  ·have hs : l[i].share = true /\ l[j].share = true := by
    by_cases hi0 : i = 0
    ·subst hi0; exact sh j hj (by omega)
    ·by_cases hj0 : j = 0
     ·subst hj0; exact (sh i hi (by omega)).symm
     ·exact ⟨(sh i hi (by omega)).2, (sh j hj (by omega)).2⟩
   rw [hs.1, hs.2]; simp
end Go.Tk
end

section
namespace Go.Tk
open Go
def uC (k : Int) : Int := if 0 <= k /\ k <= 31 then (k * 8).tdiv 32 else -1
theorem qQJ {k : Int} (h : keyP k) : 0 <= uC k /\ uC k <= 7 := by
 have h2 : 0 <= k /\ k <= 31 := h
 obtain ⟨n, rfl⟩ : ∃ n : Nat, k = n := ⟨k.toNat, by omega⟩
 unfold uC
 rw [if_pos h2]
 have : ((n : Int) * 8).tdiv 32 = ((n * 8 / 32 : Nat) : Int) := rfl
 rw [this]
 omega
def getP (l : List (Int × Int)) (k : Int) : Int := ((l.find? fun p => decide (p.1 = k)).map (·.2)).getD 0
def putV (l more : List (Int × Int)) (k : Int) : Int := ((more.find? fun p => decide (p.1 = k)).map (·.2)).getD (getP l k)
def putPs (l more : List (Int × Int)) (n : Nat) : List (Int × Int) := (List.range n).filterMap fun (k : Nat) => if putV l more k = 0 then none else some ((k : Int), putV l more k)
open Classical in
noncomputable def jO (l more : List (Int × Int)) : List (Int × Int) := if xI l /\ xI more then putPs l more 32 else []
def yX (slots : List Int) (p : Int × Int) : Bool := slots.contains (uC p.1)
def qFM (l : List (Int × Int)) (s : Int) : List (Int × Int) := l.filter fun p => !decide (uC p.1 = s)
def qMW (st tr wh : Int) (sl : List Int) : Prop := vS st /\ vS tr /\ inP 1 3 wh /\ sl ≠ [] /\ qIF sl /\ (wh = 1 ∨ sl.length = 1)
def recP (r : DRec) : Prop := (r.kind = 1 /\ qMW r.stamp r.try_ r.what r.slots /\ r.pairs = []) ∨
 (r.kind ≠ 1 /\ (r.kind = 2 ∨ (r.kind = 3 /\ r.pairs = [])) /\ vS r.stamp /\ vS r.try_ /\ r.what = 0 /\ r.slots = [] /\ xI r.pairs)
def uL (s t : Int) (r : DRec) : Bool := decide (r.kind = 1) && decide (r.stamp = s) && decide (r.try_ = t)
def endB (s t : Int) (r : DRec) : Bool := !decide (r.kind = 1) && decide (r.stamp = s) && decide (r.try_ = t)
def yL (log : List DRec) (s t : Int) : Option DRec := log.find? (uL s t)
def vU (log : List DRec) (s t : Int) : Bool := log.any (endB s t)
def vQ (log : List DRec) (r : DRec) : Prop := recP r /\ (r.kind = 1 -> yL log r.stamp r.try_ = none) /\
 (r.kind ≠ 1 -> vU log r.stamp r.try_ = false /\ ∃ p, yL log r.stamp r.try_ = some p /\ r.pairs.all (yX p.slots) = true)
def logP (log : List DRec) : Prop := log.length <= 400 /\ ∀ i (h : i < log.length), vQ (log.take i) log[i]
def uY (log : List DRec) : List DRec := log.filter fun r => decide (r.kind = 1) && !vU log r.stamp r.try_
abbrev Kept := Int -> Bool
def setK (f : Kept) (s : Int) (b : Bool) : Kept := fun x => if x = s then b else f x
def qCT (id : Int) : Kept := fun s => decide (s.tmod 3 = id)
noncomputable def vO (log : List DRec) (st : Kept × List (Int × Int)) (r : DRec) : Kept × List (Int × Int) :=
 if r.kind ≠ 2 then st else
 match yL log r.stamp r.try_ with
 | none => st
 | some p =>
  if p.what = 2 then (setK st.1 (p.slots.headD 0) false, qFM st.2 (p.slots.headD 0))
  else if p.what = 3 then (setK st.1 (p.slots.headD 0) true, jO (qFM st.2 (p.slots.headD 0)) r.pairs)
  else (st.1, jO st.2 r.pairs)
noncomputable def qJG (id : Int) (log l : List DRec) : Kept × List (Int × Int) := l.foldl (vO log) (qCT id, [])
noncomputable def wI (id : Int) (log : List DRec) : Kept × List (Int × Int) := qJG id log log
def qLG (w : DWork) : Prop := qMW w.stamp w.try_ w.what w.slots
def qTN (l : List DWork) : Prop := l.length <= 12 /\ allP qLG l /\ risP (·.stamp) l
def qDB (locks : List DLock) (s : Int) : List DHold := ((locks[s.toNat]?).map (·.held)).getD []
def jS (locks : List DLock) (s t : Int) (slots : List Int) (firm : Bool) : Bool := slots.all fun sl => match yZ (qDB locks sl) s with
 | some x => decide (x.try_ = t) && (!firm || x.firm)
 | none => false
def qMS (h : DHouse) : Prop := ∀ r ∈ uY h.log, jS h.locks r.stamp r.try_ r.slots true = true
def qAV (l : DLock) : Prop := l.held.length + l.waits.length = 0
def xV (h : DHouse) : Prop := xH h.id /\ logP h.log /\ inP 0 h.log.length h.forced /\ qTN h.works /\ h.locks.length = 8 /\
 (∀ i (hi : i < h.locks.length), qIV h.locks[i] /\ h.locks[i].slot = (i : Int) /\ (h.up = false -> qAV h.locks[i])) /\ ((h.up = false /\ h.works = []) ∨ (h.up = true /\ qMS h))
end Go.Tk
end

section
namespace Go.Tk
open Go
noncomputable section
end
end Go.Tk
end

section
namespace Go.Tk
open Go
structure DRecord where
 stamp : Int
 try_ : Int
 call : DCall
 code : Int
 vals : List Int
 pairs : List ((Int × Int))
deriving DecidableEq
def qL (d : DRecord) (vals' pairs' : Value) : List Value := [.int .i64 d.stamp, .int .i64 d.try_, .int .i64 d.call.session, .int .i64 d.call.number, .int .i64 d.call.kind, .string ⟨(d.call.text).toArray⟩, .int .i64 d.call.slot, .int .i64 d.call.to, .int .i64 d.code, vals', pairs']
def zRecord : DRecord := ⟨0, 0, ⟨0, 0, 0, [], 0, 0⟩, 0, [], []⟩
theorem uD : [.int .i64 0, .int .i64 0, .int .i64 0, .int .i64 0, .int .i64 0, str [], .int .i64 0, .int .i64 0, .int .i64 0, .slice none 0 0, .slice none 0 0] = qL zRecord (.slice none 0 0) (.slice none 0 0) := rfl
theorem wRecord :
  (∀ (d : DRecord) (vals' pairs' : Value), (qL d vals' pairs').length = 11) /\
  (∀ (d : DRecord) (vals' pairs' : Value), (qL d vals' pairs')[0]? = some (.int .i64 d.stamp)) /\
  (∀ (d : DRecord) (vals' pairs' : Value), (qL d vals' pairs')[1]? = some (.int .i64 d.try_)) /\
  (∀ (d : DRecord) (vals' pairs' : Value), (qL d vals' pairs')[2]? = some (.int .i64 d.call.session)) /\
  (∀ (d : DRecord) (vals' pairs' : Value), (qL d vals' pairs')[3]? = some (.int .i64 d.call.number)) /\
  (∀ (d : DRecord) (vals' pairs' : Value), (qL d vals' pairs')[4]? = some (.int .i64 d.call.kind)) /\
  (∀ (d : DRecord) (vals' pairs' : Value), (qL d vals' pairs')[5]? = some (.string ⟨(d.call.text).toArray⟩)) /\
  (∀ (d : DRecord) (vals' pairs' : Value), (qL d vals' pairs')[6]? = some (.int .i64 d.call.slot)) /\
  (∀ (d : DRecord) (vals' pairs' : Value), (qL d vals' pairs')[7]? = some (.int .i64 d.call.to)) /\
  (∀ (d : DRecord) (vals' pairs' : Value), (qL d vals' pairs')[8]? = some (.int .i64 d.code)) /\
  (∀ (d : DRecord) (vals' pairs' : Value), (qL d vals' pairs')[9]? = some (vals')) /\
  (∀ (d : DRecord) (vals' pairs' : Value), (qL d vals' pairs')[10]? = some (pairs')) /\
  (∀ (d : DRecord) (vals' pairs' : Value), ((qL d vals' pairs').drop 0).take 11 = qL d vals' pairs') /\
  (∀ (d : DRecord) (vals' pairs' : Value), (qL d vals' pairs').take 11 = qL d vals' pairs') /\
  (∀ (d : DRecord) (vals' pairs' : Value), vone vals' = true -> vone pairs' = true -> (qL d vals' pairs').all vone = true) /\
  (∀ (d : DRecord) (vals' pairs' : Value) (x : Int), qJ (qL d vals' pairs') 0 [.int .i64 x] = qL { d with stamp := x } vals' pairs') /\
  (∀ (d : DRecord) (vals' pairs' : Value) (x : Int), qJ (qL d vals' pairs') 1 [.int .i64 x] = qL { d with try_ := x } vals' pairs') /\
  (∀ (d : DRecord) (vals' pairs' : Value) (x : Int), qJ (qL d vals' pairs') 2 [.int .i64 x] = qL { d with call := { d.call with session := x } } vals' pairs') /\
  (∀ (d : DRecord) (vals' pairs' : Value) (x : Int), qJ (qL d vals' pairs') 3 [.int .i64 x] = qL { d with call := { d.call with number := x } } vals' pairs') /\
  (∀ (d : DRecord) (vals' pairs' : Value) (x : Int), qJ (qL d vals' pairs') 4 [.int .i64 x] = qL { d with call := { d.call with kind := x } } vals' pairs') /\
  (∀ (d : DRecord) (vals' pairs' : Value) (x : List UInt8), qJ (qL d vals' pairs') 5 [.string ⟨(x).toArray⟩] = qL { d with call := { d.call with text := x } } vals' pairs') /\
  (∀ (d : DRecord) (vals' pairs' : Value) (x : Int), qJ (qL d vals' pairs') 6 [.int .i64 x] = qL { d with call := { d.call with slot := x } } vals' pairs') /\
  (∀ (d : DRecord) (vals' pairs' : Value) (x : Int), qJ (qL d vals' pairs') 7 [.int .i64 x] = qL { d with call := { d.call with to := x } } vals' pairs') /\
  (∀ (d : DRecord) (vals' pairs' : Value) (x : Int), qJ (qL d vals' pairs') 8 [.int .i64 x] = qL { d with code := x } vals' pairs') /\
  (∀ (d : DRecord) (vals' pairs' : Value) (x : Value), qJ (qL d vals' pairs') 9 [x] = qL d x pairs') /\
  (∀ (d : DRecord) (vals' pairs' : Value) (x : Value), qJ (qL d vals' pairs') 10 [x] = qL d vals' x) /\
  (∀ (d e : DRecord) (vals' pairs' : Value) (vals'' pairs'' : Value), qJ (qL d vals' pairs') 0 (qL e vals'' pairs'') = qL e vals'' pairs'') /\
  (∀ (d : DRecord) (vals' pairs' : Value), ((qL d vals' pairs').drop 2).take 6 = zW d.call) /\
  (∀ (d : DRecord) (vals' pairs' : Value) (x : DCall), qJ (qL d vals' pairs') 2 (zW x) = qL { d with call := x } vals' pairs') :=
 ⟨fun _ _ _ => rfl, fun _ _ _ => rfl, fun _ _ _ => rfl, fun _ _ _ => rfl, fun _ _ _ => rfl, fun _ _ _ => rfl, fun _ _ _ => rfl, fun _ _ _ => rfl, fun _ _ _ => rfl, fun _ _ _ => rfl, fun _ _ _ => rfl, fun _ _ _ => rfl, fun _ _ _ => rfl, fun _ _ _ => rfl, fun _ _ _ h0 h1 => by simp only [qL, List.all_cons, List.all_nil, h0, h1]; rfl, fun _ _ _ _ => rfl, fun _ _ _ _ => rfl, fun _ _ _ _ => rfl, fun _ _ _ _ => rfl, fun _ _ _ _ => rfl, fun _ _ _ _ => rfl, fun _ _ _ _ => rfl, fun _ _ _ _ => rfl, fun _ _ _ _ => rfl, fun _ _ _ _ => rfl, fun _ _ _ _ => rfl, fun _ _ _ _ _ _ => rfl, fun _ _ _ => rfl, fun _ _ _ _ => rfl⟩
def sRecord (h : H) (d : DRecord) (vals' pairs' : Value) : Prop := rLs h eI 1 vals' d.vals /\ rLs h eP 2 pairs' d.pairs
def rRecord (h : H) (cs : List Value) (d : DRecord) : Prop := ∃ vals' pairs', cs = qL d vals' pairs' /\ sRecord h d vals' pairs'
theorem sRecord.sub {g h : H} (s : Sub g h) {d : DRecord} {vals' pairs' : Value} (r : sRecord g d vals' pairs') : sRecord h d vals' pairs' := by
 obtain ⟨u0, u1⟩ := r
 exact ⟨rLs.sub s u0, rLs.sub s u1⟩
theorem rRecord.sub {g h : H} (s : Sub g h) {c : List Value} {d : DRecord} (r : rRecord g c d) : rRecord h c d := by
 obtain ⟨vals', pairs', e, r⟩ := r
 exact ⟨vals', pairs', e, sRecord.sub s r⟩
structure DTold where
 house : Int
 pairs : List ((Int × Int))
deriving DecidableEq
def yB (d : DTold) (pairs' : Value) : List Value := [.int .i64 d.house, pairs']
def zTold : DTold := ⟨0, []⟩
theorem qHR : [.int .i64 0, .slice none 0 0] = yB zTold (.slice none 0 0) := rfl
theorem wTold :
  (∀ (d : DTold) (pairs' : Value), (yB d pairs').length = 2) /\
  (∀ (d : DTold) (pairs' : Value), (yB d pairs')[0]? = some (.int .i64 d.house)) /\
  (∀ (d : DTold) (pairs' : Value), (yB d pairs')[1]? = some (pairs')) /\
  (∀ (d : DTold) (pairs' : Value), ((yB d pairs').drop 0).take 2 = yB d pairs') /\
  (∀ (d : DTold) (pairs' : Value), (yB d pairs').take 2 = yB d pairs') /\
  (∀ (d : DTold) (pairs' : Value), vone pairs' = true -> (yB d pairs').all vone = true) /\
  (∀ (d : DTold) (pairs' : Value) (x : Int), qJ (yB d pairs') 0 [.int .i64 x] = yB { d with house := x } pairs') /\
  (∀ (d : DTold) (pairs' : Value) (x : Value), qJ (yB d pairs') 1 [x] = yB d x) /\
  (∀ (d e : DTold) (pairs' : Value) (pairs'' : Value), qJ (yB d pairs') 0 (yB e pairs'') = yB e pairs'') :=
 ⟨fun _ _ => rfl, fun _ _ => rfl, fun _ _ => rfl, fun _ _ => rfl, fun _ _ => rfl, fun _ _ h0 => by simp only [yB, List.all_cons, List.all_nil, h0]; rfl, fun _ _ _ => rfl, fun _ _ _ => rfl, fun _ _ _ _ => rfl⟩
def sTold (h : H) (d : DTold) (pairs' : Value) : Prop := rLs h eP 2 pairs' d.pairs
def rTold (h : H) (cs : List Value) (d : DTold) : Prop := ∃ pairs', cs = yB d pairs' /\ sTold h d pairs'
theorem sTold.sub {g h : H} (s : Sub g h) {d : DTold} {pairs' : Value} (r : sTold g d pairs') : sTold h d pairs' := rLs.sub s r
theorem rTold.sub {g h : H} (s : Sub g h) {c : List Value} {d : DTold} (r : rTold g c d) : rTold h c d := by
 obtain ⟨pairs', e, r⟩ := r
 exact ⟨pairs', e, sTold.sub s r⟩
structure DLive where
 stamp : Int
 try_ : Int
 version : Int
 phase : Int
 call : DCall
 locked : List Int
 told : List DTold
deriving DecidableEq
def zJ (d : DLive) (locked' told' : Value) : List Value := [.int .i64 d.stamp, .int .i64 d.try_, .int .i64 d.version, .int .i64 d.phase, .int .i64 d.call.session, .int .i64 d.call.number, .int .i64 d.call.kind, .string ⟨(d.call.text).toArray⟩, .int .i64 d.call.slot, .int .i64 d.call.to, locked', told']
def zLive : DLive := ⟨0, 0, 0, 0, ⟨0, 0, 0, [], 0, 0⟩, [], []⟩
theorem qDG : [.int .i64 0, .int .i64 0, .int .i64 0, .int .i64 0, .int .i64 0, .int .i64 0, .int .i64 0, str [], .int .i64 0, .int .i64 0, .slice none 0 0, .slice none 0 0] = zJ zLive (.slice none 0 0) (.slice none 0 0) := rfl
theorem wLive :
  (∀ (d : DLive) (locked' told' : Value), (zJ d locked' told').length = 12) /\
  (∀ (d : DLive) (locked' told' : Value), (zJ d locked' told')[0]? = some (.int .i64 d.stamp)) /\
  (∀ (d : DLive) (locked' told' : Value), (zJ d locked' told')[1]? = some (.int .i64 d.try_)) /\
  (∀ (d : DLive) (locked' told' : Value), (zJ d locked' told')[2]? = some (.int .i64 d.version)) /\
  (∀ (d : DLive) (locked' told' : Value), (zJ d locked' told')[3]? = some (.int .i64 d.phase)) /\
  (∀ (d : DLive) (locked' told' : Value), (zJ d locked' told')[4]? = some (.int .i64 d.call.session)) /\
  (∀ (d : DLive) (locked' told' : Value), (zJ d locked' told')[5]? = some (.int .i64 d.call.number)) /\
  (∀ (d : DLive) (locked' told' : Value), (zJ d locked' told')[6]? = some (.int .i64 d.call.kind)) /\
  (∀ (d : DLive) (locked' told' : Value), (zJ d locked' told')[7]? = some (.string ⟨(d.call.text).toArray⟩)) /\
  (∀ (d : DLive) (locked' told' : Value), (zJ d locked' told')[8]? = some (.int .i64 d.call.slot)) /\
  (∀ (d : DLive) (locked' told' : Value), (zJ d locked' told')[9]? = some (.int .i64 d.call.to)) /\
  (∀ (d : DLive) (locked' told' : Value), (zJ d locked' told')[10]? = some (locked')) /\
  (∀ (d : DLive) (locked' told' : Value), (zJ d locked' told')[11]? = some (told')) /\
  (∀ (d : DLive) (locked' told' : Value), ((zJ d locked' told').drop 0).take 12 = zJ d locked' told') /\
  (∀ (d : DLive) (locked' told' : Value), (zJ d locked' told').take 12 = zJ d locked' told') /\
  (∀ (d : DLive) (locked' told' : Value), vone locked' = true -> vone told' = true -> (zJ d locked' told').all vone = true) /\
  (∀ (d : DLive) (locked' told' : Value) (x : Int), qJ (zJ d locked' told') 0 [.int .i64 x] = zJ { d with stamp := x } locked' told') /\
  (∀ (d : DLive) (locked' told' : Value) (x : Int), qJ (zJ d locked' told') 1 [.int .i64 x] = zJ { d with try_ := x } locked' told') /\
  (∀ (d : DLive) (locked' told' : Value) (x : Int), qJ (zJ d locked' told') 2 [.int .i64 x] = zJ { d with version := x } locked' told') /\
  (∀ (d : DLive) (locked' told' : Value) (x : Int), qJ (zJ d locked' told') 3 [.int .i64 x] = zJ { d with phase := x } locked' told') /\
  (∀ (d : DLive) (locked' told' : Value) (x : Int), qJ (zJ d locked' told') 4 [.int .i64 x] = zJ { d with call := { d.call with session := x } } locked' told') /\
  (∀ (d : DLive) (locked' told' : Value) (x : Int), qJ (zJ d locked' told') 5 [.int .i64 x] = zJ { d with call := { d.call with number := x } } locked' told') /\
  (∀ (d : DLive) (locked' told' : Value) (x : Int), qJ (zJ d locked' told') 6 [.int .i64 x] = zJ { d with call := { d.call with kind := x } } locked' told') /\
  (∀ (d : DLive) (locked' told' : Value) (x : List UInt8), qJ (zJ d locked' told') 7 [.string ⟨(x).toArray⟩] = zJ { d with call := { d.call with text := x } } locked' told') /\
  (∀ (d : DLive) (locked' told' : Value) (x : Int), qJ (zJ d locked' told') 8 [.int .i64 x] = zJ { d with call := { d.call with slot := x } } locked' told') /\
  (∀ (d : DLive) (locked' told' : Value) (x : Int), qJ (zJ d locked' told') 9 [.int .i64 x] = zJ { d with call := { d.call with to := x } } locked' told') /\
  (∀ (d : DLive) (locked' told' : Value) (x : Value), qJ (zJ d locked' told') 10 [x] = zJ d x told') /\
  (∀ (d : DLive) (locked' told' : Value) (x : Value), qJ (zJ d locked' told') 11 [x] = zJ d locked' x) /\
  (∀ (d e : DLive) (locked' told' : Value) (locked'' told'' : Value), qJ (zJ d locked' told') 0 (zJ e locked'' told'') = zJ e locked'' told'') /\
  (∀ (d : DLive) (locked' told' : Value), ((zJ d locked' told').drop 4).take 6 = zW d.call) /\
  (∀ (d : DLive) (locked' told' : Value) (x : DCall), qJ (zJ d locked' told') 4 (zW x) = zJ { d with call := x } locked' told') :=
 ⟨fun _ _ _ => rfl, fun _ _ _ => rfl, fun _ _ _ => rfl, fun _ _ _ => rfl, fun _ _ _ => rfl, fun _ _ _ => rfl, fun _ _ _ => rfl, fun _ _ _ => rfl, fun _ _ _ => rfl, fun _ _ _ => rfl, fun _ _ _ => rfl, fun _ _ _ => rfl, fun _ _ _ => rfl, fun _ _ _ => rfl, fun _ _ _ => rfl, fun _ _ _ h0 h1 => by simp only [zJ, List.all_cons, List.all_nil, h0, h1]; rfl, fun _ _ _ _ => rfl, fun _ _ _ _ => rfl, fun _ _ _ _ => rfl, fun _ _ _ _ => rfl, fun _ _ _ _ => rfl, fun _ _ _ _ => rfl, fun _ _ _ _ => rfl, fun _ _ _ _ => rfl, fun _ _ _ _ => rfl, fun _ _ _ _ => rfl, fun _ _ _ _ => rfl, fun _ _ _ _ => rfl, fun _ _ _ _ _ _ => rfl, fun _ _ _ => rfl, fun _ _ _ _ => rfl⟩
def sLive (h : H) (d : DLive) (locked' told' : Value) : Prop := rLs h eI 1 locked' d.locked /\ rRs h (rTold h) 2 told' d.told
def rLive (h : H) (cs : List Value) (d : DLive) : Prop := ∃ locked' told', cs = zJ d locked' told' /\ sLive h d locked' told'
theorem sLive.sub {g h : H} (s : Sub g h) {d : DLive} {locked' told' : Value} (r : sLive g d locked' told') : sLive h d locked' told' := by
 obtain ⟨u0, u1⟩ := r
 exact ⟨rLs.sub s u0, rRs.sub s (fun c d r => rTold.sub s r) u1⟩
theorem rLive.sub {g h : H} (s : Sub g h) {c : List Value} {d : DLive} (r : rLive g c d) : rLive h c d := by
 obtain ⟨locked', told', e, r⟩ := r
 exact ⟨locked', told', e, sLive.sub s r⟩
structure DWay where
 house : Int
 stamp : Int
deriving DecidableEq
def cWay (d : DWay) : List Value := [.int .i64 d.house, .int .i64 d.stamp]
def zWay : DWay := ⟨0, 0⟩
theorem qHE : [.int .i64 0, .int .i64 0] = cWay zWay := rfl
theorem wWay :
  (∀ (d : DWay), (cWay d).length = 2) /\
  (∀ (d : DWay), (cWay d)[0]? = some (.int .i64 d.house)) /\
  (∀ (d : DWay), (cWay d)[1]? = some (.int .i64 d.stamp)) /\
  (∀ (d : DWay), ((cWay d).drop 0).take 2 = cWay d) /\
  (∀ (d : DWay), (cWay d).take 2 = cWay d) /\
  (∀ (d : DWay), (cWay d).all vone = true) /\
  (∀ (d : DWay) (x : Int), qJ (cWay d) 0 [.int .i64 x] = cWay { d with house := x }) /\
  (∀ (d : DWay) (x : Int), qJ (cWay d) 1 [.int .i64 x] = cWay { d with stamp := x }) /\
  (∀ (d e : DWay), qJ (cWay d) 0 (cWay e) = cWay e) :=
 ⟨fun _ => rfl, fun _ => rfl, fun _ => rfl, fun _ => rfl, fun _ => rfl, fun _ => rfl, fun _ _ => rfl, fun _ _ => rfl, fun _ _ => rfl⟩
structure DGate where
 up : Bool
 life : Int
 next : Int
 log : List DRecord
 lives : List DLive
 ways : List DWay
deriving DecidableEq
def zN (d : DGate) (log' lives' ways' : Value) : List Value := [.bool d.up, .int .i64 d.life, .int .i64 d.next, log', lives', ways']
def zGate : DGate := ⟨false, 0, 0, [], [], []⟩
theorem zDO : [.bool false, .int .i64 0, .int .i64 0, .slice none 0 0, .slice none 0 0, .slice none 0 0] = zN zGate (.slice none 0 0) (.slice none 0 0) (.slice none 0 0) := rfl
theorem yF :
  (∀ (d : DGate) (log' lives' ways' : Value), (zN d log' lives' ways').length = 6) /\
  (∀ (d : DGate) (log' lives' ways' : Value), (zN d log' lives' ways')[0]? = some (.bool d.up)) /\
  (∀ (d : DGate) (log' lives' ways' : Value), (zN d log' lives' ways')[1]? = some (.int .i64 d.life)) /\
  (∀ (d : DGate) (log' lives' ways' : Value), (zN d log' lives' ways')[2]? = some (.int .i64 d.next)) /\
  (∀ (d : DGate) (log' lives' ways' : Value), (zN d log' lives' ways')[3]? = some (log')) /\
  (∀ (d : DGate) (log' lives' ways' : Value), (zN d log' lives' ways')[4]? = some (lives')) /\
  (∀ (d : DGate) (log' lives' ways' : Value), (zN d log' lives' ways')[5]? = some (ways')) /\
  (∀ (d : DGate) (log' lives' ways' : Value), ((zN d log' lives' ways').drop 0).take 6 = zN d log' lives' ways') /\
  (∀ (d : DGate) (log' lives' ways' : Value), (zN d log' lives' ways').take 6 = zN d log' lives' ways') /\
  (∀ (d : DGate) (log' lives' ways' : Value), vone log' = true -> vone lives' = true -> vone ways' = true -> (zN d log' lives' ways').all vone = true) /\
  (∀ (d : DGate) (log' lives' ways' : Value) (x : Bool), qJ (zN d log' lives' ways') 0 [.bool x] = zN { d with up := x } log' lives' ways') /\
  (∀ (d : DGate) (log' lives' ways' : Value) (x : Int), qJ (zN d log' lives' ways') 1 [.int .i64 x] = zN { d with life := x } log' lives' ways') /\
  (∀ (d : DGate) (log' lives' ways' : Value) (x : Int), qJ (zN d log' lives' ways') 2 [.int .i64 x] = zN { d with next := x } log' lives' ways') /\
  (∀ (d : DGate) (log' lives' ways' : Value) (x : Value), qJ (zN d log' lives' ways') 3 [x] = zN d x lives' ways') /\
  (∀ (d : DGate) (log' lives' ways' : Value) (x : Value), qJ (zN d log' lives' ways') 4 [x] = zN d log' x ways') /\
  (∀ (d : DGate) (log' lives' ways' : Value) (x : Value), qJ (zN d log' lives' ways') 5 [x] = zN d log' lives' x) /\
  (∀ (d e : DGate) (log' lives' ways' : Value) (log'' lives'' ways'' : Value), qJ (zN d log' lives' ways') 0 (zN e log'' lives'' ways'') = zN e log'' lives'' ways'') :=
 ⟨fun _ _ _ _ => rfl, fun _ _ _ _ => rfl, fun _ _ _ _ => rfl, fun _ _ _ _ => rfl, fun _ _ _ _ => rfl, fun _ _ _ _ => rfl, fun _ _ _ _ => rfl, fun _ _ _ _ => rfl, fun _ _ _ _ => rfl, fun _ _ _ _ h0 h1 h2 => by simp only [zN, List.all_cons, List.all_nil, h0, h1, h2]; rfl, fun _ _ _ _ _ => rfl, fun _ _ _ _ _ => rfl, fun _ _ _ _ _ => rfl, fun _ _ _ _ _ => rfl, fun _ _ _ _ _ => rfl, fun _ _ _ _ _ => rfl, fun _ _ _ _ _ _ _ _ => rfl⟩
def sGate (h : H) (d : DGate) (log' lives' ways' : Value) : Prop := rRs h (rRecord h) 11 log' d.log /\ rRs h (rLive h) 12 lives' d.lives /\ rLs h cWay 2 ways' d.ways
theorem sGate.sub {g h : H} (s : Sub g h) {d : DGate} {log' lives' ways' : Value} (r : sGate g d log' lives' ways') : sGate h d log' lives' ways' := by
 obtain ⟨u0, u1, u2⟩ := r
 exact ⟨rRs.sub s (fun c d r => rRecord.sub s r) u0, rRs.sub s (fun c d r => rLive.sub s r) u1, rLs.sub s u2⟩
structure DMap where
 version : Int
 owners : List Int
deriving DecidableEq
def cMap (d : DMap) (owners' : Value) : List Value := [.int .i64 d.version, owners']
def zMap : DMap := ⟨0, []⟩
theorem zMap_eq : [.int .i64 0, .slice none 0 0] = cMap zMap (.slice none 0 0) := rfl
theorem wMap :
  (∀ (d : DMap) (owners' : Value), (cMap d owners').length = 2) /\
  (∀ (d : DMap) (owners' : Value), (cMap d owners')[0]? = some (.int .i64 d.version)) /\
  (∀ (d : DMap) (owners' : Value), (cMap d owners')[1]? = some (owners')) /\
  (∀ (d : DMap) (owners' : Value), ((cMap d owners').drop 0).take 2 = cMap d owners') /\
  (∀ (d : DMap) (owners' : Value), (cMap d owners').take 2 = cMap d owners') /\
  (∀ (d : DMap) (owners' : Value), vone owners' = true -> (cMap d owners').all vone = true) /\
  (∀ (d : DMap) (owners' : Value) (x : Int), qJ (cMap d owners') 0 [.int .i64 x] = cMap { d with version := x } owners') /\
  (∀ (d : DMap) (owners' : Value) (x : Value), qJ (cMap d owners') 1 [x] = cMap d x) /\
  (∀ (d e : DMap) (owners' : Value) (owners'' : Value), qJ (cMap d owners') 0 (cMap e owners'') = cMap e owners'') :=
 ⟨fun _ _ => rfl, fun _ _ => rfl, fun _ _ => rfl, fun _ _ => rfl, fun _ _ => rfl, fun _ _ h0 => by simp only [cMap, List.all_cons, List.all_nil, h0]; rfl, fun _ _ _ => rfl, fun _ _ _ => rfl, fun _ _ _ _ => rfl⟩
structure DTollCall where
 call : DCall
 begin : Int
 end_ : Int
 over : Bool
 code : Int
 vals : List Int
deriving DecidableEq
def qI (d : DTollCall) (vals' : Value) : List Value := [.int .i64 d.call.session, .int .i64 d.call.number, .int .i64 d.call.kind, .string ⟨(d.call.text).toArray⟩, .int .i64 d.call.slot, .int .i64 d.call.to, .int .i64 d.begin, .int .i64 d.end_, .bool d.over, .int .i64 d.code, vals']
def zTollCall : DTollCall := ⟨⟨0, 0, 0, [], 0, 0⟩, 0, 0, false, 0, []⟩
theorem kZ : [.int .i64 0, .int .i64 0, .int .i64 0, str [], .int .i64 0, .int .i64 0, .int .i64 0, .int .i64 0, .bool false, .int .i64 0, .slice none 0 0] = qI zTollCall (.slice none 0 0) := rfl
theorem zX :
  (∀ (d : DTollCall) (vals' : Value), (qI d vals').length = 11) /\
  (∀ (d : DTollCall) (vals' : Value), (qI d vals')[0]? = some (.int .i64 d.call.session)) /\
  (∀ (d : DTollCall) (vals' : Value), (qI d vals')[1]? = some (.int .i64 d.call.number)) /\
  (∀ (d : DTollCall) (vals' : Value), (qI d vals')[2]? = some (.int .i64 d.call.kind)) /\
  (∀ (d : DTollCall) (vals' : Value), (qI d vals')[3]? = some (.string ⟨(d.call.text).toArray⟩)) /\
  (∀ (d : DTollCall) (vals' : Value), (qI d vals')[4]? = some (.int .i64 d.call.slot)) /\
  (∀ (d : DTollCall) (vals' : Value), (qI d vals')[5]? = some (.int .i64 d.call.to)) /\
  (∀ (d : DTollCall) (vals' : Value), (qI d vals')[6]? = some (.int .i64 d.begin)) /\
  (∀ (d : DTollCall) (vals' : Value), (qI d vals')[7]? = some (.int .i64 d.end_)) /\
  (∀ (d : DTollCall) (vals' : Value), (qI d vals')[8]? = some (.bool d.over)) /\
  (∀ (d : DTollCall) (vals' : Value), (qI d vals')[9]? = some (.int .i64 d.code)) /\
  (∀ (d : DTollCall) (vals' : Value), (qI d vals')[10]? = some (vals')) /\
  (∀ (d : DTollCall) (vals' : Value), ((qI d vals').drop 0).take 11 = qI d vals') /\
  (∀ (d : DTollCall) (vals' : Value), (qI d vals').take 11 = qI d vals') /\
  (∀ (d : DTollCall) (vals' : Value), vone vals' = true -> (qI d vals').all vone = true) /\
  (∀ (d : DTollCall) (vals' : Value) (x : Int), qJ (qI d vals') 0 [.int .i64 x] = qI { d with call := { d.call with session := x } } vals') /\
  (∀ (d : DTollCall) (vals' : Value) (x : Int), qJ (qI d vals') 1 [.int .i64 x] = qI { d with call := { d.call with number := x } } vals') /\
  (∀ (d : DTollCall) (vals' : Value) (x : Int), qJ (qI d vals') 2 [.int .i64 x] = qI { d with call := { d.call with kind := x } } vals') /\
  (∀ (d : DTollCall) (vals' : Value) (x : List UInt8), qJ (qI d vals') 3 [.string ⟨(x).toArray⟩] = qI { d with call := { d.call with text := x } } vals') /\
  (∀ (d : DTollCall) (vals' : Value) (x : Int), qJ (qI d vals') 4 [.int .i64 x] = qI { d with call := { d.call with slot := x } } vals') /\
  (∀ (d : DTollCall) (vals' : Value) (x : Int), qJ (qI d vals') 5 [.int .i64 x] = qI { d with call := { d.call with to := x } } vals') /\
  (∀ (d : DTollCall) (vals' : Value) (x : Int), qJ (qI d vals') 6 [.int .i64 x] = qI { d with begin := x } vals') /\
  (∀ (d : DTollCall) (vals' : Value) (x : Int), qJ (qI d vals') 7 [.int .i64 x] = qI { d with end_ := x } vals') /\
  (∀ (d : DTollCall) (vals' : Value) (x : Bool), qJ (qI d vals') 8 [.bool x] = qI { d with over := x } vals') /\
  (∀ (d : DTollCall) (vals' : Value) (x : Int), qJ (qI d vals') 9 [.int .i64 x] = qI { d with code := x } vals') /\
  (∀ (d : DTollCall) (vals' : Value) (x : Value), qJ (qI d vals') 10 [x] = qI d x) /\
  (∀ (d e : DTollCall) (vals' : Value) (vals'' : Value), qJ (qI d vals') 0 (qI e vals'') = qI e vals'') /\
  (∀ (d : DTollCall) (vals' : Value), ((qI d vals').drop 0).take 6 = zW d.call) /\
  (∀ (d : DTollCall) (vals' : Value) (x : DCall), qJ (qI d vals') 0 (zW x) = qI { d with call := x } vals') :=
 ⟨fun _ _ => rfl, fun _ _ => rfl, fun _ _ => rfl, fun _ _ => rfl, fun _ _ => rfl, fun _ _ => rfl, fun _ _ => rfl, fun _ _ => rfl, fun _ _ => rfl, fun _ _ => rfl, fun _ _ => rfl, fun _ _ => rfl, fun _ _ => rfl, fun _ _ => rfl, fun _ _ h0 => by simp only [qI, List.all_cons, List.all_nil, h0]; rfl, fun _ _ _ => rfl, fun _ _ _ => rfl, fun _ _ _ => rfl, fun _ _ _ => rfl, fun _ _ _ => rfl, fun _ _ _ => rfl, fun _ _ _ => rfl, fun _ _ _ => rfl, fun _ _ _ => rfl, fun _ _ _ => rfl, fun _ _ _ => rfl, fun _ _ _ _ => rfl, fun _ _ => rfl, fun _ _ _ => rfl⟩
def sTollCall (h : H) (d : DTollCall) (vals' : Value) : Prop := rLs h eI 1 vals' d.vals
def rTollCall (h : H) (cs : List Value) (d : DTollCall) : Prop := ∃ vals', cs = qI d vals' /\ sTollCall h d vals'
theorem sTollCall.sub {g h : H} (s : Sub g h) {d : DTollCall} {vals' : Value} (r : sTollCall g d vals') : sTollCall h d vals' := rLs.sub s r
theorem rTollCall.sub {g h : H} (s : Sub g h) {c : List Value} {d : DTollCall} (r : rTollCall g c d) : rTollCall h c d := by
 obtain ⟨vals', e, r⟩ := r
 exact ⟨vals', e, sTollCall.sub s r⟩
structure DTollWorld where
 time : Int
 gate : DGate
 houses : List DHouse
 radio : List DWord
 calls : List DTollCall
deriving DecidableEq
def cTollWorld (d : DTollWorld) (gate_log' gate_lives' gate_ways' houses' radio' calls' : Value) : List Value := [.int .i64 d.time, .bool d.gate.up, .int .i64 d.gate.life, .int .i64 d.gate.next, gate_log', gate_lives', gate_ways', houses', radio', calls']
def zTollWorld : DTollWorld := ⟨0, ⟨false, 0, 0, [], [], []⟩, [], [], []⟩
theorem qCI : [.int .i64 0, .bool false, .int .i64 0, .int .i64 0, .slice none 0 0, .slice none 0 0, .slice none 0 0, .slice none 0 0, .slice none 0 0, .slice none 0 0] = cTollWorld zTollWorld (.slice none 0 0) (.slice none 0 0) (.slice none 0 0) (.slice none 0 0) (.slice none 0 0) (.slice none 0 0) := rfl
theorem yQ :
  (∀ (d : DTollWorld) (gate_log' gate_lives' gate_ways' houses' radio' calls' : Value), (cTollWorld d gate_log' gate_lives' gate_ways' houses' radio' calls').length = 10) /\
  (∀ (d : DTollWorld) (gate_log' gate_lives' gate_ways' houses' radio' calls' : Value), (cTollWorld d gate_log' gate_lives' gate_ways' houses' radio' calls')[0]? = some (.int .i64 d.time)) /\
  (∀ (d : DTollWorld) (gate_log' gate_lives' gate_ways' houses' radio' calls' : Value), (cTollWorld d gate_log' gate_lives' gate_ways' houses' radio' calls')[1]? = some (.bool d.gate.up)) /\
  (∀ (d : DTollWorld) (gate_log' gate_lives' gate_ways' houses' radio' calls' : Value), (cTollWorld d gate_log' gate_lives' gate_ways' houses' radio' calls')[2]? = some (.int .i64 d.gate.life)) /\
  (∀ (d : DTollWorld) (gate_log' gate_lives' gate_ways' houses' radio' calls' : Value), (cTollWorld d gate_log' gate_lives' gate_ways' houses' radio' calls')[3]? = some (.int .i64 d.gate.next)) /\
  (∀ (d : DTollWorld) (gate_log' gate_lives' gate_ways' houses' radio' calls' : Value), (cTollWorld d gate_log' gate_lives' gate_ways' houses' radio' calls')[4]? = some (gate_log')) /\
  (∀ (d : DTollWorld) (gate_log' gate_lives' gate_ways' houses' radio' calls' : Value), (cTollWorld d gate_log' gate_lives' gate_ways' houses' radio' calls')[5]? = some (gate_lives')) /\
  (∀ (d : DTollWorld) (gate_log' gate_lives' gate_ways' houses' radio' calls' : Value), (cTollWorld d gate_log' gate_lives' gate_ways' houses' radio' calls')[6]? = some (gate_ways')) /\
  (∀ (d : DTollWorld) (gate_log' gate_lives' gate_ways' houses' radio' calls' : Value), (cTollWorld d gate_log' gate_lives' gate_ways' houses' radio' calls')[7]? = some (houses')) /\
  (∀ (d : DTollWorld) (gate_log' gate_lives' gate_ways' houses' radio' calls' : Value), (cTollWorld d gate_log' gate_lives' gate_ways' houses' radio' calls')[8]? = some (radio')) /\
  (∀ (d : DTollWorld) (gate_log' gate_lives' gate_ways' houses' radio' calls' : Value), (cTollWorld d gate_log' gate_lives' gate_ways' houses' radio' calls')[9]? = some (calls')) /\
  (∀ (d : DTollWorld) (gate_log' gate_lives' gate_ways' houses' radio' calls' : Value), ((cTollWorld d gate_log' gate_lives' gate_ways' houses' radio' calls').drop 0).take 10 = cTollWorld d gate_log' gate_lives' gate_ways' houses' radio' calls') /\
  (∀ (d : DTollWorld) (gate_log' gate_lives' gate_ways' houses' radio' calls' : Value), (cTollWorld d gate_log' gate_lives' gate_ways' houses' radio' calls').take 10 = cTollWorld d gate_log' gate_lives' gate_ways' houses' radio' calls') /\
  (∀ (d : DTollWorld) (gate_log' gate_lives' gate_ways' houses' radio' calls' : Value), vone gate_log' = true -> vone gate_lives' = true -> vone gate_ways' = true -> vone houses' = true -> vone radio' = true -> vone calls' = true -> (cTollWorld d gate_log' gate_lives' gate_ways' houses' radio' calls').all vone = true) /\
  (∀ (d : DTollWorld) (gate_log' gate_lives' gate_ways' houses' radio' calls' : Value) (x : Int), qJ (cTollWorld d gate_log' gate_lives' gate_ways' houses' radio' calls') 0 [.int .i64 x] = cTollWorld { d with time := x } gate_log' gate_lives' gate_ways' houses' radio' calls') /\
  (∀ (d : DTollWorld) (gate_log' gate_lives' gate_ways' houses' radio' calls' : Value) (x : Bool), qJ (cTollWorld d gate_log' gate_lives' gate_ways' houses' radio' calls') 1 [.bool x] = cTollWorld { d with gate := { d.gate with up := x } } gate_log' gate_lives' gate_ways' houses' radio' calls') /\
  (∀ (d : DTollWorld) (gate_log' gate_lives' gate_ways' houses' radio' calls' : Value) (x : Int), qJ (cTollWorld d gate_log' gate_lives' gate_ways' houses' radio' calls') 2 [.int .i64 x] = cTollWorld { d with gate := { d.gate with life := x } } gate_log' gate_lives' gate_ways' houses' radio' calls') /\
  (∀ (d : DTollWorld) (gate_log' gate_lives' gate_ways' houses' radio' calls' : Value) (x : Int), qJ (cTollWorld d gate_log' gate_lives' gate_ways' houses' radio' calls') 3 [.int .i64 x] = cTollWorld { d with gate := { d.gate with next := x } } gate_log' gate_lives' gate_ways' houses' radio' calls') /\
  (∀ (d : DTollWorld) (gate_log' gate_lives' gate_ways' houses' radio' calls' : Value) (x : Value), qJ (cTollWorld d gate_log' gate_lives' gate_ways' houses' radio' calls') 4 [x] = cTollWorld d x gate_lives' gate_ways' houses' radio' calls') /\
  (∀ (d : DTollWorld) (gate_log' gate_lives' gate_ways' houses' radio' calls' : Value) (x : Value), qJ (cTollWorld d gate_log' gate_lives' gate_ways' houses' radio' calls') 5 [x] = cTollWorld d gate_log' x gate_ways' houses' radio' calls') /\
  (∀ (d : DTollWorld) (gate_log' gate_lives' gate_ways' houses' radio' calls' : Value) (x : Value), qJ (cTollWorld d gate_log' gate_lives' gate_ways' houses' radio' calls') 6 [x] = cTollWorld d gate_log' gate_lives' x houses' radio' calls') /\
  (∀ (d : DTollWorld) (gate_log' gate_lives' gate_ways' houses' radio' calls' : Value) (x : Value), qJ (cTollWorld d gate_log' gate_lives' gate_ways' houses' radio' calls') 7 [x] = cTollWorld d gate_log' gate_lives' gate_ways' x radio' calls') /\
  (∀ (d : DTollWorld) (gate_log' gate_lives' gate_ways' houses' radio' calls' : Value) (x : Value), qJ (cTollWorld d gate_log' gate_lives' gate_ways' houses' radio' calls') 8 [x] = cTollWorld d gate_log' gate_lives' gate_ways' houses' x calls') /\
  (∀ (d : DTollWorld) (gate_log' gate_lives' gate_ways' houses' radio' calls' : Value) (x : Value), qJ (cTollWorld d gate_log' gate_lives' gate_ways' houses' radio' calls') 9 [x] = cTollWorld d gate_log' gate_lives' gate_ways' houses' radio' x) /\
  (∀ (d e : DTollWorld) (gate_log' gate_lives' gate_ways' houses' radio' calls' : Value) (gate_log'' gate_lives'' gate_ways'' houses'' radio'' calls'' : Value), qJ (cTollWorld d gate_log' gate_lives' gate_ways' houses' radio' calls') 0 (cTollWorld e gate_log'' gate_lives'' gate_ways'' houses'' radio'' calls'') = cTollWorld e gate_log'' gate_lives'' gate_ways'' houses'' radio'' calls'') /\
  (∀ (d : DTollWorld) (gate_log' gate_lives' gate_ways' houses' radio' calls' : Value), ((cTollWorld d gate_log' gate_lives' gate_ways' houses' radio' calls').drop 1).take 6 = zN d.gate gate_log' gate_lives' gate_ways') /\
  (∀ (d : DTollWorld) (gate_log' gate_lives' gate_ways' houses' radio' calls' : Value) (x : DGate) (gate_log'' gate_lives'' gate_ways'' : Value), qJ (cTollWorld d gate_log' gate_lives' gate_ways' houses' radio' calls') 1 (zN x gate_log'' gate_lives'' gate_ways'') = cTollWorld { d with gate := x } gate_log'' gate_lives'' gate_ways'' houses' radio' calls') :=
 ⟨fun _ _ _ _ _ _ _ => rfl, fun _ _ _ _ _ _ _ => rfl, fun _ _ _ _ _ _ _ => rfl, fun _ _ _ _ _ _ _ => rfl, fun _ _ _ _ _ _ _ => rfl, fun _ _ _ _ _ _ _ => rfl, fun _ _ _ _ _ _ _ => rfl, fun _ _ _ _ _ _ _ => rfl, fun _ _ _ _ _ _ _ => rfl, fun _ _ _ _ _ _ _ => rfl, fun _ _ _ _ _ _ _ => rfl, fun _ _ _ _ _ _ _ => rfl, fun _ _ _ _ _ _ _ => rfl, fun _ _ _ _ _ _ _ h0 h1 h2 h3 h4 h5 => by simp only [cTollWorld, List.all_cons, List.all_nil, h0, h1, h2, h3, h4, h5]; rfl, fun _ _ _ _ _ _ _ _ => rfl, fun _ _ _ _ _ _ _ _ => rfl, fun _ _ _ _ _ _ _ _ => rfl, fun _ _ _ _ _ _ _ _ => rfl, fun _ _ _ _ _ _ _ _ => rfl, fun _ _ _ _ _ _ _ _ => rfl, fun _ _ _ _ _ _ _ _ => rfl, fun _ _ _ _ _ _ _ _ => rfl, fun _ _ _ _ _ _ _ _ => rfl, fun _ _ _ _ _ _ _ _ => rfl, fun _ _ _ _ _ _ _ _ _ _ _ _ _ _ => rfl, fun _ _ _ _ _ _ _ => rfl, fun _ _ _ _ _ _ _ _ _ _ _ => rfl⟩
def sTollWorld (h : H) (d : DTollWorld) (gate_log' gate_lives' gate_ways' houses' radio' calls' : Value) : Prop := rRs h (rRecord h) 11 gate_log' d.gate.log /\ rRs h (rLive h) 12 gate_lives' d.gate.lives /\ rLs h cWay 2 gate_ways' d.gate.ways /\ rRs h (rHouse h) 6 houses' d.houses /\ rRs h (rWord h) 17 radio' d.radio /\ rRs h (rTollCall h) 11 calls' d.calls
theorem sTollWorld.sub {g h : H} (s : Sub g h) {d : DTollWorld} {gate_log' gate_lives' gate_ways' houses' radio' calls' : Value} (r : sTollWorld g d gate_log' gate_lives' gate_ways' houses' radio' calls') : sTollWorld h d gate_log' gate_lives' gate_ways' houses' radio' calls' := by
 obtain ⟨u0, u1, u2, u3, u4, u5⟩ := r
 exact ⟨rRs.sub s (fun c d r => rRecord.sub s r) u0, rRs.sub s (fun c d r => rLive.sub s r) u1, rLs.sub s u2, rRs.sub s (fun c d r => rHouse.sub s r) u3, rRs.sub s (fun c d r => rWord.sub s r) u4, rRs.sub s (fun c d r => rTollCall.sub s r) u5⟩
def lim : Nat := 1048576
def qAX (c : DCall) : Prop := c.text.length <= lim
structure bWord (w : DWord) : Prop where
 s : w.slots.length <= lim
 p : w.pairs.length <= lim
 v : w.vals.length <= lim
 c : qAX w.call
structure bLock (l : DLock) : Prop where
 h : l.held.length <= lim
 w : l.waits.length <= lim
structure bRec (r : DRec) : Prop where
 s : r.slots.length <= lim
 p : r.pairs.length <= lim
def kW (w : DWork) : Prop := w.slots.length <= lim
structure bHouse (h : DHouse) : Prop where
 log : h.log.length <= lim
 recs : allP bRec h.log
 locks : h.locks.length <= lim
 lock : allP bLock h.locks
 works : h.works.length <= lim
 work : allP kW h.works
structure bRecord (r : DRecord) : Prop where
 v : r.vals.length <= lim
 p : r.pairs.length <= lim
 c : qAX r.call
def qGV (t : DTold) : Prop := t.pairs.length <= lim
structure bLive (x : DLive) : Prop where
 l : x.locked.length <= lim
 t : x.told.length <= lim
 ts : allP qGV x.told
 c : qAX x.call
structure bGate (g : DGate) : Prop where
 log : g.log.length <= lim
 recs : allP bRecord g.log
 lives : g.lives.length <= lim
 live : allP bLive g.lives
 ways : g.ways.length <= lim
structure bTollCall (c : DTollCall) : Prop where
 v : c.vals.length <= lim
 c : qAX c.call
structure bWorld (w : DTollWorld) : Prop where
 gate : bGate w.gate
 hlen : w.houses.length <= lim
 houses : allP bHouse w.houses
 rlen : w.radio.length <= lim
 radio : allP bWord w.radio
 clen : w.calls.length <= lim
 calls : allP bTollCall w.calls
theorem bWord.len {w : DWord} (b : bWord w) : w.slots.length <= 1099511627776 /\ w.pairs.length <= 1099511627776 /\ w.vals.length <= 1099511627776 := by
 have h1 := b.s; have h2 := b.p; have h3 := b.v
 unfold lim at h1 h2 h3
 omega
def map0 : DMap := ⟨1, (List.range 8).map fun (i : Nat) => (i : Int).tmod 3⟩
def xX (log : List DRecord) (s : Int) : Option DRecord := log.reverse.find? fun r => decide (r.call.session = s)
def qAG (log : List DRecord) (next : Int) (r : DRecord) : Prop := inP 1 (next - 1) r.stamp /\ vS r.try_ /\ qFB r.call /\ inP 0 9 r.code /\ qHW r.vals /\ xI r.pairs /\
 (∀ x ∈ log, x.stamp ≠ r.stamp) /\ (∀ x, xX log r.call.session = some x -> x.call.number < r.call.number)
def qMP (log : List DRecord) (next : Int) : Prop := log.length <= 60 /\ ∀ i (h : i < log.length), qAG (log.take i) next log[i]
def qXM (l : List DTold) : Prop := (∀ t ∈ l, xH t.house /\ xI t.pairs) /\ risP (·.house) l
def qCN (x : DLive) (next : Int) : Prop := inP 1 (next - 1) x.stamp /\ vS x.try_ /\ inP 1 99 x.version /\ inP 0 2 x.phase /\ qFB x.call /\ (x.phase < 2 -> x.told = []) /\ (x.phase < 1 -> x.locked = []) /\
 qXM x.told /\ allP xH x.locked /\ risP id x.locked
def xO (l : List DWay) (h : Int) : Nat := l.countP fun w => decide (w.house = h)
def wF (l : List DLive) (s : Int) : Option DLive := l.find? fun x => decide (x.stamp = s)
def qAT (a b : DWay) : Prop := a.house < b.house ∨ (a.house = b.house /\ a.stamp < b.stamp)
def qLJ (lives : List DLive) (ways : List DWay) : Prop := (∀ w ∈ ways, xH w.house /\ (∃ x, wF lives w.stamp = some x /\ x.phase ≠ 0) /\ xO ways w.house <= 2) /\ ∀ i (h : i + 1 < ways.length), qAT (ways[i]'(by omega)) ways[i + 1]
def livesP (g : DGate) : Prop := g.lives.length <= 3 /\ (∀ x ∈ g.lives, qCN x g.next /\ (∀ r ∈ g.log, r.stamp ≠ x.stamp) /\ ∀ r, xX g.log x.call.session = some r -> r.call.number < x.call.number) /\
 risP (·.stamp) g.lives /\ ∀ i j (hj : j < g.lives.length) (hi : i < j), (g.lives[i]'(by omega)).call.session ≠ g.lives[j].call.session
def qEN (g : DGate) : Prop := inP 1 99 g.life /\ inP 1 9999 g.next /\ qMP g.log g.next /\ livesP g /\ (g.up = false -> g.lives = [] /\ g.ways = []) /\ qLJ g.lives g.ways
end Go.Tk
end

section
namespace Go.Tk
open Go
section
variable {α : Type} (mk : Int -> α -> α) (cnt : α -> Nat)
def sumL : List α -> Nat
 | [] => 0
 | a :: l => cnt a + sumL l
theorem zFQ (l m : List α) : sumL cnt (l ++ m) = sumL cnt l + sumL cnt m := by
 induction l with
 | nil => simp [sumL]
 | cons a l ih => simp only [List.cons_append, sumL, ih]; omega
theorem vE {l : List α} {i : Nat} (h : i < l.length) : sumL cnt (l.take (i + 1)) = sumL cnt (l.take i) + cnt l[i] := by
 rw [List.take_succ_eq_append_getElem h, zFQ]; simp [sumL]
theorem vW {l : List α} {a : α} (h : a ∈ l) : cnt a <= sumL cnt l := by
 induction l with
 | nil => cases h
 | cons b l ih =>
  simp only [sumL]
  rcases List.mem_cons.1 h with rfl | h
  ·omega
  ·have := ih h; omega
end
end Go.Tk
end

section
namespace Go.Tk
open Go
def qDT (r : DRecord) : Nat := r.call.text.length + r.vals.length + r.pairs.length
def qAA (t : DTold) : Nat := t.pairs.length
def qAB (x : DLive) : Nat := x.call.text.length + x.locked.length + (x.told.length + sumL qAA x.told)
def qDX (g : DGate) : Nat := (g.log.length + sumL qDT g.log) + (g.lives.length + sumL qAB g.lives) + g.ways.length
end Go.Tk
end

section
attribute [local irreducible] Go.Tk.vc Go.Tk.vops Go.Tk.vdr Go.Tk.vop Go.Tk.vfl Go.Tk.HCalls
namespace Go.Proofs.YtjioiemhgbkbfaaGreatDoor
open Go Go.Tk
theorem szCall_c {h : H} {c : DCall} {left : Int} (hl : 0 <= left /\ left <= 1048576) (ht : c.text.length <= 9223372036854775807) {R : Ending -> H -> Prop}
  (k : ∀ n : Int, (0 <= n -> n <= left /\ (c.text.length : Int) <= left) -> -1 <= n -> R (.returned (.int .i64 n)) h) : HCalls Tryz.prog 85 #[.agg (zW c).toArray, .int .i64 left] h R := by
 refine qD lite (args := [.agg (zW c).toArray, .int .i64 left]) Tryz.func85 ?_
 conv => arg 2; cbv
 simp only [wK, seval, zA]
 refine qC fun j hj => ?_
 simp (disch := omega) only [wK, seval, zA, qK]
 refine qF (fun c => ⟨h, Sub.cons hj (Sub.refl h), k (-1) (by omega) (by omega)⟩) fun c => ?_
 exact ⟨h, Sub.cons hj (Sub.refl h), k _ (fun _ => by omega) (by omega)⟩
theorem qDO {h : H} {c : DCall} {R : Ending -> H -> Prop} (k : R (.returned (.agg (zW c).toArray)) h) : HCalls Tryz.prog 105 #[.agg (zW c).toArray] h R := by
 refine qD lite (args := [.agg (zW c).toArray]) Tryz.func105 ?_
 conv => arg 2; cbv
 rw [qR]
 have zc := qPP
 simp only [str] at zc
 simp only [wK, seval, zA, str, zc]
 refine qC fun j1 h1 => ?_
 simp only [wK, seval, zA]
 refine qC fun j2 h2 => ?_
 have n2 := h2
 simp only [subs] at n2
 simp only [wK, seval, zA, n2]
 refine qC fun j3 h3 => ?_
 have n3 := h3
 simp only [subs] at n3
 have m : j1 ≠ j2 /\ j1 ≠ j3 /\ j2 ≠ j3 /\ j2 ≠ j1 /\ j3 ≠ j1 /\ j3 ≠ j2 := by refine ⟨?_, ?_, ?_, ?_, ?_, ?_⟩ <;> simp_all [Ne, eq_comm]
 simp only [wK, seval, zA, m]
 exact ⟨h, by (repeat' first | exact Sub.refl _ | exact Sub.nil _ | assumption | refine Sub.both ?_ ?_ | refine Sub.cons_of (by simp only [subs, n2, n3, m, h1]) ?_ | exact Sub.left _ _ | refine Sub.app (by simp only [subs, n2, n3, m, h1]) ?_ | refine Sub.cons (by simp only [subs, n2, n3, m, h1]) ?_), k⟩
end Go.Proofs.YtjioiemhgbkbfaaGreatDoor
end

section
attribute [local irreducible] Go.Tk.vc Go.Tk.vops Go.Tk.vdr Go.Tk.vop Go.Tk.vfl Go.Tk.HCalls
namespace Go.Proofs.YtjioiemhgbkbfaaGreatDoor
open Go Go.Tk
theorem qEU {h : H} {x y : DCall} {R : Ending -> H -> Prop} (k : R (.returned (.bool (decide (x = y)))) h) : HCalls Tryz.prog 121 #[.agg (zW x).toArray, .agg (zW y).toArray] h R := by
 refine qD lite (args := [.agg (zW x).toArray, .agg (zW y).toArray]) Tryz.func121 ?_
 conv => arg 2; cbv
 simp only [wK, seval, zA]
 refine qC fun j1 h1 => ?_
 simp only [wK, seval, zA]
 refine qC fun j2 h2 => ?_
 have n := wW h2
 simp only [wK, seval, zA, n.1, n.2.1, xP, uI]
 refine zG (fun d => ⟨h, Sub.cons h2 (Sub.cons h1 (Sub.refl h)), kF k (fun e => d (by rw [e]))⟩) fun d0 => ?_
 refine zG (fun d => ⟨h, Sub.cons h2 (Sub.cons h1 (Sub.refl h)), kF k (fun e => d (by rw [e]))⟩) fun d1 => ?_
 refine zG (fun d => ⟨h, Sub.cons h2 (Sub.cons h1 (Sub.refl h)), kF k (fun e => d (by rw [e]))⟩) fun d2 => ?_
 refine zG (fun d => ⟨h, Sub.cons h2 (Sub.cons h1 (Sub.refl h)), kF k (fun e => d (by rw [e]))⟩) fun d3 => ?_
 refine zG (fun d => ⟨h, Sub.cons h2 (Sub.cons h1 (Sub.refl h)), kF k (fun e => d (by rw [e]))⟩) fun d4 => ?_
 refine zG (fun d => ⟨h, Sub.cons h2 (Sub.cons h1 (Sub.refl h)), kF k (fun e => d (by rw [e]))⟩) fun d5 => ?_
 refine ⟨h, Sub.cons h2 (Sub.cons h1 (Sub.refl h)), kT k ?_⟩
 cases x; cases y; simp_all
end Go.Proofs.YtjioiemhgbkbfaaGreatDoor
end

section
attribute [local irreducible] Go.Tk.vc Go.Tk.vops Go.Tk.vdr Go.Tk.vop Go.Tk.vfl Go.Tk.HCalls
namespace Go.Tk
open Go
end Go.Tk
namespace Go.Proofs.YtjioiemhgbkbfaaGreatDoor
open Go Go.Tk
end Go.Proofs.YtjioiemhgbkbfaaGreatDoor
end

section
attribute [local irreducible] Go.Tk.vc Go.Tk.vops Go.Tk.vdr Go.Tk.vop Go.Tk.vfl Go.Tk.HCalls
namespace Go.Tk
open Go
end Go.Tk
namespace Go.Proofs.YtjioiemhgbkbfaaGreatDoor
open Go Go.Tk
end Go.Proofs.YtjioiemhgbkbfaaGreatDoor
end

section
attribute [local irreducible] Go.Tk.vc Go.Tk.vops Go.Tk.vdr Go.Tk.vop Go.Tk.vfl Go.Tk.HCalls
namespace Go.Proofs.YtjioiemhgbkbfaaGreatDoor
open Go Go.Tk
theorem jT {h : H} {a b : Value} {la lb : List Int} (ra : rInts h a la) (rb : rInts h b lb) (ha : la.length <= 1099511627776) {R : Ending -> H -> Prop} (k : R (.returned (.bool (decide (la = lb)))) h) :
  HCalls Tryz.prog 119 #[a, b] h R := by
 refine qD lite (args := [a, b]) Tryz.func119 ?_
 conv => arg 2; cbv
 simp only [wK, seval, ra.len, rb.len]
 split
 ·rename_i c
  have : la ≠ lb := fun e => c (by rw [e])
  simp only [this, decide_false] at k
  exact .of k
 ·rename_i c
  have hl : la.length = lb.length := by omega
  refine qP [5] (fun n vs h' => ∃ i : Nat, vs = [.int .i64 i] /\ h' = h /\ i <= la.length /\ n = la.length - i /\ la.take i = lb.take i) la.length rfl ⟨0, rfl, rfl, by omega, by omega, by simp⟩ ?_
  rintro n f h' ⟨i, hv, rfl, hi, rfl, ht⟩
  simp only [lm4] at hv
  simp only [wK, seval, wr, hv, ra.len, rb.len]
  split
  ·rename_i c1
   refine zC h' (Sub.refl _) ?_
   simp only [wK, seval]
   refine zS (i := i) yM ra rfl (by omega) fun b1 o1 e1 => ?_
   simp only [wK, seval, yR e1]
   refine zS (i := i) yM rb rfl (by omega) fun b2 o2 e2 => ?_
   simp only [wK, seval, yR e2]
   split
   ·rename_i d
    have : la ≠ lb := kP _ _ d
    simp only [this, decide_false] at k
    exact .of k
   ·rename_i d
    simp (disch := omega) only [qK]
    exact ⟨la.length - (i + 1), by omega, h', .refl _, i + 1, by simp, rfl, by omega, rfl, xL _ _ ht (by simpa using d)⟩
  ·rename_i c1
   have := wD (by omega) hl ht
   simp only [this, decide_true] at k
   exact .of k
end Go.Proofs.YtjioiemhgbkbfaaGreatDoor
end
