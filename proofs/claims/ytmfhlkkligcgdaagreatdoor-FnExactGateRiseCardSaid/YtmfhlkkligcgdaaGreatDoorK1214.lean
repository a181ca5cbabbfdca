/- Parts of the proof, put together: A30, A31, A32, A36, D2, P9, P10, P11, D3, D4, P12, P15, P16, P17, C1, C1B, U5, M0, T2I. -/
import Derived.Test.YtmfhlkkligcgdaaGreatDoorK1213
import Derived.Test.YtmfhlkkligcgdaaGreatDoorK125
import Derived.Test.YtmfhlkkligcgdaaGreatDoorK126
import Derived.Test.YtmfhlkkligcgdaaGreatDoorK1212
/- Copies of slices; small rules. -/
section
set_option linter.unusedVariables false
set_option linter.unusedSimpArgs false
set_option maxRecDepth 20000
attribute [local irreducible] Go.Tk.vc Go.Tk.vops Go.Tk.vdr Go.Tk.vop Go.Tk.vfl Go.Tk.HCalls
namespace Go.Tk
open Go
theorem vc1 {v : Value} (h : vone v = true) : vcells v = [v] := by cases v <;> first | rfl | cases h
theorem oLs_nil {α : Type} {e : TypeId} {enc : α → List Value} {sz : Nat} : oLs e enc sz (.slice none 0 0) [] [] := ows.nil _ _

theorem blk_ty {a b : List Value} {t u : TypeId} (h : blk a t = blk b u) : t = u := by unfold blk at h; injection h
theorem flI_at : ∀ {l : List Int} {i : Nat} (h : i < l.length), (fl eI l)[i]? = some (.int .i64 l[i]) := by
  intro l
  induction l with
  | nil => intro i h; cases h
  | cons a l ih =>
    intro i h
    rw [fl_cons]
    cases i with
    | zero => rfl
    | succ i => simpa [eI] using ih (i := i) (by simpa using h)
/-- An element's place, for all steps that ask for it. -/
theorem rd_at {h : H} {v : Value} {n sz i : Nat} {cs : List Value} (r : rdS h sz v n cs) (hi : i < n) :
    ∃ b o, (∀ (kd : IntKind) (f : Value → Prop), idxSK v (.int kd (i : Int)) sz f = f (.pointer (some ⟨b, o, none⟩))) ∧ hread h b o sz = some ((cs.drop (i * sz)).take sz) := by
  obtain ⟨hl, ⟨rfl, h0⟩ | ⟨b, o, cap, rfl, hc, e⟩⟩ := r
  · omega
  · refine ⟨b, o + i * sz, fun kd f => ?_, hread_part e ?_⟩
    · rw [idxSK_eq]
      refine propext ⟨fun x => by simpa using x.2, fun x => ⟨⟨by omega, by omega⟩, by simpa using x⟩⟩
    · rw [← Nat.succ_mul]
      exact Nat.mul_le_mul_right _ (by omega)
theorem rs_at {α : Type} {rel : List Value → α → Prop} {sz : Nat} {h : H} {v : Value} {l : List α} {i : Nat} (r : rRs h rel sz v l) (hi : i < l.length) :
    ∃ b o cs, (∀ (kd : IntKind) (f : Value → Prop), idxSK v (.int kd (i : Int)) sz f = f (.pointer (some ⟨b, o, none⟩))) ∧ hread h b o sz = some cs ∧ rel cs l[i] := by
  obtain ⟨css, r, a⟩ := r
  obtain ⟨b, o, hx, e⟩ := rd_at r hi
  have hl := a.len
  have hi2 : i < css.length := by omega
  rw [flat_at (a.left fun _ _ x => x.1) hi2] at e
  exact ⟨b, o, _, hx, e, (a.at hi2 hi).2⟩
theorem ls_at {α : Type} {enc : α → List Value} {sz : Nat} {h : H} {v : Value} {l : List α} {i : Nat} (he : ∀ a, (enc a).length = sz) (r : rLs h enc sz v l) (hi : i < l.length) :
    ∃ b o, (∀ (kd : IntKind) (f : Value → Prop), idxSK v (.int kd (i : Int)) sz f = f (.pointer (some ⟨b, o, none⟩))) ∧ hread h b o sz = some (enc l[i]) := by
  obtain ⟨b, o, hx, e⟩ := rd_at r hi
  rw [fl_at he hi] at e
  exact ⟨b, o, hx, e⟩
/-- The library's copy of a slice, whatever it holds. -/
def cloneIR (e T : TypeId) (z : List Value) : IR := ⟨(.seq (.ops [.s 2 (.mov (.const (.slice none 0 0)))]) (.seq (.seq (.ops [.v 3 0, .s 4 (.leq false (.t 3) (.const (.slice none 0 0)))]) (.cond (.t 4) (.seq (.ops [.s 2 (.mov (.const (.slice none 0 0)))]) .ret) .skip)) (.seq (.ops [.s 5 (.bslice e z 0 []), .v 6 0, .s 7 (.app T T 0 (.t 5) (.t 6)), .v 2 7]) .ret))), [.tmp 2], 8⟩
theorem clone_s {P : Program} {f : FuncId} {fn : Func} {e T : TypeId} {z : List Value} {sz bytes : Nat} (hf : P.funcs[f]? = some fn) (hi : irOf P fn = some (cloneIR e T z)) (ht : P.underlying T = some (.slice e)) (hI : InfoIs P e sz bytes)
    {h : H} {v : Value} {n : Nat} {cs : List Value} (r : rdS h sz v n cs) (one : cs.all vone = true) (hb : n * bytes ≤ 140737488355328) (hn : n ≤ 140737488355328) {R : Ending → H → Prop}
    (k : ∀ v' g, ows e sz v' n cs g → Dj g h → R (.returned v') (g ++ h)) : HCalls P f #[v] h R := by
  refine HCalls_ir (args := [v]) hf hi ?_
  unfold cloneIR
  have r0 := r
  obtain ⟨hl, ⟨rfl, h0⟩ | ⟨b, o, cap, rfl, hc, e1⟩⟩ := r
  · simp only [walk, lists, acts, mem, plain, seqs, maps, cells, resL, resV, intBin, seval]
    refine .of ?_
    have := k (.slice none 0 0) [] (by
      subst h0
      have : cs = [] := List.eq_nil_of_length_eq_zero (by simpa using hl)
      subst this
      exact ows.nil _ _) (Dj.nil _)
    exact this
  · simp only [walk, lists, acts, mem, plain, seqs, maps, cells, resL, resV, intBin, seval]
    refine newB_intro (o := blk [] e) fun j hj => ?_
    simp only [walk, lists, acts, mem, plain, seqs, maps, cells, resL, resV, intBin, seval]
    obtain ⟨i, z', hi', hz, rfl, rfl, hl'⟩ := hI
    refine app_own (g := [(j, blk [] e)]) (h := h) ht ht rfl hi' hz hl' (Sub.refl _) (Dj.one hj) (ows.blk (j := j) (n := 0) (by simp)) (Src_slice (r0.sub (Sub.cons hj (Sub.refl _)))) one (by simpa using hb) (by simpa using hn) fun v' g' o' d' => ?_
    simp only [walk, lists, acts, mem, plain, seqs, maps, cells, resL, resV, intBin, seval]
    rw [Nat.zero_add, List.nil_append] at o'
    exact .of (k v' g' o' d')
theorem clone_l {α : Type} {P : Program} {f : FuncId} {fn : Func} {e T : TypeId} {z : List Value} {enc : α → List Value} {sz bytes : Nat} (hf : P.funcs[f]? = some fn) (hi : irOf P fn = some (cloneIR e T z)) (ho : ∀ l, (fl enc l).all vone = true) (ht : P.underlying T = some (.slice e)) (hI : InfoIs P e sz bytes)
    {h : H} {v : Value} {l : List α} (r : rLs h enc sz v l) (hb : l.length * bytes ≤ 140737488355328) (hn : l.length ≤ 140737488355328) {R : Ending → H → Prop}
    (k : ∀ v' g, oLs e enc sz v' l g → Dj g h → R (.returned v') (g ++ h)) : HCalls P f #[v] h R := clone_s hf hi ht hI r (ho l) hb hn k
end Go.Tk
end

/- Steps in any order, over a memory that grows: what each gives. -/
section
set_option linter.unusedVariables false
set_option linter.unusedSimpArgs false
namespace Go.Tk
open Go
def mG : Nat → H → H → Prop := fun _ h g => Sub g h
def aV (w : Value) : H → Value → Prop := fun _ v => v = w
def aMono (q : H → Value → Prop) : Prop := ∀ g g' v, Sub g g' → q g v → q g' v
theorem aMono_V (w : Value) : aMono (aV w) := fun _ _ _ _ h => h
/-- A block of one's own. -/
def aB (rest : H) (o : Obj) : H → Value → Prop := fun g v => ∃ j, v = .pointer (some ⟨j, 0, none⟩) ∧ hget g j = some o ∧ hget rest j = none
theorem aMono_B (rest : H) (o : Obj) : aMono (aB rest o) := fun _ _ _ s ⟨j, a, b, c⟩ => ⟨j, a, s _ _ b, c⟩
/-- A slice of one's own. -/
def aS {α : Type} (rest : H) (e : TypeId) (enc : α → List Value) (sz : Nat) (l : List α) : H → Value → Prop := fun g v => ∃ G, oLs e enc sz v l G ∧ Sub G g ∧ Dj G rest
theorem aMono_S {α : Type} (rest : H) (e : TypeId) (enc : α → List Value) (sz : Nat) (l : List α) : aMono (aS rest e enc sz l) := fun _ _ _ s ⟨G, a, b, c⟩ => ⟨G, a, b.trans s, c⟩
theorem andr : (nds [] = []) ∧ (∀ d g i l, nds (⟨some d, g, i⟩ :: l) = d :: nds l) ∧ (∀ g i l, nds (⟨none, g, i⟩ :: l) = nds l) ∧ (∀ d i l, nds (N.s d i :: l) = d :: nds l) ∧ (∀ i l, nds (N.n i :: l) = nds l) ∧ (∀ d t l, nds (N.v d t :: l) = d :: nds l) :=
  ⟨rfl, fun _ _ _ _ => rfl, fun _ _ _ => rfl, fun _ _ _ => rfl, fun _ _ => rfl, fun _ _ _ => rfl⟩
section
variable {P : Program} {rest : H} {ρ : (Nat → Value) → Operand → Value} {D : H → (Nat → Value) → Prop} {q : H → Value → Prop}
theorem aF_mov {x : Operand} (k : ∀ f g, Sub rest g → D g f → q g (ρ f x)) : stA P mG q rest ρ D (.mov x) := fun m f h g hm hs hd => ⟨g, hm, Sub.refl _, k f g hs hd⟩
theorem aF_fld {x : Operand} {off : Nat} (k : ∀ f g, Sub rest g → D g f → ∃ b o, ρ f x = .pointer (some ⟨b, o, none⟩) ∧ q g (.pointer (some ⟨b, o + off, none⟩))) : stA P mG q rest ρ D (.fld x off) := fun m f h g hm hs hd => by
  obtain ⟨b, o, e, hq⟩ := k f g hs hd
  show (match ρ f x with | .pointer (some ⟨b, k, none⟩) => _ | _ => _)
  rw [e]
  exact ⟨g, hm, Sub.refl _, hq⟩
theorem aF_load {x : Operand} (k : ∀ f g, Sub rest g → D g f → ∃ b o v, ρ f x = .pointer (some ⟨b, o, none⟩) ∧ hcel g b o = some v ∧ q g v) : stA P mG q rest ρ D (.load x 1 false) := fun m f h g hm hs hd => by
  obtain ⟨b, o, v, e, hc, hq⟩ := k f g hs hd
  show vop _ _ _ _ _ _
  rw [vop_load, e, loadK_eq, hval_f, hcel_sub hm hc]
  exact ⟨g, hm, Sub.refl _, hq⟩
theorem aF_build {z : List Value} {ps : List (Nat × Nat × Operand)} (k : ∀ f g, Sub rest g → D g f → ∃ l, fillL z (ps.map fun p => (p.1, p.2.1, vcells (ρ f p.2.2))) = some l ∧ q g (.agg l.toArray)) : stA P mG q rest ρ D (.build z ps) := fun m f h g hm hs hd => by
  obtain ⟨l, hf, hq⟩ := k f g hs hd
  show vop _ _ _ _ _ _
  unfold vop
  simp only [hf]
  exact ⟨g, hm, Sub.refl _, hq⟩
theorem aF_alloc {e : TypeId} {z : List Value} : stA P mG (aB rest (blk z e)) rest ρ D (.alloc e z) := fun m f h g hm hs hd j hj => by
  have n : hget g j = none := Sub.none' hm hj
  exact ⟨(j, blk z e) :: g, Sub.cons2 hm, Sub.cons n (Sub.refl _), j, rfl, hget_same _ _ _, hs.none' n⟩
end
end Go.Tk
end

/- Rows of structs that hold rows, owned in all depth: by the blocks in which they lie. -/
section
set_option linter.unusedVariables false
set_option linter.unusedSimpArgs false
set_option maxRecDepth 20000
attribute [local irreducible] Go.Tk.vc Go.Tk.vops Go.Tk.vdr Go.Tk.vop Go.Tk.vfl Go.Tk.HCalls
namespace Go.Tk
open Go

/-- Nothing but these blocks has changed. -/
def Ch (S : Nat → Prop) (M M' : H) : Prop := ∀ i, ¬ S i → hget M' i = hget M i
theorem Ch.refl (S : Nat → Prop) (M : H) : Ch S M M := fun _ _ => rfl
theorem Ch.trans {S : Nat → Prop} {M M1 M2 : H} (a : Ch S M M1) (b : Ch S M1 M2) : Ch S M M2 := fun i hi => (b i hi).trans (a i hi)
theorem Ch.mono {S T : Nat → Prop} {M M' : H} (a : Ch S M M') (h : ∀ i, S i → T i) : Ch T M M' := fun i hi => a i fun s => hi (h i s)
theorem Ch.sub {S : Nat → Prop} {M M' g : H} (a : Ch S M M') (s : Sub g M) (d : ∀ i, S i → hget g i = none) : Sub g M' := fun i o e => by
  rw [a i (fun c => by rw [d i c] at e; cases e)]; exact s i o e

/-- The memory without a part. -/
def hdel (M g : H) : H := M.filter fun p => (hget g p.1).isNone
theorem hget_hdel (M g : H) (i : Nat) : hget (hdel M g) i = if (hget g i).isNone = true then hget M i else none := by
  induction M with
  | nil => simp [hdel, hget_nil]
  | cons p t ih =>
    unfold hdel at ih ⊢
    rw [List.filter_cons]
    by_cases c : (hget g p.1).isNone = true
    · rw [if_pos c, hget_cons, hget_cons]
      by_cases e : i = p.1
      · subst e; simp [c]
      · simp only [e, if_false]; exact ih
    · rw [if_neg c, ih, hget_cons]
      by_cases e : i = p.1
      · subst e; simp [c]
      · simp only [e, if_false]
theorem Sub_hdel {g M : H} (s : Sub g M) : Sub (g ++ hdel M g) M := fun i o e => by
  rw [hget_app] at e
  cases hg : hget g i with
  | none => rw [hg, hget_hdel, hg] at e; simpa using e
  | some x => rw [hg] at e; exact s i o (hg.trans (by simpa using e))
theorem Dj_hdel (g M : H) : Dj g (hdel M g) := fun i hi => by
  rw [hget_hdel]
  cases hg : hget g i with
  | none => exact absurd hg hi
  | some x => simp
theorem ows_dom {e e' sz sz' : Nat} {v : Value} {n n' : Nat} {cs cs' : List Value} {g g' : H} (o : ows e sz v n cs g) (o' : ows e' sz' v n' cs' g') (i : Nat) : hget g i ≠ none ↔ hget g' i ≠ none := by
  obtain ⟨_, ⟨rfl, _, rfl⟩ | ⟨j, cap, sp, rfl, _, _, rfl⟩⟩ := o
  · obtain ⟨_, ⟨_, _, rfl⟩ | ⟨j', cap', sp', e', _, _, rfl⟩⟩ := o'
    · exact Iff.rfl
    · cases e'
  · obtain ⟨_, ⟨e', _, _⟩ | ⟨j', cap', sp', e', _, _, rfl⟩⟩ := o'
    · cases e'
    · injection e' with e1 _ _
      injection e1 with e1
      injection e1 with e1 _ _
      subst e1
      simp only [hget_cons, hget_nil]
      split <;> simp

section
variable {α : Type}
/-- A row of plain values, in just these blocks. -/
def dL (e : TypeId) (enc : α → List Value) (sz : Nat) (M : H) (v : Value) (l : List α) (S : Nat → Prop) : Prop := ∃ g, oLs e enc sz v l g ∧ Sub g M ∧ ∀ i, S i ↔ hget g i ≠ none
variable {e : TypeId} {enc : α → List Value} {sz : Nat} {M M' : H} {v : Value} {l l' : List α} {S : Nat → Prop}
theorem dL.rd (d : dL e enc sz M v l S) : rLs M enc sz v l := by obtain ⟨g, o, s, _⟩ := d; exact o.rd.sub s
theorem dL.one (d : dL e enc sz M v l S) : vone v = true := d.rd.one
theorem dL.frame (d : dL e enc sz M v l S) (c : ∀ i, S i → hget M' i = hget M i) : dL e enc sz M' v l S := by
  obtain ⟨g, o, s, hS⟩ := d
  exact ⟨g, o, fun i x hx => by rw [c i ((hS i).2 (by rw [hx]; simp))]; exact s i x hx, hS⟩
theorem dL.in (d : dL e enc sz M v l S) {i : Nat} (h : S i) : hget M i ≠ none := by
  obtain ⟨g, o, s, hS⟩ := d
  intro c
  exact (hS i).1 h (s.none' c)
theorem dL.of {g h : H} (o : oLs e enc sz v l g) (s : Sub g M) : dL e enc sz M v l (fun i => hget g i ≠ none) := ⟨g, o, s, fun _ => Iff.rfl⟩
theorem dL.nil : dL e enc sz M (.slice none 0 0) [] (fun _ => False) := ⟨[], ows.nil _ _, Sub.nil _, fun i => by simp [hget_nil]⟩
theorem dL.iff {T : Nat → Prop} (d : dL e enc sz M v l S) (h : ∀ i, T i ↔ S i) : dL e enc sz M v l T := by
  obtain ⟨g, o, s, hS⟩ := d; exact ⟨g, o, s, fun i => (h i).trans (hS i)⟩
/-- A call that writes into a row of plain values. -/
theorem HCalls_ch {P : Program} {f : FuncId} {args : Array Value} {r : Value} (d : dL e enc sz M v l S)
    (c : ∀ (g h0 : H) (R : Ending → H → Prop), oLs e enc sz v l g → Dj g h0 → (∀ g', oLs e enc sz v l' g' → Dj g' h0 → R (.returned r) (g' ++ h0)) → HCalls P f args (g ++ h0) R)
    {R : Ending → H → Prop} (k : ∀ M', dL e enc sz M' v l' S → Ch S M M' → R (.returned r) M') : HCalls P f args M R := by
  obtain ⟨g, o, s, hS⟩ := d
  refine (c g (hdel M g) R o (Dj_hdel _ _) fun g' o' d' => k _ ⟨g', o', Sub.left _ _, fun i => (hS i).trans (ows_dom o o' i)⟩ fun i hi => ?_).weaken (Sub_hdel s)
  have hg : hget g i = none := Classical.byContradiction fun c => hi ((hS i).2 c)
  have hg' : hget g' i = none := Classical.byContradiction fun c => hi ((hS i).2 ((ows_dom o o' i).2 c))
  rw [hget_app, hg', hget_hdel, hg]; rfl
end

/-! ### An element of a row, in the memory -/
def slot (M : H) (b : Nat) (e : TypeId) (A B c : List Value) : H := hupd M b (blk (A ++ (c ++ B)) e)
section
variable {M : H} {b : Nat} {e : TypeId} {A B c : List Value} {o : Nat}
theorem slot_self (h : hget M b = some (blk (A ++ (c ++ B)) e)) : slot M b e A B c = M := hupd_self _ _ _ h
theorem slot_get {x : Obj} (h : hget M b = some x) : hget (slot M b e A B c) b = some (blk (A ++ (c ++ B)) e) := hget_hupd_same h
theorem slot_ne {x : Nat} (h : x ≠ b) : hget (slot M b e A B c) x = hget M x := hget_hupd_ne h
theorem slot_cel {x : Obj} (h : hget M b = some x) (hA : A.length = o) {j : Nat} {y : Value} (hy : c[j]? = some y) : hcel (slot M b e A B c) b (o + j) = some y := by
  have hj : j < c.length := by
    rcases Nat.lt_or_ge j c.length with q | q
    · exact q
    · rw [List.getElem?_eq_none q] at hy; cases hy
  unfold hcel
  rw [slot_get h]
  show ((A ++ (c ++ B)).toArray)[o + j]? = some y
  rw [List.getElem?_toArray, ← hA, List.getElem?_append_right (by omega), Nat.add_sub_cancel_left, List.getElem?_append_left hj]
  exact hy
theorem slot_wr {x : Obj} (h : hget M b = some x) (hA : A.length = o) {j : Nat} {vs : List Value} (hj : j + vs.length ≤ c.length) : hwrite (slot M b e A B c) b (o + j) vs = some (slot M b e A B (splice c j vs)) := by
  unfold hwrite
  rw [slot_get h]
  simp only [Option.bind_some, wrObj_blk]
  rw [if_pos (by simp only [List.length_append]; omega)]
  simp only [Option.map_some, Option.some.injEq, slot, hupd_hupd]
  rw [← hA, splice_right, splice_left _ _ _ _ hj]
end

/-! ### Rows of structs that hold rows -/
structure dRb {α : Type} (e : TypeId) (W : H → List Value → α → (Nat → Prop) → Prop) (sz : Nat) (M : H) (l : List α) (S : Nat → Prop) (b : Nat) (css : List (List Value)) (sp : List Value) (Ss : Nat → Nat → Prop) : Prop where
  get : hget M b = some (blk (css.flatten ++ sp) e)
  len : css.length = l.length
  sz : ∀ c ∈ css, c.length = sz
  el : ∀ i (h1 : i < css.length) (h2 : i < l.length), W M css[i] l[i] (Ss i)
  nb : ∀ i, i < l.length → ¬ Ss i b
  dj : ∀ i j, i < l.length → j < l.length → i ≠ j → ∀ x, Ss i x → ¬ Ss j x
  dom : ∀ x, S x ↔ x = b ∨ ∃ i, i < l.length ∧ Ss i x
def dR {α : Type} (e : TypeId) (W : H → List Value → α → (Nat → Prop) → Prop) (sz : Nat) (M : H) (v : Value) (l : List α) (S : Nat → Prop) : Prop :=
  (v = .slice none 0 0 ∧ l = [] ∧ ∀ i, ¬ S i) ∨ ∃ b cap css sp Ss, v = .slice (some ⟨b, 0, none⟩) l.length cap ∧ l.length ≤ cap ∧ (css.flatten ++ sp).length = cap * sz ∧ dRb e W sz M l S b css sp Ss

/-- What a struct's reading hangs on. -/
def dFr {α : Type} (W : H → List Value → α → (Nat → Prop) → Prop) : Prop := ∀ M M' cs a S, (∀ x, S x → hget M' x = hget M x) → W M cs a S → W M' cs a S
section
variable {α : Type} {e : TypeId} {W : H → List Value → α → (Nat → Prop) → Prop} {sz : Nat} {M M' : H} {v : Value} {l : List α} {S : Nat → Prop} {b : Nat} {css : List (List Value)} {sp : List Value} {Ss : Nat → Nat → Prop}
theorem dRb.frame (hW : dFr W) (d : dRb e W sz M l S b css sp Ss) (c : ∀ i, S i → hget M' i = hget M i) : dRb e W sz M' l S b css sp Ss where
  get := by rw [c b ((d.dom b).2 (.inl rfl))]; exact d.get
  len := d.len
  sz := d.sz
  el := fun i h1 h2 => hW _ _ _ _ _ (fun x hx => c x ((d.dom x).2 (.inr ⟨i, h2, hx⟩))) (d.el i h1 h2)
  nb := d.nb
  dj := d.dj
  dom := d.dom
theorem dR.frame (hW : dFr W) (d : dR e W sz M v l S) (c : ∀ i, S i → hget M' i = hget M i) : dR e W sz M' v l S := by
  rcases d with d | ⟨b, cap, css, sp, Ss, h1, h2, h3, d⟩
  · exact .inl d
  · exact .inr ⟨b, cap, css, sp, Ss, h1, h2, h3, d.frame hW c⟩
theorem dR.nil : dR e W sz M (.slice none 0 0) [] (fun _ => False) := .inl ⟨rfl, rfl, fun _ h => h⟩
theorem dR.rd {rel : H → List Value → α → Prop} (hr : ∀ M cs a S, W M cs a S → rel M cs a) (d : dR e W sz M v l S) : rRs M (rel M) sz v l := by
  rcases d with ⟨rfl, rfl, _⟩ | ⟨b, cap, css, sp, Ss, rfl, h2, h3, d⟩
  · exact rRs.nil
  · have hf := flat_len d.sz
    refine ⟨css, ⟨by rw [hf, d.len], .inr ⟨b, 0, cap, rfl, h2, ?_⟩⟩, ?_⟩
    · unfold hread
      rw [d.get]
      simp only [Option.bind_some, rdObj_blk]
      rw [if_pos (by rw [List.length_append, hf, d.len]; omega)]
      simp only [List.drop_zero]
      rw [← d.len, ← hf, List.take_left']
      rfl
    · have key : ∀ (css : List (List Value)) (l : List α) (h : css.length = l.length), (∀ i (h1 : i < css.length) (h2 : i < l.length), css[i].length = sz ∧ rel M css[i] l[i]) → All2 (fun c a => c.length = sz ∧ rel M c a) css l := by
        intro css
        induction css with
        | nil => intro l h _; cases l with
          | nil => exact .nil
          | cons => cases h
        | cons c css ih =>
          intro l h x
          cases l with
          | nil => cases h
          | cons a l => exact .cons (x 0 (by simp) (by simp)) (ih l (by simpa using h) fun i h1 h2 => x (i + 1) (by simpa using h1) (by simpa using h2))
      exact key css l d.len fun i h1 h2 => ⟨d.sz _ (List.getElem_mem h1), hr _ _ _ _ (d.el i h1 h2)⟩
theorem dR.one (d : dR e W sz M v l S) : vone v = true := by
  rcases d with ⟨rfl, _⟩ | ⟨b, cap, css, sp, Ss, rfl, _⟩ <;> rfl
theorem dR.in (hi : ∀ M cs a S i, W M cs a S → S i → hget M i ≠ none) (d : dR e W sz M v l S) {i : Nat} (h : S i) : hget M i ≠ none := by
  rcases d with ⟨rfl, rfl, n⟩ | ⟨b, cap, css, sp, Ss, rfl, h2, h3, d⟩
  · exact absurd h (n i)
  · rcases (d.dom i).1 h with rfl | ⟨j, hj, hs⟩
    · rw [d.get]; simp
    · exact hi _ _ _ _ _ (d.el j (by rw [d.len]; exact hj) hj) hs
theorem dR.iff {T : Nat → Prop} (d : dR e W sz M v l S) (h : ∀ i, T i ↔ S i) : dR e W sz M v l T := by
  rcases d with ⟨rfl, rfl, n⟩ | ⟨b, cap, css, sp, Ss, rfl, h2, h3, d⟩
  · exact .inl ⟨rfl, rfl, fun i x => n i ((h i).1 x)⟩
  · exact .inr ⟨b, cap, css, sp, Ss, rfl, h2, h3, ⟨d.get, d.len, d.sz, d.el, d.nb, d.dj, fun x => (h x).trans (d.dom x)⟩⟩
/-- Where an element stands. -/
theorem dRb.split (d : dRb e W sz M l S b css sp Ss) {i : Nat} (hi : i < l.length) : ∃ A B, css.flatten ++ sp = A ++ ((css[i]'(by rw [d.len]; exact hi)) ++ B) ∧ A.length = i * sz ∧ ∀ c', c'.length = sz → (css.set i c').flatten ++ sp = A ++ (c' ++ B) := by
  have hi2 : i < css.length := by rw [d.len]; exact hi
  refine ⟨(css.take i).flatten, (css.drop (i + 1)).flatten ++ sp, ?_, ?_, fun c' hc => ?_⟩
  · have h0 : css = css.take i ++ (css[i] :: css.drop (i + 1)) := by rw [← List.drop_eq_getElem_cons hi2, List.take_append_drop]
    have : css.flatten = (css.take i).flatten ++ (css[i] ++ (css.drop (i + 1)).flatten) := by
      conv => lhs; rw [h0]
      rw [List.flatten_append, List.flatten_cons]
    rw [this]; simp only [List.append_assoc]
  · rw [flat_len fun c hc => d.sz c (List.mem_of_mem_take hc), List.length_take]
    congr 1; omega
  · rw [List.set_eq_take_append_cons_drop, if_pos hi2, List.flatten_append, List.flatten_cons]; simp only [List.append_assoc]
/-- An element is another one now. -/
theorem dRb.step (hW : dFr W) (d : dRb e W sz M l S b css sp Ss) {i : Nat} (hi : i < l.length) {c' : List Value} {a' : α} (hc : c'.length = sz) (hg : hget M' b = some (blk ((css.set i c').flatten ++ sp) e)) (hw : W M' c' a' (Ss i))
    (ch : ∀ x, x ≠ b → ¬ Ss i x → hget M' x = hget M x) : dRb e W sz M' (l.set i a') S b (css.set i c') sp Ss where
  get := hg
  len := by rw [List.length_set, List.length_set]; exact d.len
  sz := fun c hm => by
    rcases List.mem_or_eq_of_mem_set hm with hm | rfl
    · exact d.sz c hm
    · exact hc
  el := fun j h1 h2 => by
    rw [List.length_set] at h1 h2
    by_cases e : i = j
    · subst e
      simp only [List.getElem_set_self]; exact hw
    · simp only [List.getElem_set_ne e]
      refine hW _ _ _ _ _ (fun x hx => ch x (fun c => d.nb j h2 (c ▸ hx)) fun c => d.dj i j hi h2 e x c hx) (d.el j h1 h2)
  nb := fun j hj => d.nb j (by simpa using hj)
  dj := fun j k hj hk => d.dj j k (by simpa using hj) (by simpa using hk)
  dom := fun x => by rw [List.length_set]; exact d.dom x
end
/-- Two sets of blocks, apart. -/
def sU (S S1 S2 : Nat → Prop) : Prop := (∀ i, S1 i → ¬ S2 i) ∧ ∀ i, S i ↔ S1 i ∨ S2 i
theorem idx_top {v : Value} {b n cap sz i : Nat} (hv : v = .slice (some ⟨b, 0, none⟩) n cap) (hi : i < n) (kd : IntKind) (f : Value → Prop) : idxSK v (.int kd (i : Int)) sz f = f (.pointer (some ⟨b, i * sz, none⟩)) := by
  subst hv
  rw [idxSK_eq, Nat.zero_add, Int.toNat_natCast]
  exact propext ⟨fun x => x.2, fun x => ⟨⟨by omega, by omega⟩, x⟩⟩
theorem cel_at {M : H} {b : Nat} {e : TypeId} {A B c : List Value} {o : Nat} (h : hget M b = some (blk (A ++ (c ++ B)) e)) (hA : A.length = o) {j : Nat} {y : Value} (hy : c[j]? = some y) : hcel M b (o + j) = some y := by
  rw [← slot_self h]; exact slot_cel h hA hy
/-- An element's own blocks are new ones. -/
theorem dRb.grow {α : Type} {e : TypeId} {W : H → List Value → α → (Nat → Prop) → Prop} {sz : Nat} {M M' : H} {l : List α} {S : Nat → Prop} {b : Nat} {css : List (List Value)} {sp : List Value} {Ss : Nat → Nat → Prop} (hW : dFr W) (d : dRb e W sz M l S b css sp Ss)
    {i : Nat} (hi : i < l.length) {c' : List Value} {a' : α} {T : Nat → Prop} (hc : c'.length = sz) (hg : hget M' b = some (blk ((css.set i c').flatten ++ sp) e)) (hw : W M' c' a' T) (hT : ∀ x, T x → ¬ S x) (ch : ∀ x, S x → x ≠ b → hget M' x = hget M x) :
    dRb e W sz M' (l.set i a') (fun x => x = b ∨ ∃ j, j < (l.set i a').length ∧ (if j = i then T else Ss j) x) b (css.set i c') sp (fun j => if j = i then T else Ss j) where
  get := hg
  len := by rw [List.length_set, List.length_set]; exact d.len
  sz := fun c hm => by
    rcases List.mem_or_eq_of_mem_set hm with hm | rfl
    · exact d.sz c hm
    · exact hc
  el := fun j h1 h2 => by
    rw [List.length_set] at h1 h2
    by_cases e : j = i
    · subst e
      simp only [List.getElem_set_self, if_true]; exact hw
    · simp only [List.getElem_set_ne (Ne.symm e), if_neg e]
      exact hW _ _ _ _ _ (fun x hx => ch x ((d.dom x).2 (.inr ⟨j, h2, hx⟩)) (fun c => d.nb j h2 (c ▸ hx))) (d.el j h1 h2)
  nb := fun j hj hx => by
    rw [List.length_set] at hj
    by_cases e : j = i
    · rw [if_pos e] at hx; exact hT b hx ((d.dom b).2 (.inl rfl))
    · rw [if_neg e] at hx; exact d.nb j hj hx
  dj := fun j k hj hk hjk x hx hy => by
    rw [List.length_set] at hj hk
    by_cases e : j = i
    · rw [if_pos e] at hx
      rw [if_neg (fun c => hjk (e.trans c.symm))] at hy
      exact hT x hx ((d.dom x).2 (.inr ⟨k, hk, hy⟩))
    · rw [if_neg e] at hx
      by_cases e2 : k = i
      · rw [if_pos e2] at hy; exact hT x hy ((d.dom x).2 (.inr ⟨j, hj, hx⟩))
      · rw [if_neg e2] at hy; exact d.dj j k hj hk hjk x hx hy
  dom := fun x => Iff.rfl
theorem hcel_of {M : H} {b : Nat} {cs : List Value} {e : TypeId} {j : Nat} {y : Value} (h : hget M b = some (blk cs e)) (hy : cs[j]? = some y) : hcel M b j = some y := by
  unfold hcel; rw [h]; show (cs.toArray)[j]? = some y; simpa using hy
theorem hread_of {M : H} {b n : Nat} {cs : List Value} {e : TypeId} (h : hget M b = some (blk cs e)) (hn : cs.length = n) : hread M b 0 n = some cs := by
  unfold hread; rw [h]; simp only [Option.bind_some, rdObj_blk]; rw [if_pos (by omega), List.drop_zero, ← hn, List.take_length]
theorem hwrite_of {M : H} {b : Nat} {cs : List Value} {e : TypeId} {j : Nat} {vs : List Value} (h : hget M b = some (blk cs e)) (hj : j + vs.length ≤ cs.length) : hwrite M b j vs = some (hupd M b (blk (splice cs j vs) e)) := by
  unfold hwrite; rw [h]; simp only [Option.bind_some, wrObj_blk]; rw [if_pos hj]; rfl
theorem Sub.eq {g h : H} (s : Tk.Sub g h) {x : Nat} (q : hget g x ≠ none) : hget h x = hget g x := by
  cases e : hget g x with
  | none => exact absurd e q
  | some o => exact s x o e
theorem splice_all {x y : List Value} (h : y.length = x.length) : splice y 0 x = x := by
  rw [splice_eq _ _ _ (by omega), List.take_zero, List.nil_append, Nat.zero_add, List.drop_of_length_le (by omega), List.append_nil]
/-- A box of one's own is given up. -/
theorem Ch.unbox {S : Nat → Prop} {M N N' : H} {j : Nat} {o : Obj} (hN : N = (j, o) :: M) (hj : hget M j = none) (c : Ch S N N') (hS : ¬ S j) : ∃ N3, Tk.Sub N3 N' ∧ Ch S M N3 ∧ ∀ x, S x → hget N3 x = hget N' x := by
  have g3 : ∀ x, x ≠ j → hget (hdel N' [(j, o)]) x = hget N' x := fun x e => by
    rw [hget_hdel, if_pos]; simp [hget_cons, hget_nil, e]
  have g3j : hget (hdel N' [(j, o)]) j = none := by rw [hget_hdel, if_neg]; simp [hget_cons]
  refine ⟨hdel N' [(j, o)], fun x y e => ?_, fun x q => ?_, fun x q => g3 x fun e => hS (e ▸ q)⟩
  · by_cases d : x = j
    · subst d; rw [g3j] at e; cases e
    · rw [← g3 x d]; exact e
  · by_cases d : x = j
    · subst d; rw [g3j, hj]
    · rw [g3 x d, c x q, hN, hget_cons, if_neg d]
/-- Rows that come in. -/
def rIRs {α : Type} (h : H) (rel : List Value → α → Prop) (sz : Nat) (v : Value) (l : List α) : Prop := rRs h rel sz v l ∨ (l = [] ∧ ∃ a c, v = .slice a 0 c)
theorem rIRs.len {α : Type} {h : H} {rel : List Value → α → Prop} {sz : Nat} {v : Value} {l : List α} (r : rIRs h rel sz v l) {f : Value → Prop} : lenSK v f = f (.int .i64 l.length) := by
  rcases r with r | ⟨rfl, a, c, rfl⟩
  · exact r.len
  · rfl
theorem rIRs.sub {α : Type} {g h : H} {rel rel' : List Value → α → Prop} {sz : Nat} {v : Value} {l : List α} (s : Tk.Sub g h) (hr : ∀ c a, rel c a → rel' c a) (r : rIRs g rel sz v l) : rIRs h rel' sz v l := r.imp (rRs.sub s hr) id
theorem rIRs.one {α : Type} {h : H} {rel : List Value → α → Prop} {sz : Nat} {v : Value} {l : List α} (r : rIRs h rel sz v l) : vone v = true := by
  rcases r with r | ⟨rfl, a, c, rfl⟩
  · exact r.one
  · rfl
theorem rIRs.at {α : Type} {h : H} {rel : List Value → α → Prop} {sz : Nat} {v : Value} {l : List α} {i : Nat} (r : rIRs h rel sz v l) (hi : i < l.length) :
    ∃ b o cs, (∀ (kd : IntKind) (f : Value → Prop), idxSK v (.int kd (i : Int)) sz f = f (.pointer (some ⟨b, o, none⟩))) ∧ hread h b o sz = some cs ∧ rel cs l[i] := by
  rcases r with r | ⟨rfl, a, c, rfl⟩
  · exact rs_at r hi
  · cases hi
end Go.Tk
end

/- Rows of structs that came in: each as it reads. -/
section
set_option linter.unusedVariables false
set_option linter.unusedSimpArgs false
namespace Go.Tk
open Go
section
variable {X : Type} {enc : TypeId × Value → X} {P : Program} {w : World} {base : Nat} {sp : Nat → Bool} {held : Bool}
theorem slice_rel {α : Type} {rel : List Value → α → Prop} {ok : α → Prop} {t e : TypeId} {fuel sz : Nat} {a : Option Addr} {len cap : Nat} {x : DataW X × List MemPlace} (ht : P.underlying t = some (.slice e)) (hc : P.cellsOf e = sz) (hsz : 0 < sz)
    (h : DataW.trod enc P w base sp held fuel t [.slice a len cap] = some x) (dec : ∀ cs m y, cs.length = sz → DataW.trod enc P w base sp held m e cs = some y → ∃ b : α, rel cs b ∧ ok b) :
    ∃ l : List α, rIRs (full w) rel sz (.slice a len cap) l ∧ l.length ≤ maxLen ∧ ∀ b ∈ l, ok b := by
  obtain ⟨hm, css, hlen, hall, hr⟩ := slice_rows ht hc hsz h
  have key : ∀ css : List (List Value), (∀ cs ∈ css, cs.length = sz ∧ ∃ m y, DataW.trod enc P w base sp held m e cs = some y) → ∃ l : List α, All2 (fun c b => c.length = sz ∧ rel c b) css l ∧ ∀ b ∈ l, ok b := by
    intro css
    induction css with
    | nil => exact fun _ => ⟨[], .nil, fun _ h => absurd h List.not_mem_nil⟩
    | cons c css ih =>
      intro hx
      obtain ⟨l, hl, hl2⟩ := ih fun cs hcs => hx cs (List.mem_cons_of_mem _ hcs)
      obtain ⟨h1, m, y, h2⟩ := hx c List.mem_cons_self
      obtain ⟨b, hb, hb2⟩ := dec c m y h1 h2
      refine ⟨b :: l, .cons ⟨h1, hb⟩ hl, fun b' hb' => ?_⟩
      rcases List.mem_cons.1 hb' with rfl | hb'
      · exact hb2
      · exact hl2 _ hb'
  obtain ⟨l, hl, hl2⟩ := key css hall
  have hll := hl.len
  refine ⟨l, ?_, by omega, hl2⟩
  have hf : css.flatten.length = l.length * sz := by rw [flat_len fun c hc => (hall c hc).1, hll]
  rcases hr with ⟨rfl, rfl, rfl⟩ | rfl | ⟨b, off, rfl, hcap, hread⟩
  · exact .inr ⟨List.length_eq_zero_iff.1 (by omega), _, _, rfl⟩
  · exact .inr ⟨List.length_eq_zero_iff.1 (by omega), _, _, rfl⟩
  · have : len = l.length := by omega
    subst this
    exact .inl ⟨css, ⟨hf, .inr ⟨b, off, cap, rfl, hcap, hread⟩⟩, hl⟩
theorem slice_val {t e : TypeId} {fuel : Nat} {c : Value} {x : DataW X × List MemPlace} (ht : P.underlying t = some (.slice e)) (h : DataW.trod enc P w base sp held fuel t [c] = some x) : ∃ a len cap, c = .slice a len cap := by
  rcases DataW.trod_slice ht h with ⟨h0, _⟩ | ⟨ad, len', cap', elems, rest, n, _, h0, _⟩
  · exact ⟨_, _, _, by simpa using h0⟩
  · exact ⟨_, _, _, by simpa using h0⟩
end
end Go.Tk
end

/- The program's structs as data. -/
section
set_option linter.unusedVariables false
set_option linter.unusedSimpArgs false
set_option maxRecDepth 4000
namespace Go.Tk
open Go

structure DHold where
  stamp : Int
  try_ : Int
  share : Bool
  firm : Bool
deriving DecidableEq
def cHold (d : DHold) : List Value := [.int .i64 d.stamp, .int .i64 d.try_, .bool d.share, .bool d.firm]
structure DLock where
  slot : Int
  held : List DHold
  waits : List DHold
deriving DecidableEq
def cLock (d : DLock) (held' waits' : Value) : List Value := [.int .i64 d.slot, held', waits']
/-- What a lock's slices read. -/
def sLock (h : H) (d : DLock) (held' waits' : Value) : Prop := rLs h cHold 4 held' d.held ∧ rLs h cHold 4 waits' d.waits
def rLock (h : H) (cs : List Value) (d : DLock) : Prop := ∃ held' waits', cs = cLock d held' waits' ∧ sLock h d held' waits'
theorem sLock.sub {g h : H} (s : Sub g h) {d : DLock} {held' waits' : Value} (r : sLock g d held' waits') : sLock h d held' waits' := by
  obtain ⟨u0, u1⟩ := r
  exact ⟨rLs.sub s u0, rLs.sub s u1⟩
theorem rLock.sub {g h : H} (s : Sub g h) {c : List Value} {d : DLock} (r : rLock g c d) : rLock h c d := by
  obtain ⟨held', waits', e, r⟩ := r
  exact ⟨held', waits', e, sLock.sub s r⟩

structure DRec where
  kind : Int
  stamp : Int
  try_ : Int
  what : Int
  slots : List Int
  pairs : List ((Int × Int))
deriving DecidableEq
def cRec (d : DRec) (slots' pairs' : Value) : List Value := [.int .i64 d.kind, .int .i64 d.stamp, .int .i64 d.try_, .int .i64 d.what, slots', pairs']
/-- What a rec's slices read. -/
def sRec (h : H) (d : DRec) (slots' pairs' : Value) : Prop := rLs h eI 1 slots' d.slots ∧ rLs h eP 2 pairs' d.pairs
def rRec (h : H) (cs : List Value) (d : DRec) : Prop := ∃ slots' pairs', cs = cRec d slots' pairs' ∧ sRec h d slots' pairs'
theorem sRec.sub {g h : H} (s : Sub g h) {d : DRec} {slots' pairs' : Value} (r : sRec g d slots' pairs') : sRec h d slots' pairs' := by
  obtain ⟨u0, u1⟩ := r
  exact ⟨rLs.sub s u0, rLs.sub s u1⟩
theorem rRec.sub {g h : H} (s : Sub g h) {c : List Value} {d : DRec} (r : rRec g c d) : rRec h c d := by
  obtain ⟨slots', pairs', e, r⟩ := r
  exact ⟨slots', pairs', e, sRec.sub s r⟩

structure DWork where
  stamp : Int
  try_ : Int
  what : Int
  slots : List Int
deriving DecidableEq
def cWork (d : DWork) (slots' : Value) : List Value := [.int .i64 d.stamp, .int .i64 d.try_, .int .i64 d.what, slots']
/-- What a work's slices read. -/
def sWork (h : H) (d : DWork) (slots' : Value) : Prop := rLs h eI 1 slots' d.slots
def rWork (h : H) (cs : List Value) (d : DWork) : Prop := ∃ slots', cs = cWork d slots' ∧ sWork h d slots'
theorem sWork.sub {g h : H} (s : Sub g h) {d : DWork} {slots' : Value} (r : sWork g d slots') : sWork h d slots' := rLs.sub s r
theorem rWork.sub {g h : H} (s : Sub g h) {c : List Value} {d : DWork} (r : rWork g c d) : rWork h c d := by
  obtain ⟨slots', e, r⟩ := r
  exact ⟨slots', e, sWork.sub s r⟩

structure DHouse where
  id : Int
  up : Bool
  log : List DRec
  forced : Int
  locks : List DLock
  works : List DWork
deriving DecidableEq
def cHouse (d : DHouse) (log' locks' works' : Value) : List Value := [.int .i64 d.id, .bool d.up, log', .int .i64 d.forced, locks', works']
/-- What a house's slices read. -/
def sHouse (h : H) (d : DHouse) (log' locks' works' : Value) : Prop := rRs h (rRec h) 6 log' d.log ∧ rRs h (rLock h) 3 locks' d.locks ∧ rRs h (rWork h) 4 works' d.works
def rHouse (h : H) (cs : List Value) (d : DHouse) : Prop := ∃ log' locks' works', cs = cHouse d log' locks' works' ∧ sHouse h d log' locks' works'
theorem sHouse.sub {g h : H} (s : Sub g h) {d : DHouse} {log' locks' works' : Value} (r : sHouse g d log' locks' works') : sHouse h d log' locks' works' := by
  obtain ⟨u0, u1, u2⟩ := r
  exact ⟨rRs.sub s (fun c d r => rRec.sub s r) u0, rRs.sub s (fun c d r => rLock.sub s r) u1, rRs.sub s (fun c d r => rWork.sub s r) u2⟩
theorem rHouse.sub {g h : H} (s : Sub g h) {c : List Value} {d : DHouse} (r : rHouse g c d) : rHouse h c d := by
  obtain ⟨log', locks', works', e, r⟩ := r
  exact ⟨log', locks', works', e, sHouse.sub s r⟩

end Go.Tk
end

/- Locks, as plain data: what is ok, who is asked, who goes. -/
section
set_option linter.unusedVariables false
set_option linter.unusedSimpArgs false
namespace Go.Tk
open Go

def stampP1 (n : Int) : Prop := inP 1 9999 n
end Go.Tk
end

/- Houses, as plain data: what is ok, what is kept, what is open. -/
section
set_option linter.unusedVariables false
set_option linter.unusedSimpArgs false
namespace Go.Tk
open Go

def slotK (k : Int) : Int := if 0 ≤ k ∧ k ≤ 31 then (k * 8).tdiv 32 else -1
/-! ### Pairs -/
def getP (l : List (Int × Int)) (k : Int) : Int := ((l.find? fun p => decide (p.1 = k)).map (·.2)).getD 0
def putV (l more : List (Int × Int)) (k : Int) : Int := ((more.find? fun p => decide (p.1 = k)).map (·.2)).getD (getP l k)
def putPs (l more : List (Int × Int)) (n : Nat) : List (Int × Int) := (List.range n).filterMap fun (k : Nat) => if putV l more k = 0 then none else some ((k : Int), putV l more k)
open Classical in
noncomputable def pairsPut (l more : List (Int × Int)) : List (Int × Int) := if pairsP l ∧ pairsP more then putPs l more 32 else []
def noSlot (l : List (Int × Int)) (s : Int) : List (Int × Int) := l.filter fun p => !decide (slotK p.1 = s)

/-! ### Logs -/
def promB (s t : Int) (r : DRec) : Bool := decide (r.kind = 1) && decide (r.stamp = s) && decide (r.try_ = t)
def promOf (log : List DRec) (s t : Int) : Option DRec := log.find? (promB s t)
/-! ### What is kept -/
abbrev Kept := Int → Bool
def setK (f : Kept) (s : Int) (b : Bool) : Kept := fun x => if x = s then b else f x
def startK (id : Int) : Kept := fun s => decide (s.tmod 3 = id)
noncomputable def keepStep (log : List DRec) (st : Kept × List (Int × Int)) (r : DRec) : Kept × List (Int × Int) :=
  if r.kind ≠ 2 then st else
  match promOf log r.stamp r.try_ with
  | none => st
  | some p =>
    if p.what = 2 then (setK st.1 (p.slots.headD 0) false, noSlot st.2 (p.slots.headD 0))
    else if p.what = 3 then (setK st.1 (p.slots.headD 0) true, pairsPut (noSlot st.2 (p.slots.headD 0)) r.pairs)
    else (st.1, pairsPut st.2 r.pairs)
noncomputable def keepS (id : Int) (log l : List DRec) : Kept × List (Int × Int) := l.foldl (keepStep log) (startK id, [])
noncomputable def keeps (id : Int) (log : List DRec) : Kept × List (Int × Int) := keepS id log log
/-! ### Works, locks -/
end Go.Tk
end

/- What a house does with a word, as plain data. -/
section
set_option linter.unusedVariables false
set_option linter.unusedSimpArgs false
namespace Go.Tk
open Go

noncomputable section
end
end Go.Tk
end

/- The program's structs as data. -/
section
set_option linter.unusedVariables false
set_option linter.unusedSimpArgs false
set_option maxRecDepth 4000
namespace Go.Tk
open Go

structure DRecord where
  stamp : Int
  try_ : Int
  call : DCall
  code : Int
  vals : List Int
  pairs : List ((Int × Int))
deriving DecidableEq
def cRecord (d : DRecord) (vals' pairs' : Value) : List Value := [.int .i64 d.stamp, .int .i64 d.try_, .int .i64 d.call.session, .int .i64 d.call.number, .int .i64 d.call.kind, .string ⟨(d.call.text).toArray⟩, .int .i64 d.call.slot, .int .i64 d.call.to, .int .i64 d.code, vals', pairs']
def zRecord : DRecord := ⟨0, 0, ⟨0, 0, 0, [], 0, 0⟩, 0, [], []⟩
theorem zRecord_eq : [.int .i64 0, .int .i64 0, .int .i64 0, .int .i64 0, .int .i64 0, str [], .int .i64 0, .int .i64 0, .int .i64 0, .slice none 0 0, .slice none 0 0] = cRecord zRecord (.slice none 0 0) (.slice none 0 0) := rfl
theorem wRecord :
    (∀ (d : DRecord) (vals' pairs' : Value), (cRecord d vals' pairs').length = 11) ∧
    (∀ (d : DRecord) (vals' pairs' : Value), (cRecord d vals' pairs')[0]? = some (.int .i64 d.stamp)) ∧
    (∀ (d : DRecord) (vals' pairs' : Value), (cRecord d vals' pairs')[1]? = some (.int .i64 d.try_)) ∧
    (∀ (d : DRecord) (vals' pairs' : Value), (cRecord d vals' pairs')[2]? = some (.int .i64 d.call.session)) ∧
    (∀ (d : DRecord) (vals' pairs' : Value), (cRecord d vals' pairs')[3]? = some (.int .i64 d.call.number)) ∧
    (∀ (d : DRecord) (vals' pairs' : Value), (cRecord d vals' pairs')[4]? = some (.int .i64 d.call.kind)) ∧
    (∀ (d : DRecord) (vals' pairs' : Value), (cRecord d vals' pairs')[5]? = some (.string ⟨(d.call.text).toArray⟩)) ∧
    (∀ (d : DRecord) (vals' pairs' : Value), (cRecord d vals' pairs')[6]? = some (.int .i64 d.call.slot)) ∧
    (∀ (d : DRecord) (vals' pairs' : Value), (cRecord d vals' pairs')[7]? = some (.int .i64 d.call.to)) ∧
    (∀ (d : DRecord) (vals' pairs' : Value), (cRecord d vals' pairs')[8]? = some (.int .i64 d.code)) ∧
    (∀ (d : DRecord) (vals' pairs' : Value), (cRecord d vals' pairs')[9]? = some (vals')) ∧
    (∀ (d : DRecord) (vals' pairs' : Value), (cRecord d vals' pairs')[10]? = some (pairs')) ∧
    (∀ (d : DRecord) (vals' pairs' : Value), ((cRecord d vals' pairs').drop 0).take 11 = cRecord d vals' pairs') ∧
    (∀ (d : DRecord) (vals' pairs' : Value), (cRecord d vals' pairs').take 11 = cRecord d vals' pairs') ∧
    (∀ (d : DRecord) (vals' pairs' : Value), vone vals' = true → vone pairs' = true → (cRecord d vals' pairs').all vone = true) ∧
    (∀ (d : DRecord) (vals' pairs' : Value) (x : Int), splice (cRecord d vals' pairs') 0 [.int .i64 x] = cRecord { d with stamp := x } vals' pairs') ∧
    (∀ (d : DRecord) (vals' pairs' : Value) (x : Int), splice (cRecord d vals' pairs') 1 [.int .i64 x] = cRecord { d with try_ := x } vals' pairs') ∧
    (∀ (d : DRecord) (vals' pairs' : Value) (x : Int), splice (cRecord d vals' pairs') 2 [.int .i64 x] = cRecord { d with call := { d.call with session := x } } vals' pairs') ∧
    (∀ (d : DRecord) (vals' pairs' : Value) (x : Int), splice (cRecord d vals' pairs') 3 [.int .i64 x] = cRecord { d with call := { d.call with number := x } } vals' pairs') ∧
    (∀ (d : DRecord) (vals' pairs' : Value) (x : Int), splice (cRecord d vals' pairs') 4 [.int .i64 x] = cRecord { d with call := { d.call with kind := x } } vals' pairs') ∧
    (∀ (d : DRecord) (vals' pairs' : Value) (x : List UInt8), splice (cRecord d vals' pairs') 5 [.string ⟨(x).toArray⟩] = cRecord { d with call := { d.call with text := x } } vals' pairs') ∧
    (∀ (d : DRecord) (vals' pairs' : Value) (x : Int), splice (cRecord d vals' pairs') 6 [.int .i64 x] = cRecord { d with call := { d.call with slot := x } } vals' pairs') ∧
    (∀ (d : DRecord) (vals' pairs' : Value) (x : Int), splice (cRecord d vals' pairs') 7 [.int .i64 x] = cRecord { d with call := { d.call with to := x } } vals' pairs') ∧
    (∀ (d : DRecord) (vals' pairs' : Value) (x : Int), splice (cRecord d vals' pairs') 8 [.int .i64 x] = cRecord { d with code := x } vals' pairs') ∧
    (∀ (d : DRecord) (vals' pairs' : Value) (x : Value), splice (cRecord d vals' pairs') 9 [x] = cRecord d x pairs') ∧
    (∀ (d : DRecord) (vals' pairs' : Value) (x : Value), splice (cRecord d vals' pairs') 10 [x] = cRecord d vals' x) ∧
    (∀ (d e : DRecord) (vals' pairs' : Value) (vals'' pairs'' : Value), splice (cRecord d vals' pairs') 0 (cRecord e vals'' pairs'') = cRecord e vals'' pairs'') ∧
    (∀ (d : DRecord) (vals' pairs' : Value), ((cRecord d vals' pairs').drop 2).take 6 = cCall d.call) ∧
    (∀ (d : DRecord) (vals' pairs' : Value) (x : DCall), splice (cRecord d vals' pairs') 2 (cCall x) = cRecord { d with call := x } vals' pairs') :=
  ⟨fun _ _ _ => rfl, fun _ _ _ => rfl, fun _ _ _ => rfl, fun _ _ _ => rfl, fun _ _ _ => rfl, fun _ _ _ => rfl, fun _ _ _ => rfl, fun _ _ _ => rfl, fun _ _ _ => rfl, fun _ _ _ => rfl, fun _ _ _ => rfl, fun _ _ _ => rfl, fun _ _ _ => rfl, fun _ _ _ => rfl, fun _ _ _ h0 h1 => by simp only [cRecord, List.all_cons, List.all_nil, h0, h1]; rfl, fun _ _ _ _ => rfl, fun _ _ _ _ => rfl, fun _ _ _ _ => rfl, fun _ _ _ _ => rfl, fun _ _ _ _ => rfl, fun _ _ _ _ => rfl, fun _ _ _ _ => rfl, fun _ _ _ _ => rfl, fun _ _ _ _ => rfl, fun _ _ _ _ => rfl, fun _ _ _ _ => rfl, fun _ _ _ _ _ _ => rfl, fun _ _ _ => rfl, fun _ _ _ _ => rfl⟩
/-- What a record's slices read. -/
def sRecord (h : H) (d : DRecord) (vals' pairs' : Value) : Prop := rLs h eI 1 vals' d.vals ∧ rLs h eP 2 pairs' d.pairs
def rRecord (h : H) (cs : List Value) (d : DRecord) : Prop := ∃ vals' pairs', cs = cRecord d vals' pairs' ∧ sRecord h d vals' pairs'
theorem sRecord.sub {g h : H} (s : Sub g h) {d : DRecord} {vals' pairs' : Value} (r : sRecord g d vals' pairs') : sRecord h d vals' pairs' := by
  obtain ⟨u0, u1⟩ := r
  exact ⟨rLs.sub s u0, rLs.sub s u1⟩
theorem rRecord.sub {g h : H} (s : Sub g h) {c : List Value} {d : DRecord} (r : rRecord g c d) : rRecord h c d := by
  obtain ⟨vals', pairs', e, r⟩ := r
  exact ⟨vals', pairs', e, sRecord.sub s r⟩

structure DTold where
  house : Int
  pairs : List ((Int × Int))
deriving DecidableEq
def cTold (d : DTold) (pairs' : Value) : List Value := [.int .i64 d.house, pairs']
def zTold : DTold := ⟨0, []⟩
theorem zTold_eq : [.int .i64 0, .slice none 0 0] = cTold zTold (.slice none 0 0) := rfl
theorem wTold :
    (∀ (d : DTold) (pairs' : Value), (cTold d pairs').length = 2) ∧
    (∀ (d : DTold) (pairs' : Value), (cTold d pairs')[0]? = some (.int .i64 d.house)) ∧
    (∀ (d : DTold) (pairs' : Value), (cTold d pairs')[1]? = some (pairs')) ∧
    (∀ (d : DTold) (pairs' : Value), ((cTold d pairs').drop 0).take 2 = cTold d pairs') ∧
    (∀ (d : DTold) (pairs' : Value), (cTold d pairs').take 2 = cTold d pairs') ∧
    (∀ (d : DTold) (pairs' : Value), vone pairs' = true → (cTold d pairs').all vone = true) ∧
    (∀ (d : DTold) (pairs' : Value) (x : Int), splice (cTold d pairs') 0 [.int .i64 x] = cTold { d with house := x } pairs') ∧
    (∀ (d : DTold) (pairs' : Value) (x : Value), splice (cTold d pairs') 1 [x] = cTold d x) ∧
    (∀ (d e : DTold) (pairs' : Value) (pairs'' : Value), splice (cTold d pairs') 0 (cTold e pairs'') = cTold e pairs'') :=
  ⟨fun _ _ => rfl, fun _ _ => rfl, fun _ _ => rfl, fun _ _ => rfl, fun _ _ => rfl, fun _ _ h0 => by simp only [cTold, List.all_cons, List.all_nil, h0]; rfl, fun _ _ _ => rfl, fun _ _ _ => rfl, fun _ _ _ _ => rfl⟩
/-- What a told's slices read. -/
def sTold (h : H) (d : DTold) (pairs' : Value) : Prop := rLs h eP 2 pairs' d.pairs
def rTold (h : H) (cs : List Value) (d : DTold) : Prop := ∃ pairs', cs = cTold d pairs' ∧ sTold h d pairs'
theorem sTold.sub {g h : H} (s : Sub g h) {d : DTold} {pairs' : Value} (r : sTold g d pairs') : sTold h d pairs' := rLs.sub s r
theorem rTold.sub {g h : H} (s : Sub g h) {c : List Value} {d : DTold} (r : rTold g c d) : rTold h c d := by
  obtain ⟨pairs', e, r⟩ := r
  exact ⟨pairs', e, sTold.sub s r⟩

structure DLive where
  stamp : Int
  try_ : Int
  version : Int
  phase : Int
  call : DCall
  locked : List Int
  told : List DTold
deriving DecidableEq
def cLive (d : DLive) (locked' told' : Value) : List Value := [.int .i64 d.stamp, .int .i64 d.try_, .int .i64 d.version, .int .i64 d.phase, .int .i64 d.call.session, .int .i64 d.call.number, .int .i64 d.call.kind, .string ⟨(d.call.text).toArray⟩, .int .i64 d.call.slot, .int .i64 d.call.to, locked', told']
def zLive : DLive := ⟨0, 0, 0, 0, ⟨0, 0, 0, [], 0, 0⟩, [], []⟩
theorem zLive_eq : [.int .i64 0, .int .i64 0, .int .i64 0, .int .i64 0, .int .i64 0, .int .i64 0, .int .i64 0, str [], .int .i64 0, .int .i64 0, .slice none 0 0, .slice none 0 0] = cLive zLive (.slice none 0 0) (.slice none 0 0) := rfl
theorem wLive :
    (∀ (d : DLive) (locked' told' : Value), (cLive d locked' told').length = 12) ∧
    (∀ (d : DLive) (locked' told' : Value), (cLive d locked' told')[0]? = some (.int .i64 d.stamp)) ∧
    (∀ (d : DLive) (locked' told' : Value), (cLive d locked' told')[1]? = some (.int .i64 d.try_)) ∧
    (∀ (d : DLive) (locked' told' : Value), (cLive d locked' told')[2]? = some (.int .i64 d.version)) ∧
    (∀ (d : DLive) (locked' told' : Value), (cLive d locked' told')[3]? = some (.int .i64 d.phase)) ∧
    (∀ (d : DLive) (locked' told' : Value), (cLive d locked' told')[4]? = some (.int .i64 d.call.session)) ∧
    (∀ (d : DLive) (locked' told' : Value), (cLive d locked' told')[5]? = some (.int .i64 d.call.number)) ∧
    (∀ (d : DLive) (locked' told' : Value), (cLive d locked' told')[6]? = some (.int .i64 d.call.kind)) ∧
    (∀ (d : DLive) (locked' told' : Value), (cLive d locked' told')[7]? = some (.string ⟨(d.call.text).toArray⟩)) ∧
    (∀ (d : DLive) (locked' told' : Value), (cLive d locked' told')[8]? = some (.int .i64 d.call.slot)) ∧
    (∀ (d : DLive) (locked' told' : Value), (cLive d locked' told')[9]? = some (.int .i64 d.call.to)) ∧
    (∀ (d : DLive) (locked' told' : Value), (cLive d locked' told')[10]? = some (locked')) ∧
    (∀ (d : DLive) (locked' told' : Value), (cLive d locked' told')[11]? = some (told')) ∧
    (∀ (d : DLive) (locked' told' : Value), ((cLive d locked' told').drop 0).take 12 = cLive d locked' told') ∧
    (∀ (d : DLive) (locked' told' : Value), (cLive d locked' told').take 12 = cLive d locked' told') ∧
    (∀ (d : DLive) (locked' told' : Value), vone locked' = true → vone told' = true → (cLive d locked' told').all vone = true) ∧
    (∀ (d : DLive) (locked' told' : Value) (x : Int), splice (cLive d locked' told') 0 [.int .i64 x] = cLive { d with stamp := x } locked' told') ∧
    (∀ (d : DLive) (locked' told' : Value) (x : Int), splice (cLive d locked' told') 1 [.int .i64 x] = cLive { d with try_ := x } locked' told') ∧
    (∀ (d : DLive) (locked' told' : Value) (x : Int), splice (cLive d locked' told') 2 [.int .i64 x] = cLive { d with version := x } locked' told') ∧
    (∀ (d : DLive) (locked' told' : Value) (x : Int), splice (cLive d locked' told') 3 [.int .i64 x] = cLive { d with phase := x } locked' told') ∧
    (∀ (d : DLive) (locked' told' : Value) (x : Int), splice (cLive d locked' told') 4 [.int .i64 x] = cLive { d with call := { d.call with session := x } } locked' told') ∧
    (∀ (d : DLive) (locked' told' : Value) (x : Int), splice (cLive d locked' told') 5 [.int .i64 x] = cLive { d with call := { d.call with number := x } } locked' told') ∧
    (∀ (d : DLive) (locked' told' : Value) (x : Int), splice (cLive d locked' told') 6 [.int .i64 x] = cLive { d with call := { d.call with kind := x } } locked' told') ∧
    (∀ (d : DLive) (locked' told' : Value) (x : List UInt8), splice (cLive d locked' told') 7 [.string ⟨(x).toArray⟩] = cLive { d with call := { d.call with text := x } } locked' told') ∧
    (∀ (d : DLive) (locked' told' : Value) (x : Int), splice (cLive d locked' told') 8 [.int .i64 x] = cLive { d with call := { d.call with slot := x } } locked' told') ∧
    (∀ (d : DLive) (locked' told' : Value) (x : Int), splice (cLive d locked' told') 9 [.int .i64 x] = cLive { d with call := { d.call with to := x } } locked' told') ∧
    (∀ (d : DLive) (locked' told' : Value) (x : Value), splice (cLive d locked' told') 10 [x] = cLive d x told') ∧
    (∀ (d : DLive) (locked' told' : Value) (x : Value), splice (cLive d locked' told') 11 [x] = cLive d locked' x) ∧
    (∀ (d e : DLive) (locked' told' : Value) (locked'' told'' : Value), splice (cLive d locked' told') 0 (cLive e locked'' told'') = cLive e locked'' told'') ∧
    (∀ (d : DLive) (locked' told' : Value), ((cLive d locked' told').drop 4).take 6 = cCall d.call) ∧
    (∀ (d : DLive) (locked' told' : Value) (x : DCall), splice (cLive d locked' told') 4 (cCall x) = cLive { d with call := x } locked' told') :=
  ⟨fun _ _ _ => rfl, fun _ _ _ => rfl, fun _ _ _ => rfl, fun _ _ _ => rfl, fun _ _ _ => rfl, fun _ _ _ => rfl, fun _ _ _ => rfl, fun _ _ _ => rfl, fun _ _ _ => rfl, fun _ _ _ => rfl, fun _ _ _ => rfl, fun _ _ _ => rfl, fun _ _ _ => rfl, fun _ _ _ => rfl, fun _ _ _ => rfl, fun _ _ _ h0 h1 => by simp only [cLive, List.all_cons, List.all_nil, h0, h1]; rfl, fun _ _ _ _ => rfl, fun _ _ _ _ => rfl, fun _ _ _ _ => rfl, fun _ _ _ _ => rfl, fun _ _ _ _ => rfl, fun _ _ _ _ => rfl, fun _ _ _ _ => rfl, fun _ _ _ _ => rfl, fun _ _ _ _ => rfl, fun _ _ _ _ => rfl, fun _ _ _ _ => rfl, fun _ _ _ _ => rfl, fun _ _ _ _ _ _ => rfl, fun _ _ _ => rfl, fun _ _ _ _ => rfl⟩
/-- What a live's slices read. -/
def sLive (h : H) (d : DLive) (locked' told' : Value) : Prop := rLs h eI 1 locked' d.locked ∧ rRs h (rTold h) 2 told' d.told
def rLive (h : H) (cs : List Value) (d : DLive) : Prop := ∃ locked' told', cs = cLive d locked' told' ∧ sLive h d locked' told'
theorem sLive.sub {g h : H} (s : Sub g h) {d : DLive} {locked' told' : Value} (r : sLive g d locked' told') : sLive h d locked' told' := by
  obtain ⟨u0, u1⟩ := r
  exact ⟨rLs.sub s u0, rRs.sub s (fun c d r => rTold.sub s r) u1⟩
theorem rLive.sub {g h : H} (s : Sub g h) {c : List Value} {d : DLive} (r : rLive g c d) : rLive h c d := by
  obtain ⟨locked', told', e, r⟩ := r
  exact ⟨locked', told', e, sLive.sub s r⟩

structure DWay where
  house : Int
  stamp : Int
deriving DecidableEq
def cWay (d : DWay) : List Value := [.int .i64 d.house, .int .i64 d.stamp]
def zWay : DWay := ⟨0, 0⟩
theorem zWay_eq : [.int .i64 0, .int .i64 0] = cWay zWay := rfl
theorem wWay :
    (∀ (d : DWay), (cWay d).length = 2) ∧
    (∀ (d : DWay), (cWay d)[0]? = some (.int .i64 d.house)) ∧
    (∀ (d : DWay), (cWay d)[1]? = some (.int .i64 d.stamp)) ∧
    (∀ (d : DWay), ((cWay d).drop 0).take 2 = cWay d) ∧
    (∀ (d : DWay), (cWay d).take 2 = cWay d) ∧
    (∀ (d : DWay), (cWay d).all vone = true) ∧
    (∀ (d : DWay) (x : Int), splice (cWay d) 0 [.int .i64 x] = cWay { d with house := x }) ∧
    (∀ (d : DWay) (x : Int), splice (cWay d) 1 [.int .i64 x] = cWay { d with stamp := x }) ∧
    (∀ (d e : DWay), splice (cWay d) 0 (cWay e) = cWay e) :=
  ⟨fun _ => rfl, fun _ => rfl, fun _ => rfl, fun _ => rfl, fun _ => rfl, fun _ => rfl, fun _ _ => rfl, fun _ _ => rfl, fun _ _ => rfl⟩

structure DGate where
  up : Bool
  life : Int
  next : Int
  log : List DRecord
  lives : List DLive
  ways : List DWay
deriving DecidableEq
def cGate (d : DGate) (log' lives' ways' : Value) : List Value := [.bool d.up, .int .i64 d.life, .int .i64 d.next, log', lives', ways']
def zGate : DGate := ⟨false, 0, 0, [], [], []⟩
theorem zGate_eq : [.bool false, .int .i64 0, .int .i64 0, .slice none 0 0, .slice none 0 0, .slice none 0 0] = cGate zGate (.slice none 0 0) (.slice none 0 0) (.slice none 0 0) := rfl
theorem wGate :
    (∀ (d : DGate) (log' lives' ways' : Value), (cGate d log' lives' ways').length = 6) ∧
    (∀ (d : DGate) (log' lives' ways' : Value), (cGate d log' lives' ways')[0]? = some (.bool d.up)) ∧
    (∀ (d : DGate) (log' lives' ways' : Value), (cGate d log' lives' ways')[1]? = some (.int .i64 d.life)) ∧
    (∀ (d : DGate) (log' lives' ways' : Value), (cGate d log' lives' ways')[2]? = some (.int .i64 d.next)) ∧
    (∀ (d : DGate) (log' lives' ways' : Value), (cGate d log' lives' ways')[3]? = some (log')) ∧
    (∀ (d : DGate) (log' lives' ways' : Value), (cGate d log' lives' ways')[4]? = some (lives')) ∧
    (∀ (d : DGate) (log' lives' ways' : Value), (cGate d log' lives' ways')[5]? = some (ways')) ∧
    (∀ (d : DGate) (log' lives' ways' : Value), ((cGate d log' lives' ways').drop 0).take 6 = cGate d log' lives' ways') ∧
    (∀ (d : DGate) (log' lives' ways' : Value), (cGate d log' lives' ways').take 6 = cGate d log' lives' ways') ∧
    (∀ (d : DGate) (log' lives' ways' : Value), vone log' = true → vone lives' = true → vone ways' = true → (cGate d log' lives' ways').all vone = true) ∧
    (∀ (d : DGate) (log' lives' ways' : Value) (x : Bool), splice (cGate d log' lives' ways') 0 [.bool x] = cGate { d with up := x } log' lives' ways') ∧
    (∀ (d : DGate) (log' lives' ways' : Value) (x : Int), splice (cGate d log' lives' ways') 1 [.int .i64 x] = cGate { d with life := x } log' lives' ways') ∧
    (∀ (d : DGate) (log' lives' ways' : Value) (x : Int), splice (cGate d log' lives' ways') 2 [.int .i64 x] = cGate { d with next := x } log' lives' ways') ∧
    (∀ (d : DGate) (log' lives' ways' : Value) (x : Value), splice (cGate d log' lives' ways') 3 [x] = cGate d x lives' ways') ∧
    (∀ (d : DGate) (log' lives' ways' : Value) (x : Value), splice (cGate d log' lives' ways') 4 [x] = cGate d log' x ways') ∧
    (∀ (d : DGate) (log' lives' ways' : Value) (x : Value), splice (cGate d log' lives' ways') 5 [x] = cGate d log' lives' x) ∧
    (∀ (d e : DGate) (log' lives' ways' : Value) (log'' lives'' ways'' : Value), splice (cGate d log' lives' ways') 0 (cGate e log'' lives'' ways'') = cGate e log'' lives'' ways'') :=
  ⟨fun _ _ _ _ => rfl, fun _ _ _ _ => rfl, fun _ _ _ _ => rfl, fun _ _ _ _ => rfl, fun _ _ _ _ => rfl, fun _ _ _ _ => rfl, fun _ _ _ _ => rfl, fun _ _ _ _ => rfl, fun _ _ _ _ => rfl, fun _ _ _ _ h0 h1 h2 => by simp only [cGate, List.all_cons, List.all_nil, h0, h1, h2]; rfl, fun _ _ _ _ _ => rfl, fun _ _ _ _ _ => rfl, fun _ _ _ _ _ => rfl, fun _ _ _ _ _ => rfl, fun _ _ _ _ _ => rfl, fun _ _ _ _ _ => rfl, fun _ _ _ _ _ _ _ _ => rfl⟩
/-- What a gate's slices read. -/
def sGate (h : H) (d : DGate) (log' lives' ways' : Value) : Prop := rRs h (rRecord h) 11 log' d.log ∧ rRs h (rLive h) 12 lives' d.lives ∧ rLs h cWay 2 ways' d.ways
def rGate (h : H) (cs : List Value) (d : DGate) : Prop := ∃ log' lives' ways', cs = cGate d log' lives' ways' ∧ sGate h d log' lives' ways'
theorem sGate.sub {g h : H} (s : Sub g h) {d : DGate} {log' lives' ways' : Value} (r : sGate g d log' lives' ways') : sGate h d log' lives' ways' := by
  obtain ⟨u0, u1, u2⟩ := r
  exact ⟨rRs.sub s (fun c d r => rRecord.sub s r) u0, rRs.sub s (fun c d r => rLive.sub s r) u1, rLs.sub s u2⟩
theorem rGate.sub {g h : H} (s : Sub g h) {c : List Value} {d : DGate} (r : rGate g c d) : rGate h c d := by
  obtain ⟨log', lives', ways', e, r⟩ := r
  exact ⟨log', lives', ways', e, sGate.sub s r⟩

end Go.Tk
end

/- The program's structs as data. -/
section
set_option linter.unusedVariables false
set_option linter.unusedSimpArgs false
set_option maxRecDepth 4000
namespace Go.Tk
open Go

structure DMap where
  version : Int
  owners : List Int
deriving DecidableEq
def cMap (d : DMap) (owners' : Value) : List Value := [.int .i64 d.version, owners']
def zMap : DMap := ⟨0, []⟩
theorem zMap_eq : [.int .i64 0, .slice none 0 0] = cMap zMap (.slice none 0 0) := rfl
/-- What a map's slices read. -/
def sMap (h : H) (d : DMap) (owners' : Value) : Prop := rLs h eI 1 owners' d.owners
def rMap (h : H) (cs : List Value) (d : DMap) : Prop := ∃ owners', cs = cMap d owners' ∧ sMap h d owners'
theorem sMap.sub {g h : H} (s : Sub g h) {d : DMap} {owners' : Value} (r : sMap g d owners') : sMap h d owners' := rLs.sub s r
theorem rMap.sub {g h : H} (s : Sub g h) {c : List Value} {d : DMap} (r : rMap g c d) : rMap h c d := by
  obtain ⟨owners', e, r⟩ := r
  exact ⟨owners', e, sMap.sub s r⟩

structure DSaid where
  session : Int
  number : Int
  code : Int
  vals : List Int
deriving DecidableEq
def cSaid (d : DSaid) (vals' : Value) : List Value := [.int .i64 d.session, .int .i64 d.number, .int .i64 d.code, vals']
/-- What a said's slices read. -/
def sSaid (h : H) (d : DSaid) (vals' : Value) : Prop := rLs h eI 1 vals' d.vals
def rSaid (h : H) (cs : List Value) (d : DSaid) : Prop := ∃ vals', cs = cSaid d vals' ∧ sSaid h d vals'
theorem sSaid.sub {g h : H} (s : Sub g h) {d : DSaid} {vals' : Value} (r : sSaid g d vals') : sSaid h d vals' := rLs.sub s r
theorem rSaid.sub {g h : H} (s : Sub g h) {c : List Value} {d : DSaid} (r : rSaid g c d) : rSaid h c d := by
  obtain ⟨vals', e, r⟩ := r
  exact ⟨vals', e, sSaid.sub s r⟩

structure DBooks where
  at_ : Int
  map : DMap
  store : List ((Int × Int))
  said : List DSaid
deriving DecidableEq
def cBooks (d : DBooks) (map_owners' store' said' : Value) : List Value := [.int .i64 d.at_, .int .i64 d.map.version, map_owners', store', said']
/-- What a books's slices read. -/
def sBooks (h : H) (d : DBooks) (map_owners' store' said' : Value) : Prop := rLs h eI 1 map_owners' d.map.owners ∧ rLs h eP 2 store' d.store ∧ rRs h (rSaid h) 4 said' d.said
def rBooks (h : H) (cs : List Value) (d : DBooks) : Prop := ∃ map_owners' store' said', cs = cBooks d map_owners' store' said' ∧ sBooks h d map_owners' store' said'
theorem sBooks.sub {g h : H} (s : Sub g h) {d : DBooks} {map_owners' store' said' : Value} (r : sBooks g d map_owners' store' said') : sBooks h d map_owners' store' said' := by
  obtain ⟨u0, u1, u2⟩ := r
  exact ⟨rLs.sub s u0, rLs.sub s u1, rRs.sub s (fun c d r => rSaid.sub s r) u2⟩
theorem rBooks.sub {g h : H} (s : Sub g h) {c : List Value} {d : DBooks} (r : rBooks g c d) : rBooks h c d := by
  obtain ⟨map_owners', store', said', e, r⟩ := r
  exact ⟨map_owners', store', said', e, sBooks.sub s r⟩

structure DTollCall where
  call : DCall
  begin : Int
  end_ : Int
  over : Bool
  code : Int
  vals : List Int
deriving DecidableEq
def cTollCall (d : DTollCall) (vals' : Value) : List Value := [.int .i64 d.call.session, .int .i64 d.call.number, .int .i64 d.call.kind, .string ⟨(d.call.text).toArray⟩, .int .i64 d.call.slot, .int .i64 d.call.to, .int .i64 d.begin, .int .i64 d.end_, .bool d.over, .int .i64 d.code, vals']
/-- What a tollcall's slices read. -/
def sTollCall (h : H) (d : DTollCall) (vals' : Value) : Prop := rLs h eI 1 vals' d.vals
def rTollCall (h : H) (cs : List Value) (d : DTollCall) : Prop := ∃ vals', cs = cTollCall d vals' ∧ sTollCall h d vals'
theorem sTollCall.sub {g h : H} (s : Sub g h) {d : DTollCall} {vals' : Value} (r : sTollCall g d vals') : sTollCall h d vals' := rLs.sub s r
theorem rTollCall.sub {g h : H} (s : Sub g h) {c : List Value} {d : DTollCall} (r : rTollCall g c d) : rTollCall h c d := by
  obtain ⟨vals', e, r⟩ := r
  exact ⟨vals', e, sTollCall.sub s r⟩

structure DTollWorld where
  time : Int
  gate : DGate
  houses : List DHouse
  radio : List DWord
  calls : List DTollCall
deriving DecidableEq
def cTollWorld (d : DTollWorld) (gate_log' gate_lives' gate_ways' houses' radio' calls' : Value) : List Value := [.int .i64 d.time, .bool d.gate.up, .int .i64 d.gate.life, .int .i64 d.gate.next, gate_log', gate_lives', gate_ways', houses', radio', calls']
/-- What a tollworld's slices read. -/
def sTollWorld (h : H) (d : DTollWorld) (gate_log' gate_lives' gate_ways' houses' radio' calls' : Value) : Prop := rRs h (rRecord h) 11 gate_log' d.gate.log ∧ rRs h (rLive h) 12 gate_lives' d.gate.lives ∧ rLs h cWay 2 gate_ways' d.gate.ways ∧ rRs h (rHouse h) 6 houses' d.houses ∧ rRs h (rWord h) 17 radio' d.radio ∧ rRs h (rTollCall h) 11 calls' d.calls
def rTollWorld (h : H) (cs : List Value) (d : DTollWorld) : Prop := ∃ gate_log' gate_lives' gate_ways' houses' radio' calls', cs = cTollWorld d gate_log' gate_lives' gate_ways' houses' radio' calls' ∧ sTollWorld h d gate_log' gate_lives' gate_ways' houses' radio' calls'
theorem sTollWorld.sub {g h : H} (s : Sub g h) {d : DTollWorld} {gate_log' gate_lives' gate_ways' houses' radio' calls' : Value} (r : sTollWorld g d gate_log' gate_lives' gate_ways' houses' radio' calls') : sTollWorld h d gate_log' gate_lives' gate_ways' houses' radio' calls' := by
  obtain ⟨u0, u1, u2, u3, u4, u5⟩ := r
  exact ⟨rRs.sub s (fun c d r => rRecord.sub s r) u0, rRs.sub s (fun c d r => rLive.sub s r) u1, rLs.sub s u2, rRs.sub s (fun c d r => rHouse.sub s r) u3, rRs.sub s (fun c d r => rWord.sub s r) u4, rRs.sub s (fun c d r => rTollCall.sub s r) u5⟩
theorem rTollWorld.sub {g h : H} (s : Sub g h) {c : List Value} {d : DTollWorld} (r : rTollWorld g c d) : rTollWorld h c d := by
  obtain ⟨gate_log', gate_lives', gate_ways', houses', radio', calls', e, r⟩ := r
  exact ⟨gate_log', gate_lives', gate_ways', houses', radio', calls', e, sTollWorld.sub s r⟩

end Go.Tk
end

/- How great what is under way may be. -/
section
set_option linter.unusedVariables false
set_option linter.unusedSimpArgs false
namespace Go.Tk
open Go

def lim : Nat := 1048576
def bCall (c : DCall) : Prop := c.text.length ≤ lim
structure bWord (w : DWord) : Prop where
  s : w.slots.length ≤ lim
  p : w.pairs.length ≤ lim
  v : w.vals.length ≤ lim
  c : bCall w.call
structure bRecord (r : DRecord) : Prop where
  v : r.vals.length ≤ lim
  p : r.pairs.length ≤ lim
  c : bCall r.call
def bTold (t : DTold) : Prop := t.pairs.length ≤ lim
structure bLive (x : DLive) : Prop where
  l : x.locked.length ≤ lim
  t : x.told.length ≤ lim
  ts : allP bTold x.told
  c : bCall x.call
structure bGate (g : DGate) : Prop where
  log : g.log.length ≤ lim
  recs : allP bRecord g.log
  lives : g.lives.length ≤ lim
  live : allP bLive g.lives
  ways : g.ways.length ≤ lim
theorem bWord.len {w : DWord} (b : bWord w) : w.slots.length ≤ 1099511627776 ∧ w.pairs.length ≤ 1099511627776 ∧ w.vals.length ≤ 1099511627776 := by
  have h1 := b.s; have h2 := b.p; have h3 := b.v
  unfold lim at h1 h2 h3
  omega
end Go.Tk
end

/- Maps and gates, as plain data: what is ok, the calls, the map, a fall, a rise. -/
section
set_option linter.unusedVariables false
set_option linter.unusedSimpArgs false
namespace Go.Tk
open Go

/-! ### Maps -/
/-! ### Gates -/
def lastOf (log : List DRecord) (s : Int) : Option DRecord := log.reverse.find? fun r => decide (r.call.session = s)
/-- May a record come behind a log? -/
def recordP (log : List DRecord) (next : Int) (r : DRecord) : Prop := inP 1 (next - 1) r.stamp ∧ stampP1 r.try_ ∧ callOkP r.call ∧ inP 0 9 r.code ∧ valsP r.vals ∧ pairsP r.pairs ∧
  (∀ x ∈ log, x.stamp ≠ r.stamp) ∧ (∀ x, lastOf log r.call.session = some x → x.call.number < r.call.number)
def glogP (log : List DRecord) (next : Int) : Prop := log.length ≤ 60 ∧ ∀ i (h : i < log.length), recordP (log.take i) next log[i]
def toldP (l : List DTold) : Prop := (∀ t ∈ l, houseP t.house ∧ pairsP t.pairs) ∧ risP (·.house) l
def liveP (x : DLive) (next : Int) : Prop := inP 1 (next - 1) x.stamp ∧ stampP1 x.try_ ∧ inP 1 99 x.version ∧ inP 0 2 x.phase ∧ callOkP x.call ∧ (x.phase < 2 → x.told = []) ∧ (x.phase < 1 → x.locked = []) ∧
  toldP x.told ∧ allP houseP x.locked ∧ risP id x.locked
def usedN (l : List DWay) (h : Int) : Nat := l.countP fun w => decide (w.house = h)
def liveOf (l : List DLive) (s : Int) : Option DLive := l.find? fun x => decide (x.stamp = s)
def wayLt (a b : DWay) : Prop := a.house < b.house ∨ (a.house = b.house ∧ a.stamp < b.stamp)
def waysP (lives : List DLive) (ways : List DWay) : Prop := (∀ w ∈ ways, houseP w.house ∧ (∃ x, liveOf lives w.stamp = some x ∧ x.phase ≠ 0) ∧ usedN ways w.house ≤ 2) ∧ ∀ i (h : i + 1 < ways.length), wayLt (ways[i]'(by omega)) ways[i + 1]
def livesP (g : DGate) : Prop := g.lives.length ≤ 3 ∧ (∀ x ∈ g.lives, liveP x g.next ∧ (∀ r ∈ g.log, r.stamp ≠ x.stamp) ∧ ∀ r, lastOf g.log x.call.session = some r → r.call.number < x.call.number) ∧
  risP (·.stamp) g.lives ∧ ∀ i j (hj : j < g.lives.length) (hi : i < j), (g.lives[i]'(by omega)).call.session ≠ g.lives[j].call.session
def gateOkP (g : DGate) : Prop := inP 1 99 g.life ∧ inP 1 9999 g.next ∧ glogP g.log g.next ∧ livesP g ∧ (g.up = false → g.lives = [] ∧ g.ways = []) ∧ waysP g.lives g.ways
open Classical in
noncomputable def gateRise (g : DGate) : DGate :=
  if gateOkP g then (if g.up = false ∧ g.life < 99 then { g with up := true, life := g.life + 1 } else g) else zGate
end Go.Tk
end

/- What is marked, and counted, in rows of structs that hold rows: as plain data. -/
section
set_option linter.unusedVariables false
set_option linter.unusedSimpArgs false
namespace Go.Tk
open Go

section
variable {α : Type} (mk : Int → α → α) (cnt : α → Nat)
def sumL : List α → Nat
  | [] => 0
  | a :: l => cnt a + sumL l
def mkL : Int → List α → List α
  | _, [] => []
  | k, a :: l => mk k a :: mkL (k + cnt a) l
theorem sumL_app (l m : List α) : sumL cnt (l ++ m) = sumL cnt l + sumL cnt m := by
  induction l with
  | nil => simp [sumL]
  | cons a l ih => simp only [List.cons_append, sumL, ih]; omega
theorem sumL_more {l : List α} {i : Nat} (h : i < l.length) : sumL cnt (l.take (i + 1)) = sumL cnt (l.take i) + cnt l[i] := by
  rw [List.take_succ_eq_append_getElem h, sumL_app]; simp [sumL]
theorem sumL_take (l : List α) (i : Nat) : sumL cnt (l.take i) ≤ sumL cnt l := by
  have := sumL_app cnt (l.take i) (l.drop i)
  rw [List.take_append_drop] at this; omega
theorem sumL_mem {l : List α} {a : α} (h : a ∈ l) : cnt a ≤ sumL cnt l := by
  induction l with
  | nil => cases h
  | cons b l ih =>
    simp only [sumL]
    rcases List.mem_cons.1 h with rfl | h
    · omega
    · have := ih h; omega
theorem sumL_le {f : α → Nat} {l : List α} {c d : Nat} (h : ∀ a ∈ l, cnt a ≤ c + d * f a) : sumL cnt l ≤ c * l.length + d * sumL f l := by
  induction l with
  | nil => simp [sumL]
  | cons a l ih =>
    have h1 := h a List.mem_cons_self
    have h2 := ih fun b hb => h b (List.mem_cons_of_mem _ hb)
    simp only [sumL, List.length_cons, Nat.mul_add, Nat.mul_one]; omega
theorem mkL_len (k : Int) (l : List α) : (mkL mk cnt k l).length = l.length := by
  induction l generalizing k with
  | nil => rfl
  | cons a l ih => simp [mkL, ih]
theorem mkL_at : ∀ (l : List α) (k : Int) (i : Nat) (h : i < (mkL mk cnt k l).length) (h2 : i < l.length), (mkL mk cnt k l)[i] = mk (k + sumL cnt (l.take i)) l[i] := by
  intro l
  induction l with
  | nil => intro k i h h2; cases h2
  | cons a l ih =>
    intro k i h h2
    cases i with
    | zero => simp [mkL, sumL]
    | succ i =>
      simp only [mkL, List.getElem_cons_succ, List.take_succ_cons, sumL]
      rw [ih (k + cnt a) i (by simpa [mkL] using h) (by simpa using h2)]
      congr 1; omega
theorem mkL_app (l m : List α) (k : Int) : mkL mk cnt k (l ++ m) = mkL mk cnt k l ++ mkL mk cnt (k + sumL cnt l) m := by
  induction l generalizing k with
  | nil => simp [mkL, sumL]
  | cons a l ih =>
    simp only [List.cons_append, mkL, ih, sumL]
    congr 3; omega
theorem mkL_set (k : Int) (l : List α) (i : Nat) (h : i < l.length) : (mkL mk cnt k (l.take i) ++ l.drop i).set i (mk (k + sumL cnt (l.take i)) l[i]) = mkL mk cnt k (l.take (i + 1)) ++ l.drop (i + 1) := by
  have hl : (mkL mk cnt k (l.take i)).length = i := by rw [mkL_len, List.length_take]; omega
  rw [List.set_append_right _ _ (by omega), hl, Nat.sub_self, List.drop_eq_getElem_cons h, List.set_cons_zero, List.take_succ_eq_append_getElem h, mkL_app]
  simp [mkL]
theorem mkL_cur (k : Int) (l : List α) (i : Nat) (h : i < l.length) (h2 : i < (mkL mk cnt k (l.take i) ++ l.drop i).length) : (mkL mk cnt k (l.take i) ++ l.drop i)[i] = l[i] := by
  have hl : (mkL mk cnt k (l.take i)).length = i := by rw [mkL_len, List.length_take]; omega
  rw [List.getElem_append_right (by omega)]
  simp [hl]
end
end Go.Tk
end

/- What is marked, and counted, in gates: as plain data. -/
section
set_option linter.unusedVariables false
set_option linter.unusedSimpArgs false
namespace Go.Tk
open Go
def mkRec (mT : Int → List UInt8) (k : Int) (r : DRecord) : DRecord := ⟨k, k + 1, ⟨k + 2, k + 3, k + 4, mT (k + 5), k + 6, k + 7⟩, k + 8, mks (k + 9) r.vals.length, mkp (k + 9 + r.vals.length) r.pairs.length⟩
def cnRec (r : DRecord) : Nat := 9 + r.vals.length + 2 * r.pairs.length
def szRec (r : DRecord) : Nat := r.call.text.length + r.vals.length + r.pairs.length
def mkTold (k : Int) (t : DTold) : DTold := ⟨k, mkp (k + 1) t.pairs.length⟩
def cnTold (t : DTold) : Nat := 1 + 2 * t.pairs.length
def szTold (t : DTold) : Nat := t.pairs.length
def mkLive (mT : Int → List UInt8) (k : Int) (x : DLive) : DLive := ⟨k, k + 1, k + 2, k + 3, ⟨k + 4, k + 5, k + 6, mT (k + 7), k + 8, k + 9⟩, mks (k + 10) x.locked.length, mkL mkTold cnTold (k + 10 + x.locked.length) x.told⟩
def cnLive (x : DLive) : Nat := 10 + x.locked.length + sumL cnTold x.told
def szLive (x : DLive) : Nat := x.call.text.length + x.locked.length + (x.told.length + sumL szTold x.told)
def szGateN (g : DGate) : Nat := (g.log.length + sumL szRec g.log) + (g.lives.length + sumL szLive g.lives) + g.ways.length
end Go.Tk
end

/- What the laws measure, copy and compare: calls. -/
section
set_option linter.unusedVariables false
set_option linter.unusedSimpArgs false
set_option maxRecDepth 20000
attribute [local irreducible] Go.Tk.vc Go.Tk.vops Go.Tk.vdr Go.Tk.vop Go.Tk.vfl Go.Tk.HCalls
namespace Go.Proofs.YtmfhlkkligcgdaaGreatDoor
open Go Go.Tk

theorem toCall_c {h : H} {c : DCall} {R : Ending → H → Prop} (k : R (.returned (.agg (cCall c).toArray)) h) : HCalls Tryz.prog 95 #[.agg (cCall c).toArray] h R := by
  refine HCalls_ir (args := [.agg (cCall c).toArray]) Tryz.func95 ir95 ?_
  have zc := zCall_eq
  simp only [str] at zc
  simp only [walk, lists, acts, mem, plain, seqs, maps, cells, resL, resV, intBin, seval, wCall, str, zc]
  refine newB_intro fun j1 h1 => ?_
  simp only [walk, lists, acts, mem, plain, seqs, maps, cells, resL, resV, intBin, seval, wCall]
  refine newB_intro fun j2 h2 => ?_
  have n2 := h2
  simp only [subs] at n2
  simp only [walk, lists, acts, mem, plain, seqs, maps, cells, resL, resV, intBin, seval, wCall, n2]
  refine newB_intro fun j3 h3 => ?_
  have n3 := h3
  simp only [subs] at n3
  have m : j1 ≠ j2 ∧ j1 ≠ j3 ∧ j2 ≠ j3 ∧ j2 ≠ j1 ∧ j3 ≠ j1 ∧ j3 ≠ j2 := by refine ⟨?_, ?_, ?_, ?_, ?_, ?_⟩ <;> simp_all [Ne, eq_comm]
  simp only [walk, lists, acts, mem, plain, seqs, maps, cells, resL, resV, intBin, seval, wCall, m]
  exact ⟨h, by (repeat' first | exact Sub.refl _ | exact Sub.nil _ | assumption | refine Sub.both ?_ ?_ | refine Sub.cons_of (by simp only [subs, n2, n3, m, h1]) ?_ | exact Sub.left _ _ | refine Sub.app (by simp only [subs, n2, n3, m, h1]) ?_ | refine Sub.cons (by simp only [subs, n2, n3, m, h1]) ?_), k⟩
end Go.Proofs.YtmfhlkkligcgdaaGreatDoor
end

/- What the laws compare: calls. -/
section
set_option linter.unusedVariables false
set_option linter.unusedSimpArgs false
set_option maxRecDepth 20000
attribute [local irreducible] Go.Tk.vc Go.Tk.vops Go.Tk.vdr Go.Tk.vop Go.Tk.vfl Go.Tk.HCalls
namespace Go.Proofs.YtmfhlkkligcgdaaGreatDoor
open Go Go.Tk

theorem eqCall_c {h : H} {x y : DCall} {R : Ending → H → Prop} (k : R (.returned (.bool (decide (x = y)))) h) : HCalls Tryz.prog 36 #[.agg (cCall x).toArray, .agg (cCall y).toArray] h R := by
  refine HCalls_ir (args := [.agg (cCall x).toArray, .agg (cCall y).toArray]) Tryz.func36 ir36 ?_
  simp only [walk, lists, acts, mem, plain, seqs, maps, cells, resL, resV, intBin, seval, wCall]
  refine newB_intro fun j1 h1 => ?_
  simp only [walk, lists, acts, mem, plain, seqs, maps, cells, resL, resV, intBin, seval, wCall]
  refine newB_intro fun j2 h2 => ?_
  have n := fresh h2
  simp only [walk, lists, acts, mem, plain, seqs, maps, cells, resL, resV, intBin, seval, wCall, n.1, n.2.1, strBin, str_inj]
  refine ite_ne (fun d => ⟨h, Sub.cons h2 (Sub.cons h1 (Sub.refl h)), kF k (fun e => d (by rw [e]))⟩) fun d0 => ?_
  refine ite_ne (fun d => ⟨h, Sub.cons h2 (Sub.cons h1 (Sub.refl h)), kF k (fun e => d (by rw [e]))⟩) fun d1 => ?_
  refine ite_ne (fun d => ⟨h, Sub.cons h2 (Sub.cons h1 (Sub.refl h)), kF k (fun e => d (by rw [e]))⟩) fun d2 => ?_
  refine ite_ne (fun d => ⟨h, Sub.cons h2 (Sub.cons h1 (Sub.refl h)), kF k (fun e => d (by rw [e]))⟩) fun d3 => ?_
  refine ite_ne (fun d => ⟨h, Sub.cons h2 (Sub.cons h1 (Sub.refl h)), kF k (fun e => d (by rw [e]))⟩) fun d4 => ?_
  refine ite_ne (fun d => ⟨h, Sub.cons h2 (Sub.cons h1 (Sub.refl h)), kF k (fun e => d (by rw [e]))⟩) fun d5 => ?_
  refine ⟨h, Sub.cons h2 (Sub.cons h1 (Sub.refl h)), kT k ?_⟩
  cases x; cases y; simp_all
end Go.Proofs.YtmfhlkkligcgdaaGreatDoor
end

/- What the laws measure, copy and compare: what happens, in rows. -/
section
set_option linter.unusedVariables false
set_option linter.unusedSimpArgs false
set_option maxRecDepth 20000
attribute [local irreducible] Go.Tk.vc Go.Tk.vops Go.Tk.vdr Go.Tk.vop Go.Tk.vfl Go.Tk.HCalls
namespace Go.Tk
open Go
end Go.Tk
namespace Go.Proofs.YtmfhlkkligcgdaaGreatDoor
open Go Go.Tk

end Go.Proofs.YtmfhlkkligcgdaaGreatDoor
end

/- What the laws mark: texts. -/
section
set_option linter.unusedVariables false
set_option linter.unusedSimpArgs false
set_option maxRecDepth 20000
attribute [local irreducible] Go.Tk.vc Go.Tk.vops Go.Tk.vdr Go.Tk.vop Go.Tk.vfl Go.Tk.HCalls
namespace Go.Tk
open Go
/-- A text that is marked. -/
def mT (k : Int) : List UInt8 := 109 :: decN k.toNat
end Go.Tk
namespace Go.Proofs.YtmfhlkkligcgdaaGreatDoor
open Go Go.Tk

theorem markText_c {k : Int} (hk : 1 ≤ k ∧ k ≤ 1099511627776) {h : H} {R : Ending → H → Prop} (kr : R (.returned (.string ⟨(mT k).toArray⟩)) h) : HCalls Tryz.prog 43 #[.int .i64 k] h R := by
  obtain ⟨K, rfl⟩ : ∃ K : Nat, k = K := ⟨k.toNat, by omega⟩
  refine HCalls_ir (args := [.int .i64 K]) Tryz.func43 ir43 ?_
  have hK := decN_len20 (n := K) (by omega)
  simp only [walk, lists, acts, mem, plain, seqs, maps, cells, resL, resV, intBin, seval, str]
  refine ite_ge (fun c => by omega) fun c => ?_
  refine vc_loopS (g0 := h) [3, 0] (fun n vs h' => ∃ (m : Nat) (s : List UInt8), vs = [.string ⟨s.toArray⟩, .int .i64 m] ∧ h' = h ∧ ((m = 0 ∧ s = decN K) ∨ (1 ≤ m ∧ decN K = decN m ++ s)) ∧ m ≤ K ∧ n = m) K rfl (Sub.refl _)
    ⟨K, [], rfl, rfl, .inr ⟨by omega, by simp⟩, by omega, rfl⟩ ?_
  rintro n f h' ⟨m, s, hv, rfl, hs, hm, rfl⟩
  simp only [List.map_cons, List.map_nil, List.cons.injEq, and_true] at hv
  simp only [walk, lists, acts, mem, plain, seqs, maps, cells, resL, resV, intBin, seval, wr, hv.1, hv.2, str]
  refine ite_pos (fun c1 => ?_) fun c1 => ?_
  · have hn0 : 1 ≤ n := by omega
    have hs := (hs.resolve_left fun x => by omega).2
    have e1 : ((n : Nat) : Int).tdiv 10 = ((n / 10 : Nat) : Int) := rfl
    have e2 : ((n : Nat) : Int).tmod 10 = ((n % 10 : Nat) : Int) := rfl
    have e3 : (48 : Int) + ((n % 10 : Nat) : Int) = ((48 + n % 10 : Nat) : Int) := by omega
    simp (disch := omega) only [walk, lists, acts, mem, plain, seqs, maps, cells, resL, resV, intBin, seval, wrapI, e1, e2, e3, u8_of]
    refine newB_intro (o := blk (fl eB [UInt8.ofNat (48 + n % 10)]) 5) fun j hj => ?_
    have bt := fun f => btos_rd (rB_lit (j := j) (e := 5) (h := h') [UInt8.ofNat (48 + n % 10)]) (f := f)
    simp only [List.length_cons, List.length_nil, Nat.zero_add] at bt
    have hsl : s.length ≤ 20 := by have := congrArg List.length hs; rw [List.length_append] at this; omega
    have hsz : [UInt8.ofNat (48 + n % 10)].length + s.length ≤ 9223372036854775807 := by simp only [List.length_cons, List.length_nil]; omega
    simp (disch := omega) only [walk, lists, acts, mem, plain, seqs, maps, cells, resL, resV, intBin, seval, bt, str_add _ _ hsz, wrapI, e1]
    refine ⟨n / 10, by omega, h', Sub.cons hj (Sub.refl _), n / 10, [UInt8.ofNat (48 + n % 10)] ++ s, rfl, rfl, ?_, by omega, rfl⟩
    by_cases c2 : n < 10
    · refine .inl ⟨by omega, ?_⟩
      rw [hs, decN_small c2]
      have : n % 10 = n := by omega
      rw [this]
    · refine .inr ⟨by omega, ?_⟩
      rw [hs, decN_big c2, List.append_assoc]
  · have hs := (hs.resolve_right fun x => by omega).2
    subst hs
    have hsz : ([109] : List UInt8).length + (decN K).length ≤ 9223372036854775807 := by simp only [List.length_cons, List.length_nil]; omega
    simp only [walk, lists, acts, mem, plain, seqs, maps, cells, resL, resV, intBin, seval, str, str_add _ _ hsz]
    exact .of kr
end Go.Proofs.YtmfhlkkligcgdaaGreatDoor
end

/- What the laws compare and mark: slices of numbers, bytes, pairs. -/
section
set_option linter.unusedVariables false
set_option linter.unusedSimpArgs false
set_option maxRecDepth 20000
attribute [local irreducible] Go.Tk.vc Go.Tk.vops Go.Tk.vdr Go.Tk.vop Go.Tk.vfl Go.Tk.HCalls
namespace Go.Proofs.YtmfhlkkligcgdaaGreatDoor
open Go Go.Tk

theorem eqIntS_c {h : H} {a b : Value} {la lb : List Int} (ra : rInts h a la) (rb : rInts h b lb) (ha : la.length ≤ 1099511627776) {R : Ending → H → Prop} (k : R (.returned (.bool (decide (la = lb)))) h) :
    HCalls Tryz.prog 46 #[a, b] h R := by
  refine HCalls_ir (args := [a, b]) Tryz.func46 ir46 ?_
  simp only [walk, lists, acts, mem, plain, seqs, maps, cells, resL, resV, intBin, seval, ra.len, rb.len]
  split
  · rename_i c
    have : la ≠ lb := fun e => c (by rw [e])
    simp only [this, decide_false] at k
    exact .of k
  · rename_i c
    have hl : la.length = lb.length := by omega
    refine vc_loop [5] (fun n vs h' => ∃ i : Nat, vs = [.int .i64 i] ∧ h' = h ∧ i ≤ la.length ∧ n = la.length - i ∧ la.take i = lb.take i) la.length rfl ⟨0, rfl, rfl, by omega, by omega, by simp⟩ ?_
    rintro n f h' ⟨i, hv, rfl, hi, rfl, ht⟩
    simp only [List.map_cons, List.map_nil, List.cons.injEq, and_true] at hv
    simp only [walk, lists, acts, mem, plain, seqs, maps, cells, resL, resV, intBin, seval, wr, hv, ra.len, rb.len]
    split
    · rename_i c1
      refine vc_draw h' (Sub.refl _) ?_
      simp only [walk, lists, acts, mem, plain, seqs, maps, cells, resL, resV, intBin, seval]
      refine idx_leaf (i := i) eI_len ra rfl (by omega) fun b1 o1 e1 => ?_
      simp only [walk, lists, acts, mem, plain, seqs, maps, cells, resL, resV, intBin, seval, hread_1 e1]
      refine idx_leaf (i := i) eI_len rb rfl (by omega) fun b2 o2 e2 => ?_
      simp only [walk, lists, acts, mem, plain, seqs, maps, cells, resL, resV, intBin, seval, hread_1 e2]
      split
      · rename_i d
        have : la ≠ lb := ne_at _ _ d
        simp only [this, decide_false] at k
        exact .of k
      · rename_i d
        simp (disch := omega) only [wrapI]
        exact ⟨la.length - (i + 1), by omega, h', .refl _, i + 1, by simp, rfl, by omega, rfl, take_more _ _ ht (by simpa using d)⟩
    · rename_i c1
      have := take_all (by omega) hl ht
      simp only [this, decide_true] at k
      exact .of k

theorem markIntS_c {e : TypeId} {g h0 : H} {v : Value} {l : List Int} {k : Int} (o : oLs e eI 1 v l g) (dj : Dj g h0) (hl : l.length ≤ 1099511627776) (hk : 0 ≤ k ∧ k ≤ 1099511627776000) {R : Ending → H → Prop}
    (kr : ∀ g', oLs e eI 1 v (mks k l.length) g' → Dj g' h0 → R (.returned (.int .i64 (k + l.length))) (g' ++ h0)) :
    HCalls Tryz.prog 47 #[v, .int .i64 k] (g ++ h0) R := by
  refine HCalls_ir (args := [v, .int .i64 k]) Tryz.func47 ir47 ?_
  simp only [walk, lists, acts, mem, plain, seqs, maps, cells, resL, resV, intBin, seval]
  refine vc_loop [5, 1] (fun n vs h' => ∃ (i : Nat) (g' : H), vs = [.int .i64 i, .int .i64 (k + i)] ∧ h' = g' ++ h0 ∧ Dj g' h0 ∧ oLs e eI 1 v (mks k i ++ l.drop i) g' ∧ i ≤ l.length ∧ n = l.length - i) l.length rfl ⟨0, g, by simp, rfl, dj, by simpa [mks] using o, by omega, rfl⟩ ?_
  rintro n f h' ⟨i, g', hv, rfl, dj', o', hi, rfl⟩
  simp only [List.map_cons, List.map_nil, List.cons.injEq, and_true] at hv
  have hll : (mks k i ++ l.drop i).length = l.length := by simp [mks_len]; omega
  have hlen : ∀ {f : Value → Prop}, lenSK v f = f (.int .i64 l.length) := fun {f} => by rw [← hll]; exact o'.rd.len
  simp only [walk, lists, acts, mem, plain, seqs, maps, cells, resL, resV, intBin, seval, wr, hv.1, hv.2, hlen]
  split
  · rename_i c1
    refine own_idx (i := i) eI_len o' rfl (by omega) fun b cap sp hv' hc hs hg => ?_
    subst hg
    simp only [walk, lists, acts, mem, plain, seqs, maps, cells, resL, resV, intBin, seval]
    refine st_own (i := i) (a' := k + i) (off := 0) eI_len (by omega) (by omega) rfl (by omega) rfl ?_
    simp only [walk, lists, acts, mem, plain, seqs, maps, cells, resL, resV, intBin, seval]
    simp (disch := omega) only [wrapI]
    refine ⟨l.length - (i + 1), by omega, _, .refl _, i + 1, _, ?_, rfl, dj'.sub (.refl _) (.refl _) |> fun d => Dj.one d.one', ?_, by omega, rfl⟩
    · simp; omega
    · rw [← mks_set k l i (by omega)]; exact own_set eI_len hv' hc hs
  · rename_i c1
    have hi' : i = l.length := by omega
    subst hi'
    simp only [List.drop_length, List.append_nil] at o'
    exact .of (kr g' o' dj')

theorem heldIntS_c {h : H} {v : Value} {l : List Int} {k : Int} (r : rInts h v l) (hm : l = mks k l.length) (hl : l.length ≤ 1099511627776) (hk : 0 ≤ k ∧ k ≤ 1099511627776000) {R : Ending → H → Prop}
    (kr : R (.returned (.int .i64 (k + l.length))) h) : HCalls Tryz.prog 48 #[v, .int .i64 k] h R := by
  refine HCalls_ir (args := [v, .int .i64 k]) Tryz.func48 ir48 ?_
  simp only [walk, lists, acts, mem, plain, seqs, maps, cells, resL, resV, intBin, seval]
  refine vc_loop [5, 1] (fun n vs h' => ∃ (i : Nat), vs = [.int .i64 i, .int .i64 (k + i)] ∧ h' = h ∧ i ≤ l.length ∧ n = l.length - i) l.length rfl ⟨0, by simp, rfl, by omega, rfl⟩ ?_
  rintro n f h' ⟨i, hv, rfl, hi, rfl⟩
  simp only [List.map_cons, List.map_nil, List.cons.injEq, and_true] at hv
  simp only [walk, lists, acts, mem, plain, seqs, maps, cells, resL, resV, intBin, seval, wr, hv.1, hv.2, r.len]
  split
  · rename_i c1
    refine idx_leaf (i := i) eI_len r rfl (by omega) fun b1 o1 e1 => ?_
    have hx : l[i]'(by omega) = k + i := by
      have : ∀ (m : List Int) (hi : i < m.length), m = mks k l.length → m[i] = k + i := by rintro m hi rfl; exact mks_at _ _ _ _
      exact this l _ hm
    rw [hx] at e1
    simp only [walk, lists, acts, mem, plain, seqs, maps, cells, resL, resV, intBin, seval, hread_1 e1]
    simp (disch := omega) only [wrapI]
    exact ⟨l.length - (i + 1), by omega, h', .refl _, i + 1, by simp; omega, rfl, by omega, rfl⟩
  · rename_i c1
    have hi' : i = l.length := by omega
    subst hi'
    exact .of kr
end Go.Proofs.YtmfhlkkligcgdaaGreatDoor
end
