/- Parts of the proof, put together: A33, A37, ZB, X1, X3, Q10, ZI. -/
import Derived.Test.YtgbapakcfmgahaaGreatDoorK1314
import Derived.Test.YtgbapakcfmgahaaGreatDoorK1318
import Derived.Test.YtgbapakcfmgahaaGreatDoorK135
import Derived.Test.YtgbapakcfmgahaaGreatDoorK1320
import Derived.Test.YtgbapakcfmgahaaGreatDoorK1312
import Derived.Test.YtgbapakcfmgahaaGreatDoorK136
set_option linter.unusedVariables false
set_option linter.unusedSimpArgs false
set_option linter.defProp false
section
set_option maxRecDepth 20000
attribute [local irreducible] Go.Tk.vc Go.Tk.vops Go.Tk.vdr Go.Tk.vop Go.Tk.vfl Go.Tk.HCalls
namespace Go.Tk
open Go
def eachIR (ti e T : TypeId) (z : List Value) (sz : Nat) : IR := ⟨(.seq (.ops [.s 4 (.mov (.const (.slice none 0 0)))]) (.seq (.ops [.s 5 (.mov (.const (.slice none 0 0)))]) (.seq (.seq (.ops [.v 8 0, .s 9 (.lenS (.t 8)), .s 10 (.mov (.i 0))]) (.block 0 (.loop (.seq (.ops [.s 11 (.bin .lss ti (.t 10) (.t 9))]) (.seq (.cond (.t 11) .skip (.exit 0)) (.seq (.block 1 (.seq (.ops [.s 12 (.idxS (.t 8) (.t 10) sz), .s 13 (.load (.t 12) sz true), .s 7 (.alloc e z), .n (.store (.t 7) (.t 13) sz)]) (.ops [.v 14 5, .v 15 1, .s 16 (.load (.t 7) sz true), .s 17 (.callv (.t 15) [(.t 16)]), .s 18 (.bslice e z 1 [(0, sz, (.t 17))]), .s 19 (.app T T 0 (.t 14) (.t 18)), .v 5 19]))) (.ops [.s 20 (.bin .add ti (.t 10) (.i 1)), .v 10 20]))))))) (.seq (.ops [.v 21 5, .v 4 21]) .ret)))), [.tmp 4], 22⟩
theorem All2.imp' {α β : Type} {r s : α -> β -> Prop} {l : List α} {m : List β} (h : All2 r l m) (f : ∀ a b, b ∈ m -> r a b -> s a b) : All2 s l m := by
 induction h with
 | nil => exact .nil
 | cons x _ ih => exact .cons (f _ _ List.mem_cons_self x) (ih fun a b hb => f a b (List.mem_cons_of_mem _ hb))
theorem oRs.relImp' {α : Type} {sz : Nat} {rel rel' : List Value -> α -> Prop} {e : TypeId} {v : Value} {l : List α} {g : H} (r : oRs e rel sz v l g) (f : ∀ c a, a ∈ l -> rel c a -> rel' c a) : oRs e rel' sz v l g := by
 obtain ⟨css, r, g⟩ := r; exact ⟨css, r, g.imp' fun c a ha x => ⟨x.1, f _ _ ha x.2⟩⟩
theorem dR_of {α : Type} {e : TypeId} {W : H -> List Value -> α -> (Nat -> Prop) -> Prop} {sz : Nat} {M G : H} {v : Value} {l : List α} {ps : List (α × (Nat -> Prop))} (hl : ps.map (·.1) = l) (o : oRs e (fun cs p => W M cs p.1 p.2) sz v ps G) (s : Sub G M)
  (nb : ∀ p ∈ ps, ∀ x, p.2 x -> hget G x = none) (dj : ∀ i j (hi : i < ps.length) (hj : j < ps.length), i ≠ j -> ∀ x, ps[i].2 x -> ¬ ps[j].2 x) :
  dR e W sz M v l (fun x => hget G x ≠ none ∨ ∃ p ∈ ps, p.2 x) := by
 subst hl
 obtain ⟨css, ⟨hcl, h⟩, a⟩ := o
 have hlen := a.len
 rcases h with ⟨rfl, h0, rfl⟩ | ⟨j, cap, sp, rfl, hc, hs, rfl⟩
 ·have : ps = [] := List.eq_nil_of_length_eq_zero h0
  subst this
  refine .inl ⟨rfl, rfl, ?_⟩
  rintro i (x | ⟨p, hp, _⟩)
  ·exact x rfl
  ·cases hp
 ·refine .inr ⟨j, cap, css, sp, fun i => (ps[i]?.map (·.2)).getD (fun _ => False), by rw [List.length_map], by rw [List.length_map]; exact hc, hs, ⟨s _ _ (qL _ _ _), by rw [List.length_map]; exact hlen, fun c hm => ?_, fun i h1 h2 => ?_, fun i hi => ?_, fun i k hi hk hik x => ?_, fun x => ?_⟩⟩
  ·exact (a.left (P := fun c => c.length = sz) fun _ _ q => q.1) c hm
  ·rw [List.length_map] at h2
   simp only [List.getElem?_eq_getElem h2, Option.map_some, Option.getD_some, List.getElem_map]
   exact (a.at h1 h2).2
  ·rw [List.length_map] at hi
   simp only [List.getElem?_eq_getElem hi, Option.map_some, Option.getD_some]
   intro q
   have := nb _ (List.getElem_mem hi) j q
   rw [qL] at this; cases this
  ·rw [List.length_map] at hi hk
   simp only [List.getElem?_eq_getElem hi, List.getElem?_eq_getElem hk, Option.map_some, Option.getD_some]
   exact dj i k hi hk hik x
  ·rw [List.length_map]
   have e1 : hget [(j, blk (css.flatten ++ sp) e)] x ≠ none ↔ x = j := by
    rw [qX, hget_nil]
    split <;> simp_all
   rw [e1]
   constructor
   ·rintro (h | ⟨p, hp, q⟩)
    ·exact .inl h
    ·obtain ⟨i, hi, rfl⟩ := List.getElem_of_mem hp
     exact .inr ⟨i, hi, by simp only [List.getElem?_eq_getElem hi, Option.map_some, Option.getD_some]; exact q⟩
   ·rintro (h | ⟨i, hi, q⟩)
    ·exact .inl h
    ·simp only [List.getElem?_eq_getElem hi, Option.map_some, Option.getD_some] at q
     exact .inr ⟨_, List.getElem_mem hi, q⟩
set_option maxHeartbeats 1000000 in
theorem each_c {α : Type} {P : Program} {f c : FuncId} {fn : Func} {ti e T : TypeId} {z : List Value} {sz bytes : Nat} {rel : H -> List Value -> α -> Prop} {W : H -> List Value -> α -> (Nat -> Prop) -> Prop} {bd : α -> Prop} (hf : P.funcs[f]? = some fn) (hi : irOf P fn = some (eachIR ti e T z sz))
  (hz : z.length = sz) (ht : P.underlying T = some (.slice e)) (hI : InfoIs P e sz bytes) (hW : dFr W) (hin : ∀ M cs a S i, W M cs a S -> S i -> hget M i ≠ none) (hrs : ∀ {g h : H}, Sub g h -> ∀ {cs a}, rel g cs a -> rel h cs a) (hlen : ∀ {h cs a}, rel h cs a -> cs.length = sz) (hone : ∀ {h cs a}, rel h cs a -> cs.all vone = true)
  (hWo : ∀ {M cs a S}, W M cs a S -> cs.all vone = true) (hcall : callOk P c = true)
  (hc : ∀ (h : H) (cs : List Value) (d : α), rel h cs d -> bd d -> ∀ R : Ending -> H -> Prop, (∀ M' cs' S, Sub h M' -> W M' cs' d S -> (∀ x, S x -> hget h x = none) -> cs'.length = sz -> cs'.all vone = true -> R (.returned (.agg cs'.toArray)) M') -> HCalls P c #[.agg cs.toArray] h R)
  {h : H} {v : Value} {l : List α} (r : rRs h (rel h) sz v l) (hl : l.length <= 1048576) (hb : ∀ a ∈ l, bd a) (hby : bytes <= 1048576) {R : Ending -> H -> Prop}
  (k : ∀ M' v' S, Sub h M' -> dR e W sz M' v' l S -> (∀ x, S x -> hget h x = none) -> R (.returned v') M') : HCalls P f #[v, .func (.func c) #[] #[]] h R := by
 refine qB (args := [v, .func (.func c) #[] #[]]) hf hi ?_
 unfold eachIR
 simp only [wk, seval, r.len]
 refine qS [5, 10] (fun n vs h' => ∃ (i : Nat) (v' : Value) (G H1 : H) (ps : List (α × (Nat -> Prop))), vs = [v', .int .i64 i] /\ h' = G ++ H1 /\ Dj G H1 /\ Sub h H1 /\ oRs e (fun cs p => W H1 cs p.1 p.2) sz v' ps G /\ ps.map (·.1) = l.take i /\ (∀ p ∈ ps, ∀ x, p.2 x -> hget h x = none /\ hget H1 x ≠ none) /\
   (∀ i j (hi : i < ps.length) (hj : j < ps.length), i ≠ j -> ∀ x, ps[i].2 x -> ¬ ps[j].2 x) /\ i <= l.length /\ n = l.length - i) l.length rfl ⟨0, _, [], h, [], rfl, rfl, Dj.nil _, Sub.refl _, oRs.nil _ _ _, by simp, fun p hp => (by cases hp), fun i j hi => (by simp at hi), by omega, rfl⟩ ?_
 rintro n f' h' ⟨i, v', G, H1, ps, hv, rfl, dG, s1, o, hmap, hfr, hdj, hi', rfl⟩
 simp only [lm4] at hv
 have sG := Sub.right dG
 simp only [wk, seval, wr, hv.1, hv.2]
 refine qF (fun c1 => ?_) fun c1 => ?_
 ·have hi2 : i < l.length := by omega
  obtain ⟨b, oo, cs, hx, e1, rr⟩ := zU ((r.subH (s1.trans sG)).relImp fun _ _ q => hrs (s1.trans sG) q) hi2
  have hcl := hlen rr
  have hco := hone rr
  simp only [wk, seval, hx, e1]
  refine qA (o := blk z e) fun j7 hj7 => ?_
  have wt : qT ((j7, blk z e) :: (G ++ H1)) j7 0 cs = some ((j7, blk cs e) :: (G ++ H1)) := by
   rw [hwrite_same, if_pos (by omega), splice_all (by omega)]
  have htk : cs.take sz = cs := by rw [<- hcl, List.take_length]
  simp only [wk, seval, hcl, hco, wt, Nat.le_refl, htk]
  have rd7 : qQ ((j7, blk cs e) :: (G ++ H1)) j7 0 sz = some cs := by rw [hread_same, if_pos (by omega), List.drop_zero, <- hcl, List.take_length]
  try simp only [wk, seval, rd7]
  have s7 : Sub (G ++ H1) ((j7, blk cs e) :: (G ++ H1)) := Sub.cons hj7 (Sub.refl _)
  refine ⟨hcall, hc _ cs l[i] (hrs s7 rr) (hb _ (List.getElem_mem hi2)) _ fun M2 cs' S s2 w2 f2 hl2 ho2 => ?_⟩
  have hfill : fillL z [(0, sz, cs')] = some cs' := by
   unfold fillL
   rw [if_pos ⟨hl2, by omega⟩]
   unfold fillL
   rw [splice_all (by omega)]
  have hz0 : zrep z 1 = z := by simp [zrep]
  simp only [wk, seval, hz0, hfill, hl2]
  refine qA (o := blk cs' e) fun j8 hj8 => ?_
  simp only [wk, seval]
  have sA : Sub (G ++ H1) M2 := s7.trans s2
  have sGM : Sub G M2 := (Sub.left G H1).trans sA
  have fr : ∀ x, hget H1 x ≠ none -> hget (hdel M2 G) x = hget H1 x := fun x hx => by
   have hG : hget G x = none := dG.of hx
   have e3 : hget (G ++ H1) x = hget H1 x := by rw [hget_app, hG]; rfl
   rw [hget_hdel, if_pos (by rw [hG]; rfl), Sub.eq sA (by rw [e3]; exact hx), e3]
  have nS : ∀ x, S x -> hget G x = none /\ hget H1 x = none := fun x q => by
   have := s7.none' (f2 x q)
   rw [hget_app] at this
   cases hg : hget G x with
   | none => rw [hg] at this; exact ⟨rfl, by simpa using this⟩
   | some o => rw [hg] at this; simp at this
  have frS : ∀ x, S x -> hget (hdel M2 G) x = hget M2 x := fun x q => by rw [hget_hdel, if_pos (by rw [(nS x q).1]; rfl)]
  have w3 : W (hdel M2 G) cs' l[i] S := hW _ _ _ _ _ frS w2
  have s8 : Sub M2 ((j8, blk cs' e) :: M2) := Sub.cons hj8 (Sub.refl _)
  have hpl : ps.length = i := by have := congrArg List.length hmap; rw [List.length_map, List.length_take] at this; omega
  refine app_rs (bytes := bytes) (g := G) (h := hdel M2 G) (rel := fun cs (p : α × (Nat -> Prop)) => W (hdel M2 G) cs p.1 p.2) (l := ps) (m := [(l[i], S)]) (fun c a q => hWo q) ht hI ((Sub_hdel sGM).trans s8) (Dj_hdel _ _)
   (o.relImp' fun c p hp q => hW _ _ _ _ _ (fun x hx => fr x (hfr p hp x hx).2) q) (rRs_lit (qL _ _ _) hl2 w3) (by
    rw [hpl, List.length_singleton]
    calc (i + 1) * bytes <= 1048576 * 1048576 := Nat.mul_le_mul (by omega) hby
     _ <= 140737488355328 := by omega) (by rw [hpl, List.length_singleton]; omega) fun v2 G2 o2 d2 => ?_
  simp (disch := omega) only [wk, seval, qI]
  refine ⟨l.length - (i + 1), by omega, _, .refl _, i + 1, v2, G2, hdel M2 G, ps ++ [(l[i], S)], by simp, rfl, d2, fun x oo e4 => ?_, o2, ?_, fun p hp x hx => ?_, fun a b ha hb' hab x hx hy => ?_, by omega, rfl⟩
  ·have := s1 x oo e4
   rw [fr x (by rw [this]; simp), this]
  ·rw [List.map_append, hmap, List.take_succ_eq_append_getElem hi2]; rfl
  ·rcases List.mem_append.1 hp with hp | hp
   ·exact ⟨(hfr p hp x hx).1, by rw [fr x (hfr p hp x hx).2]; exact (hfr p hp x hx).2⟩
   ·rw [List.mem_singleton.1 hp] at hx
    have hx : S x := hx
    exact ⟨s1.none' (nS x hx).2, by rw [frS x hx]; exact hin _ _ _ _ _ w2 hx⟩
  ·rw [List.length_append, List.length_singleton] at ha hb'
   have key : ∀ a (ha : a < (ps ++ [(l[i], S)]).length), (ps ++ [(l[i], S)])[a].2 x -> (a < ps.length /\ hget H1 x ≠ none) ∨ (a = ps.length /\ S x) := fun a ha q => by
    by_cases c : a < ps.length
    ·rw [List.getElem_append_left c] at q
     exact .inl ⟨c, (hfr _ (List.getElem_mem c) x q).2⟩
    ·have : a = ps.length := by rw [List.length_append, List.length_singleton] at ha; omega
     subst this
     rw [List.getElem_append_right (Nat.le_refl _)] at q
     simp only [Nat.sub_self, List.getElem_cons_zero] at q
     exact .inr ⟨rfl, q⟩
   rcases key a (by rw [List.length_append, List.length_singleton]; exact ha) hx with ⟨c1', q1⟩ | ⟨c1', q1⟩ <;> rcases key b (by rw [List.length_append, List.length_singleton]; exact hb') hy with ⟨c2', q2⟩ | ⟨c2', q2⟩
   ·rw [List.getElem_append_left c1'] at hx
    rw [List.getElem_append_left c2'] at hy
    exact hdj a b c1' c2' hab x hx hy
   ·exact q1 (nS x q2).2
   ·exact q2 (nS x q1).2
   ·omega
 ·have hi3 : i = l.length := by omega
  subst hi3
  rw [List.take_length] at hmap
  try simp only [wk, seval]
  refine .of (k (G ++ H1) v' _ (s1.trans sG) (dR_of (M := G ++ H1) hmap (o.relImp' fun c p hp q => hW _ _ _ _ _ (fun x hx => Sub.eq sG (hfr p hp x hx).2) q) (Sub.left _ _) (fun p hp x hx => ?_) hdj) ?_)
  ·exact dG.of (hfr p hp x hx).2
  ·rintro x (q | ⟨p, hp, q⟩)
   ·exact s1.none' (dG x q)
   ·exact (hfr p hp x q).1
end Go.Tk
end

section
set_option maxRecDepth 20000
attribute [local irreducible] Go.Tk.vc Go.Tk.vops Go.Tk.vdr Go.Tk.vop Go.Tk.vfl Go.Tk.HCalls
namespace Go.Tk
open Go
theorem app_dR {α : Type} {W : H -> List Value -> α -> (Nat -> Prop) -> Prop} {sz bytes : Nat} (hW : dFr W) (hin : ∀ M cs a S i, W M cs a S -> S i -> hget M i ≠ none) (hWo : ∀ {M cs a S}, W M cs a S -> cs.all vone = true) (hWl : ∀ {M cs a S}, W M cs a S -> cs.length = sz)
  {P : Program} {t ty e : TypeId} {v y : Value} {M : H} {l : List α} {d : α} {cs : List Value} {S T : Nat -> Prop} {K : Value -> H -> Prop} {X : List PanicEntry -> H -> Prop}
  (h1 : P.underlying t = some (.slice e)) (hi : InfoIs P e sz bytes) (D : dR e W sz M v l S) (r : rdS M sz y 1 cs) (w : W M cs d T) (hd : ∀ x, T x -> ¬ S x) (hb : (l.length + 1) * bytes <= 140737488355328) (hn : l.length + 1 <= 140737488355328)
  (k : ∀ M' v' S', dR e W sz M' v' (l ++ [d]) S' -> (∀ x, hget M x ≠ none -> ¬ S x -> hget M' x = hget M x) -> (∀ x, S' x -> S x ∨ T x ∨ hget M x = none) -> K v' M') : appK P t t ty v y M K X := by
 obtain ⟨i, z, hi, hz, rfl, rfl, hl⟩ := hi
 have hcl := hWl w
 have hco := hWo w
 rcases D with ⟨rfl, rfl, hS⟩ | ⟨b, cap, css, sp, Ss, rfl, h2, h3, D⟩
 ·refine app_own (g := []) (h := M) h1 h1 rfl hi hz hl (Sub.refl _) (Dj.nil _) (ows.nil _ _) (Src_slice r) hco (by simpa using hb) (by simp) fun v' g' o' d' => ?_
  obtain ⟨ho1, ⟨_, h0, _⟩ | ⟨j, cap', sp', rfl, hc, hs, rfl⟩⟩ := o'
  ·omega
  ·rw [Nat.zero_add, List.nil_append] at *
   have hj : hget M j = none := d' j (by rw [qL]; simp)
   refine k _ _ (fun x => x = j ∨ T x) (.inr ⟨j, cap', [cs], sp', fun _ => T, rfl, hc, by simpa using hs, ⟨by simp [qL], rfl, fun c hm => by rw [List.mem_singleton.1 hm]; exact hcl, fun n a1 a2 => ?_, fun n _ q => hin _ _ _ _ _ w q hj, fun n m a1 a2 a3 => by simp at a1 a2; omega, fun x => ?_⟩⟩) (fun x q _ => Sub.eq (Sub.right d') q) fun x q => ?_
   ·have : n = 0 := by simpa using a2
    subst this
    exact hW _ _ _ _ _ (fun x q => Sub.eq (Sub.right d') (hin _ _ _ _ _ w q)) w
   ·simp
   ·rcases q with q | q
    ·exact .inr (.inr (q ▸ hj))
    ·exact .inr (.inl q)
 ·have hb0 : hget M b = some (blk (css.flatten ++ sp) e) := D.get
  have hfl := flat_len D.sz
  have hsub : Sub [(b, blk (css.flatten ++ sp) e)] M := fun x o q => by
   rw [qX, hget_nil] at q
   split at q
   ·rename_i c; rw [c, hb0]; exact q
   ·cases q
  refine app_own (g := [(b, blk (css.flatten ++ sp) e)]) (h := hdel M [(b, blk (css.flatten ++ sp) e)]) (cs := css.flatten) (n := l.length) h1 h1 rfl hi hz hl (Sub_hdel hsub) (Dj_hdel _ _) ⟨by rw [hfl, D.len], .inr ⟨b, cap, sp, rfl, h2, h3, rfl⟩⟩ (Src_slice r) hco hb hn fun v' g' o' d' => ?_
  have hh : ∀ x, x ≠ b -> hget (hdel M [(b, blk (css.flatten ++ sp) e)]) x = hget M x := fun x q => by
   rw [hget_hdel, if_pos]; simp [qX, hget_nil, q]
  have hSb : S b := (D.dom b).2 (.inl rfl)
  obtain ⟨ho1, ⟨_, h0, _⟩ | ⟨j, cap', sp', rfl, hc, hs, rfl⟩⟩ := o'
  ·omega
  ·have hj : hget (hdel M [(b, blk (css.flatten ++ sp) e)]) j = none := d' j (by rw [qL]; simp)
   have hj2 : j = b ∨ hget M j = none := by
    by_cases c : j = b
    ·exact .inl c
    ·right; rw [<- hh j c]; exact hj
   have hM : ∀ x, x ≠ b -> hget M x ≠ none -> hget ([(j, blk (css.flatten ++ cs ++ sp') e)] ++ hdel M [(b, blk (css.flatten ++ sp) e)]) x = hget M x := fun x q1 q2 => by
    rw [Sub.eq (Sub.right d') (by rw [hh x q1]; exact q2), hh x q1]
   have hinS : ∀ n, n < l.length -> ∀ x, Ss n x -> x ≠ b /\ x ≠ j /\ hget M x ≠ none := fun n hn2 x q => by
    have q2 := hin _ _ _ _ _ (D.el n (by rw [D.len]; exact hn2) hn2) q
    refine ⟨fun c => D.nb n hn2 (c ▸ q), fun c => ?_, q2⟩
    rcases hj2 with c2 | c2
    ·exact D.nb n hn2 ((c.trans c2) ▸ q)
    ·exact q2 (c ▸ c2)
   have hinT : ∀ x, T x -> x ≠ b /\ x ≠ j /\ hget M x ≠ none := fun x q => by
    have q2 := hin _ _ _ _ _ w q
    refine ⟨fun c => hd x q (c ▸ hSb), fun c => ?_, q2⟩
    rcases hj2 with c2 | c2
    ·exact hd x q ((c.trans c2) ▸ hSb)
    ·exact q2 (c ▸ c2)
   refine k _ _ (fun x => x = j ∨ ∃ n, n < (l ++ [d]).length /\ (if n = l.length then T else Ss n) x) (.inr ⟨j, cap', css ++ [cs], sp', fun n => if n = l.length then T else Ss n, by simp, by simpa using hc, by simpa using hs,
    ⟨by simp [qL], by simp [D.len], fun c hm => ?_, fun n a1 a2 => ?_, fun n a1 q => ?_, fun n m a1 a2 a3 x q1 q2 => ?_, fun x => Iff.rfl⟩⟩) (fun x q1 q2 => hM x (fun c => q2 (c ▸ hSb)) q1) fun x q => ?_
   ·rcases List.mem_append.1 hm with hm | hm
    ·exact D.sz c hm
    ·rw [List.mem_singleton.1 hm]; exact hcl
   ·by_cases c : n = l.length
    ·subst c
     rw [if_pos rfl, List.getElem_append_right (by rw [D.len]; exact Nat.le_refl _), List.getElem_append_right (Nat.le_refl _)]
     simp only [D.len, Nat.sub_self, List.getElem_cons_zero]
     exact hW _ _ _ _ _ (fun x q => hM x (hinT x q).1 (hinT x q).2.2) w
    ·have hn2 : n < l.length := by rw [List.length_append, List.length_singleton] at a2; omega
     rw [if_neg c, List.getElem_append_left (by rw [D.len]; exact hn2), List.getElem_append_left hn2]
     exact hW _ _ _ _ _ (fun x q => hM x (hinS n hn2 x q).1 (hinS n hn2 x q).2.2) (D.el n (by rw [D.len]; exact hn2) hn2)
   ·by_cases c : n = l.length
    ·rw [if_pos c] at q; exact (hinT j q).2.1 rfl
    ·rw [if_neg c] at q
     exact (hinS n (by rw [List.length_append, List.length_singleton] at a1; omega) j q).2.1 rfl
   ·rw [List.length_append, List.length_singleton] at a1 a2
    by_cases c : n = l.length
    ·rw [if_pos c] at q1
     rw [if_neg (fun c2 => a3 (c.trans c2.symm))] at q2
     exact hd x q1 ((D.dom x).2 (.inr ⟨m, by omega, q2⟩))
    ·rw [if_neg c] at q1
     by_cases c2 : m = l.length
     ·rw [if_pos c2] at q2
      exact hd x q2 ((D.dom x).2 (.inr ⟨n, by omega, q1⟩))
     ·rw [if_neg c2] at q2
      exact D.dj n m (by omega) (by omega) a3 x q1 q2
   ·rcases q with q | ⟨n, a1, q⟩
    ·subst q
     rcases hj2 with c | c
     ·exact .inl (c ▸ hSb)
     ·exact .inr (.inr c)
    ·by_cases c : n = l.length
     ·rw [if_pos c] at q; exact .inr (.inl q)
     ·rw [if_neg c] at q
      exact .inl ((D.dom x).2 (.inr ⟨n, by rw [List.length_append, List.length_singleton] at a1; omega, q⟩))
theorem app_dL {α : Type} {enc : α -> List Value} {sz bytes : Nat} (he : ∀ a, (enc a).length = sz) (ho : ∀ l, (fl enc l).all vone = true) {P : Program} {t ty e : TypeId} {v y : Value} {M : H} {l m : List α} {S : Nat -> Prop} {K : Value -> H -> Prop} {X : List PanicEntry -> H -> Prop}
  (h1 : P.underlying t = some (.slice e)) (hi : InfoIs P e sz bytes) (D : dL e enc sz M v l S) (r : rLs M enc sz y m) (hb : (l.length + m.length) * bytes <= 140737488355328) (hn : l.length + m.length <= 140737488355328)
  (k : ∀ M' v' S', dL e enc sz M' v' (l ++ m) S' -> (∀ x, hget M x ≠ none -> ¬ S x -> hget M' x = hget M x) -> (∀ x, S' x -> S x ∨ hget M x = none) -> K v' M') : appK P t t ty v y M K X := by
 obtain ⟨g, o, s, hS⟩ := D
 refine app_leaf (g := g) (h := hdel M g) he ho h1 hi (Sub_hdel s) (Dj_hdel _ _) o r hb hn fun v' g' o' d' => ?_
 have hh : ∀ x, ¬ S x -> hget (hdel M g) x = hget M x := fun x q => by
  rw [hget_hdel, if_pos]
  cases e : hget g x with
  | none => rfl
  | some y => exact absurd ((hS x).2 (by rw [e]; simp)) q
 refine k (g' ++ hdel M g) v' _ (dL.of (h := hdel M g) o' (Sub.left _ _)) (fun x q1 q2 => ?_) fun x q => ?_
 ·rw [Sub.eq (Sub.right d') (by rw [hh x q2]; exact q1), hh x q2]
 ·by_cases c : S x
  ·exact .inl c
  ·right; rw [<- hh x c]; exact d' x q
section
variable {P : Program} {rest : H} {ρ : (Nat -> Value) -> Operand -> Value} {D : H -> (Nat -> Value) -> Prop}
end
end Go.Tk
end

section
set_option maxRecDepth 20000
attribute [local irreducible] Go.Tk.vc Go.Tk.vops Go.Tk.vdr Go.Tk.vop Go.Tk.vfl Go.Tk.HCalls
namespace Go.Proofs.YtgbapakcfmgahaaGreatDoor
open Go Go.Tk
theorem slots_in {c : DCall} {l : List Int} (x : SlotsO c l) {s : Int} (h : s ∈ l) : 0 <= s /\ s <= 7 := by
 rcases x with ⟨_, rfl⟩ | ⟨hok, _, ds, ok, O, hm⟩
 ·cases h
 ·rcases (hm s).1 h with ⟨hk, e⟩ | ⟨st, h1, h2⟩
  ·rw [<- e]
   obtain ⟨-, -, hf⟩ := hok.1
   rcases hf with hf | hf
   ·omega
   ·exact hf.2.2.1
  ·rw [<- h2]; exact slotK_in (O.keys st h1)
theorem one_sub {M : H} {j : Nat} {o : Obj} (g : hget M j = some o) : Tk.Sub [(j, o)] M := fun y z e => by
 rw [qX, hget_nil] at e
 split at e
 ·rename_i c; rw [c, g]; exact e
 ·cases e
set_option maxHeartbeats 1000000 in
theorem l22Lock_c {h : H} {g : DGate} {lg lv wy : Value} {x : DLive} {a b : Value} {ho : Int} (r : sGate h g lg lv wy) (hb : bGate g) (ht : x.call.text.length <= 4194304) {R : Ending -> H -> Prop}
  (k : ∀ M' w S sl, SlotsO x.call sl -> Tk.Sub h M' -> dL 3 eI 1 M' w (lockW g.log sl x ho).slots S -> (∀ y, S y -> hget h y = none) -> R (.returned (.agg (qK (lockW g.log sl x ho) w (.slice none 0 0) (.slice none 0 0)).toArray)) M') :
  HCalls Tryz.prog 19 #[.agg (cGate g lg lv wy).toArray, .agg (qE x a b).toArray, .int .i64 ho] h R := by
 refine qB (args := [.agg (cGate g lg lv wy).toArray, .agg (qE x a b).toArray, .int .i64 ho]) Tryz.func19 ir19 ?_
 have zw := zWord_eq
 try simp only [str] at zw
 have zm := zMap_eq
 have bl := hb.log
 unfold lim at bl
 simp only [wk, seval, zB, str, zw, zm]
 refine qA (o := blk (cGate g lg lv wy) 34) fun j3 h3 => ?_
 simp only [wk, seval, wLive]
 refine qA (o := blk (qE x a b) 50) fun j4 h4 => ?_
 simp only [wk, seval, zV]
 refine qA (o := blk (qK zWord (.slice none 0 0) (.slice none 0 0) (.slice none 0 0)) 57) fun j6 h6 => ?_
 obtain ⟨A, hA⟩ : ∃ A, A = (j6, blk (qK zWord (.slice none 0 0) (.slice none 0 0) (.slice none 0 0)) 57) :: (j4, blk (qE x a b) 50) :: (j3, blk (cGate g lg lv wy) 34) :: h := ⟨_, rfl⟩
 have sA : Tk.Sub h A := by rw [hA]; exact Sub.cons h6 (Sub.cons h4 (Sub.cons h3 (Sub.refl _)))
 have n6 := h6
 have n4 := h4
 simp only [subs] at n6 n4
 have g6 : hget A j6 = some (blk (qK zWord (.slice none 0 0) (.slice none 0 0) (.slice none 0 0)) 57) := by rw [hA]; exact qL _ _ _
 have g4 : hget A j4 = some (blk (qE x a b) 50) := by rw [hA, zN _ _ _ (fun e => n6.1 e.symm)]; exact qL _ _ _
 have g3 : hget A j3 = some (blk (cGate g lg lv wy) 34) := by rw [hA, zN _ _ _ (fun e => n6.2.1 e.symm), zN _ _ _ (fun e => n4.1 e.symm)]; exact qL _ _ _
 have h6h : hget h j6 = none := n6.2.2
 have c33 : hcel A j3 3 = some lg := qH g3 rfl
 have c42 : hcel A j4 2 = some (.int .i64 x.version) := qH g4 rfl
 rw [<- hA]
 simp only [wk, seval, zB, wLive, c33, c42]
 refine l22MapAt_c ((r.1.subH sA).relImp fun _ _ q => rRecord.sub sA q) (by omega) fun M1 mo S1 s1 u1 f1 => ?_
 obtain ⟨m, hm⟩ : ∃ m, m = mapAtL g.log x.version := ⟨_, rfl⟩
 have hmok : mapP m := hm ▸ mapAtL_ok _ _
 rw [<- hm] at u1 ⊢
 have on1 := u1.one
 have av1 := wMap.2.2.2.2.2.1 m mo on1
 simp only [wk, seval, wMap, zm]
 refine qA (o := blk (cMap zMap (.slice none 0 0)) 102) fun j7 h7 => ?_
 obtain ⟨B1, hB1⟩ : ∃ B1, B1 = (j7, blk (cMap zMap (.slice none 0 0)) 102) :: M1 := ⟨_, rfl⟩
 have g7' : hget B1 j7 = some (blk (cMap zMap (.slice none 0 0)) 102) := by rw [hB1]; exact qL _ _ _
 have sB1 : Tk.Sub M1 B1 := by rw [hB1]; exact Sub.cons h7 (Sub.refl _)
 rw [<- hB1]
 obtain ⟨N1, wN1, gN1, fN1⟩ := bx_st (vs := cMap m mo) (cs' := cMap m mo) (o := 0) g7' (by show 0 + 2 <= 2; omega) rfl
 have sN1 : Tk.Sub M1 N1 := fun y o e => by rw [fN1 y (fun c => by rw [c, h7] at e; cases e)]; exact sB1 _ _ e
 have c4call : qQ N1 j4 4 6 = some (zL x.call) := by
  have := (s1.trans sN1) _ _ g4
  unfold qQ; rw [this]; rfl
 simp only [wk, seval, wMap, wLive, av1, wN1, c4call]
 refine specSlots_c ht fun t8 G8 sl O8 len8 o8 d8 => ?_
 obtain ⟨M2, hM2⟩ : ∃ M2, M2 = G8 ++ N1 := ⟨_, rfl⟩
 have s2 : Tk.Sub N1 M2 := by rw [hM2]; exact Sub.right d8
 have u8 : dL 3 eI 1 M2 t8 sl (fun y => hget G8 y ≠ none) := dL.of (h := N1) o8 (by rw [hM2]; exact Sub.left _ _)
 have c40 : hcel M2 j4 0 = some (.int .i64 x.stamp) := qH (s2 _ _ (sN1 _ _ (s1 _ _ g4))) rfl
 have c41 : hcel M2 j4 1 = some (.int .i64 x.try_) := qH (s2 _ _ (sN1 _ _ (s1 _ _ g4))) rfl
 rw [<- hM2]
 simp only [wk, seval, wLive, c40, c41, str, zw, zV]
 obtain ⟨W0, hW0⟩ : ∃ W0 : DWord, W0 = ⟨1, 9, ho, x.stamp, x.try_, 1, false, [], [], 0, [], ⟨0, 0, 0, [], 0, 0⟩⟩ := ⟨_, rfl⟩
 refine qA (o := blk (qK zWord (.slice none 0 0) (.slice none 0 0) (.slice none 0 0)) 57) fun j9 h9 => ?_
 obtain ⟨B2, hB2⟩ : ∃ B2, B2 = (j9, blk (qK zWord (.slice none 0 0) (.slice none 0 0) (.slice none 0 0)) 57) :: M2 := ⟨_, rfl⟩
 have g9' : hget B2 j9 = some (blk (qK zWord (.slice none 0 0) (.slice none 0 0) (.slice none 0 0)) 57) := by rw [hB2]; exact qL _ _ _
 have sB2 : Tk.Sub M2 B2 := by rw [hB2]; exact Sub.cons h9 (Sub.refl _)
 rw [<- hB2]
 obtain ⟨N, wN, gN, fN⟩ := bx_st (vs := qK W0 (.slice none 0 0) (.slice none 0 0) (.slice none 0 0)) (cs' := qK W0 (.slice none 0 0) (.slice none 0 0) (.slice none 0 0)) (o := 0) g9' (by show 0 + 17 <= 17; omega) rfl
 have sN : Tk.Sub M2 N := fun y o e => by rw [fN y (fun c => by rw [c, h9] at e; cases e)]; exact sB2 _ _ e
 rw [hW0] at wN
 simp only [wk, seval, zV, zWord] at wN ⊢
 rw [<- hW0] at wN ⊢
 have one0 : (qK W0 (.slice none 0 0) (.slice none 0 0) (.slice none 0 0)).all vone = true := rfl
 simp only [wk, seval, wN, one0, zV]
 obtain ⟨S8, hS8⟩ : ∃ S8 : Nat -> Prop, S8 = fun y => hget G8 y ≠ none := ⟨_, rfl⟩
 rw [<- hS8] at u8
 have sAN : Tk.Sub A N := s1.trans (sN1.trans (s2.trans sN))
 have v1 : dL 3 eI 1 N mo m.owners S1 := u1.frame fun y q => Sub.eq (sN1.trans (s2.trans sN)) (u1.in q)
 have v8 : dL 3 eI 1 N t8 sl S8 := u8.frame fun y q => Sub.eq sN (u8.in q)
 have n19 : ∀ y, S1 y -> y ≠ j9 := fun y q c => by have := u1.in q; rw [c] at this; exact this ((sN1.trans s2).none' h9)
 have n89 : ∀ y, S8 y -> y ≠ j9 := fun y q c => by have := u8.in q; rw [c] at this; exact this h9
 have n79 : j7 ≠ j9 := fun c => by rw [<- c, s2 _ _ gN1] at h9; cases h9
 have nA9 : hget A j9 = none := (s1.trans (sN1.trans s2)).none' h9
 obtain ⟨keep, hkeep⟩ : ∃ keep : Int -> Bool, keep = fun s => decide (x.call.kind = 2 ∨ m.owners.getD s.toNat 0 = ho) := ⟨_, rfl⟩
 refine qS [10] (fun n vs h' => ∃ (i : Nat) (ws : Value) (Sw : Nat -> Prop), vs = [.int .i64 i] /\ Tk.Sub A h' /\ hget h' j7 = some (blk (cMap m mo) 102) /\ dL 3 eI 1 h' mo m.owners S1 /\ dL 3 eI 1 h' t8 sl S8 /\ hget h' j9 = some (blk (qK W0 ws (.slice none 0 0) (.slice none 0 0)) 57) /\
   dL 3 eI 1 h' ws ((sl.take i).filter keep) Sw /\ (∀ y, Sw y -> hget A y = none /\ y ≠ j7 /\ y ≠ j9 /\ ¬ S1 y /\ ¬ S8 y) /\ i <= sl.length /\ n = sl.length - i) sl.length rfl
  ⟨0, .slice none 0 0, _, rfl, sAN, sN _ _ (s2 _ _ gN1), v1, v8, gN, dL.nil, fun _ q => q.elim, by omega, rfl⟩ ?_
 rintro n f h' ⟨i, ws, Sw, hv, s, g7, w1, w8, g9, dw, fw, hi, rfl⟩
 simp only [lm4] at hv
 simp only [wk, seval, wr, hv, w8.rd.len]
 refine qF (fun q1 => ?_) fun q1 => ?_
 ·have hi2 : i < sl.length := by omega
  have hin := slots_in O8 (List.getElem_mem hi2)
  obtain ⟨nn, hnn⟩ : ∃ nn : Nat, sl[i] = (nn : Int) := ⟨sl[i].toNat, by omega⟩
  have hn8 : nn < m.owners.length := by rw [hmok.2.1]; omega
  obtain ⟨b8, o8', hx8, e8⟩ := ls_at (enc := eI) (sz := 1) (fun _ => rfl) w8.rd hi2
  obtain ⟨b7, o7, hx7, e7⟩ := ls_at (enc := eI) (sz := 1) (fun _ => rfl) w1.rd hn8
  have e8' : hcel h' b8 o8' = some (.int .i64 nn) := by rw [<- hnn]; exact qW e8 0 rfl
  have e7' : hcel h' b7 o7 = some (.int .i64 m.owners[nn]) := qW e7 0 rfl
  have c71 : hcel h' j7 1 = some mo := qH g7 rfl
  have c46 : hcel h' j4 6 = some (.int .i64 x.call.kind) := qH (s _ _ g4) rfl
  have c97 : hcel h' j9 7 = some ws := qH g9 rfl
  have hgd : m.owners.getD (sl[i]).toNat 0 = m.owners[nn] := by rw [hnn, Int.toNat_natCast, List.getD_eq_getElem?_getD, List.getElem?_eq_getElem hn8]; rfl
  have htk : (sl.take (i + 1)).filter keep = (sl.take i).filter keep ++ if keep sl[i] = true then [sl[i]] else [] := by
   rw [List.take_succ_eq_append_getElem hi2, List.filter_append]; simp [List.filter_cons]
  refine qY h' (Sub.refl _) ?_
  simp only [wk, seval, c71, hx8, e8', hx7, e7', wLive, Sub.refl]
  refine qZ (fun dq => ?_) fun dq => ?_
  ·have hkp : keep sl[i] = true := by rw [hkeep]; simp only [decide_eq_true_eq]; exact .inr (hgd.trans dq)
   have s9 := one_sub g9
   have c97' : hcel [(j9, blk (qK W0 ws (.slice none 0 0) (.slice none 0 0)) 57)] j9 7 = some ws := qH (qL _ _ _) rfl
   refine qY _ s9 ?_
   simp only [wk, seval, c97', hx8, e8', s9]
   refine qA (o := blk (fl eI [(nn : Int)]) 3) fun j53 h53 => ?_
   obtain ⟨B5, hB5⟩ : ∃ B5, B5 = (j53, blk (fl eI [(nn : Int)]) 3) :: h' := ⟨_, rfl⟩
   have sB5 : Tk.Sub h' B5 := by rw [hB5]; exact Sub.cons h53 (Sub.refl _)
   have r53 : rLs B5 eI 1 (.slice (some ⟨j53, 0, none⟩) 1 1) [(nn : Int)] := by rw [hB5]; exact rI_lit (e := 3) [(nn : Int)]
   have s9B := s9.trans sB5
   rw [<- hB5]
   simp only [wk, seval, s9B]
   have hfl : ((sl.take i).filter keep).length <= i := Nat.le_trans (List.length_filter_le _ _) (by rw [List.length_take]; omega)
   refine app_dL zC eI_one tInts iInt (dw.frame fun y q => Sub.eq sB5 (dw.in q)) r53 (by rw [List.length_singleton]; omega) (by rw [List.length_singleton]; omega) fun M5 w5 S5 d5 k5 f5 => ?_
   have kk : ∀ y, hget h' y ≠ none -> ¬ Sw y -> hget M5 y = hget h' y := fun y e1 e2 => by rw [k5 y (by rw [Sub.eq sB5 e1]; exact e1) e2, Sub.eq sB5 e1]
   have g9M : hget M5 j9 = some (blk (qK W0 ws (.slice none 0 0) (.slice none 0 0)) 57) := (kk j9 (by rw [g9]; simp) (fun q => (fw j9 q).2.2.1 rfl)).trans g9
   obtain ⟨N5, wN5, gN5, fN5⟩ := bx_st (vs := [w5]) (cs' := qK W0 w5 (.slice none 0 0) (.slice none 0 0)) (o := 7) g9M (by show 7 + 1 <= 17; omega) rfl
   have s9M := one_sub g9M
   have on5 := d5.one
   have vcw5 := vc1 on5
   have fr5 : ∀ y, S5 y -> hget A y = none /\ y ≠ j7 /\ y ≠ j9 /\ ¬ S1 y /\ ¬ S8 y := fun y q => by
    rcases f5 y q with c | c
    ·exact fw y c
    ·have c := sB5.none' c
     exact ⟨s.none' c, fun e => (by rw [e, g7] at c; cases c), fun e => (by rw [e, g9] at c; cases c), fun e => w1.in e c, fun e => w8.in e c⟩
   simp (disch := omega) only [wk, seval, zV, wN5, on5, vcw5, qI, s9M]
   refine ⟨sl.length - (i + 1), by omega, _, .refl _, i + 1, w5, S5, by simp, fun y o e => ?_, ?_, w1.frame fun y q => ?_, w8.frame fun y q => ?_, gN5, ?_, fr5, by omega, rfl⟩
   ·rw [fN5 y (fun c => by rw [c, nA9] at e; cases e), kk y (by rw [s _ _ e]; simp) (fun q => by rw [(fw y q).1] at e; cases e)]; exact s _ _ e
   ·rw [fN5 _ n79, kk _ (by rw [g7]; simp) (fun q => (fw _ q).2.1 rfl)]; exact g7
   ·rw [fN5 y (n19 y q), kk y (w1.in q) (fun c => (fw y c).2.2.2.1 q)]
   ·rw [fN5 y (n89 y q), kk y (w8.in q) (fun c => (fw y c).2.2.2.2 q)]
   ·rw [htk, hkp, if_pos rfl, hnn]
    exact d5.frame fun y q => fN5 y (fr5 y q).2.2.1
  ·simp only [wk, seval, c46]
   refine qZ (fun dk => ?_) fun dk => ?_
   ·have hkp : keep sl[i] = true := by rw [hkeep]; simp only [decide_eq_true_eq]; exact .inl dk
    have s9 := one_sub g9
    have c97' : hcel [(j9, blk (qK W0 ws (.slice none 0 0) (.slice none 0 0)) 57)] j9 7 = some ws := qH (qL _ _ _) rfl
    refine qY _ s9 ?_
    simp only [wk, seval, c97', hx8, e8', s9]
    refine qA (o := blk (fl eI [(nn : Int)]) 3) fun j53 h53 => ?_
    obtain ⟨B5, hB5⟩ : ∃ B5, B5 = (j53, blk (fl eI [(nn : Int)]) 3) :: h' := ⟨_, rfl⟩
    have sB5 : Tk.Sub h' B5 := by rw [hB5]; exact Sub.cons h53 (Sub.refl _)
    have r53 : rLs B5 eI 1 (.slice (some ⟨j53, 0, none⟩) 1 1) [(nn : Int)] := by rw [hB5]; exact rI_lit (e := 3) [(nn : Int)]
    have s9B := s9.trans sB5
    rw [<- hB5]
    simp only [wk, seval, s9B]
    have hfl : ((sl.take i).filter keep).length <= i := Nat.le_trans (List.length_filter_le _ _) (by rw [List.length_take]; omega)
    refine app_dL zC eI_one tInts iInt (dw.frame fun y q => Sub.eq sB5 (dw.in q)) r53 (by rw [List.length_singleton]; omega) (by rw [List.length_singleton]; omega) fun M5 w5 S5 d5 k5 f5 => ?_
    have kk : ∀ y, hget h' y ≠ none -> ¬ Sw y -> hget M5 y = hget h' y := fun y e1 e2 => by rw [k5 y (by rw [Sub.eq sB5 e1]; exact e1) e2, Sub.eq sB5 e1]
    have g9M : hget M5 j9 = some (blk (qK W0 ws (.slice none 0 0) (.slice none 0 0)) 57) := (kk j9 (by rw [g9]; simp) (fun q => (fw j9 q).2.2.1 rfl)).trans g9
    obtain ⟨N5, wN5, gN5, fN5⟩ := bx_st (vs := [w5]) (cs' := qK W0 w5 (.slice none 0 0) (.slice none 0 0)) (o := 7) g9M (by show 7 + 1 <= 17; omega) rfl
    have s9M := one_sub g9M
    have on5 := d5.one
    have vcw5 := vc1 on5
    have fr5 : ∀ y, S5 y -> hget A y = none /\ y ≠ j7 /\ y ≠ j9 /\ ¬ S1 y /\ ¬ S8 y := fun y q => by
     rcases f5 y q with c | c
     ·exact fw y c
     ·have c := sB5.none' c
      exact ⟨s.none' c, fun e => (by rw [e, g7] at c; cases c), fun e => (by rw [e, g9] at c; cases c), fun e => w1.in e c, fun e => w8.in e c⟩
    simp (disch := omega) only [wk, seval, zV, wN5, on5, vcw5, qI, s9M]
    refine ⟨sl.length - (i + 1), by omega, _, .refl _, i + 1, w5, S5, by simp, fun y o e => ?_, ?_, w1.frame fun y q => ?_, w8.frame fun y q => ?_, gN5, ?_, fr5, by omega, rfl⟩
    ·rw [fN5 y (fun c => by rw [c, nA9] at e; cases e), kk y (by rw [s _ _ e]; simp) (fun q => by rw [(fw y q).1] at e; cases e)]; exact s _ _ e
    ·rw [fN5 _ n79, kk _ (by rw [g7]; simp) (fun q => (fw _ q).2.1 rfl)]; exact g7
    ·rw [fN5 y (n19 y q), kk y (w1.in q) (fun c => (fw y c).2.2.2.1 q)]
    ·rw [fN5 y (n89 y q), kk y (w8.in q) (fun c => (fw y c).2.2.2.2 q)]
    ·rw [htk, hkp, if_pos rfl, hnn]
     exact d5.frame fun y q => fN5 y (fr5 y q).2.2.1
   ·have hkp : keep sl[i] = false := by rw [hkeep]; simp only [decide_eq_false_iff_not, not_or]; exact ⟨dk, fun c => dq (hgd.symm.trans c)⟩
    simp (disch := omega) only [wk, seval, qI]
    exact ⟨sl.length - (i + 1), by omega, _, .refl _, i + 1, ws, Sw, by simp, s, g7, w1, w8, g9, by rw [htk, hkp, if_neg (by simp), List.append_nil]; exact dw, fw, by omega, rfl⟩
 ·have hi3 : i = sl.length := by omega
  rw [hi3, List.take_length] at dw
  have hsl : (lockW g.log sl x ho).slots = sl.filter keep := by
   unfold lockW
   simp only [hkeep, hm]
   split
   ·rename_i c
    exact (List.filter_eq_self.2 fun a _ => by simp [c]).symm
   ·rename_i c
    simp only [c, false_or]
  have dw' : dL 3 eI 1 h' ws (lockW g.log sl x ho).slots Sw := by rw [hsl]; exact dw
  have n69 : j6 ≠ j9 := fun c => by rw [<- c, g6] at nA9; cases nA9
  have c46 : hcel h' j4 6 = some (.int .i64 x.call.kind) := qH (s _ _ g4) rfl
  simp only [wk, seval, c46]
  by_cases dk : x.call.kind = 2
  ·obtain ⟨N3, wN3, gN3, fN3⟩ := bx_st (vs := [.int .i64 2]) (cs' := qK { W0 with what := 2 } ws (.slice none 0 0) (.slice none 0 0)) (o := 5) g9 (by show 5 + 1 <= 17; omega) rfl
   have c49 : hcel N3 j4 9 = some (.int .i64 x.call.to) := qH (by rw [fN3 _ (fun c => by rw [<- c, g4] at nA9; cases nA9)]; exact s _ _ g4) rfl
   simp only [wk, seval, dk, decide_true, zV, wN3, c49]
   by_cases dt : ho = x.call.to
   ·obtain ⟨Nf, wNf, gNf, fNf'⟩ := bx_st (vs := [.int .i64 3]) (cs' := qK { W0 with what := 3 } ws (.slice none 0 0) (.slice none 0 0)) (o := 5) gN3 (by show 5 + 1 <= 17; omega) rfl
    have fNf : ∀ y, y ≠ j9 -> hget Nf y = hget h' y := fun y e => (fNf' y e).trans (fN3 y e)
    obtain ⟨wf, hwf⟩ : ∃ wf : Int, wf = 3 := ⟨_, rfl⟩
    rw [<- hwf] at gNf
    have hW : qK (lockW g.log sl x ho) ws (.slice none 0 0) (.slice none 0 0) = qK { W0 with what := wf } ws (.slice none 0 0) (.slice none 0 0) := by unfold lockW; rw [if_pos dk, if_pos dt, hW0, hwf]; rfl
    simp only [wk, seval, dt, decide_true, wNf]
    obtain ⟨N6, w6, gN6, f6⟩ := bx_st (vs := qK { W0 with what := wf } ws (.slice none 0 0) (.slice none 0 0)) (cs' := qK { W0 with what := wf } ws (.slice none 0 0) (.slice none 0 0)) (o := 0) ((fNf _ n69).trans (s _ _ g6)) (by show 0 + 17 <= 17; omega) rfl
    have r9 : qQ Nf j9 0 17 = some (qK { W0 with what := wf } ws (.slice none 0 0) (.slice none 0 0)) := qU gNf rfl
    have r6 : qQ N6 j6 0 17 = some (qK { W0 with what := wf } ws (.slice none 0 0) (.slice none 0 0)) := qU gN6 rfl
    have one9 : (qK { W0 with what := wf } ws (.slice none 0 0) (.slice none 0 0)).all vone = true := by simp only [qK, List.all_cons, List.all_nil, dw.one]; rfl
    simp only [wk, seval, zV, r9, one9, w6]
    try simp only [wk, seval, zV, r6]
    rw [<- hW]
    refine .of (k N6 ws Sw sl O8 (fun y o e => ?_) (dw'.frame fun y q => ?_) fun y q => sA.none' (fw y q).1)
    ·rw [f6 y (fun c => by rw [c, h6h] at e; cases e), fNf y (fun c => by rw [c, sA.none' nA9] at e; cases e)]; exact s _ _ (sA _ _ e)
    ·rw [f6 y (fun c => by have := (fw y q).1; rw [c, g6] at this; cases this), fNf y (fw y q).2.2.1]
   ·obtain ⟨Nf, hNf⟩ : ∃ Nf, Nf = N3 := ⟨_, rfl⟩
    have fNf : ∀ y, y ≠ j9 -> hget Nf y = hget h' y := fun y e => by rw [hNf]; exact fN3 y e
    obtain ⟨wf, hwf⟩ : ∃ wf : Int, wf = 2 := ⟨_, rfl⟩
    have gNf := gN3
    rw [<- hwf, <- hNf] at gNf
    have hW : qK (lockW g.log sl x ho) ws (.slice none 0 0) (.slice none 0 0) = qK { W0 with what := wf } ws (.slice none 0 0) (.slice none 0 0) := by unfold lockW; rw [if_pos dk, if_neg dt, hW0, hwf]; rfl
    simp only [wk, seval, dt, decide_false]
    rw [<- hNf]
    obtain ⟨N6, w6, gN6, f6⟩ := bx_st (vs := qK { W0 with what := wf } ws (.slice none 0 0) (.slice none 0 0)) (cs' := qK { W0 with what := wf } ws (.slice none 0 0) (.slice none 0 0)) (o := 0) ((fNf _ n69).trans (s _ _ g6)) (by show 0 + 17 <= 17; omega) rfl
    have r9 : qQ Nf j9 0 17 = some (qK { W0 with what := wf } ws (.slice none 0 0) (.slice none 0 0)) := qU gNf rfl
    have r6 : qQ N6 j6 0 17 = some (qK { W0 with what := wf } ws (.slice none 0 0) (.slice none 0 0)) := qU gN6 rfl
    have one9 : (qK { W0 with what := wf } ws (.slice none 0 0) (.slice none 0 0)).all vone = true := by simp only [qK, List.all_cons, List.all_nil, dw.one]; rfl
    simp only [wk, seval, zV, r9, one9, w6]
    try simp only [wk, seval, zV, r6]
    rw [<- hW]
    refine .of (k N6 ws Sw sl O8 (fun y o e => ?_) (dw'.frame fun y q => ?_) fun y q => sA.none' (fw y q).1)
    ·rw [f6 y (fun c => by rw [c, h6h] at e; cases e), fNf y (fun c => by rw [c, sA.none' nA9] at e; cases e)]; exact s _ _ (sA _ _ e)
    ·rw [f6 y (fun c => by have := (fw y q).1; rw [c, g6] at this; cases this), fNf y (fw y q).2.2.1]
  ·obtain ⟨Nf, hNf⟩ : ∃ Nf, Nf = h' := ⟨_, rfl⟩
   have fNf : ∀ y, y ≠ j9 -> hget Nf y = hget h' y := fun y e => by rw [hNf]
   obtain ⟨wf, hwf⟩ : ∃ wf : Int, wf = 1 := ⟨_, rfl⟩
   have gNf : hget Nf j9 = some (blk (qK { W0 with what := wf } ws (.slice none 0 0) (.slice none 0 0)) 57) := by rw [hNf, hwf, g9, hW0]
   have hW : qK (lockW g.log sl x ho) ws (.slice none 0 0) (.slice none 0 0) = qK { W0 with what := wf } ws (.slice none 0 0) (.slice none 0 0) := by unfold lockW; rw [if_neg dk, hW0, hwf]; rfl
   simp only [wk, seval, dk, decide_false]
   rw [<- hNf]
   obtain ⟨N6, w6, gN6, f6⟩ := bx_st (vs := qK { W0 with what := wf } ws (.slice none 0 0) (.slice none 0 0)) (cs' := qK { W0 with what := wf } ws (.slice none 0 0) (.slice none 0 0)) (o := 0) ((fNf _ n69).trans (s _ _ g6)) (by show 0 + 17 <= 17; omega) rfl
   have r9 : qQ Nf j9 0 17 = some (qK { W0 with what := wf } ws (.slice none 0 0) (.slice none 0 0)) := qU gNf rfl
   have r6 : qQ N6 j6 0 17 = some (qK { W0 with what := wf } ws (.slice none 0 0) (.slice none 0 0)) := qU gN6 rfl
   have one9 : (qK { W0 with what := wf } ws (.slice none 0 0) (.slice none 0 0)).all vone = true := by simp only [qK, List.all_cons, List.all_nil, dw.one]; rfl
   simp only [wk, seval, zV, r9, one9, w6]
   try simp only [wk, seval, zV, r6]
   rw [<- hW]
   refine .of (k N6 ws Sw sl O8 (fun y o e => ?_) (dw'.frame fun y q => ?_) fun y q => sA.none' (fw y q).1)
   ·rw [f6 y (fun c => by rw [c, h6h] at e; cases e), fNf y (fun c => by rw [c, sA.none' nA9] at e; cases e)]; exact s _ _ (sA _ _ e)
   ·rw [f6 y (fun c => by have := (fw y q).1; rw [c, g6] at this; cases this), fNf y (fw y q).2.2.1]
end Go.Proofs.YtgbapakcfmgahaaGreatDoor
end

section
set_option maxRecDepth 20000
attribute [local irreducible] Go.Tk.vc Go.Tk.vops Go.Tk.vdr Go.Tk.vop Go.Tk.vfl Go.Tk.HCalls
namespace Go.Tk
open Go Go.Sort
theorem fl_eIx (l : List Int) : fl eI l = l.map (Value.int .i64) := by
 induction l with
 | nil => rfl
 | cons a l ih => rw [fl_cons, ih]; rfl
theorem holds_row {b : Nat} {l : List Int} {sp : List Value} {T : TypeId} {w : World} (e : w.heap[b]? = some (blk (fl eI l ++ sp) T)) : Holds (Value.int .i64) w b 0 l.toArray := by
 intro j hj
 have hj2 : j < l.length := by simpa using hj
 constructor
 ·unfold World.cell?
  simp only [e, blk, Nat.zero_add, fl_eIx]
  have : l.toArray[j]! = l[j] := by rw [getElem!_pos _ j hj]; simp
  rw [this, List.getElem?_toArray, List.getElem?_append_left (by simpa using hj2)]
  simp [hj2]
 ·unfold World.frozen?
  simp [e, blk]
theorem put_row {l l' : List Int} {sp : List Value} (h : l'.length = l.length) : putCells (Value.int .i64) 0 l'.toArray (fl eI l ++ sp).toArray = (fl eI l' ++ sp).toArray := by
 apply Array.ext_getElem?
 intro k
 unfold putCells
 rw [Array.getElem?_mapIdx]
 simp only [fl_eIx, List.getElem?_toArray, List.getElem?_append, List.length_map, h, Nat.zero_le, true_and, Nat.zero_add, List.size_toArray, Nat.sub_zero]
 by_cases hk : k < l.length
 ·have hk' : k < l'.length := by omega
  simp [hk, hk', h]
 ·simp only [hk, if_false]
  cases sp[k - l.length]? <;> simp
theorem row_pst {h : H} {b n : Nat} {l l' : List Int} {sp : List Value} {T : TypeId} {w w' : World} {os : Array Obj} (s : Sat ((b, blk (fl eI l ++ sp) T) :: h) w) (hb : hget h b = none) (hl : l'.length = l.length)
  (e : w' = grow (putRow (Value.int .i64) (Sort.ahead w n) b 0 l'.toArray) os) : Pst ((b, blk (fl eI l ++ sp) T) :: h) w ((b, blk (fl eI l' ++ sp) T) :: h) w' := by
 have hw : w.heap[b]? = some (blk (fl eI l ++ sp) T) := s b _ (qL _ _ _)
 have hsz : b < w.heap.size := (Array.getElem?_eq_some_iff.1 hw).1
 have heap : ∀ i, i < w.heap.size -> w'.heap[i]? = if i = b then some (blk (fl eI l' ++ sp) T) else w.heap[i]? := by
  intro i hi
  rw [e]
  show ((w.heap.modify b (onCells (putCells (Value.int .i64) 0 l'.toArray))) ++ os)[i]? = _
  rw [Array.getElem?_append_left (by simpa using hi), Array.getElem?_modify]
  by_cases hib : i = b
  ·subst hib
   rw [if_pos rfl, if_pos rfl, hw]
   simp only [Option.map_some, blk, onCells, put_row hl]
  ·rw [if_neg (Ne.symm hib), if_neg hib]
 refine ⟨fun i o hi => ?_, by rw [e]; rfl, by rw [e]; rfl, by rw [e]; rfl, ?_, fun i hi hn => ?_, fun i hi => ?_⟩
 ·by_cases hib : i = b
  ·subst hib
   rw [qL] at hi
   rw [heap _ hsz, if_pos rfl, hi]
  ·rw [zN _ _ _ hib] at hi
   have h1 : w.heap[i]? = some o := s i o (by rw [zN _ _ _ hib]; exact hi)
   rw [heap _ (Array.getElem?_eq_some_iff.1 h1).1, if_neg hib]
   exact h1
 ·rw [e]
  simp [grow, putRow, mapBlock, Sort.ahead]
 ·by_cases hib : i = b
  ·subst hib
   rw [qL] at hn; cases hn
  ·rw [heap _ hi, if_neg hib]
 ·left
  by_cases hib : i = b
  ·subst hib
   rw [qL]; simp
  ·rw [zN _ _ _ hib] at hi ⊢
   exact hi
theorem compact_len (zs : List Int) : (Lib.compact zs).length <= zs.length := by
 unfold Lib.compact Lib.compactUpTo
 rw [List.length_map]
 exact Nat.le_trans (List.length_filter_le _ _) (by simp)
theorem upTo_mem (d : Array Int) : ∀ m x, x ∈ Lib.compactUpTo d m ↔ ∃ j, j < m /\ d[j]! = x := by
 intro m
 induction m with
 | zero => intro x; simp [Lib.compactUpTo]
 | succ m ih =>
  intro x
  rw [Lib.compactUpTo_succ, List.mem_append, ih]
  constructor
  ·rintro (⟨j, hj, e⟩ | hx)
   ·exact ⟨j, by omega, e⟩
   ·split at hx
    ·exact ⟨m, by omega, (List.mem_singleton.1 hx).symm⟩
    ·cases hx
  ·rintro ⟨j, hj, e⟩
   by_cases hjm : j < m
   ·exact .inl ⟨j, hjm, e⟩
   ·have hjm : j = m := by omega
    subst hjm
    by_cases hk : Lib.keeps d j = true
    ·right; rw [if_pos hk]; simp [e]
    ·left
     unfold Lib.keeps at hk
     simp only [decide_eq_true_eq, not_or, ne_eq, Classical.not_not] at hk
     exact ⟨j - 1, by omega, by rw [<- hk.2, e]⟩
theorem compact_mem (zs : List Int) : ∀ x, x ∈ Lib.compact zs ↔ x ∈ zs := by
 intro x
 unfold Lib.compact
 rw [upTo_mem]
 constructor
 ·rintro ⟨j, hj, e⟩
  rw [getElem!_pos _ j (by simpa using hj)] at e
  rw [<- e]; simp
 ·intro hx
  obtain ⟨j, hj, e⟩ := List.getElem_of_mem hx
  exact ⟨j, hj, by rw [getElem!_pos _ j (by simpa using hj)]; simpa using e⟩
theorem upTo_lt (d : Array Int) (h : ∀ i j, i <= j -> j < d.size -> d[i]! <= d[j]!) : ∀ m, m <= d.size -> (Lib.compactUpTo d m).Pairwise (· < ·) := by
 intro m
 induction m with
 | zero => intro _; simp [Lib.compactUpTo]
 | succ m ih =>
  intro hm
  rw [Lib.compactUpTo_succ]
  by_cases hk : Lib.keeps d m = true
  ·rw [if_pos hk, List.pairwise_append]
   refine ⟨ih (by omega), by simp, fun x hx y hy => ?_⟩
   rw [List.mem_singleton.1 hy]
   obtain ⟨j, hj, e⟩ := (upTo_mem d m x).1 hx
   unfold Lib.keeps at hk
   simp only [decide_eq_true_eq] at hk
   have hne := hk.resolve_left (by omega)
   have h1 := h j (m - 1) (by omega) (by omega)
   have h2 := h (m - 1) m (by omega) (by omega)
   rw [<- e]
   omega
  ·rw [if_neg hk, List.append_nil]
   exact ih (by omega)
theorem compact_lt {zs : List Int} (h : zs.Pairwise (· <= ·)) : (Lib.compact zs).Pairwise (· < ·) := by
 refine upTo_lt zs.toArray (fun i j hij hj => ?_) zs.length (by simp)
 have hj2 : j < zs.length := by simpa using hj
 rw [getElem!_pos _ j hj, getElem!_pos _ i (by omega)]
 simp only [List.getElem_toArray]
 by_cases e : i = j
 ·subst e; omega
 ·exact List.pairwise_iff_getElem.1 h i j (by omega) hj2 (by omega)
end Go.Tk
namespace Go.Proofs.YtgbapakcfmgahaaGreatDoor
open Go Go.Tk
theorem sort_c {h g : H} {v : Value} {l : List Int} (o : oLs 3 eI 1 v l g) (dj : Dj g h) (h0 : l ≠ []) (hl : l.length <= 1000000) {R : Ending -> H -> Prop}
  (k : ∀ g' l', oLs 3 eI 1 v l' g' -> Dj g' h -> l'.Pairwise (· <= ·) -> (∀ x, x ∈ l' ↔ x ∈ l) -> l'.length = l.length -> R (.returned (.tuple #[])) (g' ++ h)) :
  HCalls Tryz.prog 114 #[v] (g ++ h) R := by
 obtain ⟨_, ⟨_, e, _⟩ | ⟨b, cap, sp, rfl, hc, hs, rfl⟩⟩ := o
 ·exact absurd (List.length_eq_zero_iff.1 e) h0
 have hb : hget h b = none := Dj.one' dj
 obtain ⟨l', hl'⟩ : ∃ l', l' = l.mergeSort fun x y => decide (x <= y) := ⟨_, rfl⟩
 have ll : l'.length = l.length := by rw [hl', List.length_mergeSort]
 refine HCalls.of_calls fun w s => ?_
 have s' : Sat ((b, blk (fl eI l ++ sp) 3) :: h) w := s
 have hw : w.heap[b]? = some (blk (fl eI l ++ sp) 3) := s' b _ (qL _ _ _)
 refine (Tryz.slices_Sort_int b 0 cap l w (holds_row hw) (Array.getElem?_eq_some_iff.1 hw).1 (by omega)).mono ?_
 rintro e w' ⟨rfl, n, os, ew⟩
 rw [<- hl'] at ew
 refine ⟨_, k [(b, blk (fl eI l' ++ sp) 3)] l' ?_ (Dj.one hb) ?_ ?_ ll, row_pst s' hb ll ew⟩
 ·refine ⟨by rw [fl_len zC], .inr ⟨b, cap, sp, by rw [ll], by omega, ?_, rfl⟩⟩
  rw [<- hs]; simp [fl_len zC, ll]
 ·rw [hl']
  have := List.pairwise_mergeSort (le := fun x y : Int => decide (x <= y)) (fun a b c h1 h2 => by simp only [decide_eq_true_eq] at *; omega) (fun a b => by simp only [Bool.or_eq_true, decide_eq_true_eq]; omega) l
  exact this.imp fun h => by simpa using h
 ·intro x
  rw [hl']
  exact List.mem_mergeSort
theorem compact_c {h g : H} {v : Value} {l : List Int} (o : oLs 3 eI 1 v l g) (dj : Dj g h) (h0 : l ≠ []) (hl : l.length <= 1000000) (hp : l.Pairwise (· <= ·)) {R : Ending -> H -> Prop}
  (k : ∀ v' g' l', oLs 3 eI 1 v' l' g' -> Dj g' h -> l'.Pairwise (· < ·) -> (∀ x, x ∈ l' ↔ x ∈ l) -> R (.returned v') (g' ++ h)) :
  HCalls Tryz.prog 115 #[v] (g ++ h) R := by
 obtain ⟨_, ⟨_, e, _⟩ | ⟨b, cap, sp, rfl, hc, hs, rfl⟩⟩ := o
 ·exact absurd (List.length_eq_zero_iff.1 e) h0
 have hb : hget h b = none := Dj.one' dj
 have hle := compact_len l
 obtain ⟨c, hcc⟩ : ∃ c, c = Lib.compact l := ⟨_, rfl⟩
 rw [<- hcc] at hle
 obtain ⟨zz, hzz⟩ : ∃ zz : List Int, zz = List.replicate (l.length - c.length) 0 := ⟨_, rfl⟩
 have ll : (c ++ zz).length = l.length := by rw [hzz]; simp; omega
 refine HCalls.of_calls fun w s => ?_
 have s' : Sat ((b, blk (fl eI l ++ sp) 3) :: h) w := s
 have hw : w.heap[b]? = some (blk (fl eI l ++ sp) 3) := s' b _ (qL _ _ _)
 refine (Tryz.slices_Compact_int b 0 cap l w (holds_row hw) (by omega) hc).mono ?_
 rintro e w' ⟨ee, n, ew⟩
 rw [<- hcc] at ee ew
 rw [<- hzz] at ew
 subst ee
 have ew2 : w' = Go.Sort.grow (Go.Sort.putRow (Value.int .i64) (Go.Sort.ahead w n) b 0 (c ++ zz).toArray) #[] := by rw [ew, Go.Sort.grow_empty]
 refine ⟨_, k (.slice (some ⟨b, 0, none⟩) c.length cap) [(b, blk (fl eI c ++ (fl eI zz ++ sp)) 3)] c ?_ (Dj.one hb) (hcc ▸ compact_lt hp) (fun x => hcc ▸ compact_mem l x), ?_⟩
 ·refine ⟨by rw [fl_len zC], .inr ⟨b, cap, fl eI zz ++ sp, rfl, by omega, ?_, rfl⟩⟩
  rw [<- hs]
  simp only [List.length_append, fl_len zC] at ll ⊢
  omega
 ·have := row_pst s' hb ll ew2
  rw [fl_app, List.append_assoc] at this
  exact this
end Go.Proofs.YtgbapakcfmgahaaGreatDoor
end

section
set_option maxRecDepth 20000
attribute [local irreducible] Go.Tk.vc Go.Tk.vops Go.Tk.vdr Go.Tk.vop Go.Tk.vfl Go.Tk.HCalls
namespace Go.Proofs.YtgbapakcfmgahaaGreatDoor
open Go Go.Tk
theorem implSlots_c {h : H} {c : DCall} (gl : Gl h) (gm : MxL h) (ht : c.text.length <= 4194304) {R : Ending -> H -> Prop} (k : ∀ v g l, SlotsO c l -> oLs 3 eI 1 v l g -> Dj g h -> R (.returned v) (g ++ h)) :
  HCalls Tryz.prog 69 #[.agg (zL c).toArray] h R := by
 refine qB (args := [.agg (zL c).toArray]) Tryz.func69 ir69 ?_
 have zs := zStatement_eq
 simp only [wk, seval, zE, zs]
 refine qA (o := blk (zL c) 46) fun j hj => ?_
 have s1 := Sub.cons (o := blk (zL c) 46) hj (Sub.refl h)
 simp only [wk, seval, zE, zs]
 refine implCallOk_c (gl.sub s1) (gm.sub s1) ht fun b1 hb1 => ?_
 simp only [wk, seval, zE, zs]
 refine ite_f (fun e => ⟨h, s1, k _ [] [] (.inl ⟨fun p => (by rw [hb1.2 p] at e; cases e), rfl⟩) (ows.nil _ _) (Dj.nil _)⟩) fun e1 => ?_
 have hok := hb1.1 e1
 refine qZ (fun hk => ?_) fun hk => ?_
 ·refine qA (o := blk (fl eI [c.slot]) 3) fun j6 hj6 => ?_
  have n6 := hj6
  simp only [subs] at n6
  have o6 : oLs 3 eI 1 (.slice (some ⟨j6, 0, none⟩) 1 1) [c.slot] [(j6, blk (fl eI [c.slot]) 3)] := oLs_new (l := [c.slot]) zC
  simp only [wk, seval, zE, zs]
  refine ⟨[(j6, blk (fl eI [c.slot]) 3)] ++ h, by (repeat' first | exact Sub.refl _ | exact Sub.nil _ | assumption | refine Sub.both ?_ ?_ | refine Sub.cons_of (by simp only [subs, n6, hj]) ?_ | exact Sub.left _ _ | refine Sub.app (by simp only [subs, n6, hj]) ?_ | refine Sub.cons (by simp only [subs, n6, hj]) ?_), k _ _ [c.slot] (.inr ⟨hok, by simp, [], false, ?_, fun s => ?_⟩) o6 (by simp only [subs, n6])⟩
  ·have : c.text = [] := by
    rcases hok.1.2.2 with q | q
    ·have := q.1; omega
    ·exact q.2.1
   rw [this]; exact OutD.none
  ·unfold touchP
   rw [List.mem_singleton]
   constructor
   ·intro e; exact .inl ⟨hk, e.symm⟩
   ·rintro (e | ⟨st, e, _⟩)
    ·exact e.2.symm
    ·cases e
 ·refine implRead_c (gl.sub s1) (gm.sub s1) ht fun v4 g4 ds ok O o4 d4 => ?_
  have n4 := d4
  simp only [subs] at n4
  obtain ⟨B, hB⟩ : ∃ B, B = g4 ++ ((j, blk (zL c) 46) :: h) := ⟨_, rfl⟩
  have r4 : rLs B qM 3 v4 ds := o4.rd.sub (by rw [hB]; exact Sub.left _ _)
  have hds := O.le
  have hds1 : ds ≠ [] := by
   have h1 : c.kind = 1 := by
    rcases hok.1.2.2 with q | q
    ·exact q.1
    ·exact absurd q.1 hk
   have ho := O.iff.2 (hok.2 h1)
   rcases O with ⟨_, p, _⟩ | ⟨e, _⟩
   ·intro e; have := p.1; rw [e] at this; simp at this
   ·rw [e] at ho; cases ho
  simp only [wk, seval, zE, zs]
  rw [<- hB]
  simp only [wk, seval, zE, zs, r4.len]
  refine vc_loopS (g0 := B) [25, 5] (fun n vs h' => ∃ (i : Nat) (v' : Value) (G : H), vs = [.int .i64 i, v'] /\ h' = G ++ B /\ Dj G B /\ oLs 3 eI 1 v' ((ds.take i).map fun st => slotK st.key) G /\ i <= ds.length /\ n = ds.length - i) ds.length rfl (Sub.refl _)
   ⟨0, _, [], rfl, rfl, Dj.nil _, ows.nil _ _, by omega, rfl⟩ ?_
  rintro n f h' ⟨i, v', G, hv, rfl, dG, oG, hi, rfl⟩
  simp only [lm4] at hv
  have sG := Sub.right dG
  simp only [wk, seval, wr, hv.1, hv.2, zs]
  refine qF (fun c2 => ?_) fun c2 => ?_
  ·have hi2 : i < ds.length := by omega
   refine zJ (i := i) zM (r4.sub sG) rfl hi2 fun b1 o1 e1 => ?_
   simp only [wk, seval, e1, zs, qP]
   refine qA fun j6 hj6 => ?_
   have n6 := hj6
   simp only [subs] at n6
   have s6 := Sub.cons (o := blk (qM ds[i]) 146) hj6 (Sub.refl (G ++ B))
   simp only [wk, seval, zs, qP]
   refine implMapSlot_c ?_
   simp only [wk, seval, zs, qP]
   refine qA (o := blk (fl eI [slotK ds[i].key]) 3) fun j7 hj7 => ?_
   simp only [wk, seval, zs, qP]
   refine app_leaf (g := G) (h := B) zC eI_one tInts iInt (s6.trans (Sub.cons hj7 (Sub.refl _))) dG oG (rI_lit (e := 3) [slotK ds[i].key]) (by rw [List.length_map, List.length_take]; simp; omega) (by rw [List.length_map, List.length_take]; simp; omega) fun v3 g3 o3 d3 => ?_
   simp (disch := omega) only [wk, seval, qI]
   refine ⟨ds.length - (i + 1), by omega, _, .refl _, i + 1, v3, g3, by simp, rfl, d3, ?_, by omega, rfl⟩
   rw [List.take_succ_eq_append_getElem hi2, List.map_append]; exact o3
  ·have hi2 : i = ds.length := by omega
   subst hi2
   rw [List.take_length] at oG
   have hne : (ds.map fun st => slotK st.key) ≠ [] := by simpa using hds1
   refine sort_c oG dG hne (by rw [List.length_map]; omega) fun g5 l5 o5 d5 hp5 hm5 hl5 => ?_
   rw [List.length_map] at hl5
   simp only [wk, seval]
   have hne5 : l5 ≠ [] := fun e => by
    rw [e] at hl5
    exact hds1 (List.length_eq_zero_iff.1 hl5.symm)
   refine compact_c o5 d5 hne5 (by omega) hp5 fun v6 g6 l6 o6 d6 hp6 hm6 => ?_
   simp only [wk, seval]
   have dh : Dj g6 h := by
    have := d6
    rw [hB] at this
    simp only [subs] at this
    exact this.2.2
   refine ⟨g6 ++ h, ?_, k v6 g6 l6 (.inr ⟨hok, hp6, ds, ok, O, fun x => ?_⟩) o6 dh⟩
   ·rw [hB] at d6 ⊢
    have dg := d6
    simp only [subs] at dg
    (repeat' first | exact Sub.refl _ | exact Sub.nil _ | assumption | refine Sub.both ?_ ?_ | refine Sub.cons_of (by simp only [subs, dg, n4, hj]) ?_ | exact Sub.left _ _ | refine Sub.app (by simp only [subs, dg, n4, hj]) ?_ | refine Sub.cons (by simp only [subs, dg, n4, hj]) ?_)
   ·rw [hm6, hm5, List.mem_map]
    unfold touchP
    constructor
    ·rintro ⟨st, h1, h2⟩; exact .inr ⟨st, h1, h2⟩
    ·rintro (h1 | ⟨st, h1, h2⟩)
     ·exact absurd h1.1 hk
     ·exact ⟨st, h1, h2⟩
end Go.Proofs.YtgbapakcfmgahaaGreatDoor
end

section
set_option maxRecDepth 20000
attribute [local irreducible] Go.Tk.vc Go.Tk.vops Go.Tk.vdr Go.Tk.vop Go.Tk.vfl Go.Tk.HCalls
namespace Go.Proofs.YtgbapakcfmgahaaGreatDoor
open Go Go.Tk
def WWord (M : H) (cs : List Value) (d : DWord) (S : Nat -> Prop) : Prop := ∃ v1 v2 v3 S1 S2 S3, cs = qK d v1 v2 v3 /\ dL 3 eI 1 M v1 d.slots S1 /\ dL 132 eP 2 M v2 d.pairs S2 /\ dL 3 eI 1 M v3 d.vals S3 /\
 (∀ i, S1 i -> ¬ S2 i) /\ (∀ i, S1 i -> ¬ S3 i) /\ (∀ i, S2 i -> ¬ S3 i) /\ ∀ i, S i ↔ S1 i ∨ S2 i ∨ S3 i
theorem WWord.fr : dFr WWord := by
 rintro M M' cs d S hx ⟨v1, v2, v3, S1, S2, S3, e, w1, w2, w3, d12, d13, d23, su⟩
 exact ⟨v1, v2, v3, S1, S2, S3, e, w1.frame fun x q => hx x ((su x).2 (.inl q)), w2.frame fun x q => hx x ((su x).2 (.inr (.inl q))), w3.frame fun x q => hx x ((su x).2 (.inr (.inr q))), d12, d13, d23, su⟩
theorem WWord.rd : ∀ M cs a S, WWord M cs a S -> rWord M cs a := by
 rintro M cs d S ⟨v1, v2, v3, S1, S2, S3, e, w1, w2, w3, d12, d13, d23, su⟩
 exact ⟨v1, v2, v3, e, w1.rd, w2.rd, w3.rd⟩
theorem WWord.in : ∀ M cs a S i, WWord M cs a S -> S i -> hget M i ≠ none := by
 rintro M cs d S i ⟨v1, v2, v3, S1, S2, S3, e, w1, w2, w3, d12, d13, d23, su⟩ hi
 rcases (su i).1 hi with q | q | q
 ·exact w1.in q
 ·exact w2.in q
 ·exact w3.in q
theorem WWord.one {M : H} {cs : List Value} {d : DWord} {S : Nat -> Prop} (w : WWord M cs d S) : cs.all vone = true := by
 obtain ⟨v1, v2, v3, S1, S2, S3, rfl, w1, w2, w3, _⟩ := w
 simp only [qK, List.all_cons, List.all_nil, w1.one, w2.one, w3.one]; rfl
theorem WWord.len {M : H} {cs : List Value} {d : DWord} {S : Nat -> Prop} (w : WWord M cs d S) : cs.length = 17 := by
 obtain ⟨v1, v2, v3, S1, S2, S3, rfl, _⟩ := w
 rfl
theorem WWord.slots {M : H} {d : DWord} {v : Value} {S : Nat -> Prop} (w : dL 3 eI 1 M v d.slots S) (h2 : d.pairs = []) (h3 : d.vals = []) : WWord M (qK d v (.slice none 0 0) (.slice none 0 0)) d S :=
 ⟨v, _, _, S, fun _ => False, fun _ => False, rfl, w, by rw [h2]; exact dL.nil, by rw [h3]; exact dL.nil, fun _ _ q => q, fun _ _ q => q, fun _ q _ => q, fun _ => by simp⟩
end Go.Proofs.YtgbapakcfmgahaaGreatDoor
end

section
set_option maxRecDepth 20000
attribute [local irreducible] Go.Tk.vc Go.Tk.vops Go.Tk.vdr Go.Tk.vop Go.Tk.vfl Go.Tk.HCalls
namespace Go.Proofs.YtgbapakcfmgahaaGreatDoor
open Go Go.Tk
set_option maxHeartbeats 1000000 in
theorem mapBy_c {h : H} {v : Value} {l : List DRecord} {ver : Int} (r : rRs h (rRecord h) 11 v l) (hl : l.length <= 1048576) {R : Ending -> H -> Prop} (k : ∀ M' w S, Tk.Sub h M' -> dL 3 eI 1 M' w (mapAtL l ver).owners S -> (∀ x, S x -> hget h x = none) -> R (.returned (.agg (cMap (mapAtL l ver) w).toArray)) M') :
  HCalls Tryz.prog 67 #[v, .int .i64 ver] h R := by
 refine qB (args := [v, .int .i64 ver]) Tryz.func67 ir67 ?_
 have zm := zMap_eq
 simp only [wk, seval, zm]
 refine qA (o := blk (cMap zMap (.slice none 0 0)) 102) fun j2 h2 => ?_
 obtain ⟨A, hA⟩ : ∃ A, A = (j2, blk (cMap zMap (.slice none 0 0)) 102) :: h := ⟨_, rfl⟩
 have sA : Tk.Sub h A := by rw [hA]; exact Sub.cons h2 (Sub.refl _)
 have gA : hget A j2 = some (blk (cMap zMap (.slice none 0 0)) 102) := by rw [hA]; exact qL _ _ _
 rw [<- hA]
 simp only [wk, seval, zm]
 refine implMapStart_c fun w0 g0 o0 d0 => ?_
 simp only [wk, seval, zm]
 refine qA (o := blk (cMap zMap (.slice none 0 0)) 102) fun j3 h3 => ?_
 have n3 := h3
 simp only [subs] at n3
 have av0 := wMap.2.2.2.2.2.1 map0 w0 (rdS.one o0.rd)
 simp only [wk, seval, zm, wMap, av0, r.len]
 have h3h : hget h j3 = none := sA.none' n3.2
 have e23 : j2 ≠ j3 := fun e => by have := n3.2; rw [<- e, gA] at this; cases this
 refine qS [11] (fun n vs M' => ∃ (i : Nat) (w : Value) (S : Nat -> Prop), vs = [.int .i64 i] /\ Tk.Sub A M' /\ hget M' j3 = some (blk (cMap (zR (l.take i)) w) 102) /\ dL 3 eI 1 M' w (zR (l.take i)).owners S /\ (∀ x, S x -> hget A x = none /\ x ≠ j3) /\ (∀ j, j < i -> (zR (l.take j)).version ≠ ver) /\ i <= l.length /\ n = l.length - i) l.length rfl
  ⟨0, w0, _, rfl, Sub.cons h3 (Sub.right d0), qL _ _ _, dL.of (h := h) o0 ((Sub.left g0 A).trans (Sub.cons h3 (Sub.refl _))), fun x q => ⟨d0 x q, fun e => q (by rw [e]; exact n3.1)⟩, fun j hj => absurd hj (Nat.not_lt_zero _), by omega, rfl⟩ ?_
 rintro n f M' ⟨i, w, S, hv, sM, m3, dw, hS, hn, hi, rfl⟩
 simp only [lm4] at hv
 simp only [wk, seval, wr, hv]
 refine qF (fun c => ?_) fun c => ?_
 ·have hi2 : i < l.length := by omega
  have zr := zRecord_eq
  have hmore := mapOfL_more hi2
  obtain ⟨b, o, cs, hx, e, a1, a2, rfl, sr⟩ := zU (r.subH (sA.trans sM)) hi2
  have hone := wRecord.2.2.2.2.2.2.2.2.2.2.2.2.2.2.1 l[i] a1 a2 (rdS.one sr.1) (rdS.one sr.2)
  simp only [wk, seval, hx, e, zr, wRecord]
  refine qA (o := blk (qC zRecord (.slice none 0 0) (.slice none 0 0)) 97) fun j5 hj5 => ?_
  obtain ⟨N, hN⟩ : ∃ N, N = (j5, blk (qC l[i] a1 a2) 97) :: M' := ⟨_, rfl⟩
  have sN : Tk.Sub M' N := by rw [hN]; exact Sub.cons hj5 (Sub.refl _)
  have r5 : qQ N j5 0 11 = some (qC l[i] a1 a2) := qU (by rw [hN]; exact qL _ _ _) rfl
  have m3N := sN _ _ m3
  have r3 : qQ N j3 0 2 = some (cMap (zR (l.take i)) w) := qU m3N rfl
  have c30 : hcel N j3 0 = some (.int .i64 (zR (l.take i)).version) := qH m3N rfl
  have dwN := dw.frame (M' := N) fun x q => Sub.eq sN (dw.in q)
  simp only [wk, seval, zr, wRecord, hone, <- hN]
  simp only [wk, seval, c30]
  by_cases dv : (zR (l.take i)).version = ver
  ·have hf := mapAt_found hi hn dv
   rw [hf] at k
   simp only [dv, decide_true, wk, seval]
   obtain ⟨m, hm⟩ : ∃ m, m = zR (l.take i) := ⟨_, rfl⟩
   obtain ⟨Z, hZ⟩ : ∃ Z, Z = N := ⟨_, rfl⟩
   have sZ : Tk.Sub A Z := by rw [hZ]; exact sM.trans sN
   have m3Z := m3N
   have dwZ := dwN
   rw [<- hZ] at m3Z dwZ ⊢
   rw [<- hm] at m3Z dwZ k
   have r3 : qQ Z j3 0 2 = some (cMap m w) := qU m3Z rfl
   have vo := dwZ.one
   have av2 := wMap.2.2.2.2.2.1 m w vo
   have g2 := sZ _ _ gA
   obtain ⟨N4, wN4, gN4, fN4⟩ := bx_st (vs := cMap m w) (cs' := cMap m w) (o := 0) g2 (by show 0 + 2 <= 2; omega) rfl
   have r2 : qQ N4 j2 0 2 = some (cMap m w) := qU gN4 rfl
   simp only [wk, seval, r3, wMap, av2, wN4, r2]
   exact .of (k N4 w S (fun y o e => by rw [fN4 y (fun c => by rw [c, h2] at e; cases e)]; exact sZ _ _ (sA _ _ e)) (dwZ.frame fun x q => fN4 x (fun c => by have := (hS x q).1; rw [c, gA] at this; cases this)) fun x q => sA.none' (hS x q).1)
  ·simp only [dv, decide_false, wk, seval]
   simp only [wk, seval, r3, r5]
   refine mapBehind_c dwN (mapOfL_ok _) fun M2 w2 S2 s2 d2 f2 => ?_
   rw [<- hmore] at d2 ⊢
   have vo := d2.one
   have av2 := wMap.2.2.2.2.2.1 (zR (l.take (i + 1))) w2 vo
   have m32 := s2 _ _ m3N
   obtain ⟨N3, wt, gN3, fN3⟩ := bx_st (vs := cMap (zR (l.take (i + 1))) w2) (cs' := cMap (zR (l.take (i + 1))) w2) (o := 0) m32 (by show 0 + 2 <= 2; omega) rfl
   simp (disch := omega) only [wk, seval, wMap, av2, wt, qI]
   have hS2 : ∀ x, S2 x -> hget A x = none /\ x ≠ j3 := fun x q => by
    rcases f2 x q with q | q
    ·exact hS x q
    ·exact ⟨(sM.trans sN).none' q, fun c => by rw [c, m3N] at q; cases q⟩
   refine ⟨l.length - (i + 1), by omega, N3, .refl _, i + 1, w2, S2, by simp, fun y o e => ?_, gN3, d2.frame fun x q => fN3 x (hS2 x q).2, hS2, fun j hj => ?_, by omega, rfl⟩
   ·rw [fN3 y (fun c => by rw [c, hA, zN _ _ _ (Ne.symm e23), h3h] at e; cases e)]; exact s2 _ _ (sN _ _ (sM _ _ e))
   ·by_cases e : j = i
    ·rw [e]; exact dv
    ·exact hn j (by omega)
 ·have hi2 : i = l.length := by omega
  subst hi2
  have hf := mapAt_all hn
  rw [hf] at k
  rw [List.take_length] at m3 dw
  obtain ⟨m, hm⟩ : ∃ m, m = zR l := ⟨_, rfl⟩
  obtain ⟨Z, hZ⟩ : ∃ Z, Z = M' := ⟨_, rfl⟩
  have sZ : Tk.Sub A Z := by rw [hZ]; exact sM
  have m3Z := m3
  have dwZ := dw
  rw [<- hZ] at m3Z dwZ ⊢
  rw [<- hm] at m3Z dwZ k
  have r3 : qQ Z j3 0 2 = some (cMap m w) := qU m3Z rfl
  have vo := dwZ.one
  have av2 := wMap.2.2.2.2.2.1 m w vo
  have g2 := sZ _ _ gA
  obtain ⟨N4, wN4, gN4, fN4⟩ := bx_st (vs := cMap m w) (cs' := cMap m w) (o := 0) g2 (by show 0 + 2 <= 2; omega) rfl
  have r2 : qQ N4 j2 0 2 = some (cMap m w) := qU gN4 rfl
  simp only [wk, seval, r3, wMap, av2, wN4, r2]
  exact .of (k N4 w S (fun y o e => by rw [fN4 y (fun c => by rw [c, h2] at e; cases e)]; exact sZ _ _ (sA _ _ e)) (dwZ.frame fun x q => fN4 x (fun c => by have := (hS x q).1; rw [c, gA] at this; cases this)) fun x q => sA.none' (hS x q).1)
theorem lockKeep_c {h : H} {jm jh : Nat} {m : DMap} {mo : Value} {ho s : Int} (g1 : hget h jm = some (blk (cMap m mo) 102)) (r1 : rInts h mo m.owners) (g2 : hget h jh = some (blk [.int .i64 ho] 3)) (hs : 0 <= s /\ s.toNat < m.owners.length) {R : Ending -> H -> Prop}
  (k : R (.returned (.bool (decide (m.owners.getD s.toNat 0 = ho)))) h) : HCalls Tryz.prog 70 #[.int .i64 s, .pointer (some ⟨jm, 0, none⟩), .pointer (some ⟨jh, 0, none⟩)] h R := by
 refine qB (args := [.int .i64 s, .pointer (some ⟨jm, 0, none⟩), .pointer (some ⟨jh, 0, none⟩)]) Tryz.func70 ir70 ?_
 obtain ⟨nn, hnn⟩ : ∃ nn : Nat, s = (nn : Int) := ⟨s.toNat, by omega⟩
 subst hnn
 rw [Int.toNat_natCast] at hs k
 obtain ⟨b7, o7, hx7, e7⟩ := ls_at (enc := eI) (sz := 1) (fun _ => rfl) r1 hs.2
 have e7' : hcel h b7 o7 = some (.int .i64 m.owners[nn]) := qW e7 0 rfl
 have c11 : hcel h jm 1 = some mo := qH g1 rfl
 have c20 : hcel h jh 0 = some (.int .i64 ho) := qH g2 rfl
 have hgd : m.owners.getD nn 0 = m.owners[nn] := by rw [List.getD_eq_getElem?_getD, List.getElem?_eq_getElem hs.2]; rfl
 rw [hgd] at k
 simp only [wk, seval]
 refine qY h (Sub.refl _) ?_
 simp only [wk, seval, c11, hx7, e7', c20, Sub.refl]
 exact .of k
set_option maxHeartbeats 1000000 in
theorem lockSplit_c {h : H} {v mo : Value} {l : List Int} {jm jh : Nat} {m : DMap} {ho : Int} (r : rInts h v l) (g1 : hget h jm = some (blk (cMap m mo) 102)) (r1 : rInts h mo m.owners) (g2 : hget h jh = some (blk [.int .i64 ho] 3)) (hin : ∀ s ∈ l, 0 <= s /\ s <= 7) (h8 : m.owners.length = 8) (hl : l.length <= 1048576)
  {R : Ending -> H -> Prop} (k : ∀ M' a b S, Tk.Sub h M' -> dL 3 eI 1 M' a (l.filter fun s => decide (m.owners.getD s.toNat 0 = ho)) S -> (∀ x, S x -> hget h x = none) -> R (.returned (.tuple #[a, b])) M') :
  HCalls Tryz.prog 68 #[v, .func (.func 70) #[] #[.pointer (some ⟨jm, 0, none⟩), .pointer (some ⟨jh, 0, none⟩)]] h R := by
 refine qB (args := [v, .func (.func 70) #[] #[.pointer (some ⟨jm, 0, none⟩), .pointer (some ⟨jh, 0, none⟩)]]) Tryz.func68 ir68 ?_
 obtain ⟨keep, hkeep⟩ : ∃ keep : Int -> Bool, keep = fun s => decide (m.owners.getD s.toNat 0 = ho) := ⟨_, rfl⟩
 rw [<- hkeep] at k
 simp only [wk, seval, r.len]
 refine qS [10, 4, 5] (fun n vs M' => ∃ (i : Nat) (a b : Value) (Sa Sb : Nat -> Prop), vs = [.int .i64 i, a, b] /\ Tk.Sub h M' /\ dL 3 eI 1 M' a ((l.take i).filter keep) Sa /\ dL 3 eI 1 M' b ((l.take i).filter fun s => !keep s) Sb /\ (∀ x, Sa x -> hget h x = none) /\ (∀ x, Sb x -> hget h x = none) /\ (∀ x, Sa x -> ¬ Sb x) /\ i <= l.length /\ n = l.length - i) l.length rfl
  ⟨0, _, _, _, _, rfl, Sub.refl _, dL.nil, dL.nil, fun _ q => q.elim, fun _ q => q.elim, fun _ q => q.elim, by omega, rfl⟩ ?_
 rintro n f M' ⟨i, a, b, Sa, Sb, hv, s, da, db, fa, fb, dd, hi, rfl⟩
 simp only [lm4] at hv
 simp only [wk, seval, wr, hv.1, hv.2.1, hv.2.2]
 refine qF (fun c => ?_) fun c => ?_
 ·have hi2 : i < l.length := by omega
  have hs := hin _ (List.getElem_mem hi2)
  obtain ⟨b8, o8, hx8, e8⟩ := ls_at (enc := eI) (sz := 1) (fun _ => rfl) (r.sub s) hi2
  have e8' : hcel M' b8 o8 = some (.int .i64 l[i]) := qW e8 0 rfl
  have htk : ∀ p : Int -> Bool, (l.take (i + 1)).filter p = (l.take i).filter p ++ if p l[i] = true then [l[i]] else [] := fun p => by
   rw [List.take_succ_eq_append_getElem hi2, List.filter_append]; simp [List.filter_cons]
  have hla : ∀ p : Int -> Bool, ((l.take i).filter p).length <= i := fun p => Nat.le_trans (List.length_filter_le _ _) (by rw [List.length_take]; omega)
  have hla1 := hla keep
  have hla2 := hla fun s => !keep s
  simp only [wk, seval, hx8, e8']
  refine ⟨by kernel_rfl, lockKeep_c (s _ _ g1) (r1.sub s) (s _ _ g2) ⟨hs.1, by omega⟩ ?_⟩
  obtain ⟨q, hq⟩ : ∃ q, q = keep l[i] := ⟨_, rfl⟩
  have hq2 : decide (m.owners.getD l[i].toNat 0 = ho) = q := by rw [hq, hkeep]
  rw [hq2]
  cases q with
  | true =>
   simp only [wk, seval]
   refine qA (o := blk (fl eI [l[i]]) 3) fun j53 h53 => ?_
   obtain ⟨B5, hB5⟩ : ∃ B5, B5 = (j53, blk (fl eI [l[i]]) 3) :: M' := ⟨_, rfl⟩
   have sB5 : Tk.Sub M' B5 := by rw [hB5]; exact Sub.cons h53 (Sub.refl _)
   have r53 : rLs B5 eI 1 (.slice (some ⟨j53, 0, none⟩) 1 1) [l[i]] := by rw [hB5]; exact rI_lit (e := 3) [l[i]]
   rw [<- hB5]
   simp only [wk, seval]
   refine app_dL zC eI_one tInts iInt (da.frame fun y q => Sub.eq sB5 (da.in q)) r53 (by rw [List.length_singleton]; omega) (by rw [List.length_singleton]; omega) fun M5 w5 S5 d5 k5 f5 => ?_
   have kk : ∀ y, hget M' y ≠ none -> ¬ Sa y -> hget M5 y = hget M' y := fun y e1 e2 => by rw [k5 y (by rw [Sub.eq sB5 e1]; exact e1) e2, Sub.eq sB5 e1]
   simp (disch := omega) only [wk, seval, qI]
   refine ⟨l.length - (i + 1), by omega, _, .refl _, i + 1, w5, b, S5, Sb, by simp, fun y o e => ?_, by rw [htk, <- hq, if_pos rfl]; exact d5, by rw [htk, <- hq, if_neg (by simp), List.append_nil]; exact db.frame fun y q => kk y (db.in q) fun c => dd y c q, fun y q => ?_, fb, fun y q => ?_, by omega, rfl⟩
   ·rw [kk y (by rw [s _ _ e]; simp) (fun q => by rw [fa y q] at e; cases e)]; exact s _ _ e
   ·rcases f5 y q with c | c
    ·exact fa y c
    ·exact s.none' (sB5.none' c)
   ·rcases f5 y q with c | c
    ·exact dd y c
    ·exact fun c2 => db.in c2 (sB5.none' c)
  | false =>
   simp only [wk, seval]
   refine qA (o := blk (fl eI [l[i]]) 3) fun j53 h53 => ?_
   obtain ⟨B5, hB5⟩ : ∃ B5, B5 = (j53, blk (fl eI [l[i]]) 3) :: M' := ⟨_, rfl⟩
   have sB5 : Tk.Sub M' B5 := by rw [hB5]; exact Sub.cons h53 (Sub.refl _)
   have r53 : rLs B5 eI 1 (.slice (some ⟨j53, 0, none⟩) 1 1) [l[i]] := by rw [hB5]; exact rI_lit (e := 3) [l[i]]
   rw [<- hB5]
   simp only [wk, seval]
   refine app_dL zC eI_one tInts iInt (db.frame fun y q => Sub.eq sB5 (db.in q)) r53 (by rw [List.length_singleton]; omega) (by rw [List.length_singleton]; omega) fun M5 w5 S5 d5 k5 f5 => ?_
   have kk : ∀ y, hget M' y ≠ none -> ¬ Sb y -> hget M5 y = hget M' y := fun y e1 e2 => by rw [k5 y (by rw [Sub.eq sB5 e1]; exact e1) e2, Sub.eq sB5 e1]
   simp (disch := omega) only [wk, seval, qI]
   refine ⟨l.length - (i + 1), by omega, _, .refl _, i + 1, a, w5, Sa, S5, by simp, fun y o e => ?_, by rw [htk, <- hq, if_neg (by simp), List.append_nil]; exact da.frame fun y q => kk y (da.in q) fun c => dd y q c, by rw [htk, <- hq, if_pos (show (!false) = true from rfl)]; exact d5, fa, fun y q => ?_, fun y q c => ?_, by omega, rfl⟩
   ·rw [kk y (by rw [s _ _ e]; simp) (fun q => by rw [fb y q] at e; cases e)]; exact s _ _ e
   ·rcases f5 y q with c | c
    ·exact fb y c
    ·exact s.none' (sB5.none' c)
   ·rcases f5 y c with c | c
    ·exact dd y q c
    ·exact da.in q (sB5.none' c)
 ·have hi2 : i = l.length := by omega
  rw [hi2, List.take_length] at da
  try simp only [wk, seval]
  exact .of (k M' a b Sa s da fa)
end Go.Proofs.YtgbapakcfmgahaaGreatDoor
end
