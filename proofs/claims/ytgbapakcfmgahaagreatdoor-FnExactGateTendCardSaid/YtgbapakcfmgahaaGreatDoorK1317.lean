/- Parts of the proof, put together: V3, V4, V5, V6, V7, V10, Y4. -/
import Derived.Test.YtgbapakcfmgahaaGreatDoorK1316
import Derived.Test.YtgbapakcfmgahaaGreatDoorK1313
import Derived.Test.YtgbapakcfmgahaaGreatDoorK1314
import Derived.Test.YtgbapakcfmgahaaGreatDoorK1315
set_option linter.unusedVariables false
set_option linter.unusedSimpArgs false
set_option linter.defProp false
section
set_option maxRecDepth 20000
attribute [local irreducible] Go.Tk.vc Go.Tk.vops Go.Tk.vdr Go.Tk.vop Go.Tk.vfl Go.Tk.HCalls
namespace Go.Tk
open Go
def tbD : List (List UInt8) := [[], [103, 101, 116], [112, 117, 116], [97, 100, 100], [110, 101, 101, 100]]
theorem tbD_at {k : Nat} (h : 1 <= k /\ k <= 4) : ∃ hk : k < tbD.length, tbD[k] = nmD k := by
 have : k = 1 ∨ k = 2 ∨ k = 3 ∨ k = 4 := by omega
 rcases this with rfl | rfl | rfl | rfl <;> exact ⟨by decide, rfl⟩
theorem tbD_get {k : Nat} (h : 1 <= k /\ k <= 4) : (fl eT tbD)[k]? = some (.string ⟨(nmD k).toArray⟩) := by
 have : k = 1 ∨ k = 2 ∨ k = 3 ∨ k = 4 := by omega
 rcases this with rfl | rfl | rfl | rfl <;> rfl
theorem words_len (s : DStatement) : (wordsD s).length = if s.do_ = 1 then 2 else 3 := by
 unfold wordsD
 split <;> rfl
theorem deal_part {d : List DStatement} {s : List UInt8} (h : s = zD d) {i : Nat} (hi : i + 1 < (splitB 59 s).length) : ∃ hd : i < d.length, (splitB 59 s)[i] = stW d[i] := by
 have e : splitB 59 s = d.map stW ++ [[]] := by rw [h, deal_split]
 have hl := congrArg List.length e
 rw [List.length_append, List.length_map, List.length_singleton] at hl
 refine ⟨by omega, ?_⟩
 have : ∀ (m : List (List UInt8)) (hm : i < m.length), m = d.map stW ++ [[]] -> m[i] = stW (d[i]'(by omega)) := by
  rintro m hm rfl
  rw [List.getElem_append_left (by rw [List.length_map]; omega), List.getElem_map]
 exact this _ (by omega) e
end Go.Tk
namespace Go.Proofs.YtgbapakcfmgahaaGreatDoor
open Go Go.Tk
theorem cStatement_one (l : List DStatement) : (fl qM l).all vone = true := by induction l <;> simp_all [fl, qM, vone]
theorem specRead_c {h : H} {s : List UInt8} (hs : s.length <= 4194304) {R : Ending -> H -> Prop} (k : ∀ v g l ok, OutD s l ok -> oLs 146 qM 3 v l g -> Dj g h -> R (.returned (.tuple #[v, .bool ok])) (g ++ h)) :
  HCalls Tryz.prog 89 #[.string ⟨s.toArray⟩] h R := by
 refine qB (args := [.string ⟨s.toArray⟩]) Tryz.func89 ir89 ?_
 have zs := zStatement_eq
 simp only [wk, seval, str, zs]
 refine qA (o := blk (fl qM []) 146) fun jn hjn => ?_
 have on : oLs 146 qM 3 (.slice (some ⟨jn, 0, none⟩) 0 0) [] [(jn, blk (fl qM []) 146)] := oLs_new zM
 have sn := Sub.cons (o := blk (fl qM []) 146) hjn (Sub.refl h)
 have bad : ∀ {M : H}, Tk.Sub ((jn, blk (fl qM []) 146) :: h) M -> (∀ d, dealP d -> s = zD d -> s.length <= 80 -> False) -> dP R (.returned (.tuple #[.slice (some ⟨jn, 0, none⟩) 0 0, .bool false])) M := fun {M} sM e => ⟨_, sM, k _ _ [] false (.inr ⟨rfl, rfl, e⟩) on (by simp only [subs, hjn])⟩
 simp only [wk, seval, str, zs]
 refine qF (fun c => bad (.refl _) fun d _ _ h => by omega) fun c => ?_
 refine qA (o := blk (fl qM []) 146) fun jo hjo => ?_
 have no := hjo
 simp only [subs] at no
 have ejn : ¬ jn = jo := fun e => no.1 e.symm
 have oo : oLs 146 qM 3 (.slice (some ⟨jo, 0, none⟩) 0 0) [] [(jo, blk (fl qM []) 146)] := oLs_new zM
 simp only [wk, seval, str, zs]
 refine (l1Cut_c (c := 59) (by omega) fun pv gp op dp => ?_)
 obtain ⟨ps, hps⟩ : ∃ ps, ps = splitB 59 s := ⟨_, rfl⟩
 rw [<- hps] at op
 have dpx := dp
 simp only [subs] at dpx
 obtain ⟨B, hB⟩ : ∃ B, B = gp ++ ((jn, blk (fl qM []) 146) :: h) := ⟨_, rfl⟩
 have sB : Tk.Sub ((jn, blk (fl qM []) 146) :: h) B := by rw [hB]; (repeat' first | exact Sub.refl _ | exact Sub.nil _ | assumption | refine Sub.both ?_ ?_ | refine Sub.cons_of (by simp only [subs, dpx, hjn]) ?_ | exact Sub.left _ _ | refine Sub.app (by simp only [subs, dpx, hjn]) ?_ | refine Sub.cons (by simp only [subs, dpx, hjn]) ?_)
 have rpB : rLs B eT 1 pv ps := op.rd.sub (by rw [hB]; exact Sub.left _ _)
 have hpl : ps.length <= 82 /\ ∀ w ∈ ps, w.length <= 80 := by
  have := splitB_len 59 s
  rw [hps]
  exact ⟨by omega, fun w hw => by have := this.2 w hw; omega⟩
 have hBo : hget B jo = none := by rw [hB]; simp only [subs, dpx, no]
 simp only [wk, seval, str, zs, op.rd.len]
 refine vc_loopS [7, 5] (fun n vs h' => ∃ (i : Nat) (v : Value) (xs : List DStatement) (G : H), vs = [.int .i64 i, v] /\ h' = G ++ B /\ Dj G B /\ oLs 146 qM 3 v xs G /\ xs.length = i /\ (∀ d, dealP d -> s = zD d -> xs = d.take i) /\ i <= ps.length /\ n = ps.length - i) ps.length rfl
  (g0 := [(jo, blk (fl qM []) 146)] ++ B) (by rw [hB]; (repeat' first | exact Sub.refl _ | exact Sub.nil _ | assumption | refine Sub.both ?_ ?_ | refine Sub.cons_of (by simp only [subs, dpx, hjn, no, ejn]) ?_ | exact Sub.left _ _ | refine Sub.app (by simp only [subs, dpx, hjn, no, ejn]) ?_ | refine Sub.cons (by simp only [subs, dpx, hjn, no, ejn]) ?_)) ⟨0, _, [], _, rfl, rfl, by simp only [subs, hBo], oo, rfl, by simp, by omega, rfl⟩ ?_
 rintro n f h' ⟨i, v, xs, G, hv, rfl, dG, oG, hxl, hin, hi, rfl⟩
 simp only [lm4] at hv
 have sG := Sub.right dG
 simp (disch := omega) only [wk, seval, wr, hv.1, hv.2, (rpB.sub sG).len, qI, str, zs]
 refine qF (fun c1 => ?_) fun c1 => ?_
 ·have hi2 : i < ps.length := by omega
  refine zJ (i := i) eT_len (rpB.sub sG) rfl hi2 fun b1 o1 e1 => ?_
  have e1' : qQ (G ++ B) b1 o1 1 = some [.string ⟨ps[i].toArray⟩] := e1
  simp only [wk, seval, zW e1', str, zs]
  have hwl := hpl.2 _ (List.getElem_mem hi2)
  refine (l1Cut_c (c := 32) (by omega) fun wv gw ow dw => ?_)
  obtain ⟨ws, hws⟩ : ∃ ws, ws = splitB 32 ps[i] := ⟨_, rfl⟩
  rw [<- hws] at ow
  obtain ⟨w0, wr0, hw0⟩ : ∃ w0 wr0, ws = w0 :: wr0 := by
   cases e : ws with
   | nil => exact absurd (hws.symm.trans e) (splitB_ne _ _)
   | cons a b => exact ⟨a, b, rfl⟩
  have hwsl : ws.length <= 82 /\ ∀ w ∈ ws, w.length <= 80 := by
   have := splitB_len 32 ps[i]
   rw [hws]
   exact ⟨by omega, fun w hw => by have := this.2 w hw; omega⟩
  simp only [wk, seval, str, zs]
  refine qA fun j9 hj9 => ?_
  have n9 := hj9
  simp only [subs] at n9
  simp only [wk, seval, qP, str, zs]
  have sW : Tk.Sub (gw ++ (G ++ B)) (gw ++ (G ++ B)) := .refl _
  have rW : rLs (gw ++ (G ++ B)) eT 1 wv ws := ow.rd.sub (Sub.left _ _)
  have sGw := Sub.right dw
  have sj9 : ∀ x, Tk.Sub (gw ++ (G ++ B)) ((j9, blk (qM x) 146) :: (gw ++ (G ++ B))) := fun x => Sub.cons hj9 (Sub.refl _)
  obtain ⟨M, hM⟩ : ∃ M, M = gw ++ (G ++ B) := ⟨_, rfl⟩
  rw [<- hM] at hj9 rW sGw sj9 ⊢
  have stw : ∀ st, ps[i] = stW st -> ws = wordsD st := fun st e => by rw [hws, e, stW_split]
  refine qS [10] (fun n vs h' => ∃ (q : Nat) (x : DStatement), vs = [.int .i64 q] /\ h' = (j9, blk (qM x) 146) :: M /\ x.key = 0 /\ x.num = 0 /\ 1 <= q /\ q <= 5 /\ (∀ st, stP st -> ps[i] = stW st -> x.do_ = if st.do_ < q then st.do_ else 0) /\ n = 5 - q) 4 rfl
   ⟨1, zStatement, rfl, rfl, rfl, rfl, by omega, by omega, fun st hst _ => by rw [if_neg (by have := hst.1; unfold inP at this; omega)]; rfl, rfl⟩ ?_
  rintro n f' h' ⟨q, x, hv', rfl, hx1, hx2, hq1, hq2, hxd, rfl⟩
  simp only [lm4] at hv'
  simp only [wk, seval, wr, hv', qP, str, zs]
  refine ite_ge (fun c2 => ?_) fun c2 => ?_
  ·have hq4 : q <= 4 := by omega
   refine qY _ (Sub.refl _) ?_
   simp only [wk, seval, qP, str]
   refine zJ (i := 0) eT_len (rW.sub (sj9 x)) rfl (by rw [hw0]; simp) fun b2 o2 e2 => ?_
   have e2' : qQ ((j9, blk (qM x) 146) :: M) b2 o2 1 = some [.string ⟨w0.toArray⟩] := by rw [e2]; simp only [hw0]; rfl
   simp only [wk, seval, zW e2', qP, str]
   refine qA (o := blk (fl eT tbD) 9) fun j5 hj5 => ?_
   have sj5 := Sub_new (o := blk (fl eT tbD) 9) hj5
   simp only [wk, seval, sj5]
   refine ⟨⟨by omega, by omega⟩, ?_⟩
   rw [tbD_get ⟨hq1, hq4⟩]
   have n5 := hj5
   simp only [subs] at n5
   have e95 : ¬ j9 = j5 := fun e => n5.1 e.symm
   simp only [wk, seval, sj5, qP, str, strBin, str_inj, e95]
   have nx : ∀ x' : DStatement, x'.key = 0 -> x'.num = 0 -> (∀ st, stP st -> ps[i] = stW st -> x'.do_ = if st.do_ < ((q + 1 : Nat) : Int) then st.do_ else 0) ->
     ∃ m, m < 5 - q /\ ∃ g', Tk.Sub g' ((j5, blk (fl eT tbD) 9) :: (j9, blk (qM x') 146) :: M) /\ ∃ (q' : Nat) (x'' : DStatement), [Value.int IntKind.i64 (IntKind.i64.wrap ((q : Int) + 1))] = [Value.int IntKind.i64 q'] /\ g' = (j9, blk (qM x'') 146) :: M /\ x''.key = 0 /\ x''.num = 0 /\ 1 <= q' /\ q' <= 5 /\ (∀ st, stP st -> ps[i] = stW st -> x''.do_ = if st.do_ < q' then st.do_ else 0) /\ m = 5 - q' := fun x' h1 h2 h3 =>
    ⟨5 - (q + 1), by omega, _, Sub.cons (by simp only [subs, n5]) (Sub.refl _), q + 1, x', by simp (disch := omega) only [qI]; simp, rfl, h1, h2, by omega, by omega, h3, rfl⟩
   refine qZ (fun c4 => ?_) fun c4 => ?_
   ·refine nx { x with do_ := q } hx1 hx2 fun st hst e => ?_
    have hw := stw st e
    rw [hw0] at hw
    have hnm : w0 = nmD st.do_ := (List.cons.inj hw).1
    have hd := hst.1
    unfold inP at hd
    have := nmD_inj (m := (q : Int)) (n := st.do_) (by omega) (by omega) (by rw [<- c4, hnm])
    rw [if_pos (by omega), this]
   ·refine nx x hx1 hx2 fun st hst e => ?_
    have hw := stw st e
    rw [hw0] at hw
    have hnm : w0 = nmD st.do_ := (List.cons.inj hw).1
    rw [hxd st hst e]
    have hne : st.do_ ≠ (q : Int) := fun e2 => c4 (by rw [hnm, e2])
    by_cases c5 : st.do_ < (q : Int)
    ·rw [if_pos c5, if_pos (by omega)]
    ·rw [if_neg c5, if_neg (by omega)]
  ·have hq5 : q = 5 := by omega
   subst hq5
   have hdo : ∀ st, stP st -> ps[i] = stW st -> x.do_ = st.do_ := fun st hst e => by
    rw [hxd st hst e, if_pos]
    have := hst.1
    unfold inP at this
    omega
   have rWl : ∀ {f : Value -> Prop}, lenSK wv f = f (.int .i64 ws.length) := fun {f} => rW.len (f := f)
   have hwlen : ∀ st, ps[i] = stW st -> ws.length = if st.do_ = 1 then 2 else 3 := fun st e => by rw [stw st e, words_len]
   simp only [wk, seval, qP, str, zs, rWl]
   have nxt : ∀ x', (∀ st, stP st -> ps[i] = stW st -> x' = st) -> ∀ d, dealP d -> s = zD d -> xs ++ [x'] = d.take (i + 1) := fun x' hx' d hd e => by
    obtain ⟨hdl, hp⟩ := deal_part e (i := i) (by rw [<- hps]; omega)
    have hp' : ps[i] = stW d[i] := by
     have : ∀ (m : List (List UInt8)) (hm : i < m.length), m = splitB 59 s -> m[i] = stW d[i] := by rintro m hm rfl; exact hp
     exact this ps hi2 hps
    rw [List.take_succ_eq_append_getElem hdl, hin d hd e, hx' _ (hd.2.2 _ (List.getElem_mem hdl)) hp']
   have w1 : ∀ st, ps[i] = stW st -> ∀ (h1 : 1 < ws.length), ws[1] = decI st.key := fun st e h1 => by
    have : ∀ (m : List (List UInt8)) (hm : 1 < m.length), m = wordsD st -> m[1] = decI st.key := by rintro m hm rfl; rfl
    exact this ws h1 (stw st e)
   have w2 : ∀ st, ps[i] = stW st -> ∀ (h1 : 2 < ws.length), ws[2] = decI st.num := fun st e h1 => by
    have : ∀ (m : List (List UInt8)) (hm : 2 < m.length), m = wordsD st -> m[2] = decI st.num := by
     rintro m hm rfl
     unfold wordsD at hm ⊢
     by_cases c : st.do_ = 1
     ·simp only [if_pos c, List.length_cons, List.length_nil] at hm; omega
     ·simp only [if_neg c]; rfl
    exact this ws h1 (stw st e)
   have eqS : ∀ {a b : DStatement}, a.do_ = b.do_ -> a.key = b.key -> a.num = b.num -> a = b := fun {a b} h1 h2 h3 => by
    obtain ⟨a1, a2, a3⟩ := a
    obtain ⟨b1, b2, b3⟩ := b
    simp only at h1 h2 h3
    rw [h1, h2, h3]
   refine qF (fun c5 => ?_) fun c5 => ?_
   ·have l1 : 1 < ws.length := by omega
    refine zJ (i := 1) eT_len (rW.sub (sj9 x)) rfl l1 fun b3 o3 e3 => ?_
    have e3' : qQ ((j9, blk (qM x) 146) :: M) b3 o3 1 = some [.string ⟨(ws[1]).toArray⟩] := e3
    simp only [wk, seval, zW e3', qP, str, zs]
    refine l1NumI_c (by have := hwsl.2 _ (List.getElem_mem l1); omega) fun n1 ok1 hn1 _ hb1 => ?_
    simp only [wk, seval, qP, str, zs, rWl]
    have hk1 : ∀ st, stP st -> ps[i] = stW st -> n1 = st.key := fun st hst e => (hn1 st.key (stP_sm hst).1 (w1 st e l1)).2
    refine qF (fun c6 => ?_) fun c6 => ?_
    ·have l2 : 2 < ws.length := by omega
     refine zJ (i := 2) eT_len (rW.sub (sj9 { x with key := n1 })) rfl l2 fun b4 o4 e4 => ?_
     have e4' : qQ ((j9, blk (qM { x with key := n1 }) 146) :: M) b4 o4 1 = some [.string ⟨(ws[2]).toArray⟩] := e4
     simp only [wk, seval, zW e4', qP, str, zs]
     refine l1NumI_c (by have := hwsl.2 _ (List.getElem_mem l2); omega) fun n2 ok2 hn2 _ hb2 => ?_
     simp only [wk, seval, qP, str, zs, rWl]
     have hm : ∀ st, stP st -> ps[i] = stW st -> { x with key := n1, num := n2 } = st := fun st hst e => eqS (hdo st hst e) (hk1 st hst e) (hn2 st.num (stP_sm hst).2 (w2 st e l2)).2
     refine qA (o := blk (fl qM [{ x with key := n1, num := n2 }]) 146) fun j7 hj7 => ?_
     simp only [wk, seval, qP, str, zs]
     refine app_leaf (g := G) (h := B) zM cStatement_one tStatements iStatement (sGw.trans ((sj9 _).trans (Sub.cons hj7 (Sub.refl _)))) dG oG (rL_lit (e := 146) zM [{ x with key := n1, num := n2 }]) (by simp; omega) (by simp; omega) fun v2 g2 o2 d2 => ?_
     simp (disch := omega) only [wk, seval, qI]
     refine ⟨ps.length - (i + 1), by omega, _, .refl _, i + 1, v2, _, g2, by simp, rfl, d2, o2, by simp [hxl], fun d hd e => ?_, by omega, rfl⟩
     exact nxt { x with key := n1, num := n2 } hm d hd e
    ·have hm : ∀ st, stP st -> ps[i] = stW st -> { x with key := n1 } = st := fun st hst e => eqS (hdo st hst e) (hk1 st hst e) (by
      have hl := hwlen st e
      have hd1 : st.do_ = 1 := by
       by_cases c : st.do_ = 1
       ·exact c
       ·rw [if_neg c] at hl; omega
      rw [hst.2.2.2 hd1]; exact hx2)
     refine qA (o := blk (fl qM [{ x with key := n1 }]) 146) fun j7 hj7 => ?_
     simp only [wk, seval, qP, str, zs]
     refine app_leaf (g := G) (h := B) zM cStatement_one tStatements iStatement (sGw.trans ((sj9 _).trans (Sub.cons hj7 (Sub.refl _)))) dG oG (rL_lit (e := 146) zM [{ x with key := n1 }]) (by simp; omega) (by simp; omega) fun v2 g2 o2 d2 => ?_
     simp (disch := omega) only [wk, seval, qI]
     refine ⟨ps.length - (i + 1), by omega, _, .refl _, i + 1, v2, _, g2, by simp, rfl, d2, o2, by simp [hxl], fun d hd e => ?_, by omega, rfl⟩
     exact nxt { x with key := n1 } hm d hd e
   ·have c6 : ¬ (2 : Int) < ws.length := by omega
    simp only [wk, seval, qP, str, zs, rWl, c6, if_false]
    have hm : ∀ st, stP st -> ps[i] = stW st -> x = st := fun st hst e => by
     have hl := hwlen st e
     split at hl <;> omega
    refine qA (o := blk (fl qM [x]) 146) fun j7 hj7 => ?_
    simp only [wk, seval, qP, str, zs]
    refine app_leaf (g := G) (h := B) zM cStatement_one tStatements iStatement (sGw.trans ((sj9 _).trans (Sub.cons hj7 (Sub.refl _)))) dG oG (rL_lit (e := 146) zM [x]) (by simp; omega) (by simp; omega) fun v2 g2 o2 d2 => ?_
    simp (disch := omega) only [wk, seval, qI]
    refine ⟨ps.length - (i + 1), by omega, _, .refl _, i + 1, v2, _, g2, by simp, rfl, d2, o2, by simp [hxl], fun d hd e => ?_, by omega, rfl⟩
    exact nxt x hm d hd e
 ·have fin : ∀ d, dealP d -> s = zD d -> xs = d := fun d hd e => by
   rw [hin d hd e]
   refine List.take_of_length_le ?_
   have := congrArg List.length (hps.trans (by rw [e, deal_split]))
   rw [List.length_append, List.length_map, List.length_singleton] at this
   omega
  have hx82 : xs.length <= 82 := by omega
  simp only [wk, seval, str, strBin, str_inj]
  refine qZ (fun c2 => bad (sB.trans sG) fun d hd e _ => ?_) fun c2 => ?_
  ·have h1 := hd.1
   cases d with
   | nil => simp at h1
   | cons a d =>
    rw [c2, dealText_cons] at e
    have := congrArg List.length e
    simp at this
  ·refine dealWrite_c (oG.rd.sub (Sub.left _ _)) (by omega) fun t ht => ?_
   simp only [wk, seval, str, strBin, str_inj]
   refine zK (fun c3 => bad (sB.trans sG) fun d hd e _ => ?_) fun c3 => ?_
   ·have := fin d hd e
    rcases ht with ⟨_, ht⟩ | ⟨hn, _⟩
    ·rw [this, <- e] at ht
     exact c3 ht
    ·rw [this] at hn
     exact hn hd
   ·rcases ht with ⟨hp, ht⟩ | ⟨_, ht⟩
    ·have dh : Dj G h := by
      have := dG
      rw [hB] at this
      simp only [subs] at this
      exact this.2.2
     refine ⟨G ++ h, ?_, k v G xs true (.inl ⟨rfl, hp, by rw [<- c3, ht], by omega⟩) oG dh⟩
     rw [hB] at dG ⊢
     have dg := dG
     simp only [subs] at dg
     (repeat' first | exact Sub.refl _ | exact Sub.nil _ | assumption | refine Sub.both ?_ ?_ | refine Sub.cons_of (by simp only [subs, dg, dpx, hjn]) ?_ | exact Sub.left _ _ | refine Sub.app (by simp only [subs, dg, dpx, hjn]) ?_ | refine Sub.cons (by simp only [subs, dg, dpx, hjn]) ?_)
    ·exact absurd (by rw [<- c3, ht]) c2
end Go.Proofs.YtgbapakcfmgahaaGreatDoor
end

section
set_option maxRecDepth 20000
attribute [local irreducible] Go.Tk.vc Go.Tk.vops Go.Tk.vdr Go.Tk.vop Go.Tk.vfl Go.Tk.HCalls
namespace Go.Tk
open Go
def tb4 : List (List UInt8) := [[103, 101, 116], [112, 117, 116], [97, 100, 100], [110, 101, 101, 100]]
theorem tb4_nm {n : Int} (h : 1 <= n /\ n <= 4) : ∃ (i : Nat) (hi : i < tb4.length), (i : Int) = n - 1 /\ tb4[i] = nmD n /\ ∀ j (hj : j < i), tb4[j]'(by omega) ≠ nmD n := by
 have : n = 1 ∨ n = 2 ∨ n = 3 ∨ n = 4 := by omega
 rcases this with rfl | rfl | rfl | rfl
 ·refine ⟨0, by decide, rfl, rfl, fun j hj => ?_⟩
  exact absurd hj (Nat.not_lt_zero _)
 ·refine ⟨1, by decide, rfl, rfl, fun j hj => ?_⟩
  have : j = 0 := by omega
  subst this
  show ([103, 101, 116] : List UInt8) ≠ [112, 117, 116]
  decide
 ·refine ⟨2, by decide, rfl, rfl, fun j hj => ?_⟩
  have : j = 0 ∨ j = 1 := by omega
  rcases this with rfl | rfl
  ·show ([103, 101, 116] : List UInt8) ≠ [97, 100, 100]
   decide
  ·show ([112, 117, 116] : List UInt8) ≠ [97, 100, 100]
   decide
 ·refine ⟨3, by decide, rfl, rfl, fun j hj => ?_⟩
  have : j = 0 ∨ j = 1 ∨ j = 2 := by omega
  rcases this with rfl | rfl | rfl
  ·show ([103, 101, 116] : List UInt8) ≠ [110, 101, 101, 100]
   decide
  ·show ([112, 117, 116] : List UInt8) ≠ [110, 101, 101, 100]
   decide
  ·show ([97, 100, 100] : List UInt8) ≠ [110, 101, 101, 100]
   decide
end Go.Tk
namespace Go.Proofs.YtgbapakcfmgahaaGreatDoor
open Go Go.Tk
theorem readStatement_c {h : H} {s : List UInt8} (gl : Gl h) (gm : MxL h) (hs : s.length <= 4000000) {R : Ending -> H -> Prop} (k : ∀ x ok, (∀ st, stP st -> s = stW st -> ok = true /\ x = st) -> R (.returned (.tuple #[.agg (qM x).toArray, .bool ok])) h) :
  HCalls Tryz.prog 140 #[.string ⟨s.toArray⟩] h R := by
 refine qB (args := [.string ⟨s.toArray⟩]) Tryz.func140 ir140 ?_
 have zs := zStatement_eq
 simp only [wk, seval, str, zs]
 refine qA fun j2 hj2 => ?_
 have s2 := fun o => Sub.cons (o := o) hj2 (Sub.refl h)
 simp only [wk, seval, str, zs]
 refine split_c (c := 32) (gm.sub (s2 _)) (by omega) fun wv gw ow dw => ?_
 obtain ⟨ws, hws⟩ : ∃ ws, ws = splitB 32 s := ⟨_, rfl⟩
 rw [<- hws] at ow
 have dwx := dw
 simp only [subs] at dwx
 obtain ⟨w0, wr0, hw0⟩ : ∃ w0 wr0, ws = w0 :: wr0 := by
  cases e : ws with
  | nil => exact absurd (hws.symm.trans e) (splitB_ne _ _)
  | cons a b => exact ⟨a, b, rfl⟩
 have hwsl : ws.length <= 4000001 /\ ∀ w ∈ ws, w.length <= 4000000 := by
  have := splitB_len 32 s
  rw [hws]
  exact ⟨by omega, fun w hw => by have := this.2 w hw; omega⟩
 have stw : ∀ st, s = stW st -> ws = wordsD st := fun st e => by rw [hws, e, stW_split]
 have sM : ∀ o, Tk.Sub h (gw ++ ((j2, o) :: h)) := fun o => by (repeat' first | exact Sub.refl _ | exact Sub.nil _ | assumption | refine Sub.both ?_ ?_ | refine Sub.cons_of (by simp only [subs, dwx, hj2]) ?_ | exact Sub.left _ _ | refine Sub.app (by simp only [subs, dwx, hj2]) ?_ | refine Sub.cons (by simp only [subs, dwx, hj2]) ?_)
 have rW : ∀ o, rLs (gw ++ ((j2, o) :: h)) eT 1 wv ws := fun o => ow.rd.sub (Sub.left _ _)
 have rWl : ∀ {f : Value -> Prop}, lenSK wv f = f (.int .i64 ws.length) := fun {f} => (rW (blk [] 0)).len (f := f)
 simp only [wk, seval, str, zs]
 refine qA (o := blk (fl eT tb4) 9) fun j5 hj5 => ?_
 have n5 := hj5
 simp only [subs] at n5
 have s5 := Sub.cons (o := blk (fl eT tb4) 9) hj5 (Sub.refl (gw ++ ((j2, blk (qM zStatement) 146) :: h)))
 simp only [wk, seval, str, zs]
 refine zJ (i := 0) eT_len ((rW _).sub s5) rfl (by rw [hw0]; simp) fun b2 o2 e2 => ?_
 have e2' : qQ ((j5, blk (fl eT tb4) 9) :: (gw ++ ((j2, blk (qM zStatement) 146) :: h))) b2 o2 1 = some [.string ⟨w0.toArray⟩] := by rw [e2]; simp only [hw0]; rfl
 simp only [wk, seval, zW e2', str, zs]
 refine index_of_c (rL_lit eT_len tb4) (by decide) fun n hn1 hn2 hn3 => ?_
 have hn4 : n < 4 := hn3.2
 have hdo : ∀ st, stP st -> s = stW st -> n + 1 = st.do_ := fun st hst e => by
  have hw := stw st e
  rw [hw0] at hw
  have hd := hst.1
  unfold inP at hd
  obtain ⟨i, hi, h1, h2, h3⟩ := tb4_nm (n := st.do_) hd
  rw [<- (List.cons.inj hw).1] at h2 h3
  have := hn1 i hi h2 h3
  omega
 have wlen : ∀ st, s = stW st -> ws.length = if st.do_ = 1 then 2 else 3 := fun st e => by rw [stw st e, words_len]
 have w1 : ∀ st, s = stW st -> ∀ (h1 : 1 < ws.length), ws[1] = decI st.key := fun st e h1 => by
  have : ∀ (m : List (List UInt8)) (hm : 1 < m.length), m = wordsD st -> m[1] = decI st.key := by rintro m hm rfl; rfl
  exact this ws h1 (stw st e)
 have w2 : ∀ st, s = stW st -> ∀ (h1 : 2 < ws.length), ws[2] = decI st.num := fun st e h1 => by
  have : ∀ (m : List (List UInt8)) (hm : 2 < m.length), m = wordsD st -> m[2] = decI st.num := by
   rintro m hm rfl
   unfold wordsD at hm ⊢
   by_cases c : st.do_ = 1
   ·simp only [if_pos c, List.length_cons, List.length_nil] at hm; omega
   ·simp only [if_neg c]; rfl
  exact this ws h1 (stw st e)
 have eqS : ∀ {a b : DStatement}, a.do_ = b.do_ -> a.key = b.key -> a.num = b.num -> a = b := fun {a b} h1 h2 h3 => by
  obtain ⟨a1, a2, a3⟩ := a
  obtain ⟨b1, b2, b3⟩ := b
  simp only at h1 h2 h3
  rw [h1, h2, h3]
 have bad : ∀ {o : Obj} {x : DStatement} {M : H}, Tk.Sub h M -> (∀ st, stP st -> s = stW st -> False) -> dP R (.returned (.tuple #[.agg (qM x).toArray, .bool false])) M := fun {o x M} sm e => ⟨h, sm, k x false fun st a b => (e st a b).elim⟩
 have e25 : ¬ j2 = j5 := fun e => n5.2.1 e.symm
 have sH : ∀ o, Tk.Sub h ((j5, blk (fl eT tb4) 9) :: (gw ++ ((j2, o) :: h))) := fun o => by (repeat' first | exact Sub.refl _ | exact Sub.nil _ | assumption | refine Sub.both ?_ ?_ | refine Sub.cons_of (by simp only [subs, dwx, hj2, n5]) ?_ | exact Sub.left _ _ | refine Sub.app (by simp only [subs, dwx, hj2, n5]) ?_ | refine Sub.cons (by simp only [subs, dwx, hj2, n5]) ?_)
 simp (disch := omega) only [wk, seval, str, zs, qI, rWl]
 have a1 : ∀ st, stP st -> s = stW st -> ∀ (h1 : 1 < ws.length), Lib.atoiAll ws[1] = .ok st.key := fun st hst e h1 => by rw [w1 st e h1]; exact atoi_dec (stP_sm hst).1
 have a2 : ∀ st, stP st -> s = stW st -> ∀ (h1 : 2 < ws.length), Lib.atoiAll ws[2] = .ok st.num := fun st hst e h1 => by rw [w2 st e h1]; exact atoi_dec (stP_sm hst).2
 refine qZ (fun c1 => ?_) fun c1 => ?_
 ·have c0 : ¬ (1 + n = 0) := by omega
  simp (disch := omega) only [wk, seval, qP, str, zs, qI, rWl, c0, if_false]
  simp only [wk, seval, qP, str, zs, apps, dwx, e25]
  refine zK (fun c2 => bad (o := blk [] 0) (sH _) fun st hst e => ?_) fun c2 => ?_
  ·have := wlen st e
   rw [if_pos (by have := hdo st hst e; omega)] at this
   omega
  refine qA fun j7 hj7 => ?_
  have n7 := hj7
  simp only [subs] at n7
  have e75 : ¬ j5 = j7 := fun e => n7.1 e.symm
  have e72 : ¬ j2 = j7 := fun e => n7.2.2.1 e.symm
  have s7 := fun o => Sub.cons (o := o) hj7 (Sub.refl ((j5, blk (fl eT tb4) 9) :: (gw ++ ((j2, blk (qM zStatement) 146) :: h))))
  simp only [wk, seval, qP, str, zs, apps, dwx, e25, e75, e72]
  have l1 : 1 < ws.length := by omega
  refine zJ (i := 1) eT_len (((rW _).sub s5).sub (s7 (blk (qM { zStatement with do_ := 1 + n }) 146))) rfl l1 fun b3 o3 e3 => ?_
  have e3' : qQ ((j7, blk (qM { zStatement with do_ := 1 + n }) 146) :: ((j5, blk (fl eT tb4) 9) :: (gw ++ ((j2, blk (qM zStatement) 146) :: h)))) b3 o3 1 = some [.string ⟨(ws[1]).toArray⟩] := e3
  simp only [wk, seval, zW e3', qP, str, zs]
  refine atoiL_c (gl.sub ((sH _).trans (s7 _))) (by have := hwsl.2 _ (List.getElem_mem l1); omega) fun n1 x1 hn1 rn1 tn1 => ?_
  have bd1 : x1 ≠ .nilIface -> ∀ st, stP st -> s = stW st -> False := fun hx st hst e => hx (hn1 _ (a1 st hst e l1)).2
  simp only [wk, seval, qP, str, zs, apps, dwx, e25, e75, e72]
  rcases tn1 with rfl | ⟨y1, p1, rfl⟩
  rotate_left
  ·simp only [wk, seval, qP, str, zs, apps, dwx, e25, e75, e72]
   exact bad (o := blk [] 0) ((sH _).trans (s7 _)) (bd1 (by simp))
  simp only [wk, seval, qP, str, zs, apps, dwx, e25, e75, e72]
  refine ⟨rfl, ⟨h, (sH _).trans (Sub.cons (by simp only [subs, n7]) (Sub.refl _)), k _ true fun st hst e => ⟨rfl, eqS ?_ ?_ ?_⟩⟩⟩
  ·show 1 + n = st.do_
   have := hdo st hst e; omega
  ·exact (hn1 _ (a1 st hst e l1)).1
  ·exact (hst.2.2.2 (by have := hdo st hst e; omega)).symm
 ·refine qZ (fun c0 => ?_) fun c0 => ?_
  ·simp only [wk, seval, qP, str, zs, apps, dwx, e25]
   refine bad (o := blk [] 0) (sH _) fun st hst e => ?_
   have h1 := hdo st hst e
   have h2 := hst.1
   unfold inP at h2
   omega
  ·simp (disch := omega) only [wk, seval, qP, str, zs, qI, rWl]
   simp only [wk, seval, qP, str, zs, apps, dwx, e25]
   refine zK (fun c2 => bad (o := blk [] 0) (sH _) fun st hst e => ?_) fun c2 => ?_
   ·have := wlen st e
    rw [if_neg (by have := hdo st hst e; omega)] at this
    omega
   refine qA fun j7 hj7 => ?_
   have n7 := hj7
   simp only [subs] at n7
   have e75 : ¬ j5 = j7 := fun e => n7.1 e.symm
   have e72 : ¬ j2 = j7 := fun e => n7.2.2.1 e.symm
   have s7 := fun o => Sub.cons (o := o) hj7 (Sub.refl ((j5, blk (fl eT tb4) 9) :: (gw ++ ((j2, blk (qM zStatement) 146) :: h))))
   simp only [wk, seval, qP, str, zs, apps, dwx, e25, e75, e72]
   have l1 : 1 < ws.length := by omega
   have l2 : 2 < ws.length := by omega
   refine zJ (i := 1) eT_len (((rW _).sub s5).sub (s7 (blk (qM { zStatement with do_ := 1 + n }) 146))) rfl l1 fun b3 o3 e3 => ?_
   have e3' : qQ ((j7, blk (qM { zStatement with do_ := 1 + n }) 146) :: ((j5, blk (fl eT tb4) 9) :: (gw ++ ((j2, blk (qM zStatement) 146) :: h)))) b3 o3 1 = some [.string ⟨(ws[1]).toArray⟩] := e3
   simp only [wk, seval, zW e3', qP, str, zs]
   refine atoiL_c (gl.sub ((sH _).trans (s7 _))) (by have := hwsl.2 _ (List.getElem_mem l1); omega) fun n1 x1 hn1 rn1 tn1 => ?_
   have bd1 : x1 ≠ .nilIface -> ∀ st, stP st -> s = stW st -> False := fun hx st hst e => hx (hn1 _ (a1 st hst e l1)).2
   simp only [wk, seval, qP, str, zs, apps, dwx, e25, e75, e72]
   rcases tn1 with rfl | ⟨y1, p1, rfl⟩
   rotate_left
   ·simp only [wk, seval, qP, str, zs, apps, dwx, e25, e75, e72]
    exact bad (o := blk [] 0) ((sH _).trans (s7 _)) (bd1 (by simp))
   simp only [wk, seval, qP, str, zs, apps, dwx, e25, e75, e72]
   refine ⟨rfl, ?_⟩
   refine zJ (i := 2) eT_len (((rW _).sub s5).sub (s7 (blk (qM { zStatement with do_ := 1 + n, key := n1 }) 146))) rfl l2 fun b4 o4 e4 => ?_
   have e4' : qQ ((j7, blk (qM { zStatement with do_ := 1 + n, key := n1 }) 146) :: ((j5, blk (fl eT tb4) 9) :: (gw ++ ((j2, blk (qM zStatement) 146) :: h)))) b4 o4 1 = some [.string ⟨(ws[2]).toArray⟩] := e4
   simp only [wk, seval, zW e4', qP, str, zs]
   refine atoiL_c (gl.sub ((sH _).trans (s7 _))) (by have := hwsl.2 _ (List.getElem_mem l2); omega) fun n2 x2 hn2 rn2 tn2 => ?_
   have bd2 : x2 ≠ .nilIface -> ∀ st, stP st -> s = stW st -> False := fun hx st hst e => hx (hn2 _ (a2 st hst e l2)).2
   simp only [wk, seval, qP, str, zs, apps, dwx, e25, e75, e72]
   rcases tn2 with rfl | ⟨y2, p2, rfl⟩
   rotate_left
   ·simp only [wk, seval, qP, str, zs, apps, dwx, e25, e75, e72]
    exact bad (o := blk [] 0) ((sH _).trans (s7 _)) (bd2 (by simp))
   simp only [wk, seval, qP, str, zs, apps, dwx, e25, e75, e72]
   refine ⟨rfl, ?_⟩
   refine ⟨h, (sH _).trans (Sub.cons (by simp only [subs, n7]) (Sub.refl _)), k _ true fun st hst e => ⟨rfl, eqS ?_ ?_ ?_⟩⟩
   ·show 1 + n = st.do_
    have := hdo st hst e; omega
   ·exact (hn1 _ (a1 st hst e l1)).1
   ·exact (hn2 _ (a2 st hst e l2)).1
end Go.Proofs.YtgbapakcfmgahaaGreatDoor
end

section
set_option maxRecDepth 20000
attribute [local irreducible] Go.Tk.vc Go.Tk.vops Go.Tk.vdr Go.Tk.vop Go.Tk.vfl Go.Tk.HCalls
namespace Go.Proofs.YtgbapakcfmgahaaGreatDoor
open Go Go.Tk
def stepV (s : DStatement) : Value := if s.do_ = 1 then .iface 243 (.agg #[.int .i64 s.key]) else if s.do_ = 2 then .iface 245 (.agg #[.int .i64 s.key, .int .i64 s.num]) else if s.do_ = 3 then .iface 246 (.agg #[.int .i64 s.key, .int .i64 s.num]) else .iface 247 (.agg #[.int .i64 s.key, .int .i64 s.num])
def eStep (s : DStatement) : List Value := [stepV s]
theorem eStep_len (s : DStatement) : (eStep s).length = 1 := rfl
theorem stepV_one (s : DStatement) : vone (stepV s) = true := by
 unfold stepV
 repeat' split
 all_goals rfl
theorem stepV_cells (s : DStatement) : qV (stepV s) = [stepV s] := by
 unfold stepV
 repeat' split
 all_goals rfl
theorem eStep_one (l : List DStatement) : (fl eStep l).all vone = true := by
 induction l with
 | nil => rfl
 | cons a l ih => rw [fl_cons, List.all_append, ih]; simp [eStep, stepV_one]
theorem stepOf_c {h : H} {x : DStatement} {R : Ending -> H -> Prop} (k1 : stP x -> R (.returned (.tuple #[stepV x, .bool true])) h) (k2 : ¬ stP x -> ∀ v, R (.returned (.tuple #[v, .bool false])) h) :
  HCalls Tryz.prog 174 #[.agg (qM x).toArray] h R := by
 refine qB (args := [.agg (qM x).toArray]) Tryz.func174 ir174 ?_
 simp only [wk, seval, qP]
 refine qA fun j1 hj1 => ?_
 have s1 := Sub.cons (o := blk (qM x) 146) hj1 (Sub.refl h)
 simp only [wk, seval, qP]
 refine isKey_c fun b1 hb1 => ?_
 simp only [wk, seval, qP]
 refine ite_f (fun e => ⟨h, s1, k2 (fun p => zG hb1 e p.2.1) _⟩) fun e1 => ?_
 refine isVal_c fun b2 hb2 => ?_
 simp only [wk, seval, qP]
 refine ite_f (fun e => ⟨h, s1, k2 (fun p => zG hb2 e p.2.2.1) _⟩) fun e2 => ?_
 have key := hb1.1 e1
 have val := hb2.1 e2
 have bad : ¬ (1 <= x.do_ /\ x.do_ <= 4) -> ¬ stP x := fun c p => c p.1
 refine qZ (fun c1 => ?_) fun c1 => ?_
 ·refine qY _ (Sub.refl _) ?_
  simp only [wk, seval, qP]
  by_cases c0 : x.num = 0
  ·have sv : stepV x = .iface 243 (.agg #[.int .i64 x.key]) := by unfold stepV; rw [if_pos c1]
   rw [decide_eq_true c0]
   have := k1 ⟨by unfold inP; omega, key, val, fun _ => c0⟩
   rw [sv] at this
   exact ⟨h, s1, this⟩
  ·rw [decide_eq_false c0]
   exact ⟨h, s1, k2 (fun p => c0 (p.2.2.2 c1)) _⟩
 refine qZ (fun c2 => ?_) fun c2 => ?_
 ·have sv : stepV x = .iface 245 (.agg #[.int .i64 x.key, .int .i64 x.num]) := by unfold stepV; rw [if_neg c1, if_pos c2]
  have := k1 ⟨by unfold inP; omega, key, val, fun e => absurd e c1⟩
  rw [sv] at this
  exact ⟨h, s1, this⟩
 refine qZ (fun c3 => ?_) fun c3 => ?_
 ·have sv : stepV x = .iface 246 (.agg #[.int .i64 x.key, .int .i64 x.num]) := by unfold stepV; rw [if_neg c1, if_neg c2, if_pos c3]
  have := k1 ⟨by unfold inP; omega, key, val, fun e => absurd e c1⟩
  rw [sv] at this
  exact ⟨h, s1, this⟩
 refine qZ (fun c4 => ?_) fun c4 => ?_
 ·have sv : stepV x = .iface 247 (.agg #[.int .i64 x.key, .int .i64 x.num]) := by unfold stepV; rw [if_neg c1, if_neg c2, if_neg c3]
  have := k1 ⟨by unfold inP; omega, key, val, fun e => absurd e c1⟩
  rw [sv] at this
  exact ⟨h, s1, this⟩
 ·exact ⟨h, s1, k2 (bad (by omega)) _⟩
theorem stepsOf_c {h : H} {v : Value} {l : List DStatement} (r : rLs h qM 3 v l) (hl : l.length <= 1099511627776) {R : Ending -> H -> Prop} (k1 : dealP l -> ∀ v' g, oLs 208 eStep 1 v' l g -> Dj g h -> R (.returned (.tuple #[v', .bool true])) (g ++ h)) (k2 : ¬ dealP l -> R (.returned (.tuple #[.slice none 0 0, .bool false])) h) :
  HCalls Tryz.prog 156 #[v] h R := by
 refine qB (args := [v]) Tryz.func156 ir156 ?_
 have zs := zStatement_eq
 simp only [wk, seval, r.len, zs]
 refine within_c fun b1 hb1 => ?_
 simp only [wk, seval, r.len, zs]
 refine ite_f (fun e => .of (k2 fun p => zG hb1 e (by have := p.1; have := p.2.1; unfold inP; omega))) fun e1 => ?_
 have hlen := hb1.1 e1
 unfold inP at hlen
 refine ⟨⟨by omega, by omega, by omega⟩, qA fun js hjs => ?_⟩
 have o0 : oLs 208 eStep 1 (.slice (some ⟨js, 0, none⟩) 0 l.length) [] [(js, blk (zrep [.nilIface] l.length) 208)] :=
  ⟨rfl, .inr ⟨js, l.length, zrep [.nilIface] l.length, rfl, Nat.zero_le _, by simp [zrep, fl_nil], rfl⟩⟩
 have ss := Sub.cons (o := blk (zrep [.nilIface] l.length) 208) hjs (Sub.refl h)
 simp only [wk, seval, r.len, zs]
 refine qS [18, 4] (fun n vs h' => ∃ (i : Nat) (v' : Value) (G : H), vs = [.int .i64 i, v'] /\ h' = G ++ h /\ Dj G h /\ oLs 208 eStep 1 v' (l.take i) G /\ allP stP (l.take i) /\ i <= l.length /\ n = l.length - i) l.length rfl
  ⟨0, _, _, rfl, rfl, by simp only [subs, hjs], o0, allP_zero _ _, by omega, rfl⟩ ?_
 rintro n f h' ⟨i, v', G, hv, rfl, dG, oG, ht, hi, rfl⟩
 simp only [lm4] at hv
 have sG := Sub.right dG
 simp only [wk, seval, wr, hv.1, hv.2, zs]
 refine qF (fun c2 => ?_) fun c2 => ?_
 ·have hi2 : i < l.length := by omega
  refine zJ (i := i) zM (r.sub sG) rfl hi2 fun b1 o1 e1 => ?_
  simp only [wk, seval, e1, zs, qP]
  refine qA fun j6 hj6 => ?_
  have n6 := hj6
  simp only [subs] at n6
  have s6 := Sub.cons (o := blk (qM l[i]) 146) hj6 (Sub.refl (G ++ h))
  simp only [wk, seval, zs, qP]
  refine stepOf_c (fun p => ?_) fun p v2 => ?_
  ·simp only [wk, seval, zs, qP, stepV_one, stepV_cells]
   refine qA (o := blk (fl eStep [l[i]]) 208) fun j7 hj7 => ?_
   simp only [wk, seval, zs, qP]
   refine app_leaf (g := G) (h := h) eStep_len eStep_one tSteps iStep (s6.trans (Sub.cons hj7 (Sub.refl _))) dG oG (rL_lit (e := 208) eStep_len [l[i]]) (by rw [List.length_take]; simp; omega) (by rw [List.length_take]; simp; omega) fun v3 g3 o3 d3 => ?_
   simp (disch := omega) only [wk, seval, qI]
   refine ⟨l.length - (i + 1), by omega, _, .refl _, i + 1, v3, g3, by simp, rfl, d3, ?_, allP_more hi2 ht p, by omega, rfl⟩
   rw [List.take_succ_eq_append_getElem hi2]; exact o3
  ·simp only [wk, seval, zs, qP]
   exact ⟨h, sG.trans s6, k2 fun q => p (q.2.2 _ (List.getElem_mem hi2))⟩
 ·have hi2 : i = l.length := by omega
  subst hi2
  rw [List.take_length] at ht oG
  exact .of (k1 ⟨by omega, by omega, ht⟩ v' G oG dG)
theorem implOk_c {h : H} {v : Value} {l : List DStatement} (r : rLs h qM 3 v l) (hl : l.length <= 1099511627776) {R : Ending -> H -> Prop} (k : Asks R (dealP l) h) : HCalls Tryz.prog 141 #[v] h R := by
 refine qB (args := [v]) Tryz.func141 ir141 ?_
 simp only [wk, seval]
 refine stepsOf_c r hl (fun p v' g o d => ?_) fun p => ?_
 ·simp only [wk, seval]
  exact ⟨h, Sub.right d, k.yes p⟩
 ·simp only [wk, seval]
  exact .of (k.no p)
theorem numText_c {h : H} {nm : List UInt8} {a b : Int} (gl : Gl h) (hn : nm.length <= 100) (ha : i64P a) (hb : i64P b) {R : Ending -> H -> Prop} (k : R (.returned (.string ⟨(nm ++ 32 :: (decI a ++ 32 :: (decI b ++ [59]))).toArray⟩)) h) :
  HCalls Tryz.prog 240 #[.string ⟨nm.toArray⟩, .int .i64 a, .int .i64 b] h R := by
 refine qB (args := [.string ⟨nm.toArray⟩, .int .i64 a, .int .i64 b]) Tryz.func240 ir240 ?_
 have la := decI_len' ha
 have lb := decI_len' hb
 simp (disch := (first | assumption | (simp only [List.length_append, List.length_cons, List.length_nil]; omega) | omega)) only [wk, seval, str, str_add]
 refine itoa_c gl ha ?_
 simp (disch := (first | assumption | (simp only [List.length_append, List.length_cons, List.length_nil]; omega) | omega)) only [wk, seval, str, str_add]
 refine itoa_c gl hb ?_
 simp (disch := (first | assumption | (simp only [List.length_append, List.length_cons, List.length_nil]; omega) | omega)) only [wk, seval, str, str_add]
 refine .of ?_
 have e : nm ++ [32] ++ decI a ++ [32] ++ decI b ++ [59] = nm ++ 32 :: (decI a ++ 32 :: (decI b ++ [59])) := by simp
 rw [e]; exact k
end Go.Proofs.YtgbapakcfmgahaaGreatDoor
end

section
set_option maxRecDepth 20000
attribute [local irreducible] Go.Tk.vc Go.Tk.vops Go.Tk.vdr Go.Tk.vop Go.Tk.vfl Go.Tk.HCalls
namespace Go.Proofs.YtgbapakcfmgahaaGreatDoor
open Go Go.Tk
theorem get_text_c {h : H} {a : Int} (gl : Gl h) (ha : i64P a) {R : Ending -> H -> Prop} (k : R (.returned (.string ⟨([103, 101, 116, 32] ++ decI a ++ [59]).toArray⟩)) h) :
  HCalls Tryz.prog 238 #[.agg #[.int .i64 a]] h R := by
 refine qB (args := [.agg [.int .i64 a].toArray]) Tryz.func238 ir238 ?_
 have la := decI_len' ha
 simp only [wk, seval, str]
 refine qA fun j hj => ?_
 have sj := fun o => Sub.cons (o := o) hj (Sub.refl h)
 simp only [wk, seval, str]
 refine itoa_c (gl.sub (sj _)) ha ?_
 simp (disch := (first | assumption | (simp only [List.length_append, List.length_cons, List.length_nil]; omega) | omega)) only [wk, seval, str, str_add]
 exact ⟨h, sj _, k⟩
theorem putStep_text_c {h : H} {a b : Int} (gl : Gl h) (ha : i64P a) (hb : i64P b) {R : Ending -> H -> Prop} (k : R (.returned (.string ⟨([112, 117, 116] ++ 32 :: (decI a ++ 32 :: (decI b ++ [59]))).toArray⟩)) h) :
  HCalls Tryz.prog 239 #[.agg #[.int .i64 a, .int .i64 b]] h R := by
 refine qB (args := [.agg [.int .i64 a, .int .i64 b].toArray]) Tryz.func239 ir239 ?_
 simp only [wk, seval, str]
 refine qA fun j hj => ?_
 have sj := fun o => Sub.cons (o := o) hj (Sub.refl h)
 simp only [wk, seval, str]
 refine numText_c (gl.sub (sj _)) (by decide) ha hb ?_
 simp only [wk, seval, str]
 exact ⟨h, sj _, k⟩
theorem addStep_text_c {h : H} {a b : Int} (gl : Gl h) (ha : i64P a) (hb : i64P b) {R : Ending -> H -> Prop} (k : R (.returned (.string ⟨([97, 100, 100] ++ 32 :: (decI a ++ 32 :: (decI b ++ [59]))).toArray⟩)) h) :
  HCalls Tryz.prog 241 #[.agg #[.int .i64 a, .int .i64 b]] h R := by
 refine qB (args := [.agg [.int .i64 a, .int .i64 b].toArray]) Tryz.func241 ir241 ?_
 simp only [wk, seval, str]
 refine qA fun j hj => ?_
 have sj := fun o => Sub.cons (o := o) hj (Sub.refl h)
 simp only [wk, seval, str]
 refine numText_c (gl.sub (sj _)) (by decide) ha hb ?_
 simp only [wk, seval, str]
 exact ⟨h, sj _, k⟩
theorem needStep_text_c {h : H} {a b : Int} (gl : Gl h) (ha : i64P a) (hb : i64P b) {R : Ending -> H -> Prop} (k : R (.returned (.string ⟨([110, 101, 101, 100] ++ 32 :: (decI a ++ 32 :: (decI b ++ [59]))).toArray⟩)) h) :
  HCalls Tryz.prog 242 #[.agg #[.int .i64 a, .int .i64 b]] h R := by
 refine qB (args := [.agg [.int .i64 a, .int .i64 b].toArray]) Tryz.func242 ir242 ?_
 simp only [wk, seval, str]
 refine qA fun j hj => ?_
 have sj := fun o => Sub.cons (o := o) hj (Sub.refl h)
 simp only [wk, seval, str]
 refine numText_c (gl.sub (sj _)) (by decide) ha hb ?_
 simp only [wk, seval, str]
 exact ⟨h, sj _, k⟩
theorem step_text_c {h : H} {s : DStatement} (gl : Gl h) (hp : stP s) {R : Ending -> H -> Prop} (k : R (.returned (.string ⟨(stText s).toArray⟩)) h) : invK Tryz.prog (stepV s) "loop.example/turnpike/impl.text" [] h R := by
 obtain ⟨hd, hk, hv, _⟩ := hp
 unfold inP at hd
 have ik : i64P s.key := by unfold inP at hk; unfold i64P; omega
 have iv : i64P s.num := by unfold valP inP at hv; unfold i64P; omega
 rw [stText_W] at k
 unfold stW nmD at k
 unfold stepV
 split
 ·rename_i c
  rw [if_pos c, if_pos c] at k
  refine ⟨238, .agg #[.int .i64 s.key], by kernel_rfl, by kernel_rfl, get_text_c gl ik ?_⟩
  simpa using k
 ·rename_i c
  rw [if_neg c, if_neg c] at k
  split
  ·rename_i c2
   rw [if_pos c2] at k
   refine ⟨239, .agg #[.int .i64 s.key, .int .i64 s.num], by kernel_rfl, by kernel_rfl, putStep_text_c gl ik iv ?_⟩
   simpa using k
  ·rename_i c2
   rw [if_neg c2] at k
   split
   ·rename_i c3
    rw [if_pos c3] at k
    refine ⟨241, .agg #[.int .i64 s.key, .int .i64 s.num], by kernel_rfl, by kernel_rfl, addStep_text_c gl ik iv ?_⟩
    simpa using k
   ·rename_i c3
    rw [if_neg c3] at k
    refine ⟨242, .agg #[.int .i64 s.key, .int .i64 s.num], by kernel_rfl, by kernel_rfl, needStep_text_c gl ik iv ?_⟩
    simpa using k
theorem implDealWrite_c {h : H} {v : Value} {l : List DStatement} (gl : Gl h) (r : rLs h qM 3 v l) (hl : l.length <= 1099511627776) {R : Ending -> H -> Prop} (k : ∀ t, dealT l t -> R (.returned (.string ⟨t.toArray⟩)) h) :
  HCalls Tryz.prog 142 #[v] h R := by
 refine qB (args := [v]) Tryz.func142 ir142 ?_
 simp only [wk, seval, str]
 refine stepsOf_c r hl (fun p v' g o d => ?_) fun p => ?_
 ·have sg := Sub.right d
  simp only [wk, seval, str]
  refine qA fun jb hjb => ?_
  have nb := hjb
  simp only [subs] at nb
  simp only [wk, seval, str, o.rd.len]
  obtain ⟨B, hB⟩ : ∃ B, B = g ++ h := ⟨_, rfl⟩
  rw [<- hB] at sg
  have rB : rLs B eStep 1 v' l := o.rd.sub (by rw [hB]; exact Sub.left _ _)
  rw [<- hB] at hjb ⊢
  have hlt := fun i => dealText_len (l := l.take i) fun x hx => p.2.2 x (List.mem_of_mem_take hx)
  refine qS [17] (fun n vs h' => ∃ (i : Nat) (G : H), vs = [.int .i64 i] /\ h' = G ++ B /\ oB jb (zD (l.take i)) G /\ Dj G B /\ i <= l.length /\ n = l.length - i) l.length rfl
   ⟨0, _, rfl, rfl, oB_new, by simp only [subs, hjb], by omega, rfl⟩ ?_
  rintro n f h' ⟨i, G, hv, rfl, oG, dG, hi, rfl⟩
  simp only [lm4] at hv
  have sG := Sub.right dG
  simp only [wk, seval, wr, hv, str]
  refine qF (fun c2 => ?_) fun c2 => ?_
  ·have hi2 : i < l.length := by omega
   refine zJ (i := i) eStep_len (rB.sub sG) rfl hi2 fun b1 o1 e1 => ?_
   have e1' : qQ (G ++ B) b1 o1 1 = some [stepV l[i]] := e1
   have st := p.2.2 _ (List.getElem_mem hi2)
   have h60 := stText_len st
   have hli := hlt i
   rw [List.length_take] at hli
   have h6 := p.2.1
   simp only [wk, seval, zW e1', str]
   refine step_text_c (gl.sub (sg.trans sG)) st ?_
   simp only [wk, seval, str]
   refine bws_c oG dG (by omega) fun G2 o2 d2 => ?_
   simp (disch := omega) only [wk, seval, qI]
   refine ⟨l.length - (i + 1), by omega, _, .refl _, i + 1, G2, by simp, rfl, ?_, d2, by omega, rfl⟩
   rw [List.take_succ_eq_append_getElem hi2, dealText_app, dealText_one]; exact o2
  ·have hi2 : i = l.length := by omega
   subst hi2
   have hli := hlt l.length
   rw [List.take_length] at oG hli
   have h6 := p.2.1
   refine bstr_c oG dG (by omega) ?_
   simp only [wk, seval]
   exact ⟨h, sg, k _ (.inl ⟨p, rfl⟩)⟩
 ·simp only [wk, seval, str]
  exact .of (k _ (.inr ⟨p, rfl⟩))
end Go.Proofs.YtgbapakcfmgahaaGreatDoor
end

section
set_option maxRecDepth 20000
attribute [local irreducible] Go.Tk.vc Go.Tk.vops Go.Tk.vdr Go.Tk.vop Go.Tk.vfl Go.Tk.HCalls
namespace Go.Proofs.YtgbapakcfmgahaaGreatDoor
open Go Go.Tk
theorem implRead_c {h : H} {s : List UInt8} (gl : Gl h) (gm : MxL h) (hs : s.length <= 4194304) {R : Ending -> H -> Prop} (k : ∀ v g l ok, OutD s l ok -> oLs 146 qM 3 v l g -> Dj g h -> R (.returned (.tuple #[v, .bool ok])) (g ++ h)) :
  HCalls Tryz.prog 112 #[.string ⟨s.toArray⟩] h R := by
 refine qB (args := [.string ⟨s.toArray⟩]) Tryz.func112 ir112 ?_
 have zs := zStatement_eq
 have bad : ∀ {M : H}, Tk.Sub h M -> (∀ d, dealP d -> s = zD d -> s.length <= 80 -> False) -> dP R (.returned (.tuple #[.slice none 0 0, .bool false])) M := fun {M} sM e => ⟨h, sM, k _ [] [] false (.inr ⟨rfl, rfl, e⟩) (ows.nil _ _) (Dj.nil _)⟩
 simp only [wk, seval, str, zs]
 refine qF (fun c => bad (.refl _) fun d _ _ h => by omega) fun c => ?_
 refine qS [5, 4] (fun n vs h' => ∃ (v : Value) (xs : List DStatement) (r : List UInt8) (G : H), vs = [.string ⟨r.toArray⟩, v] /\ h' = G ++ h /\ Dj G h /\ oLs 146 qM 3 v xs G /\ xs.length + r.length <= 80 /\ (∀ d, dealP d -> s = zD d -> ∃ i, i <= d.length /\ xs = d.take i /\ r = zD (d.drop i)) /\ n = r.length) s.length rfl
  ⟨_, [], s, [], rfl, rfl, Dj.nil _, ows.nil _ _, by simp; omega, fun d hd e => ⟨0, by omega, rfl, e⟩, rfl⟩ ?_
 rintro n f h' ⟨v, xs, r, G, hv, rfl, dG, oG, hlen, hin, rfl⟩
 simp only [lm4] at hv
 have sG := Sub.right dG
 simp only [wk, seval, wr, hv.1, hv.2, str, zs, strBin, str_inj]
 refine zK (fun c2 => ?_) fun c2 => ?_
 ·refine cut_c (c := 59) (by omega) fun a b fd hc => ?_
  have hab : a.length <= r.length /\ b.length <= r.length /\ (fd = true -> b.length < r.length) := by
   obtain ⟨_, ⟨_, h2⟩ | ⟨h1, h2, h3⟩⟩ := hc
   ·rw [h2]; simp; omega
   ·rw [h2, h3, h1]; simp
  simp only [wk, seval, str, zs]
  refine readStatement_c (gl.sub sG) (gm.sub sG) (by omega) fun x ok hx => ?_
  simp only [wk, seval, str, zs, qP]
  refine qA fun j9 hj9 => ?_
  have s9 := Sub.cons (o := blk (qM x) 146) hj9 (Sub.refl (G ++ h))
  have step : ∀ d, dealP d -> s = zD d -> ∃ i, ∃ hi : i < d.length, xs = d.take i /\ a = stW d[i] /\ b = zD (d.drop (i + 1)) /\ fd = true := fun d hd e => by
   obtain ⟨i, hi, h1, h2⟩ := hin d hd e
   have hi2 : i < d.length := by
    rcases Nat.lt_or_ge i d.length with q | q
    ·exact q
    ·rw [List.drop_eq_nil_of_le q] at h2
     exact absurd h2 c2
   rw [List.drop_eq_getElem_cons hi2, dealText_cons] at h2
   obtain ⟨e1, e2, e3⟩ := hc.at h2 (stW_no59 _)
   exact ⟨i, hi2, h1, e1, e2, e3⟩
  simp only [wk, seval, str, zs, qP]
  cases fd with
  | false =>
   simp only [wk, seval, str, zs, qP]
   exact bad (sG.trans s9) fun d hd e _ => by
    obtain ⟨i, hi, _, _, _, q⟩ := step d hd e
    cases q
  | true =>
   cases ok with
   | false =>
    simp only [wk, seval, str, zs, qP]
    exact bad (sG.trans s9) fun d hd e _ => by
     obtain ⟨i, hi, _, q, _, _⟩ := step d hd e
     have := (hx _ (hd.2.2 _ (List.getElem_mem hi)) q).1
     cases this
   | true =>
    simp only [wk, seval, str, zs, qP]
    refine qA (o := blk (fl qM [x]) 146) fun j7 hj7 => ?_
    simp only [wk, seval, qP, str, zs]
    refine app_leaf (g := G) (h := h) zM cStatement_one tStatements iStatement (s9.trans (Sub.cons hj7 (Sub.refl _))) dG oG (rL_lit (e := 146) zM [x]) (by simp; omega) (by simp; omega) fun v2 g2 o2 d2 => ?_
    simp only [wk, seval]
    refine ⟨b.length, hab.2.2 rfl, _, .refl _, v2, _, b, g2, rfl, rfl, d2, o2, by rw [List.length_append]; have := hab.2.2 rfl; simp; omega, fun d hd e => ?_, rfl⟩
    obtain ⟨i, hi, h1, h2, h3, _⟩ := step d hd e
    refine ⟨i + 1, by omega, ?_, h3⟩
    rw [List.take_succ_eq_append_getElem hi, h1, (hx _ (hd.2.2 _ (List.getElem_mem hi)) h2).2]
 ·subst c2
  have fin : ∀ d, dealP d -> s = zD d -> xs = d := fun d hd e => by
   obtain ⟨i, hi, h1, h2⟩ := hin d hd e
   rcases Nat.lt_or_ge i d.length with q | q
   ·rw [List.drop_eq_getElem_cons q, dealText_cons] at h2
    have := congrArg List.length h2
    simp at this
   ·rw [h1, List.take_of_length_le q]
  have hx80 : xs.length <= 80 := by omega
  refine implOk_c (oG.rd.sub (Sub.left _ _)) (by omega) fun b1 hb1 => ?_
  simp only [wk, seval]
  refine ite_f (fun e => bad sG fun d hd e2 _ => zG hb1 e (by rw [fin d hd e2]; exact hd)) fun e1 => ?_
  have hp := hb1.1 e1
  refine implDealWrite_c (gl.sub sG) (oG.rd.sub (Sub.left _ _)) (by omega) fun t ht => ?_
  simp only [wk, seval, str, strBin, str_inj]
  have ht2 : t = zD xs := by
   rcases ht with ⟨_, ht⟩ | ⟨hn, _⟩
   ·exact ht
   ·exact absurd hp hn
  refine zK (fun c3 => bad sG fun d hd e _ => c3 (by rw [ht2, fin d hd e, e])) fun c3 => ?_
  exact .of (k v G xs true (.inl ⟨rfl, hp, by rw [<- c3, ht2], by omega⟩) oG dG)
end Go.Proofs.YtgbapakcfmgahaaGreatDoor
end

section
set_option maxRecDepth 20000
attribute [local irreducible] Go.Tk.vc Go.Tk.vops Go.Tk.vdr Go.Tk.vop Go.Tk.vfl Go.Tk.HCalls
namespace Go.Proofs.YtgbapakcfmgahaaGreatDoor
open Go Go.Tk
theorem l3Form_c {h : H} {c : DCall} {R : Ending -> H -> Prop} (k : Asks R (formP c) h) : HCalls Tryz.prog 119 #[.agg (zL c).toArray] h R := by
 refine qB (args := [.agg (zL c).toArray]) Tryz.func119 ir119 ?_
 simp only [wk, seval, zE]
 refine qA fun j hj => ?_
 have s1 := Sub.cons (o := blk (zL c) 46) hj (Sub.refl h)
 simp only [wk, seval, zE]
 refine l6In_c fun b1 hb1 => ?_
 simp only [wk, seval, zE]
 refine ite_f (fun e => k.dno s1 fun p => zG hb1 e p.1) fun e1 => ?_
 refine l6In_c fun b2 hb2 => ?_
 simp only [wk, seval, zE]
 refine ite_f (fun e => k.dno s1 fun p => zG hb2 e p.2.1) fun e2 => ?_
 have p1 := hb1.1 e1
 have p2 := hb2.1 e2
 refine qZ (fun c1 => ?_) fun c1 => ?_
 ·refine qZ (fun c2 => ?_) fun c2 => ?_
  ·refine qZ (fun c3 => ?_) fun c3 => ?_
   ·refine ⟨h, s1, k _ ?_⟩
    rw [decide_eq_true_eq]
    exact ⟨fun x => ⟨p1, p2, .inl ⟨c1, c2, c3, by omega⟩⟩, fun p => by
     rcases p.2.2 with q | q
     ·have := q.2.2.2; omega
     ·have := q.1; omega⟩
   ·exact k.dno s1 fun p => by
     rcases p.2.2 with q | q
     ·exact c3 q.2.2.1
     ·have := q.1; omega
  ·exact k.dno s1 fun p => by
    rcases p.2.2 with q | q
    ·exact c2 q.2.1
    ·have := q.1; omega
 ·have el : ((⟨c.text.toArray⟩ : ByteArray) = ⟨#[]⟩) = (c.text = []) := propext ⟨fun e => by simpa using congrArg (fun a : ByteArray => a.data.toList) e, fun e => by rw [e]⟩
  refine qZ (fun c2 => ?_) fun c2 => ?_
  ·simp only [wk, seval, zE, str, strBin, el]
   refine qZ (fun c3 => ?_) fun c3 => ?_
   ·refine l6In_c fun b3 hb3 => ?_
    simp only [wk, seval, zE]
    cases b3 with
    | false =>
     simp only [wk, seval]
     exact k.dno s1 fun p => by
      rcases p.2.2 with q | q
      ·exact c1 q.1
      ·exact zG hb3 rfl q.2.2.1
    | true =>
     simp only [wk, seval, zE]
     refine l6In_c fun b4 hb4 => ?_
     simp only [wk, seval, zE]
     refine ⟨h, s1, k _ ?_⟩
     rw [hb4]
     exact ⟨fun x => ⟨p1, p2, .inr ⟨c2, c3, hb3.1 rfl, x⟩⟩, fun p => by
      rcases p.2.2 with q | q
      ·exact absurd q.1 c1
      ·exact q.2.2.2⟩
   ·exact k.dno s1 fun p => by
     rcases p.2.2 with q | q
     ·exact c1 q.1
     ·exact c3 q.2.1
  ·exact k.dno s1 fun p => by
    rcases p.2.2 with q | q
    ·exact c1 q.1
    ·exact c2 q.1
theorem specCallOk_c {h : H} {c : DCall} (ht : c.text.length <= 4194304) {R : Ending -> H -> Prop} (k : Asks R (callOkP c) h) : HCalls Tryz.prog 82 #[.agg (zL c).toArray] h R := by
 refine qB (args := [.agg (zL c).toArray]) Tryz.func82 ir82 ?_
 simp only [wk, seval, zE]
 refine qA fun j hj => ?_
 have s1 := Sub.cons (o := blk (zL c) 46) hj (Sub.refl h)
 simp only [wk, seval, zE]
 refine qZ (fun c1 => ?_) fun c1 => ?_
 ·refine specRead_c ht fun v g l ok O o d => ?_
  have n := d
  simp only [subs] at n
  have s2 := s1.trans (Sub.right d)
  simp only [wk, seval, zE]
  cases ok with
  | false =>
   simp only [wk, seval]
   refine ⟨h, s2, k.no fun p => ?_⟩
   have := O.iff.2 (p.2 c1)
   cases this
  | true =>
   simp only [wk, seval, zE, apps, n]
   refine l3Form_c fun b hb => ?_
   simp only [wk, seval, zE]
   refine ⟨h, s2, k _ ?_⟩
   rw [hb]
   exact ⟨fun x => ⟨x, fun _ => O.iff.1 rfl⟩, fun p => p.1⟩
 ·refine l3Form_c fun b hb => ?_
  simp only [wk, seval, zE]
  refine ⟨h, s1, k _ ?_⟩
  rw [hb]
  exact ⟨fun x => ⟨x, fun y => absurd y c1⟩, fun p => p.1⟩
theorem implCallOk_c {h : H} {c : DCall} (gl : Gl h) (gm : MxL h) (ht : c.text.length <= 4194304) {R : Ending -> H -> Prop} (k : Asks R (callOkP c) h) : HCalls Tryz.prog 95 #[.agg (zL c).toArray] h R := by
 refine qB (args := [.agg (zL c).toArray]) Tryz.func95 ir95 ?_
 have el : ((⟨c.text.toArray⟩ : ByteArray) = ⟨#[]⟩) = (c.text = []) := propext ⟨fun e => by simpa using congrArg (fun a : ByteArray => a.data.toList) e, fun e => by rw [e]⟩
 simp only [wk, seval, zE]
 refine qA fun j hj => ?_
 have s1 := Sub.cons (o := blk (zL c) 46) hj (Sub.refl h)
 simp only [wk, seval, zE]
 refine isSession_c fun b1 hb1 => ?_
 simp only [wk, seval, zE]
 refine ite_f (fun e => k.dno s1 fun p => zG hb1 e p.1.1) fun e1 => ?_
 refine within_c fun b2 hb2 => ?_
 simp only [wk, seval, zE]
 refine ite_f (fun e => k.dno s1 fun p => zG hb2 e p.1.2.1) fun e2 => ?_
 have p1 := hb1.1 e1
 have p2 := hb2.1 e2
 refine qZ (fun c1 => ?_) fun c1 => ?_
 ·refine implRead_c (gl.sub s1) (gm.sub s1) ht fun v g l ok O o d => ?_
  have n := d
  simp only [subs] at n
  have s2 := s1.trans (Sub.right d)
  simp only [wk, seval, zE]
  cases ok with
  | false =>
   simp only [wk, seval]
   refine ⟨h, s2, k.no fun p => ?_⟩
   have := O.iff.2 (p.2 c1)
   cases this
  | true =>
   have hd := O.iff.1 rfl
   have h80 : c.text.length <= 80 := by obtain ⟨_, _, _, z⟩ := hd; exact z
   simp only [wk, seval, zE, apps, n]
   refine qZ (fun c2 => ?_) fun c2 => ?_
   ·refine ⟨h, s2, k _ ?_⟩
    rw [decide_eq_true_eq]
    exact ⟨fun x => ⟨⟨p1, p2, .inl ⟨c1, c2, x, h80⟩⟩, fun _ => hd⟩, fun p => by
     rcases p.1.2.2 with q | q
     ·exact q.2.2.1
     ·have := q.1; omega⟩
   ·refine ⟨h, s2, k.no fun p => ?_⟩
    rcases p.1.2.2 with q | q
    ·exact c2 q.2.1
    ·have := q.1; omega
 ·refine qZ (fun c2 => ?_) fun c2 => ?_
  ·simp only [wk, seval, zE, str, strBin, el]
   refine qZ (fun c3 => ?_) fun c3 => ?_
   ·refine isSlot_c fun b3 hb3 => ?_
    simp only [wk, seval, zE]
    cases b3 with
    | false =>
     simp only [wk, seval]
     exact k.dno s1 fun p => by
      rcases p.1.2.2 with q | q
      ·exact c1 q.1
      ·exact zG hb3 rfl q.2.2.1
    | true =>
     simp only [wk, seval, zE]
     refine isHouse_c fun b4 hb4 => ?_
     simp only [wk, seval, zE]
     refine ⟨h, s1, k _ ?_⟩
     rw [hb4]
     exact ⟨fun x => ⟨⟨p1, p2, .inr ⟨c2, c3, hb3.1 rfl, x⟩⟩, fun y => absurd y c1⟩, fun p => by
      rcases p.1.2.2 with q | q
      ·exact absurd q.1 c1
      ·exact q.2.2.2⟩
   ·exact k.dno s1 fun p => by
     rcases p.1.2.2 with q | q
     ·exact c1 q.1
     ·exact c3 q.2.1
  ·exact k.dno s1 fun p => by
    rcases p.1.2.2 with q | q
    ·exact c1 q.1
    ·exact c2 q.1
end Go.Proofs.YtgbapakcfmgahaaGreatDoor
end

section
set_option maxRecDepth 20000
attribute [local irreducible] Go.Tk.vc Go.Tk.vops Go.Tk.vdr Go.Tk.vop Go.Tk.vfl Go.Tk.HCalls
namespace Go.Tk
open Go
theorem lastOf_zero (l : List DRecord) (s : Int) : lastOf (l.take 0) s = none := by simp [lastOf]
theorem lastOf_more {l : List DRecord} {n : Nat} (h : n < l.length) (s : Int) : lastOf (l.take (n + 1)) s = if l[n].call.session = s then some l[n] else lastOf (l.take n) s := by
 unfold lastOf
 rw [List.take_succ_eq_append_getElem h, List.reverse_append]
 simp only [List.reverse_cons, List.reverse_nil, List.nil_append, List.singleton_append, List.find?_cons]
 by_cases c : l[n].call.session = s
 ·simp [c]
 ·simp [c]
theorem last_at (l : List DRecord) (s : Int) : ∀ n, n <= l.length -> ∃ m, m <= n /\ (∀ j (hj : j < l.length), m <= j -> j < n -> ¬ l[j].call.session = s) /\
  ((m = 0 /\ lastOf (l.take n) s = none) ∨ ∃ i, ∃ (hi : i < l.length), m = i + 1 /\ l[i].call.session = s /\ lastOf (l.take n) s = some l[i]) := by
 intro n
 induction n with
 | zero => intro _; exact ⟨0, Nat.le_refl _, fun j _ _ h => absurd h (Nat.not_lt_zero _), .inl ⟨rfl, lastOf_zero l s⟩⟩
 | succ n ih =>
  intro hn
  have hn2 : n < l.length := hn
  by_cases c : l[n].call.session = s
  ·exact ⟨n + 1, Nat.le_refl _, fun j _ h1 h2 => absurd h2 (by omega), .inr ⟨n, hn2, rfl, c, by rw [lastOf_more hn2, if_pos c]⟩⟩
  ·obtain ⟨m, h1, h2, h3⟩ := ih (by omega)
   refine ⟨m, by omega, fun j hj a b => ?_, ?_⟩
   ·by_cases e : j = n
    ·subst e; exact c
    ·exact h2 j hj a (by omega)
   ·rw [lastOf_more hn2, if_neg c]; exact h3
theorem map0_ok : mapP map0 := ⟨⟨by decide, by decide⟩, rfl, fun x hx => by
 have : x ∈ [0, 1, 2, 0, 1, 2, 0, (1 : Int)] := hx
 simp only [List.mem_cons, List.not_mem_nil, or_false] at this
 unfold zO inP
 omega⟩
theorem mapMove_ok {m : DMap} {s t : Int} (h : mapP m) : mapP (mapMove m s t).1 := by
 unfold mapMove
 rw [if_neg (fun c => c h)]
 split
 ·exact h
 ·rename_i c1
  split
  ·exact h
  ·rename_i c2
   split
   ·exact h
   ·refine ⟨⟨by have := h.1.1; show 1 <= m.version + 1; omega, by show m.version + 1 <= 99; omega⟩, by rw [List.length_set]; exact h.2.1, fun x hx => ?_⟩
    rcases List.mem_or_eq_of_mem_set hx with hx | rfl
    ·exact h.2.2 x hx
    ·exact Classical.byContradiction fun c => c1 (.inr c)
theorem mapStep_ok {m : DMap} {r : DRecord} (h : mapP m) : mapP (mapStep m r) := by
 unfold mapStep
 split
 ·exact mapMove_ok h
 ·exact h
theorem mapOfL_more {l : List DRecord} {i : Nat} (h : i < l.length) : zR (l.take (i + 1)) = mapStep (zR (l.take i)) l[i] := by
 unfold zR
 rw [List.take_succ_eq_append_getElem h, List.foldl_append]; rfl
theorem foldl_ok (l : List DRecord) : ∀ m, mapP m -> mapP (l.foldl mapStep m) := by
 induction l with
 | nil => intro m h; exact h
 | cons r l ih => intro m h; exact ih _ (mapStep_ok h)
theorem mapOfL_ok (l : List DRecord) : mapP (zR l) := foldl_ok l _ map0_ok
end Go.Tk
namespace Go.Proofs.YtgbapakcfmgahaaGreatDoor
open Go Go.Tk
theorem l22Last_x {h : H} {v : Value} {l : List DRecord} {s : Int} (r : rRs h (rRecord h) 11 v l) (hl : l.length <= 1099511627776) :
  ∃ d a b ok, sRecord h d a b /\ lastOf l s = (if ok = true then some d else none) /\ ∀ R : Ending -> H -> Prop, R (.returned (.tuple #[.agg (qC d a b).toArray, .bool ok])) h -> HCalls Tryz.prog 49 #[v, .int .i64 s] h R := by
 obtain ⟨m, hm, hno, hat⟩ := last_at l s l.length (Nat.le_refl _)
 rw [List.take_length] at hat
 have zr := zRecord_eq
 have walk : ∀ (d : DRecord) (a b : Value) (ok : Bool) (R : Ending -> H -> Prop), ((m = 0 /\ d = zRecord /\ a = .slice none 0 0 /\ b = .slice none 0 0 /\ ok = false) ∨ (ok = true /\ ∃ i bb oo, m = i + 1 /\ i < l.length /\ d.call.session = s /\ vone a = true /\ vone b = true /\ (∀ (kd : IntKind) (f : Value -> Prop), idxSK v (.int kd (i : Int)) 11 f = f (.pointer (some ⟨bb, oo, none⟩))) /\ qQ h bb oo 11 = some (qC d a b))) ->
   R (.returned (.tuple #[.agg (qC d a b).toArray, .bool ok])) h -> HCalls Tryz.prog 49 #[v, .int .i64 s] h R := by
  intro d a b ok R hc k
  refine qB (args := [v, .int .i64 s]) Tryz.func49 ir49 ?_
  simp only [wk, seval, zr]
  refine qA (o := blk (qC zRecord (.slice none 0 0) (.slice none 0 0)) 97) fun j hj => ?_
  simp (disch := omega) only [wk, seval, zr, r.len, qI]
  have s1 := fun o => Sub.cons (o := o) hj (Sub.refl h)
  refine qS [6] (fun n vs h' => n <= l.length /\ m <= n /\ vs = [.int .i64 ((n : Int) - 1)] /\ h' = (j, blk (qC zRecord (.slice none 0 0) (.slice none 0 0)) 97) :: h) l.length rfl ⟨by omega, hm, rfl, rfl⟩ ?_
  rintro n f h' ⟨hn, hmn, hv, rfl⟩
  simp only [lm4] at hv
  have r1 : rRs ((j, blk (qC zRecord (.slice none 0 0) (.slice none 0 0)) 97) :: h) (rRecord h) 11 v l := r.subH (s1 _)
  simp only [wk, seval, wr, hv, zr]
  refine ite_ge (fun c => ?_) fun c => ?_
  ·obtain ⟨i, rfl⟩ : ∃ i, n = i + 1 := ⟨n - 1, by omega⟩
   have hi : i < l.length := by omega
   rw [show ((i + 1 : Nat) : Int) - 1 = (i : Int) by omega]
   by_cases hmi : m = i + 1
   ·rcases hc with ⟨c0, _⟩ | ⟨rfl, i', bb, oo, e1, e2, e3, oa, ob, hx, e⟩
    ·omega
    ·have : i' = i := by omega
     subst this
     have e' : qQ ((j, blk (qC zRecord (.slice none 0 0) (.slice none 0 0)) 97) :: h) bb oo 11 = some (qC d a b) := hread_sub (s1 _) e
     have c2 : hcel ((j, blk (qC zRecord (.slice none 0 0) (.slice none 0 0)) 97) :: h) bb (oo + 2) = some (.int .i64 d.call.session) := qW e' 2 rfl
     have hone := wRecord.2.2.2.2.2.2.2.2.2.2.2.2.2.2.1 d a b oa ob
     simp only [wk, seval, hx, c2, zr, e3, e', wRecord, hone]
     exact ⟨h, s1 _, k⟩
   ·obtain ⟨bb, oo, cs, hx, e, a1, a2, rfl, sr⟩ := zU r1 hi
    have c2 : hcel ((j, blk (qC zRecord (.slice none 0 0) (.slice none 0 0)) 97) :: h) bb (oo + 2) = some (.int .i64 l[i].call.session) := qW e 2 rfl
    have hne := hno i hi (by omega) hi
    simp (disch := omega) only [wk, seval, hx, c2, zr, hne, qI]
    exact ⟨i, by omega, _, .refl _, by omega, by omega, by simp, rfl⟩
  ·have : m = 0 := by omega
   rcases hc with ⟨c0, rfl, rfl, rfl, rfl⟩ | ⟨rfl, i', bb, oo, e1, _⟩
   ·simp only [wk, seval, zr, wRecord]
    exact ⟨h, s1 _, k⟩
   ·omega
 rcases hat with ⟨m0, hn⟩ | ⟨i, hi, hmi, hsi, hs⟩
 ·exact ⟨zRecord, .slice none 0 0, .slice none 0 0, false, ⟨(oLs_nil (e := 0)).rd.sub (Sub.nil _), (oLs_nil (e := 0)).rd.sub (Sub.nil _)⟩, hn, fun R k => walk _ _ _ _ R (.inl ⟨m0, rfl, rfl, rfl, rfl⟩) k⟩
 ·obtain ⟨bb, oo, cs, hx, e, a1, a2, rfl, sr⟩ := zU r hi
  exact ⟨l[i], a1, a2, true, sr, hs, fun R k => walk _ _ _ _ R (.inr ⟨rfl, i, bb, oo, hmi, hi, hsi, rdS.one sr.1, rdS.one sr.2, hx, e⟩) k⟩
theorem l22Map_c {h : H} {v : Value} {l : List DRecord} (r : rRs h (rRecord h) 11 v l) (hl : l.length <= 1099511627776) {R : Ending -> H -> Prop} (k : ∀ ow g, oLs 3 eI 1 ow (zR l).owners g -> Dj g h -> R (.returned (.agg (cMap (zR l) ow).toArray)) (g ++ h)) :
  HCalls Tryz.prog 88 #[v] h R := by
 refine qB (args := [v]) Tryz.func88 ir88 ?_
 have zm := zMap_eq
 simp only [wk, seval, zm]
 refine qA (o := blk (cMap zMap (.slice none 0 0)) 102) fun j2 hj2 => ?_
 simp only [wk, seval, zm]
 refine specMapStart_c fun w0 g0 o0 d0 => ?_
 simp only [wk, seval, zm]
 refine qA (o := blk (cMap zMap (.slice none 0 0)) 102) fun j3 hj3 => ?_
 have n3 := hj3
 have m0 := d0
 simp only [subs] at n3 m0
 have av0 := wMap.2.2.2.2.2.1 map0 w0 (rdS.one o0.rd)
 simp only [wk, seval, zm, wMap, av0]
 have e3 : ¬ j2 = j3 := fun e => n3.2.1 e.symm
 refine qS [4] (fun n vs h' => ∃ (i : Nat) (v' : Value) (G : H), vs = [.int .i64 i] /\ h' = (j3, blk (cMap (zR (l.take i)) v') 102) :: (G ++ ((j2, blk (cMap zMap (.slice none 0 0)) 102) :: h)) /\ hget G j3 = none /\ Dj G ((j2, blk (cMap zMap (.slice none 0 0)) 102) :: h) /\ oLs 3 eI 1 v' (zR (l.take i)).owners G /\ i <= l.length /\ n = l.length - i) l.length rfl
  ⟨0, w0, g0, rfl, rfl, n3.1, d0, o0, by omega, rfl⟩ ?_
 rintro n f h' ⟨i, v', G, hv, rfl, n3G, dG, oG, hi, rfl⟩
 simp only [lm4] at hv
 have mG := dG
 simp only [subs] at mG
 have ov := rdS.one oG.rd
 have av := wMap.2.2.2.2.2.1 (zR (l.take i)) v' ov
 have hlm := (mapOfL_ok (l.take i)).2.1
 obtain ⟨M, hM⟩ : ∃ M, M = (j3, blk (cMap (zR (l.take i)) v') 102) :: (G ++ ((j2, blk (cMap zMap (.slice none 0 0)) 102) :: h)) := ⟨_, rfl⟩
 have sM : Tk.Sub h M := by rw [hM]; (repeat' first | exact Sub.refl _ | exact Sub.nil _ | assumption | refine Sub.both ?_ ?_ | refine Sub.cons_of (by simp only [subs, n3, n3G, mG, hj2]) ?_ | exact Sub.left _ _ | refine Sub.app (by simp only [subs, n3, n3G, mG, hj2]) ?_ | refine Sub.cons (by simp only [subs, n3, n3G, mG, hj2]) ?_)
 have rM : rRs M (rRecord h) 11 v l := r.subH sM
 have rv : rInts M v' (zR (l.take i)).owners := oG.rd.sub (by rw [hM]; (repeat' first | exact Sub.refl _ | exact Sub.nil _ | assumption | refine Sub.both ?_ ?_ | refine Sub.cons_of (by simp only [subs, n3G, n3]) ?_ | exact Sub.left _ _ | refine Sub.app (by simp only [subs, n3G, n3]) ?_ | refine Sub.cons (by simp only [subs, n3G, n3]) ?_))
 simp only [<- hM]
 have hv3 : qQ M j3 0 2 = some (cMap (zR (l.take i)) v') := by rw [hM]; simp only [wk, seval, wMap]
 have hj2M : hget M j2 = some (blk (cMap zMap (.slice none 0 0)) 102) := by
  rw [hM, zN _ _ _ e3, hget_app, mG.1]; exact qL _ _ _
 simp only [wk, seval, wr, hv, rM.len]
 refine qF (fun c => ?_) fun c => ?_
 ·have hi2 : i < l.length := by omega
  have hmore := mapOfL_more hi2
  obtain ⟨b, o, cs, hx, e, a1, a2, rfl, sr⟩ := zU rM hi2
  have c4 : hcel M b (o + 4) = some (.int .i64 l[i].call.kind) := qW e 4 rfl
  have c6 : hcel M b (o + 6) = some (.int .i64 l[i].call.slot) := qW e 6 rfl
  have c7 : hcel M b (o + 7) = some (.int .i64 l[i].call.to) := qW e 7 rfl
  have c8 : hcel M b (o + 8) = some (.int .i64 l[i].code) := qW e 8 rfl
  have keep : mapStep (zR (l.take i)) l[i] = zR (l.take i) -> ∃ m, m < l.length - i /\ ∃ g, Tk.Sub g M /\ ∃ (i' : Nat) (v' : Value) (G : H), [Value.int .i64 ((i : Int) + 1)] = [.int .i64 i'] /\ g = (j3, blk (cMap (zR (l.take i')) v') 102) :: (G ++ ((j2, blk (cMap zMap (.slice none 0 0)) 102) :: h)) /\ hget G j3 = none /\ Dj G ((j2, blk (cMap zMap (.slice none 0 0)) 102) :: h) /\ oLs 3 eI 1 v' (zR (l.take i')).owners G /\ i' <= l.length /\ m = l.length - i' := fun hk =>
   ⟨l.length - (i + 1), by omega, M, .refl _, i + 1, v', G, by simp, by rw [hmore, hk]; exact hM, n3G, dG, by rw [hmore, hk]; exact oG, by omega, rfl⟩
  simp only [wk, seval, hx, c4]
  refine qZ (fun k1 => ?_) fun k1 => ?_
  ·simp only [wk, seval, hx, c8]
   refine qZ (fun k2 => ?_) fun k2 => ?_
   ·refine qY _ (Sub.refl _) ?_
    simp only [wk, seval, hx, hv3, c6, c7]
    refine specMapMove_c rv (by omega) fun v2 g2 o2 d2 => ?_
    have hm2 : zR (l.take (i + 1)) = (mapMove (zR (l.take i)) l[i].call.slot l[i].call.to).1 := by rw [hmore]; unfold mapStep; rw [if_pos ⟨k1, k2⟩]
    generalize mapMove (zR (l.take i)) l[i].call.slot l[i].call.to = q at *
    have sd := Sub.right d2
    have ov2 := rdS.one o2.rd
    have av2 := wMap.2.2.2.2.2.1 q.1 v2 ov2
    have hj3M : hget M j3 = some (blk (cMap (zR (l.take i)) v') 102) := by rw [hM]; exact qL _ _ _
    have x3 : hget g2 j3 = none := d2.of (by rw [hj3M]; simp)
    have x2 : hget g2 j2 = none := d2.of (by rw [hj2M]; simp)
    have dh : Dj g2 h := d2.sub (.refl _) sM
    have dG2 : Dj g2 G := d2.sub (.refl _) (by rw [hM]; (repeat' first | exact Sub.refl _ | exact Sub.nil _ | assumption | refine Sub.both ?_ ?_ | refine Sub.cons_of (by simp only [subs, n3G, n3]) ?_ | exact Sub.left _ _ | refine Sub.app (by simp only [subs, n3G, n3]) ?_ | refine Sub.cons (by simp only [subs, n3G, n3]) ?_))
    simp only [wk, seval, sd]
    simp only [wk, seval, apps, x3, hM, wMap, av2]
    simp (disch := omega) only [wk, seval, qI]
    refine ⟨l.length - (i + 1), by omega, (j3, blk (cMap q.1 v2) 102) :: (g2 ++ ((j2, blk (cMap zMap (.slice none 0 0)) 102) :: h)), ?_, i + 1, v2, g2, by simp, by rw [hm2], x3, by simp only [subs, x2, dh], by rw [hm2]; exact o2, by omega, rfl⟩
    (repeat' first | exact Sub.refl _ | exact Sub.nil _ | assumption | refine Sub.both ?_ ?_ | refine Sub.cons_of (by simp only [subs, x3, x2, dh, dG2, n3, n3G, mG, hj2, e3]) ?_ | exact Sub.left _ _ | refine Sub.app (by simp only [subs, x3, x2, dh, dG2, n3, n3G, mG, hj2, e3]) ?_ | refine Sub.cons (by simp only [subs, x3, x2, dh, dG2, n3, n3G, mG, hj2, e3]) ?_)
   ·simp (disch := omega) only [wk, seval, qI]
    exact keep (by unfold mapStep; rw [if_neg (fun c => k2 c.2)])
  ·simp (disch := omega) only [wk, seval, qI]
   exact keep (by unfold mapStep; rw [if_neg (fun c => k1 c.1)])
 ·have hi2 : i = l.length := by omega
  subst hi2
  rw [List.take_length] at *
  simp only [wk, seval, zm, hv3, av]
  have dh := mG.2
  subst hM
  simp only [wk, seval, e3, mG, apps, wMap, av]
  exact ⟨G ++ h, by (repeat' first | exact Sub.refl _ | exact Sub.nil _ | assumption | refine Sub.both ?_ ?_ | refine Sub.cons_of (by simp only [subs, n3, n3G, mG, hj2, e3, dh]) ?_ | exact Sub.left _ _ | refine Sub.app (by simp only [subs, n3, n3G, mG, hj2, e3, dh]) ?_ | refine Sub.cons (by simp only [subs, n3, n3G, mG, hj2, e3, dh]) ?_), k v' G oG dh⟩
theorem l22LogOk_c {h : H} {v : Value} {l : List DRecord} {nx : Int} (r : rRs h (rRecord h) 11 v l) (hl : l.length <= 1048576) (hb : allP bRecord l) (hn : inP 1 9999 nx) {R : Ending -> H -> Prop} (k : Asks R (glogP l nx) h) :
  HCalls Tryz.prog 47 #[v, .int .i64 nx] h R := by
 refine qB (args := [v, .int .i64 nx]) Tryz.func47 ir47 ?_
 have zr := zRecord_eq
 have hn2 : IntKind.i64.wrap (nx - 1) = nx - 1 := qI _ (by have := hn.1; have := hn.2; omega)
 simp only [wk, seval, zr, r.len]
 refine qF (fun c => .of (k.no fun p => by have := p.1; omega)) fun c0 => ?_
 refine qS [5] (fun n vs h' => ∃ i : Nat, vs = [.int .i64 i] /\ h' = h /\ i <= l.length /\ n = l.length - i /\ ∀ j (hj : j < i) (hj2 : j < l.length), recordP (l.take j) nx l[j]) l.length rfl ⟨0, rfl, rfl, by omega, rfl, fun j hj => absurd hj (Nat.not_lt_zero _)⟩ ?_
 rintro n f h' ⟨i, hv, rfl, hi, rfl, hok⟩
 simp only [lm4] at hv
 simp only [wk, seval, wr, hv, zr, r.len]
 refine qF (fun c => ?_) fun c => ?_
 ·have hi2 : i < l.length := by omega
  have bR := hb _ (List.getElem_mem hi2)
  have b1 := bR.v; have b2 := bR.p; have b3 := bR.c
  unfold bCall at b3
  unfold lim at b1 b2 b3
  obtain ⟨b, o, cs, hx, e, a1, a2, rfl, sr⟩ := zU r hi2
  have hone := wRecord.2.2.2.2.2.2.2.2.2.2.2.2.2.2.1 l[i] a1 a2 (rdS.one sr.1) (rdS.one sr.2)
  have no : ∀ {P : Prop}, (recordP (l.take i) nx l[i] -> P) -> ¬ P -> ¬ glogP l nx := fun f g p => g (f (p.2 i hi2))
  simp only [wk, seval, hx, e, zr, wRecord]
  refine qA (o := blk (qC zRecord (.slice none 0 0) (.slice none 0 0)) 97) fun j hj => ?_
  simp only [wk, seval, zr, wRecord, hone, hn2]
  have s1 := fun o => Sub.cons (o := o) hj (Sub.refl h')
  have ec : ∀ c, (qC l[i] a1 a2).drop 2 = zL l[i].call ++ c -> True := fun _ _ => trivial
  refine l6In_c fun q1 hq1 => ?_
  cases q1 with
  | false =>
   simp only [wk, seval, zr, wRecord]
   exact k.dno (s1 _) (no (fun p => p.1) (zG hq1 rfl))
  | true =>
   simp only [wk, seval, zr, wRecord]
   refine l6In_c fun q2 hq2 => ?_
   cases q2 with
   | false =>
    simp only [wk, seval, zr, wRecord]
    exact k.dno (s1 _) (no (fun p => p.2.1) (zG hq2 rfl))
   | true =>
    simp only [wk, seval, zr, wRecord]
    refine specCallOk_c (by omega) fun q3 hq3 => ?_
    cases q3 with
    | false =>
     simp only [wk, seval, zr, wRecord]
     exact k.dno (s1 _) (no (fun p => p.2.2.1) (zG hq3 rfl))
    | true =>
     simp only [wk, seval, zr, wRecord]
     refine l6In_c fun q4 hq4 => ?_
     cases q4 with
     | false =>
      simp only [wk, seval, zr, wRecord]
      exact k.dno (s1 _) (no (fun p => p.2.2.2.1) (zG hq4 rfl))
     | true =>
      simp only [wk, seval, zr, wRecord]
      refine l3Vals_c (sr.1.sub (s1 _)) (by omega) fun q5 hq5 => ?_
      cases q5 with
      | false =>
       simp only [wk, seval, zr, wRecord]
       exact k.dno (s1 _) (no (fun p => p.2.2.2.2.1) (zG hq5 rfl))
      | true =>
       simp only [wk, seval, zr, wRecord]
       refine l1Pairs_c (sr.2.sub (s1 _)) (by omega) fun q6 hq6 => ?_
       cases q6 with
       | false =>
        simp only [wk, seval, zr, wRecord]
        exact k.dno (s1 _) (no (fun p => p.2.2.2.2.2.1) (zG hq6 rfl))
       | true =>
        simp only [wk, seval, zr, wRecord]
        obtain ⟨M, hM⟩ : ∃ M, M = (j, blk (qC l[i] a1 a2) 97) :: h' := ⟨_, rfl⟩
        have sM : Tk.Sub h' M := by rw [hM]; exact s1 _
        have f0 : hcel M j 0 = some (.int .i64 l[i].stamp) := by rw [hM]; simp only [wk, seval, wRecord]
        have f2 : hcel M j 2 = some (.int .i64 l[i].call.session) := by rw [hM]; simp only [wk, seval, wRecord]
        have f3 : hcel M j 3 = some (.int .i64 l[i].call.number) := by rw [hM]; simp only [wk, seval, wRecord]
        have rM : rRs M (rRecord h') 11 v l := r.subH sM
        rw [<- hM]
        refine qS [7] (fun n vs g' => ∃ p : Nat, vs = [.int .i64 p] /\ g' = M /\ p <= i /\ n = i - p /\ ∀ x ∈ l.take p, x.stamp ≠ l[i].stamp) i rfl ⟨0, rfl, rfl, by omega, rfl, fun x hx => by simp at hx⟩ ?_
        rintro n2 f' g' ⟨p, hv2, rfl, hp, rfl, hst⟩
        simp only [lm4] at hv2
        simp only [wk, seval, wr, hv2]
        refine qF (fun c4 => ?_) fun c4 => ?_
        ·have hp2 : p < l.length := by omega
         obtain ⟨b', o', cs', hx', e', a1', a2', rfl, sr'⟩ := zU rM hp2
         have g0 : hcel g' b' o' = some (.int .i64 l[p].stamp) := by have := qW e' 0 rfl; rw [Nat.add_zero] at this; exact this
         refine qY _ (Sub.refl _) ?_
         simp only [wk, seval, hx', g0, f0, Sub.refl]
         have hin : l[p] ∈ l.take i := by
          rw [List.mem_take_iff_getElem]
          exact ⟨p, by omega, rfl⟩
         refine qZ (fun c5 => k.dno sM (no (fun p => p.2.2.2.2.2.2.1) fun q => q _ hin c5)) fun c5 => ?_
         simp (disch := omega) only [qI]
         refine ⟨i - (p + 1), by omega, _, .refl _, p + 1, by simp, rfl, by omega, rfl, fun x hx => ?_⟩
         rw [List.take_succ_eq_append_getElem hp2] at hx
         rcases List.mem_append.1 hx with hx | hx
         ·exact hst x hx
         ·rw [List.mem_singleton.1 hx]; exact c5
        ·have hpi : p = i := by omega
         have hst2 : ∀ x ∈ l.take i, x.stamp ≠ l[i].stamp := fun x hx => hst x (by rw [hpi]; exact hx)
         refine qY _ (Sub.refl _) ?_
         simp only [wk, seval]
         refine slc_rs_pre rM (by omega) (by omega) fun v2 r2 => ?_
         rw [Int.toNat_natCast] at r2
         simp only [wk, seval, f2]
         obtain ⟨d, x1, x2, ok, sd, hlast, hc⟩ := l22Last_x (s := l[i].call.session) (r2.relImp fun _ _ x => rRecord.sub sM x) (by rw [List.length_take]; omega)
         refine ⟨_, hc, ?_⟩
         simp only [wk, seval, zr]
         refine qA (o := blk (qC zRecord (.slice none 0 0) (.slice none 0 0)) 97) fun j8 hj8 => ?_
         have s8 := Sub_new (o := blk (qC zRecord (.slice none 0 0) (.slice none 0 0)) 97) hj8
         have hone8 := wRecord.2.2.2.2.2.2.2.2.2.2.2.2.2.2.1 d x1 x2 (rdS.one sd.1) (rdS.one sd.2)
         have s9 : ∀ o, Tk.Sub g' ((j8, o) :: g') := fun o => Sub.cons hj8 (Sub.refl _)
         have f3' := zT (s9 (blk (qC d x1 x2) 97)) f3
         have fin : (∀ x, lastOf (l.take i) l[i].call.session = some x -> x.call.number < l[i].call.number) -> ∃ m, m < l.length - i /\ ∃ g, Tk.Sub g ((j8, blk (qC d x1 x2) 97) :: g') /\ ∃ i' : Nat, [Value.int .i64 ((i : Int) + 1)] = [Value.int .i64 i'] /\ g = h' /\ i' <= l.length /\ m = l.length - i' /\ ∀ (j : Nat), j < i' -> ∀ (hj2 : j < l.length), recordP (l.take j) nx l[j] := fun hfin =>
          ⟨l.length - (i + 1), by omega, h', sM.trans (s9 _), i + 1, by simp, rfl, by omega, rfl, fun q hq hq' => by
           by_cases e : q = i
           ·subst e; exact ⟨hq1.1 rfl, hq2.1 rfl, hq3.1 rfl, hq4.1 rfl, hq5.1 rfl, hq6.1 rfl, hst2, hfin⟩
           ·exact hok q (by omega) hq'⟩
         simp only [wk, seval, s8, zr, wRecord, hone8]
         cases ok with
         | false =>
          simp (disch := omega) only [wk, seval, qI]
          exact fin fun x hx => by rw [hlast] at hx; simp at hx
         | true =>
          simp only [wk, seval, f3']
          refine ite_ge (fun c7 => k.dno (sM.trans (s9 _)) (no (fun p => p.2.2.2.2.2.2.2) fun q => ?_)) fun c7 => ?_
          ·have := q d (by rw [hlast]; rfl)
           omega
          ·simp (disch := omega) only [wk, seval, qI]
           refine fin fun x hx => ?_
           rw [hlast] at hx
           cases hx
           exact c7
 ·exact .of (k.yes ⟨by omega, fun j hj => hok j (by omega) hj⟩)
end Go.Proofs.YtgbapakcfmgahaaGreatDoor
end
