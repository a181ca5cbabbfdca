/- Parts of the proof. -/
import Derived.Test.YtjioiemhgbkbfaaGreatDoorK155
import Derived.Test.YtjioiemhgbkbfaaGreatDoorK1513
import Derived.Test.YtjioiemhgbkbfaaGreatDoorK1510
import Derived.Test.YtjioiemhgbkbfaaGreatDoorK1511
import Derived.Test.YtjioiemhgbkbfaaGreatDoorK1512
set_option maxHeartbeats 4000000
set_option maxRecDepth 100000
set_option linter.unusedVariables false
set_option linter.unusedSimpArgs false
set_option linter.defProp false
attribute [local irreducible] Go.Tk.vc Go.Tk.vops Go.Tk.vdr Go.Tk.vop Go.Tk.vfl Go.Tk.HCalls
section
namespace Go.Tk
open Go
def tb4 : List (List UInt8) := [[103, 101, 116], [112, 117, 116], [97, 100, 100], [110, 101, 101, 100]]
theorem tb4_nm {n : Int} (h : 1 <= n /\ n <= 4) : ∃ (i : Nat) (hi : i < tb4.length), (i : Int) = n - 1 /\ tb4[i] = nmD n /\ ∀ j (hj : j < i), tb4[j]'(by omega) ≠ nmD n := by
 have : n = 1 ∨ n = 2 ∨ n = 3 ∨ n = 4 := by omega
 rcases this with rfl | rfl | rfl | rfl
 ·refine ⟨0, by decide, rfl, rfl, fun j hj => ?_⟩
  exact absurd hj (Nat.not_lt_zero _)
 ·refine ⟨1, by decide, rfl, rfl, fun j hj => ?_⟩
  have : j = 0 := by omega
  subst this
  show ([103, 101, 116] : List UInt8) ≠ [112, 117, 116]
  decide
 ·refine ⟨2, by decide, rfl, rfl, fun j hj => ?_⟩
  have : j = 0 ∨ j = 1 := by omega
  rcases this with rfl | rfl
  ·show ([103, 101, 116] : List UInt8) ≠ [97, 100, 100]
   decide
  ·show ([112, 117, 116] : List UInt8) ≠ [97, 100, 100]
   decide
 ·refine ⟨3, by decide, rfl, rfl, fun j hj => ?_⟩
  have : j = 0 ∨ j = 1 ∨ j = 2 := by omega
  rcases this with rfl | rfl | rfl
  ·show ([103, 101, 116] : List UInt8) ≠ [110, 101, 101, 100]
   decide
  ·show ([112, 117, 116] : List UInt8) ≠ [110, 101, 101, 100]
   decide
  ·show ([97, 100, 100] : List UInt8) ≠ [110, 101, 101, 100]
   decide
end Go.Tk
namespace Go.Proofs.YtjioiemhgbkbfaaGreatDoor
open Go Go.Tk
theorem qGY {h : H} {s : List UInt8} (gl : Gl h) (gm : MxL h) (hs : s.length <= 4000000) {R : Ending -> H -> Prop} (k : ∀ x ok, (∀ st, stP st -> s = stW st -> ok = true /\ x = st) -> R (.returned (.tuple #[.agg (qO x).toArray, .bool ok])) h) :
  HCalls Tryz.prog 192 #[.string ⟨s.toArray⟩] h R := by
 refine qD lite (args := [.string ⟨s.toArray⟩]) Tryz.func192 ?_
 conv => arg 2; cbv
 rw [qR]
 have zs := wL
 simp only [wK, seval, str, zs]
 refine qC fun j2 hj2 => ?_
 have s2 := fun o => Sub.cons (o := o) hj2 (Sub.refl h)
 simp only [wK, seval, str, zs]
 refine split_c (c := 32) (gm.sub (s2 _)) (by omega) fun wv gw ow dw => ?_
 obtain ⟨ws, hws⟩ : ∃ ws, ws = splitB 32 s := ⟨_, rfl⟩
 rw [<- hws] at ow
 have dwx := dw
 simp only [subs] at dwx
 obtain ⟨w0, wr0, hw0⟩ : ∃ w0 wr0, ws = w0 :: wr0 := by
  cases e : ws with
  | nil => exact absurd (hws.symm.trans e) (qFI _ _)
  | cons a b => exact ⟨a, b, rfl⟩
 have hwsl : ws.length <= 4000001 /\ ∀ w ∈ ws, w.length <= 4000000 := by
  have := qCU 32 s
  rw [hws]
  exact ⟨by omega, fun w hw => by have := this.2 w hw; omega⟩
 have stw : ∀ st, s = stW st -> ws = uW st := fun st e => by rw [hws, e, qLS]
 have sM : ∀ o, Tk.Sub h (gw ++ ((j2, o) :: h)) := fun o => by (repeat' first | exact Sub.refl _ | exact Sub.nil _ | assumption | refine Sub.both ?_ ?_ | refine Sub.cons_of (by simp only [subs, dwx, hj2]) ?_ | exact Sub.left _ _ | refine Sub.app (by simp only [subs, dwx, hj2]) ?_ | refine Sub.cons (by simp only [subs, dwx, hj2]) ?_)
 have rW : ∀ o, rLs (gw ++ ((j2, o) :: h)) eT 1 wv ws := fun o => ow.rd.sub (Sub.left _ _)
 have rWl : ∀ {f : Value -> Prop}, jQ wv f = f (.int .i64 ws.length) := fun {f} => (rW (blk [] 0)).len (f := f)
 simp only [wK, seval, str, zs]
 refine qC (o := blk (fl eT tb4) 9) fun j5 hj5 => ?_
 have n5 := hj5
 simp only [subs] at n5
 have s5 := Sub.cons (o := blk (fl eT tb4) 9) hj5 (Sub.refl (gw ++ ((j2, blk (qO yT) 267) :: h)))
 simp only [wK, seval, str, zs]
 refine zS (i := 0) vK ((rW _).sub s5) rfl (by rw [hw0]; simp) fun b2 o2 e2 => ?_
 have e2' : qV ((j5, blk (fl eT tb4) 9) :: (gw ++ ((j2, blk (qO yT) 267) :: h))) b2 o2 1 = some [.string ⟨w0.toArray⟩] := by rw [e2]; simp only [hw0]; rfl
 simp only [wK, seval, yR e2', str, zs]
 refine qVP (kH vK tb4) (by decide) fun n hn1 hn2 hn3 => ?_
 have hn4 : n < 4 := hn3.2
 have hdo : ∀ st, stP st -> s = stW st -> n + 1 = st.do_ := fun st hst e => by
  have hw := stw st e
  rw [hw0] at hw
  have hd := hst.1
  unfold inP at hd
  obtain ⟨i, hi, h1, h2, h3⟩ := tb4_nm (n := st.do_) hd
  rw [<- (List.cons.inj hw).1] at h2 h3
  have := hn1 i hi h2 h3
  omega
 have wlen : ∀ st, s = stW st -> ws.length = if st.do_ = 1 then 2 else 3 := fun st e => by rw [stw st e, qLH]
 have w1 : ∀ st, s = stW st -> ∀ (h1 : 1 < ws.length), ws[1] = decI st.key := fun st e h1 => by
  have : ∀ (m : List (List UInt8)) (hm : 1 < m.length), m = uW st -> m[1] = decI st.key := by rintro m hm rfl; rfl
  exact this ws h1 (stw st e)
 have w2 : ∀ st, s = stW st -> ∀ (h1 : 2 < ws.length), ws[2] = decI st.num := fun st e h1 => by
  have : ∀ (m : List (List UInt8)) (hm : 2 < m.length), m = uW st -> m[2] = decI st.num := by
   rintro m hm rfl
   unfold uW at hm ⊢
   by_cases c : st.do_ = 1
   ·simp only [if_pos c, List.length_cons, List.length_nil] at hm; omega
   ·simp only [if_neg c]; rfl
  exact this ws h1 (stw st e)
 have eqS : ∀ {a b : DStatement}, a.do_ = b.do_ -> a.key = b.key -> a.num = b.num -> a = b := fun {a b} h1 h2 h3 => by
  obtain ⟨a1, a2, a3⟩ := a
  obtain ⟨b1, b2, b3⟩ := b
  simp only at h1 h2 h3
  rw [h1, h2, h3]
 have bad : ∀ {o : Obj} {x : DStatement} {M : H}, Tk.Sub h M -> (∀ st, stP st -> s = stW st -> False) -> dP R (.returned (.tuple #[.agg (qO x).toArray, .bool false])) M := fun {o x M} sm e => ⟨h, sm, k x false fun st a b => (e st a b).elim⟩
 have e25 : ¬ j2 = j5 := fun e => n5.2.1 e.symm
 have sH : ∀ o, Tk.Sub h ((j5, blk (fl eT tb4) 9) :: (gw ++ ((j2, o) :: h))) := fun o => by (repeat' first | exact Sub.refl _ | exact Sub.nil _ | assumption | refine Sub.both ?_ ?_ | refine Sub.cons_of (by simp only [subs, dwx, hj2, n5]) ?_ | exact Sub.left _ _ | refine Sub.app (by simp only [subs, dwx, hj2, n5]) ?_ | refine Sub.cons (by simp only [subs, dwx, hj2, n5]) ?_)
 simp (disch := omega) only [wK, seval, str, zs, qK, rWl]
 have a1 : ∀ st, stP st -> s = stW st -> ∀ (h1 : 1 < ws.length), Lib.atoiAll ws[1] = .ok st.key := fun st hst e h1 => by rw [w1 st e h1]; exact qTE (qNV hst).1
 have a2 : ∀ st, stP st -> s = stW st -> ∀ (h1 : 2 < ws.length), Lib.atoiAll ws[2] = .ok st.num := fun st hst e h1 => by rw [w2 st e h1]; exact qTE (qNV hst).2
 refine zV (fun c1 => ?_) fun c1 => ?_
 ·have c0 : ¬ (1 + n = 0) := by omega
  simp (disch := omega) only [wK, seval, zB, str, zs, qK, rWl, c0, if_false]
  simp only [wK, seval, zB, str, zs, apps, dwx, e25]
  refine zG (fun c2 => bad (o := blk [] 0) (sH _) fun st hst e => ?_) fun c2 => ?_
  ·have := wlen st e
   rw [if_pos (by have := hdo st hst e; omega)] at this
   omega
  refine qC fun j7 hj7 => ?_
  have n7 := hj7
  simp only [subs] at n7
  have e75 : ¬ j5 = j7 := fun e => n7.1 e.symm
  have e72 : ¬ j2 = j7 := fun e => n7.2.2.1 e.symm
  have s7 := fun o => Sub.cons (o := o) hj7 (Sub.refl ((j5, blk (fl eT tb4) 9) :: (gw ++ ((j2, blk (qO yT) 267) :: h))))
  simp only [wK, seval, zB, str, zs, apps, dwx, e25, e75, e72]
  have l1 : 1 < ws.length := by omega
  refine zS (i := 1) vK (((rW _).sub s5).sub (s7 (blk (qO { yT with do_ := 1 + n }) 267))) rfl l1 fun b3 o3 e3 => ?_
  have e3' : qV ((j7, blk (qO { yT with do_ := 1 + n }) 267) :: ((j5, blk (fl eT tb4) 9) :: (gw ++ ((j2, blk (qO yT) 267) :: h)))) b3 o3 1 = some [.string ⟨(ws[1]).toArray⟩] := e3
  simp only [wK, seval, yR e3', zB, str, zs]
  refine qPI (gl.sub ((sH _).trans (s7 _))) (by have := hwsl.2 _ (List.getElem_mem l1); omega) fun n1 x1 hn1 rn1 tn1 => ?_
  have bd1 : x1 ≠ .nilIface -> ∀ st, stP st -> s = stW st -> False := fun hx st hst e => hx (hn1 _ (a1 st hst e l1)).2
  simp only [wK, seval, zB, str, zs, apps, dwx, e25, e75, e72]
  rcases tn1 with rfl | ⟨y1, p1, rfl⟩
  rotate_left
  ·simp only [wK, seval, zB, str, zs, apps, dwx, e25, e75, e72]
   exact bad (o := blk [] 0) ((sH _).trans (s7 _)) (bd1 (by simp))
  simp only [wK, seval, zB, str, zs, apps, dwx, e25, e75, e72]
  refine ⟨rfl, ⟨h, (sH _).trans (Sub.cons (by simp only [subs, n7]) (Sub.refl _)), k _ true fun st hst e => ⟨rfl, eqS ?_ ?_ ?_⟩⟩⟩
  ·show 1 + n = st.do_
   have := hdo st hst e; omega
  ·exact (hn1 _ (a1 st hst e l1)).1
  ·exact (hst.2.2.2 (by have := hdo st hst e; omega)).symm
 ·refine zV (fun c0 => ?_) fun c0 => ?_
  ·simp only [wK, seval, zB, str, zs, apps, dwx, e25]
   refine bad (o := blk [] 0) (sH _) fun st hst e => ?_
   have h1 := hdo st hst e
   have h2 := hst.1
   unfold inP at h2
   omega
  ·simp (disch := omega) only [wK, seval, zB, str, zs, qK, rWl]
   simp only [wK, seval, zB, str, zs, apps, dwx, e25]
   refine zG (fun c2 => bad (o := blk [] 0) (sH _) fun st hst e => ?_) fun c2 => ?_
   ·have := wlen st e
    rw [if_neg (by have := hdo st hst e; omega)] at this
    omega
   refine qC fun j7 hj7 => ?_
   have n7 := hj7
   simp only [subs] at n7
   have e75 : ¬ j5 = j7 := fun e => n7.1 e.symm
   have e72 : ¬ j2 = j7 := fun e => n7.2.2.1 e.symm
   have s7 := fun o => Sub.cons (o := o) hj7 (Sub.refl ((j5, blk (fl eT tb4) 9) :: (gw ++ ((j2, blk (qO yT) 267) :: h))))
   simp only [wK, seval, zB, str, zs, apps, dwx, e25, e75, e72]
   have l1 : 1 < ws.length := by omega
   have l2 : 2 < ws.length := by omega
   refine zS (i := 1) vK (((rW _).sub s5).sub (s7 (blk (qO { yT with do_ := 1 + n }) 267))) rfl l1 fun b3 o3 e3 => ?_
   have e3' : qV ((j7, blk (qO { yT with do_ := 1 + n }) 267) :: ((j5, blk (fl eT tb4) 9) :: (gw ++ ((j2, blk (qO yT) 267) :: h)))) b3 o3 1 = some [.string ⟨(ws[1]).toArray⟩] := e3
   simp only [wK, seval, yR e3', zB, str, zs]
   refine qPI (gl.sub ((sH _).trans (s7 _))) (by have := hwsl.2 _ (List.getElem_mem l1); omega) fun n1 x1 hn1 rn1 tn1 => ?_
   have bd1 : x1 ≠ .nilIface -> ∀ st, stP st -> s = stW st -> False := fun hx st hst e => hx (hn1 _ (a1 st hst e l1)).2
   simp only [wK, seval, zB, str, zs, apps, dwx, e25, e75, e72]
   rcases tn1 with rfl | ⟨y1, p1, rfl⟩
   rotate_left
   ·simp only [wK, seval, zB, str, zs, apps, dwx, e25, e75, e72]
    exact bad (o := blk [] 0) ((sH _).trans (s7 _)) (bd1 (by simp))
   simp only [wK, seval, zB, str, zs, apps, dwx, e25, e75, e72]
   refine ⟨rfl, ?_⟩
   refine zS (i := 2) vK (((rW _).sub s5).sub (s7 (blk (qO { yT with do_ := 1 + n, key := n1 }) 267))) rfl l2 fun b4 o4 e4 => ?_
   have e4' : qV ((j7, blk (qO { yT with do_ := 1 + n, key := n1 }) 267) :: ((j5, blk (fl eT tb4) 9) :: (gw ++ ((j2, blk (qO yT) 267) :: h)))) b4 o4 1 = some [.string ⟨(ws[2]).toArray⟩] := e4
   simp only [wK, seval, yR e4', zB, str, zs]
   refine qPI (gl.sub ((sH _).trans (s7 _))) (by have := hwsl.2 _ (List.getElem_mem l2); omega) fun n2 x2 hn2 rn2 tn2 => ?_
   have bd2 : x2 ≠ .nilIface -> ∀ st, stP st -> s = stW st -> False := fun hx st hst e => hx (hn2 _ (a2 st hst e l2)).2
   simp only [wK, seval, zB, str, zs, apps, dwx, e25, e75, e72]
   rcases tn2 with rfl | ⟨y2, p2, rfl⟩
   rotate_left
   ·simp only [wK, seval, zB, str, zs, apps, dwx, e25, e75, e72]
    exact bad (o := blk [] 0) ((sH _).trans (s7 _)) (bd2 (by simp))
   simp only [wK, seval, zB, str, zs, apps, dwx, e25, e75, e72]
   refine ⟨rfl, ?_⟩
   refine ⟨h, (sH _).trans (Sub.cons (by simp only [subs, n7]) (Sub.refl _)), k _ true fun st hst e => ⟨rfl, eqS ?_ ?_ ?_⟩⟩
   ·show 1 + n = st.do_
    have := hdo st hst e; omega
   ·exact (hn1 _ (a1 st hst e l1)).1
   ·exact (hn2 _ (a2 st hst e l2)).1
end Go.Proofs.YtjioiemhgbkbfaaGreatDoor
end

section
namespace Go.Proofs.YtjioiemhgbkbfaaGreatDoor
open Go Go.Tk
def uB (s : DStatement) : Value := if s.do_ = 1 then .iface 327 (.agg #[.int .i64 s.key]) else if s.do_ = 2 then .iface 329 (.agg #[.int .i64 s.key, .int .i64 s.num]) else if s.do_ = 3 then .iface 330 (.agg #[.int .i64 s.key, .int .i64 s.num]) else .iface 331 (.agg #[.int .i64 s.key, .int .i64 s.num])
def qGS (s : DStatement) : List Value := [uB s]
theorem qFU (s : DStatement) : (qGS s).length = 1 := rfl
theorem qLR (s : DStatement) : vone (uB s) = true := by
 unfold uB
 repeat' split
 all_goals rfl
theorem qQF (s : DStatement) : zF (uB s) = [uB s] := by
 unfold uB
 repeat' split
 all_goals rfl
theorem zCP (l : List DStatement) : (fl qGS l).all vone = true := by
 induction l with
 | nil => rfl
 | cons a l ih => rw [vT, List.all_append, ih]; simp [qGS, qLR]
theorem zFR {h : H} {x : DStatement} {R : Ending -> H -> Prop} (k1 : stP x -> R (.returned (.tuple #[uB x, .bool true])) h) (k2 : ¬ stP x -> ∀ v, R (.returned (.tuple #[v, .bool false])) h) :
  HCalls Tryz.prog 210 #[.agg (qO x).toArray] h R := by
 refine qD lite (args := [.agg (qO x).toArray]) Tryz.func210 ?_
 conv => arg 2; cbv
 simp only [wK, seval, zB]
 refine qC fun j1 hj1 => ?_
 have s1 := Sub.cons (o := blk (qO x) 267) hj1 (Sub.refl h)
 simp only [wK, seval, zB]
 refine qON fun b1 hb1 => ?_
 simp only [wK, seval, zB]
 refine wJ (fun e => ⟨h, s1, k2 (fun p => qW hb1 e p.2.1) _⟩) fun e1 => ?_
 refine qOM fun b2 hb2 => ?_
 simp only [wK, seval, zB]
 refine wJ (fun e => ⟨h, s1, k2 (fun p => qW hb2 e p.2.2.1) _⟩) fun e2 => ?_
 have key := hb1.1 e1
 have val := hb2.1 e2
 have bad : ¬ (1 <= x.do_ /\ x.do_ <= 4) -> ¬ stP x := fun c p => c p.1
 refine zV (fun c1 => ?_) fun c1 => ?_
 ·refine zC _ (Sub.refl _) ?_
  simp only [wK, seval, zB]
  by_cases c0 : x.num = 0
  ·have sv : uB x = .iface 327 (.agg #[.int .i64 x.key]) := by unfold uB; rw [if_pos c1]
   rw [decide_eq_true c0]
   have := k1 ⟨by unfold inP; omega, key, val, fun _ => c0⟩
   rw [sv] at this
   exact ⟨h, s1, this⟩
  ·rw [decide_eq_false c0]
   exact ⟨h, s1, k2 (fun p => c0 (p.2.2.2 c1)) _⟩
 refine zV (fun c2 => ?_) fun c2 => ?_
 ·have sv : uB x = .iface 329 (.agg #[.int .i64 x.key, .int .i64 x.num]) := by unfold uB; rw [if_neg c1, if_pos c2]
  have := k1 ⟨by unfold inP; omega, key, val, fun e => absurd e c1⟩
  rw [sv] at this
  exact ⟨h, s1, this⟩
 refine zV (fun c3 => ?_) fun c3 => ?_
 ·have sv : uB x = .iface 330 (.agg #[.int .i64 x.key, .int .i64 x.num]) := by unfold uB; rw [if_neg c1, if_neg c2, if_pos c3]
  have := k1 ⟨by unfold inP; omega, key, val, fun e => absurd e c1⟩
  rw [sv] at this
  exact ⟨h, s1, this⟩
 refine zV (fun c4 => ?_) fun c4 => ?_
 ·have sv : uB x = .iface 331 (.agg #[.int .i64 x.key, .int .i64 x.num]) := by unfold uB; rw [if_neg c1, if_neg c2, if_neg c3]
  have := k1 ⟨by unfold inP; omega, key, val, fun e => absurd e c1⟩
  rw [sv] at this
  exact ⟨h, s1, this⟩
 ·exact ⟨h, s1, k2 (bad (by omega)) _⟩
theorem qLQ {h : H} {v : Value} {l : List DStatement} (r : rLs h qO 3 v l) (hl : l.length <= 1099511627776) {R : Ending -> H -> Prop} (k1 : uS l -> ∀ v' g, oLs 310 qGS 1 v' l g -> Dj g h -> R (.returned (.tuple #[v', .bool true])) (g ++ h)) (k2 : ¬ uS l -> R (.returned (.tuple #[.slice none 0 0, .bool false])) h) :
  HCalls Tryz.prog 203 #[v] h R := by
 refine qD lite (args := [v]) Tryz.func203 ?_
 conv => arg 2; cbv
 rw [qR]
 have zs := wL
 simp only [wK, seval, r.len, zs]
 refine yO fun b1 hb1 => ?_
 simp only [wK, seval, r.len, zs]
 refine wJ (fun e => .of (k2 fun p => qW hb1 e (by have := p.1; have := p.2.1; unfold inP; omega))) fun e1 => ?_
 have hlen := hb1.1 e1
 unfold inP at hlen
 refine ⟨⟨by omega, by omega, by omega⟩, qC fun js hjs => ?_⟩
 have o0 : oLs 310 qGS 1 (.slice (some ⟨js, 0, none⟩) 0 l.length) [] [(js, blk (zrep [.nilIface] l.length) 310)] :=
  ⟨rfl, .inr ⟨js, l.length, zrep [.nilIface] l.length, rfl, Nat.zero_le _, by simp [zrep, zHU], rfl⟩⟩
 have ss := Sub.cons (o := blk (zrep [.nilIface] l.length) 310) hjs (Sub.refl h)
 simp only [wK, seval, r.len, zs]
 refine qP [18, 4] (fun n vs h' => ∃ (i : Nat) (v' : Value) (G : H), vs = [.int .i64 i, v'] /\ h' = G ++ h /\ Dj G h /\ oLs 310 qGS 1 v' (l.take i) G /\ allP stP (l.take i) /\ i <= l.length /\ n = l.length - i) l.length rfl
  ⟨0, _, _, rfl, rfl, by simp only [subs, hjs], o0, xF _ _, by omega, rfl⟩ ?_
 rintro n f h' ⟨i, v', G, hv, rfl, dG, oG, ht, hi, rfl⟩
 simp only [lm4] at hv
 have sG := Sub.right dG
 simp only [wK, seval, wr, hv.1, hv.2, zs]
 refine qF (fun c2 => ?_) fun c2 => ?_
 ·have hi2 : i < l.length := by omega
  refine zS (i := i) yG (r.sub sG) rfl hi2 fun b1 o1 e1 => ?_
  simp only [wK, seval, e1, zs, zB]
  refine qC fun j6 hj6 => ?_
  have n6 := hj6
  simp only [subs] at n6
  have s6 := Sub.cons (o := blk (qO l[i]) 267) hj6 (Sub.refl (G ++ h))
  simp only [wK, seval, zs, zB]
  refine zFR (fun p => ?_) fun p v2 => ?_
  ·simp only [wK, seval, zs, zB, qLR, qQF]
   refine qC (o := blk (fl qGS [l[i]]) 310) fun j7 hj7 => ?_
   simp only [wK, seval, zs, zB]
   refine uT (g := G) (h := h) qFU zCP tSteps iStep (s6.trans (Sub.cons hj7 (Sub.refl _))) dG oG (kH (e := 310) qFU [l[i]]) (by rw [List.length_take]; simp; omega) (by rw [List.length_take]; simp; omega) fun v3 g3 o3 d3 => ?_
   simp (disch := omega) only [wK, seval, qK]
   refine ⟨l.length - (i + 1), by omega, _, .refl _, i + 1, v3, g3, by simp, rfl, d3, ?_, yJ hi2 ht p, by omega, rfl⟩
   rw [List.take_succ_eq_append_getElem hi2]; exact o3
  ·simp only [wK, seval, zs, zB]
   exact ⟨h, sG.trans s6, k2 fun q => p (q.2.2 _ (List.getElem_mem hi2))⟩
 ·have hi2 : i = l.length := by omega
  subst hi2
  rw [List.take_length] at ht oG
  exact .of (k1 ⟨by omega, by omega, ht⟩ v' G oG dG)
theorem zHM {h : H} {v : Value} {l : List DStatement} (r : rLs h qO 3 v l) (hl : l.length <= 1099511627776) {R : Ending -> H -> Prop} (k : Asks R (uS l) h) : HCalls Tryz.prog 193 #[v] h R := by
 refine qD lite (args := [v]) Tryz.func193 ?_
 conv => arg 2; cbv
 simp only [wK, seval]
 refine qLQ r hl (fun p v' g o d => ?_) fun p => ?_
 ·simp only [wK, seval]
  exact ⟨h, Sub.right d, k.yes p⟩
 ·simp only [wK, seval]
  exact .of (k.no p)
theorem qFL {h : H} {nm : List UInt8} {a b : Int} (gl : Gl h) (hn : nm.length <= 100) (ha : i64P a) (hb : i64P b) {R : Ending -> H -> Prop} (k : R (.returned (.string ⟨(nm ++ 32 :: (decI a ++ 32 :: (decI b ++ [59]))).toArray⟩)) h) :
  HCalls Tryz.prog 288 #[.string ⟨nm.toArray⟩, .int .i64 a, .int .i64 b] h R := by
 refine qD lite (args := [.string ⟨nm.toArray⟩, .int .i64 a, .int .i64 b]) Tryz.func288 ?_
 conv => arg 2; cbv
 rw [qR]
 have la := qFW ha
 have lb := qFW hb
 simp (disch := (first | assumption | (simp only [List.length_append, List.length_cons, List.length_nil]; omega) | omega)) only [wK, seval, str, vF]
 refine qVM gl ha ?_
 simp (disch := (first | assumption | (simp only [List.length_append, List.length_cons, List.length_nil]; omega) | omega)) only [wK, seval, str, vF]
 refine qVM gl hb ?_
 simp (disch := (first | assumption | (simp only [List.length_append, List.length_cons, List.length_nil]; omega) | omega)) only [wK, seval, str, vF]
 refine .of ?_
 have e : nm ++ [32] ++ decI a ++ [32] ++ decI b ++ [59] = nm ++ 32 :: (decI a ++ 32 :: (decI b ++ [59])) := by simp
 rw [e]; exact k
theorem qVY {h : H} {a : Int} (gl : Gl h) (ha : i64P a) {R : Ending -> H -> Prop} (k : R (.returned (.string ⟨([103, 101, 116, 32] ++ decI a ++ [59]).toArray⟩)) h) :
  HCalls Tryz.prog 286 #[.agg #[.int .i64 a]] h R := by
 refine qD lite (args := [.agg [.int .i64 a].toArray]) Tryz.func286 ?_
 conv => arg 2; cbv
 rw [qR]
 have la := qFW ha
 simp only [wK, seval, str]
 refine qC fun j hj => ?_
 have sj := fun o => Sub.cons (o := o) hj (Sub.refl h)
 simp only [wK, seval, str]
 refine qVM (gl.sub (sj _)) ha ?_
 simp (disch := (first | assumption | (simp only [List.length_append, List.length_cons, List.length_nil]; omega) | omega)) only [wK, seval, str, vF]
 exact ⟨h, sj _, k⟩
theorem qIM {h : H} {a b : Int} (gl : Gl h) (ha : i64P a) (hb : i64P b) {R : Ending -> H -> Prop} (k : R (.returned (.string ⟨([112, 117, 116] ++ 32 :: (decI a ++ 32 :: (decI b ++ [59]))).toArray⟩)) h) :
  HCalls Tryz.prog 287 #[.agg #[.int .i64 a, .int .i64 b]] h R := by
 refine qD lite (args := [.agg [.int .i64 a, .int .i64 b].toArray]) Tryz.func287 ?_
 conv => arg 2; cbv
 simp only [wK, seval, str]
 refine qC fun j hj => ?_
 have sj := fun o => Sub.cons (o := o) hj (Sub.refl h)
 simp only [wK, seval, str]
 refine qFL (gl.sub (sj _)) (by decide) ha hb ?_
 simp only [wK, seval, str]
 exact ⟨h, sj _, k⟩
theorem qKE {h : H} {a b : Int} (gl : Gl h) (ha : i64P a) (hb : i64P b) {R : Ending -> H -> Prop} (k : R (.returned (.string ⟨([97, 100, 100] ++ 32 :: (decI a ++ 32 :: (decI b ++ [59]))).toArray⟩)) h) :
  HCalls Tryz.prog 289 #[.agg #[.int .i64 a, .int .i64 b]] h R := by
 refine qD lite (args := [.agg [.int .i64 a, .int .i64 b].toArray]) Tryz.func289 ?_
 conv => arg 2; cbv
 simp only [wK, seval, str]
 refine qC fun j hj => ?_
 have sj := fun o => Sub.cons (o := o) hj (Sub.refl h)
 simp only [wK, seval, str]
 refine qFL (gl.sub (sj _)) (by decide) ha hb ?_
 simp only [wK, seval, str]
 exact ⟨h, sj _, k⟩
theorem qGZ {h : H} {a b : Int} (gl : Gl h) (ha : i64P a) (hb : i64P b) {R : Ending -> H -> Prop} (k : R (.returned (.string ⟨([110, 101, 101, 100] ++ 32 :: (decI a ++ 32 :: (decI b ++ [59]))).toArray⟩)) h) :
  HCalls Tryz.prog 290 #[.agg #[.int .i64 a, .int .i64 b]] h R := by
 refine qD lite (args := [.agg [.int .i64 a, .int .i64 b].toArray]) Tryz.func290 ?_
 conv => arg 2; cbv
 simp only [wK, seval, str]
 refine qC fun j hj => ?_
 have sj := fun o => Sub.cons (o := o) hj (Sub.refl h)
 simp only [wK, seval, str]
 refine qFL (gl.sub (sj _)) (by decide) ha hb ?_
 simp only [wK, seval, str]
 exact ⟨h, sj _, k⟩
theorem qQE {h : H} {s : DStatement} (gl : Gl h) (hp : stP s) {R : Ending -> H -> Prop} (k : R (.returned (.string ⟨(uX s).toArray⟩)) h) : invK Tryz.prog (uB s) "loop.example/turnpike/impl.text" [] h R := by
 obtain ⟨hd, hk, hv, _⟩ := hp
 unfold inP at hd
 have ik : i64P s.key := by unfold inP at hk; unfold i64P; omega
 have iv : i64P s.num := by unfold valP inP at hv; unfold i64P; omega
 rw [qQH] at k
 unfold stW nmD at k
 unfold uB
 split
 ·rename_i c
  rw [if_pos c, if_pos c] at k
  refine ⟨286, .agg #[.int .i64 s.key], by kernel_rfl, by kernel_rfl, qVY gl ik ?_⟩
  simpa using k
 ·rename_i c
  rw [if_neg c, if_neg c] at k
  split
  ·rename_i c2
   rw [if_pos c2] at k
   refine ⟨287, .agg #[.int .i64 s.key, .int .i64 s.num], by kernel_rfl, by kernel_rfl, qIM gl ik iv ?_⟩
   simpa using k
  ·rename_i c2
   rw [if_neg c2] at k
   split
   ·rename_i c3
    rw [if_pos c3] at k
    refine ⟨289, .agg #[.int .i64 s.key, .int .i64 s.num], by kernel_rfl, by kernel_rfl, qKE gl ik iv ?_⟩
    simpa using k
   ·rename_i c3
    rw [if_neg c3] at k
    refine ⟨290, .agg #[.int .i64 s.key, .int .i64 s.num], by kernel_rfl, by kernel_rfl, qGZ gl ik iv ?_⟩
    simpa using k
theorem qHB {h : H} {v : Value} {l : List DStatement} (gl : Gl h) (r : rLs h qO 3 v l) (hl : l.length <= 1099511627776) {R : Ending -> H -> Prop} (k : ∀ t, dealT l t -> R (.returned (.string ⟨t.toArray⟩)) h) :
  HCalls Tryz.prog 194 #[v] h R := by
 refine qD lite (args := [v]) Tryz.func194 ?_
 conv => arg 2; cbv
 simp only [wK, seval, str]
 refine qLQ r hl (fun p v' g o d => ?_) fun p => ?_
 ·have sg := Sub.right d
  simp only [wK, seval, str]
  refine qC fun jb hjb => ?_
  have nb := hjb
  simp only [subs] at nb
  simp only [wK, seval, str, o.rd.len]
  obtain ⟨B, hB⟩ : ∃ B, B = g ++ h := ⟨_, rfl⟩
  rw [<- hB] at sg
  have rB : rLs B qGS 1 v' l := o.rd.sub (by rw [hB]; exact Sub.left _ _)
  rw [<- hB] at hjb ⊢
  have hlt := fun i => qEZ (l := l.take i) fun x hx => p.2.2 x (List.mem_of_mem_take hx)
  refine qP [17] (fun n vs h' => ∃ (i : Nat) (G : H), vs = [.int .i64 i] /\ h' = G ++ B /\ oB jb (zR (l.take i)) G /\ Dj G B /\ i <= l.length /\ n = l.length - i) l.length rfl
   ⟨0, _, rfl, rfl, oB_new, by simp only [subs, hjb], by omega, rfl⟩ ?_
  rintro n f h' ⟨i, G, hv, rfl, oG, dG, hi, rfl⟩
  simp only [lm4] at hv
  have sG := Sub.right dG
  simp only [wK, seval, wr, hv, str]
  refine qF (fun c2 => ?_) fun c2 => ?_
  ·have hi2 : i < l.length := by omega
   refine zS (i := i) qFU (rB.sub sG) rfl hi2 fun b1 o1 e1 => ?_
   have e1' : qV (G ++ B) b1 o1 1 = some [uB l[i]] := e1
   have st := p.2.2 _ (List.getElem_mem hi2)
   have h60 := qIE st
   have hli := hlt i
   rw [List.length_take] at hli
   have h6 := p.2.1
   simp only [wK, seval, yR e1', str]
   refine qQE (gl.sub (sg.trans sG)) st ?_
   simp only [wK, seval, str]
   refine bws_c oG dG (by omega) fun G2 o2 d2 => ?_
   simp (disch := omega) only [wK, seval, qK]
   refine ⟨l.length - (i + 1), by omega, _, .refl _, i + 1, G2, by simp, rfl, ?_, d2, by omega, rfl⟩
   rw [List.take_succ_eq_append_getElem hi2, qFA, qEY]; exact o2
  ·have hi2 : i = l.length := by omega
   subst hi2
   have hli := hlt l.length
   rw [List.take_length] at oG hli
   have h6 := p.2.1
   refine bstr_c oG dG (by omega) ?_
   simp only [wK, seval]
   exact ⟨h, sg, k _ (.inl ⟨p, rfl⟩)⟩
 ·simp only [wK, seval, str]
  exact .of (k _ (.inr ⟨p, rfl⟩))
theorem qVQ {h : H} {s : List UInt8} (gl : Gl h) (gm : MxL h) (hs : s.length <= 4194304) {R : Ending -> H -> Prop} (k : ∀ v g l ok, OutD s l ok -> oLs 267 qO 3 v l g -> Dj g h -> R (.returned (.tuple #[v, .bool ok])) (g ++ h)) :
  HCalls Tryz.prog 173 #[.string ⟨s.toArray⟩] h R := by
 refine qD lite (args := [.string ⟨s.toArray⟩]) Tryz.func173 ?_
 conv => arg 2; cbv
 rw [qR]
 have zs := wL
 have bad : ∀ {M : H}, Tk.Sub h M -> (∀ d, uS d -> s = zR d -> s.length <= 80 -> False) -> dP R (.returned (.tuple #[.slice none 0 0, .bool false])) M := fun {M} sM e => ⟨h, sM, k _ [] [] false (.inr ⟨rfl, rfl, e⟩) (ows.nil _ _) (Dj.nil _)⟩
 simp only [wK, seval, str, zs]
 refine qF (fun c => bad (.refl _) fun d _ _ h => by omega) fun c => ?_
 refine qP [5, 4] (fun n vs h' => ∃ (v : Value) (xs : List DStatement) (r : List UInt8) (G : H), vs = [.string ⟨r.toArray⟩, v] /\ h' = G ++ h /\ Dj G h /\ oLs 267 qO 3 v xs G /\ xs.length + r.length <= 80 /\ (∀ d, uS d -> s = zR d -> ∃ i, i <= d.length /\ xs = d.take i /\ r = zR (d.drop i)) /\ n = r.length) s.length rfl
  ⟨_, [], s, [], rfl, rfl, Dj.nil _, ows.nil _ _, by simp; omega, fun d hd e => ⟨0, by omega, rfl, e⟩, rfl⟩ ?_
 rintro n f h' ⟨v, xs, r, G, hv, rfl, dG, oG, hlen, hin, rfl⟩
 simp only [lm4] at hv
 have sG := Sub.right dG
 simp only [wK, seval, wr, hv.1, hv.2, str, zs, xP, uI]
 refine zG (fun c2 => ?_) fun c2 => ?_
 ·refine cut_c (c := 59) (by omega) fun a b fd hc => ?_
  have hab : a.length <= r.length /\ b.length <= r.length /\ (fd = true -> b.length < r.length) := by
   obtain ⟨_, ⟨_, h2⟩ | ⟨h1, h2, h3⟩⟩ := hc
   ·rw [h2]; simp; omega
   ·rw [h2, h3, h1]; simp
  simp only [wK, seval, str, zs]
  refine qGY (gl.sub sG) (gm.sub sG) (by omega) fun x ok hx => ?_
  simp only [wK, seval, str, zs, zB]
  refine qC fun j9 hj9 => ?_
  have s9 := Sub.cons (o := blk (qO x) 267) hj9 (Sub.refl (G ++ h))
  have step : ∀ d, uS d -> s = zR d -> ∃ i, ∃ hi : i < d.length, xs = d.take i /\ a = stW d[i] /\ b = zR (d.drop (i + 1)) /\ fd = true := fun d hd e => by
   obtain ⟨i, hi, h1, h2⟩ := hin d hd e
   have hi2 : i < d.length := by
    rcases Nat.lt_or_ge i d.length with q | q
    ·exact q
    ·rw [List.drop_eq_nil_of_le q] at h2
     exact absurd h2 c2
   rw [List.drop_eq_getElem_cons hi2, uK] at h2
   obtain ⟨e1, e2, e3⟩ := hc.at h2 (qQG _)
   exact ⟨i, hi2, h1, e1, e2, e3⟩
  simp only [wK, seval, str, zs, zB]
  cases fd with
  | false =>
   simp only [wK, seval, str, zs, zB]
   exact bad (sG.trans s9) fun d hd e _ => by
    obtain ⟨i, hi, _, _, _, q⟩ := step d hd e
    cases q
  | true =>
   cases ok with
   | false =>
    simp only [wK, seval, str, zs, zB]
    exact bad (sG.trans s9) fun d hd e _ => by
     obtain ⟨i, hi, _, q, _, _⟩ := step d hd e
     have := (hx _ (hd.2.2 _ (List.getElem_mem hi)) q).1
     cases this
   | true =>
    simp only [wK, seval, str, zs, zB]
    refine qC (o := blk (fl qO [x]) 267) fun j7 hj7 => ?_
    simp only [wK, seval, zB, str, zs]
    refine uT (g := G) (h := h) yG uA jX qAL (s9.trans (Sub.cons hj7 (Sub.refl _))) dG oG (kH (e := 267) yG [x]) (by simp; omega) (by simp; omega) fun v2 g2 o2 d2 => ?_
    simp only [wK, seval]
    refine ⟨b.length, hab.2.2 rfl, _, .refl _, v2, _, b, g2, rfl, rfl, d2, o2, by rw [List.length_append]; have := hab.2.2 rfl; simp; omega, fun d hd e => ?_, rfl⟩
    obtain ⟨i, hi, h1, h2, h3, _⟩ := step d hd e
    refine ⟨i + 1, by omega, ?_, h3⟩
    rw [List.take_succ_eq_append_getElem hi, h1, (hx _ (hd.2.2 _ (List.getElem_mem hi)) h2).2]
 ·subst c2
  have fin : ∀ d, uS d -> s = zR d -> xs = d := fun d hd e => by
   obtain ⟨i, hi, h1, h2⟩ := hin d hd e
   rcases Nat.lt_or_ge i d.length with q | q
   ·rw [List.drop_eq_getElem_cons q, uK] at h2
    have := congrArg List.length h2
    simp at this
   ·rw [h1, List.take_of_length_le q]
  have hx80 : xs.length <= 80 := by omega
  refine zHM (oG.rd.sub (Sub.left _ _)) (by omega) fun b1 hb1 => ?_
  simp only [wK, seval]
  refine wJ (fun e => bad sG fun d hd e2 _ => qW hb1 e (by rw [fin d hd e2]; exact hd)) fun e1 => ?_
  have hp := hb1.1 e1
  refine qHB (gl.sub sG) (oG.rd.sub (Sub.left _ _)) (by omega) fun t ht => ?_
  simp only [wK, seval, str, xP, uI]
  have ht2 : t = zR xs := by
   rcases ht with ⟨_, ht⟩ | ⟨hn, _⟩
   ·exact ht
   ·exact absurd hp hn
  refine zG (fun c3 => bad sG fun d hd e _ => c3 (by rw [ht2, fin d hd e, e])) fun c3 => ?_
  exact .of (k v G xs true (.inl ⟨rfl, hp, by rw [<- c3, ht2], by omega⟩) oG dG)
theorem qRJ {h : H} {c : DCall} {R : Ending -> H -> Prop} (k : Asks R (formP c) h) : HCalls Tryz.prog 134 #[.agg (zW c).toArray] h R := by
 refine qD lite (args := [.agg (zW c).toArray]) Tryz.func134 ?_
 conv => arg 2; cbv
 simp only [wK, seval, zA]
 refine qC fun j hj => ?_
 have s1 := Sub.cons (o := blk (zW c) 64) hj (Sub.refl h)
 simp only [wK, seval, zA]
 refine zY fun b1 hb1 => ?_
 simp only [wK, seval, zA]
 refine wJ (fun e => k.dno s1 fun p => qW hb1 e p.1) fun e1 => ?_
 refine zY fun b2 hb2 => ?_
 simp only [wK, seval, zA]
 refine wJ (fun e => k.dno s1 fun p => qW hb2 e p.2.1) fun e2 => ?_
 have p1 := hb1.1 e1
 have p2 := hb2.1 e2
 refine zV (fun c1 => ?_) fun c1 => ?_
 ·refine zV (fun c2 => ?_) fun c2 => ?_
  ·refine zV (fun c3 => ?_) fun c3 => ?_
   ·refine ⟨h, s1, k _ ?_⟩
    rw [decide_eq_true_eq]
    exact ⟨fun x => ⟨p1, p2, .inl ⟨c1, c2, c3, by omega⟩⟩, fun p => by
     rcases p.2.2 with q | q
     ·have := q.2.2.2; omega
     ·have := q.1; omega⟩
   ·exact k.dno s1 fun p => by
     rcases p.2.2 with q | q
     ·exact c3 q.2.2.1
     ·have := q.1; omega
  ·exact k.dno s1 fun p => by
    rcases p.2.2 with q | q
    ·exact c2 q.2.1
    ·have := q.1; omega
 ·have el : ((⟨c.text.toArray⟩ : ByteArray) = ⟨#[]⟩) = (c.text = []) := propext ⟨fun e => by simpa using congrArg (fun a : ByteArray => a.data.toList) e, fun e => by rw [e]⟩
  refine zV (fun c2 => ?_) fun c2 => ?_
  ·simp only [wK, seval, zA, str, xP, el]
   refine zV (fun c3 => ?_) fun c3 => ?_
   ·refine zY fun b3 hb3 => ?_
    simp only [wK, seval, zA]
    cases b3 with
    | false =>
     simp only [wK, seval]
     exact k.dno s1 fun p => by
      rcases p.2.2 with q | q
      ·exact c1 q.1
      ·exact qW hb3 rfl q.2.2.1
    | true =>
     simp only [wK, seval, zA]
     refine zY fun b4 hb4 => ?_
     simp only [wK, seval, zA]
     refine ⟨h, s1, k _ ?_⟩
     rw [hb4]
     exact ⟨fun x => ⟨p1, p2, .inr ⟨c2, c3, hb3.1 rfl, x⟩⟩, fun p => by
      rcases p.2.2 with q | q
      ·exact absurd q.1 c1
      ·exact q.2.2.2⟩
   ·exact k.dno s1 fun p => by
     rcases p.2.2 with q | q
     ·exact c1 q.1
     ·exact c3 q.2.1
  ·exact k.dno s1 fun p => by
    rcases p.2.2 with q | q
    ·exact c1 q.1
    ·exact c2 q.1
theorem qDZ {h : H} {c : DCall} (ht : c.text.length <= 4194304) {R : Ending -> H -> Prop} (k : Asks R (qFB c) h) : HCalls Tryz.prog 86 #[.agg (zW c).toArray] h R := by
 refine qD lite (args := [.agg (zW c).toArray]) Tryz.func86 ?_
 conv => arg 2; cbv
 simp only [wK, seval, zA]
 refine qC fun j hj => ?_
 have s1 := Sub.cons (o := blk (zW c) 64) hj (Sub.refl h)
 simp only [wK, seval, zA]
 refine zV (fun c1 => ?_) fun c1 => ?_
 ·refine qUM ht fun v g l ok O o d => ?_
  have n := d
  simp only [subs] at n
  have s2 := s1.trans (Sub.right d)
  simp only [wK, seval, zA]
  cases ok with
  | false =>
   simp only [wK, seval]
   refine ⟨h, s2, k.no fun p => ?_⟩
   have := O.iff.2 (p.2 c1)
   cases this
  | true =>
   simp only [wK, seval, zA, apps, n]
   refine qRJ fun b hb => ?_
   simp only [wK, seval, zA]
   refine ⟨h, s2, k _ ?_⟩
   rw [hb]
   exact ⟨fun x => ⟨x, fun _ => O.iff.1 rfl⟩, fun p => p.1⟩
 ·refine qRJ fun b hb => ?_
  simp only [wK, seval, zA]
  refine ⟨h, s1, k _ ?_⟩
  rw [hb]
  exact ⟨fun x => ⟨x, fun y => absurd y c1⟩, fun p => p.1⟩
theorem qEK {h : H} {c : DCall} (gl : Gl h) (gm : MxL h) (ht : c.text.length <= 4194304) {R : Ending -> H -> Prop} (k : Asks R (qFB c) h) : HCalls Tryz.prog 143 #[.agg (zW c).toArray] h R := by
 refine qD lite (args := [.agg (zW c).toArray]) Tryz.func143 ?_
 conv => arg 2; cbv
 rw [qR]
 have el : ((⟨c.text.toArray⟩ : ByteArray) = ⟨#[]⟩) = (c.text = []) := propext ⟨fun e => by simpa using congrArg (fun a : ByteArray => a.data.toList) e, fun e => by rw [e]⟩
 simp only [wK, seval, zA]
 refine qC fun j hj => ?_
 have s1 := Sub.cons (o := blk (zW c) 64) hj (Sub.refl h)
 simp only [wK, seval, zA]
 refine qGP fun b1 hb1 => ?_
 simp only [wK, seval, zA]
 refine wJ (fun e => k.dno s1 fun p => qW hb1 e p.1.1) fun e1 => ?_
 refine yO fun b2 hb2 => ?_
 simp only [wK, seval, zA]
 refine wJ (fun e => k.dno s1 fun p => qW hb2 e p.1.2.1) fun e2 => ?_
 have p1 := hb1.1 e1
 have p2 := hb2.1 e2
 refine zV (fun c1 => ?_) fun c1 => ?_
 ·refine qVQ (gl.sub s1) (gm.sub s1) ht fun v g l ok O o d => ?_
  have n := d
  simp only [subs] at n
  have s2 := s1.trans (Sub.right d)
  simp only [wK, seval, zA]
  cases ok with
  | false =>
   simp only [wK, seval]
   refine ⟨h, s2, k.no fun p => ?_⟩
   have := O.iff.2 (p.2 c1)
   cases this
  | true =>
   have hd := O.iff.1 rfl
   have h80 : c.text.length <= 80 := by obtain ⟨_, _, _, z⟩ := hd; exact z
   simp only [wK, seval, zA, apps, n]
   refine zV (fun c2 => ?_) fun c2 => ?_
   ·refine ⟨h, s2, k _ ?_⟩
    rw [decide_eq_true_eq]
    exact ⟨fun x => ⟨⟨p1, p2, .inl ⟨c1, c2, x, h80⟩⟩, fun _ => hd⟩, fun p => by
     rcases p.1.2.2 with q | q
     ·exact q.2.2.1
     ·have := q.1; omega⟩
   ·refine ⟨h, s2, k.no fun p => ?_⟩
    rcases p.1.2.2 with q | q
    ·exact c2 q.2.1
    ·have := q.1; omega
 ·refine zV (fun c2 => ?_) fun c2 => ?_
  ·simp only [wK, seval, zA, str, xP, el]
   refine zV (fun c3 => ?_) fun c3 => ?_
   ·refine qEI fun b3 hb3 => ?_
    simp only [wK, seval, zA]
    cases b3 with
    | false =>
     simp only [wK, seval]
     exact k.dno s1 fun p => by
      rcases p.1.2.2 with q | q
      ·exact c1 q.1
      ·exact qW hb3 rfl q.2.2.1
    | true =>
     simp only [wK, seval, zA]
     refine jG fun b4 hb4 => ?_
     simp only [wK, seval, zA]
     refine ⟨h, s1, k _ ?_⟩
     rw [hb4]
     exact ⟨fun x => ⟨⟨p1, p2, .inr ⟨c2, c3, hb3.1 rfl, x⟩⟩, fun y => absurd y c1⟩, fun p => by
      rcases p.1.2.2 with q | q
      ·exact absurd q.1 c1
      ·exact q.2.2.2⟩
   ·exact k.dno s1 fun p => by
     rcases p.1.2.2 with q | q
     ·exact c1 q.1
     ·exact c3 q.2.1
  ·exact k.dno s1 fun p => by
    rcases p.1.2.2 with q | q
    ·exact c1 q.1
    ·exact c2 q.1
end Go.Proofs.YtjioiemhgbkbfaaGreatDoor
end

section
namespace Go.Tk
open Go
theorem qRE (l : List DRecord) (s : Int) : xX (l.take 0) s = none := by simp [xX]
theorem qGN {l : List DRecord} {n : Nat} (h : n < l.length) (s : Int) : xX (l.take (n + 1)) s = if l[n].call.session = s then some l[n] else xX (l.take n) s := by
 unfold xX
 rw [List.take_succ_eq_append_getElem h, List.reverse_append]
 simp only [List.reverse_cons, List.reverse_nil, List.nil_append, List.singleton_append, List.find?_cons]
 by_cases c : l[n].call.session = s
 ·simp [c]
 ·simp [c]
theorem last_at (l : List DRecord) (s : Int) : ∀ n, n <= l.length -> ∃ m, m <= n /\ (∀ j (hj : j < l.length), m <= j -> j < n -> ¬ l[j].call.session = s) /\
  ((m = 0 /\ xX (l.take n) s = none) ∨ ∃ i, ∃ (hi : i < l.length), m = i + 1 /\ l[i].call.session = s /\ xX (l.take n) s = some l[i]) := by
 intro n
 induction n with
 | zero => intro _; exact ⟨0, Nat.le_refl _, fun j _ _ h => absurd h (Nat.not_lt_zero _), .inl ⟨rfl, qRE l s⟩⟩
 | succ n ih =>
  intro hn
  have hn2 : n < l.length := hn
  by_cases c : l[n].call.session = s
  ·exact ⟨n + 1, Nat.le_refl _, fun j _ h1 h2 => absurd h2 (by omega), .inr ⟨n, hn2, rfl, c, by rw [qGN hn2, if_pos c]⟩⟩
  ·obtain ⟨m, h1, h2, h3⟩ := ih (by omega)
   refine ⟨m, by omega, fun j hj a b => ?_, ?_⟩
   ·by_cases e : j = n
    ·subst e; exact c
    ·exact h2 j hj a (by omega)
   ·rw [qGN hn2, if_neg c]; exact h3
end Go.Tk
namespace Go.Proofs.YtjioiemhgbkbfaaGreatDoor
open Go Go.Tk
theorem qMD {h : H} {v : Value} {l : List DRecord} {s : Int} (r : rRs h (rRecord h) 11 v l) (hl : l.length <= 1099511627776) :
  ∃ d a b ok, sRecord h d a b /\ xX l s = (if ok = true then some d else none) /\ ∀ R : Ending -> H -> Prop, R (.returned (.tuple #[.agg (qL d a b).toArray, .bool ok])) h -> HCalls Tryz.prog 41 #[v, .int .i64 s] h R := by
 obtain ⟨m, hm, hno, hat⟩ := last_at l s l.length (Nat.le_refl _)
 rw [List.take_length] at hat
 have zr := uD
 have walk : ∀ (d : DRecord) (a b : Value) (ok : Bool) (R : Ending -> H -> Prop), ((m = 0 /\ d = zRecord /\ a = .slice none 0 0 /\ b = .slice none 0 0 /\ ok = false) ∨ (ok = true /\ ∃ i bb oo, m = i + 1 /\ i < l.length /\ d.call.session = s /\ vone a = true /\ vone b = true /\ (∀ (kd : IntKind) (f : Value -> Prop), vI v (.int kd (i : Int)) 11 f = f (.pointer (some ⟨bb, oo, none⟩))) /\ qV h bb oo 11 = some (qL d a b))) ->
   R (.returned (.tuple #[.agg (qL d a b).toArray, .bool ok])) h -> HCalls Tryz.prog 41 #[v, .int .i64 s] h R := by
  intro d a b ok R hc k
  refine qD lite (args := [v, .int .i64 s]) Tryz.func41 ?_
  conv => arg 2; cbv
  simp only [wK, seval, zr]
  refine qC (o := blk (qL zRecord (.slice none 0 0) (.slice none 0 0)) 106) fun j hj => ?_
  simp (disch := omega) only [wK, seval, zr, r.len, qK]
  have s1 := fun o => Sub.cons (o := o) hj (Sub.refl h)
  refine qP [6] (fun n vs h' => n <= l.length /\ m <= n /\ vs = [.int .i64 ((n : Int) - 1)] /\ h' = (j, blk (qL zRecord (.slice none 0 0) (.slice none 0 0)) 106) :: h) l.length rfl ⟨by omega, hm, rfl, rfl⟩ ?_
  rintro n f h' ⟨hn, hmn, hv, rfl⟩
  simp only [lm4] at hv
  have r1 : rRs ((j, blk (qL zRecord (.slice none 0 0) (.slice none 0 0)) 106) :: h) (rRecord h) 11 v l := r.subH (s1 _)
  simp only [wK, seval, wr, hv, zr]
  refine xA (fun c => ?_) fun c => ?_
  ·obtain ⟨i, rfl⟩ : ∃ i, n = i + 1 := ⟨n - 1, by omega⟩
   have hi : i < l.length := by omega
   rw [show ((i + 1 : Nat) : Int) - 1 = (i : Int) by omega]
   by_cases hmi : m = i + 1
   ·rcases hc with ⟨c0, _⟩ | ⟨rfl, i', bb, oo, e1, e2, e3, oa, ob, hx, e⟩
    ·omega
    ·have : i' = i := by omega
     subst this
     have e' : qV ((j, blk (qL zRecord (.slice none 0 0) (.slice none 0 0)) 106) :: h) bb oo 11 = some (qL d a b) := kS (s1 _) e
     have c2 : hcel ((j, blk (qL zRecord (.slice none 0 0) (.slice none 0 0)) 106) :: h) bb (oo + 2) = some (.int .i64 d.call.session) := zK e' 2 rfl
     have hone := wRecord.2.2.2.2.2.2.2.2.2.2.2.2.2.2.1 d a b oa ob
     simp only [wK, seval, hx, c2, zr, e3, e', wRecord, hone]
     exact ⟨h, s1 _, k⟩
   ·obtain ⟨bb, oo, cs, hx, e, a1, a2, rfl, sr⟩ := zU r1 hi
    have c2 : hcel ((j, blk (qL zRecord (.slice none 0 0) (.slice none 0 0)) 106) :: h) bb (oo + 2) = some (.int .i64 l[i].call.session) := zK e 2 rfl
    have hne := hno i hi (by omega) hi
    simp (disch := omega) only [wK, seval, hx, c2, zr, hne, qK]
    exact ⟨i, by omega, _, .refl _, by omega, by omega, by simp, rfl⟩
  ·have : m = 0 := by omega
   rcases hc with ⟨c0, rfl, rfl, rfl, rfl⟩ | ⟨rfl, i', bb, oo, e1, _⟩
   ·simp only [wK, seval, zr, wRecord]
    exact ⟨h, s1 _, k⟩
   ·omega
 rcases hat with ⟨m0, hn⟩ | ⟨i, hi, hmi, hsi, hs⟩
 ·exact ⟨zRecord, .slice none 0 0, .slice none 0 0, false, ⟨(qXT (e := 0)).rd.sub (Sub.nil _), (qXT (e := 0)).rd.sub (Sub.nil _)⟩, hn, fun R k => walk _ _ _ _ R (.inl ⟨m0, rfl, rfl, rfl, rfl⟩) k⟩
 ·obtain ⟨bb, oo, cs, hx, e, a1, a2, rfl, sr⟩ := zU r hi
  exact ⟨l[i], a1, a2, true, sr, hs, fun R k => walk _ _ _ _ R (.inr ⟨rfl, i, bb, oo, hmi, hi, hsi, rdS.one sr.1, rdS.one sr.2, hx, e⟩) k⟩
theorem qVF {h : H} {v : Value} {l : List DRecord} {nx : Int} (r : rRs h (rRecord h) 11 v l) (hl : l.length <= 1048576) (hb : allP bRecord l) (hn : inP 1 9999 nx) {R : Ending -> H -> Prop} (k : Asks R (qMP l nx) h) :
  HCalls Tryz.prog 39 #[v, .int .i64 nx] h R := by
 refine qD lite (args := [v, .int .i64 nx]) Tryz.func39 ?_
 conv => arg 2; cbv
 rw [qR]
 have zr := uD
 have hn2 : IntKind.i64.wrap (nx - 1) = nx - 1 := qK _ (by have := hn.1; have := hn.2; omega)
 simp only [wK, seval, zr, r.len]
 refine qF (fun c => .of (k.no fun p => by have := p.1; omega)) fun c0 => ?_
 refine qP [5] (fun n vs h' => ∃ i : Nat, vs = [.int .i64 i] /\ h' = h /\ i <= l.length /\ n = l.length - i /\ ∀ j (hj : j < i) (hj2 : j < l.length), qAG (l.take j) nx l[j]) l.length rfl ⟨0, rfl, rfl, by omega, rfl, fun j hj => absurd hj (Nat.not_lt_zero _)⟩ ?_
 rintro n f h' ⟨i, hv, rfl, hi, rfl, hok⟩
 simp only [lm4] at hv
 simp only [wK, seval, wr, hv, zr, r.len]
 refine qF (fun c => ?_) fun c => ?_
 ·have hi2 : i < l.length := by omega
  have bR := hb _ (List.getElem_mem hi2)
  have b1 := bR.v; have b2 := bR.p; have b3 := bR.c
  unfold qAX at b3
  unfold lim at b1 b2 b3
  obtain ⟨b, o, cs, hx, e, a1, a2, rfl, sr⟩ := zU r hi2
  have hone := wRecord.2.2.2.2.2.2.2.2.2.2.2.2.2.2.1 l[i] a1 a2 (rdS.one sr.1) (rdS.one sr.2)
  have no : ∀ {P : Prop}, (qAG (l.take i) nx l[i] -> P) -> ¬ P -> ¬ qMP l nx := fun f g p => g (f (p.2 i hi2))
  simp only [wK, seval, hx, e, zr, wRecord]
  refine qC (o := blk (qL zRecord (.slice none 0 0) (.slice none 0 0)) 106) fun j hj => ?_
  simp only [wK, seval, zr, wRecord, hone, hn2]
  have s1 := fun o => Sub.cons (o := o) hj (Sub.refl h')
  have ec : ∀ c, (qL l[i] a1 a2).drop 2 = zW l[i].call ++ c -> True := fun _ _ => trivial
  refine zY fun q1 hq1 => ?_
  cases q1 with
  | false =>
   simp only [wK, seval, zr, wRecord]
   exact k.dno (s1 _) (no (fun p => p.1) (qW hq1 rfl))
  | true =>
   simp only [wK, seval, zr, wRecord]
   refine zY fun q2 hq2 => ?_
   cases q2 with
   | false =>
    simp only [wK, seval, zr, wRecord]
    exact k.dno (s1 _) (no (fun p => p.2.1) (qW hq2 rfl))
   | true =>
    simp only [wK, seval, zr, wRecord]
    refine qDZ (by omega) fun q3 hq3 => ?_
    cases q3 with
    | false =>
     simp only [wK, seval, zr, wRecord]
     exact k.dno (s1 _) (no (fun p => p.2.2.1) (qW hq3 rfl))
    | true =>
     simp only [wK, seval, zr, wRecord]
     refine zY fun q4 hq4 => ?_
     cases q4 with
     | false =>
      simp only [wK, seval, zr, wRecord]
      exact k.dno (s1 _) (no (fun p => p.2.2.2.1) (qW hq4 rfl))
     | true =>
      simp only [wK, seval, zr, wRecord]
      refine qJA (sr.1.sub (s1 _)) (by omega) fun q5 hq5 => ?_
      cases q5 with
      | false =>
       simp only [wK, seval, zr, wRecord]
       exact k.dno (s1 _) (no (fun p => p.2.2.2.2.1) (qW hq5 rfl))
      | true =>
       simp only [wK, seval, zr, wRecord]
       refine kR (sr.2.sub (s1 _)) (by omega) fun q6 hq6 => ?_
       cases q6 with
       | false =>
        simp only [wK, seval, zr, wRecord]
        exact k.dno (s1 _) (no (fun p => p.2.2.2.2.2.1) (qW hq6 rfl))
       | true =>
        simp only [wK, seval, zr, wRecord]
        obtain ⟨M, hM⟩ : ∃ M, M = (j, blk (qL l[i] a1 a2) 106) :: h' := ⟨_, rfl⟩
        have sM : Tk.Sub h' M := by rw [hM]; exact s1 _
        have f0 : hcel M j 0 = some (.int .i64 l[i].stamp) := by rw [hM]; simp only [wK, seval, wRecord]
        have f2 : hcel M j 2 = some (.int .i64 l[i].call.session) := by rw [hM]; simp only [wK, seval, wRecord]
        have f3 : hcel M j 3 = some (.int .i64 l[i].call.number) := by rw [hM]; simp only [wK, seval, wRecord]
        have rM : rRs M (rRecord h') 11 v l := r.subH sM
        rw [<- hM]
        refine qP [7] (fun n vs g' => ∃ p : Nat, vs = [.int .i64 p] /\ g' = M /\ p <= i /\ n = i - p /\ ∀ x ∈ l.take p, x.stamp ≠ l[i].stamp) i rfl ⟨0, rfl, rfl, by omega, rfl, fun x hx => by simp at hx⟩ ?_
        rintro n2 f' g' ⟨p, hv2, rfl, hp, rfl, hst⟩
        simp only [lm4] at hv2
        simp only [wK, seval, wr, hv2]
        refine qF (fun c4 => ?_) fun c4 => ?_
        ·have hp2 : p < l.length := by omega
         obtain ⟨b', o', cs', hx', e', a1', a2', rfl, sr'⟩ := zU rM hp2
         have g0 : hcel g' b' o' = some (.int .i64 l[p].stamp) := by have := zK e' 0 rfl; rw [Nat.add_zero] at this; exact this
         refine zC _ (Sub.refl _) ?_
         simp only [wK, seval, hx', g0, f0, Sub.refl]
         have hin : l[p] ∈ l.take i := by
          rw [List.mem_take_iff_getElem]
          exact ⟨p, by omega, rfl⟩
         refine zV (fun c5 => k.dno sM (no (fun p => p.2.2.2.2.2.2.1) fun q => q _ hin c5)) fun c5 => ?_
         simp (disch := omega) only [qK]
         refine ⟨i - (p + 1), by omega, _, .refl _, p + 1, by simp, rfl, by omega, rfl, fun x hx => ?_⟩
         rw [List.take_succ_eq_append_getElem hp2] at hx
         rcases List.mem_append.1 hx with hx | hx
         ·exact hst x hx
         ·rw [List.mem_singleton.1 hx]; exact c5
        ·have hpi : p = i := by omega
         have hst2 : ∀ x ∈ l.take i, x.stamp ≠ l[i].stamp := fun x hx => hst x (by rw [hpi]; exact hx)
         refine zC _ (Sub.refl _) ?_
         simp only [wK, seval]
         refine qAD rM (by omega) (by omega) fun v2 r2 => ?_
         rw [Int.toNat_natCast] at r2
         simp only [wK, seval, f2]
         obtain ⟨d, x1, x2, ok, sd, hlast, hc⟩ := qMD (s := l[i].call.session) (r2.relImp fun _ _ x => rRecord.sub sM x) (by rw [List.length_take]; omega)
         refine ⟨_, hc, ?_⟩
         simp only [wK, seval, zr]
         refine qC (o := blk (qL zRecord (.slice none 0 0) (.slice none 0 0)) 106) fun j8 hj8 => ?_
         have s8 := qFC (o := blk (qL zRecord (.slice none 0 0) (.slice none 0 0)) 106) hj8
         have hone8 := wRecord.2.2.2.2.2.2.2.2.2.2.2.2.2.2.1 d x1 x2 (rdS.one sd.1) (rdS.one sd.2)
         have s9 : ∀ o, Tk.Sub g' ((j8, o) :: g') := fun o => Sub.cons hj8 (Sub.refl _)
         have f3' := yA (s9 (blk (qL d x1 x2) 106)) f3
         have fin : (∀ x, xX (l.take i) l[i].call.session = some x -> x.call.number < l[i].call.number) -> ∃ m, m < l.length - i /\ ∃ g, Tk.Sub g ((j8, blk (qL d x1 x2) 106) :: g') /\ ∃ i' : Nat, [Value.int .i64 ((i : Int) + 1)] = [Value.int .i64 i'] /\ g = h' /\ i' <= l.length /\ m = l.length - i' /\ ∀ (j : Nat), j < i' -> ∀ (hj2 : j < l.length), qAG (l.take j) nx l[j] := fun hfin =>
          ⟨l.length - (i + 1), by omega, h', sM.trans (s9 _), i + 1, by simp, rfl, by omega, rfl, fun q hq hq' => by
           by_cases e : q = i
           ·subst e; exact ⟨hq1.1 rfl, hq2.1 rfl, hq3.1 rfl, hq4.1 rfl, hq5.1 rfl, hq6.1 rfl, hst2, hfin⟩
           ·exact hok q (by omega) hq'⟩
         simp only [wK, seval, s8, zr, wRecord, hone8]
         cases ok with
         | false =>
          simp (disch := omega) only [wK, seval, qK]
          exact fin fun x hx => by rw [hlast] at hx; simp at hx
         | true =>
          simp only [wK, seval, f3']
          refine xA (fun c7 => k.dno (sM.trans (s9 _)) (no (fun p => p.2.2.2.2.2.2.2) fun q => ?_)) fun c7 => ?_
          ·have := q d (by rw [hlast]; rfl)
           omega
          ·simp (disch := omega) only [wK, seval, qK]
           refine fin fun x hx => ?_
           rw [hlast] at hx
           cases hx
           exact c7
 ·exact .of (k.yes ⟨by omega, fun j hj => hok j (by omega) hj⟩)
end Go.Proofs.YtjioiemhgbkbfaaGreatDoor
end

section
namespace Go.Tk
open Go
def qMC (l : List DLive) (s : Int) : Int := match l.findIdx? fun x => decide (x.stamp = s) with
 | some i => i
 | none => -1
theorem qSC {α : Type} {p : α -> Bool} {l : List α} (h : ∀ x ∈ l, p x = false) : l.findIdx? p = none := by
 rw [List.findIdx?_eq_none_iff]; exact h
theorem qSE {α : Type} {p : α -> Bool} {l : List α} {i : Nat} (hi : i < l.length) (h : ∀ x ∈ l.take i, p x = false) (hp : p l[i] = true) : l.findIdx? p = some i := by
 rw [List.findIdx?_eq_some_iff_getElem]
 refine ⟨hi, hp, fun j hj => ?_⟩
 have : l[j] ∈ l.take i := by
  rw [List.mem_take_iff_getElem]
  exact ⟨j, by omega, rfl⟩
 rw [h _ this]; simp
theorem qUY {α : Type} {p : α -> Bool} {l : List α} {i : Nat} (hi : i < l.length) (h : ∀ x ∈ l.take i, p x = false) (hp : p l[i] = false) : ∀ x ∈ l.take (i + 1), p x = false := by
 intro x hx
 rw [List.take_succ_eq_append_getElem hi] at hx
 rcases List.mem_append.1 hx with hx | hx
 ·exact h x hx
 ·rw [List.mem_singleton.1 hx]; exact hp
theorem zGZ (l : List DLive) (s : Int) : (qMC l s = -1 /\ wF l s = none) ∨ ∃ i, ∃ (hi : i < l.length), qMC l s = i /\ wF l s = some l[i] := by
 unfold qMC wF
 induction l with
 | nil => exact .inl ⟨rfl, rfl⟩
 | cons x l ih =>
  rw [List.findIdx?_cons, List.find?_cons]
  by_cases c : x.stamp = s
  ·exact .inr ⟨0, by simp, by simp [c], by simp [c]⟩
  ·rcases ih with ⟨h1, h2⟩ | ⟨i, hi, h1, h2⟩
   ·refine .inl ⟨?_, by simp [c, h2]⟩
    cases e : l.findIdx? (fun x => decide (x.stamp = s)) with
    | none => simp [c, e]
    | some k => rw [e] at h1; simp only at h1; omega
   ·refine .inr ⟨i + 1, by simpa using hi, ?_, by simp [c, h2]⟩
    cases e : l.findIdx? (fun x => decide (x.stamp = s)) with
    | none => rw [e] at h1; simp only at h1; omega
    | some k => rw [e] at h1; simp only at h1; simp [c, e]; omega
end Go.Tk
namespace Go.Proofs.YtjioiemhgbkbfaaGreatDoor
open Go Go.Tk
theorem zBP {h : H} {v : Value} {l : List DLive} {s : Int} (r : rRs h (rLive h) 12 v l) (hl : l.length <= 1099511627776) {R : Ending -> H -> Prop} (k : R (.returned (.int .i64 (qMC l s))) h) : HCalls Tryz.prog 87 #[v, .int .i64 s] h R := by
 refine qD lite (args := [v, .int .i64 s]) Tryz.func87 ?_
 conv => arg 2; cbv
 simp only [wK, seval, r.len]
 refine qP [5] (fun n vs h' => ∃ i : Nat, vs = [.int .i64 i] /\ h' = h /\ i <= l.length /\ n = l.length - i /\ ∀ x ∈ l.take i, decide (x.stamp = s) = false) l.length rfl ⟨0, rfl, rfl, by omega, by omega, by simp⟩ ?_
 rintro n f h' ⟨i, hv, rfl, hi, rfl, ht⟩
 simp only [lm4] at hv
 simp only [wK, seval, wr, hv, r.len]
 refine qF (fun c => ?_) fun c => ?_
 ·have hi2 : i < l.length := by omega
  obtain ⟨b, o, cs, hx, e, a1, a2, rfl, sr⟩ := zU r hi2
  have f1 : hcel h' b o = some (.int .i64 l[i].stamp) := by have := zK e 0 rfl; rw [Nat.add_zero] at this; exact this
  simp only [wK, seval, hx, f1]
  refine zV (fun c1 => ?_) fun c1 => ?_
  ·refine .of ?_
   rw [qMC, qSE hi2 ht (by simpa using c1)] at k
   exact k
  ·simp (disch := omega) only [qK]
   exact ⟨l.length - (i + 1), by omega, h', .refl _, i + 1, by simp, rfl, by omega, rfl, fun x hx => by simpa using qUY (p := fun x => decide (x.stamp = s)) hi2 ht (by simpa using c1) x hx⟩
 ·have hi2 : i = l.length := by omega
  subst hi2
  rw [List.take_length] at ht
  rw [qMC, qSC ht] at k
  exact .of k
theorem zBO {h : H} {v : Value} {l : List DWay} {s : Int} (r : rLs h cWay 2 v l) (hl : l.length <= 1099511627776) {R : Ending -> H -> Prop} (k : R (.returned (.int .i64 (xO l s))) h) : HCalls Tryz.prog 88 #[v, .int .i64 s] h R := by
 refine qD lite (args := [v, .int .i64 s]) Tryz.func88 ?_
 conv => arg 2; cbv
 simp only [wK, seval, r.len]
 refine qP [6, 5] (fun n vs h' => ∃ i : Nat, vs = [.int .i64 i, .int .i64 (xO (l.take i) s)] /\ h' = h /\ i <= l.length /\ n = l.length - i) l.length rfl ⟨0, rfl, rfl, by omega, by omega⟩ ?_
 rintro n f h' ⟨i, hv, rfl, hi, rfl⟩
 simp only [lm4] at hv
 simp only [wK, seval, wr, hv.1, hv.2, r.len]
 refine qF (fun c => ?_) fun c => ?_
 ·have hi2 : i < l.length := by omega
  obtain ⟨b, o, hx, e⟩ := yU (enc := cWay) (sz := 2) (fun _ => rfl) r hi2
  have f1 : hcel h' b o = some (.int .i64 l[i].house) := by have := zK e 0 rfl; rw [Nat.add_zero] at this; exact this
  have hu : xO (l.take i) s <= i := Nat.le_trans List.countP_le_length (by rw [List.length_take]; omega)
  have hm : xO (l.take (i + 1)) s = xO (l.take i) s + if l[i].house = s then 1 else 0 := by
   unfold xO
   rw [List.take_succ_eq_append_getElem hi2, List.countP_append, List.countP_singleton]
   simp only [decide_eq_true_eq]
  simp only [wK, seval, hx, f1]
  refine zV (fun c1 => ?_) fun c1 => ?_
  ·rw [if_pos c1] at hm
   simp (disch := omega) only [wK, seval, qK]
   exact ⟨l.length - (i + 1), by omega, h', .refl _, i + 1, by rw [hm]; simp, rfl, by omega, rfl⟩
  ·rw [if_neg c1] at hm
   simp (disch := omega) only [wK, seval, qK]
   exact ⟨l.length - (i + 1), by omega, h', .refl _, i + 1, by rw [hm]; simp, rfl, by omega, rfl⟩
 ·have hi2 : i = l.length := by omega
  subst hi2
  rw [List.take_length] at *
  exact .of k
theorem qRK {h : H} {g : DGate} {lg lv wy : Value} (r : sGate h g lg lv wy) (hb : bGate g) {R : Ending -> H -> Prop} (k : Asks R (qLJ g.lives g.ways) h) : HCalls Tryz.prog 42 #[.agg (zN g lg lv wy).toArray] h R := by
 refine yK (args := [.agg (zN g lg lv wy).toArray]) Tryz.func42 ir42 ?_
 have b1 := hb.lives; have b2 := hb.ways
 unfold lim at b1 b2
 simp only [wK, seval, yF]
 refine qC (o := blk (zN g lg lv wy) 38) fun j hj => ?_
 have s1 := Sub.cons (o := blk (zN g lg lv wy) 38) hj (Sub.refl h)
 have r1 := r.sub s1
 obtain ⟨M, hM⟩ : ∃ M, M = (j, blk (zN g lg lv wy) 38) :: h := ⟨_, rfl⟩
 have f4 : hcel M j 4 = some lv := by rw [hM]; simp only [wK, seval, yF]
 have f5 : hcel M j 5 = some wy := by rw [hM]; simp only [wK, seval, yF]
 have zw := qHE
 rw [<- hM] at r1 s1
 simp only [wK, seval, yF, <- hM]
 refine qP [3] (fun n vs h' => ∃ i : Nat, vs = [.int .i64 i] /\ h' = M /\ i <= g.ways.length /\ n = g.ways.length - i /\ (∀ w ∈ g.ways.take i, xH w.house /\ (∃ x, wF g.lives w.stamp = some x /\ x.phase ≠ 0) /\ xO g.ways w.house <= 2) /\ ∀ q (hq : q + 1 < g.ways.length), q + 1 < i -> qAT (g.ways[q]'(by omega)) g.ways[q + 1]) g.ways.length rfl ⟨0, rfl, rfl, by omega, by omega, by simp, by simp⟩ ?_
 rintro n f h' ⟨i, hv, rfl, hi, rfl, hall, hlt⟩
 simp only [lm4] at hv
 simp only [wK, seval, wr, hv, f5, r1.2.2.len]
 refine qF (fun c => ?_) fun c => ?_
 ·have hi2 : i < g.ways.length := by omega
  obtain ⟨b, o, hx, e⟩ := yU (enc := cWay) (sz := 2) (fun _ => rfl) r1.2.2 hi2
  simp only [wK, seval, hx, e, f5, wWay, zw]
  refine qC (o := blk (cWay zWay) 161) fun j4 hj4 => ?_
  obtain ⟨B, hB⟩ : ∃ B, B = (j4, blk (cWay g.ways[i]) 161) :: h' := ⟨_, rfl⟩
  have sB : Tk.Sub h' B := by rw [hB]; exact Sub.cons hj4 (Sub.refl _)
  have f4' := yA sB f4
  have f5' := yA sB f5
  have w0 : hcel B j4 0 = some (.int .i64 g.ways[i].house) := by rw [hB]; simp only [wK, seval, wWay]
  have w1 : hcel B j4 1 = some (.int .i64 g.ways[i].stamp) := by rw [hB]; simp only [wK, seval, wWay]
  have rl := r1.2.1.subH sB
  have rw' := r1.2.2.sub sB
  simp only [wK, seval, hx, e, f5, wWay, zw, <- hB, f4', f5', w0, w1]
  have no : ¬ (xH g.ways[i].house /\ (∃ x, wF g.lives g.ways[i].stamp = some x /\ x.phase ≠ 0) /\ xO g.ways g.ways[i].house <= 2) -> ¬ qLJ g.lives g.ways := fun q p => q (p.1 _ (List.getElem_mem hi2))
  have s2 := s1.trans sB
  refine zBP (rl.relImp fun _ _ x => rLive.sub sB x) (by omega) ?_
  simp only [wK, seval, f4', f5', w0, w1]
  refine jR fun u hu => ?_
  cases u with
  | false =>
   simp only [wK, seval, f4', f5', w0, w1]
   exact k.dno s2 (no fun q => qW hu rfl q.1)
  | true =>
  simp only [wK, seval, f4', f5', w0, w1]
  rcases zGZ g.lives g.ways[i].stamp with ⟨h1, h2⟩ | ⟨p, hp, h1, h2⟩
  ·simp only [wK, seval, h1, f4', f5', w0, w1]
   exact k.dno s2 (no fun q => by obtain ⟨_, ⟨x, hx, _⟩, _⟩ := q; rw [h2] at hx; cases hx)
  ·obtain ⟨b6, o6, cs6, hx6, e6, a61, a62, rfl, sr6⟩ := zU rl hp
   have f6 : hcel B b6 (o6 + 3) = some (.int .i64 g.lives[p].phase) := zK e6 3 rfl
   have hp0 : ¬ (p : Int) < 0 := by omega
   simp only [wK, seval, h1, hp0, hx6, f6, f4', f5', w0, w1]
   have hlx : ∀ x, wF g.lives g.ways[i].stamp = some x -> x = g.lives[p] := fun x hx => by rw [h2] at hx; cases hx; rfl
   refine zV (fun c7 => k.dno s2 (no fun q => by obtain ⟨_, ⟨x, hx, hx2⟩, _⟩ := q; exact hx2 (by rw [hlx x hx]; exact c7))) fun c7 => ?_
   refine zBO rw' (by omega) ?_
   have hu7 : xO g.ways g.ways[i].house <= g.ways.length := List.countP_le_length
   simp only [wK, seval, f4', f5', w0, w1]
   refine qF (fun c8 => k.dno s2 (no fun q => by have := q.2.2; omega)) fun c8 => ?_
   have good : xH g.ways[i].house /\ (∃ x, wF g.lives g.ways[i].stamp = some x /\ x.phase ≠ 0) /\ xO g.ways g.ways[i].house <= 2 := ⟨hu.1 rfl, ⟨_, h2, c7⟩, by omega⟩
   have next : (∀ (hq : 0 < i), qAT (g.ways[i - 1]'(by omega)) g.ways[i]) -> ∃ m, m < g.ways.length - i /\ ∃ gg, Tk.Sub gg B /\ ∃ i' : Nat, [Value.int .i64 ((i : Int) + 1)] = [Value.int .i64 i'] /\ gg = h' /\ i' <= g.ways.length /\ m = g.ways.length - i' /\ (∀ w ∈ g.ways.take i', xH w.house /\ (∃ x, wF g.lives w.stamp = some x /\ x.phase ≠ 0) /\ xO g.ways w.house <= 2) /\ ∀ q (hq : q + 1 < g.ways.length), q + 1 < i' -> qAT (g.ways[q]'(by omega)) g.ways[q + 1] := fun hw =>
    ⟨g.ways.length - (i + 1), by omega, h', sB, i + 1, by simp, rfl, by omega, rfl, fun w hw2 => by
     rw [List.take_succ_eq_append_getElem hi2] at hw2
     rcases List.mem_append.1 hw2 with hw2 | hw2
     ·exact hall w hw2
     ·rw [List.mem_singleton.1 hw2]; exact good, fun q hq hq2 => by
     by_cases e : q + 1 = i
     ·subst e; exact hw (by omega)
     ·exact hlt q hq (by omega)⟩
   refine zC _ (Sub.refl _) ?_
   simp only [wK, seval, f4', f5', w0, w1, Sub.refl B]
   refine qF (fun g1 => ?_) fun g1 => ?_
   ·have hi3 : i - 1 < g.ways.length := by omega
    obtain ⟨b3, o3, hx3, e3⟩ := yU (enc := cWay) (sz := 2) (fun _ => rfl) rw' hi3
    have y0 : hcel B b3 o3 = some (.int .i64 g.ways[i - 1].house) := by have := zK e3 0 rfl; rw [Nat.add_zero] at this; exact this
    have y1 : hcel B b3 (o3 + 1) = some (.int .i64 g.ways[i - 1].stamp) := zK e3 1 rfl
    have hw3 : IntKind.i64.wrap ((i : Int) - 1) = ((i - 1 : Nat) : Int) := by rw [qK _ ⟨by omega, by omega⟩]; omega
    simp only [wK, seval, hx3, y0, y1, hw3, f4', f5', w0, w1, Sub.refl B]
    have bad : ¬ qAT g.ways[i - 1] g.ways[i] -> ¬ qLJ g.lives g.ways := fun q p => q (by
     have e : i - 1 + 1 = i := by omega
     have := p.2 (i - 1) (by omega)
     simpa only [e] using this)
    refine qF (fun g2 => k.dno s2 (bad fun q => by unfold qAT at q; omega)) fun g2 => ?_
    refine zV (fun g3 => ?_) fun g3 => ?_
    ·refine xA (fun g4 => k.dno s2 (bad fun q => by unfold qAT at q; omega)) fun g4 => ?_
     simp (disch := omega) only [wK, seval, qK, Sub.refl B]
     exact next fun _ => .inr ⟨g3, g4⟩
    ·simp (disch := omega) only [wK, seval, qK, Sub.refl B]
     exact next fun _ => .inl (by omega)
   ·simp (disch := omega) only [wK, seval, qK, Sub.refl B]
    exact next fun hq => absurd hq (by omega)
 ·exact k.dyes s1 (⟨by rw [List.take_of_length_le (by omega)] at hall; exact hall, fun q hq => hlt q hq (by omega)⟩)
end Go.Proofs.YtjioiemhgbkbfaaGreatDoor
end

section
namespace Go.Tk
open Go
def cmpI (a b : Int) : Int := if a < b then -1 else if b < a then 1 else 0
theorem cmpI_lt {a b : Int} : cmpI a b < 0 ↔ a < b := by unfold cmpI; split <;> (try split) <;> omega
theorem cmpI_eq {a b : Int} : cmpI a b = 0 ↔ a = b := by unfold cmpI; split <;> (try split) <;> omega
def codeP1 (n : Int) : Prop := inP 0 9 n
theorem jB {α : Type} {k : α -> Int} {l : List α} (h : risP k l) : ∀ j i (hj : j < l.length) (hi : i < j), k (l[i]'(by omega)) < k l[j] := by
 intro j
 induction j with
 | zero => intro i _ h; omega
 | succ j ih =>
  intro i hj hi
  have := h j hj
  by_cases e : i = j
  ·subst e; exact this
  ·exact Int.lt_trans (ih i (by omega) (by omega)) this
theorem shr1 (a b : Nat) (h : a + b <= 4611686018427387904) : IntKind.i64.wrap ((IntKind.u64.wrap ((a : Int) + b)).fdiv (2 ^ (min 1 IntKind.u64.bits))) = ((a + b) / 2 : Nat) := by
 have e1 : IntKind.u64.wrap ((a : Int) + b) = ((a + b : Nat) : Int) := by
  show ((a : Int) + b) % (2 ^ 64 : Nat) = _
  rw [show ((2 ^ 64 : Nat) : Int) = 18446744073709551616 from rfl]; omega
 rw [e1]
 have e2 : (2 : Int) ^ (min 1 IntKind.u64.bits) = 2 := rfl
 rw [e2]
 have e3 : ((a + b : Nat) : Int).fdiv 2 = (((a + b) / 2 : Nat) : Int) := by
  rw [Int.fdiv_eq_ediv_of_nonneg _ (by omega)]; omega
 rw [e3, qK _ ⟨by omega, by omega⟩]
def qIW (x : DLive) : Prop := vS x.try_ /\ inP 1 99 x.version /\ inP 0 2 x.phase /\ qFB x.call /\ (allP xH x.locked /\ risP id x.locked) /\ qXM x.told /\ (x.phase = 0 -> x.locked = []) /\ (x.phase ≠ 2 -> x.told = [])
theorem liveQ_P {x : DLive} {nx : Int} : qCN x nx ↔ inP 1 (nx - 1) x.stamp /\ qIW x := by
 unfold qCN qIW
 constructor
 ·rintro ⟨h1, h2, h3, h4, h5, h6, h7, h8, h9, h10⟩
  have := h4.1; have := h4.2
  exact ⟨h1, h2, h3, h4, h5, ⟨h9, h10⟩, h8, fun e => h7 (by omega), fun e => h6 (by omega)⟩
 ·rintro ⟨h1, h2, h3, h4, h5, ⟨h9, h10⟩, h8, h7, h6⟩
  have := h4.1; have := h4.2
  exact ⟨h1, h2, h3, h4, h5, fun e => h6 (by omega), fun e => h7 (by omega), h8, h9, h10⟩
theorem zBL {l : List DLive} {s : Int} {i : Nat} (hr : risP (·.stamp) l) (hi : i < l.length) (h : l[i].stamp = s) : wF l s = some l[i] := by
 unfold wF
 rw [List.find?_eq_some_iff_getElem]
 refine ⟨by simpa using h, i, hi, rfl, fun j hj => ?_⟩
 have := jB hr i j hi hj
 have : l[j].stamp ≠ s := by have h2 : l[j].stamp < l[i].stamp := this; omega
 simpa using this
theorem qMB {l : List DLive} {s : Int} (h : ∀ i (hi : i < l.length), l[i].stamp ≠ s) : wF l s = none := by
 unfold wF
 rw [List.find?_eq_none]
 intro x hx
 obtain ⟨i, hi, rfl⟩ := List.getElem_of_mem hx
 simpa using h i hi
end Go.Tk
namespace Go.Proofs.YtjioiemhgbkbfaaGreatDoor
open Go Go.Tk
theorem uF {a : Int} {h : H} {R : Ending -> H -> Prop} (k : Asks R (vS a) h) : HCalls Tryz.prog 106 #[.int .i64 a] h R := by
 refine qD lite (args := [.int .i64 a]) Tryz.func106 ?_
 conv => arg 2; cbv
 simp only [wK, seval]
 refine yO fun b hb => ?_
 simp only [wK, seval]
 exact .of (k b hb)
theorem qRP {a : Int} {h : H} {R : Ending -> H -> Prop} (k : Asks R (codeP1 a) h) : HCalls Tryz.prog 144 #[.int .i64 a] h R := by
 refine qD lite (args := [.int .i64 a]) Tryz.func144 ?_
 conv => arg 2; cbv
 simp only [wK, seval]
 refine yO fun b hb => ?_
 simp only [wK, seval]
 exact .of (k b hb)
theorem qYC {a : Int} {h : H} {R : Ending -> H -> Prop} (k : R (.returned (.bool false)) h) : HCalls Tryz.prog 195 #[.int .i64 a] h R := by
 refine qD lite (args := [.int .i64 a]) Tryz.func195 ?_
 conv => arg 2; cbv
 simp only [wK, seval]
 refine .of ?_
 have : (!decide (a = a)) = false := by simp
 first | exact k | (simp only [this]; exact k)
theorem qFX {a b : Int} {h : H} {R : Ending -> H -> Prop} (k : R (.returned (.int .i64 (cmpI a b))) h) : HCalls Tryz.prog 176 #[.int .i64 a, .int .i64 b] h R := by
 refine qD lite (args := [.int .i64 a, .int .i64 b]) Tryz.func176 ?_
 conv => arg 2; cbv
 simp only [wK, seval]
 refine qYC ?_
 simp only [wK, seval]
 refine qYC ?_
 simp only [wK, seval]
 unfold cmpI at k
 refine qF (fun c => ?_) fun c => ?_
 ·rw [if_pos c] at k; exact .of k
 ·rw [if_neg (by omega)] at k
  refine qF (fun c2 => ?_) fun c2 => ?_
  ·rw [if_pos c2] at k; exact .of k
  ·rw [if_neg (by omega)] at k; exact .of k
theorem qWM {h : H} {v w : Value} {a0 a1 b0 b1 : Int} (r : rInts h v [a0, a1]) (r2 : rInts h w [b0, b1]) {R : Ending -> H -> Prop} (k : R (.returned (.int .i64 (if a0 = b0 then cmpI a1 b1 else cmpI a0 b0))) h) :
  HCalls Tryz.prog 148 #[v, w] h R := by
 refine qD lite (args := [v, w]) Tryz.func148 ?_
 conv => arg 2; cbv
 simp only [wK, seval, r.len]
 refine qP [11] (fun n vs h' => ∃ i : Nat, vs = [.int .i64 i] /\ h' = h /\ i <= 2 /\ n = 2 - i /\ (0 < i -> a0 = b0) /\ (1 < i -> a1 = b1)) 2 rfl ⟨0, rfl, rfl, by omega, rfl, by omega, by omega⟩ ?_
 rintro n f h' ⟨i, hv, rfl, hi, rfl, h0, h1⟩
 simp only [lm4] at hv
 simp only [wK, seval, wr, hv, r.len, r2.len]
 refine qF (fun c => ?_) fun c => ?_
 ·obtain ⟨b, o, hx, e⟩ := yU (enc := eI) (sz := 1) yM r (i := i) (by simp; omega)
  obtain ⟨b', o', hx', e'⟩ := yU (enc := eI) (sz := 1) yM r2 (i := i) (by simp; omega)
  have f1 := yR e
  have f2 := yR e'
  simp only [wK, seval, hx, f1, r2.len]
  refine xA (fun c2 => absurd c2 (by simp at c ⊢; omega)) fun c2 => ?_
  simp only [wK, seval, hx', f2]
  refine qFX ?_
  simp only [wK, seval]
  have hcase : i = 0 ∨ i = 1 := by omega
  rcases hcase with rfl | rfl
  ·have e1 : ([a0, a1] : List Int)[0] = a0 := rfl
   have e2 : ([b0, b1] : List Int)[0] = b0 := rfl
   simp only [e1, e2]
   refine zG (fun c3 => ?_) fun c3 => ?_
   ·rw [if_neg (fun e => c3 (cmpI_eq.2 e))] at k; exact .of k
   ·simp (disch := omega) only [wK, seval, qK]
    exact ⟨1, by omega, _, .refl _, 1, rfl, rfl, by omega, rfl, fun _ => cmpI_eq.1 c3, by omega⟩
  ·have e1 : ([a0, a1] : List Int)[1] = a1 := rfl
   have e2 : ([b0, b1] : List Int)[1] = b1 := rfl
   simp only [e1, e2]
   refine zG (fun c3 => ?_) fun c3 => ?_
   ·rw [if_pos (h0 (by omega))] at k; exact .of k
   ·simp (disch := omega) only [wK, seval, qK]
    exact ⟨0, by omega, _, .refl _, 2, rfl, rfl, by omega, rfl, fun _ => h0 (by omega), fun _ => cmpI_eq.1 c3⟩
 ·have hi2 : i = 2 := by
   (try simp at c); omega
  subst hi2
  rw [if_pos (h0 (by omega)), cmpI_eq.2 (h1 (by omega))] at k
  try simp only [wK, seval, r2.len]
  try simp only [List.length_cons, List.length_nil, wK, seval]
  exact .of k
theorem qRA {h : H} {d : DLive} {a b : Value} {R : Ending -> H -> Prop} (k : R (.returned (.int .i64 d.stamp)) h) : HCalls Tryz.prog 150 #[.agg (zJ d a b).toArray] h R := by
 refine qD lite (args := [.agg (zJ d a b).toArray]) Tryz.func150 ?_
 conv => arg 2; cbv
 simp only [wK, seval, wLive]
 refine qC (o := blk (zJ d a b) 103) fun j hj => ?_
 simp only [wK, seval, wLive]
 exact ⟨h, Sub.cons hj (Sub.refl h), k⟩
theorem qEB {h : H} {d : DLive} {a b : Value} {s : Int} {j : Nat} (hj5 : hcel h j 0 = some (.func (.func 150) #[] #[])) {R : Ending -> H -> Prop} (k : R (.returned (.int .i64 (cmpI d.stamp s))) h) :
  HCalls Tryz.prog 178 #[.agg (zJ d a b).toArray, .int .i64 s, .pointer (some ⟨j, 0, none⟩)] h R := by
 refine qD lite (args := [.agg (zJ d a b).toArray, .int .i64 s, .pointer (some ⟨j, 0, none⟩)]) Tryz.func178 ?_
 conv => arg 2; cbv
 simp only [wK, seval, wLive]
 refine qC (o := blk (zJ d a b) 103) fun j3 hj3 => ?_
 have hj5' : hcel ((j3, blk (zJ d a b) 103) :: h) j 0 = some (.func (.func 150) #[] #[]) := yA (Sub.cons hj3 (Sub.refl h)) hj5
 simp only [wK, seval, wLive, hj5']
 refine ⟨by kernel_rfl, qRA ?_⟩
 simp only [wK, seval, wLive]
 refine qFX ?_
 simp only [wK, seval]
 exact ⟨h, Sub.cons hj3 (Sub.refl h), k⟩
theorem qOA {h : H} {v : Value} {l : List DLive} {s : Int} {j : Nat} (r : rRs h (rLive h) 12 v l) (hl : l.length <= 1099511627776) (hr : risP (·.stamp) l) (hj5 : hcel h j 0 = some (.func (.func 150) #[] #[])) {R : Ending -> H -> Prop}
  (k : ∀ (p : Nat) (has : Bool), p <= l.length -> (has = true -> ∃ hp : p < l.length, wF l s = some l[p]) -> (has = false -> wF l s = none) -> R (.returned (.tuple #[.int .i64 p, .bool has])) h) :
  HCalls Tryz.prog 177 #[v, .int .i64 s, .func (.func 178) #[] #[.pointer (some ⟨j, 0, none⟩)]] h R := by
 refine qD lite (args := [v, .int .i64 s, .func (.func 178) #[] #[.pointer (some ⟨j, 0, none⟩)]]) Tryz.func177 ?_
 conv => arg 2; cbv
 simp only [wK, seval, r.len]
 refine qP [9, 10] (fun n vs h' => ∃ i q : Nat, vs = [.int .i64 i, .int .i64 q] /\ h' = h /\ i <= q /\ q <= l.length /\ n = q - i /\ (∀ p (hp : p < l.length), p < i -> l[p].stamp < s) /\ (∀ p (hp : p < l.length), q <= p -> s <= l[p].stamp)) l.length rfl
  ⟨0, l.length, rfl, rfl, by omega, by omega, rfl, fun p hp h => absurd h (Nat.not_lt_zero _), fun p hp h => by omega⟩ ?_
 rintro n f h' ⟨i, q, hv, rfl, hiq, hq, rfl, hlo, hhi⟩
 simp only [lm4] at hv
 simp only [wK, seval, wr, hv.1, hv.2, r.len]
 refine qF (fun c => ?_) fun c => ?_
 ·have hm : (i + q) / 2 < l.length := by omega
  have hw : IntKind.i64.wrap ((i : Int) + q) = (i : Int) + q := qK _ ⟨by omega, by omega⟩
  have hs := shr1 i q (by omega)
  obtain ⟨b, o, cs, hx, e, a1, a2, rfl, sr⟩ := zU r hm
  simp only [wK, seval, hw, hs, hx, e]
  refine ⟨by kernel_rfl, qEB hj5 ?_⟩
  simp only [wK, seval]
  refine qF (fun c2 => ?_) fun c2 => ?_
  ·have h2 := cmpI_lt.1 c2
   simp (disch := omega) only [wK, seval, qK]
   refine ⟨q - ((i + q) / 2 + 1), by omega, _, .refl _, (i + q) / 2 + 1, q, by simp, rfl, by omega, hq, rfl, fun p hp hpi => ?_, hhi⟩
   by_cases e : p = (i + q) / 2
   ·subst e; exact h2
   ·have := jB hr ((i + q) / 2) p hm (by omega)
    have : l[p].stamp < l[(i + q) / 2].stamp := this
    omega
  ·have h2 : ¬ l[(i + q) / 2].stamp < s := fun x => by have := cmpI_lt.2 x; omega
   refine ⟨(i + q) / 2 - i, by omega, _, .refl _, i, (i + q) / 2, rfl, rfl, by omega, by omega, rfl, hlo, fun p hp hpi => ?_⟩
   by_cases e : p = (i + q) / 2
   ·subst e; omega
   ·have := jB hr p ((i + q) / 2) hp (by omega)
    have : l[(i + q) / 2].stamp < l[p].stamp := this
    omega
 ·have hiq2 : i = q := by omega
  subst hiq2
  refine qF (fun c2 => ?_) fun c2 => ?_
  ·have hi2 : i < l.length := by omega
   obtain ⟨b, o, cs, hx, e, a1, a2, rfl, sr⟩ := zU r hi2
   simp only [wK, seval, hx, e]
   refine ⟨by kernel_rfl, qEB hj5 ?_⟩
   simp only [wK, seval]
   refine .of (k i _ hq (fun hb => ⟨hi2, zBL hr hi2 (cmpI_eq.1 (by simpa using hb))⟩) fun hb => qMB fun p hp => ?_)
   have hne : ¬ l[i].stamp = s := fun x => by rw [cmpI_eq.2 x] at hb; simp at hb
   by_cases e : p = i
   ·subst e; exact hne
   ·by_cases e2 : p < i
    ·have := hlo p hp e2; omega
    ·have := jB hr p i hp (by omega)
     have : l[i].stamp < l[p].stamp := this
     have := hhi i hi2 (by omega)
     omega
  ·try simp only [wK, seval]
   refine .of (k i false hq (fun hb => by cases hb) fun _ => qMB fun p hp => ?_)
   have := hlo p hp (by omega)
   omega
theorem qQN {h : H} {v : Value} {l : List DLive} {s : Int} (r : rRs h (rLive h) 12 v l) (hl : l.length <= 1099511627776) (hr : risP (·.stamp) l) {R : Ending -> H -> Prop}
  (k : ∀ (p : Nat) (has : Bool), p <= l.length -> (has = true -> ∃ hp : p < l.length, wF l s = some l[p]) -> (has = false -> wF l s = none) -> R (.returned (.tuple #[.int .i64 p, .bool has])) h) :
  HCalls Tryz.prog 149 #[v, .int .i64 s, .func (.func 150) #[] #[]] h R := by
 refine qD lite (args := [v, .int .i64 s, .func (.func 150) #[] #[]]) Tryz.func149 ?_
 conv => arg 2; cbv
 simp only [wK, seval]
 refine qC fun j hj => ?_
 simp only [wK, seval]
 refine qOA ((r.subH (Sub.cons hj (Sub.refl h))).relImp fun _ _ x => rLive.sub (Sub.cons hj (Sub.refl h)) x) hl hr (by simp only [wK, seval]) fun p has h1 h2 h3 => ?_
 simp only [wK, seval]
 exact ⟨h, Sub.cons hj (Sub.refl h), k p has h1 h2 h3⟩
end Go.Proofs.YtjioiemhgbkbfaaGreatDoor
end
