/- Parts of the proof. -/
import Derived.Shelf.Vars
import Derived.Test.YtjioiemhgbkbfaaGreatDoorK155
import Derived.Test.YtjioiemhgbkbfaaGreatDoorK1512
import Derived.Test.YtjioiemhgbkbfaaGreatDoorK1510
import Derived.Test.YtjioiemhgbkbfaaGreatDoorK1511
import Derived.Test.YtjioiemhgbkbfaaGreatDoorK156
set_option maxHeartbeats 4000000
set_option maxRecDepth 100000
set_option linter.unusedVariables false
set_option linter.unusedSimpArgs false
set_option linter.defProp false
attribute [local irreducible] Go.Tk.vc Go.Tk.vops Go.Tk.vdr Go.Tk.vop Go.Tk.vfl Go.Tk.HCalls
section
namespace Go.Tk
open Go
end Go.Tk
namespace Go.Proofs.YtjioiemhgbkbfaaGreatDoor
open Go Go.Tk
theorem zIM {h : H} {x y : DGate} {v1 v2 v3 w1 w2 w3 : Value} (rx : sGate h x v1 v2 v3) (ry : sGate h y w1 w2 w3) (hx : bGate x) {R : Ending -> H -> Prop} (k : R (.returned (.bool (decide (x = y)))) h) :
  HCalls Tryz.prog 26 #[.agg (zN x v1 v2 v3).toArray, .agg (zN y w1 w2 w3).toArray] h R := by
 refine qD lite (args := [.agg (zN x v1 v2 v3).toArray, .agg (zN y w1 w2 w3).toArray]) Tryz.func26 ?_
 conv => arg 2; cbv
 rw [qR]
 have b1 := hx.log; have b2 := hx.lives; have b3 := hx.ways
 unfold lim at b1 b2 b3
 simp only [wK, seval, yF]
 refine qC fun j1 h1 => ?_
 simp only [wK, seval, yF]
 refine qC fun j2 h2 => ?_
 have n := wW h2
 have sb := fun o => Sub.cons (o := o) h2 (Sub.cons h1 (Sub.refl h))
 simp only [wK, seval, yF, n.1, n.2.1]
 refine qCA (fun d => ⟨h, Sub.cons h2 (Sub.cons h1 (Sub.refl h)), kF k (fun e => d (by rw [e]))⟩) fun d0 => ?_
 refine zG (fun d => ⟨h, Sub.cons h2 (Sub.cons h1 (Sub.refl h)), kF k (fun e => d (by rw [e]))⟩) fun d1 => ?_
 refine zG (fun d => ⟨h, Sub.cons h2 (Sub.cons h1 (Sub.refl h)), kF k (fun e => d (by rw [e]))⟩) fun d2 => ?_
 refine qSG (rx.1.sub (sb _) fun c a q => rRecord.sub (sb _) q) (ry.1.sub (sb _) fun c a q => rRecord.sub (sb _) q) hx.recs (by omega) ?_
 simp only [wK, seval, yF, n.1, n.2.1]
 refine zG (fun d => ⟨h, Sub.cons h2 (Sub.cons h1 (Sub.refl h)), kF k (fun e => d (by rw [e]))⟩) fun d3 => ?_
 refine zCK (rx.2.1.sub (sb _) fun c a q => rLive.sub (sb _) q) (ry.2.1.sub (sb _) fun c a q => rLive.sub (sb _) q) hx.live (by omega) ?_
 simp only [wK, seval, yF, n.1, n.2.1]
 refine zG (fun d => ⟨h, Sub.cons h2 (Sub.cons h1 (Sub.refl h)), kF k (fun e => d (by rw [e]))⟩) fun d4 => ?_
 refine zIF (rx.2.2.sub (sb _)) (ry.2.2.sub (sb _)) (by omega) ?_
 simp only [wK, seval, yF, n.1, n.2.1]
 refine zG (fun d => ⟨h, Sub.cons h2 (Sub.cons h1 (Sub.refl h)), kF k (fun e => d (by rw [e]))⟩) fun d5 => ?_
 refine ⟨h, Sub.cons h2 (Sub.cons h1 (Sub.refl h)), kT k ?_⟩
 cases x; cases y; simp_all
def nGate (h : H) (d : DGate) (v1 v2 v3 : Value) : Prop := rIRs h (nRecord h) 11 v1 d.log /\ rIRs h (nLive h) 12 v2 d.lives /\ rIn h cWay 2 v3 d.ways
theorem nGate.sub {g h : H} (s : Tk.Sub g h) {d : DGate} {v1 v2 v3 : Value} (r : nGate g d v1 v2 v3) : nGate h d v1 v2 v3 :=
 ⟨r.1.sub s fun _ _ q => nRecord.sub s q, r.2.1.sub s fun _ _ q => nLive.sub s q, r.2.2.sub s⟩
def zER (d : DGate) : Prop := d.log.length <= 9223372036854775807 /\ (∀ x ∈ d.log, qDN x) /\ d.lives.length <= 9223372036854775807 /\ (∀ x ∈ d.lives, qPZ x) /\ d.ways.length <= 9223372036854775807
theorem zFP {h : H} {d : DGate} {v1 v2 v3 : Value} {left : Int} (r : nGate h d v1 v2 v3) (hl : 0 <= left /\ left <= 1048576) (hu : zER d) {R : Ending -> H -> Prop} (k : ∀ x, (0 <= x -> x = left - qDX d) -> x <= 1048576 -> R (.returned (.int .i64 x)) h) :
  HCalls Tryz.prog 12 #[.agg (zN d v1 v2 v3).toArray, .int .i64 left] h R := by
 refine qD lite (args := [.agg (zN d v1 v2 v3).toArray, .int .i64 left]) Tryz.func12 ?_
 conv => arg 2; cbv
 rw [qR]
 obtain ⟨u1, u2, u3, u4, u5⟩ := hu
 unfold qDX at k
 simp only [wK, seval, yF]
 refine qC fun j hj => ?_
 have sb := fun o => Sub.cons (o := o) hj (Sub.refl h)
 simp (disch := omega) only [wK, seval, yF]
 refine qQC (r.1.sub (sb _) fun _ _ q => nRecord.sub (sb _) q) ⟨by omega, by omega⟩ (by omega) u2 fun x0 a0 b0 => ?_
 simp (disch := omega) only [wK, seval, yF]
 refine qF (fun c => ⟨h, sb _, k _ (fun q => absurd q (by omega)) (by omega)⟩) fun c0 => ?_
 have a0' := a0 (by omega)
 try simp (disch := omega) only [wK, seval, yF]
 refine zAM (r.2.1.sub (sb _) fun _ _ q => nLive.sub (sb _) q) ⟨by omega, by omega⟩ (by omega) u4 fun x1 a1 b1 => ?_
 simp (disch := omega) only [wK, seval, yF]
 refine qF (fun c => ⟨h, sb _, k _ (fun q => absurd q (by omega)) (by omega)⟩) fun c1 => ?_
 have a1' := a1 (by omega)
 try simp (disch := omega) only [wK, seval, yF]
 refine zFK (r.2.2.sub (sb _)) ⟨by omega, by omega⟩ (by omega) fun x2 a2 b2 => ?_
 simp (disch := omega) only [wK, seval, yF]
 refine qF (fun c => ⟨h, sb _, k _ (fun q => absurd q (by omega)) (by omega)⟩) fun c2 => ?_
 have a2' := a2 (by omega)
 try simp (disch := omega) only [wK, seval, yF]
 exact ⟨h, sb _, k _ (fun _ => by omega) (by omega)⟩
theorem zEU {h : H} {a : Value} {l : List DWay} (r : rIn h cWay 2 a l) (hl : l.length <= 1048576) {R : Ending -> H -> Prop} (k : ∀ M' v S, Tk.Sub h M' -> dL 161 cWay 2 M' v l S -> (∀ x, S x -> hget h x = none) -> R (.returned v) M') : HCalls Tryz.prog 56 #[a] h R :=
 zEV r hl fun v g o d => k _ v _ (Sub.right d) (dL.of (h := h) o (Sub.left _ _)) fun x q => d x q
theorem zFD {h : H} {d : DGate} {v1 v2 v3 : Value} (r : nGate h d v1 v2 v3) (hx : bGate d) {R : Ending -> H -> Prop}
  (k : ∀ M' w1 w2 w3 S, Tk.Sub h M' -> WGate M' d w1 w2 w3 S -> (∀ x, S x -> hget h x = none) -> R (.returned (.agg (zN d w1 w2 w3).toArray)) M') : HCalls Tryz.prog 21 #[.agg (zN d v1 v2 v3).toArray] h R := by
 refine qD lite (args := [.agg (zN d v1 v2 v3).toArray]) Tryz.func21 ?_
 conv => arg 2; cbv
 rw [qR]
 have b1 := hx.log; have b2 := hx.lives; have b3 := hx.ways
 unfold lim at b1 b2 b3
 have z1 := zDO
 try simp only [str] at z1
 simp only [wK, seval, yF, str, z1]
 refine qC fun j1 h1 => ?_
 simp only [wK, seval, yF]
 refine qC fun j2 h2 => ?_
 simp only [wK, seval, yF]
 refine qC fun j3 h3 => ?_
 have n2 := h2
 have n3 := h3
 simp only [subs] at n2 n3
 have m : j1 ≠ j2 /\ j1 ≠ j3 /\ j2 ≠ j3 /\ j2 ≠ j1 /\ j3 ≠ j1 /\ j3 ≠ j2 := by refine ⟨?_, ?_, ?_, ?_, ?_, ?_⟩ <;> simp_all [Ne, eq_comm]
 try simp only [wK, seval, yF, z1, m]
 obtain ⟨d0, hd0⟩ : ∃ d0 : DGate, d0 = ⟨d.up, d.life, d.next, zGate.log, zGate.lives, zGate.ways⟩ := ⟨_, rfl⟩
 rw [<- hd0]
 have same : ∀ a b c, zN d0 a b c = zN d a b c := fun a b c => by rw [hd0]; rfl
 obtain ⟨M0, hM0⟩ : ∃ M0, M0 = (j3, blk (zN d0 (.slice none 0 0) (.slice none 0 0) (.slice none 0 0)) 38) :: (j2, blk (zN zGate (.slice none 0 0) (.slice none 0 0) (.slice none 0 0)) 38) :: (j1, blk (zN d v1 v2 v3) 26) :: h := ⟨_, rfl⟩
 have sM0 : Tk.Sub h M0 := by rw [hM0]; (repeat' first | exact Sub.refl _ | exact Sub.nil _ | assumption | refine Sub.both ?_ ?_ | refine Sub.cons_of (by simp only [subs, n2, n3, h1, m]) ?_ | exact Sub.left _ _ | refine Sub.app (by simp only [subs, n2, n3, h1, m]) ?_ | refine Sub.cons (by simp only [subs, n2, n3, h1, m]) ?_)
 have g1 : hget M0 j1 = some (blk (zN d v1 v2 v3) 26) := by rw [hM0]; simp only [mem, m, ne_eq, not_false_eq_true]
 have g2 : hget M0 j2 = some (blk (zN zGate (.slice none 0 0) (.slice none 0 0) (.slice none 0 0)) 38) := by rw [hM0]; simp only [mem, m, ne_eq, not_false_eq_true]
 have g3 : hget M0 j3 = some (blk (zN d0 (.slice none 0 0) (.slice none 0 0) (.slice none 0 0)) 38) := by rw [hM0]; simp only [mem]
 rw [<- hM0]
 have cl1 : hcel M0 j1 3 = some v1 := qE g1 rfl
 try simp only [wK, seval, yF, cl1]
 refine qQA (r.1.sub sM0 fun _ _ q => nRecord.sub sM0 q) (by omega) hx.recs fun M1 w1 S1 t1 u1 f1 => ?_
 have g1_1' := t1 _ _ g1
 have g2_1' := t1 _ _ g2
 have g3_1' := t1 _ _ g3
 obtain ⟨N1, hN1⟩ : ∃ N1, N1 = hupd M1 j3 (blk (zN d0 w1 (.slice none 0 0) (.slice none 0 0)) 38) := ⟨_, rfl⟩
 have wt1 : zQ M1 j3 3 [w1] = some N1 := by
  rw [hN1]; exact yI g3_1' (by show 3 + 1 <= 6; omega)
 have on1 := u1.one
 have vcw1 := vc1 on1
 have g3_1 : hget N1 j3 = some (blk (zN d0 w1 (.slice none 0 0) (.slice none 0 0)) 38) := by rw [hN1]; exact zH g3_1'
 have g1_1 : hget N1 j1 = some (blk (zN d v1 v2 v3) 26) := by rw [hN1, qS m.2.1]; exact g1_1'
 have g2_1 : hget N1 j2 = some (blk (zN zGate (.slice none 0 0) (.slice none 0 0) (.slice none 0 0)) 38) := by rw [hN1, qS m.2.2.1]; exact g2_1'
 have fr1 : ∀ x, x ≠ j3 -> hget N1 x = hget M1 x := fun x e => by rw [hN1, qS e]
 have sN1 : Tk.Sub h N1 := fun x o e => by
  rw [fr1 x (fun c => by subst c; rw [n3.2.2] at e; cases e)]; exact t1 _ _ (sM0 _ _ e)
 simp only [wK, seval, yF, wt1, on1, vcw1]
 have cl2 : hcel N1 j1 4 = some v2 := qE g1_1 rfl
 try simp only [wK, seval, yF, cl2]
 refine zAE (r.2.1.sub sN1 fun _ _ q => nLive.sub sN1 q) (by omega) hx.live fun M2 w2 S2 t2 u2 f2 => ?_
 have g1_2' := t2 _ _ g1_1
 have g2_2' := t2 _ _ g2_1
 have g3_2' := t2 _ _ g3_1
 obtain ⟨N2, hN2⟩ : ∃ N2, N2 = hupd M2 j3 (blk (zN d0 w1 w2 (.slice none 0 0)) 38) := ⟨_, rfl⟩
 have wt2 : zQ M2 j3 4 [w2] = some N2 := by
  rw [hN2]; exact yI g3_2' (by show 4 + 1 <= 6; omega)
 have on2 := u2.one
 have vcw2 := vc1 on2
 have g3_2 : hget N2 j3 = some (blk (zN d0 w1 w2 (.slice none 0 0)) 38) := by rw [hN2]; exact zH g3_2'
 have g1_2 : hget N2 j1 = some (blk (zN d v1 v2 v3) 26) := by rw [hN2, qS m.2.1]; exact g1_2'
 have g2_2 : hget N2 j2 = some (blk (zN zGate (.slice none 0 0) (.slice none 0 0) (.slice none 0 0)) 38) := by rw [hN2, qS m.2.2.1]; exact g2_2'
 have fr2 : ∀ x, x ≠ j3 -> hget N2 x = hget M2 x := fun x e => by rw [hN2, qS e]
 have sN2 : Tk.Sub h N2 := fun x o e => by
  rw [fr2 x (fun c => by subst c; rw [n3.2.2] at e; cases e)]; exact t2 _ _ (sN1 _ _ e)
 simp only [wK, seval, yF, wt2, on2, vcw2]
 have cl3 : hcel N2 j1 5 = some v3 := qE g1_2 rfl
 try simp only [wK, seval, yF, cl3]
 refine zEU (r.2.2.sub sN2) (by omega) fun M3 w3 S3 t3 u3 f3 => ?_
 have g1_3' := t3 _ _ g1_2
 have g2_3' := t3 _ _ g2_2
 have g3_3' := t3 _ _ g3_2
 obtain ⟨N3, hN3⟩ : ∃ N3, N3 = hupd M3 j3 (blk (zN d0 w1 w2 w3) 38) := ⟨_, rfl⟩
 have wt3 : zQ M3 j3 5 [w3] = some N3 := by
  rw [hN3]; exact yI g3_3' (by show 5 + 1 <= 6; omega)
 have on3 := u3.one
 have vcw3 := vc1 on3
 have g3_3 : hget N3 j3 = some (blk (zN d0 w1 w2 w3) 38) := by rw [hN3]; exact zH g3_3'
 have g1_3 : hget N3 j1 = some (blk (zN d v1 v2 v3) 26) := by rw [hN3, qS m.2.1]; exact g1_3'
 have g2_3 : hget N3 j2 = some (blk (zN zGate (.slice none 0 0) (.slice none 0 0) (.slice none 0 0)) 38) := by rw [hN3, qS m.2.2.1]; exact g2_3'
 have fr3 : ∀ x, x ≠ j3 -> hget N3 x = hget M3 x := fun x e => by rw [hN3, qS e]
 have sN3 : Tk.Sub h N3 := fun x o e => by
  rw [fr3 x (fun c => by subst c; rw [n3.2.2] at e; cases e)]; exact t3 _ _ (sN2 _ _ e)
 simp only [wK, seval, yF, wt3, on3, vcw3]
 have rd3 : qV N3 j3 0 6 = some (zN d0 w1 w2 w3) := zD g3_3 rfl
 obtain ⟨Z3, hZ3⟩ : ∃ Z3, Z3 = hupd N3 j2 (blk (zN d0 w1 w2 w3) 38) := ⟨_, rfl⟩
 have wtz : zQ N3 j2 0 (zN d0 w1 w2 w3) = some Z3 := by
  rw [hZ3]; exact yI g2_3 (by show 0 + 6 <= 6; omega)
 have hone : (zN d0 w1 w2 w3).all vone = true := by simp only [zN, List.all_cons, List.all_nil, on1, on2, on3]; rfl
 simp only [wK, seval, yF, rd3, wtz, hone]
 have rdz : qV Z3 j2 0 6 = some (zN d0 w1 w2 w3) := zD (by rw [hZ3]; exact zH g2_3) rfl
 simp only [wK, seval, yF, rdz]
 have frz : ∀ x, x ≠ j2 -> hget Z3 x = hget N3 x := fun x e => by rw [hZ3, qS e]
 have ne1 : ∀ x, S1 x -> x ≠ j2 /\ x ≠ j3 := fun x q => ⟨fun e => (by have := f1 x q; rw [e, g2] at this; cases this), fun e => (by have := f1 x q; rw [e, g3] at this; cases this)⟩
 have ne2 : ∀ x, S2 x -> x ≠ j2 /\ x ≠ j3 := fun x q => ⟨fun e => (by have := f2 x q; rw [e, g2_1] at this; cases this), fun e => (by have := f2 x q; rw [e, g3_1] at this; cases this)⟩
 have ne3 : ∀ x, S3 x -> x ≠ j2 /\ x ≠ j3 := fun x q => ⟨fun e => (by have := f3 x q; rw [e, g2_2] at this; cases this), fun e => (by have := f3 x q; rw [e, g3_2] at this; cases this)⟩
 have k1 : ∀ x, S1 x -> hget N1 x ≠ none := fun x q => by rw [fr1 x (ne1 x q).2]; exact u1.in WRecord.in q
 have k1' : ∀ x, S1 x -> hget N2 x ≠ none := fun x q => by rw [fr2 x (ne1 x q).2, Sub.eq t2 (k1 x q)]; exact k1 x q
 have k2 : ∀ x, S2 x -> hget N2 x ≠ none := fun x q => by rw [fr2 x (ne2 x q).2]; exact u2.in WLive.in q
 have d12 : ∀ x, S1 x -> ¬ S2 x := fun x q q2 => k1 x q (f2 x q2)
 have d13 : ∀ x, S1 x -> ¬ S3 x := fun x q q2 => k1' x q (f3 x q2)
 have d23 : ∀ x, S2 x -> ¬ S3 x := fun x q q2 => k2 x q (f3 x q2)
 rw [same]
 refine dP.of (k Z3 w1 w2 w3 (fun x => S1 x ∨ S2 x ∨ S3 x) (fun x o e => by rw [frz x (fun c => by subst c; rw [n2.2] at e; cases e)]; exact sN3 x o e)
  ⟨S1, S2, S3, u1.frame WRecord.fr fun x q => by rw [frz x (ne1 x q).1, fr3 x (ne1 x q).2, Sub.eq t3 (k1' x q), fr2 x (ne1 x q).2, Sub.eq t2 (k1 x q), fr1 x (ne1 x q).2],
   u2.frame WLive.fr fun x q => by rw [frz x (ne2 x q).1, fr3 x (ne2 x q).2, Sub.eq t3 (k2 x q), fr2 x (ne2 x q).2], u3.frame fun x q => by rw [frz x (ne3 x q).1, fr3 x (ne3 x q).2], d12, d13, d23, fun _ => Iff.rfl⟩ ?_)
 rintro x (q | q | q)
 ·exact sM0.none' (f1 x q)
 ·exact sN1.none' (f2 x q)
 ·exact sN2.none' (f3 x q)
end Go.Proofs.YtjioiemhgbkbfaaGreatDoor
end

section
namespace Go.Tk
open Go
def mapN (n : Nat) : List Int := (List.range n).map fun (i : Nat) => (i : Int).tmod 3
theorem zBH (n : Nat) : mapN (n + 1) = mapN n ++ [(n : Int).tmod 3] := by simp [mapN, List.range_succ]
theorem zGU {i : Nat} (h : i < 8) : (mapN i ++ List.replicate (8 - i) 0).set i ((i % 3 : Nat) : Int) = mapN (i + 1) ++ List.replicate (8 - (i + 1)) 0 := by
 rw [List.set_append_right _ _ (by simp [mapN]), zBH]
 obtain ⟨n, hn⟩ : ∃ n, 8 - i = n + 1 := ⟨8 - i - 1, by omega⟩
 have : 8 - (i + 1) = n := by omega
 rw [hn, this, List.replicate_succ]
 simp [mapN]
 rfl
theorem qQX (n : Nat) : (mapN n).length = n := by simp [mapN]
theorem map0_eq : map0 = ⟨1, mapN 8⟩ := rfl
end Go.Tk
namespace Go.Proofs.YtjioiemhgbkbfaaGreatDoor
open Go Go.Tk
theorem qSP {h : H} {v : Value} {l : List Int} (r : rInts h v l) (hl : l.length <= 1099511627776) {R : Ending -> H -> Prop} (k : ∀ v' g, oLs 3 eI 1 v' l g -> Dj g h -> R (.returned v') (g ++ h)) :
  HCalls Tryz.prog 127 #[v] h R := qOY Tryz.func127 ir127 qDE zFH iInt r (by omega) (by omega) k
theorem tOwn : Tryz.prog.underlying 278 = some (.array 8 3) := by kernel_rfl
theorem iInt' : ∃ i, Tryz.prog.info? 3 = some i := ⟨_, iInt.choose_spec.choose_spec.1⟩
theorem qJI {h : H} {R : Ending -> H -> Prop} (k : ∀ ow g, oLs 3 eI 1 ow map0.owners g -> Dj g h -> R (.returned (.agg (cMap map0 ow).toArray)) (g ++ h)) : HCalls Tryz.prog 160 #[] h R := by
 refine qD lite (args := []) Tryz.func160 ?_
 conv => arg 2; cbv
 rw [qR]
 have zm := zMap_eq
 simp only [wK, seval, zm]
 refine qC (o := blk (cMap zMap (.slice none 0 0)) 249) fun j0 hj0 => ?_
 simp only [wK, seval, wMap, zm]
 refine qC (o := blk (fl eI (mapN 0 ++ List.replicate (8 - 0) 0)) 278) fun j1 hj1 => ?_
 have n1 := hj1
 simp only [subs] at n1
 have e1 : ¬ j0 = j1 := fun e => n1.1 e.symm
 simp only [wK, seval, wMap, zm, e1]
 refine qP [3] (fun n vs h' => ∃ i : Nat, vs = [.int .i64 i] /\ h' = (j1, blk (fl eI (mapN i ++ List.replicate (8 - i) 0)) 278) :: (j0, blk (cMap zMap (.slice none 0 0)) 249) :: h /\ i <= 8 /\ n = 8 - i) 8 rfl ⟨0, rfl, rfl, by omega, rfl⟩ ?_
 rintro n f h' ⟨i, hv, rfl, hi, rfl⟩
 simp only [lm4] at hv
 simp only [wK, seval, wr, hv, wMap]
 refine qF (fun c => ?_) fun c => ?_
 ·rw [show (i : Int).tmod 3 = ((i % 3 : Nat) : Int) from rfl]
  refine ⟨⟨by omega, by omega⟩, ?_⟩
  refine st_row (i := i) (a' := ((i % 3 : Nat) : Int)) (off := 0) yM (by omega) (by rw [List.length_append, qQX, List.length_replicate]; omega) rfl (by omega) rfl ?_
  simp (disch := omega) only [wK, seval, qK]
  refine ⟨8 - (i + 1), by omega, _, .refl _, i + 1, by simp, ?_, by omega, rfl⟩
  rw [zGU (by omega)]
 ·have : i = 8 := by omega
  subst this
  refine raw_all (b := j1) (o := 0) (by simp only [wK, seval]) tOwn iInt'.choose_spec ?_
  simp only [wK, seval]
  refine qSP (l := mapN 8) ?_ (by rw [qQX]; omega) fun v2 g2 o2 d2 => ?_
  ·exact (xU (e := 278) (j := j1) (l := mapN 8) yM).rd.sub (by (repeat' first | exact Sub.refl _ | exact Sub.nil _ | assumption | refine Sub.both ?_ ?_ | refine Sub.cons_of (by simp only [subs, n1]) ?_ | exact Sub.left _ _ | refine Sub.app (by simp only [subs, n1]) ?_ | refine Sub.cons (by simp only [subs, n1]) ?_))
  ·have m2 := d2
   simp only [subs] at m2
   have ov := rdS.one o2.rd
   have vc2 := vc1 ov
   simp only [wK, seval, wMap, m2, apps, ov, vc2, e1]
   exact ⟨g2 ++ h, by (repeat' first | exact Sub.refl _ | exact Sub.nil _ | assumption | refine Sub.both ?_ ?_ | refine Sub.cons_of (by simp only [subs, m2, n1, hj0]) ?_ | exact Sub.left _ _ | refine Sub.app (by simp only [subs, m2, n1, hj0]) ?_ | refine Sub.cons (by simp only [subs, m2, n1, hj0]) ?_), k v2 g2 (by rw [map0_eq]; exact o2) (by simp only [m2])⟩
end Go.Proofs.YtjioiemhgbkbfaaGreatDoor
end

section
namespace Go.Proofs.YtjioiemhgbkbfaaGreatDoor
open Go Go.Tk
theorem qHX {h : H} {v : Value} {l : List Int} (r : rInts h v l) (hl : l.length <= 1099511627776) {R : Ending -> H -> Prop} (k : Asks R (qHW l) h) : HCalls Tryz.prog 145 #[v] h R := by
 refine qD lite (args := [v]) Tryz.func145 ?_
 conv => arg 2; cbv
 simp only [wK, seval, r.len]
 refine qP [7] (fun n vs h' => ∃ i : Nat, vs = [.int .i64 i] /\ h' = h /\ i <= l.length /\ n = l.length - i /\ allP valP (l.take i)) l.length rfl ⟨0, rfl, rfl, by omega, by omega, xF _ _⟩ ?_
 rintro n f h' ⟨i, hv, rfl, hi, rfl, ht⟩
 simp only [lm4] at hv
 simp only [wK, seval, wr, hv, r.len]
 refine qF (fun c1 => ?_) fun c1 => ?_
 ·refine zS (i := i) yM r rfl (by omega) fun b1 o1 e1 => ?_
  simp only [wK, seval, yR e1]
  refine qOM fun b hb => ?_
  simp only [wK, seval]
  refine wJ (fun e => .of (k.no fun p => vB (by omega) (qW hb e) p.2)) fun e => ?_
  simp (disch := omega) only [qK]
  exact ⟨l.length - (i + 1), by omega, h', .refl _, i + 1, by simp, rfl, by omega, rfl, yJ (by omega) ht (hb.1 e)⟩
 ·have := xM (by omega) ht
  exact .of (k _ (by simp [qHW, this]; omega))
theorem qJA {h : H} {v : Value} {l : List Int} (r : rInts h v l) (hl : l.length <= 1099511627776) {R : Ending -> H -> Prop} (k : Asks R (qHW l) h) : HCalls Tryz.prog 52 #[v] h R := by
 refine qD lite (args := [v]) Tryz.func52 ?_
 conv => arg 2; cbv
 simp only [wK, seval, r.len]
 refine qF (fun c1 => .of (k.no fun p => ?_)) fun c1 => ?_
 ·have := p.1; omega
 refine qP [3] (fun n vs h' => ∃ i : Nat, vs = [.int .i64 i] /\ h' = h /\ i <= l.length /\ n = l.length - i /\ allP valP (l.take i)) l.length rfl ⟨0, rfl, rfl, by omega, by omega, xF _ _⟩ ?_
 rintro n f h' ⟨i, hv, rfl, hi, rfl, ht⟩
 simp only [lm4] at hv
 simp only [wK, seval, wr, hv, r.len]
 refine qF (fun c1 => ?_) fun c1 => ?_
 ·refine zS (i := i) yM r rfl (by omega) fun b1 o1 e1 => ?_
  simp only [wK, seval, yR e1]
  refine qOK fun b hb => ?_
  simp only [wK, seval]
  refine wJ (fun e => .of (k.no fun p => vB (by omega) (qW hb e) p.2)) fun e => ?_
  simp (disch := omega) only [qK]
  exact ⟨l.length - (i + 1), by omega, h', .refl _, i + 1, by simp, rfl, by omega, rfl, yJ (by omega) ht (hb.1 e)⟩
 ·exact .of (k.yes ⟨by omega, xM (by omega) ht⟩)
theorem uU {h : H} {v : Value} {m : Int} {l : List Int} (r : rInts h v l) (hl : l.length <= 1099511627776) {R : Ending -> H -> Prop} (k : Asks R (allP (inP 0 m) l) h) : HCalls Tryz.prog 152 #[.int .i64 m, v] h R := by
 refine qD lite (args := [.int .i64 m, v]) Tryz.func152 ?_
 conv => arg 2; cbv
 simp only [wK, seval, r.len]
 refine qP [9] (fun n vs h' => ∃ i : Nat, vs = [.int .i64 i] /\ h' = h /\ i <= l.length /\ n = l.length - i /\ allP (inP 0 m) (l.take i)) l.length rfl ⟨0, rfl, rfl, by omega, by omega, xF _ _⟩ ?_
 rintro n f h' ⟨i, hv, rfl, hi, rfl, ht⟩
 simp only [lm4] at hv
 simp only [wK, seval, wr, hv, r.len]
 refine qF (fun c1 => ?_) fun c1 => ?_
 ·refine zS (i := i) yM r rfl (by omega) fun b1 o1 e1 => ?_
  simp only [wK, seval, yR e1]
  refine yO fun b hb => ?_
  simp only [wK, seval]
  refine wJ (fun e => .of (k.no fun p => vB (by omega) (qW hb e) p)) fun e => ?_
  simp (disch := omega) only [qK]
  exact ⟨l.length - (i + 1), by omega, h', .refl _, i + 1, by simp, rfl, by omega, rfl, yJ (by omega) ht (hb.1 e)⟩
 ·exact .of (k.yes (xM (by omega) ht))
theorem qVN {a : Int} {h : H} {R : Ending -> H -> Prop} (k : Asks R (inP 100 102 a) h) : HCalls Tryz.prog 179 #[.int .i64 a] h R := by
 refine qD lite (args := [.int .i64 a]) Tryz.func179 ?_
 conv => arg 2; cbv
 simp only [wK, seval]
 refine yO fun b hb => ?_
 simp only [wK, seval]
 exact .of (k b hb)
theorem qTG {h : H} {v : Value} {l : List Int} (r : rInts h v l) (hl : l.length <= 1099511627776) {R : Ending -> H -> Prop} (k : Asks R (allP qCX l) h) : HCalls Tryz.prog 151 #[v] h R := by
 refine qD lite (args := [v]) Tryz.func151 ?_
 conv => arg 2; cbv
 simp only [wK, seval, r.len]
 refine qP [7] (fun n vs h' => ∃ i : Nat, vs = [.int .i64 i] /\ h' = h /\ i <= l.length /\ n = l.length - i /\ allP qCX (l.take i)) l.length rfl ⟨0, rfl, rfl, by omega, by omega, xF _ _⟩ ?_
 rintro n f h' ⟨i, hv, rfl, hi, rfl, ht⟩
 simp only [lm4] at hv
 simp only [wK, seval, wr, hv, r.len]
 refine qF (fun c1 => ?_) fun c1 => ?_
 ·refine zS (i := i) yM r rfl (by omega) fun b1 o1 e1 => ?_
  simp only [wK, seval, yR e1]
  refine jG fun b hb => ?_
  simp (disch := omega) only [wK, seval, qK]
  have go : qCX (l[i]'(by omega)) -> ∃ m, m < l.length - i /\ ∃ g, Tk.Sub g h' /\ ∃ i' : Nat, [Value.int .i64 ((i : Int) + 1)] = [.int .i64 i'] /\ g = h' /\ i' <= l.length /\ m = l.length - i' /\ allP qCX (l.take i') := fun p =>
   ⟨l.length - (i + 1), by omega, h', .refl _, i + 1, by simp, rfl, by omega, rfl, yJ (by omega) ht p⟩
  refine wJ (fun e => ?_) fun e => go (.inl (hb.1 e))
  refine zG (fun e2 => ?_) fun e2 => go (.inr (.inl e2))
  refine qVN fun b2 hb2 => ?_
  simp (disch := omega) only [wK, seval, qK]
  refine wJ (fun e3 => ?_) fun e3 => go (.inr (.inr (hb2.1 e3)))
  refine .of (k.no (vB (i := i) (by omega) ?_))
  rintro (p | p | p)
  ·exact qW hb e p
  ·exact e2 p
  ·exact qW hb2 e3 p
 ·exact .of (k.yes (xM (by omega) ht))
theorem qIK {g : FuncId} {P : Int -> Prop} (hg : wO Tryz.prog g = true) (hc : ∀ {a : Int} {h : H} {R : Ending -> H -> Prop}, Asks R (P a) h -> HCalls Tryz.prog g #[.int .i64 a] h R)
  {h : H} {v : Value} {l : List Int} (r : rInts h v l) (hl : l.length <= 1099511627776) {R : Ending -> H -> Prop} (k : Asks R (allP P l /\ risP id l) h) : HCalls Tryz.prog 147 #[v, .func (.func g) #[] #[]] h R := by
 refine qD lite (args := [v, .func (.func g) #[] #[]]) Tryz.func147 ?_
 conv => arg 2; cbv
 simp only [wK, seval, r.len]
 refine qP [9] (fun n vs h' => ∃ i : Nat, vs = [.int .i64 i] /\ h' = h /\ i <= l.length /\ n = l.length - i /\ allP P (l.take i) /\ risU id l i) l.length rfl ⟨0, rfl, rfl, by omega, by omega, xF _ _, xD _ _⟩ ?_
 rintro n f h' ⟨i, hv, rfl, hi, rfl, ht, hu⟩
 simp only [lm4] at hv
 simp only [wK, seval, wr, hv, r.len]
 refine qF (fun c1 => ?_) fun c1 => ?_
 ·refine zS (i := i) yM r rfl (by omega) fun b1 o1 e1 => ?_
  simp only [wK, seval, yR e1]
  refine ⟨hg, hc fun b hb => ?_⟩
  simp (disch := omega) only [wK, seval, qK]
  refine wJ (fun e => .of (k.no fun p => vB (by omega) (qW hb e) p.1)) fun e => ?_
  refine qF (fun c2 => ?_) fun c2 => ?_
  ·refine zS (i := i - 1) yM r (by omega) (by omega) fun b2 o2 e2 => ?_
   simp (disch := omega) only [wK, seval, yR e2, qK]
   refine xA (fun c3 => .of (k.no fun p => vM (i := i) (by omega) (by omega) (fun x => ?_) p.2)) fun c3 => ?_
   ·simp only [id] at x; omega
   ·exact ⟨l.length - (i + 1), by omega, h', .refl _, i + 1, by simp, rfl, by omega, rfl, yJ (by omega) ht (hb.1 e), xR (by omega) (by omega) hu c3⟩
  ·exact ⟨l.length - (i + 1), by omega, h', .refl _, i + 1, by simp, rfl, by omega, rfl, yJ (by omega) ht (hb.1 e), wG (by omega) hu⟩
 ·exact .of (k.yes ⟨xM (by omega) ht, xS (by omega) hu⟩)
theorem qJC {h : H} {v : Value} {l : List Int} (r : rInts h v l) (hl : l.length <= 1099511627776) {R : Ending -> H -> Prop} (k : Asks R (qIF l) h) : HCalls Tryz.prog 50 #[v] h R := by
 refine yK (args := [v]) Tryz.func50 ir50 ?_
 simp only [wK, seval, r.len]
 refine qP [3] (fun n vs h' => ∃ i : Nat, vs = [.int .i64 i] /\ h' = h /\ i <= l.length /\ n = l.length - i /\ allP qIG (l.take i) /\ risU id l i) l.length rfl ⟨0, rfl, rfl, by omega, by omega, xF _ _, xD _ _⟩ ?_
 rintro n f h' ⟨i, hv, rfl, hi, rfl, ht, hu⟩
 simp only [lm4] at hv
 simp only [wK, seval, wr, hv, r.len]
 refine qF (fun c1 => ?_) fun c1 => ?_
 ·refine zC _ (Sub.refl _) ?_
  simp only [wK, seval]
  refine zS (i := i) yM r rfl (by omega) fun b1 o1 e1 => ?_
  simp only [wK, seval, yR e1]
  refine zY fun b hb => ?_
  simp (disch := omega) only [wK, seval, qK]
  refine wJ (fun e => .of (k.no fun p => vB (by omega) (qW hb e) p.1)) fun e => ?_
  refine qF (fun c2 => ?_) fun c2 => ?_
  ·refine zS (i := i - 1) yM r (by omega) (by omega) fun b2 o2 e2 => ?_
   simp (disch := omega) only [wK, seval, yR e2, qK]
   refine zS (i := i) yM r rfl (by omega) fun b3 o3 e3 => ?_
   simp (disch := omega) only [wK, seval, yR e3, qK]
   refine xA (fun c3 => .of (k.no fun p => vM (i := i) (by omega) (by omega) (fun x => ?_) p.2)) fun c3 => ?_
   ·simp only [id] at x; omega
   ·exact ⟨l.length - (i + 1), by omega, h', .refl _, i + 1, by simp, rfl, by omega, rfl, yJ (by omega) ht (hb.1 e), xR (by omega) (by omega) hu c3⟩
  ·exact ⟨l.length - (i + 1), by omega, h', .refl _, i + 1, by simp, rfl, by omega, rfl, yJ (by omega) ht (hb.1 e), wG (by omega) hu⟩
 ·exact .of (k.yes ⟨xM (by omega) ht, xS (by omega) hu⟩)
theorem qJD {a : Int} {h : H} {R : Ending -> H -> Prop} (k : Asks R (qCX a) h) : HCalls Tryz.prog 49 #[.int .i64 a] h R := by
 refine qD lite (args := [.int .i64 a]) Tryz.func49 ?_
 conv => arg 2; cbv
 simp only [wK, seval]
 refine jR fun b hb => ?_
 simp only [wK, seval]
 refine wR (fun e => .of (k.yes (.inl (hb.1 e)))) fun e => ?_
 refine zV (fun e2 => .of (k.yes (.inr (.inl e2)))) fun e2 => ?_
 refine zY fun b2 hb2 => ?_
 simp only [wK, seval]
 refine .of (k _ (hb2.trans ⟨fun x => .inr (.inr x), fun x => ?_⟩))
 rcases x with x | x | x
 ·exact absurd x (qW hb e)
 ·exact absurd x e2
 ·exact x
theorem jP {h : H} {b o : Nat} {p : Int × Int} (e : qV h b o 2 = some (eP p)) : hcel h b o = some (.int .i64 p.1) /\ hcel h b (o + 1) = some (.int .i64 p.2) := ⟨zK e 0 rfl, zK e 1 rfl⟩
theorem jD {h : H} {v : Value} {l : List (Int × Int)} (r : rPairs h v l) (hl : l.length <= 1099511627776) {R : Ending -> H -> Prop} (k : Asks R (xI l) h) : HCalls Tryz.prog 146 #[v] h R := by
 refine yK (args := [v]) Tryz.func146 ir146 ?_
 simp only [wK, seval, r.len]
 refine qF (fun c0 => .of (k.no fun p => ?_)) fun c0 => ?_
 ·have := p.1; omega
 refine qP [10] (fun n vs h' => ∃ i : Nat, vs = [.int .i64 i] /\ h' = h /\ i <= l.length /\ n = l.length - i /\ allP qQR (l.take i) /\ risU (·.1) l i) l.length rfl ⟨0, rfl, rfl, by omega, by omega, xF _ _, xD _ _⟩ ?_
 rintro n f h' ⟨i, hv, rfl, hi, rfl, ht, hu⟩
 simp only [lm4] at hv
 simp only [wK, seval, wr, hv, r.len]
 refine qF (fun c1 => ?_) fun c1 => ?_
 ·refine zS (i := i) xB r rfl (by omega) fun b1 o1 e1 => ?_
  simp only [wK, seval, e1]
  refine qC fun j hj => ?_
  have sj := fun o => Sub.cons (o := o) hj (Sub.refl h')
  have hi2 : i < l.length := by omega
  generalize hx : l[i] = x at *
  have zp : [Value.int .i64 0, .int .i64 0] = eP (0, 0) := rfl
  simp only [zp, wK, seval, jK]
  refine zC _ (Sub.refl _) ?_
  simp only [wK, seval, jK]
  refine qON fun b hb => ?_
  simp (disch := omega) only [wK, seval, jK, qK]
  refine wJ (fun e => ⟨h', sj _, k.no fun p => vB hi2 (fun y => qW hb e (by rw [hx] at y; exact y.1)) p.2.1⟩) fun e => ?_
  refine qOM fun b2 hb2 => ?_
  simp (disch := omega) only [wK, seval, jK, qK]
  refine wJ (fun e => ⟨h', sj _, k.no fun p => vB hi2 (fun y => qW hb2 e (by rw [hx] at y; exact y.2)) p.2.1⟩) fun e' => ?_
  have hok : qQR l[i] := by rw [hx]; exact ⟨hb.1 e, hb2.1 e'⟩
  refine qF (fun c2 => ?_) fun c2 => ?_
  ·refine zS (i := i - 1) xB (r.sub (sj (blk (eP x) 175))) (by omega) (by omega) fun b2 o2 e2 => ?_
   simp (disch := omega) only [wK, seval, jK, (jP e2).1, qK]
   refine xA (fun c3 => ⟨h', sj _, k.no fun p => vM (i := i) hi2 (by omega) (fun y => ?_) p.2.2⟩) fun c3 => ?_
   ·simp only [hx] at y; omega
   ·exact ⟨l.length - (i + 1), by omega, h', sj _, i + 1, by simp, rfl, by omega, rfl, yJ (by omega) ht hok, xR (by omega) (by omega) hu (by simp only [hx]; exact c3)⟩
  ·exact ⟨l.length - (i + 1), by omega, h', sj _, i + 1, by simp, rfl, by omega, rfl, yJ (by omega) ht hok, wG (by omega) hu⟩
 ·exact .of (k.yes ⟨by omega, xM (by omega) ht, xS (by omega) hu⟩)
theorem kR {h : H} {v : Value} {l : List (Int × Int)} (r : rPairs h v l) (hl : l.length <= 1099511627776) {R : Ending -> H -> Prop} (k : Asks R (xI l) h) : HCalls Tryz.prog 51 #[v] h R := by
 refine yK (args := [v]) Tryz.func51 ir51 ?_
 simp only [wK, seval, r.len]
 refine qF (fun c0 => .of (k.no fun p => ?_)) fun c0 => ?_
 ·have := p.1; omega
 refine qP [3] (fun n vs h' => ∃ i : Nat, vs = [.int .i64 i] /\ h' = h /\ i <= l.length /\ n = l.length - i /\ allP qQR (l.take i) /\ risU (·.1) l i) l.length rfl ⟨0, rfl, rfl, by omega, by omega, xF _ _, xD _ _⟩ ?_
 rintro n f h' ⟨i, hv, rfl, hi, rfl, ht, hu⟩
 simp only [lm4] at hv
 simp only [wK, seval, wr, hv, r.len]
 refine qF (fun c1 => ?_) fun c1 => ?_
 ·refine zC _ (Sub.refl _) ?_
  have hi2 : i < l.length := by omega
  simp only [wK, seval]
  refine zS (i := i) xB r rfl hi2 fun b1 o1 e1 => ?_
  simp only [wK, seval, (jP e1).1]
  refine zY fun b hb => ?_
  simp (disch := omega) only [wK, seval, qK]
  refine wJ (fun e => .of (k.no fun p => vB hi2 (fun y => qW hb e y.1) p.2.1)) fun e => ?_
  refine zS (i := i) xB r rfl hi2 fun b2 o2 e2 => ?_
  simp only [wK, seval, (jP e2).2]
  refine qOK fun b2 hb2 => ?_
  simp (disch := omega) only [wK, seval, qK]
  refine wJ (fun e => .of (k.no fun p => vB hi2 (fun y => qW hb2 e y.2) p.2.1)) fun e' => ?_
  have hok : qQR l[i] := ⟨hb.1 e, hb2.1 e'⟩
  refine qF (fun c2 => ?_) fun c2 => ?_
  ·refine zS (i := i - 1) xB r (by omega) (by omega) fun b3 o3 e3 => ?_
   simp (disch := omega) only [wK, seval, (jP e3).1, qK]
   refine zS (i := i) xB r rfl (by omega) fun b4 o4 e4 => ?_
   simp (disch := omega) only [wK, seval, (jP e4).1, qK]
   refine xA (fun c3 => .of (k.no fun p => vM (i := i) hi2 (by omega) (fun y => ?_) p.2.2)) fun c3 => ?_
   ·omega
   ·exact ⟨l.length - (i + 1), by omega, h', .refl _, i + 1, by simp, rfl, by omega, rfl, yJ (by omega) ht hok, xR (by omega) (by omega) hu c3⟩
  ·exact ⟨l.length - (i + 1), by omega, h', .refl _, i + 1, by simp, rfl, by omega, rfl, yJ (by omega) ht hok, wG (by omega) hu⟩
 ·exact .of (k.yes ⟨by omega, xM (by omega) ht, xS (by omega) hu⟩)
theorem qMG {h : H} {c : DCall} {R : Ending -> H -> Prop} (k : Asks R (zJB c) h) : HCalls Tryz.prog 53 #[.agg (zW c).toArray] h R := by
 refine qD lite (args := [.agg (zW c).toArray]) Tryz.func53 ?_
 conv => arg 2; cbv
 simp only [wK, seval, zA]
 refine qC fun j hj => ?_
 have sj := fun o => Sub.cons (o := o) hj (Sub.refl h)
 simp only [wK, seval, zA]
 refine zY fun b1 h1 => ?_
 simp only [wK, seval, zA]
 refine wR (fun e1 => ?_) fun e1 => k.dno (sj _) fun p => qW h1 e1 p.1
 refine zY fun b2 h2 => ?_
 simp only [wK, seval, zA]
 refine wR (fun e2 => ?_) fun e2 => k.dno (sj _) fun p => qW h2 e2 p.2.1
 refine zY fun b3 h3 => ?_
 simp only [wK, seval, zA]
 refine wR (fun e3 => ?_) fun e3 => k.dno (sj _) fun p => qW h3 e3 p.2.2.1
 refine zY fun b4 h4 => ?_
 simp only [wK, seval, zA]
 refine wR (fun e4 => ?_) fun e4 => k.dno (sj _) fun p => qW h4 e4 p.2.2.2.1
 refine zY fun b5 h5 => ?_
 simp only [wK, seval, zA]
 refine wR (fun e5 => ?_) fun e5 => k.dno (sj _) fun p => qW h5 e5 p.2.2.2.2.1
 refine ⟨h, sj _, k _ ?_⟩
 simp only [decide_eq_true_eq]
 exact ⟨fun x => ⟨h1.1 e1, h2.1 e2, h3.1 e3, h4.1 e4, h5.1 e5, by omega⟩, fun p => by have := p.2.2.2.2.2; omega⟩
theorem qNW {h : H} {w : DWord} {s p' v : Value} (r : sWord h w s p' v) (hw : wLen w) {R : Ending -> H -> Prop} (k : Asks R (qLI w) h) : HCalls Tryz.prog 20 #[.agg (zL w s p' v).toArray] h R := by
 refine qD lite (args := [.agg (zL w s p' v).toArray]) Tryz.func20 ?_
 conv => arg 2; cbv
 simp only [wK, seval, zZ]
 refine qC fun j hj => ?_
 have sj := fun o => Sub.cons (o := o) hj (Sub.refl h)
 simp only [wK, seval, zZ]
 refine zY fun b0 h0 => ?_
 simp only [wK, seval, zZ]
 refine wR (fun e0 => ?_) fun e0 => k.dno (sj _) fun p => qW h0 e0 p.1
 refine qJD fun b1 h1 => ?_
 simp only [wK, seval, zZ]
 refine wR (fun e1 => ?_) fun e1 => k.dno (sj _) fun p => qW h1 e1 p.2.1
 refine qJD fun b2 h2 => ?_
 simp only [wK, seval, zZ]
 refine wR (fun e2 => ?_) fun e2 => k.dno (sj _) fun p => qW h2 e2 p.2.2.1
 refine zY fun b3 h3 => ?_
 simp only [wK, seval, zZ]
 refine wR (fun e3 => ?_) fun e3 => k.dno (sj _) fun p => qW h3 e3 p.2.2.2.1
 refine zY fun b4 h4 => ?_
 simp only [wK, seval, zZ]
 refine wR (fun e4 => ?_) fun e4 => k.dno (sj _) fun p => qW h4 e4 p.2.2.2.2.1
 refine zY fun b5 h5 => ?_
 simp only [wK, seval, zZ]
 refine wR (fun e5 => ?_) fun e5 => k.dno (sj _) fun p => qW h5 e5 p.2.2.2.2.2.1
 refine qJC (r.1.sub (sj _)) hw.1 fun b6 h6 => ?_
 simp only [wK, seval, zZ]
 refine wR (fun e6 => ?_) fun e6 => k.dno (sj _) fun p => qW h6 e6 p.2.2.2.2.2.2.1
 refine kR (r.2.1.sub (sj _)) hw.2.1 fun b7 h7 => ?_
 simp only [wK, seval, zZ]
 refine wR (fun e7 => ?_) fun e7 => k.dno (sj _) fun p => qW h7 e7 p.2.2.2.2.2.2.2.1
 refine zY fun b8 h8 => ?_
 simp only [wK, seval, zZ]
 refine wR (fun e8 => ?_) fun e8 => k.dno (sj _) fun p => qW h8 e8 p.2.2.2.2.2.2.2.2.1
 refine qJA (r.2.2.sub (sj _)) hw.2.2 fun b9 h9 => ?_
 simp only [wK, seval, zZ]
 refine wR (fun e9 => ?_) fun e9 => k.dno (sj _) fun p => qW h9 e9 p.2.2.2.2.2.2.2.2.2.1
 refine qMG (c := w.call) fun b10 h10 => ?_
 simp only [wK, seval, zZ]
 refine ⟨h, sj _, k _ (h10.trans ⟨fun x => ⟨h0.1 e0, h1.1 e1, h2.1 e2, h3.1 e3, h4.1 e4, h5.1 e5, h6.1 e6, h7.1 e7, h8.1 e8, h9.1 e9, x⟩, fun p => p.2.2.2.2.2.2.2.2.2.2⟩)⟩
theorem qOP {h : H} {w : DWord} {s p' v : Value} (r : sWord h w s p' v) (hw : wLen w) {R : Ending -> H -> Prop} (k : Asks R (qLI w) h) : HCalls Tryz.prog 111 #[.agg (zL w s p' v).toArray] h R := by
 refine qD lite (args := [.agg (zL w s p' v).toArray]) Tryz.func111 ?_
 conv => arg 2; cbv
 simp only [wK, seval, zZ]
 refine qC fun j hj => ?_
 have sj := fun o => Sub.cons (o := o) hj (Sub.refl h)
 simp only [wK, seval, zZ]
 refine qC fun j2 hj2 => ?_
 have n2 := wW hj2
 have sj2 := fun o => Sub.cons (o := o) hj2 (sj _)
 have zc := qPP
 simp only [str] at zc
 simp only [str, zc, wK, seval, zZ, zA, n2.1, n2.2.1]
 refine yO fun b0 h0 => ?_
 simp only [wK, seval, zZ, zA, n2.1, n2.2.1]
 refine wR (fun e0 => ?_) fun e0 => k.dno (sj2 _) fun p => qW h0 e0 p.1
 refine qC fun j3 hj3 => ?_
 simp only [wK, seval]
 refine HCalls.drop (qTG (l := [w.from_, w.to]) (qFJ [w.from_, w.to]) (by simp) fun b1 h1 => ⟨_, Sub.cons hj3 (Sub.refl _), ?_⟩)
 simp only [wK, seval, zZ, zA, n2.1, n2.2.1]
 refine wR (fun e1 => ?_) fun e1 => k.dno (sj2 _) fun p => qW h1 e1 (by simp [allP, p.2.1, p.2.2.1])
 refine qC fun j4 hj4 => ?_
 simp only [wK, seval]
 refine HCalls.drop (uU (l := [w.stamp, w.try_, w.call.session, w.call.number, w.call.kind, w.call.slot, w.call.to]) (qFJ [w.stamp, w.try_, w.call.session, w.call.number, w.call.kind, w.call.slot, w.call.to]) (by simp) fun b2 h2 => ⟨_, Sub.cons hj4 (Sub.refl _), ?_⟩)
 simp only [wK, seval, zZ, zA, n2.1, n2.2.1]
 refine wR (fun e2 => ?_) fun e2 => k.dno (sj2 _) fun p => qW h2 e2 (by obtain ⟨p1, p2, p3, p4, p5, p6, p7, p8, p9, p10, q1, q2, q3, q4, q5, q6⟩ := p; simp only [wU] at *; simp [allP, *])
 refine qC fun j5 hj5 => ?_
 simp only [wK, seval]
 refine HCalls.drop (uU (l := [w.what]) (qFJ [w.what]) (by simp) fun b3 h3 => ⟨_, Sub.cons hj5 (Sub.refl _), ?_⟩)
 simp only [wK, seval, zZ, zA, n2.1, n2.2.1]
 refine wR (fun e3 => ?_) fun e3 => k.dno (sj2 _) fun p => qW h3 e3 (by obtain ⟨p1, p2, p3, p4, p5, p6, p7, p8, p9, p10, q1, q2, q3, q4, q5, q6⟩ := p; simp [allP, *])
 refine qC fun j6 hj6 => ?_
 simp only [wK, seval]
 refine HCalls.drop (uU (l := [w.code]) (qFJ [w.code]) (by simp) fun b4 h4 => ⟨_, Sub.cons hj6 (Sub.refl _), ?_⟩)
 simp only [wK, seval, zZ, zA, n2.1, n2.2.1]
 refine wR (fun e4 => ?_) fun e4 => k.dno (sj2 _) fun p => qW h4 e4 (by obtain ⟨p1, p2, p3, p4, p5, p6, p7, p8, p9, p10, q1, q2, q3, q4, q5, q6⟩ := p; simp [allP, *])
 refine qC fun j7 hj7 => ?_
 simp only [wK, seval]
 refine HCalls.drop (uU (l := [(w.call.text.length : Int)]) (qFJ [(w.call.text.length : Int)]) (by simp) fun b5 h5 => ⟨_, Sub.cons hj7 (Sub.refl _), ?_⟩)
 simp only [wK, seval, zZ, zA, n2.1, n2.2.1]
 refine wR (fun e5 => ?_) fun e5 => k.dno (sj2 _) fun p => qW h5 e5 (by obtain ⟨p1, p2, p3, p4, p5, p6, p7, p8, p9, p10, q1, q2, q3, q4, q5, q6⟩ := p; simp [allP, inP]; omega)
 refine qIK (by kernel_rfl) qEI (r.1.sub (sj2 _)) hw.1 fun b6 h6 => ?_
 simp only [wK, seval, zZ, zA, n2.1, n2.2.1]
 refine wR (fun e6 => ?_) fun e6 => k.dno (sj2 _) fun p => qW h6 e6 p.2.2.2.2.2.2.1
 refine jD (r.2.1.sub (sj2 _)) hw.2.1 fun b7 h7 => ?_
 simp only [wK, seval, zZ, zA, n2.1, n2.2.1]
 refine wR (fun e7 => ?_) fun e7 => k.dno (sj2 _) fun p => qW h7 e7 p.2.2.2.2.2.2.2.1
 refine qHX (r.2.2.sub (sj2 _)) hw.2.2 fun b8 h8 => ?_
 simp only [wK, seval, zZ, zA, n2.1, n2.2.1]
 refine ⟨h, sj2 _, k _ (h8.trans ⟨fun x => ?_, fun p => p.2.2.2.2.2.2.2.2.2.1⟩)⟩
 have a1 := h1.1 e1
 have a2 := h2.1 e2
 have a3 := h3.1 e3
 have a4 := h4.1 e4
 have a5 := h5.1 e5
 simp only [allP, List.mem_cons, List.not_mem_nil, or_false, forall_eq_or_imp, forall_eq] at a1 a2 a3 a4 a5
 refine ⟨h0.1 e0, a1.1, a1.2, a2.1, a2.2.1, a3, h6.1 e6, h7.1 e7, a4, x, a2.2.2.1, a2.2.2.2.1, a2.2.2.2.2.1, a2.2.2.2.2.2.1, a2.2.2.2.2.2.2, ?_⟩
 have := a5.2
 omega
end Go.Proofs.YtjioiemhgbkbfaaGreatDoor
end

section
namespace Go.Tk
open Go
theorem idx1 (s : List UInt8) (c : UInt8) : Lib.indexB ⟨s.toArray⟩ ⟨#[c]⟩ = Lib.indexByte s c := Lib.index_one s c
theorem zAP (c : UInt8) : ∀ (n : Nat) (s : List UInt8), s.length <= n -> (Lib.splitB ⟨#[c]⟩ 0 (Lib.countB ⟨s.toArray⟩ ⟨#[c]⟩) ⟨s.toArray⟩).map (fun b => b.data.toList) = splitB c s := by
 intro n
 induction n with
 | zero =>
  intro s hs
  have : s = [] := List.length_eq_zero_iff.1 (by omega)
  subst this
  have hm : Lib.indexB ⟨([] : List UInt8).toArray⟩ ⟨#[c]⟩ = -1 := by rw [idx1]; rfl
  rw [Lib.splitB_miss _ _ _ _ hm]
  rfl
 | succ n ih =>
  intro s hs
  obtain ⟨a, b, f, hc, hi⟩ := qMK c s
  rw [<- idx1] at hi
  cases f with
  | false =>
   rw [if_neg (by decide)] at hi
   rw [Lib.splitB_miss _ _ _ _ hi]
   obtain ⟨h1, ⟨h, _⟩ | ⟨_, h2, _⟩⟩ := hc
   ·cases h
   ·subst h2
    rw [jY h1]; rfl
  | true =>
   rw [if_pos rfl] at hi
   obtain ⟨h1, ⟨_, h2⟩ | ⟨h, _⟩⟩ := hc
   ·have e1 : ((⟨s.toArray⟩ : ByteArray).extract (a.length + (⟨#[c]⟩ : ByteArray).size) (⟨s.toArray⟩ : ByteArray).size) = ⟨b.toArray⟩ := by
     apply ByteArray.ext
     rw [ByteArray.data_extract]
     apply Array.ext'
     rw [Array.toList_extract]
     show (s.drop (a.length + 1)).take (s.length - (a.length + 1)) = b
     have e3 : s.drop (a.length + 1) = b := by rw [h2]; simp
     rw [e3, h2]
     exact List.take_of_length_le (by simp only [List.length_append, List.length_cons]; omega)
    have e2 : ((⟨s.toArray⟩ : ByteArray).extract 0 (a.length + 0)).data.toList = a := by
     rw [ByteArray.data_extract, Array.toList_extract]
     show (s.drop 0).take (a.length + 0 - 0) = a
     rw [h2]; simp
    rw [Lib.countB_hit ⟨s.toArray⟩ ⟨#[c]⟩ a.length (Nat.le_refl 1) hi, Nat.add_comm, Lib.splitB_hit _ _ _ _ _ hi, e1, List.map_cons, e2, ih b (by rw [h2, List.length_append, List.length_cons] at hs; omega), h2, jN b h1]
   ·cases h
theorem fl_eT : ∀ l : List (List UInt8), fl eT l = l.map fun t => .string ⟨t.toArray⟩ := by
 intro l
 induction l with
 | nil => rfl
 | cons a l ih => rw [vT, ih]; rfl
end Go.Tk
namespace Go.Proofs.YtjioiemhgbkbfaaGreatDoor
open Go Go.Tk Go.RowKit
def MxL (h : H) : Prop := ∃ c e f m, hget h 5 = some (.cells c e f) /\ c[0]? = some (.int .i64 m)
theorem MxL.sub {g h : H} (k : MxL g) (s : Tk.Sub g h) : MxL h := by
 obtain ⟨c, e, f, m, h1, h2⟩ := k
 exact ⟨c, e, f, m, s _ _ h1, h2⟩
theorem mxl_of {w : World} (h : w.ShapedOpen Tryz.prog) : MxL (full w) := by
 obtain ⟨m, hm⟩ := Go.Proofs.cell_of_shapedOpen_int (g := 5) (k := .i64) (zero := #[.int .i64 0]) (t := 3) h (of_decide_eq_true (by kernel_rfl)) (by kernel_rfl) rfl (by kernel_rfl) (by kernel_rfl) Tryz.underlying3
 obtain ⟨b, off, c, e, f, h1, h2, h3⟩ := qJU hm
 cases h1
 exact ⟨c, e, f, m, by rw [qCE]; exact h2, by simpa using h3⟩
theorem split_c {h : H} {s : List UInt8} {c : UInt8} (gm : MxL h) (hs : s.length <= 4194304) {R : Ending -> H -> Prop} (k : ∀ v g, oLs 9 eT 1 v (splitB c s) g -> Dj g h -> R (.returned v) (g ++ h)) :
  HCalls Tryz.prog 200 #[.string ⟨s.toArray⟩, .string ⟨#[c]⟩] h R := by
 refine .of_calls fun w sa => ?_
 obtain ⟨cs, e, f, m, h1, h2⟩ := gm
 have hc : w.cell? ⟨5, 0, none⟩ = some (.int .i64 m) := by
  have := sa _ _ h1
  simp only [World.cell?, this, Option.isSome_none, Bool.false_eq_true, if_false, h2]
 have hz : (⟨s.toArray⟩ : ByteArray).size = s.length := rfl
 refine (Tryz.strings_Split ⟨s.toArray⟩ ⟨#[c]⟩ m w (by rw [hz]; omega) hc (Nat.le_refl 1)).mono ?_
 rintro e' w' ⟨rfl, hw⟩
 have hl := zAP c s.length s (Nat.le_refl _)
 have hv : ((Lib.splitB ⟨#[c]⟩ 0 (Lib.countB ⟨s.toArray⟩ ⟨#[c]⟩) ⟨s.toArray⟩).map Value.string) = fl eT (splitB c s) := by
  rw [fl_eT, <- hl, List.map_map]
  apply List.map_congr_left
  intro x _
  rfl
 have hn : Lib.countB ⟨s.toArray⟩ ⟨#[c]⟩ + 1 = (splitB c s).length := by
  rw [<- Lib.splitB_all ⟨#[c]⟩ (Nat.le_refl 1) 0 _ ⟨s.toArray⟩ rfl, <- hl, List.length_map]
 rw [hv] at hw
 rw [hn]
 have hnew : hget h w.heap.size = none := by
  cases e : hget h w.heap.size with
  | none => rfl
  | some o => exact absurd (sa.lt (by rw [e]; simp)) (by omega)
 have := k (.slice (some ⟨w.heap.size, 0, none⟩) (splitB c s).length (splitB c s).length) [(w.heap.size, blk (fl eT (splitB c s)) 9)] (xU vK) (by simp only [subs, hnew])
 exact ⟨_, this, Pst.push sa (blk (fl eT (splitB c s)) 9) hw⟩
end Go.Proofs.YtjioiemhgbkbfaaGreatDoor
end

section
namespace Go.Proofs.YtjioiemhgbkbfaaGreatDoor
open Go Go.Tk Go.RowKit
theorem qVP {h : H} {v : Value} {l : List (List UInt8)} {s : List UInt8} (r : rLs h eT 1 v l) (hl : l.length <= 1048576) {R : Ending -> H -> Prop} (k : ∀ n : Int, (∀ i (hi : i < l.length), l[i] = s -> (∀ j (hj : j < i), l[j] ≠ s) -> n = (i : Int)) -> ((∀ x ∈ l, x ≠ s) -> n = -1) -> (-1 <= n /\ n < l.length) -> R (.returned (.int .i64 n)) h) :
  HCalls Tryz.prog 201 #[v, .string ⟨s.toArray⟩] h R := by
 refine qD lite (args := [v, .string ⟨s.toArray⟩]) Tryz.func201 ?_
 conv => arg 2; cbv
 simp only [wK, seval, r.len]
 refine qP [8] (fun n vs h' => ∃ (i : Nat), vs = [.int .i64 i] /\ h' = h /\ (∀ x ∈ l.take i, x ≠ s) /\ i <= l.length /\ n = l.length - i) l.length rfl
  ⟨0, rfl, rfl, by simp, by omega, rfl⟩ ?_
 rintro n f h' ⟨i, hv, rfl, hn, hi, rfl⟩
 simp only [lm4] at hv
 simp only [wK, seval, wr, hv, r.len]
 refine qF (fun c => ?_) fun c => ?_
 ·have hi2 : i < l.length := by omega
  refine zS (i := i) vK r rfl hi2 fun b1 o1 e1 => ?_
  have e1' : qV h' b1 o1 1 = some [.string ⟨(l[i]).toArray⟩] := e1
  simp only [wK, seval, yR e1', xP, uI]
  refine zV (fun ce => ?_) fun ce => ?_
  ·refine .of (k i (fun j hj he hf => ?_) (fun hx => absurd ce.symm (hx _ (List.getElem_mem hi2))) (by omega))
   rcases Nat.lt_trichotomy i j with x | x | x
   ·exact absurd ce.symm (hf i x)
   ·rw [x]
   ·exact absurd he (hn _ (by rw [List.mem_take_iff_getElem]; exact ⟨j, by omega, rfl⟩))
  ·simp (disch := omega) only [wK, seval, qK]
   refine ⟨l.length - (i + 1), by omega, h', .refl _, i + 1, by simp, rfl, fun x hx => ?_, by omega, rfl⟩
   rw [List.take_succ_eq_append_getElem hi2] at hx
   rcases List.mem_append.1 hx with hx | hx
   ·exact hn x hx
   ·rw [List.mem_singleton] at hx
    rw [hx]; exact fun e => ce e.symm
 ·have hi2 : i = l.length := by omega
  subst hi2
  rw [List.take_length] at hn
  exact .of (k (-1) (fun i hi he _ => absurd he (hn _ (List.getElem_mem hi))) (fun _ => rfl) (by omega))
end Go.Proofs.YtjioiemhgbkbfaaGreatDoor
end

section
namespace Go.Proofs.YtjioiemhgbkbfaaGreatDoor
open Go Go.Tk
theorem yG (s : DStatement) : (qO s).length = 3 := rfl
theorem zIV {h : H} {v : Value} {l : List DStatement} (r : rLs h qO 3 v l) (hl : l.length <= 1099511627776) {R : Ending -> H -> Prop} (k : Asks R (uS l) h) : HCalls Tryz.prog 188 #[v] h R := by
 refine qD lite (args := [v]) Tryz.func188 ?_
 conv => arg 2; cbv
 rw [qR]
 have zs := wL
 simp only [wK, seval, r.len, zs]
 refine qF (fun c => .of (k.no fun p => by have := p.1; omega)) fun c0 => ?_
 refine qF (fun c => .of (k.no fun p => by have := p.2.1; omega)) fun c1 => ?_
 refine qDK [3] (fun n vs h' => ∃ i : Nat, vs = [.int .i64 i] /\ h' = h /\ i <= l.length /\ n = l.length - i /\ allP stP (l.take i)) l.length rfl (Sub.refl _) ⟨0, rfl, rfl, by omega, by omega, xF _ _⟩ ?_
 rintro n f h' ⟨i, hv, rfl, hi, rfl, ht⟩
 simp only [lm4] at hv
 simp only [wK, seval, wr, hv, r.len, zs]
 refine qF (fun c2 => ?_) fun c2 => ?_
 ·refine zS (i := i) yG r rfl (by omega) fun b1 o1 e1 => ?_
  simp only [wK, seval, e1, zs]
  refine qC fun j hj => ?_
  have hi2 : i < l.length := by omega
  obtain ⟨s, hs⟩ : ∃ s, s = l[i] := ⟨_, rfl⟩
  have sj := fun o => Sub.cons (o := o) hj (Sub.refl h')
  simp only [wK, seval, zB, zs]
  have no : ¬ stP l[i] -> ∀ o, dP R (.returned (.bool false)) ((j, o) :: h') := fun hn o => ⟨h', sj o, k.no fun p => hn (p.2.2 _ (List.getElem_mem hi2))⟩
  refine zY fun b hb => ?_
  simp only [wK, seval, zB]
  refine wJ (fun e => no (fun p => qW hb e p.1) _) fun e1 => ?_
  refine zY fun b2 hb2 => ?_
  simp only [wK, seval, zB]
  refine wJ (fun e => no (fun p => qW hb2 e p.2.1) _) fun e2 => ?_
  refine qOK fun b3 hb3 => ?_
  simp only [wK, seval, zB]
  refine wJ (fun e => no (fun p => qW hb3 e p.2.2.1) _) fun e3 => ?_
  have go : stP l[i] -> ∀ o, ∃ m, m < l.length - i /\ ∃ g, Tk.Sub g ((j, o) :: h') /\ ∃ i' : Nat, [Value.int IntKind.i64 (IntKind.i64.wrap ((i : Int) + 1))] = [Value.int IntKind.i64 i'] /\ g = h' /\ i' <= l.length /\ m = l.length - i' /\ allP stP (l.take i') := fun p o =>
   ⟨l.length - (i + 1), by omega, h', sj o, i + 1, by simp (disch := omega) only [qK]; simp, rfl, by omega, rfl, yJ (by omega) ht p⟩
  refine zV (fun e4 => ?_) fun e4 => ?_
  ·refine zV (fun e5 => no (fun p => e5 (p.2.2.2 e4)) _) fun e5 => ?_
   exact go ⟨hb.1 e1, hb2.1 e2, hb3.1 e3, fun _ => Classical.not_not.1 e5⟩ _
  ·exact go ⟨hb.1 e1, hb2.1 e2, hb3.1 e3, fun x => absurd x e4⟩ _
 ·exact .of (k.yes ⟨by omega, by omega, xM (by omega) ht⟩)
theorem zBE {n : Int} (h : 1 <= n /\ n <= 4) : (fl eT [[], [103, 101, 116, 32], [112, 117, 116, 32], [97, 100, 100, 32], [110, 101, 101, 100, 32]])[n.toNat]? = some (.string ⟨(qAI n).toArray⟩) := by
 have : n = 1 ∨ n = 2 ∨ n = 3 ∨ n = 4 := by omega
 rcases this with rfl | rfl | rfl | rfl <;> rfl
def dealT (l : List DStatement) (t : List UInt8) : Prop := (uS l /\ t = zR l) ∨ (¬ uS l /\ t = [])
theorem qSM {h : H} {v : Value} {l : List DStatement} (r : rLs h qO 3 v l) (hl : l.length <= 1099511627776) {R : Ending -> H -> Prop} (k : ∀ t, dealT l t -> R (.returned (.string ⟨t.toArray⟩)) h) : HCalls Tryz.prog 170 #[v] h R := by
 refine qD lite (args := [v]) Tryz.func170 ?_
 conv => arg 2; cbv
 rw [qR]
 have zs := wL
 simp only [wK, seval, str, r.len, zs]
 refine zIV r hl fun b hb => ?_
 simp only [wK, seval]
 refine wJ (fun e => .of (k [] (.inr ⟨qW hb e, rfl⟩))) fun e => ?_
 have dp := hb.1 e
 have hl6 := dp.2.1
 refine qDK [3, 4] (fun n vs h' => ∃ i : Nat, vs = [.string ⟨(zR (l.take i)).toArray⟩, .int .i64 i] /\ h' = h /\ i <= l.length /\ n = l.length - i) l.length rfl (Sub.refl _) ⟨0, by simp [zR], rfl, by omega, by omega⟩ ?_
 rintro n f h' ⟨i, hv, rfl, hi, rfl⟩
 simp only [lm4] at hv
 simp only [wK, seval, wr, hv.1, hv.2, r.len, zs]
 refine qF (fun c2 => ?_) fun c2 => ?_
 ·refine zS (i := i) yG r rfl (by omega) fun b1 o1 e1 => ?_
  simp only [wK, seval, e1, zs]
  refine qC fun j hj => ?_
  have hi2 : i < l.length := by omega
  have sj := fun o => Sub.cons (o := o) hj (Sub.refl h')
  have st : stP l[i] := dp.2.2 _ (List.getElem_mem hi2)
  have hlen := qEZ (l := l.take i) fun x hx => dp.2.2 x (List.mem_of_mem_take hx)
  rw [List.length_take] at hlen
  have hon := qIQ l[i].do_
  have hdk := kU (i := l[i].key) (by have := st.2.1; simp only [inP] at this; omega)
  have hdn := kU (i := l[i].num) (by have := st.2.2.1; simp only [valP, inP] at this; omega)
  have hdo := st.1
  simp only [inP] at hdo
  simp only [wK, seval, zB, zs]
  refine zC _ (Sub.refl _) ?_
  simp only [wK, seval, zB]
  refine uN (.string ⟨(decI l[i].key).toArray⟩) (fun R r => qOH (by unfold i64P; have := st.2.1; simp only [inP] at this; omega) r) ?_
  simp only [wK, seval, str]
  refine qC (o := blk (fl eT [[], [103, 101, 116, 32], [112, 117, 116, 32], [97, 100, 100, 32], [110, 101, 101, 100, 32]]) 9) fun j2 hj2 => ?_
  have sj2 := qFC (o := blk (fl eT [[], [103, 101, 116, 32], [112, 117, 116, 32], [97, 100, 100, 32], [110, 101, 101, 100, 32]]) 9) hj2
  simp only [wK, seval, sj2]
  refine ⟨⟨by omega, by omega⟩, ?_⟩
  rw [zBE hdo]
  have z1 : (zR (l.take i)).length + (qAI l[i].do_).length <= 9223372036854775807 := by omega
  have z2 : (zR (l.take i) ++ qAI l[i].do_).length + (decI l[i].key).length <= 9223372036854775807 := by rw [List.length_append]; omega
  have n2 := wW hj2
  simp only [wK, seval, sj2, vF _ _ z1, vF _ _ z2, zB, n2.1, n2.2.1]
  have go : ∀ t, t = zR (l.take i) ++ uX l[i] -> ∀ m, Tk.Sub h' m -> ∃ m', m' < l.length - i /\ ∃ g, Tk.Sub g m /\ ∃ i' : Nat, [Value.string ⟨t.toArray⟩, Value.int IntKind.i64 (IntKind.i64.wrap ((i : Int) + 1))] = [Value.string ⟨(zR (l.take i')).toArray⟩, Value.int IntKind.i64 i'] /\ g = h' /\ i' <= l.length /\ m' = l.length - i' := fun t ht m hm =>
   ⟨l.length - (i + 1), by omega, h', hm, i + 1, by
    simp (disch := omega) only [qK]
    rw [ht, qNP hi2, qFA, qEY]; simp, rfl, by omega, rfl⟩
  have sM : Tk.Sub h' ((j2, blk (fl eT [[], [103, 101, 116, 32], [112, 117, 116, 32], [97, 100, 100, 32], [110, 101, 101, 100, 32]]) 9) :: (j, blk (qO l[i]) 267) :: h') := Sub.cons hj2 (sj _)
  obtain ⟨A, hA⟩ : ∃ A, A = zR (l.take i) ++ qAI l[i].do_ ++ decI l[i].key := ⟨_, rfl⟩
  have hAl : A.length <= 400 := by rw [hA]; simp only [List.length_append]; omega
  rw [<- hA]
  refine zV (fun c3 => ?_) fun c3 => ?_
  ·have z3 : A.length + ([32] : List UInt8).length <= 9223372036854775807 := by simp only [List.length_cons, List.length_nil]; omega
   simp only [wK, seval, vF _ _ z3, zB, n2.1, n2.2.1]
   refine qOL (by have := st.2.2.1; simp only [valP, inP] at this; omega) ?_
   have z4 : (A ++ [32]).length + (decI l[i].num).length <= 9223372036854775807 := by simp only [List.length_append, List.length_cons, List.length_nil]; omega
   have z5 : (A ++ [32] ++ decI l[i].num).length + ([59] : List UInt8).length <= 9223372036854775807 := by simp only [List.length_append, List.length_cons, List.length_nil]; omega
   simp only [wK, seval, vF _ _ z4, vF _ _ z5]
   refine go _ ?_ _ sM
   rw [hA, uX, if_neg c3]; simp
  ·have z5 : A.length + ([59] : List UInt8).length <= 9223372036854775807 := by simp only [List.length_cons, List.length_nil]; omega
   simp only [wK, seval, vF _ _ z5]
   refine go _ ?_ _ sM
   rw [hA, uX, if_pos (Classical.not_not.1 c3)]; simp
 ·rw [List.take_of_length_le (by omega)]
  exact .of (k _ (.inl ⟨dp, rfl⟩))
end Go.Proofs.YtjioiemhgbkbfaaGreatDoor
end

section
namespace Go.Tk
open Go
def tbD : List (List UInt8) := [[], [103, 101, 116], [112, 117, 116], [97, 100, 100], [110, 101, 101, 100]]
theorem tbD_at {k : Nat} (h : 1 <= k /\ k <= 4) : ∃ hk : k < tbD.length, tbD[k] = nmD k := by
 have : k = 1 ∨ k = 2 ∨ k = 3 ∨ k = 4 := by omega
 rcases this with rfl | rfl | rfl | rfl <;> exact ⟨by decide, rfl⟩
theorem tbD_get {k : Nat} (h : 1 <= k /\ k <= 4) : (fl eT tbD)[k]? = some (.string ⟨(nmD k).toArray⟩) := by
 have : k = 1 ∨ k = 2 ∨ k = 3 ∨ k = 4 := by omega
 rcases this with rfl | rfl | rfl | rfl <;> rfl
theorem qLH (s : DStatement) : (uW s).length = if s.do_ = 1 then 2 else 3 := by
 unfold uW
 split <;> rfl
theorem zCQ {d : List DStatement} {s : List UInt8} (h : s = zR d) {i : Nat} (hi : i + 1 < (splitB 59 s).length) : ∃ hd : i < d.length, (splitB 59 s)[i] = stW d[i] := by
 have e : splitB 59 s = d.map stW ++ [[]] := by rw [h, qJR]
 have hl := congrArg List.length e
 rw [List.length_append, List.length_map, List.length_singleton] at hl
 refine ⟨by omega, ?_⟩
 have : ∀ (m : List (List UInt8)) (hm : i < m.length), m = d.map stW ++ [[]] -> m[i] = stW (d[i]'(by omega)) := by
  rintro m hm rfl
  rw [List.getElem_append_left (by rw [List.length_map]; omega), List.getElem_map]
 exact this _ (by omega) e
end Go.Tk
namespace Go.Proofs.YtjioiemhgbkbfaaGreatDoor
open Go Go.Tk
theorem uA (l : List DStatement) : (fl qO l).all vone = true := by induction l <;> simp_all [fl, qO, vone]
theorem qUM {h : H} {s : List UInt8} (hs : s.length <= 4194304) {R : Ending -> H -> Prop} (k : ∀ v g l ok, OutD s l ok -> oLs 267 qO 3 v l g -> Dj g h -> R (.returned (.tuple #[v, .bool ok])) (g ++ h)) :
  HCalls Tryz.prog 133 #[.string ⟨s.toArray⟩] h R := by
 refine qD lite (args := [.string ⟨s.toArray⟩]) Tryz.func133 ?_
 conv => arg 2; cbv
 rw [qR]
 have zs := wL
 simp only [wK, seval, str, zs]
 refine qC (o := blk (fl qO []) 267) fun jn hjn => ?_
 have on : oLs 267 qO 3 (.slice (some ⟨jn, 0, none⟩) 0 0) [] [(jn, blk (fl qO []) 267)] := xU yG
 have sn := Sub.cons (o := blk (fl qO []) 267) hjn (Sub.refl h)
 have bad : ∀ {M : H}, Tk.Sub ((jn, blk (fl qO []) 267) :: h) M -> (∀ d, uS d -> s = zR d -> s.length <= 80 -> False) -> dP R (.returned (.tuple #[.slice (some ⟨jn, 0, none⟩) 0 0, .bool false])) M := fun {M} sM e => ⟨_, sM, k _ _ [] false (.inr ⟨rfl, rfl, e⟩) on (by simp only [subs, hjn])⟩
 simp only [wK, seval, str, zs]
 refine qF (fun c => bad (.refl _) fun d _ _ h => by omega) fun c => ?_
 refine qC (o := blk (fl qO []) 267) fun jo hjo => ?_
 have no := hjo
 simp only [subs] at no
 have ejn : ¬ jn = jo := fun e => no.1 e.symm
 have oo : oLs 267 qO 3 (.slice (some ⟨jo, 0, none⟩) 0 0) [] [(jo, blk (fl qO []) 267)] := xU yG
 simp only [wK, seval, str, zs]
 refine (qYA (c := 59) (by omega) fun pv gp op dp => ?_)
 obtain ⟨ps, hps⟩ : ∃ ps, ps = splitB 59 s := ⟨_, rfl⟩
 rw [<- hps] at op
 have dpx := dp
 simp only [subs] at dpx
 obtain ⟨B, hB⟩ : ∃ B, B = gp ++ ((jn, blk (fl qO []) 267) :: h) := ⟨_, rfl⟩
 have sB : Tk.Sub ((jn, blk (fl qO []) 267) :: h) B := by rw [hB]; (repeat' first | exact Sub.refl _ | exact Sub.nil _ | assumption | refine Sub.both ?_ ?_ | refine Sub.cons_of (by simp only [subs, dpx, hjn]) ?_ | exact Sub.left _ _ | refine Sub.app (by simp only [subs, dpx, hjn]) ?_ | refine Sub.cons (by simp only [subs, dpx, hjn]) ?_)
 have rpB : rLs B eT 1 pv ps := op.rd.sub (by rw [hB]; exact Sub.left _ _)
 have hpl : ps.length <= 82 /\ ∀ w ∈ ps, w.length <= 80 := by
  have := qCU 59 s
  rw [hps]
  exact ⟨by omega, fun w hw => by have := this.2 w hw; omega⟩
 have hBo : hget B jo = none := by rw [hB]; simp only [subs, dpx, no]
 simp only [wK, seval, str, zs, op.rd.len]
 refine qDK [7, 5] (fun n vs h' => ∃ (i : Nat) (v : Value) (xs : List DStatement) (G : H), vs = [.int .i64 i, v] /\ h' = G ++ B /\ Dj G B /\ oLs 267 qO 3 v xs G /\ xs.length = i /\ (∀ d, uS d -> s = zR d -> xs = d.take i) /\ i <= ps.length /\ n = ps.length - i) ps.length rfl
  (g0 := [(jo, blk (fl qO []) 267)] ++ B) (by rw [hB]; (repeat' first | exact Sub.refl _ | exact Sub.nil _ | assumption | refine Sub.both ?_ ?_ | refine Sub.cons_of (by simp only [subs, dpx, hjn, no, ejn]) ?_ | exact Sub.left _ _ | refine Sub.app (by simp only [subs, dpx, hjn, no, ejn]) ?_ | refine Sub.cons (by simp only [subs, dpx, hjn, no, ejn]) ?_)) ⟨0, _, [], _, rfl, rfl, by simp only [subs, hBo], oo, rfl, by simp, by omega, rfl⟩ ?_
 rintro n f h' ⟨i, v, xs, G, hv, rfl, dG, oG, hxl, hin, hi, rfl⟩
 simp only [lm4] at hv
 have sG := Sub.right dG
 simp (disch := omega) only [wK, seval, wr, hv.1, hv.2, (rpB.sub sG).len, qK, str, zs]
 refine qF (fun c1 => ?_) fun c1 => ?_
 ·have hi2 : i < ps.length := by omega
  refine zS (i := i) vK (rpB.sub sG) rfl hi2 fun b1 o1 e1 => ?_
  have e1' : qV (G ++ B) b1 o1 1 = some [.string ⟨ps[i].toArray⟩] := e1
  simp only [wK, seval, yR e1', str, zs]
  have hwl := hpl.2 _ (List.getElem_mem hi2)
  refine (qYA (c := 32) (by omega) fun wv gw ow dw => ?_)
  obtain ⟨ws, hws⟩ : ∃ ws, ws = splitB 32 ps[i] := ⟨_, rfl⟩
  rw [<- hws] at ow
  obtain ⟨w0, wr0, hw0⟩ : ∃ w0 wr0, ws = w0 :: wr0 := by
   cases e : ws with
   | nil => exact absurd (hws.symm.trans e) (qFI _ _)
   | cons a b => exact ⟨a, b, rfl⟩
  have hwsl : ws.length <= 82 /\ ∀ w ∈ ws, w.length <= 80 := by
   have := qCU 32 ps[i]
   rw [hws]
   exact ⟨by omega, fun w hw => by have := this.2 w hw; omega⟩
  simp only [wK, seval, str, zs]
  refine qC fun j9 hj9 => ?_
  have n9 := hj9
  simp only [subs] at n9
  simp only [wK, seval, zB, str, zs]
  have sW : Tk.Sub (gw ++ (G ++ B)) (gw ++ (G ++ B)) := .refl _
  have rW : rLs (gw ++ (G ++ B)) eT 1 wv ws := ow.rd.sub (Sub.left _ _)
  have sGw := Sub.right dw
  have sj9 : ∀ x, Tk.Sub (gw ++ (G ++ B)) ((j9, blk (qO x) 267) :: (gw ++ (G ++ B))) := fun x => Sub.cons hj9 (Sub.refl _)
  obtain ⟨M, hM⟩ : ∃ M, M = gw ++ (G ++ B) := ⟨_, rfl⟩
  rw [<- hM] at hj9 rW sGw sj9 ⊢
  have stw : ∀ st, ps[i] = stW st -> ws = uW st := fun st e => by rw [hws, e, qLS]
  refine qP [10] (fun n vs h' => ∃ (q : Nat) (x : DStatement), vs = [.int .i64 q] /\ h' = (j9, blk (qO x) 267) :: M /\ x.key = 0 /\ x.num = 0 /\ 1 <= q /\ q <= 5 /\ (∀ st, stP st -> ps[i] = stW st -> x.do_ = if st.do_ < q then st.do_ else 0) /\ n = 5 - q) 4 rfl
   ⟨1, yT, rfl, rfl, rfl, rfl, by omega, by omega, fun st hst _ => by rw [if_neg (by have := hst.1; unfold inP at this; omega)]; rfl, rfl⟩ ?_
  rintro n f' h' ⟨q, x, hv', rfl, hx1, hx2, hq1, hq2, hxd, rfl⟩
  simp only [lm4] at hv'
  simp only [wK, seval, wr, hv', zB, str, zs]
  refine xA (fun c2 => ?_) fun c2 => ?_
  ·have hq4 : q <= 4 := by omega
   refine zC _ (Sub.refl _) ?_
   simp only [wK, seval, zB, str]
   refine zS (i := 0) vK (rW.sub (sj9 x)) rfl (by rw [hw0]; simp) fun b2 o2 e2 => ?_
   have e2' : qV ((j9, blk (qO x) 267) :: M) b2 o2 1 = some [.string ⟨w0.toArray⟩] := by rw [e2]; simp only [hw0]; rfl
   simp only [wK, seval, yR e2', zB, str]
   refine qC (o := blk (fl eT tbD) 9) fun j5 hj5 => ?_
   have sj5 := qFC (o := blk (fl eT tbD) 9) hj5
   simp only [wK, seval, sj5]
   refine ⟨⟨by omega, by omega⟩, ?_⟩
   rw [tbD_get ⟨hq1, hq4⟩]
   have n5 := hj5
   simp only [subs] at n5
   have e95 : ¬ j9 = j5 := fun e => n5.1 e.symm
   simp only [wK, seval, sj5, zB, str, xP, uI, e95]
   have nx : ∀ x' : DStatement, x'.key = 0 -> x'.num = 0 -> (∀ st, stP st -> ps[i] = stW st -> x'.do_ = if st.do_ < ((q + 1 : Nat) : Int) then st.do_ else 0) ->
     ∃ m, m < 5 - q /\ ∃ g', Tk.Sub g' ((j5, blk (fl eT tbD) 9) :: (j9, blk (qO x') 267) :: M) /\ ∃ (q' : Nat) (x'' : DStatement), [Value.int IntKind.i64 (IntKind.i64.wrap ((q : Int) + 1))] = [Value.int IntKind.i64 q'] /\ g' = (j9, blk (qO x'') 267) :: M /\ x''.key = 0 /\ x''.num = 0 /\ 1 <= q' /\ q' <= 5 /\ (∀ st, stP st -> ps[i] = stW st -> x''.do_ = if st.do_ < q' then st.do_ else 0) /\ m = 5 - q' := fun x' h1 h2 h3 =>
    ⟨5 - (q + 1), by omega, _, Sub.cons (by simp only [subs, n5]) (Sub.refl _), q + 1, x', by simp (disch := omega) only [qK]; simp, rfl, h1, h2, by omega, by omega, h3, rfl⟩
   refine zV (fun c4 => ?_) fun c4 => ?_
   ·refine nx { x with do_ := q } hx1 hx2 fun st hst e => ?_
    have hw := stw st e
    rw [hw0] at hw
    have hnm : w0 = nmD st.do_ := (List.cons.inj hw).1
    have hd := hst.1
    unfold inP at hd
    have := nmD_inj (m := (q : Int)) (n := st.do_) (by omega) (by omega) (by rw [<- c4, hnm])
    rw [if_pos (by omega), this]
   ·refine nx x hx1 hx2 fun st hst e => ?_
    have hw := stw st e
    rw [hw0] at hw
    have hnm : w0 = nmD st.do_ := (List.cons.inj hw).1
    rw [hxd st hst e]
    have hne : st.do_ ≠ (q : Int) := fun e2 => c4 (by rw [hnm, e2])
    by_cases c5 : st.do_ < (q : Int)
    ·rw [if_pos c5, if_pos (by omega)]
    ·rw [if_neg c5, if_neg (by omega)]
  ·have hq5 : q = 5 := by omega
   subst hq5
   have hdo : ∀ st, stP st -> ps[i] = stW st -> x.do_ = st.do_ := fun st hst e => by
    rw [hxd st hst e, if_pos]
    have := hst.1
    unfold inP at this
    omega
   have rWl : ∀ {f : Value -> Prop}, jQ wv f = f (.int .i64 ws.length) := fun {f} => rW.len (f := f)
   have hwlen : ∀ st, ps[i] = stW st -> ws.length = if st.do_ = 1 then 2 else 3 := fun st e => by rw [stw st e, qLH]
   simp only [wK, seval, zB, str, zs, rWl]
   have nxt : ∀ x', (∀ st, stP st -> ps[i] = stW st -> x' = st) -> ∀ d, uS d -> s = zR d -> xs ++ [x'] = d.take (i + 1) := fun x' hx' d hd e => by
    obtain ⟨hdl, hp⟩ := zCQ e (i := i) (by rw [<- hps]; omega)
    have hp' : ps[i] = stW d[i] := by
     have : ∀ (m : List (List UInt8)) (hm : i < m.length), m = splitB 59 s -> m[i] = stW d[i] := by rintro m hm rfl; exact hp
     exact this ps hi2 hps
    rw [List.take_succ_eq_append_getElem hdl, hin d hd e, hx' _ (hd.2.2 _ (List.getElem_mem hdl)) hp']
   have w1 : ∀ st, ps[i] = stW st -> ∀ (h1 : 1 < ws.length), ws[1] = decI st.key := fun st e h1 => by
    have : ∀ (m : List (List UInt8)) (hm : 1 < m.length), m = uW st -> m[1] = decI st.key := by rintro m hm rfl; rfl
    exact this ws h1 (stw st e)
   have w2 : ∀ st, ps[i] = stW st -> ∀ (h1 : 2 < ws.length), ws[2] = decI st.num := fun st e h1 => by
    have : ∀ (m : List (List UInt8)) (hm : 2 < m.length), m = uW st -> m[2] = decI st.num := by
     rintro m hm rfl
     unfold uW at hm ⊢
     by_cases c : st.do_ = 1
     ·simp only [if_pos c, List.length_cons, List.length_nil] at hm; omega
     ·simp only [if_neg c]; rfl
    exact this ws h1 (stw st e)
   have eqS : ∀ {a b : DStatement}, a.do_ = b.do_ -> a.key = b.key -> a.num = b.num -> a = b := fun {a b} h1 h2 h3 => by
    obtain ⟨a1, a2, a3⟩ := a
    obtain ⟨b1, b2, b3⟩ := b
    simp only at h1 h2 h3
    rw [h1, h2, h3]
   refine qF (fun c5 => ?_) fun c5 => ?_
   ·have l1 : 1 < ws.length := by omega
    refine zS (i := 1) vK (rW.sub (sj9 x)) rfl l1 fun b3 o3 e3 => ?_
    have e3' : qV ((j9, blk (qO x) 267) :: M) b3 o3 1 = some [.string ⟨(ws[1]).toArray⟩] := e3
    simp only [wK, seval, yR e3', zB, str, zs]
    refine qRN (by have := hwsl.2 _ (List.getElem_mem l1); omega) fun n1 ok1 hn1 _ hb1 => ?_
    simp only [wK, seval, zB, str, zs, rWl]
    have hk1 : ∀ st, stP st -> ps[i] = stW st -> n1 = st.key := fun st hst e => (hn1 st.key (qNV hst).1 (w1 st e l1)).2
    refine qF (fun c6 => ?_) fun c6 => ?_
    ·have l2 : 2 < ws.length := by omega
     refine zS (i := 2) vK (rW.sub (sj9 { x with key := n1 })) rfl l2 fun b4 o4 e4 => ?_
     have e4' : qV ((j9, blk (qO { x with key := n1 }) 267) :: M) b4 o4 1 = some [.string ⟨(ws[2]).toArray⟩] := e4
     simp only [wK, seval, yR e4', zB, str, zs]
     refine qRN (by have := hwsl.2 _ (List.getElem_mem l2); omega) fun n2 ok2 hn2 _ hb2 => ?_
     simp only [wK, seval, zB, str, zs, rWl]
     have hm : ∀ st, stP st -> ps[i] = stW st -> { x with key := n1, num := n2 } = st := fun st hst e => eqS (hdo st hst e) (hk1 st hst e) (hn2 st.num (qNV hst).2 (w2 st e l2)).2
     refine qC (o := blk (fl qO [{ x with key := n1, num := n2 }]) 267) fun j7 hj7 => ?_
     simp only [wK, seval, zB, str, zs]
     refine uT (g := G) (h := B) yG uA jX qAL (sGw.trans ((sj9 _).trans (Sub.cons hj7 (Sub.refl _)))) dG oG (kH (e := 267) yG [{ x with key := n1, num := n2 }]) (by simp; omega) (by simp; omega) fun v2 g2 o2 d2 => ?_
     simp (disch := omega) only [wK, seval, qK]
     refine ⟨ps.length - (i + 1), by omega, _, .refl _, i + 1, v2, _, g2, by simp, rfl, d2, o2, by simp [hxl], fun d hd e => ?_, by omega, rfl⟩
     exact nxt { x with key := n1, num := n2 } hm d hd e
    ·have hm : ∀ st, stP st -> ps[i] = stW st -> { x with key := n1 } = st := fun st hst e => eqS (hdo st hst e) (hk1 st hst e) (by
      have hl := hwlen st e
      have hd1 : st.do_ = 1 := by
       by_cases c : st.do_ = 1
       ·exact c
       ·rw [if_neg c] at hl; omega
      rw [hst.2.2.2 hd1]; exact hx2)
     refine qC (o := blk (fl qO [{ x with key := n1 }]) 267) fun j7 hj7 => ?_
     simp only [wK, seval, zB, str, zs]
     refine uT (g := G) (h := B) yG uA jX qAL (sGw.trans ((sj9 _).trans (Sub.cons hj7 (Sub.refl _)))) dG oG (kH (e := 267) yG [{ x with key := n1 }]) (by simp; omega) (by simp; omega) fun v2 g2 o2 d2 => ?_
     simp (disch := omega) only [wK, seval, qK]
     refine ⟨ps.length - (i + 1), by omega, _, .refl _, i + 1, v2, _, g2, by simp, rfl, d2, o2, by simp [hxl], fun d hd e => ?_, by omega, rfl⟩
     exact nxt { x with key := n1 } hm d hd e
   ·have c6 : ¬ (2 : Int) < ws.length := by omega
    simp only [wK, seval, zB, str, zs, rWl, c6, if_false]
    have hm : ∀ st, stP st -> ps[i] = stW st -> x = st := fun st hst e => by
     have hl := hwlen st e
     split at hl <;> omega
    refine qC (o := blk (fl qO [x]) 267) fun j7 hj7 => ?_
    simp only [wK, seval, zB, str, zs]
    refine uT (g := G) (h := B) yG uA jX qAL (sGw.trans ((sj9 _).trans (Sub.cons hj7 (Sub.refl _)))) dG oG (kH (e := 267) yG [x]) (by simp; omega) (by simp; omega) fun v2 g2 o2 d2 => ?_
    simp (disch := omega) only [wK, seval, qK]
    refine ⟨ps.length - (i + 1), by omega, _, .refl _, i + 1, v2, _, g2, by simp, rfl, d2, o2, by simp [hxl], fun d hd e => ?_, by omega, rfl⟩
    exact nxt x hm d hd e
 ·have fin : ∀ d, uS d -> s = zR d -> xs = d := fun d hd e => by
   rw [hin d hd e]
   refine List.take_of_length_le ?_
   have := congrArg List.length (hps.trans (by rw [e, qJR]))
   rw [List.length_append, List.length_map, List.length_singleton] at this
   omega
  have hx82 : xs.length <= 82 := by omega
  simp only [wK, seval, str, xP, uI]
  refine zV (fun c2 => bad (sB.trans sG) fun d hd e _ => ?_) fun c2 => ?_
  ·have h1 := hd.1
   cases d with
   | nil => simp at h1
   | cons a d =>
    rw [c2, uK] at e
    have := congrArg List.length e
    simp at this
  ·refine qSM (oG.rd.sub (Sub.left _ _)) (by omega) fun t ht => ?_
   simp only [wK, seval, str, xP, uI]
   refine zG (fun c3 => bad (sB.trans sG) fun d hd e _ => ?_) fun c3 => ?_
   ·have := fin d hd e
    rcases ht with ⟨_, ht⟩ | ⟨hn, _⟩
    ·rw [this, <- e] at ht
     exact c3 ht
    ·rw [this] at hn
     exact hn hd
   ·rcases ht with ⟨hp, ht⟩ | ⟨_, ht⟩
    ·have dh : Dj G h := by
      have := dG
      rw [hB] at this
      simp only [subs] at this
      exact this.2.2
     refine ⟨G ++ h, ?_, k v G xs true (.inl ⟨rfl, hp, by rw [<- c3, ht], by omega⟩) oG dh⟩
     rw [hB] at dG ⊢
     have dg := dG
     simp only [subs] at dg
     (repeat' first | exact Sub.refl _ | exact Sub.nil _ | assumption | refine Sub.both ?_ ?_ | refine Sub.cons_of (by simp only [subs, dg, dpx, hjn]) ?_ | exact Sub.left _ _ | refine Sub.app (by simp only [subs, dg, dpx, hjn]) ?_ | refine Sub.cons (by simp only [subs, dg, dpx, hjn]) ?_)
    ·exact absurd (by rw [<- c3, ht]) c2
end Go.Proofs.YtjioiemhgbkbfaaGreatDoor
end
