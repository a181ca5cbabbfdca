/- Parts of the proof. -/
import Derived.Test.YtjioiemhgbkbfaaGreatDoorK145
import Derived.Test.YtjioiemhgbkbfaaGreatDoorK1421
import Derived.Test.YtjioiemhgbkbfaaGreatDoorK1418
set_option maxHeartbeats 4000000
set_option maxRecDepth 100000
set_option linter.unusedVariables false
set_option linter.unusedSimpArgs false
set_option linter.defProp false
attribute [local irreducible] Go.Tk.vc Go.Tk.vops Go.Tk.vdr Go.Tk.vop Go.Tk.vfl Go.Tk.HCalls
section
namespace Go.Proofs.YtjioiemhgbkbfaaGreatDoor
open Go Go.Tk
theorem qMU {h : H} {d : DTollWorld} {v1 v2 v3 v4 v5 v6 : Value} (gl : Gl h) (gm : MxL h) (ge : Ge h) (r : sTollWorld h d v1 v2 v3 v4 v5 v6) (hb : bWorld d) {R : Ending -> H -> Prop} (k1 : kI d -> R (.returned .nilIface) h) (k2 : ¬ kI d -> ∀ te pe, R (.returned (.iface te pe)) h) :
  HCalls Tryz.prog 25 #[.agg (cTollWorld d v1 v2 v3 v4 v5 v6).toArray] h R := by
 refine qD lite (args := [.agg (cTollWorld d v1 v2 v3 v4 v5 v6).toArray]) Tryz.func25 ?_
 conv => arg 2; cbv
 rw [qR]
 have egl : ∀ (env : List Value) (g : Nat), evl env (.global g) = .pointer (some ⟨g, 0, none⟩) := fun _ _ => rfl
 have b1 := hb.rlen
 have b2 := hb.hlen
 have b3 := hb.clen
 unfold lim at b1 b2 b3
 simp only [wK, seval, yU]
 refine qC (o := blk (cTollWorld d v1 v2 v3 v4 v5 v6) 43) fun j1 h1 => ?_
 obtain ⟨A, hA⟩ : ∃ A, A = (j1, blk (cTollWorld d v1 v2 v3 v4 v5 v6) 43) :: h := ⟨_, rfl⟩
 have sA : Tk.Sub h A := by rw [hA]; exact Sub.cons h1 (Sub.refl _)
 have gA : hget A j1 = some (blk (cTollWorld d v1 v2 v3 v4 v5 v6) 43) := by rw [hA]; exact qJ _ _ _
 have c0 : hcel A j1 0 = some (.int .i64 d.time) := qE gA rfl
 have cg : qT A j1 1 6 = some (zN d.gate v1 v2 v3) := by unfold qT; rw [gA]; rfl
 have c7 : hcel A j1 7 = some v4 := qE gA rfl
 have c8 : hcel A j1 8 = some v5 := qE gA rfl
 have c9 : hcel A j1 9 = some v6 := qE gA rfl
 obtain ⟨⟨t0, p0, y0, g0⟩, ⟨t1, p1, y1, g1⟩, ⟨t2, p2, y2, g2⟩, ⟨t3, p3, y3, g3⟩, ⟨t4, p4, y4, g4⟩⟩ := ge.sub sA
 have x0 : hcel A 0 0 = some (.iface t0 p0) := qE g0 rfl
 have x1 : hcel A 1 0 = some (.iface t1 p1) := qE g1 rfl
 have x2 : hcel A 2 0 = some (.iface t2 p2) := qE g2 rfl
 have x3 : hcel A 3 0 = some (.iface t3 p3) := qE g3 rfl
 have x4 : hcel A 4 0 = some (.iface t4 p4) := qE g4 rfl
 rw [<- hA]
 simp only [wK, seval]
 refine qC (o := blk [.slice none 0 0] 125) fun jf hf => ?_
 obtain ⟨M0, hM0⟩ : ∃ M0, M0 = (jf, blk [.slice none 0 0] 125) :: A := ⟨_, rfl⟩
 have sM0 : Tk.Sub A M0 := by rw [hM0]; exact Sub.cons hf (Sub.refl _)
 have gf0 : hget M0 jf = some (blk [.slice none 0 0] 125) := by rw [hM0]; exact qJ _ _ _
 have dW0 : dL 72 eIf 1 M0 (.slice none 0 0) [] (fun _ => False) := dL.nil
 have hj0 : ¬ (fun _ : Nat => False) jf := fun q => q
 have fS0 : ∀ x, (fun _ : Nat => False) x -> hget A x = none := fun _ q => q.elim
 have len0 : ([] : List (TypeId × Value)).length <= 0 := Nat.le_refl _
 rw [<- hM0]
 simp only [wK, seval]
 refine zC A sM0 ?_
 simp only [wK, seval, egl, c0, x0, sM0]
 refine yN fun q11 k11 => ?_
 simp only [wK, seval, sM0]
 refine ⟨by kernel_rfl, qIJ gf0 dW0 hj0 (by omega) fun M1 w1 L1 S1 gf1 dW1 hj1 kp1 ff1 iff1 len1 => ?_⟩
 have sM1 : Tk.Sub A M1 := fun x o e => by
  rw [kp1 x (by rw [sM0 x o e]; simp) (fun q => by rw [fS0 x q] at e; cases e) (fun c => by rw [c, hf] at e; cases e)]; exact sM0 x o e
 have fS1 : ∀ x, S1 x -> hget A x = none := fun x q => by
  rcases ff1 x q with e | e
  ·exact fS0 x e
  ·exact sM0.none' e
 simp only [wK, seval, sM1]
 refine zC A sM1 ?_
 simp only [wK, seval, egl, cg, x1, sM1]
 refine qOG ((gl.sub sA).sub sM1) ((gm.sub sA).sub sM1) (sGate.sub (sA.trans sM1) ⟨r.1, r.2.1, r.2.2.1⟩) hb.gate fun q12 k12 => ?_
 simp only [wK, seval, sM1]
 refine ⟨by kernel_rfl, qIJ gf1 dW1 hj1 (by omega) fun M2 w2 L2 S2 gf2 dW2 hj2 kp2 ff2 iff2 len2 => ?_⟩
 have sM2 : Tk.Sub A M2 := fun x o e => by
  rw [kp2 x (by rw [sM1 x o e]; simp) (fun q => by rw [fS1 x q] at e; cases e) (fun c => by rw [c, hf] at e; cases e)]; exact sM1 x o e
 have fS2 : ∀ x, S2 x -> hget A x = none := fun x q => by
  rcases ff2 x q with e | e
  ·exact fS1 x e
  ·exact sM1.none' e
 simp only [wK, seval, sM2]
 refine zC A sM2 ?_
 simp only [wK, seval, egl, c7, x2, sM2]
 refine qKQ ((r.2.2.2.1.subH (sA.trans sM2)).relImp fun _ _ q => rHouse.sub (sA.trans sM2) q) hb.houses b2 fun q13 k13 => ?_
 simp only [wK, seval, sM2]
 refine ⟨by kernel_rfl, qIJ gf2 dW2 hj2 (by omega) fun M3 w3 L3 S3 gf3 dW3 hj3 kp3 ff3 iff3 len3 => ?_⟩
 have sM3 : Tk.Sub A M3 := fun x o e => by
  rw [kp3 x (by rw [sM2 x o e]; simp) (fun q => by rw [fS2 x q] at e; cases e) (fun c => by rw [c, hf] at e; cases e)]; exact sM2 x o e
 have fS3 : ∀ x, S3 x -> hget A x = none := fun x q => by
  rcases ff3 x q with e | e
  ·exact fS2 x e
  ·exact sM2.none' e
 simp only [wK, seval, sM3]
 refine zC A sM3 ?_
 simp only [wK, seval, egl, c8, x3, sM3]
 refine zAK ((r.2.2.2.2.1.subH (sA.trans sM3)).relImp fun _ _ q => rWord.sub (sA.trans sM3) q) hb.radio b1 fun q14 k14 => ?_
 simp only [wK, seval, sM3]
 refine ⟨by kernel_rfl, qIJ gf3 dW3 hj3 (by omega) fun M4 w4 L4 S4 gf4 dW4 hj4 kp4 ff4 iff4 len4 => ?_⟩
 have sM4 : Tk.Sub A M4 := fun x o e => by
  rw [kp4 x (by rw [sM3 x o e]; simp) (fun q => by rw [fS3 x q] at e; cases e) (fun c => by rw [c, hf] at e; cases e)]; exact sM3 x o e
 have fS4 : ∀ x, S4 x -> hget A x = none := fun x q => by
  rcases ff4 x q with e | e
  ·exact fS3 x e
  ·exact sM3.none' e
 simp only [wK, seval, sM4]
 refine zC A sM4 ?_
 simp only [wK, seval, egl, c9, c0, x4, sM4]
 refine qKV ((r.2.2.2.2.2.subH (sA.trans sM4)).relImp fun _ _ q => rTollCall.sub (sA.trans sM4) q) hb.calls fun q15 k15 => ?_
 simp only [wK, seval, sM4]
 refine ⟨by kernel_rfl, qIJ gf4 dW4 hj4 (by omega) fun M5 w5 L5 S5 gf5 dW5 hj5 kp5 ff5 iff5 len5 => ?_⟩
 have sM5 : Tk.Sub A M5 := fun x o e => by
  rw [kp5 x (by rw [sM4 x o e]; simp) (fun q => by rw [fS4 x q] at e; cases e) (fun c => by rw [c, hf] at e; cases e)]; exact sM4 x o e
 have fS5 : ∀ x, S5 x -> hget A x = none := fun x q => by
  rcases ff5 x q with e | e
  ·exact fS4 x e
  ·exact sM4.none' e
 simp only [wK, seval, sM5]
 have cf : hcel M5 jf 0 = some w5 := qE gf5 rfl
 have iff : kI d ↔ L5 = [] := by
  rw [iff5, iff4, iff3, iff2, iff1]
  unfold kI
  constructor
  ·rintro ⟨a0, a1, a2, a3, a4, a5, a6⟩
   exact ⟨⟨⟨⟨⟨rfl, k11.2 a0⟩, k12.2 a1⟩, k13.2 ⟨a2, a5⟩⟩, k14.2 ⟨a3, a6⟩⟩, k15.2 ((qJN (by unfold inP at a0; omega)).2 a4)⟩
  ·rintro ⟨⟨⟨⟨⟨_, a0⟩, a1⟩, a2⟩, a3⟩, a4⟩
   have a0 := k11.1 a0
   have a2 := k13.1 a2
   have a3 := k14.1 a3
   exact ⟨a0, k12.1 a1, a2.1, a3.1, (qJN (by unfold inP at a0; omega)).1 (k15.1 a4), a2.2, a3.2⟩
 simp only [wK, seval, cf]
 refine join_c dW5.rd (by omega) (fun e => ?_) fun e te pe => ?_
 ·simp only [wK, seval]
  exact ⟨h, sA.trans sM5, k1 (iff.2 e)⟩
 ·simp only [wK, seval]
  exact ⟨h, sA.trans sM5, k2 (fun q => e (iff.1 q)) te pe⟩
theorem qOE {h : H} {d : DTollWorld} {v1 v2 v3 v4 v5 v6 : Value} (gl : Gl h) (gm : MxL h) (ge : Ge h) (r : sTollWorld h d v1 v2 v3 v4 v5 v6) (hb : bWorld d) {R : Ending -> H -> Prop} (k : Asks R (kI d) h) :
  HCalls Tryz.prog 8 #[.agg (cTollWorld d v1 v2 v3 v4 v5 v6).toArray] h R := by
 refine qD lite (args := [.agg (cTollWorld d v1 v2 v3 v4 v5 v6).toArray]) Tryz.func8 ?_
 conv => arg 2; cbv
 simp only [wK, seval, yU]
 refine qC (o := blk (cTollWorld d v1 v2 v3 v4 v5 v6) 43) fun j1 h1 => ?_
 obtain ⟨A, hA⟩ : ∃ A, A = (j1, blk (cTollWorld d v1 v2 v3 v4 v5 v6) 43) :: h := ⟨_, rfl⟩
 have sA : Tk.Sub h A := by rw [hA]; exact Sub.cons h1 (Sub.refl _)
 have r1 : qT A j1 0 10 = some (cTollWorld d v1 v2 v3 v4 v5 v6) := zH (by rw [hA]; exact qJ _ _ _) rfl
 rw [<- hA]
 simp only [wK, seval, yU, r1]
 refine qMU (gl.sub sA) (gm.sub sA) (ge.sub sA) (sTollWorld.sub sA r) hb (fun e => ?_) fun e te pe => ?_
 ·simp only [wK, seval]
  first | exact k.dyes sA e | exact ⟨rfl, k.dyes sA e⟩
 ·simp only [wK, seval]
  exact k.dno sA e
theorem qKR {h : H} {d : DTollWorld} {v1 v2 v3 v4 v5 v6 : Value} (gl : Gl h) (gm : MxL h) (ge : Ge h) (r : nWorld h d v1 v2 v3 v4 v5 v6) (hu : qNA d) {R : Ending -> H -> Prop} (k : R (.returned (.bool true)) h) :
  HCalls Tryz.prog 3 #[.agg (cTollWorld d v1 v2 v3 v4 v5 v6).toArray] h R := by
 refine qD lite (args := [.agg (cTollWorld d v1 v2 v3 v4 v5 v6).toArray]) Tryz.func3 ?_
 conv => arg 2; cbv
 rw [qR]
 have zg := qCF
 simp only [wK, seval, yU]
 refine qC (o := blk (cTollWorld d v1 v2 v3 v4 v5 v6) 31) fun j1 h1 => ?_
 obtain ⟨M0, hM0⟩ : ∃ M0, M0 = (j1, blk (cTollWorld d v1 v2 v3 v4 v5 v6) 31) :: h := ⟨_, rfl⟩
 have s0 : Tk.Sub h M0 := by rw [hM0]; exact Sub.cons h1 (Sub.refl _)
 have g0 : hget M0 j1 = some (blk (cTollWorld d v1 v2 v3 v4 v5 v6) 31) := by rw [hM0]; exact qJ _ _ _
 have a0 : qT M0 j1 0 10 = some (cTollWorld d v1 v2 v3 v4 v5 v6) := zH g0 rfl
 rw [<- hM0]
 simp only [wK, seval, yU, a0]
 refine qKD (r.sub s0) ⟨by omega, by omega⟩ hu fun x hx hx2 => ?_
 simp only [wK, seval]
 refine qF (fun c => ⟨h, s0, k⟩) fun c => ?_
 have hsz : qAU d <= 1048576 := by have := hx (by omega); omega
 have hb := zCN hsz
 try simp only [wK, seval, a0]
 refine kB (r.sub s0) hb fun M1 w1 w2 w3 w4 w5 w6 s1 W1 => ?_
 simp only [wK, seval]
 refine qNM W1 hb fun q1 k1 => ?_
 simp only [wK, seval]
 have s01 : Tk.Sub h M1 := s0.trans s1
 have a1 : qT M1 j1 0 10 = some (cTollWorld d v1 v2 v3 v4 v5 v6) := zH (s1 _ _ g0) rfl
 try simp only [wK, seval, a1]
 refine kB (r.sub s01) hb fun M2 x1 x2 x3 x4 x5 x6 s2 W2 => ?_
 simp only [wK, seval, zg]
 refine qC (o := blk (cTollWorld zTollWorld (.slice none 0 0) (.slice none 0 0) (.slice none 0 0) (.slice none 0 0) (.slice none 0 0) (.slice none 0 0)) 43) fun j5 h5 => ?_
 have one5 := qIB W2
 obtain ⟨M3, hM3⟩ : ∃ M3, M3 = (j5, blk (cTollWorld d x1 x2 x3 x4 x5 x6) 43) :: M2 := ⟨_, rfl⟩
 have s3 : Tk.Sub M2 M3 := by rw [hM3]; exact Sub.cons h5 (Sub.refl _)
 have g5 : hget M3 j5 = some (blk (cTollWorld d x1 x2 x3 x4 x5 x6) 43) := by rw [hM3]; exact qJ _ _ _
 have a5 : qT M3 j5 0 10 = some (cTollWorld d x1 x2 x3 x4 x5 x6) := zH g5 rfl
 have s03 : Tk.Sub h M3 := s01.trans (s2.trans s3)
 have a13 : qT M3 j1 0 10 = some (cTollWorld d v1 v2 v3 v4 v5 v6) := zH (s3 _ _ (s2 _ _ (s1 _ _ g0))) rfl
 simp only [wK, seval, yU, one5, <- hM3]
 try simp only [wK, seval, a5]
 refine qOE (gl.sub s03) (gm.sub s03) (ge.sub s03) (sTollWorld.sub s3 W2) hb fun q2 k2 => ?_
 have eq : q2 = q1 := by
  cases q1 <;> cases q2 <;> simp_all
 rw [eq]
 simp only [wK, seval]
 have s33 := Sub.refl M3
 have hbeq : (q1 == q1) = true := by cases q1 <;> rfl
 simp only [wK, seval, hbeq, Bool.not_true]
 refine zC _ (Sub.refl _) ?_
 simp only [wK, seval, a5, a13, s33]
 refine kB (r.sub s03) hb fun M4 y1 y2 y3 y4 y5 y6 s4 W4 => ?_
 simp only [wK, seval, s4]
 refine qKS (sTollWorld.sub (s3.trans s4) W2) W4 hb ?_
 simp only [wK, seval, decide_true, s4, Bool.not_true]
 exact ⟨h, s03.trans s4, k⟩
end Go.Proofs.YtjioiemhgbkbfaaGreatDoor
end
