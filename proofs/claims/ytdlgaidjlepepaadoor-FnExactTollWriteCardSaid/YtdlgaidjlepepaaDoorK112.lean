/- Parts of the proof, put together: U15, U16, P7, U17, U18. -/
import Derived.Test.YtdlgaidjlepepaaDoorK111
import Derived.Test.YtdlgaidjlepepaaDoorK110
/- How all that may happen is written: the row of forms. -/
section
set_option linter.unusedVariables false
set_option linter.unusedSimpArgs false
set_option maxRecDepth 20000
attribute [local irreducible] Go.Tk.vc Go.Tk.vops Go.Tk.vdr Go.Tk.vop Go.Tk.vfl Go.Tk.HCalls
namespace Go.Proofs.YtdlgaidjlepepaaDoor
open Go Go.Tk

theorem forms_c {rest : H} {jd : Nat} {R : Ending → H → Prop} (k : ∀ v g L, L.map Prod.fst = forms → rLs g (eForm jd) 6 v L → (∀ p ∈ L, rLs g ePtr 1 p.2 (p.1.offs.map fun o => (jd, o))) → Dj g rest → R (.returned v) (g ++ rest)) :
    HCalls Tryd.prog 42 #[(.pointer (some ⟨jd, 0, none⟩))] rest R := by
  refine HCalls_ir (args := [(.pointer (some ⟨jd, 0, none⟩))]) Tryd.func42 ir42 ?_
  simp only [walk, lists, acts, mem, plain, seqs, maps, cells, resL, resV, intBin, ↓reduceIte, Nat.reduceAdd, Nat.reduceSub, Nat.reduceMul, Nat.reduceLeDiff, Nat.reduceEqDiff, Int.reduceToNat, Int.reduceEq, Int.reduceLT, Int.reduceLE, Int.reduceNeg, Int.reduceAdd, Int.reduceSub, Int.reduceMul, Nat.reducePow, Int.reduceNegSucc, str]
  refine vc_anyR memF [qV (.pointer (some ⟨jd, 0, none⟩)), qV (.pointer (some ⟨jd, 0, none⟩)), qV (.pointer (some ⟨jd, 0, none⟩)), qV (.pointer (some ⟨jd, 2, none⟩)), qA rest 86 [(jd, 2)], qV (.pointer (some ⟨jd, 0, none⟩)), qV (.func (.func 50) #[(.pointer (some ⟨jd, 0, none⟩))] #[]), qV (.pointer (some ⟨jd, 0, none⟩)), qV (.func (.func 51) #[(.pointer (some ⟨jd, 0, none⟩))] #[]), qF rest jd F0, qV (.pointer (some ⟨jd, 0, none⟩)), qV (.pointer (some ⟨jd, 0, none⟩)), qV (.pointer (some ⟨jd, 0, none⟩)), qV (.pointer (some ⟨jd, 2, none⟩)), qA rest 86 [(jd, 2)], qV (.pointer (some ⟨jd, 0, none⟩)), qV (.func (.func 52) #[(.pointer (some ⟨jd, 0, none⟩))] #[]), qV (.pointer (some ⟨jd, 0, none⟩)), qV (.func (.func 53) #[(.pointer (some ⟨jd, 0, none⟩))] #[]), qF rest jd F1, qV (.pointer (some ⟨jd, 0, none⟩)), qV (.pointer (some ⟨jd, 0, none⟩)), qV (.pointer (some ⟨jd, 0, none⟩)), qV (.pointer (some ⟨jd, 2, none⟩)), qA rest 86 [(jd, 2)], qV (.pointer (some ⟨jd, 0, none⟩)), qV (.func (.func 52) #[(.pointer (some ⟨jd, 0, none⟩))] #[]), qV (.pointer (some ⟨jd, 0, none⟩)), qV (.func (.func 53) #[(.pointer (some ⟨jd, 0, none⟩))] #[]), qF rest jd F2, qV (.pointer (some ⟨jd, 0, none⟩)), qV (.pointer (some ⟨jd, 0, none⟩)), qV (.pointer (some ⟨jd, 0, none⟩)), qV (.pointer (some ⟨jd, 3, none⟩)), qA rest 86 [(jd, 3)], qV (.pointer (some ⟨jd, 0, none⟩)), qV (.func (.func 52) #[(.pointer (some ⟨jd, 0, none⟩))] #[]), qV (.pointer (some ⟨jd, 0, none⟩)), qV (.func (.func 53) #[(.pointer (some ⟨jd, 0, none⟩))] #[]), qF rest jd F3, qV (.pointer (some ⟨jd, 0, none⟩)), qV (.pointer (some ⟨jd, 0, none⟩)), qV (.pointer (some ⟨jd, 0, none⟩)), qV (.pointer (some ⟨jd, 3, none⟩)), qA rest 86 [(jd, 3)], qV (.pointer (some ⟨jd, 0, none⟩)), qV (.func (.func 52) #[(.pointer (some ⟨jd, 0, none⟩))] #[]), qV (.pointer (some ⟨jd, 0, none⟩)), qV (.func (.func 53) #[(.pointer (some ⟨jd, 0, none⟩))] #[]), qF rest jd F4, qV (.pointer (some ⟨jd, 0, none⟩)), qV (.pointer (some ⟨jd, 0, none⟩)), qV (.pointer (some ⟨jd, 0, none⟩)), qV (.pointer (some ⟨jd, 3, none⟩)), qA rest 86 [(jd, 3)], qV (.pointer (some ⟨jd, 0, none⟩)), qV (.func (.func 52) #[(.pointer (some ⟨jd, 0, none⟩))] #[]), qV (.pointer (some ⟨jd, 0, none⟩)), qV (.func (.func 53) #[(.pointer (some ⟨jd, 0, none⟩))] #[]), qF rest jd F5, qV (.pointer (some ⟨jd, 0, none⟩)), qV (.pointer (some ⟨jd, 0, none⟩)), qV (.pointer (some ⟨jd, 0, none⟩)), qV (.pointer (some ⟨jd, 1, none⟩)), qV (.pointer (some ⟨jd, 0, none⟩)), qV (.pointer (some ⟨jd, 0, none⟩)), qV (.pointer (some ⟨jd, 0, none⟩)), qV (.pointer (some ⟨jd, 4, none⟩)), qA rest 86 [(jd, 1), (jd, 4)], qV (.pointer (some ⟨jd, 0, none⟩)), qV (.func (.func 52) #[(.pointer (some ⟨jd, 0, none⟩))] #[]), qV (.pointer (some ⟨jd, 0, none⟩)), qV (.func (.func 53) #[(.pointer (some ⟨jd, 0, none⟩))] #[]), qF rest jd F6, qV (.pointer (some ⟨jd, 0, none⟩)), qV (.pointer (some ⟨jd, 0, none⟩)), qV (.pointer (some ⟨jd, 0, none⟩)), qV (.pointer (some ⟨jd, 1, none⟩)), qA rest 86 [(jd, 1)], qV (.pointer (some ⟨jd, 0, none⟩)), qV (.func (.func 52) #[(.pointer (some ⟨jd, 0, none⟩))] #[]), qV (.pointer (some ⟨jd, 0, none⟩)), qV (.func (.func 53) #[(.pointer (some ⟨jd, 0, none⟩))] #[]), qF rest jd F7, qV (.pointer (some ⟨jd, 0, none⟩)), qV (.pointer (some ⟨jd, 0, none⟩)), qV (.pointer (some ⟨jd, 0, none⟩)), qV (.pointer (some ⟨jd, 1, none⟩)), qA rest 86 [(jd, 1)], qV (.pointer (some ⟨jd, 0, none⟩)), qV (.func (.func 52) #[(.pointer (some ⟨jd, 0, none⟩))] #[]), qV (.pointer (some ⟨jd, 0, none⟩)), qV (.func (.func 53) #[(.pointer (some ⟨jd, 0, none⟩))] #[]), qF rest jd F8, qV (.pointer (some ⟨jd, 0, none⟩)), qV (.pointer (some ⟨jd, 0, none⟩)), qV (.pointer (some ⟨jd, 0, none⟩)), qV (.pointer (some ⟨jd, 1, none⟩)), qA rest 86 [(jd, 1)], qV (.pointer (some ⟨jd, 0, none⟩)), qV (.func (.func 52) #[(.pointer (some ⟨jd, 0, none⟩))] #[]), qV (.pointer (some ⟨jd, 0, none⟩)), qV (.func (.func 53) #[(.pointer (some ⟨jd, 0, none⟩))] #[]), qF rest jd F9, qL rest jd] rest ?_ (Sub.refl _) rfl fun ρ hi ho hc => ?_
  · repeat' first | exact fun _ h => absurd h List.not_mem_nil | refine List.forall_mem_cons.2 ⟨?_, ?_⟩ | exact mono_qV _ | exact mono_qA _ _ _ | exact mono_qF _ _ _ | exact mono_qL _ _
  simp only [anysR, ndr, maps, lists, plain, Nat.reduceAdd]
  refine ⟨sF_mov fun f g _ _ => ho f 0 rfl, sF_nilc fun f g _ hd => ⟨_, (hi f 3 rfl).trans hd, rfl⟩, sF_fld fun f g _ hd => ⟨jd, 0, (hi f 4 rfl).trans hd, rfl⟩, sF_fld fun f g _ hd => ⟨jd, 0, (hi f 5 rfl).trans hd, rfl⟩, sF_ptrs fun f g _ hd => by simp only [maps, (hi f 6 rfl).trans hd]; rfl, sF_mov fun f g _ _ => ho f 0 rfl, sF_fn fun f g _ hd => by simp only [List.map_cons, List.map_nil, (hi f 8 rfl).trans hd], sF_mov fun f g _ _ => ho f 0 rfl, sF_fn fun f g _ hd => by simp only [List.map_cons, List.map_nil, (hi f 10 rfl).trans hd], ?b0, sF_mov fun f g _ _ => ho f 0 rfl, sF_nilc fun f g _ hd => ⟨_, (hi f 13 rfl).trans hd, rfl⟩, sF_fld fun f g _ hd => ⟨jd, 0, (hi f 14 rfl).trans hd, rfl⟩, sF_fld fun f g _ hd => ⟨jd, 0, (hi f 15 rfl).trans hd, rfl⟩, sF_ptrs fun f g _ hd => by simp only [maps, (hi f 16 rfl).trans hd]; rfl, sF_mov fun f g _ _ => ho f 0 rfl, sF_fn fun f g _ hd => by simp only [List.map_cons, List.map_nil, (hi f 18 rfl).trans hd], sF_mov fun f g _ _ => ho f 0 rfl, sF_fn fun f g _ hd => by simp only [List.map_cons, List.map_nil, (hi f 20 rfl).trans hd], ?b1, sF_mov fun f g _ _ => ho f 0 rfl, sF_nilc fun f g _ hd => ⟨_, (hi f 23 rfl).trans hd, rfl⟩, sF_fld fun f g _ hd => ⟨jd, 0, (hi f 24 rfl).trans hd, rfl⟩, sF_fld fun f g _ hd => ⟨jd, 0, (hi f 25 rfl).trans hd, rfl⟩, sF_ptrs fun f g _ hd => by simp only [maps, (hi f 26 rfl).trans hd]; rfl, sF_mov fun f g _ _ => ho f 0 rfl, sF_fn fun f g _ hd => by simp only [List.map_cons, List.map_nil, (hi f 28 rfl).trans hd], sF_mov fun f g _ _ => ho f 0 rfl, sF_fn fun f g _ hd => by simp only [List.map_cons, List.map_nil, (hi f 30 rfl).trans hd], ?b2, sF_mov fun f g _ _ => ho f 0 rfl, sF_nilc fun f g _ hd => ⟨_, (hi f 33 rfl).trans hd, rfl⟩, sF_fld fun f g _ hd => ⟨jd, 0, (hi f 34 rfl).trans hd, rfl⟩, sF_fld fun f g _ hd => ⟨jd, 0, (hi f 35 rfl).trans hd, rfl⟩, sF_ptrs fun f g _ hd => by simp only [maps, (hi f 36 rfl).trans hd]; rfl, sF_mov fun f g _ _ => ho f 0 rfl, sF_fn fun f g _ hd => by simp only [List.map_cons, List.map_nil, (hi f 38 rfl).trans hd], sF_mov fun f g _ _ => ho f 0 rfl, sF_fn fun f g _ hd => by simp only [List.map_cons, List.map_nil, (hi f 40 rfl).trans hd], ?b3, sF_mov fun f g _ _ => ho f 0 rfl, sF_nilc fun f g _ hd => ⟨_, (hi f 43 rfl).trans hd, rfl⟩, sF_fld fun f g _ hd => ⟨jd, 0, (hi f 44 rfl).trans hd, rfl⟩, sF_fld fun f g _ hd => ⟨jd, 0, (hi f 45 rfl).trans hd, rfl⟩, sF_ptrs fun f g _ hd => by simp only [maps, (hi f 46 rfl).trans hd]; rfl, sF_mov fun f g _ _ => ho f 0 rfl, sF_fn fun f g _ hd => by simp only [List.map_cons, List.map_nil, (hi f 48 rfl).trans hd], sF_mov fun f g _ _ => ho f 0 rfl, sF_fn fun f g _ hd => by simp only [List.map_cons, List.map_nil, (hi f 50 rfl).trans hd], ?b4, sF_mov fun f g _ _ => ho f 0 rfl, sF_nilc fun f g _ hd => ⟨_, (hi f 53 rfl).trans hd, rfl⟩, sF_fld fun f g _ hd => ⟨jd, 0, (hi f 54 rfl).trans hd, rfl⟩, sF_fld fun f g _ hd => ⟨jd, 0, (hi f 55 rfl).trans hd, rfl⟩, sF_ptrs fun f g _ hd => by simp only [maps, (hi f 56 rfl).trans hd]; rfl, sF_mov fun f g _ _ => ho f 0 rfl, sF_fn fun f g _ hd => by simp only [List.map_cons, List.map_nil, (hi f 58 rfl).trans hd], sF_mov fun f g _ _ => ho f 0 rfl, sF_fn fun f g _ hd => by simp only [List.map_cons, List.map_nil, (hi f 60 rfl).trans hd], ?b5, sF_mov fun f g _ _ => ho f 0 rfl, sF_nilc fun f g _ hd => ⟨_, (hi f 63 rfl).trans hd, rfl⟩, sF_fld fun f g _ hd => ⟨jd, 0, (hi f 64 rfl).trans hd, rfl⟩, sF_fld fun f g _ hd => ⟨jd, 0, (hi f 65 rfl).trans hd, rfl⟩, sF_mov fun f g _ _ => ho f 0 rfl, sF_nilc fun f g _ hd => ⟨_, (hi f 67 rfl).trans hd, rfl⟩, sF_fld fun f g _ hd => ⟨jd, 0, (hi f 68 rfl).trans hd, rfl⟩, sF_fld fun f g _ hd => ⟨jd, 0, (hi f 69 rfl).trans hd, rfl⟩, sF_ptrs fun f g _ hd => by simp only [maps, (hi f 66 rfl).trans hd.1, (hi f 70 rfl).trans hd.2]; rfl, sF_mov fun f g _ _ => ho f 0 rfl, sF_fn fun f g _ hd => by simp only [List.map_cons, List.map_nil, (hi f 72 rfl).trans hd], sF_mov fun f g _ _ => ho f 0 rfl, sF_fn fun f g _ hd => by simp only [List.map_cons, List.map_nil, (hi f 74 rfl).trans hd], ?b6, sF_mov fun f g _ _ => ho f 0 rfl, sF_nilc fun f g _ hd => ⟨_, (hi f 77 rfl).trans hd, rfl⟩, sF_fld fun f g _ hd => ⟨jd, 0, (hi f 78 rfl).trans hd, rfl⟩, sF_fld fun f g _ hd => ⟨jd, 0, (hi f 79 rfl).trans hd, rfl⟩, sF_ptrs fun f g _ hd => by simp only [maps, (hi f 80 rfl).trans hd]; rfl, sF_mov fun f g _ _ => ho f 0 rfl, sF_fn fun f g _ hd => by simp only [List.map_cons, List.map_nil, (hi f 82 rfl).trans hd], sF_mov fun f g _ _ => ho f 0 rfl, sF_fn fun f g _ hd => by simp only [List.map_cons, List.map_nil, (hi f 84 rfl).trans hd], ?b7, sF_mov fun f g _ _ => ho f 0 rfl, sF_nilc fun f g _ hd => ⟨_, (hi f 87 rfl).trans hd, rfl⟩, sF_fld fun f g _ hd => ⟨jd, 0, (hi f 88 rfl).trans hd, rfl⟩, sF_fld fun f g _ hd => ⟨jd, 0, (hi f 89 rfl).trans hd, rfl⟩, sF_ptrs fun f g _ hd => by simp only [maps, (hi f 90 rfl).trans hd]; rfl, sF_mov fun f g _ _ => ho f 0 rfl, sF_fn fun f g _ hd => by simp only [List.map_cons, List.map_nil, (hi f 92 rfl).trans hd], sF_mov fun f g _ _ => ho f 0 rfl, sF_fn fun f g _ hd => by simp only [List.map_cons, List.map_nil, (hi f 94 rfl).trans hd], ?b8, sF_mov fun f g _ _ => ho f 0 rfl, sF_nilc fun f g _ hd => ⟨_, (hi f 97 rfl).trans hd, rfl⟩, sF_fld fun f g _ hd => ⟨jd, 0, (hi f 98 rfl).trans hd, rfl⟩, sF_fld fun f g _ hd => ⟨jd, 0, (hi f 99 rfl).trans hd, rfl⟩, sF_ptrs fun f g _ hd => by simp only [maps, (hi f 100 rfl).trans hd]; rfl, sF_mov fun f g _ _ => ho f 0 rfl, sF_fn fun f g _ hd => by simp only [List.map_cons, List.map_nil, (hi f 102 rfl).trans hd], sF_mov fun f g _ _ => ho f 0 rfl, sF_fn fun f g _ hd => by simp only [List.map_cons, List.map_nil, (hi f 104 rfl).trans hd], ?b9, ?all, ?last⟩
  case b0 =>
    refine sF_build fun f g _ hd => ?_
    obtain ⟨⟨j, e, h1, h2⟩, e2, e3⟩ := hd
    exact ⟨_, by simp only [maps, hc, (hi f 7 rfl).trans e, (hi f 9 rfl).trans e2, (hi f 11 rfl).trans e3]; rfl, j, rfl, h1, h2⟩
  case b1 =>
    refine sF_build fun f g _ hd => ?_
    obtain ⟨⟨j, e, h1, h2⟩, e2, e3⟩ := hd
    exact ⟨_, by simp only [maps, hc, (hi f 17 rfl).trans e, (hi f 19 rfl).trans e2, (hi f 21 rfl).trans e3]; rfl, j, rfl, h1, h2⟩
  case b2 =>
    refine sF_build fun f g _ hd => ?_
    obtain ⟨⟨j, e, h1, h2⟩, e2, e3⟩ := hd
    exact ⟨_, by simp only [maps, hc, (hi f 27 rfl).trans e, (hi f 29 rfl).trans e2, (hi f 31 rfl).trans e3]; rfl, j, rfl, h1, h2⟩
  case b3 =>
    refine sF_build fun f g _ hd => ?_
    obtain ⟨⟨j, e, h1, h2⟩, e2, e3⟩ := hd
    exact ⟨_, by simp only [maps, hc, (hi f 37 rfl).trans e, (hi f 39 rfl).trans e2, (hi f 41 rfl).trans e3]; rfl, j, rfl, h1, h2⟩
  case b4 =>
    refine sF_build fun f g _ hd => ?_
    obtain ⟨⟨j, e, h1, h2⟩, e2, e3⟩ := hd
    exact ⟨_, by simp only [maps, hc, (hi f 47 rfl).trans e, (hi f 49 rfl).trans e2, (hi f 51 rfl).trans e3]; rfl, j, rfl, h1, h2⟩
  case b5 =>
    refine sF_build fun f g _ hd => ?_
    obtain ⟨⟨j, e, h1, h2⟩, e2, e3⟩ := hd
    exact ⟨_, by simp only [maps, hc, (hi f 57 rfl).trans e, (hi f 59 rfl).trans e2, (hi f 61 rfl).trans e3]; rfl, j, rfl, h1, h2⟩
  case b6 =>
    refine sF_build fun f g _ hd => ?_
    obtain ⟨⟨j, e, h1, h2⟩, e2, e3⟩ := hd
    exact ⟨_, by simp only [maps, hc, (hi f 71 rfl).trans e, (hi f 73 rfl).trans e2, (hi f 75 rfl).trans e3]; rfl, j, rfl, h1, h2⟩
  case b7 =>
    refine sF_build fun f g _ hd => ?_
    obtain ⟨⟨j, e, h1, h2⟩, e2, e3⟩ := hd
    exact ⟨_, by simp only [maps, hc, (hi f 81 rfl).trans e, (hi f 83 rfl).trans e2, (hi f 85 rfl).trans e3]; rfl, j, rfl, h1, h2⟩
  case b8 =>
    refine sF_build fun f g _ hd => ?_
    obtain ⟨⟨j, e, h1, h2⟩, e2, e3⟩ := hd
    exact ⟨_, by simp only [maps, hc, (hi f 91 rfl).trans e, (hi f 93 rfl).trans e2, (hi f 95 rfl).trans e3]; rfl, j, rfl, h1, h2⟩
  case b9 =>
    refine sF_build fun f g _ hd => ?_
    obtain ⟨⟨j, e, h1, h2⟩, e2, e3⟩ := hd
    exact ⟨_, by simp only [maps, hc, (hi f 101 rfl).trans e, (hi f 103 rfl).trans e2, (hi f 105 rfl).trans e3]; rfl, j, rfl, h1, h2⟩
  case all =>
    refine sF_all fun f g _ hd => ?_
    obtain ⟨⟨i0, e0, a0, b0⟩, ⟨i1, e1, a1, b1⟩, ⟨i2, e2, a2, b2⟩, ⟨i3, e3, a3, b3⟩, ⟨i4, e4, a4, b4⟩, ⟨i5, e5, a5, b5⟩, ⟨i6, e6, a6, b6⟩, ⟨i7, e7, a7, b7⟩, ⟨i8, e8, a8, b8⟩, ⟨i9, e9, a9, b9⟩⟩ := hd
    refine ⟨[(F0, .slice (some ⟨i0, 0, none⟩) 1 1), (F1, .slice (some ⟨i1, 0, none⟩) 1 1), (F2, .slice (some ⟨i2, 0, none⟩) 1 1), (F3, .slice (some ⟨i3, 0, none⟩) 1 1), (F4, .slice (some ⟨i4, 0, none⟩) 1 1), (F5, .slice (some ⟨i5, 0, none⟩) 1 1), (F6, .slice (some ⟨i6, 0, none⟩) 2 2), (F7, .slice (some ⟨i7, 0, none⟩) 1 1), (F8, .slice (some ⟨i8, 0, none⟩) 1 1), (F9, .slice (some ⟨i9, 0, none⟩) 1 1)], ?_, rfl, ?_⟩
    · simp only [maps, (hi f 12 rfl).trans e0, (hi f 22 rfl).trans e1, (hi f 32 rfl).trans e2, (hi f 42 rfl).trans e3, (hi f 52 rfl).trans e4, (hi f 62 rfl).trans e5, (hi f 76 rfl).trans e6, (hi f 86 rfl).trans e7, (hi f 96 rfl).trans e8, (hi f 106 rfl).trans e9]; rfl
    · intro p hp
      simp only [List.mem_cons, List.not_mem_nil, or_false] at hp
      rcases hp with rfl | rfl | rfl | rfl | rfl | rfl | rfl | rfl | rfl | rfl
      · exact ⟨i0, rfl, a0, b0⟩
      · exact ⟨i1, rfl, a1, b1⟩
      · exact ⟨i2, rfl, a2, b2⟩
      · exact ⟨i3, rfl, a3, b3⟩
      · exact ⟨i4, rfl, a4, b4⟩
      · exact ⟨i5, rfl, a5, b5⟩
      · exact ⟨i6, rfl, a6, b6⟩
      · exact ⟨i7, rfl, a7, b7⟩
      · exact ⟨i8, rfl, a8, b8⟩
      · exact ⟨i9, rfl, a9, b9⟩
  intro m2 f2 h2 g2 hm hs2 hd
  obtain ⟨-, -, -, -, -, -, -, -, -, -, -, -, -, -, -, -, -, -, -, -, -, -, -, -, -, -, -, -, -, -, -, -, -, -, -, -, -, -, -, -, -, -, -, -, -, -, -, -, -, -, -, -, -, -, -, -, -, -, -, -, -, -, -, -, -, -, -, -, -, -, -, -, -, -, -, -, -, -, -, -, -, -, -, -, -, -, -, -, -, -, -, -, -, -, -, -, -, -, -, -, -, -, -, -, j, L, e, hj, hr, hL1, hL2⟩ := hd
  obtain ⟨G, hG⟩ : ∃ G : H, G = (j, blk (fl (eForm jd) L) 85) :: L.map (boxP jd) := ⟨_, rfl⟩
  have inG : ∀ q ∈ G, hget g2 q.1 = some q.2 ∧ hget rest q.1 = none := fun q hq => by
    rw [hG] at hq
    rcases List.mem_cons.1 hq with rfl | hq
    · exact ⟨hj, hr⟩
    · obtain ⟨p, hp, rfl⟩ := List.mem_map.1 hq
      obtain ⟨i, x, y, z⟩ := hL2 p hp
      have : boxP jd p = (i, blk (fl ePtr (p.1.offs.map fun o => (jd, o))) 86) := by unfold boxP; rw [x]
      rw [this]
      exact ⟨y, z⟩
  have hGg : ∀ p ∈ G, hget g2 p.1 = some p.2 := fun p hp => (inG p hp).1
  have dj : Dj G rest := Dj_list fun p hp => (inG p hp).2
  refine ⟨G ++ rest, (Sub_list hGg hs2).trans hm, ?_⟩
  simp only [walk, lists, acts, mem, plain, seqs, maps, cells, resL, resV, intBin, ↓reduceIte, Nat.reduceAdd, Nat.reduceSub, Nat.reduceMul, Nat.reduceLeDiff, Nat.reduceEqDiff, Int.reduceToNat, Int.reduceEq, Int.reduceLT, Int.reduceLE, Int.reduceNeg, Int.reduceAdd, Int.reduceSub, Int.reduceMul, Nat.reducePow, Int.reduceNegSucc, wr, (hi f2 107 rfl).trans e]
  refine .of (k _ G L hL1 ?_ (fun p hp => ?_) dj)
  · have l10 : L.length = 10 := by have := congrArg List.length hL1; simpa [forms] using this
    have := rL_lit (e := 85) (j := j) (h := L.map (boxP jd)) (eForm_len jd) L
    rw [l10] at this
    rw [hG]; exact this
  · obtain ⟨i, x, y, z⟩ := hL2 p hp
    have hb : boxP jd p = (i, blk (fl ePtr (p.1.offs.map fun o => (jd, o))) 86) := by unfold boxP; rw [x]
    have hm : boxP jd p ∈ G := by rw [hG]; exact List.mem_cons_of_mem _ (List.mem_map.2 ⟨p, hp, rfl⟩)
    have hg := hget_list hGg _ hm
    rw [hb] at hg
    have := rL_lit (e := 86) (j := i) (h := []) ePtr_len (p.1.offs.map fun o => (jd, o))
    rw [List.length_map] at this
    rw [x]
    exact this.sub (Sub.cons_of hg (Sub.nil _))
end Go.Proofs.YtdlgaidjlepepaaDoor
end

/- How the program writes what happens. -/
section
set_option linter.unusedVariables false
set_option linter.unusedSimpArgs false
set_option maxRecDepth 20000
attribute [local irreducible] Go.Tk.vc Go.Tk.vops Go.Tk.vdr Go.Tk.vop Go.Tk.vfl Go.Tk.HCalls
namespace Go.Tk
open Go
theorem find_at {α : Type} {p : α → Bool} : ∀ {l : List α} {i : Nat} (hi : i < l.length), (∀ x ∈ l.take i, p x = false) → p l[i] = true → l.find? p = some l[i] := by
  intro l
  induction l with
  | nil => intro i hi; cases hi
  | cons a l ih =>
    intro i hi h hp
    cases i with
    | zero => exact List.find?_cons_of_pos hp
    | succ i =>
      have ha : ¬ p a = true := by rw [h a (by simp)]; decide
      rw [List.find?_cons_of_neg ha]
      exact ih (i := i) (by simpa using hi) (fun x hx => h x (by rw [List.take_succ_cons]; exact List.mem_cons_of_mem _ hx)) hp
theorem event_cell (e : DTollEvent) {o : Nat} (h : o ≤ 4) : (cTollEvent e)[o]? = some (.int .i64 (getN e o)) := by
  have : o = 0 ∨ o = 1 ∨ o = 2 ∨ o = 3 ∨ o = 4 := by omega
  rcases this with rfl | rfl | rfl | rfl | rfl <;> rfl
theorem forms_offs : ∀ f ∈ forms, f.offs.length ≤ 2 ∧ f.name.length ≤ 7 ∧ (∀ o ∈ f.offs, o ≤ 4 ∧ 1 ≤ o) := by decide
theorem numsT_app (l m : List Int) : numsT (l ++ m) = numsT l ++ numsT m := by simp [numsT]
theorem numsT_one (n : Int) : numsT [n] = 32 :: decI n := by simp [numsT]
theorem callT_len {e : DTollEvent} (h : evR e) : (callT e.call).length ≤ e.call.text.length + 60 := by
  have l1 := decI_len' h.2.2.2.2.1
  have l2 := decI_len' h.2.2.2.2.2
  unfold callT
  split
  · simp
  · split
    · simp only [List.length_append, List.length_cons, List.length_nil]; omega
    · simp
theorem getN_in {e : DTollEvent} (h : evR e) {o : Nat} (h1 : o ≤ 4) (h2 : 1 ≤ o) : i64P (getN e o) := by
  obtain ⟨r1, r2, r3, r4, _, _⟩ := h
  have : o = 1 ∨ o = 2 ∨ o = 3 ∨ o = 4 := by omega
  rcases this with rfl | rfl | rfl | rfl
  · exact r1
  · exact r2
  · exact r3
  · exact r4
end Go.Tk
namespace Go.Proofs.YtdlgaidjlepepaaDoor
open Go Go.Tk

theorem wForm : (∀ jd p, (eForm jd p).length = 6) ∧ (∀ jd p, (eForm jd p)[0]? = some (.string ⟨p.1.name.toArray⟩)) ∧ (∀ jd p, (eForm jd p)[1]? = some (.int .i64 p.1.kind)) ∧ (∀ jd p, (eForm jd p)[2]? = some (.int .i64 p.1.keep)) ∧ (∀ jd p, (eForm jd p)[3]? = some p.2) ∧
    (∀ jd p, (eForm jd p)[4]? = some (.func (.func (rdFn p.1)) #[.pointer (some ⟨jd, 0, none⟩)] #[])) ∧ (∀ jd p, (eForm jd p)[5]? = some (.func (.func (wrFn p.1)) #[.pointer (some ⟨jd, 0, none⟩)] #[])) ∧
    (∀ jd p, splice [.string ⟨#[]⟩, .int .i64 0, .int .i64 0, .slice none 0 0, .nilFunc, .nilFunc] 0 (eForm jd p) = eForm jd p) ∧ (∀ jd p, ((eForm jd p).drop 0).take 6 = eForm jd p) ∧ (∀ jd p, (eForm jd p).take 6 = eForm jd p) ∧ (∀ jd p, (eForm jd p).all vone = vone p.2) :=
  ⟨fun _ _ => rfl, fun _ _ => rfl, fun _ _ => rfl, fun _ _ => rfl, fun _ _ => rfl, fun _ _ => rfl, fun _ _ => rfl, fun _ _ => rfl, fun _ _ => rfl, fun _ _ => rfl, fun _ p => by simp only [eForm, cells, List.all_cons, List.all_nil, Bool.true_and, Bool.and_true]⟩

theorem text_c {h : H} {jd : Nat} {e : DTollEvent} (gl : Gl h) (hd : hget h jd = some (blk (cTollEvent e) 74)) (hR : evR e) (ht : e.call.text.length ≤ 4194304) {R : Ending → H → Prop} (k : R (.returned (.string ⟨(itext e).toArray⟩)) h) :
    HCalls Tryd.prog 36 #[.pointer (some ⟨jd, 0, none⟩)] h R := by
  refine HCalls_ir (args := [.pointer (some ⟨jd, 0, none⟩)]) Tryd.func36 ir36 ?_
  simp only [walk, lists, acts, mem, plain, seqs, maps, cells, resL, resV, intBin, ↓reduceIte, Nat.reduceAdd, Nat.reduceSub, Nat.reduceMul, Nat.reduceLeDiff, Nat.reduceEqDiff, Int.reduceToNat, Int.reduceEq, Int.reduceLT, Int.reduceLE, Int.reduceNeg, Int.reduceAdd, Int.reduceSub, Int.reduceMul, Nat.reducePow, Int.reduceNegSucc, str]
  refine forms_c fun V g L hL rL rN dj => ?_
  have hl10 : L.length = 10 := by have := congrArg List.length hL; simpa [forms] using this
  have dg : hget g jd = none := dj.of (by rw [hd]; simp)
  have sh := Sub.right dj
  have one := rL.one
  have len : ∀ {f : Value → Prop}, lenSK V f = f (.int .i64 10) := fun {f} => by have := rL.len (f := f); rw [hl10] at this; exact this
  simp only [walk, lists, acts, mem, plain, seqs, maps, cells, resL, resV, intBin, ↓reduceIte, Nat.reduceAdd, Nat.reduceSub, Nat.reduceMul, Nat.reduceLeDiff, Nat.reduceEqDiff, Int.reduceToNat, Int.reduceEq, Int.reduceLT, Int.reduceLE, Int.reduceNeg, Int.reduceAdd, Int.reduceSub, Int.reduceMul, Nat.reducePow, Int.reduceNegSucc, str, len]
  refine vc_loop [11] (fun n vs h' => ∃ (i : Nat), vs = [.int .i64 i] ∧ h' = g ++ h ∧ (∀ f ∈ forms.take i, hitF f e = false) ∧ i ≤ 10 ∧ n = 10 - i) 10 rfl
    ⟨0, rfl, rfl, by simp, by omega, rfl⟩ ?_
  rintro n f h' ⟨i, hv, rfl, hn, hi, rfl⟩
  simp only [List.map_cons, List.map_nil, List.cons.injEq, and_true] at hv
  simp only [walk, lists, acts, mem, plain, seqs, maps, cells, resL, resV, intBin, ↓reduceIte, Nat.reduceAdd, Nat.reduceSub, Nat.reduceMul, Nat.reduceLeDiff, Nat.reduceEqDiff, Int.reduceToNat, Int.reduceEq, Int.reduceLT, Int.reduceLE, Int.reduceNeg, Int.reduceAdd, Int.reduceSub, Int.reduceMul, Nat.reducePow, Int.reduceNegSucc, wr, hv]
  refine ite_lt (fun c3 => ?_) fun c3 => ?_
  · have hi2 : i < L.length := by omega
    have hi3 : i < forms.length := by simp [forms]; omega
    have hp : L[i].1 = forms[i] := by
      have h1 : (L.map Prod.fst)[i]? = forms[i]? := by rw [hL]
      rw [List.getElem?_map, List.getElem?_eq_getElem hi2, List.getElem?_eq_getElem hi3] at h1
      exact Option.some.inj h1
    have hmem : forms[i] ∈ forms := List.getElem_mem hi3
    refine idx_leaf (i := i) (eForm_len jd) (rL.sub (Sub.left g h)) rfl hi2 fun b1 o1 e1 => ?_
    have rp := rN L[i] (List.getElem_mem hi2)
    obtain ⟨p, hpe⟩ : ∃ p, p = L[i] := ⟨_, rfl⟩
    rw [← hpe] at e1 hp rp
    have pone := rp.one
    simp only [walk, lists, acts, mem, plain, seqs, maps, cells, resL, resV, intBin, ↓reduceIte, Nat.reduceAdd, Nat.reduceSub, Nat.reduceMul, Nat.reduceLeDiff, Nat.reduceEqDiff, Int.reduceToNat, Int.reduceEq, Int.reduceLT, Int.reduceLE, Int.reduceNeg, Int.reduceAdd, Int.reduceSub, Int.reduceMul, Nat.reducePow, Int.reduceNegSucc, e1, wForm, str]
    refine newB_intro fun j4 hj4 => ?_
    have n4 := hj4
    simp only [subs] at n4
    simp only [walk, lists, acts, mem, plain, seqs, maps, cells, resL, resV, intBin, ↓reduceIte, Nat.reduceAdd, Nat.reduceSub, Nat.reduceMul, Nat.reduceLeDiff, Nat.reduceEqDiff, Int.reduceToNat, Int.reduceEq, Int.reduceLT, Int.reduceLE, Int.reduceNeg, Int.reduceAdd, Int.reduceSub, Int.reduceMul, Nat.reducePow, Int.reduceNegSucc, wForm, pone]
    obtain ⟨M, hM⟩ : ∃ M, M = (j4, blk (eForm jd p) 85) :: (g ++ h) := ⟨_, rfl⟩
    have sM : Tk.Sub h M := by rw [hM]; exact sh.trans (Sub.cons hj4 (Sub.refl _))
    have sG : Tk.Sub (g ++ h) M := by rw [hM]; exact Sub.cons hj4 (Sub.refl _)
    have hdM := sM _ _ hd
    have cN : ∀ o, o ≤ 4 → hcel M jd o = some (.int .i64 (getN e o)) := fun o ho => by
      unfold hcel
      rw [hdM]
      simp only [Option.bind_some, blk, List.getElem?_toArray]
      exact event_cell e ho
    have cK : hcel M jd 0 = some (.int .i64 e.kind) := cN 0 (by omega)
    have cQ : hcel M jd 4 = some (.int .i64 e.keep) := cN 4 (by omega)
    have hj : hget M j4 = some (blk (eForm jd p) 85) := by rw [hM, hget_same]
    have f0 : hcel M j4 0 = some (.string ⟨p.1.name.toArray⟩) := by unfold hcel; rw [hj]; rfl
    have f1 : hcel M j4 1 = some (.int .i64 p.1.kind) := by unfold hcel; rw [hj]; rfl
    have f2 : hcel M j4 2 = some (.int .i64 p.1.keep) := by unfold hcel; rw [hj]; rfl
    have f3 : hcel M j4 3 = some p.2 := by unfold hcel; rw [hj]; rfl
    have f5 : hcel M j4 5 = some (.func (.func (wrFn p.1)) #[.pointer (some ⟨jd, 0, none⟩)] #[]) := by unfold hcel; rw [hj]; rfl
    rw [← hM]
    have skipIt : hitF p.1 e = false → ∃ m, m < 10 - i ∧ ∃ g', Tk.Sub g' M ∧ ∃ i' : Nat, [Value.int IntKind.i64 (IntKind.i64.wrap ((i : Int) + 1))] = [Value.int IntKind.i64 i'] ∧ g' = g ++ h ∧ (∀ f ∈ forms.take i', hitF f e = false) ∧ i' ≤ 10 ∧ m = 10 - i' := fun hf => by
      simp (disch := omega) only [wrapI]
      refine ⟨10 - (i + 1), by omega, g ++ h, sG, i + 1, by simp, rfl, fun f' hf' => ?_, by omega, rfl⟩
      rw [List.take_succ_eq_append_getElem hi3] at hf'
      rcases List.mem_append.1 hf' with hf' | hf'
      · exact hn f' hf'
      · rw [List.mem_singleton] at hf'
        rw [hf', ← hp]; exact hf
    refine vc_draw _ (Sub.refl _) ?_
    simp only [walk, lists, acts, mem, plain, seqs, maps, cells, resL, resV, intBin, ↓reduceIte, Nat.reduceAdd, Nat.reduceSub, Nat.reduceMul, Nat.reduceLeDiff, Nat.reduceEqDiff, Int.reduceToNat, Int.reduceEq, Int.reduceLT, Int.reduceLE, Int.reduceNeg, Int.reduceAdd, Int.reduceSub, Int.reduceMul, Nat.reducePow, Int.reduceNegSucc, f1, f2, cK, cQ]
    refine ite_ne (fun c1 => skipIt (by unfold hitF; rw [decide_eq_false c1]; rfl)) fun c1 => ?_
    refine ite_pos (fun c2 => ?_) fun c2 => ?_
    · refine ite_ne (fun c4 => skipIt (by unfold hitF; rw [decide_eq_false c4, decide_eq_true c2]; simp)) fun c4 => ?_
      have hit : hitF p.1 e = true := by unfold hitF; rw [decide_eq_true c1, decide_eq_true c4]; simp
      have rpM : rLs M ePtr 1 p.2 (p.1.offs.map fun o => (jd, o)) := (rp.sub (Sub.left g h)).sub sG
      have plen : ∀ {f : Value → Prop}, lenSK p.2 f = f (.int .i64 p.1.offs.length) := fun {f} => by have := rpM.len (f := f); rw [List.length_map] at this; exact this
      obtain ⟨ho1, ho2, ho3⟩ := forms_offs _ hmem
      rw [← hp] at ho1 ho2 ho3
      simp only [walk, lists, acts, mem, plain, seqs, maps, cells, resL, resV, intBin, ↓reduceIte, Nat.reduceAdd, Nat.reduceSub, Nat.reduceMul, Nat.reduceLeDiff, Nat.reduceEqDiff, Int.reduceToNat, Int.reduceEq, Int.reduceLT, Int.reduceLE, Int.reduceNeg, Int.reduceAdd, Int.reduceSub, Int.reduceMul, Nat.reducePow, Int.reduceNegSucc, f0, f3, plen]
      refine vc_loop [43, 5] (fun n vs h' => ∃ (q : Nat), vs = [.int .i64 q, .string ⟨(p.1.name ++ numsT ((p.1.offs.take q).map (getN e))).toArray⟩] ∧ h' = M ∧ (numsT ((p.1.offs.take q).map (getN e))).length ≤ 22 * q ∧ q ≤ p.1.offs.length ∧ n = p.1.offs.length - q) p.1.offs.length rfl
        ⟨0, by simp [numsT], rfl, by simp [numsT], by omega, rfl⟩ ?_
      rintro n f' h' ⟨q, hv', rfl, hql, hq, rfl⟩
      simp only [List.map_cons, List.map_nil, List.cons.injEq, and_true] at hv'
      simp only [walk, lists, acts, mem, plain, seqs, maps, cells, resL, resV, intBin, ↓reduceIte, Nat.reduceAdd, Nat.reduceSub, Nat.reduceMul, Nat.reduceLeDiff, Nat.reduceEqDiff, Int.reduceToNat, Int.reduceEq, Int.reduceLT, Int.reduceLE, Int.reduceNeg, Int.reduceAdd, Int.reduceSub, Int.reduceMul, Nat.reducePow, Int.reduceNegSucc, wr, hv'.1, hv'.2]
      refine ite_lt (fun c5 => ?_) fun c5 => ?_
      · have hq2 : q < p.1.offs.length := by omega
        refine idx_leaf (i := q) ePtr_len rpM rfl (by rw [List.length_map]; omega) fun b2 o2 e2 => ?_
        have hox := ho3 _ (List.getElem_mem hq2)
        have e2' : hread h' b2 o2 1 = some [.pointer (some ⟨jd, p.1.offs[q], none⟩)] := by rw [e2, List.getElem_map]; rfl
        have inR := getN_in hR hox.1 hox.2
        have lR := decI_len' inR
        simp only [walk, lists, acts, mem, plain, seqs, maps, cells, resL, resV, intBin, ↓reduceIte, Nat.reduceAdd, Nat.reduceSub, Nat.reduceMul, Nat.reduceLeDiff, Nat.reduceEqDiff, Int.reduceToNat, Int.reduceEq, Int.reduceLT, Int.reduceLE, Int.reduceNeg, Int.reduceAdd, Int.reduceSub, Int.reduceMul, Nat.reducePow, Int.reduceNegSucc, hread_1 e2', cN _ hox.1]
        refine itoa_c (gl.sub sM) inR ?_
        simp (disch := (first | assumption | (simp only [List.length_append, List.length_cons, List.length_nil]; omega) | omega)) only [walk, lists, acts, mem, plain, seqs, maps, cells, resL, resV, intBin, ↓reduceIte, Nat.reduceAdd, Nat.reduceSub, Nat.reduceMul, Nat.reduceLeDiff, Nat.reduceEqDiff, Int.reduceToNat, Int.reduceEq, Int.reduceLT, Int.reduceLE, Int.reduceNeg, Int.reduceAdd, Int.reduceSub, Int.reduceMul, Nat.reducePow, Int.reduceNegSucc, str, str_add]
        have en : numsT ((p.1.offs.take (q + 1)).map (getN e)) = numsT ((p.1.offs.take q).map (getN e)) ++ (32 :: decI (getN e p.1.offs[q])) := by
          rw [List.take_succ_eq_append_getElem hq2, List.map_append, numsT_app]; simp [numsT]
        have el := congrArg List.length en
        simp only [List.length_append, List.length_cons] at el
        simp (disch := omega) only [wrapI]
        exact ⟨p.1.offs.length - (q + 1), by omega, h', .refl _, q + 1, by rw [en, List.append_assoc]; simp, rfl, by omega, by omega, rfl⟩
      · have hq2 : q = p.1.offs.length := by omega
        subst hq2
        rw [List.take_length] at hql
        have it : itext e = textF p.1 e := by
          unfold itext
          rw [find_at (p := (hitF · e)) hi3 hn (by rw [← hp]; exact hit), ← hp]
        have lC := callT_len hR
        simp only [walk, lists, acts, mem, plain, seqs, maps, cells, resL, resV, intBin, ↓reduceIte, Nat.reduceAdd, Nat.reduceSub, Nat.reduceMul, Nat.reduceLeDiff, Nat.reduceEqDiff, Int.reduceToNat, Int.reduceEq, Int.reduceLT, Int.reduceLE, Int.reduceNeg, Int.reduceAdd, Int.reduceSub, Int.reduceMul, Nat.reducePow, Int.reduceNegSucc, f5, List.take_length]
        by_cases hk : p.1.kind = 1
        · have wf : wrFn p.1 = 51 := by unfold wrFn; rw [if_pos hk]
          rw [wf]
          refine ⟨by kernel_rfl, callText_c (gl.sub sM) hdM hR.2.2.2.2.1 hR.2.2.2.2.2 ht ?_⟩
          simp (disch := (first | assumption | (simp only [List.length_append, List.length_cons, List.length_nil]; omega) | omega)) only [walk, lists, acts, mem, plain, seqs, maps, cells, resL, resV, intBin, ↓reduceIte, Nat.reduceAdd, Nat.reduceSub, Nat.reduceMul, Nat.reduceLeDiff, Nat.reduceEqDiff, Int.reduceToNat, Int.reduceEq, Int.reduceLT, Int.reduceLE, Int.reduceNeg, Int.reduceAdd, Int.reduceSub, Int.reduceMul, Nat.reducePow, Int.reduceNegSucc, str, str_add]
          refine ⟨h, sM, ?_⟩
          rw [it] at k
          unfold textF at k
          rw [if_pos hk] at k
          exact k
        · have wf : wrFn p.1 = 53 := by unfold wrFn; rw [if_neg hk]
          rw [wf]
          refine ⟨by kernel_rfl, noText_c ?_⟩
          simp (disch := (first | assumption | (simp only [List.length_append, List.length_cons, List.length_nil]; omega) | omega)) only [walk, lists, acts, mem, plain, seqs, maps, cells, resL, resV, intBin, ↓reduceIte, Nat.reduceAdd, Nat.reduceSub, Nat.reduceMul, Nat.reduceLeDiff, Nat.reduceEqDiff, Int.reduceToNat, Int.reduceEq, Int.reduceLT, Int.reduceLE, Int.reduceNeg, Int.reduceAdd, Int.reduceSub, Int.reduceMul, Nat.reducePow, Int.reduceNegSucc, str, str_add]
          refine ⟨h, sM, ?_⟩
          rw [it] at k
          unfold textF at k
          rw [if_neg hk, List.append_nil] at k
          exact k
    · have hit : hitF p.1 e = true := by unfold hitF; rw [decide_eq_true c1, decide_eq_false c2]; simp
      have rpM : rLs M ePtr 1 p.2 (p.1.offs.map fun o => (jd, o)) := (rp.sub (Sub.left g h)).sub sG
      have plen : ∀ {f : Value → Prop}, lenSK p.2 f = f (.int .i64 p.1.offs.length) := fun {f} => by have := rpM.len (f := f); rw [List.length_map] at this; exact this
      obtain ⟨ho1, ho2, ho3⟩ := forms_offs _ hmem
      rw [← hp] at ho1 ho2 ho3
      simp only [walk, lists, acts, mem, plain, seqs, maps, cells, resL, resV, intBin, ↓reduceIte, Nat.reduceAdd, Nat.reduceSub, Nat.reduceMul, Nat.reduceLeDiff, Nat.reduceEqDiff, Int.reduceToNat, Int.reduceEq, Int.reduceLT, Int.reduceLE, Int.reduceNeg, Int.reduceAdd, Int.reduceSub, Int.reduceMul, Nat.reducePow, Int.reduceNegSucc, f0, f3, plen]
      refine vc_loop [43, 5] (fun n vs h' => ∃ (q : Nat), vs = [.int .i64 q, .string ⟨(p.1.name ++ numsT ((p.1.offs.take q).map (getN e))).toArray⟩] ∧ h' = M ∧ (numsT ((p.1.offs.take q).map (getN e))).length ≤ 22 * q ∧ q ≤ p.1.offs.length ∧ n = p.1.offs.length - q) p.1.offs.length rfl
        ⟨0, by simp [numsT], rfl, by simp [numsT], by omega, rfl⟩ ?_
      rintro n f' h' ⟨q, hv', rfl, hql, hq, rfl⟩
      simp only [List.map_cons, List.map_nil, List.cons.injEq, and_true] at hv'
      simp only [walk, lists, acts, mem, plain, seqs, maps, cells, resL, resV, intBin, ↓reduceIte, Nat.reduceAdd, Nat.reduceSub, Nat.reduceMul, Nat.reduceLeDiff, Nat.reduceEqDiff, Int.reduceToNat, Int.reduceEq, Int.reduceLT, Int.reduceLE, Int.reduceNeg, Int.reduceAdd, Int.reduceSub, Int.reduceMul, Nat.reducePow, Int.reduceNegSucc, wr, hv'.1, hv'.2]
      refine ite_lt (fun c5 => ?_) fun c5 => ?_
      · have hq2 : q < p.1.offs.length := by omega
        refine idx_leaf (i := q) ePtr_len rpM rfl (by rw [List.length_map]; omega) fun b2 o2 e2 => ?_
        have hox := ho3 _ (List.getElem_mem hq2)
        have e2' : hread h' b2 o2 1 = some [.pointer (some ⟨jd, p.1.offs[q], none⟩)] := by rw [e2, List.getElem_map]; rfl
        have inR := getN_in hR hox.1 hox.2
        have lR := decI_len' inR
        simp only [walk, lists, acts, mem, plain, seqs, maps, cells, resL, resV, intBin, ↓reduceIte, Nat.reduceAdd, Nat.reduceSub, Nat.reduceMul, Nat.reduceLeDiff, Nat.reduceEqDiff, Int.reduceToNat, Int.reduceEq, Int.reduceLT, Int.reduceLE, Int.reduceNeg, Int.reduceAdd, Int.reduceSub, Int.reduceMul, Nat.reducePow, Int.reduceNegSucc, hread_1 e2', cN _ hox.1]
        refine itoa_c (gl.sub sM) inR ?_
        simp (disch := (first | assumption | (simp only [List.length_append, List.length_cons, List.length_nil]; omega) | omega)) only [walk, lists, acts, mem, plain, seqs, maps, cells, resL, resV, intBin, ↓reduceIte, Nat.reduceAdd, Nat.reduceSub, Nat.reduceMul, Nat.reduceLeDiff, Nat.reduceEqDiff, Int.reduceToNat, Int.reduceEq, Int.reduceLT, Int.reduceLE, Int.reduceNeg, Int.reduceAdd, Int.reduceSub, Int.reduceMul, Nat.reducePow, Int.reduceNegSucc, str, str_add]
        have en : numsT ((p.1.offs.take (q + 1)).map (getN e)) = numsT ((p.1.offs.take q).map (getN e)) ++ (32 :: decI (getN e p.1.offs[q])) := by
          rw [List.take_succ_eq_append_getElem hq2, List.map_append, numsT_app]; simp [numsT]
        have el := congrArg List.length en
        simp only [List.length_append, List.length_cons] at el
        simp (disch := omega) only [wrapI]
        exact ⟨p.1.offs.length - (q + 1), by omega, h', .refl _, q + 1, by rw [en, List.append_assoc]; simp, rfl, by omega, by omega, rfl⟩
      · have hq2 : q = p.1.offs.length := by omega
        subst hq2
        rw [List.take_length] at hql
        have it : itext e = textF p.1 e := by
          unfold itext
          rw [find_at (p := (hitF · e)) hi3 hn (by rw [← hp]; exact hit), ← hp]
        have lC := callT_len hR
        simp only [walk, lists, acts, mem, plain, seqs, maps, cells, resL, resV, intBin, ↓reduceIte, Nat.reduceAdd, Nat.reduceSub, Nat.reduceMul, Nat.reduceLeDiff, Nat.reduceEqDiff, Int.reduceToNat, Int.reduceEq, Int.reduceLT, Int.reduceLE, Int.reduceNeg, Int.reduceAdd, Int.reduceSub, Int.reduceMul, Nat.reducePow, Int.reduceNegSucc, f5, List.take_length]
        by_cases hk : p.1.kind = 1
        · have wf : wrFn p.1 = 51 := by unfold wrFn; rw [if_pos hk]
          rw [wf]
          refine ⟨by kernel_rfl, callText_c (gl.sub sM) hdM hR.2.2.2.2.1 hR.2.2.2.2.2 ht ?_⟩
          simp (disch := (first | assumption | (simp only [List.length_append, List.length_cons, List.length_nil]; omega) | omega)) only [walk, lists, acts, mem, plain, seqs, maps, cells, resL, resV, intBin, ↓reduceIte, Nat.reduceAdd, Nat.reduceSub, Nat.reduceMul, Nat.reduceLeDiff, Nat.reduceEqDiff, Int.reduceToNat, Int.reduceEq, Int.reduceLT, Int.reduceLE, Int.reduceNeg, Int.reduceAdd, Int.reduceSub, Int.reduceMul, Nat.reducePow, Int.reduceNegSucc, str, str_add]
          refine ⟨h, sM, ?_⟩
          rw [it] at k
          unfold textF at k
          rw [if_pos hk] at k
          exact k
        · have wf : wrFn p.1 = 53 := by unfold wrFn; rw [if_neg hk]
          rw [wf]
          refine ⟨by kernel_rfl, noText_c ?_⟩
          simp (disch := (first | assumption | (simp only [List.length_append, List.length_cons, List.length_nil]; omega) | omega)) only [walk, lists, acts, mem, plain, seqs, maps, cells, resL, resV, intBin, ↓reduceIte, Nat.reduceAdd, Nat.reduceSub, Nat.reduceMul, Nat.reduceLeDiff, Nat.reduceEqDiff, Int.reduceToNat, Int.reduceEq, Int.reduceLT, Int.reduceLE, Int.reduceNeg, Int.reduceAdd, Int.reduceSub, Int.reduceMul, Nat.reducePow, Int.reduceNegSucc, str, str_add]
          refine ⟨h, sM, ?_⟩
          rw [it] at k
          unfold textF at k
          rw [if_neg hk, List.append_nil] at k
          exact k
  · have hi2 : i = 10 := by omega
    subst hi2
    have : itext e = [] := by
      unfold itext
      rw [List.find?_eq_none.2 fun f hf => by rw [hn f (by simpa [forms] using hf)]; decide]
    rw [this] at k
    exact ⟨h, sh, k⟩
end Go.Proofs.YtdlgaidjlepepaaDoor
end

/- Lines of scripts, read from the left. -/
section
set_option linter.unusedVariables false
set_option linter.unusedSimpArgs false
namespace Go.Tk
open Go

theorem putNs_snoc : ∀ {os : List Nat} {ns : List Int} (e : DTollEvent) (o : Nat) (n : Int), ns.length = os.length → putNs e (os ++ [o]) (ns ++ [n]) = putN (putNs e os ns) o n := by
  intro os
  induction os with
  | nil =>
    intro ns e o n h
    have : ns = [] := List.length_eq_zero_iff.1 h
    subst this
    rfl
  | cons a os ih =>
    intro ns e o n h
    cases ns with
    | nil => cases h
    | cons b ns => exact ih (putN e a b) o n (by simpa using h)
theorem putN_call (e : DTollEvent) (o : Nat) (n : Int) (c : DCall) : putN { e with call := c } o n = { putN e o n with call := c } := by
  rcases o with _ | _ | _ | _ | _ | o <;> rfl
theorem putNs_call (c : DCall) : ∀ (os : List Nat) (ns : List Int) (e : DTollEvent), putNs { e with call := c } os ns = { putNs e os ns with call := c } := by
  intro os
  induction os with
  | nil => intro ns e; cases ns <;> rfl
  | cons a os ih =>
    intro ns e
    cases ns with
    | nil => rfl
    | cons b ns =>
      show putNs (putN { e with call := c } a b) os ns = _
      rw [putN_call]
      exact ih ns (putN e a b)
theorem event_put (e : DTollEvent) {o : Nat} (n : Int) (h : o ≤ 4) : splice (cTollEvent e) o [.int .i64 n] = cTollEvent (putN e o n) := by
  have : o = 0 ∨ o = 1 ∨ o = 2 ∨ o = 3 ∨ o = 4 := by omega
  rcases this with rfl | rfl | rfl | rfl | rfl <;> rfl
theorem forms_inj : ∀ f ∈ forms, ∀ f' ∈ forms, f.name = f'.name → f = f' := by
  have : ∀ i j : Fin forms.length, forms[i].name = forms[j].name → i = j := by decide
  intro f hf f' hf' h
  obtain ⟨i, hi, rfl⟩ := List.getElem_of_mem hf
  obtain ⟨j, hj, rfl⟩ := List.getElem_of_mem hf'
  have := this ⟨i, hi⟩ ⟨j, hj⟩ h
  simp only [Fin.mk.injEq] at this
  subst this
  rfl
def tailF (f : Form) (c : DCall) : List UInt8 := if f.kind = 1 then 32 :: askC c else []
theorem tailF_or (f : Form) (c : DCall) : tailF f c = [] ∨ ∃ y, tailF f c = 32 :: y := by
  unfold tailF
  split
  · exact .inr ⟨_, rfl⟩
  · exact .inl rfl
def RestO (X r : List UInt8) : Prop := X = 32 :: r ∨ (X = [] ∧ r = [])
theorem numsT_or (l : List Int) (f : Form) (c : DCall) : numsT l ++ tailF f c = [] ∨ ∃ y, numsT l ++ tailF f c = 32 :: y := by
  cases l with
  | nil => simpa [numsT] using tailF_or f c
  | cons n l => exact .inr ⟨_, rfl⟩
theorem forms_pos : ∀ f ∈ forms, 1 ≤ f.offs.length ∧ (32 : UInt8) ∉ f.name := by decide
theorem line_cut {f : Form} {ns : List Int} {c : DCall} (h : fitF f ns c) : ∃ y, lineF f ns c = f.name ++ 32 :: y ∧ 32 ∉ f.name ∧ RestO (numsT ns ++ tailF f c) y := by
  obtain ⟨hf, hl, hn, hc⟩ := h
  obtain ⟨h1, h2⟩ := forms_pos f hf
  cases ns with
  | nil => simp at hl; omega
  | cons n ns =>
    refine ⟨decI n ++ (numsT ns ++ tailF f c), ?_, h2, .inl ?_⟩
    · simp [lineF, numsT, tailF]
    · simp [numsT]
theorem rest_step {n : Int} {l : List Int} {f : Form} {c : DCall} {r w r2 : List UInt8} {fnd : Bool} (hn : sm5 n) (h : RestO (numsT (n :: l) ++ tailF f c) r) (hc : CutO 32 r w r2 fnd) : w = decI n ∧ RestO (numsT l ++ tailF f c) r2 := by
  obtain ⟨m, rfl, hm⟩ := sm5_nat hn
  have e : numsT ((m : Int) :: l) ++ tailF f c = 32 :: (decN m ++ (numsT l ++ tailF f c)) := by simp [numsT, decI_nat]
  rw [e] at h
  rw [decI_nat]
  rcases h with h | ⟨h, _⟩
  · have hr := (List.cons.inj h).2
    rcases numsT_or l f c with y | ⟨y, hy⟩
    · rw [y, List.append_nil] at hr
      obtain ⟨h1, h2, _⟩ := hc.no (by rw [← hr]; exact decN_no32 m)
      rw [y]
      exact ⟨by rw [h1, hr], .inr ⟨rfl, h2⟩⟩
    · rw [hy] at hr
      obtain ⟨h1, h2, _⟩ := hc.at hr.symm (decN_no32 m)
      rw [hy]
      exact ⟨h1, .inl (by rw [h2])⟩
  · cases h
theorem rest_end {f : Form} {c : DCall} {r : List UInt8} (h : RestO (numsT [] ++ tailF f c) r) : (f.kind = 1 → r = askC c) ∧ (f.kind ≠ 1 → r = []) := by
  unfold tailF at h
  simp only [numsT, List.map_nil, List.flatten_nil, List.nil_append] at h
  refine ⟨fun k => ?_, fun k => ?_⟩
  · rw [if_pos k] at h
    rcases h with h | ⟨h, _⟩
    · exact (List.cons.inj h).2.symm
    · cases h
  · rw [if_neg k] at h
    rcases h with h | ⟨_, h⟩
    · cases h
    · exact h
theorem putNs_at : ∀ (os : List Nat) (ns : List Int) (e : DTollEvent), (∀ o ∈ os, 1 ≤ o ∧ o ≤ 4) → (putNs e os ns).kind = e.kind ∧ (putNs e os ns).call = e.call := by
  intro os
  induction os with
  | nil => intro ns e _; cases ns <;> exact ⟨rfl, rfl⟩
  | cons a os ih =>
    intro ns e h
    cases ns with
    | nil => exact ⟨rfl, rfl⟩
    | cons b ns =>
      obtain ⟨h1, h2⟩ := ih ns (putN e a b) fun o ho => h o (List.mem_cons_of_mem _ ho)
      have ha := h a List.mem_cons_self
      have : a = 1 ∨ a = 2 ∨ a = 3 ∨ a = 4 := by omega
      refine ⟨h1.trans ?_, h2.trans ?_⟩ <;> rcases this with rfl | rfl | rfl | rfl <;> rfl
/-- Numbers that fit an int64. -/
def i64N (n : Int) : Prop := -9223372036854775808 ≤ n ∧ n ≤ 9223372036854775807
theorem putNs_in : ∀ (os : List Nat) (ns : List Int) (e : DTollEvent), allP sm5 ns → i64N e.at_ ∧ i64N e.session ∧ i64N e.word ∧ i64N e.keep → i64N (putNs e os ns).at_ ∧ i64N (putNs e os ns).session ∧ i64N (putNs e os ns).word ∧ i64N (putNs e os ns).keep := by
  intro os
  induction os with
  | nil => intro ns e _ h; cases ns <;> exact h
  | cons a os ih =>
    intro ns e hn h
    cases ns with
    | nil => exact h
    | cons b ns =>
      have hb := hn b List.mem_cons_self
      have hb2 : i64N b := ⟨by unfold sm5 at hb; omega, by unfold sm5 at hb; omega⟩
      refine ih ns (putN e a b) (fun x hx => hn x (List.mem_cons_of_mem _ hx)) ?_
      obtain ⟨h1, h2, h3, h4⟩ := h
      rcases a with _ | _ | _ | _ | _ | a
      · exact ⟨h1, h2, h3, h4⟩
      · exact ⟨hb2, h2, h3, h4⟩
      · exact ⟨h1, hb2, h3, h4⟩
      · exact ⟨h1, h2, hb2, h4⟩
      · exact ⟨h1, h2, h3, hb2⟩
      · exact ⟨h1, h2, h3, h4⟩
theorem forms_keep : ∀ f ∈ forms, 0 ≤ f.keep ∧ f.keep ≤ 1 := by decide
end Go.Tk
end

/- How the program reads a line. -/
section
set_option linter.unusedVariables false
set_option linter.unusedSimpArgs false
set_option maxRecDepth 20000
attribute [local irreducible] Go.Tk.vc Go.Tk.vops Go.Tk.vdr Go.Tk.vop Go.Tk.vfl Go.Tk.HCalls
namespace Go.Tk
open Go
theorem forms_len : forms.length = 10 := rfl
end Go.Tk
namespace Go.Proofs.YtdlgaidjlepepaaDoor
open Go Go.Tk

theorem readLine_c {h : H} {s : List UInt8} (gl : Gl h) (hs : s.length ≤ 4194304) {R : Ending → H → Prop} (k : ∀ e ok, OutE s e ok → R (.returned (.tuple #[.agg (cTollEvent e).toArray, .bool ok])) h) :
    HCalls Tryd.prog 26 #[.string ⟨s.toArray⟩] h R := by
  refine HCalls_ir (args := [.string ⟨s.toArray⟩]) Tryd.func26 ir26 ?_
  have ze := zTollEvent_eq
  simp only [str] at ze
  have el : ∀ (x y : List UInt8), ((⟨x.toArray⟩ : ByteArray) = ⟨y.toArray⟩) = (x = y) := fun x y => propext ⟨fun e => by simpa using congrArg (fun a : ByteArray => a.data.toList) e, fun e => by rw [e]⟩
  simp only [walk, lists, acts, mem, plain, seqs, maps, cells, resL, resV, intBin, ↓reduceIte, Nat.reduceAdd, Nat.reduceSub, Nat.reduceMul, Nat.reduceLeDiff, Nat.reduceEqDiff, Int.reduceToNat, Int.reduceEq, Int.reduceLT, Int.reduceLE, Int.reduceNeg, Int.reduceAdd, Int.reduceSub, Int.reduceMul, Nat.reducePow, Int.reduceNegSucc, str, ze]
  refine newB_intro fun j2 hj2 => ?_
  simp only [walk, lists, acts, mem, plain, seqs, maps, cells, resL, resV, intBin, ↓reduceIte, Nat.reduceAdd, Nat.reduceSub, Nat.reduceMul, Nat.reduceLeDiff, Nat.reduceEqDiff, Int.reduceToNat, Int.reduceEq, Int.reduceLT, Int.reduceLE, Int.reduceNeg, Int.reduceAdd, Int.reduceSub, Int.reduceMul, Nat.reducePow, Int.reduceNegSucc, str, ze]
  refine newB_intro fun j4 hj4 => ?_
  have n4 := hj4
  simp only [subs] at n4
  simp only [walk, lists, acts, mem, plain, seqs, maps, cells, resL, resV, intBin, ↓reduceIte, Nat.reduceAdd, Nat.reduceSub, Nat.reduceMul, Nat.reduceLeDiff, Nat.reduceEqDiff, Int.reduceToNat, Int.reduceEq, Int.reduceLT, Int.reduceLE, Int.reduceNeg, Int.reduceAdd, Int.reduceSub, Int.reduceMul, Nat.reducePow, Int.reduceNegSucc, str, ze]
  refine cut_c hs fun a b fd hc => ?_
  have hab : a.length ≤ s.length ∧ b.length ≤ s.length := by
    obtain ⟨_, ⟨_, h2⟩ | ⟨_, h2, h3⟩⟩ := hc
    · rw [h2]; simp; omega
    · rw [h2, h3]; simp
  simp only [walk, lists, acts, mem, plain, seqs, maps, cells, resL, resV, intBin, ↓reduceIte, Nat.reduceAdd, Nat.reduceSub, Nat.reduceMul, Nat.reduceLeDiff, Nat.reduceEqDiff, Int.reduceToNat, Int.reduceEq, Int.reduceLT, Int.reduceLE, Int.reduceNeg, Int.reduceAdd, Int.reduceSub, Int.reduceMul, Nat.reducePow, Int.reduceNegSucc, str, ze]
  refine forms_c fun V g L hL rL rN dj => ?_
  have hl10 : L.length = 10 := by have := congrArg List.length hL; simpa [forms] using this
  have len : ∀ {f : Value → Prop}, lenSK V f = f (.int .i64 10) := fun {f} => by have := rL.len (f := f); rw [hl10] at this; exact this
  simp only [subs] at dj
  simp only [walk, lists, acts, mem, plain, seqs, maps, cells, resL, resV, intBin, ↓reduceIte, Nat.reduceAdd, Nat.reduceSub, Nat.reduceMul, Nat.reduceLeDiff, Nat.reduceEqDiff, Int.reduceToNat, Int.reduceEq, Int.reduceLT, Int.reduceLE, Int.reduceNeg, Int.reduceAdd, Int.reduceSub, Int.reduceMul, Nat.reducePow, Int.reduceNegSucc, str, len, ze]
  have ej : j2 ≠ j4 := fun e => n4.1 e.symm
  have rLh := rL.sub (Sub.left g h)
  have dg2 : hget g j2 = none := dj.2.1
  have dg4 : hget g j4 = none := dj.1
  have M2 : hget (g ++ h) j2 = none := by simp only [subs, dg2, hj2]
  have M4 : hget (g ++ h) j4 = none := by simp only [subs, dg4, n4]
  have ej' : ¬ j2 = j4 := ej
  have sM : ∀ e, Tk.Sub (g ++ h) ((j4, blk (cTollEvent e) 74) :: (j2, blk (cTollEvent zTollEvent) 41) :: (g ++ h)) := fun e => by (repeat' first | exact Sub.refl _ | exact Sub.nil _ | assumption | refine Sub.both ?_ ?_ | refine Sub.cons_of (by simp only [subs, dg2, dg4, n4, hj2, dj, ej]) ?_ | exact Sub.left _ _ | refine Sub.app (by simp only [subs, dg2, dg4, n4, hj2, dj, ej]) ?_ | refine Sub.cons (by simp only [subs, dg2, dg4, n4, hj2, dj, ej]) ?_)
  refine vc_loopS [23, 6] (fun n vs h' => ∃ (i : Nat), vs = [.int .i64 i, .string ⟨b.toArray⟩] ∧ h' = (j4, blk (cTollEvent zTollEvent) 74) :: (j2, blk (cTollEvent zTollEvent) 41) :: (g ++ h) ∧ (∀ f ∈ forms.take i, f.name ≠ a) ∧ i ≤ 10 ∧ n = 10 - i) 10 rfl
    (g0 := (j4, blk (cTollEvent zTollEvent) 74) :: (j2, blk (cTollEvent zTollEvent) 41) :: (g ++ h)) (by (repeat' first | exact Sub.refl _ | exact Sub.nil _ | assumption | refine Sub.both ?_ ?_ | refine Sub.cons_of (by simp only [subs, dg2, dg4, n4, hj2, dj, ej]) ?_ | exact Sub.left _ _ | refine Sub.app (by simp only [subs, dg2, dg4, n4, hj2, dj, ej]) ?_ | refine Sub.cons (by simp only [subs, dg2, dg4, n4, hj2, dj, ej]) ?_)) ⟨0, rfl, rfl, by simp, by omega, rfl⟩ ?_
  rintro n f h' ⟨i, hv, rfl, hn, hi, rfl⟩
  simp only [List.map_cons, List.map_nil, List.cons.injEq, and_true] at hv
  simp only [walk, lists, acts, mem, plain, seqs, maps, cells, resL, resV, intBin, ↓reduceIte, Nat.reduceAdd, Nat.reduceSub, Nat.reduceMul, Nat.reduceLeDiff, Nat.reduceEqDiff, Int.reduceToNat, Int.reduceEq, Int.reduceLT, Int.reduceLE, Int.reduceNeg, Int.reduceAdd, Int.reduceSub, Int.reduceMul, Nat.reducePow, Int.reduceNegSucc, wr, hv, ze, str]
  refine ite_lt (fun c3 => ?_) fun c3 => ?_
  · have hi2 : i < L.length := by omega
    have hi3 : i < forms.length := by simp [forms]; omega
    have hp : L[i].1 = forms[i] := by
      have h1 : (L.map Prod.fst)[i]? = forms[i]? := by rw [hL]
      rw [List.getElem?_map, List.getElem?_eq_getElem hi2, List.getElem?_eq_getElem hi3] at h1
      exact Option.some.inj h1
    have hmem : forms[i] ∈ forms := List.getElem_mem hi3
    refine idx_leaf (i := i) (eForm_len j4) (rLh.sub (sM zTollEvent)) rfl hi2 fun b1 o1 e1 => ?_
    have rp := rN L[i] (List.getElem_mem hi2)
    obtain ⟨p, hpe⟩ : ∃ p, p = L[i] := ⟨_, rfl⟩
    rw [← hpe] at e1 hp rp
    have pone := rp.one
    simp only [walk, lists, acts, mem, plain, seqs, maps, cells, resL, resV, intBin, ↓reduceIte, Nat.reduceAdd, Nat.reduceSub, Nat.reduceMul, Nat.reduceLeDiff, Nat.reduceEqDiff, Int.reduceToNat, Int.reduceEq, Int.reduceLT, Int.reduceLE, Int.reduceNeg, Int.reduceAdd, Int.reduceSub, Int.reduceMul, Nat.reducePow, Int.reduceNegSucc, e1, wForm, str]
    refine newB_intro fun j9 hj9 => ?_
    have n9 := hj9
    simp only [subs] at n9
    simp only [walk, lists, acts, mem, plain, seqs, maps, cells, resL, resV, intBin, ↓reduceIte, Nat.reduceAdd, Nat.reduceSub, Nat.reduceMul, Nat.reduceLeDiff, Nat.reduceEqDiff, Int.reduceToNat, Int.reduceEq, Int.reduceLT, Int.reduceLE, Int.reduceNeg, Int.reduceAdd, Int.reduceSub, Int.reduceMul, Nat.reducePow, Int.reduceNegSucc, wForm, pone, str, el, wTollEvent]
    have sM9 : ∀ e, Tk.Sub (g ++ h) ((j9, blk (eForm j4 p) 85) :: (j4, blk (cTollEvent e) 74) :: (j2, blk (cTollEvent zTollEvent) 41) :: (g ++ h)) := fun e => by (repeat' first | exact Sub.refl _ | exact Sub.nil _ | assumption | refine Sub.both ?_ ?_ | refine Sub.cons_of (by simp only [subs, dg2, dg4, n4, hj2, dj, ej', n9]) ?_ | exact Sub.left _ _ | refine Sub.app (by simp only [subs, dg2, dg4, n4, hj2, dj, ej', n9]) ?_ | refine Sub.cons (by simp only [subs, dg2, dg4, n4, hj2, dj, ej', n9]) ?_)
    have sF : ∀ e, Tk.Sub h ((j9, blk (eForm j4 p) 85) :: (j4, blk (cTollEvent e) 74) :: (j2, blk (cTollEvent zTollEvent) 41) :: (g ++ h)) := fun e => (Sub.right dj.2.2).trans (sM9 e)
    have e49 : ¬ j4 = j9 := fun e => n9.1 e.symm
    have e29 : ¬ j2 = j9 := fun e => n9.2.1 e.symm
    simp only [strBin, oK_some, ap2_eq, cont_app, walk, lists, acts, mem, plain, seqs, maps, cells, resL, resV, intBin, ↓reduceIte, Nat.reduceAdd, Nat.reduceSub, Nat.reduceMul, Nat.reduceLeDiff, Nat.reduceEqDiff, Int.reduceToNat, Int.reduceEq, Int.reduceLT, Int.reduceLE, Int.reduceNeg, Int.reduceAdd, Int.reduceSub, Int.reduceMul, Nat.reducePow, Int.reduceNegSucc, el]
    refine ite_ne (fun c1 => ?_) fun c1 => ?_
    · simp (disch := omega) only [wrapI]
      refine ⟨10 - (i + 1), by omega, (j4, blk (cTollEvent zTollEvent) 74) :: (j2, blk (cTollEvent zTollEvent) 41) :: (g ++ h), Sub.cons hj9 (Sub.refl _), i + 1, by simp, rfl, fun f' hf' => ?_, by omega, rfl⟩
      rw [List.take_succ_eq_append_getElem hi3] at hf'
      rcases List.mem_append.1 hf' with hf' | hf'
      · exact hn f' hf'
      · rw [List.mem_singleton] at hf'
        rw [hf', ← hp]; exact c1
    · simp only [walk, lists, acts, mem, plain, seqs, maps, cells, resL, resV, intBin, ↓reduceIte, Nat.reduceAdd, Nat.reduceSub, Nat.reduceMul, Nat.reduceLeDiff, Nat.reduceEqDiff, Int.reduceToNat, Int.reduceEq, Int.reduceLT, Int.reduceLE, Int.reduceNeg, Int.reduceAdd, Int.reduceSub, Int.reduceMul, Nat.reducePow, Int.reduceNegSucc, wForm, pone, str, wTollEvent, e49, e29, ej']
      have rpM : ∀ e, rLs ((j9, blk (eForm j4 p) 85) :: (j4, blk (cTollEvent e) 74) :: (j2, blk (cTollEvent zTollEvent) 41) :: (g ++ h)) ePtr 1 p.2 (p.1.offs.map fun o => (j4, o)) := fun e => (rp.sub (Sub.left g h)).sub (sM9 e)
      have plen : ∀ {f : Value → Prop}, lenSK p.2 f = f (.int .i64 p.1.offs.length) := fun {f} => by have := (rpM zTollEvent).len (f := f); rw [List.length_map] at this; exact this
      rw [← hp] at hmem
      obtain ⟨ho1, ho2, ho3⟩ := forms_offs _ hmem
      simp only [walk, lists, acts, mem, plain, seqs, maps, cells, resL, resV, intBin, ↓reduceIte, Nat.reduceAdd, Nat.reduceSub, Nat.reduceMul, Nat.reduceLeDiff, Nat.reduceEqDiff, Int.reduceToNat, Int.reduceEq, Int.reduceLT, Int.reduceLE, Int.reduceNeg, Int.reduceAdd, Int.reduceSub, Int.reduceMul, Nat.reducePow, Int.reduceNegSucc, wForm, pone, str, wTollEvent, e49, e29, ej', plen]
      obtain ⟨E1, hE1⟩ : ∃ E1 : DTollEvent, E1 = { zTollEvent with kind := p.1.kind, keep := p.1.keep } := ⟨_, rfl⟩
      rw [← hE1]
      have same : ∀ f' ns' c', fitF f' ns' c' → s = lineF f' ns' c' → f' = p.1 ∧ RestO (numsT ns' ++ tailF f' c') b := fun f' ns' c' hfit hs' => by
        obtain ⟨y, hy, hno, hro⟩ := line_cut hfit
        obtain ⟨ha, hb, _⟩ := hc.at (hs'.trans hy) hno
        exact ⟨forms_inj _ hfit.1 _ hmem (by rw [c1, ha]), by rw [hb]; exact hro⟩
      refine vc_loopS [42, 6] (fun n vs h' => ∃ (q : Nat) (ns : List Int) (r : List UInt8), vs = [.int .i64 q, .string ⟨r.toArray⟩] ∧ h' = (j9, blk (eForm j4 p) 85) :: (j4, blk (cTollEvent (putNs E1 (p.1.offs.take q) ns)) 74) :: (j2, blk (cTollEvent zTollEvent) 41) :: (g ++ h) ∧
          ns.length = q ∧ allP sm5 ns ∧ q ≤ p.1.offs.length ∧ r.length ≤ s.length ∧ (∀ f' ns' c', fitF f' ns' c' → s = lineF f' ns' c' → ns'.take q = ns ∧ RestO (numsT (ns'.drop q) ++ tailF f' c') r) ∧ n = p.1.offs.length - q) p.1.offs.length rfl
        (g0 := (j9, blk (eForm j4 p) 85) :: (j4, blk (cTollEvent E1) 74) :: (j2, blk (cTollEvent zTollEvent) 41) :: (g ++ h)) (.refl _)
        ⟨0, [], b, rfl, by simp [putNs], rfl, by simp [allP], by omega, by omega, fun f' ns' c' x y => ⟨rfl, (same f' ns' c' x y).2⟩, rfl⟩ ?_
      rintro n f' h' ⟨q, ns, r, hv', rfl, hql, hsm, hq, hrl, hin, rfl⟩
      simp only [List.map_cons, List.map_nil, List.cons.injEq, and_true] at hv'
      simp only [walk, lists, acts, mem, plain, seqs, maps, cells, resL, resV, intBin, ↓reduceIte, Nat.reduceAdd, Nat.reduceSub, Nat.reduceMul, Nat.reduceLeDiff, Nat.reduceEqDiff, Int.reduceToNat, Int.reduceEq, Int.reduceLT, Int.reduceLE, Int.reduceNeg, Int.reduceAdd, Int.reduceSub, Int.reduceMul, Nat.reducePow, Int.reduceNegSucc, wr, hv'.1, hv'.2, wForm, str]
      refine ite_lt (fun c5 => ?_) fun c5 => ?_
      · have hq2 : q < p.1.offs.length := by omega
        refine idx_leaf (i := q) ePtr_len (rpM (putNs E1 (p.1.offs.take q) ns)) rfl (by rw [List.length_map]; omega) fun b2 o2 e2 => ?_
        have hox := ho3 _ (List.getElem_mem hq2)
        have e2' : hread ((j9, blk (eForm j4 p) 85) :: (j4, blk (cTollEvent (putNs E1 (p.1.offs.take q) ns)) 74) :: (j2, blk (cTollEvent zTollEvent) 41) :: (g ++ h)) b2 o2 1 = some [.pointer (some ⟨j4, p.1.offs[q], none⟩)] := by rw [e2, List.getElem_map]; rfl
        simp only [walk, lists, acts, mem, plain, seqs, maps, cells, resL, resV, intBin, ↓reduceIte, Nat.reduceAdd, Nat.reduceSub, Nat.reduceMul, Nat.reduceLeDiff, Nat.reduceEqDiff, Int.reduceToNat, Int.reduceEq, Int.reduceLT, Int.reduceLE, Int.reduceNeg, Int.reduceAdd, Int.reduceSub, Int.reduceMul, Nat.reducePow, Int.reduceNegSucc, hread_1 e2', wForm, str]
        refine cut_c (by omega) fun w r2 fd2 hc2 => ?_
        have hab2 : w.length ≤ r.length ∧ r2.length ≤ r.length := by
          obtain ⟨_, ⟨_, h2⟩ | ⟨_, h2, h3⟩⟩ := hc2
          · rw [h2]; simp; omega
          · rw [h2, h3]; simp
        simp only [walk, lists, acts, mem, plain, seqs, maps, cells, resL, resV, intBin, ↓reduceIte, Nat.reduceAdd, Nat.reduceSub, Nat.reduceMul, Nat.reduceLeDiff, Nat.reduceEqDiff, Int.reduceToNat, Int.reduceEq, Int.reduceLT, Int.reduceLE, Int.reduceNeg, Int.reduceAdd, Int.reduceSub, Int.reduceMul, Nat.reducePow, Int.reduceNegSucc, wForm, str]
        refine number_c (gl.sub (sF _)) (by omega) fun x ok ix ha hb => ?_
        simp only [walk, lists, acts, mem, plain, seqs, maps, cells, resL, resV, intBin, ↓reduceIte, Nat.reduceAdd, Nat.reduceSub, Nat.reduceMul, Nat.reduceLeDiff, Nat.reduceEqDiff, Int.reduceToNat, Int.reduceEq, Int.reduceLT, Int.reduceLE, Int.reduceNeg, Int.reduceAdd, Int.reduceSub, Int.reduceMul, Nat.reducePow, Int.reduceNegSucc, wForm, str, ze]
        have step : ∀ f' ns' c', fitF f' ns' c' → s = lineF f' ns' c' → ∃ h : q < ns'.length, w = decI ns'[q] ∧ sm5 ns'[q] ∧ RestO (numsT (ns'.drop (q + 1)) ++ tailF f' c') r2 := fun f' ns' c' hfit hs' => by
          obtain ⟨h1, h2⟩ := hin f' ns' c' hfit hs'
          have hl' : q < ns'.length := by have := congrArg List.length h1; rw [List.length_take] at this; have h3 := (same f' ns' c' hfit hs').1; have h4 := hfit.2.1; rw [h3] at h4; omega
          have hs5 := hfit.2.2.1 _ (List.getElem_mem hl')
          rw [List.drop_eq_getElem_cons hl'] at h2
          obtain ⟨h5, h6⟩ := rest_step hs5 h2 hc2
          exact ⟨hl', h5, hs5, h6⟩
        cases ok with
        | false =>
          simp only [walk, lists, acts, mem, plain, seqs, maps, cells, resL, resV, intBin, ↓reduceIte, Nat.reduceAdd, Nat.reduceSub, Nat.reduceMul, Nat.reduceLeDiff, Nat.reduceEqDiff, Int.reduceToNat, Int.reduceEq, Int.reduceLT, Int.reduceLE, Int.reduceNeg, Int.reduceAdd, Int.reduceSub, Int.reduceMul, Nat.reducePow, Int.reduceNegSucc, wForm, str, ze, wTollEvent, e49, e29, ej', Bool.false_eq_true]
          refine ⟨h, by (repeat' first | exact Sub.refl _ | exact Sub.nil _ | assumption | refine Sub.both ?_ ?_ | refine Sub.cons_of (by simp only [subs, dg2, dg4, n4, hj2, dj, ej', n9, e49, e29]) ?_ | exact Sub.left _ _ | refine Sub.app (by simp only [subs, dg2, dg4, n4, hj2, dj, ej', n9, e49, e29]) ?_ | refine Sub.cons (by simp only [subs, dg2, dg4, n4, hj2, dj, ej', n9, e49, e29]) ?_), k _ false (.inr ⟨rfl, fun e' hf => ?_⟩)⟩
          obtain ⟨f', ns', c', hfit, he', hs'⟩ := hf
          obtain ⟨hl', h1, h2, _⟩ := step f' ns' c' hfit hs'
          obtain ⟨m, hm, hm2⟩ := sm5_nat h2
          have := (ha m (by rw [h1, hm, decI_nat]; exact numS_dec hm2)).1
          cases this
        | true =>
          have hle : (p.1.offs[q] ≤ 10) = True := eq_true (by omega)
          simp only [walk, lists, acts, mem, plain, seqs, maps, cells, resL, resV, intBin, ↓reduceIte, Nat.reduceAdd, Nat.reduceSub, Nat.reduceMul, Nat.reduceLeDiff, Nat.reduceEqDiff, Int.reduceToNat, Int.reduceEq, Int.reduceLT, Int.reduceLE, Int.reduceNeg, Int.reduceAdd, Int.reduceSub, Int.reduceMul, Nat.reducePow, Int.reduceNegSucc, wForm, str, ze, wTollEvent, e49, e29, ej', Bool.true_eq_false, hle, event_put _ _ hox.1]
          simp (disch := omega) only [wrapI]
          obtain ⟨m, hm⟩ : ∃ m, numS w = some m := Option.ne_none_iff_exists'.1 (hb rfl)
          have hxm := (ha m hm).2
          refine ⟨p.1.offs.length - (q + 1), by omega, _, .refl _, q + 1, ns ++ [x], r2, by simp, ?_, by simp [hql], ?_, by omega, by omega, fun f' ns' c' hfit hs' => ?_, rfl⟩
          · rw [List.take_succ_eq_append_getElem hq2, putNs_snoc _ _ _ (by rw [List.length_take]; omega)]
          · intro y hy
            rcases List.mem_append.1 hy with hy | hy
            · exact hsm y hy
            · rw [List.mem_singleton] at hy
              rw [hy, hxm]; exact nat_sm5 (numS_some hm).2
          · obtain ⟨hl', h1, h2, h3⟩ := step f' ns' c' hfit hs'
            refine ⟨?_, h3⟩
            rw [List.take_succ_eq_append_getElem hl', (hin f' ns' c' hfit hs').1]
            obtain ⟨m', hm', hm2⟩ := sm5_nat h2
            have := (ha m' (by rw [h1, hm', decI_nat]; exact numS_dec hm2)).2
            rw [this, hm']
      · have hq2 : q = p.1.offs.length := by omega
        subst hq2
        rw [List.take_length]
        obtain ⟨E2, hE2⟩ : ∃ E2, E2 = putNs E1 p.1.offs ns := ⟨_, rfl⟩
        rw [← hE2]
        have at2 : E2.kind = p.1.kind ∧ E2.call = zCall := by
          rw [hE2]
          obtain ⟨x1, x2⟩ := putNs_at p.1.offs ns E1 fun o ho => ⟨(ho3 o ho).2, (ho3 o ho).1⟩
          rw [x1, x2, hE1]; exact ⟨rfl, rfl⟩
        have ev2 : ∀ c, { E2 with call := c } = evF p.1 ns c := fun c => by
          rw [hE2, ← putNs_call, hE1]; rfl
        have comp : ∀ f' ns' c', fitF f' ns' c' → s = lineF f' ns' c' → f' = p.1 ∧ ns' = ns ∧ (p.1.kind = 1 → r = askC c') ∧ (p.1.kind ≠ 1 → r = []) := fun f' ns' c' hfit hs' => by
          obtain ⟨h1, h2⟩ := hin f' ns' c' hfit hs'
          obtain ⟨rfl, _⟩ := same f' ns' c' hfit hs'
          have h4 := hfit.2.1
          rw [← h4, List.take_length] at h1
          rw [← h4, List.drop_length] at h2
          obtain ⟨h5, h6⟩ := rest_end h2
          exact ⟨rfl, h1, h5, h6⟩
        have fin : ∀ c, (p.1.kind = 1 → askP c) → (p.1.kind ≠ 1 → c = zCall) → Fit { E2 with call := c } (itext { E2 with call := c }) := fun c h1 h2 => by
          have : Fit (evF p.1 ns c) (lineF p.1 ns c) := ⟨p.1, ns, c, ⟨hmem, hql, hsm, (by
            split
            · exact h1 ‹_›
            · exact h2 ‹_›)⟩, rfl, rfl⟩
          rw [ev2, itext_fit this]; exact this
        have inR : ∀ c, i64P c.slot → i64P c.to → evR { E2 with call := c } := fun c h1 h2 => by
          have := putNs_in p.1.offs ns E1 hsm (by
            have z0 : i64N 0 := ⟨by decide, by decide⟩
            rw [hE1]; have := forms_keep _ hmem; exact ⟨z0, z0, z0, ⟨by show _ ≤ p.1.keep; omega, by show p.1.keep ≤ _; omega⟩⟩)
          rw [← hE2] at this
          obtain ⟨x1, x2, x3, x4⟩ := this
          exact ⟨x1, x2, x3, x4, h1, h2⟩
        have e24 : ¬ j4 = j2 := fun e => ej' e.symm
        have eq2 : ({ E2 with call := zCall } : DTollEvent) = E2 := by rw [← at2.2]
        by_cases hk : p.1.kind = 1
        · have wf : rdFn p.1 = 50 := by unfold rdFn; rw [if_pos hk]
          rw [wf]
          have sB : Tk.Sub (g ++ h) ((j9, blk (eForm j4 p) 85) :: (j2, blk (cTollEvent zTollEvent) 41) :: (g ++ h)) := by (repeat' first | exact Sub.refl _ | exact Sub.nil _ | assumption | refine Sub.both ?_ ?_ | refine Sub.cons_of (by simp only [subs, dg2, dg4, n4, hj2, dj, ej', n9, e49, e29]) ?_ | exact Sub.left _ _ | refine Sub.app (by simp only [subs, dg2, dg4, n4, hj2, dj, ej', n9, e49, e29]) ?_ | refine Sub.cons (by simp only [subs, dg2, dg4, n4, hj2, dj, ej', n9, e49, e29]) ?_)
          have jB : hget ((j9, blk (eForm j4 p) 85) :: (j2, blk (cTollEvent zTollEvent) 41) :: (g ++ h)) j4 = none := by simp only [subs, e49, e24, dg4, n4]
          have gB := gl.sub ((Sub.right dj.2.2).trans sB)
          refine ⟨by kernel_rfl, (readCall_c gB jB at2.2 (by omega) fun c ok h1 h2 i1 i2 ht _ => ?_).weaken (by (repeat' first | exact Sub.refl _ | exact Sub.nil _ | assumption | refine Sub.both ?_ ?_ | refine Sub.cons_of (by simp only [subs, dg2, dg4, n4, hj2, dj, ej', n9, e49, e29, e24]) ?_ | exact Sub.left _ _ | refine Sub.app (by simp only [subs, dg2, dg4, n4, hj2, dj, ej', n9, e49, e29, e24]) ?_ | refine Sub.cons (by simp only [subs, dg2, dg4, n4, hj2, dj, ej', n9, e49, e29, e24]) ?_))⟩
          cases ok with
          | false =>
            simp only [walk, lists, acts, mem, plain, seqs, maps, cells, resL, resV, intBin, ↓reduceIte, Nat.reduceAdd, Nat.reduceSub, Nat.reduceMul, Nat.reduceLeDiff, Nat.reduceEqDiff, Int.reduceToNat, Int.reduceEq, Int.reduceLT, Int.reduceLE, Int.reduceNeg, Int.reduceAdd, Int.reduceSub, Int.reduceMul, Nat.reducePow, Int.reduceNegSucc, wForm, str, ze, wTollEvent, e49, e29, ej', e24, Bool.false_eq_true]
            refine ⟨h, by (repeat' first | exact Sub.refl _ | exact Sub.nil _ | assumption | refine Sub.both ?_ ?_ | refine Sub.cons_of (by simp only [subs, dg2, dg4, n4, hj2, dj, ej', n9, e49, e29, e24]) ?_ | exact Sub.left _ _ | refine Sub.app (by simp only [subs, dg2, dg4, n4, hj2, dj, ej', n9, e49, e29, e24]) ?_ | refine Sub.cons (by simp only [subs, dg2, dg4, n4, hj2, dj, ej', n9, e49, e29, e24]) ?_), k _ false (.inr ⟨rfl, fun e' hf => ?_⟩)⟩
            obtain ⟨f', ns', c', hfit, he', hs'⟩ := hf
            obtain ⟨rfl, rfl, hr, _⟩ := comp f' ns' c' hfit hs'
            have hp := hfit.2.2.2
            rw [if_pos hk] at hp
            have := (h2 c' hp (hr hk)).1
            cases this
          | true =>
            simp only [walk, lists, acts, mem, plain, seqs, maps, cells, resL, resV, intBin, ↓reduceIte, Nat.reduceAdd, Nat.reduceSub, Nat.reduceMul, Nat.reduceLeDiff, Nat.reduceEqDiff, Int.reduceToNat, Int.reduceEq, Int.reduceLT, Int.reduceLE, Int.reduceNeg, Int.reduceAdd, Int.reduceSub, Int.reduceMul, Nat.reducePow, Int.reduceNegSucc, wForm, str, ze, wTollEvent, e49, e29, ej', e24, Bool.false_eq_true]
            refine text_c (gl.sub ((Sub.right dj.2.2).trans (sB.trans (Sub.cons jB (Sub.refl _))))) (hget_same _ _ _) (inR c i1 i2) ht ?_
            simp only [walk, lists, acts, mem, plain, seqs, maps, cells, resL, resV, intBin, ↓reduceIte, Nat.reduceAdd, Nat.reduceSub, Nat.reduceMul, Nat.reduceLeDiff, Nat.reduceEqDiff, Int.reduceToNat, Int.reduceEq, Int.reduceLT, Int.reduceLE, Int.reduceNeg, Int.reduceAdd, Int.reduceSub, Int.reduceMul, Nat.reducePow, Int.reduceNegSucc, wForm, str, ze, wTollEvent, e49, e29, ej', e24, Bool.false_eq_true, strBin, el]
            refine ite_ne (fun cx => ?_) fun cx => ?_
            · refine ⟨h, by (repeat' first | exact Sub.refl _ | exact Sub.nil _ | assumption | refine Sub.both ?_ ?_ | refine Sub.cons_of (by simp only [subs, dg2, dg4, n4, hj2, dj, ej', n9, e49, e29, e24]) ?_ | exact Sub.left _ _ | refine Sub.app (by simp only [subs, dg2, dg4, n4, hj2, dj, ej', n9, e49, e29, e24]) ?_ | refine Sub.cons (by simp only [subs, dg2, dg4, n4, hj2, dj, ej', n9, e49, e29, e24]) ?_), k _ false (.inr ⟨rfl, fun e' hf => ?_⟩)⟩
              obtain ⟨f', ns', c', hfit, he', hs'⟩ := hf
              obtain ⟨rfl, rfl, hr, _⟩ := comp f' ns' c' hfit hs'
              have hp := hfit.2.2.2
              rw [if_pos hk] at hp
              have hcc := (h2 c' hp (hr hk)).2
              rw [hcc, ev2, itext_fit ⟨p.1, ns', c', hfit, rfl, rfl⟩] at cx
              exact cx hs'.symm
            · have ff := fin c (fun _ => h1 rfl) (fun x => absurd hk x)
              rw [cx] at ff
              refine ⟨h, by (repeat' first | exact Sub.refl _ | exact Sub.nil _ | assumption | refine Sub.both ?_ ?_ | refine Sub.cons_of (by simp only [subs, dg2, dg4, n4, hj2, dj, ej', n9, e49, e29, e24]) ?_ | exact Sub.left _ _ | refine Sub.app (by simp only [subs, dg2, dg4, n4, hj2, dj, ej', n9, e49, e29, e24]) ?_ | refine Sub.cons (by simp only [subs, dg2, dg4, n4, hj2, dj, ej', n9, e49, e29, e24]) ?_), k { E2 with call := c } true (.inl ⟨rfl, ff⟩)⟩
        · have wf : rdFn p.1 = 52 := by unfold rdFn; rw [if_neg hk]
          rw [wf]
          refine ⟨by kernel_rfl, nothing_c ?_⟩
          simp only [walk, lists, acts, mem, plain, seqs, maps, cells, resL, resV, intBin, ↓reduceIte, Nat.reduceAdd, Nat.reduceSub, Nat.reduceMul, Nat.reduceLeDiff, Nat.reduceEqDiff, Int.reduceToNat, Int.reduceEq, Int.reduceLT, Int.reduceLE, Int.reduceNeg, Int.reduceAdd, Int.reduceSub, Int.reduceMul, Nat.reducePow, Int.reduceNegSucc, wForm, str, ze, wTollEvent, e49, e29, ej', e24, Bool.false_eq_true]
          refine ite_ne (fun c0 => ?_) fun c0 => ?_
          · refine ⟨h, by (repeat' first | exact Sub.refl _ | exact Sub.nil _ | assumption | refine Sub.both ?_ ?_ | refine Sub.cons_of (by simp only [subs, dg2, dg4, n4, hj2, dj, ej', n9, e49, e29, e24]) ?_ | exact Sub.left _ _ | refine Sub.app (by simp only [subs, dg2, dg4, n4, hj2, dj, ej', n9, e49, e29, e24]) ?_ | refine Sub.cons (by simp only [subs, dg2, dg4, n4, hj2, dj, ej', n9, e49, e29, e24]) ?_), k _ false (.inr ⟨rfl, fun e' hf => ?_⟩)⟩
            obtain ⟨f', ns', c', hfit, he', hs'⟩ := hf
            obtain ⟨rfl, rfl, _, hr⟩ := comp f' ns' c' hfit hs'
            exact c0 (hr hk)
          · have z0 : i64P 0 := ⟨by decide, by decide⟩
            have ir := inR zCall z0 z0
            rw [eq2] at ir
            refine text_c (gl.sub (sF _)) (by simp only [subs, e49]) ir (by rw [at2.2]; decide) ?_
            simp only [walk, lists, acts, mem, plain, seqs, maps, cells, resL, resV, intBin, ↓reduceIte, Nat.reduceAdd, Nat.reduceSub, Nat.reduceMul, Nat.reduceLeDiff, Nat.reduceEqDiff, Int.reduceToNat, Int.reduceEq, Int.reduceLT, Int.reduceLE, Int.reduceNeg, Int.reduceAdd, Int.reduceSub, Int.reduceMul, Nat.reducePow, Int.reduceNegSucc, wForm, str, ze, wTollEvent, e49, e29, ej', e24, Bool.false_eq_true, strBin, el]
            refine ite_ne (fun cx => ?_) fun cx => ?_
            · refine ⟨h, by (repeat' first | exact Sub.refl _ | exact Sub.nil _ | assumption | refine Sub.both ?_ ?_ | refine Sub.cons_of (by simp only [subs, dg2, dg4, n4, hj2, dj, ej', n9, e49, e29, e24]) ?_ | exact Sub.left _ _ | refine Sub.app (by simp only [subs, dg2, dg4, n4, hj2, dj, ej', n9, e49, e29, e24]) ?_ | refine Sub.cons (by simp only [subs, dg2, dg4, n4, hj2, dj, ej', n9, e49, e29, e24]) ?_), k _ false (.inr ⟨rfl, fun e' hf => ?_⟩)⟩
              obtain ⟨f', ns', c', hfit, he', hs'⟩ := hf
              obtain ⟨rfl, rfl, _, _⟩ := comp f' ns' c' hfit hs'
              have hp := hfit.2.2.2
              rw [if_neg hk] at hp
              have := itext_fit ⟨p.1, ns', c', hfit, rfl, rfl⟩
              rw [hp, ← ev2, eq2] at this
              rw [this, ← hp] at cx
              exact cx hs'.symm
            · have ff := fin zCall (fun x => absurd x hk) (fun _ => rfl)
              rw [eq2, cx] at ff
              refine ⟨h, by (repeat' first | exact Sub.refl _ | exact Sub.nil _ | assumption | refine Sub.both ?_ ?_ | refine Sub.cons_of (by simp only [subs, dg2, dg4, n4, hj2, dj, ej', n9, e49, e29, e24]) ?_ | exact Sub.left _ _ | refine Sub.app (by simp only [subs, dg2, dg4, n4, hj2, dj, ej', n9, e49, e29, e24]) ?_ | refine Sub.cons (by simp only [subs, dg2, dg4, n4, hj2, dj, ej', n9, e49, e29, e24]) ?_), k E2 true (.inl ⟨rfl, ff⟩)⟩
  · simp only [walk, lists, acts, mem, plain, seqs, maps, cells, resL, resV, intBin, ↓reduceIte, Nat.reduceAdd, Nat.reduceSub, Nat.reduceMul, Nat.reduceLeDiff, Nat.reduceEqDiff, Int.reduceToNat, Int.reduceEq, Int.reduceLT, Int.reduceLE, Int.reduceNeg, Int.reduceAdd, Int.reduceSub, Int.reduceMul, Nat.reducePow, Int.reduceNegSucc, str, ze, wTollEvent, ej']
    have hi2 : i = 10 := by omega
    subst hi2
    refine ⟨h, by (repeat' first | exact Sub.refl _ | exact Sub.nil _ | assumption | refine Sub.both ?_ ?_ | refine Sub.cons_of (by simp only [subs, dg2, dg4, n4, hj2, dj, ej']) ?_ | exact Sub.left _ _ | refine Sub.app (by simp only [subs, dg2, dg4, n4, hj2, dj, ej']) ?_ | refine Sub.cons (by simp only [subs, dg2, dg4, n4, hj2, dj, ej']) ?_), k _ false (.inr ⟨rfl, fun e' hf => ?_⟩)⟩
    obtain ⟨f', ns', c', hfit, he', hs'⟩ := hf
    obtain ⟨y, hy, hno, _⟩ := line_cut hfit
    obtain ⟨ha, _, _⟩ := hc.at (hs'.trans hy) hno
    exact hn f' (by simpa [forms] using hfit.1) ha.symm
end Go.Proofs.YtdlgaidjlepepaaDoor
end

/- How the program writes a script. -/
section
set_option linter.unusedVariables false
set_option linter.unusedSimpArgs false
set_option maxRecDepth 20000
attribute [local irreducible] Go.Tk.vc Go.Tk.vops Go.Tk.vdr Go.Tk.vop Go.Tk.vfl Go.Tk.HCalls
namespace Go.Tk
open Go
theorem itext_len {e : DTollEvent} (h : evR e) : (itext e).length ≤ e.call.text.length + 200 := by
  have lC := callT_len h
  have key : ∀ f ∈ forms, (textF f e).length ≤ e.call.text.length + 200 := fun f hf => by
    obtain ⟨h1, h2, h3⟩ := forms_offs f hf
    have hn : (numsT (f.offs.map (getN e))).length ≤ 22 * f.offs.length := by
      have : ∀ os : List Nat, (∀ o ∈ os, o ≤ 4 ∧ 1 ≤ o) → (numsT (os.map (getN e))).length ≤ 22 * os.length := by
        intro os
        induction os with
        | nil => intro _; simp [numsT]
        | cons o os ih =>
          intro ho
          have h4 := ih fun x hx => ho x (List.mem_cons_of_mem _ hx)
          have h5 := decI_len' (getN_in h (ho o List.mem_cons_self).1 (ho o List.mem_cons_self).2)
          rw [List.map_cons, show numsT (getN e o :: os.map (getN e)) = (32 :: decI (getN e o)) ++ numsT (os.map (getN e)) from by simp [numsT], List.length_append, List.length_cons, List.length_cons]
          omega
      exact this _ h3
    unfold textF
    rw [List.length_append, List.length_append]
    split
    · omega
    · simp only [List.length_nil]; omega
  unfold itext
  cases hf : forms.find? (hitF · e) with
  | none => simp
  | some f => exact key f (List.mem_of_find?_eq_some hf)
end Go.Tk
namespace Go.Proofs.YtdlgaidjlepepaaDoor
open Go Go.Tk

theorem writeLine_c {h : H} {e : DTollEvent} (gl : Gl h) (hR : evR e) (ht : e.call.text.length ≤ 1048576) {R : Ending → H → Prop}
    (k : ∀ ok, (ok = true ↔ ∃ s', Fit e s') → R (.returned (.tuple #[.string ⟨(itext e).toArray⟩, .bool ok])) h) :
    HCalls Tryd.prog 18 #[.agg (cTollEvent e).toArray] h R := by
  refine HCalls_ir (args := [.agg (cTollEvent e).toArray]) Tryd.func18 ir18 ?_
  have ze := zTollEvent_eq
  simp only [str] at ze
  have hl := itext_len hR
  simp only [walk, lists, acts, mem, plain, seqs, maps, cells, resL, resV, intBin, ↓reduceIte, Nat.reduceAdd, Nat.reduceSub, Nat.reduceMul, Nat.reduceLeDiff, Nat.reduceEqDiff, Int.reduceToNat, Int.reduceEq, Int.reduceLT, Int.reduceLE, Int.reduceNeg, Int.reduceAdd, Int.reduceSub, Int.reduceMul, Nat.reducePow, Int.reduceNegSucc, wTollEvent, str, ze]
  refine newB_intro fun j1 hj1 => ?_
  simp only [walk, lists, acts, mem, plain, seqs, maps, cells, resL, resV, intBin, ↓reduceIte, Nat.reduceAdd, Nat.reduceSub, Nat.reduceMul, Nat.reduceLeDiff, Nat.reduceEqDiff, Int.reduceToNat, Int.reduceEq, Int.reduceLT, Int.reduceLE, Int.reduceNeg, Int.reduceAdd, Int.reduceSub, Int.reduceMul, Nat.reducePow, Int.reduceNegSucc, wTollEvent, str, ze]
  refine newB_intro fun j4 hj4 => ?_
  have n4 := hj4
  simp only [subs] at n4
  simp only [walk, lists, acts, mem, plain, seqs, maps, cells, resL, resV, intBin, ↓reduceIte, Nat.reduceAdd, Nat.reduceSub, Nat.reduceMul, Nat.reduceLeDiff, Nat.reduceEqDiff, Int.reduceToNat, Int.reduceEq, Int.reduceLT, Int.reduceLE, Int.reduceNeg, Int.reduceAdd, Int.reduceSub, Int.reduceMul, Nat.reducePow, Int.reduceNegSucc, wTollEvent, str, ze]
  have s1 : Tk.Sub h ((j1, blk (cTollEvent e) 41) :: h) := Sub.cons hj1 (Sub.refl _)
  have s2 := s1.trans (Sub.cons (o := blk (cTollEvent e) 74) hj4 (Sub.refl _))
  refine text_c (gl.sub s2) (hget_same _ _ _) hR (by omega) ?_
  simp only [walk, lists, acts, mem, plain, seqs, maps, cells, resL, resV, intBin, ↓reduceIte, Nat.reduceAdd, Nat.reduceSub, Nat.reduceMul, Nat.reduceLeDiff, Nat.reduceEqDiff, Int.reduceToNat, Int.reduceEq, Int.reduceLT, Int.reduceLE, Int.reduceNeg, Int.reduceAdd, Int.reduceSub, Int.reduceMul, Nat.reducePow, Int.reduceNegSucc, wTollEvent, str, ze]
  refine readLine_c (gl.sub s2) (by omega) fun e' ok ho => ?_
  simp only [walk, lists, acts, mem, plain, seqs, maps, cells, resL, resV, intBin, ↓reduceIte, Nat.reduceAdd, Nat.reduceSub, Nat.reduceMul, Nat.reduceLeDiff, Nat.reduceEqDiff, Int.reduceToNat, Int.reduceEq, Int.reduceLT, Int.reduceLE, Int.reduceNeg, Int.reduceAdd, Int.reduceSub, Int.reduceMul, Nat.reducePow, Int.reduceNegSucc, wTollEvent, str, ze]
  refine newB_intro fun j6 hj6 => ?_
  have n6 := hj6
  simp only [subs] at n6
  have e16 : ¬ j1 = j6 := fun e => n6.2.1 e.symm
  have e14 : ¬ j1 = j4 := fun e => n4.1 e.symm
  have same := ho.same (e := e) fun s' f => (itext_fit f).symm
  simp only [walk, lists, acts, mem, plain, seqs, maps, cells, resL, resV, intBin, ↓reduceIte, Nat.reduceAdd, Nat.reduceSub, Nat.reduceMul, Nat.reduceLeDiff, Nat.reduceEqDiff, Int.reduceToNat, Int.reduceEq, Int.reduceLT, Int.reduceLE, Int.reduceNeg, Int.reduceAdd, Int.reduceSub, Int.reduceMul, Nat.reducePow, Int.reduceNegSucc, wTollEvent, str, ze]
  refine vc_draw _ (Sub.refl _) ?_
  have sub6 : Tk.Sub h ((j6, blk (cTollEvent e') 41) :: (j4, blk (cTollEvent e) 74) :: (j1, blk (cTollEvent e) 41) :: h) := s2.trans (Sub.cons hj6 (Sub.refl _))
  cases ok with
  | false =>
    simp only [walk, lists, acts, mem, plain, seqs, maps, cells, resL, resV, intBin, ↓reduceIte, Nat.reduceAdd, Nat.reduceSub, Nat.reduceMul, Nat.reduceLeDiff, Nat.reduceEqDiff, Int.reduceToNat, Int.reduceEq, Int.reduceLT, Int.reduceLE, Int.reduceNeg, Int.reduceAdd, Int.reduceSub, Int.reduceMul, Nat.reducePow, Int.reduceNegSucc, wTollEvent, str]
    exact ⟨h, sub6, k false (by rw [same]; simp)⟩
  | true =>
    simp only [walk, lists, acts, mem, plain, seqs, maps, cells, resL, resV, intBin, ↓reduceIte, Nat.reduceAdd, Nat.reduceSub, Nat.reduceMul, Nat.reduceLeDiff, Nat.reduceEqDiff, Int.reduceToNat, Int.reduceEq, Int.reduceLT, Int.reduceLE, Int.reduceNeg, Int.reduceAdd, Int.reduceSub, Int.reduceMul, Nat.reducePow, Int.reduceNegSucc, wTollEvent, str, e16, e14]
    refine event_eq (.inl rfl) ?_
    simp only [walk, lists, acts, mem, plain, seqs, maps, cells, resL, resV, intBin, ↓reduceIte, Nat.reduceAdd, Nat.reduceSub, Nat.reduceMul, Nat.reduceLeDiff, Nat.reduceEqDiff, Int.reduceToNat, Int.reduceEq, Int.reduceLT, Int.reduceLE, Int.reduceNeg, Int.reduceAdd, Int.reduceSub, Int.reduceMul, Nat.reducePow, Int.reduceNegSucc, wTollEvent]
    exact ⟨h, sub6, k _ (by rw [same]; simp)⟩

theorem implWrite_c {h : H} {v : Value} {l : List DTollEvent} (gl : Gl h) (r : rLs h cTollEvent 11 v l) (hl : l.length ≤ 1048576) (hR : ∀ e ∈ l, evR e) (ht : ∀ e ∈ l, e.call.text.length ≤ 1048576) {R : Ending → H → Prop}
    (k1 : okW l → R (.returned (.string ⟨(lines l).toArray⟩)) h) (k2 : ¬ okW l → R (.returned (.string ⟨#[]⟩)) h) : HCalls Tryd.prog 8 #[v] h R := by
  refine HCalls_ir (args := [v]) Tryd.func8 ir8 ?_
  have ze := zTollEvent_eq
  simp only [str] at ze
  simp only [walk, lists, acts, mem, plain, seqs, maps, cells, resL, resV, intBin, ↓reduceIte, Nat.reduceAdd, Nat.reduceSub, Nat.reduceMul, Nat.reduceLeDiff, Nat.reduceEqDiff, Int.reduceToNat, Int.reduceEq, Int.reduceLT, Int.reduceLE, Int.reduceNeg, Int.reduceAdd, Int.reduceSub, Int.reduceMul, Nat.reducePow, Int.reduceNegSucc, str, ze]
  refine newB_intro fun jb hjb => ?_
  simp only [walk, lists, acts, mem, plain, seqs, maps, cells, resL, resV, intBin, ↓reduceIte, Nat.reduceAdd, Nat.reduceSub, Nat.reduceMul, Nat.reduceLeDiff, Nat.reduceEqDiff, Int.reduceToNat, Int.reduceEq, Int.reduceLT, Int.reduceLE, Int.reduceNeg, Int.reduceAdd, Int.reduceSub, Int.reduceMul, Nat.reducePow, Int.reduceNegSucc, str, ze, r.len]
  refine vc_loop [10] (fun n vs h' => ∃ (i : Nat) (G : H), vs = [.int .i64 i] ∧ h' = G ++ h ∧ oB jb (lines (l.take i)) G ∧ Dj G h ∧ (∀ e ∈ l.take i, ∃ s, Fit e s) ∧ (lines (l.take i)).length ≤ 60000 ∧ i ≤ l.length ∧ n = l.length - i) l.length rfl
    ⟨0, _, rfl, rfl, oB_new, by simp only [subs, hjb], by simp, by simp [lines], by omega, rfl⟩ ?_
  rintro n f h' ⟨i, G, hv, rfl, o, dj, hf, hlen, hi, rfl⟩
  simp only [List.map_cons, List.map_nil, List.cons.injEq, and_true] at hv
  simp only [walk, lists, acts, mem, plain, seqs, maps, cells, resL, resV, intBin, ↓reduceIte, Nat.reduceAdd, Nat.reduceSub, Nat.reduceMul, Nat.reduceLeDiff, Nat.reduceEqDiff, Int.reduceToNat, Int.reduceEq, Int.reduceLT, Int.reduceLE, Int.reduceNeg, Int.reduceAdd, Int.reduceSub, Int.reduceMul, Nat.reducePow, Int.reduceNegSucc, wr, hv, str, ze]
  have sh := Sub.right dj
  refine ite_lt (fun c => ?_) fun c => ?_
  · have hi2 : i < l.length := by omega
    refine idx_leaf (i := i) eE_len (r.sub sh) rfl hi2 fun b1 o1 e1 => ?_
    simp only [walk, lists, acts, mem, plain, seqs, maps, cells, resL, resV, intBin, ↓reduceIte, Nat.reduceAdd, Nat.reduceSub, Nat.reduceMul, Nat.reduceLeDiff, Nat.reduceEqDiff, Int.reduceToNat, Int.reduceEq, Int.reduceLT, Int.reduceLE, Int.reduceNeg, Int.reduceAdd, Int.reduceSub, Int.reduceMul, Nat.reducePow, Int.reduceNegSucc, e1, wTollEvent, ze]
    have hm := List.getElem_mem hi2
    refine newB_intro fun j5 hj5 => ?_
    have n5 := hj5
    simp only [subs] at n5
    simp only [walk, lists, acts, mem, plain, seqs, maps, cells, resL, resV, intBin, ↓reduceIte, Nat.reduceAdd, Nat.reduceSub, Nat.reduceMul, Nat.reduceLeDiff, Nat.reduceEqDiff, Int.reduceToNat, Int.reduceEq, Int.reduceLT, Int.reduceLE, Int.reduceNeg, Int.reduceAdd, Int.reduceSub, Int.reduceMul, Nat.reducePow, Int.reduceNegSucc, e1, wTollEvent, ze]
    have s5 := Sub.cons (o := blk (cTollEvent l[i]) 41) hj5 (Sub.refl (G ++ h))
    refine writeLine_c (gl.sub (sh.trans s5)) (hR _ hm) (ht _ hm) fun ok hok => ?_
    have il := itext_len (hR _ hm)
    have tl := ht _ hm
    have lt := lines_take hi2
    have ll := congrArg List.length lt
    simp only [List.length_append, List.length_cons, List.length_nil] at ll
    cases ok with
    | false =>
      simp only [walk, lists, acts, mem, plain, seqs, maps, cells, resL, resV, intBin, ↓reduceIte, Nat.reduceAdd, Nat.reduceSub, Nat.reduceMul, Nat.reduceLeDiff, Nat.reduceEqDiff, Int.reduceToNat, Int.reduceEq, Int.reduceLT, Int.reduceLE, Int.reduceNeg, Int.reduceAdd, Int.reduceSub, Int.reduceMul, Nat.reducePow, Int.reduceNegSucc, wTollEvent, str]
      exact ⟨h, sh.trans s5, k2 fun y => by have := hok.2 (y.1 _ hm); cases this⟩
    | true =>
      simp only [walk, lists, acts, mem, plain, seqs, maps, cells, resL, resV, intBin, ↓reduceIte, Nat.reduceAdd, Nat.reduceSub, Nat.reduceMul, Nat.reduceLeDiff, Nat.reduceEqDiff, Int.reduceToNat, Int.reduceEq, Int.reduceLT, Int.reduceLE, Int.reduceNeg, Int.reduceAdd, Int.reduceSub, Int.reduceMul, Nat.reducePow, Int.reduceNegSucc, wTollEvent, str]
      refine (blen_c o ?_).weaken s5
      simp (disch := (first | assumption | (simp only [List.length_append, List.length_cons, List.length_nil]; omega) | omega)) only [walk, lists, acts, mem, plain, seqs, maps, cells, resL, resV, intBin, ↓reduceIte, Nat.reduceAdd, Nat.reduceSub, Nat.reduceMul, Nat.reduceLeDiff, Nat.reduceEqDiff, Int.reduceToNat, Int.reduceEq, Int.reduceLT, Int.reduceLE, Int.reduceNeg, Int.reduceAdd, Int.reduceSub, Int.reduceMul, Nat.reducePow, Int.reduceNegSucc, wTollEvent, str, wrapI]
      refine ite_lt (fun c6 => ?_) fun c6 => ?_
      · exact ⟨h, sh, k2 fun y => by have := y.2; have := lines_le (l := l) (i + 1); omega⟩
      · refine bws_c o dj (by omega) fun G2 o2 d2 => ?_
        simp only [walk, lists, acts, mem, plain, seqs, maps, cells, resL, resV, intBin, ↓reduceIte, Nat.reduceAdd, Nat.reduceSub, Nat.reduceMul, Nat.reduceLeDiff, Nat.reduceEqDiff, Int.reduceToNat, Int.reduceEq, Int.reduceLT, Int.reduceLE, Int.reduceNeg, Int.reduceAdd, Int.reduceSub, Int.reduceMul, Nat.reducePow, Int.reduceNegSucc, wTollEvent, str]
        refine bwb_c (c := 10) o2 d2 (by rw [List.length_append]; omega) fun G3 o3 d3 => ?_
        simp (disch := omega) only [walk, lists, acts, mem, plain, seqs, maps, cells, resL, resV, intBin, ↓reduceIte, Nat.reduceAdd, Nat.reduceSub, Nat.reduceMul, Nat.reduceLeDiff, Nat.reduceEqDiff, Int.reduceToNat, Int.reduceEq, Int.reduceLT, Int.reduceLE, Int.reduceNeg, Int.reduceAdd, Int.reduceSub, Int.reduceMul, Nat.reducePow, Int.reduceNegSucc, wTollEvent, str, wrapI]
        refine ⟨l.length - (i + 1), by omega, _, .refl _, i + 1, G3, by simp, rfl, ?_, d3, fun e he => ?_, by omega, by omega, rfl⟩
        · rw [lt, ← List.append_assoc]; exact o3
        · rw [List.take_succ_eq_append_getElem hi2] at he
          rcases List.mem_append.1 he with he | he
          · exact hf e he
          · rw [List.mem_singleton] at he
            subst he
            exact hok.1 rfl
  · have hi2 : i = l.length := by omega
    subst hi2
    rw [List.take_length] at hf hlen o
    refine bstr_c o dj (by omega) ?_
    simp only [walk, lists, acts, mem, plain, seqs, maps, cells, resL, resV, intBin, ↓reduceIte, Nat.reduceAdd, Nat.reduceSub, Nat.reduceMul, Nat.reduceLeDiff, Nat.reduceEqDiff, Int.reduceToNat, Int.reduceEq, Int.reduceLT, Int.reduceLE, Int.reduceNeg, Int.reduceAdd, Int.reduceSub, Int.reduceMul, Nat.reducePow, Int.reduceNegSucc, str]
    exact .of (k1 ⟨hf, hlen⟩)
end Go.Proofs.YtdlgaidjlepepaaDoor
end
