/- Parts of the proof. -/
import Derived.Shelf.Strings.Builder1
import Derived.Laws.Externs
import Derived.OpenShut
import Derived.RangeFuncLeaves
import Derived.Test.YtjioiemhgbkbfaaGreatDoorK155
import Derived.Test.YtjioiemhgbkbfaaGreatDoorK156
import Derived.Test.YtjioiemhgbkbfaaGreatDoorK159
import Derived.Test.YtjioiemhgbkbfaaGreatDoorK154
set_option maxHeartbeats 4000000
set_option maxRecDepth 100000
set_option linter.unusedVariables false
set_option linter.unusedSimpArgs false
set_option linter.defProp false
section
attribute [local irreducible] Go.Tk.vc Go.Tk.vops Go.Tk.vdr Go.Tk.vop Go.Tk.vfl Go.Tk.HCalls
namespace Go.Tk
open Go
theorem qMK (c : UInt8) : ∀ (s : List UInt8), ∃ a b f, CutO c s a b f /\ Lib.indexByte s c = (if f = true then (a.length : Int) else -1) := by
 intro s
 induction s with
 | nil => exact ⟨[], [], false, ⟨by simp, .inr ⟨rfl, rfl, rfl⟩⟩, rfl⟩
 | cons x s ih =>
  by_cases hx : x = c
  ·refine ⟨[], s, true, ⟨by simp, .inl ⟨rfl, by rw [hx]; rfl⟩⟩, ?_⟩
   simp [Lib.indexByte, hx]
  ·obtain ⟨a, b, f, ⟨h1, h2⟩, h3⟩ := ih
   refine ⟨x :: a, b, f, ⟨fun m => ?_, ?_⟩, ?_⟩
   ·rcases List.mem_cons.1 m with e | m
    ·exact hx e.symm
    ·exact h1 m
   ·rcases h2 with ⟨rfl, h2⟩ | ⟨rfl, h2, h4⟩
    ·exact .inl ⟨rfl, by rw [h2]; rfl⟩
    ·exact .inr ⟨rfl, by rw [h2], h4⟩
   ·unfold Lib.indexByte
    have hb : (x == c) = false := by simpa using hx
    rw [hb, h3]
    cases f
    ·rfl
    ·have : ((a.length : Int) == -1) = false := beq_eq_false_iff_ne.2 (by omega)
     simp [this]
end Go.Tk
namespace Go.Proofs.YtjioiemhgbkbfaaGreatDoor
open Go Go.Tk
theorem qRR {h : H} {s : List UInt8} {c : UInt8} {R : Ending -> H -> Prop} (k : R (.returned (.int .i64 (Lib.indexByte s c))) h) :
  HCalls Tryz.prog 212 #[.string ⟨s.toArray⟩, .int .u8 c.toNat] h R := by
 refine .of_calls fun w st => ?_
 refine (Tryz.stringslite_IndexByte ⟨s.toArray⟩ c.toNat w).mono ?_
 rintro e w' ⟨rfl, rfl⟩
 have e1 : ((c.toNat : Int)).toNat.toUInt8 = c := by simp
 rw [e1]
 exact ⟨h, k, .refl st⟩
theorem index_c {h : H} {s : List UInt8} {c : UInt8} {R : Ending -> H -> Prop} (k : R (.returned (.int .i64 (Lib.indexByte s c))) h) :
  HCalls Tryz.prog 206 #[.string ⟨s.toArray⟩, .string ⟨#[c]⟩] h R := by
 have e1 : (⟨#[c]⟩ : ByteArray) = ⟨[c].toArray⟩ := rfl
 rw [e1]
 refine qD lite (args := [.string ⟨s.toArray⟩, .string ⟨[c].toArray⟩]) Tryz.func206 ?_
 conv => arg 2; cbv
 rw [qR]
 have o1 : ((1 : Nat) : Int) = 1 := rfl
 simp only [wK, seval, o1, xP, List.getElem?_cons_zero]
 split
 ·rename_i e
  have e2 : s = [c] := by
   have := congrArg (fun a : ByteArray => a.data.toList) e
   simpa using this.symm
  subst e2
  have e3 : Lib.indexByte [c] c = 0 := by simp [Lib.indexByte]
  rw [e3] at k
  exact .of k
 ·refine qRR ?_
  simp only [wK, seval]
  exact .of k
theorem cutL_c {h : H} {s : List UInt8} {c : UInt8} {R : Ending -> H -> Prop} (hs : s.length <= 4194304) (k : ∀ a b f, CutO c s a b f -> R (.returned (.tuple #[.string ⟨a.toArray⟩, .string ⟨b.toArray⟩, .bool f])) h) :
  HCalls Tryz.prog 199 #[.string ⟨s.toArray⟩, .string ⟨#[c]⟩] h R := by
 have e1 : (⟨#[c]⟩ : ByteArray) = ⟨[c].toArray⟩ := rfl
 rw [e1]
 refine qD lite (args := [.string ⟨s.toArray⟩, .string ⟨[c].toArray⟩]) Tryz.func199 ?_
 conv => arg 2; cbv
 simp only [wK, seval, str]
 refine index_c ?_
 obtain ⟨a, b, f, hc, hi⟩ := qMK c s
 rw [hi]
 have k := k a b f hc
 obtain ⟨h1, ⟨rfl, h2⟩ | ⟨rfl, h2, h3⟩⟩ := hc
 ·have o1 : ((1 : Nat) : Int) = 1 := rfl
  simp only [if_true, wK, seval]
  refine zV (fun _ => ?_) fun x => absurd x (by omega)
  refine zC _ (Sub.refl _) ?_
  have e3 : (a.length : Int) + 1 = ((a.length + 1 : Nat) : Int) := by omega
  have hl : s.length = a.length + (b.length + 1) := by rw [h2]; simp
  simp (disch := omega) only [wK, seval, o1, e3, qK]
  refine ⟨⟨by omega, by omega⟩, ⟨by omega, by omega⟩, .of ?_⟩
  have t1 : List.take a.length s = a := by rw [h2]; simp
  have t2 : List.drop (a.length + 1) s = b := by rw [h2, List.drop_append]; simp
  rw [t1, t2]; exact k
 ·subst h2 h3
  simp only [Bool.false_eq_true, if_false, wK, seval, str]
  exact .of k
theorem cut_c {h : H} {s : List UInt8} {c : UInt8} {R : Ending -> H -> Prop} (hs : s.length <= 4194304) (k : ∀ a b f, CutO c s a b f -> R (.returned (.tuple #[.string ⟨a.toArray⟩, .string ⟨b.toArray⟩, .bool f])) h) :
  HCalls Tryz.prog 191 #[.string ⟨s.toArray⟩, .string ⟨#[c]⟩] h R := by
 have e1 : (⟨#[c]⟩ : ByteArray) = ⟨[c].toArray⟩ := rfl
 rw [e1]
 refine qD lite (args := [.string ⟨s.toArray⟩, .string ⟨[c].toArray⟩]) Tryz.func191 ?_
 conv => arg 2; cbv
 simp only [wK, seval, str]
 refine cutL_c hs fun a b f hc => ?_
 simp only [wK, seval]
 exact .of (k a b f hc)
end Go.Proofs.YtjioiemhgbkbfaaGreatDoor
end

section
namespace Go.Tk
open Go Go.Shelf Go.RowKit Go.Proofs
variable {P : Program} {ρ : Ren}
theorem qSY (L : Lays.n169 P ρ) (X : Builder.Extra P ρ) (b g cap : Nat) (p : Value) (cur : Array Value) (l : List UInt8) (w : World) (h0 : l ≠ [])
  (hbk : w.heap[b]? = some (.cells #[p, .slice (some ⟨g, 0, none⟩) l.length cap] (ρ.t 72) (0, 0))) (hg : w.heap[g]? = some (.cells cur (ρ.t 5) (0, 0))) (hcap : l.length <= cap) (hcs : cur.size = cap) (hmax : l.length <= 9223372036854775807)
  (hcur : ∀ (j : Nat) (x : UInt8), l[j]? = some x -> cur[j]? = some (Value.int .u8 x.toNat)) :
  Calls P (ρ.f 169) #[.pointer (some ⟨b, 0, none⟩)] w fun e w' => e = .returned (.string ⟨l.toArray⟩) /\ w' = w.drew.freeze ⟨g, 0, none⟩ l.length := by
 have hl0 : l.length ≠ 0 := by simpa using h0
 have c1 : w.drew.cell? ⟨b, 1, none⟩ = some (.slice (some ⟨g, 0, none⟩) l.length cap) := by
  have : w.drew.heap[b]? = some (.cells #[p, .slice (some ⟨g, 0, none⟩) l.length cap] (ρ.t 72) (0, 0)) := hbk
  rw [Lib.cell_of_heap this]; rfl
 have hSD : (Builtin.unsafeSliceData_ #[(ρ.t 37)] (ρ.t 127) #[.slice (some ⟨g, 0, none⟩) l.length cap]).run P w.drew = .ok (.pointer (some ⟨g, 0, none⟩)) w.drew :=
  Lib.run_unsafeSliceData_row _ _ _ _ _ _ (by omega)
 have hUS : (Builtin.unsafeString_ #[(ρ.t 127), (ρ.t 3)] (ρ.t 9) #[.pointer (some ⟨g, 0, none⟩), .int .i64 l.length]).run P w.drew = .ok (.string ⟨l.toArray⟩) (w.drew.freeze ⟨g, 0, none⟩ l.length) := by
  refine Lib.run_unsafeString_row w.drew (ρ.t 127) (ρ.t 3) (ρ.t 9) (ρ.t 5) L.t127 X.cellsByte g cur.size (by have hg' : w.drew.heap[g]? = some (.cells cur (ρ.t 5) (0, 0)) := hg; simp [World.shape?, hg']) l h0 (by omega) hmax ?_
  intro j x hx
  have hg' : w.drew.heap[g]? = some (.cells cur (ρ.t 5) (0, 0)) := hg
  have : ((⟨g, 0, none⟩ : Addr).add j) = ⟨g, j, none⟩ := by
   unfold Addr.add
   split
   ·rename_i e; rw [e]
   ·simp
  rw [this, Lib.cell_of_heap hg']
  exact hcur j x hx
 have mixed := L.mixed
 have t72 := L.t72; have a72 := L.a72; have z72 := L.z72; have v72 := L.v72; have u72 := run_underlying L.t72
 have t70 := L.t70; have a70 := L.a70; have z70 := L.z70; have v70 := L.v70; have u70 := run_underlying L.t70
 have t37 := L.t37; have a37 := L.a37; have z37 := L.z37; have v37 := L.v37; have u37 := run_underlying L.t37
 have t127 := L.t127; have a127 := L.a127; have z127 := L.z127; have v127 := L.v127; have u127 := run_underlying L.t127
 have t3 := L.t3; have a3 := L.a3; have z3 := L.z3; have v3 := L.v3; have u3 := run_underlying L.t3
 have t9 := L.t9; have a9 := L.a9; have z9 := L.z9; have v9 := L.v9; have u9 := run_underlying L.t9
 have t5 := X.t5; have a5 := X.a5; have z5 := X.z5; have v5 := X.v5; have u5 := run_underlying X.t5
 go_enter L.f169, Body.n169_ntmps ρ
 go_wp2
 go_region_o
 all_goals (go_wp2; go_ret; exact ⟨rfl, rfl⟩)
end Go.Tk
namespace Go.Proofs.YtjioiemhgbkbfaaGreatDoor
open Go Go.Tk Go.RowKit
theorem sizeB : (Tryz.prog.info? 308).map (·.size) = some 2 := by kernel_rfl
theorem liesB : liesAt Tryz.prog Tryz.prog.depth 308 (2 / Tryz.prog.cellsOf 308) 0 308 1 = true := by kernel_rfl
theorem qWR (b : Nat) (w : World) (h0 : w.cell? ⟨b, 0, none⟩ = some (.pointer (some ⟨b, 0, none⟩))) :
  Calls Tryz.prog 211 #[.pointer (some ⟨b, 0, none⟩)] w fun e w' => e = .returned (.tuple #[]) /\ w' = w := by
 obtain ⟨j, hj, _⟩ := Option.map_eq_some_iff.1 sizeB
 go_enter Tryz.func211, Tryz.ntmps211
 go_wp2
 rw [Lib.run_neq_ptr_same w _ Tryz.underlying306 hj]
 go_wp2
 go_end0
 exact ⟨rfl, rfl⟩
theorem qSX (b : Nat) (w : World) (h0 : w.cell? ⟨b, 0, none⟩ = some (.pointer none)) (hsh : w.shape? b = some (308, 2)) (hfz : w.frozen? ⟨b, 0, none⟩ = false) :
  Calls Tryz.prog 211 #[.pointer (some ⟨b, 0, none⟩)] w fun e w' => e = .returned (.tuple #[]) /\ w' = w.setCell ⟨b, 0, none⟩ (.pointer (some ⟨b, 0, none⟩)) := by
 obtain ⟨j, hj, hjs⟩ := Option.map_eq_some_iff.1 sizeB
 go_enter Tryz.func211, Tryz.ntmps211
 go_wp2
 rw [Lib.run_to_unsafe w ⟨b, 0, none⟩ Tryz.underlying306 Tryz.underlying332 hj (by rw [hjs]; decide) hsh (Nat.zero_lt_succ 1)]
 simp only [Result.andThen]
 rw [Oper.upon_value]
 go_wp2
 rw [run_callFunc_extern Tryz.func224 (by kernel_rfl) (by kernel_rfl) (by kernel_rfl) (e := Extern.AbiNoEscape.same) (by kernel_rfl)]
 rw [Lib.run_noEscape]
 simp only [Result.andThen]
 rw [Oper.upon_value]
 go_wp2
 rw [Lib.run_from_unsafe w ⟨b, 0, none⟩ Tryz.underlying332 Tryz.underlying306 hj hsh liesB]
 simp only [Result.andThen]
 rw [Oper.upon_value]
 go_wp2
 go_end0
 exact ⟨rfl, rfl⟩
end Go.Proofs.YtjioiemhgbkbfaaGreatDoor
end

section
namespace Go.Tk
open Go
end Go.Tk
end

section
namespace Go.Tk
open Go
theorem qEX {n : Int} (h : n < 0) : decI n = 45 :: decN (-n).toNat := by unfold decI; rw [if_pos h]
theorem qEW {n : Int} (h : 0 <= n) : decI n = decN n.toNat := by unfold decI; rw [if_neg (by omega)]
theorem zIS (n : Int) : ∀ b ∈ decI n, b = 45 ∨ digP b := by
 intro b hb
 by_cases h : n < 0
 ·rw [qEX h] at hb
  rcases List.mem_cons.1 hb with rfl | hb
  ·exact .inl rfl
  ·exact .inr (uR _ b hb)
 ·rw [qEW (by omega)] at hb
  exact .inr (uR _ b hb)
theorem qYM {n : Int} {c : UInt8} (h : c ≠ 45) (hd : ¬ digP c) : c ∉ decI n := fun m => by
 rcases zIS n c m with e | e
 ·exact h e
 ·exact hd e
theorem qFV (n : Int) : (32 : UInt8) ∉ decI n := qYM (by decide) (by unfold digP; decide)
theorem qMX (n : Int) : (59 : UInt8) ∉ decI n := qYM (by decide) (by unfold digP; decide)
theorem decI_ne (n : Int) : decI n ≠ [] := fun e => by
 by_cases h : n < 0
 ·rw [qEX h] at e; cases e
 ·rw [qEW (by omega)] at e
  have := qBQ n.toNat
  rw [e] at this
  simp at this
def nmD (n : Int) : List UInt8 := if n = 1 then [103, 101, 116] else if n = 2 then [112, 117, 116] else if n = 3 then [97, 100, 100] else [110, 101, 101, 100]
theorem qUW (n : Int) : qAI n = nmD n ++ [32] := by
 unfold qAI nmD
 repeat' split
 all_goals rfl
theorem zGN (n : Int) : (32 : UInt8) ∉ nmD n /\ (59 : UInt8) ∉ nmD n /\ nmD n ≠ [] := by
 unfold nmD
 repeat' split
 all_goals decide
theorem nmD_inj {m n : Int} (hm : 1 <= m /\ m <= 4) (hn : 1 <= n /\ n <= 4) (h : nmD m = nmD n) : m = n := by
 have e1 : m = 1 ∨ m = 2 ∨ m = 3 ∨ m = 4 := by omega
 have e2 : n = 1 ∨ n = 2 ∨ n = 3 ∨ n = 4 := by omega
 rcases e1 with rfl | rfl | rfl | rfl <;> rcases e2 with rfl | rfl | rfl | rfl <;> first | rfl | (exfalso; revert h; decide)
def stW (s : DStatement) : List UInt8 := nmD s.do_ ++ 32 :: (decI s.key ++ (if s.do_ = 1 then [] else 32 :: decI s.num))
theorem qQH (s : DStatement) : uX s = stW s ++ [59] := by
 unfold uX stW
 rw [qUW]
 simp
def uW (s : DStatement) : List (List UInt8) := nmD s.do_ :: decI s.key :: (if s.do_ = 1 then [] else [decI s.num])
theorem qLS (s : DStatement) : splitB 32 (stW s) = uW s := by
 unfold stW uW
 rw [jN _ (zGN _).1]
 congr 1
 split
 ·rw [List.append_nil, jY (qFV _)]
 ·rw [jN _ (qFV _), jY (qFV _)]
theorem qQG (s : DStatement) : (59 : UInt8) ∉ stW s := by
 unfold stW
 intro m
 rcases List.mem_append.1 m with m | m
 ·exact (zGN _).2.1 m
 ·rcases List.mem_cons.1 m with m | m
  ·exact absurd m (by decide)
  ·rcases List.mem_append.1 m with m | m
   ·exact qMX _ m
   ·split at m
    ·cases m
    ·rcases List.mem_cons.1 m with m | m
     ·exact absurd m (by decide)
     ·exact qMX _ m
theorem uK (s : DStatement) (l : List DStatement) : zR (s :: l) = stW s ++ 59 :: zR l := by
 have : zR (s :: l) = uX s ++ zR l := by simp [zR]
 rw [this, qQH]; simp
theorem qJR : ∀ l : List DStatement, splitB 59 (zR l) = l.map stW ++ [[]] := by
 intro l
 induction l with
 | nil => rfl
 | cons s l ih => rw [uK, jN _ (qQG s), ih]; rfl
def OutD (t : List UInt8) (l : List DStatement) (ok : Bool) : Prop := (ok = true /\ uS l /\ t = zR l /\ t.length <= 80) ∨ (ok = false /\ l = [] /\ ∀ d, uS d -> t = zR d -> t.length <= 80 -> False)
theorem qCU (c : UInt8) : ∀ s : List UInt8, (splitB c s).length <= s.length + 1 /\ ∀ w ∈ splitB c s, w.length <= s.length := by
 intro s
 induction s with
 | nil => simp [splitB]
 | cons b s ih =>
  cases e : splitB c s with
  | nil => exact absurd e (qFI c s)
  | cons w r =>
   rw [e] at ih
   obtain ⟨h1, h2⟩ := ih
   by_cases hb : b = c
   ·rw [splitB, if_pos hb, e]
    refine ⟨by simp at h1 ⊢; omega, fun x hx => ?_⟩
    rcases List.mem_cons.1 hx with rfl | hx
    ·simp
    ·have := h2 x hx; simp; omega
   ·rw [splitB, if_neg hb, e]
    refine ⟨by simp at h1 ⊢; omega, fun x hx => ?_⟩
    rcases List.mem_cons.1 hx with rfl | hx
    ·have := h2 w List.mem_cons_self; simp; omega
    ·have := h2 x (List.mem_cons_of_mem _ hx); simp; omega
def sm99 (n : Int) : Prop := -99999 <= n /\ n <= 99999
theorem qNV {s : DStatement} (h : stP s) : sm99 s.key /\ sm99 s.num := by
 obtain ⟨_, h2, h3, _⟩ := h
 unfold inP at h2
 unfold valP inP at h3
 unfold sm99
 omega
def sessP (n : Int) : Prop := inP 0 2 n
def zIU (t : List UInt8) : Prop := ∃ d, uS d /\ t = zR d /\ t.length <= 80
theorem OutD.iff {t : List UInt8} {l : List DStatement} {ok : Bool} (h : OutD t l ok) : ok = true ↔ zIU t := by
 rcases h with ⟨h1, p, e, z⟩ | ⟨h1, _, n⟩
 ·exact ⟨fun _ => ⟨l, p, e, z⟩, fun _ => h1⟩
 ·exact ⟨fun x => (by rw [h1] at x; cases x), fun ⟨d, a, b, c⟩ => (n d a b c).elim⟩
def formP (c : DCall) : Prop := sessP c.session /\ inP 1 99 c.number /\ ((c.kind = 1 /\ c.slot = 0 /\ c.to = 0 /\ c.text.length <= 80) ∨ (c.kind = 2 /\ c.text = [] /\ qIG c.slot /\ xH c.to))
def qFB (c : DCall) : Prop := formP c /\ (c.kind = 1 -> zIU c.text)
end Go.Tk
end

section
attribute [local irreducible] Go.Tk.vc Go.Tk.vops Go.Tk.vdr Go.Tk.vop Go.Tk.vfl Go.Tk.HCalls
namespace Go.Proofs.YtjioiemhgbkbfaaGreatDoor
open Go Go.Tk
theorem tBytes : Tryz.prog.underlying 298 = some (.slice 5) := by kernel_rfl
theorem tStrs : Tryz.prog.underlying 264 = some (.slice 9) := by kernel_rfl
theorem zFH : Tryz.prog.underlying 61 = some (.slice 3) := by kernel_rfl
theorem jX : Tryz.prog.underlying 224 = some (.slice 267) := by kernel_rfl
theorem tSteps : Tryz.prog.underlying 303 = some (.slice 310) := by kernel_rfl
theorem qNR : Tryz.prog.underlying 62 = some (.slice 175) := by kernel_rfl
theorem zFG : Tryz.prog.underlying 55 = some (.slice 137) := by kernel_rfl
theorem tString : Tryz.prog.underlying 9 = some .string := by kernel_rfl
theorem iByte : wP Tryz.prog 5 1 1 := vY (by kernel_rfl)
theorem iStr : wP Tryz.prog 9 1 16 := vY (by kernel_rfl)
theorem iInt : wP Tryz.prog 3 1 8 := vY (by kernel_rfl)
theorem qAL : wP Tryz.prog 267 3 24 := vY (by kernel_rfl)
theorem iStep : wP Tryz.prog 310 1 16 := vY (by kernel_rfl)
theorem qYD : wP Tryz.prog 175 2 16 := vY (by kernel_rfl)
theorem iRec : wP Tryz.prog 137 6 80 := vY (by kernel_rfl)
theorem yO {a b c : Int} {h : H} {R : Ending -> H -> Prop} (k : Asks R (inP b c a) h) : HCalls Tryz.prog 61 #[.int .i64 a, .int .i64 b, .int .i64 c] h R := by
 refine qD lite (args := [.int .i64 a, .int .i64 b, .int .i64 c]) Tryz.func61 ?_
 conv => arg 2; cbv
 simp only [wK, seval]
 refine zV (fun x => dP.of (k _ ?_)) fun x => .of (k.no fun p => x p.1)
 simp [inP, x]
theorem zY {a b c : Int} {h : H} {R : Ending -> H -> Prop} (k : Asks R (inP b c a) h) : HCalls Tryz.prog 16 #[.int .i64 a, .int .i64 b, .int .i64 c] h R := by
 refine qD lite (args := [.int .i64 a, .int .i64 b, .int .i64 c]) Tryz.func16 ?_
 conv => arg 2; cbv
 simp only [wK, seval]
 refine zV (fun x => dP.of (k _ ?_)) fun x => .of (k.no fun p => x p.1)
 simp [inP, x]
theorem qON {a : Int} {h : H} {R : Ending -> H -> Prop} (k : Asks R (keyP a) h) : HCalls Tryz.prog 175 #[.int .i64 a] h R := by
 refine qD lite (args := [.int .i64 a]) Tryz.func175 ?_
 conv => arg 2; cbv
 simp only [wK, seval]
 refine yO fun b hb => ?_
 simp only [wK, seval]
 exact .of (k b hb)
theorem qOM {a : Int} {h : H} {R : Ending -> H -> Prop} (k : Asks R (valP a) h) : HCalls Tryz.prog 174 #[.int .i64 a] h R := by
 refine qD lite (args := [.int .i64 a]) Tryz.func174 ?_
 conv => arg 2; cbv
 simp only [wK, seval]
 refine yO fun b hb => ?_
 simp only [wK, seval]
 exact .of (k b hb)
theorem qEI {a : Int} {h : H} {R : Ending -> H -> Prop} (k : Asks R (qIG a) h) : HCalls Tryz.prog 153 #[.int .i64 a] h R := by
 refine qD lite (args := [.int .i64 a]) Tryz.func153 ?_
 conv => arg 2; cbv
 simp only [wK, seval]
 refine yO fun b hb => ?_
 simp only [wK, seval]
 exact .of (k b hb)
theorem jG {a : Int} {h : H} {R : Ending -> H -> Prop} (k : Asks R (xH a) h) : HCalls Tryz.prog 123 #[.int .i64 a] h R := by
 refine qD lite (args := [.int .i64 a]) Tryz.func123 ?_
 conv => arg 2; cbv
 simp only [wK, seval]
 refine yO fun b hb => ?_
 simp only [wK, seval]
 exact .of (k b hb)
theorem qOK {a : Int} {h : H} {R : Ending -> H -> Prop} (k : Asks R (valP a) h) : HCalls Tryz.prog 96 #[.int .i64 a] h R := by
 refine qD lite (args := [.int .i64 a]) Tryz.func96 ?_
 conv => arg 2; cbv
 simp only [wK, seval]
 refine zY fun b hb => ?_
 simp only [wK, seval]
 exact .of (k b hb)
theorem jR {a : Int} {h : H} {R : Ending -> H -> Prop} (k : Asks R (xH a) h) : HCalls Tryz.prog 44 #[.int .i64 a] h R := by
 refine qD lite (args := [.int .i64 a]) Tryz.func44 ?_
 conv => arg 2; cbv
 simp only [wK, seval]
 refine zY fun b hb => ?_
 simp only [wK, seval]
 exact .of (k b hb)
theorem qGP {a : Int} {h : H} {R : Ending -> H -> Prop} (k : Asks R (sessP a) h) : HCalls Tryz.prog 154 #[.int .i64 a] h R := by
 refine qD lite (args := [.int .i64 a]) Tryz.func154 ?_
 conv => arg 2; cbv
 simp only [wK, seval]
 refine yO fun b hb => ?_
 simp only [wK, seval]
 exact .of (k b hb)
end Go.Proofs.YtjioiemhgbkbfaaGreatDoor
end

section
attribute [local irreducible] Go.Tk.vc Go.Tk.vops Go.Tk.vdr Go.Tk.vop Go.Tk.vfl Go.Tk.HCalls
namespace Go.Tk
open Go
theorem rLs.vc {α : Type} {h : H} {enc : α -> List Value} {sz : Nat} {v : Value} {l : List α} (r : rLs h enc sz v l) : zF v = [v] := by
 obtain ⟨_, ⟨rfl, _⟩ | ⟨b, k, cap, rfl, _, _⟩⟩ := r <;> rfl
end Go.Tk
namespace Go.Proofs.YtjioiemhgbkbfaaGreatDoor
open Go Go.Tk
theorem zJA {h : H} {b : Nat} {p v : Value} (hp : p = .pointer none ∨ p = .pointer (some ⟨b, 0, none⟩)) {R : Ending -> H -> Prop} (k : R (.returned (.tuple #[])) ((b, blk [.pointer (some ⟨b, 0, none⟩), v] 308) :: h)) :
  HCalls Tryz.prog 211 #[.pointer (some ⟨b, 0, none⟩)] ((b, blk [p, v] 308) :: h) R := by
 refine .of_calls fun w s => ?_
 have hb : w.heap[b]? = some (blk [p, v] 308) := s b _ (by rw [zM, if_pos rfl])
 have hc : w.cell? ⟨b, 0, none⟩ = some p := by rw [Lib.cell_of_heap hb]; rfl
 rcases hp with rfl | rfl
 ·refine (qSX b w hc (by unfold World.shape?; rw [hb]; rfl) (by unfold World.frozen?; rw [hb]; rfl)).mono ?_
  rintro e w' ⟨rfl, rfl⟩
  refine ⟨_, k, ?_⟩
  have hnew : (w.setCell ⟨b, 0, none⟩ (.pointer (some ⟨b, 0, none⟩))).heap[b]? = some (blk [.pointer (some ⟨b, 0, none⟩), v] 308) := by
   simp only [World.setCell, Array.getElem?_modify, if_true, hb, Option.map_some]
   rfl
  have hold : ∀ j, j ≠ b -> (w.setCell ⟨b, 0, none⟩ (.pointer (some ⟨b, 0, none⟩))).heap[j]? = w.heap[j]? := fun j hj => by
   simp only [World.setCell, Array.getElem?_modify]
   rw [if_neg (fun e => hj e.symm)]
  have := Pst.upd (h := (b, blk [.pointer none, v] 308) :: h) s (x := blk [.pointer none, v] 308) (by rw [zM, if_pos rfl]) hnew hold rfl rfl rfl (by simp [World.setCell])
  simpa [hupd] using this
 ·refine (qWR b w hc).mono ?_
  rintro e w' ⟨rfl, rfl⟩
  exact ⟨_, k, .refl s⟩
def oB (b : Nat) (l : List UInt8) (G : H) : Prop := ∃ p v g, (p = .pointer none ∨ p = .pointer (some ⟨b, 0, none⟩)) /\ oLs 5 eB 1 v l g /\ hget g b = none /\ G = (b, blk [p, v] 308) :: g
theorem oB_new {b : Nat} : oB b [] [(b, blk [.pointer none, .slice none 0 0] 308)] := ⟨_, _, [], .inl rfl, ows.nil _ _, rfl, rfl⟩
theorem bws_c {h : H} {b : Nat} {l t : List UInt8} {G : H} (o : oB b l G) (d : Dj G h) (hl : l.length + t.length <= 140737488355328) {R : Ending -> H -> Prop} (k : ∀ G', oB b (l ++ t) G' -> Dj G' h -> R (.returned (.tuple #[.int .i64 t.length, .nilIface])) (G' ++ h)) :
  HCalls Tryz.prog 204 #[.pointer (some ⟨b, 0, none⟩), .string ⟨t.toArray⟩] (G ++ h) R := by
 refine qD lite (args := [.pointer (some ⟨b, 0, none⟩), .string ⟨t.toArray⟩]) Tryz.func204 ?_
 conv => arg 2; cbv
 rw [qR]
 obtain ⟨p, v, g, hp, ol, hg, rfl⟩ := o
 have d2 := d
 simp only [subs] at d2
 simp only [wK, seval]
 refine zJA hp ?_
 simp only [wK, seval]
 refine zJL (g := g) (h := (b, blk [.pointer (some ⟨b, 0, none⟩), v] 308) :: h) tBytes tString iByte (by (repeat' first | exact Sub.refl _ | exact Sub.nil _ | assumption | refine Sub.both ?_ ?_ | refine Sub.cons_of (by simp only [subs, hg, d2]) ?_ | exact Sub.left _ _ | refine Sub.app (by simp only [subs, hg, d2]) ?_ | refine Sub.cons (by simp only [subs, hg, d2]) ?_)) (by simp only [subs, hg, d2]) ol (by omega) hl fun v' g' o' d3 => ?_
 have d3x := d3
 have d3y := d3.symm
 simp only [subs] at d3x d3y
 have on := o'.rd.one
 have vc := o'.rd.vc
 simp only [wK, seval, apps, d3x, on, vc]
 exact ⟨((b, blk [.pointer (some ⟨b, 0, none⟩), v'] 308) :: g') ++ h, by (repeat' first | exact Sub.refl _ | exact Sub.nil _ | assumption | refine Sub.both ?_ ?_ | refine Sub.cons_of (by simp only [subs, d2, d3x, d3y]) ?_ | exact Sub.left _ _ | refine Sub.app (by simp only [subs, d2, d3x, d3y]) ?_ | refine Sub.cons (by simp only [subs, d2, d3x, d3y]) ?_), k _ ⟨_, _, g', .inr rfl, o', d3x.1, rfl⟩ (by simp only [subs, d2, d3x])⟩
theorem bstr_c {h : H} {b : Nat} {l : List UInt8} {G : H} (o : oB b l G) (d : Dj G h) (hl : l.length <= 140737488355328) {R : Ending -> H -> Prop} (k : R (.returned (.string ⟨l.toArray⟩)) h) :
  HCalls Tryz.prog 205 #[.pointer (some ⟨b, 0, none⟩)] (G ++ h) R := by
 refine .of_calls fun w s => ?_
 obtain ⟨p, v, g, hp, ol, hg, rfl⟩ := o
 have hbk : w.heap[b]? = some (blk [p, v] 308) := s b _ (by rw [List.cons_append, zM, if_pos rfl])
 have sh : Sat h w := s.sub (Sub.right d)
 obtain ⟨hn, ⟨rfl, h0, rfl⟩ | ⟨j, cap, sp, rfl, hc, hs, rfl⟩⟩ := ol
 ·have e : l = [] := List.length_eq_zero_iff.1 h0
  subst e
  refine (Any.Builder_String_nil Tryz.lays169 Tryz.Builder_Extra_169 w.heap.size b p w hbk).mono ?_
  rintro e w' ⟨rfl, hb⟩
  exact ⟨h, k, (Pst.ofBelow sh hb).more (Sub.right d)⟩
 ·have d2 := d
  simp only [subs] at d2
  have hjb : hget ((b, blk [p, .slice (some ⟨j, 0, none⟩) l.length cap] 308) :: ([(j, blk (fl eB l ++ sp) 5)] ++ h)) j = some (blk (fl eB l ++ sp) 5) := by
   rw [zM, if_neg (fun e => by subst e; simp [zM] at hg), List.singleton_append, zM, if_pos rfl]
  have hgk : w.heap[j]? = some (blk (fl eB l ++ sp) 5) := s j _ hjb
  by_cases e : l = []
  ·subst e
   by_cases c0 : cap = 0
   ·subst c0
    refine (Any.Builder_String_noroom Tryz.lays169 Tryz.Builder_Extra_169 w.heap.size b j p _ w (Nat.le_refl _) hbk hgk).mono ?_
    rintro e w' ⟨rfl, hb⟩
    exact ⟨h, k, (Pst.ofBelow sh hb).more (Sub.right d)⟩
   ·refine (Any.Builder_String_room Tryz.lays169 Tryz.Builder_Extra_169 w.heap.size b j cap p w c0 hbk).mono ?_
    rintro e w' ⟨rfl, hb⟩
    exact ⟨h, k, (Pst.ofBelow sh hb).more (Sub.right d)⟩
  ·refine (qSY Tryz.lays169 Tryz.Builder_Extra_169 b j cap p (fl eB l ++ sp).toArray l w e hbk hgk hc (by simpa using hs) (by omega) fun i x hx => ?_).mono ?_
   ·have hi := (List.getElem?_eq_some_iff.1 hx).1
    have h1 : (fl eB l)[i]? = some (Value.int .u8 x.toNat) := by
     have : fl eB l = l.map fun b => Value.int .u8 b.toNat := (qYG l).symm
     rw [this, List.getElem?_map, hx]; rfl
    rw [List.getElem?_toArray, List.getElem?_append_left (List.getElem?_eq_some_iff.1 h1).1]
    exact h1
   ·rintro e w' ⟨rfl, rfl⟩
    have hj : hget h j = none := by
     cases e : hget h j with
     | none => rfl
     | some x => exact absurd (d.of (by rw [e]; simp)) (by rw [zM]; split <;> simp [zM])
    have hr : ∀ i, i ≠ j -> (w.drew.freeze ⟨j, 0, none⟩ l.length).heap[i]? = w.heap[i]? := fun i hi => by
     unfold World.freeze
     split
     ·rfl
     ·show (w.heap.modify j _)[i]? = _
      rw [Array.getElem?_modify, if_neg (fun e => hi e.symm)]
    have hz : (w.drew.freeze ⟨j, 0, none⟩ l.length).heap.size = w.heap.size := by
     unfold World.freeze
     split
     ·rfl
     ·show (w.heap.modify j _).size = _
      simp
    refine ⟨h, k, ⟨fun i o hi => ?_, ?_, ?_, ?_, by rw [hz]; exact Nat.le_refl _, fun i hi hn => hr i fun e => ?_, fun i hi => .inl fun e => ?_⟩⟩
    ·rw [hr i fun e => by rw [e, hj] at hi; cases hi]; exact sh i o hi
    ·unfold World.freeze; split <;> rfl
    ·unfold World.freeze; split <;> rfl
    ·unfold World.freeze; split <;> rfl
    ·rw [e] at hn
     rw [List.cons_append, hjb] at hn; cases hn
    ·cases e2 : hget h i with
     | none => exact hi e2
     | some x => rw [(Sub.right d) i x e2] at e; cases e
end Go.Proofs.YtjioiemhgbkbfaaGreatDoor
end

section
attribute [local irreducible] Go.Tk.vc Go.Tk.vops Go.Tk.vdr Go.Tk.vop Go.Tk.vfl Go.Tk.HCalls
namespace Go.Tk
open Go
def i64P (n : Int) : Prop := -9223372036854775808 <= n /\ n <= 9223372036854775807
theorem qSL : decI (-9223372036854775808) = [45, 57, 50, 50, 51, 51, 55, 50, 48, 51, 54, 56, 53, 52, 55, 55, 53, 56, 48, 56] := by
 have : decI (-9223372036854775808) = 45 :: decN 9223372036854775808 := rfl
 rw [this]
 simp [jU, vA]
theorem qFW {i : Int} (h : i64P i) : (decI i).length <= 21 := by
 by_cases c : i = -9223372036854775808
 ·rw [c, qSL]; decide
 ·unfold i64P at h
  exact kU (by omega)
theorem zFE (s : List UInt8) {a i : Nat} (ha : a <= i) (hi : i < s.length) : s.drop a = (s.drop a).take (i - a) ++ s[i] :: s.drop (i + 1) := by
 have h1 : s.drop a = (s.drop a).take (i - a) ++ (s.drop a).drop (i - a) := (List.take_append_drop _ _).symm
 have h2 : (s.drop a).drop (i - a) = s[i] :: s.drop (i + 1) := by
  rw [List.drop_drop, show a + (i - a) = i by omega, List.drop_eq_getElem_cons hi]
 rw [h2] at h1
 exact h1
theorem qNO (s : List UInt8) {a i : Nat} (ha : a <= i) (hi : i < s.length) : (s.drop a).take (i + 1 - a) = (s.drop a).take (i - a) ++ [s[i]] := by
 have h : i - a < (s.drop a).length := by rw [List.length_drop]; omega
 rw [show i + 1 - a = i - a + 1 by omega, List.take_succ_eq_append_getElem h, List.getElem_drop]
 congr 2
 congr 1
 omega
end Go.Tk
namespace Go.Proofs.YtjioiemhgbkbfaaGreatDoor
open Go Go.Tk
theorem qRH : ∀ (n : Nat), n <= 9223372036854775807 -> ∀ {h : H} {R : Ending -> H -> Prop}, R (.returned (.string ⟨(decN n).toArray⟩)) h -> HCalls Tryz.prog 189 #[.int .i64 n] h R := by
 intro n
 induction n using Nat.strongRecOn with
 | _ n ih =>
  intro hn h R k
  refine qD lite (args := [.int .i64 n]) Tryz.func189 ?_
  conv => arg 2; cbv
  simp only [wK, seval]
  refine qF (fun c => absurd c (by omega)) fun _ => ?_
  refine qF (fun c => absurd c (by omega)) fun _ => ?_
  refine qF (fun c => ?_) fun c => ?_
  ·have e1 : (48 : Int) + (n : Int) = ((48 + n : Nat) : Int) := by omega
   simp (disch := omega) only [wK, seval, qK, e1, u8_of]
   refine qC (o := blk (fl eB [UInt8.ofNat (48 + n)]) 5) fun j hj => ?_
   have bt := fun f => qYR (zGC (j := j) (e := 5) (h := h) [UInt8.ofNat (48 + n)]) (f := f)
   simp only [List.length_cons, List.length_nil, Nat.zero_add] at bt
   simp only [wK, seval, bt]
   rw [vA (by omega)] at k
   exact ⟨h, Sub.cons hj (Sub.refl _), k⟩
  ·refine zC _ (Sub.refl _) ?_
   have e1 : ((n : Nat) : Int).tdiv 10 = ((n / 10 : Nat) : Int) := rfl
   have e2 : ((n : Nat) : Int).tmod 10 = ((n % 10 : Nat) : Int) := rfl
   have e3 : (48 : Int) + ((n % 10 : Nat) : Int) = ((48 + n % 10 : Nat) : Int) := by omega
   simp (disch := omega) only [wK, seval, qK, e1, e2, e3, u8_of]
   refine uN (.string ⟨(decN (n / 10)).toArray⟩) (fun R r => ih (n / 10) (by omega) (by omega) r) ?_
   simp only [wK, seval]
   refine qC (o := blk (fl eB [UInt8.ofNat (48 + n % 10)]) 5) fun j hj => ?_
   have bt := fun f => qYR (zGC (j := j) (e := 5) (h := h) [UInt8.ofNat (48 + n % 10)]) (f := f)
   simp only [List.length_cons, List.length_nil, Nat.zero_add] at bt
   have hle := qAR (n := n / 10) (by omega)
   have hsz : (decN (n / 10)).length + [UInt8.ofNat (48 + n % 10)].length <= 9223372036854775807 := by simp only [List.length_cons, List.length_nil]; omega
   have sj := qFC (o := blk (fl eB [UInt8.ofNat (48 + n % 10)]) 5) hj
   simp only [wK, seval, sj, bt, vF _ _ hsz]
   rw [jU (by omega)] at k
   exact ⟨h, Sub.cons hj (Sub.refl _), k⟩
theorem qOH {i : Int} (hi : i64P i) {h : H} {R : Ending -> H -> Prop} (k : R (.returned (.string ⟨(decI i).toArray⟩)) h) : HCalls Tryz.prog 189 #[.int .i64 i] h R := by
 unfold i64P at hi
 by_cases c : 0 <= i
 ·have e : i = ((i.toNat : Nat) : Int) := by omega
  unfold decI at k
  rw [if_neg (by omega)] at k
  rw [e]
  exact qRH i.toNat (by omega) k
 ·refine qD lite (args := [.int .i64 i]) Tryz.func189 ?_
  conv => arg 2; cbv
  simp only [wK, seval, str]
  refine qF (fun c => ?_) fun _ => ?_
  ·have e : i = -9223372036854775808 := by omega
   subst e
   rw [qSL] at k
   exact .of k
  refine qF (fun _ => ?_) fun c => absurd c (by omega)
  refine qOC (n := i) (by simp only [wK, seval]) ?_
  have e : IntKind.i64.wrap (0 - i) = (((-i).toNat : Nat) : Int) := by rw [qK _ (by omega)]; omega
  simp only [wK, seval, e]
  refine qRH (-i).toNat (by omega) ?_
  have hle := qAR (n := (-i).toNat) (by omega)
  have hsz : ([45] : List UInt8).length + (decN (-i).toNat).length <= 9223372036854775807 := by simp only [List.length_cons, List.length_nil]; omega
  simp only [wK, seval, str, vF _ _ hsz]
  unfold decI at k
  rw [if_pos (by omega)] at k
  exact .of k
theorem qOL {i : Int} (hi : -9223372036854775807 <= i /\ i <= 9223372036854775807) {h : H} {R : Ending -> H -> Prop} (k : R (.returned (.string ⟨(decI i).toArray⟩)) h) : HCalls Tryz.prog 187 #[.int .i64 i] h R := by
 refine qD lite (args := [.int .i64 i]) Tryz.func187 ?_
 conv => arg 2; cbv
 simp only [wK, seval]
 refine qF (fun c => ?_) fun c => ?_
 ·refine qOC (n := i) (by simp only [wK, seval]) ?_
  have e : IntKind.i64.wrap (0 - i) = -i := by rw [qK _ (by omega)]; omega
  simp only [wK, seval, e]
  refine qOH (by unfold i64P; omega) ?_
  have hle := kU (i := -i) (by omega)
  have hsz : ([45] : List UInt8).length + (decI (-i)).length <= 9223372036854775807 := by simp only [List.length_cons, List.length_nil]; omega
  simp only [wK, seval, str, vF _ _ hsz]
  have e2 : decI i = 45 :: decI (-i) := by
   have e3 : decI i = 45 :: decN (-i).toNat := by unfold decI; rw [if_pos c]
   have e4 : decI (-i) = decN (-i).toNat := by unfold decI; rw [if_neg (by omega)]
   rw [e3, e4]
  rw [e2] at k
  exact .of k
 ·refine qOH (by unfold i64P; omega) ?_
  simp only [wK, seval]
  exact .of k
theorem qRN {h : H} {s : List UInt8} (hs : s.length <= 4194304) {R : Ending -> H -> Prop}
  (k : ∀ (n : Int) (ok : Bool), (∀ z : Int, sm99 z -> s = decI z -> ok = true /\ n = z) -> (ok = true -> s = decI n) -> sm99 n -> R (.returned (.tuple #[.int .i64 n, .bool ok])) h) :
  HCalls Tryz.prog 169 #[.string ⟨s.toArray⟩] h R := by
 refine qD lite (args := [.string ⟨s.toArray⟩]) Tryz.func169 ?_
 conv => arg 2; cbv
 rw [qR]
 have no : (∀ z : Int, sm99 z -> s = decI z -> False) -> dP R (.returned (.tuple #[.int .i64 0, .bool false])) h := fun e => .of (k 0 false (fun z hz x => (e z hz x).elim) (fun x => by cases x) (by unfold sm99; omega))
 cases s with
 | nil =>
  have hn : ∀ z : Int, sm99 z -> [] = decI z -> False := fun z _ x => decI_ne z x.symm
  simp only [walk, qXY, acts, mem, plain, seqs, maps, cells, resL, resV, intBin, ↓reduceIte, Nat.reduceAdd, Nat.reduceSub, Nat.reduceMul, Nat.reduceLeDiff, Nat.reduceEqDiff, Int.reduceToNat, Int.reduceEq, Int.reduceLT, Int.reduceLE, Int.reduceNeg, Int.reduceAdd, Int.reduceSub, Int.reduceMul, Nat.reducePow, Int.reduceNegSucc, List.length_nil]
  refine qF (fun c => absurd c (by decide)) fun _ => ?_
  exact qF (fun _ => no hn) fun c => absurd c (by decide)
 | cons b t =>
 simp only [wK, seval, List.length_cons, List.getElem?_cons_zero]
 refine qF (fun c0 => ?_) fun c0 => absurd c0 (by omega)
 refine zV (fun hb => ?_) fun hb => ?_
 ·have hneg : ∀ z : Int, sm99 z -> b :: t = decI z -> z < 0 /\ t = decN (-z).toNat /\ t.length <= 5 /\ 1 <= t.length := fun z hz x => by
   by_cases hz0 : z < 0
   ·rw [qEX hz0] at x
    have e := (List.cons.inj x).2
    have l5 := (jI (-z).toNat).2 (by unfold sm99 at hz; omega)
    have l1 := qBQ (-z).toNat
    rw [<- e] at l5 l1
    exact ⟨hz0, e, l5, l1⟩
   ·rw [qEW (by omega)] at x
    have : b ∈ decN z.toNat := by rw [<- x]; exact List.mem_cons_self
    have := uR _ _ this
    unfold digP at this
    omega
  refine ⟨by omega, ?_⟩
  refine qF (fun c1 => no fun z hz x => by have := hneg z hz x; omega) fun c1 => ?_
  refine qF (fun c2 => no fun z hz x => by have := hneg z hz x; omega) fun c2 => ?_
  refine qP [7, 6] (fun n vs h' => ∃ (i : Nat), vs = [.int .i64 i, .int .i64 (valN (t.take i) : Nat)] /\ h' = h /\ (∀ b ∈ t.take i, digP b) /\ i <= t.length /\ n = t.length - i) t.length rfl
   ⟨0, rfl, rfl, by simp, by omega, rfl⟩ ?_
  rintro n f h' ⟨i, hv, rfl, hd, hi, rfl⟩
  simp only [lm4] at hv
  simp only [wK, seval, wr, hv.1, hv.2]
  refine qF (fun c3 => ?_) fun c3 => ?_
  ·have hi2 : i < t.length := by omega
   have hg : t[i]? = some t[i] := List.getElem?_eq_getElem hi2
   have hlt := qDL 5 (t.take i) (by rw [List.length_take]; omega) hd
   have e5 : (10 : Nat) ^ 5 = 100000 := by decide
   have hb := UInt8.toNat_lt t[i]
   have hbad : ¬ digP t[i] -> ∀ z : Int, sm99 z -> b :: t = decI z -> False := fun x z hz e => x (by have := (hneg z hz e).2.1; exact uR (-z).toNat _ (by rw [<- this]; exact List.getElem_mem hi2))
   simp only [wK, seval, wr, hv.1, hv.2, hg]
   refine ⟨by omega, ?_⟩
   refine qF (fun c4 => no (hbad fun x => by unfold digP at x; omega)) fun c4 => ?_
   refine ⟨by omega, ?_⟩
   refine qF (fun c5 => no (hbad fun x => by unfold digP at x; omega)) fun c5 => ?_
   have e1 : IntKind.u8.wrap ((t[i].toNat : Int) - 48) = ((t[i].toNat - 48 : Nat) : Int) := by rw [qNL]; omega
   have e2 : (valN (t.take i) : Int) * 10 + ((t[i].toNat - 48 : Nat) : Int) = ((valN (t.take (i + 1)) : Nat) : Int) := by
    rw [List.take_succ_eq_append_getElem hi2, qDM]; omega
   simp (disch := omega) only [wK, seval, qK, e1, e2]
   refine ⟨by omega, t.length - (i + 1), by omega, _, .refl _, i + 1, by simp, rfl, fun b hb => ?_, by omega, rfl⟩
   rw [List.take_succ_eq_append_getElem hi2] at hb
   rcases List.mem_append.1 hb with hb | hb
   ·exact hd b hb
   ·rw [List.mem_singleton] at hb
    subst hb
    unfold digP
    omega
  ·have hi2 : i = t.length := by omega
   subst hi2
   rw [List.take_length] at hd
   have hlt := qDL 5 t (by omega) hd
   have e5 : (10 : Nat) ^ 5 = 100000 := by decide
   simp only [wK, seval, List.take_length]
   refine zV (fun _ => ?_) fun x => absurd hb x
   refine qOC (n := ((valN t : Nat) : Int)) (by simp only [wK, seval]) ?_
   have e : IntKind.i64.wrap (0 - ((valN t : Nat) : Int)) = -((valN t : Nat) : Int) := by rw [qK _ (by omega)]; omega
   simp only [wK, seval, e]
   refine qOL (by omega) ?_
   simp only [wK, seval, xP, uI]
   refine .of (k _ _ (fun z hz x => ?_) (fun x => (of_decide_eq_true x).symm) (by unfold sm99; omega))
   obtain ⟨h1, h2, _, _⟩ := hneg z hz x
   have e3 : valN t = (-z).toNat := by rw [h2, kN]
   have e4 : -((valN t : Nat) : Int) = z := by rw [e3]; omega
   exact ⟨decide_eq_true (by rw [e4, x]), e4⟩
 ·obtain ⟨S, hS⟩ : ∃ S, S = b :: t := ⟨_, rfl⟩
  have hSl : S.length = t.length + 1 := by rw [hS]; rfl
  rw [<- hS] at no hs k ⊢
  have hpos : ∀ z : Int, sm99 z -> S = decI z -> 0 <= z /\ S = decN z.toNat /\ S.length <= 5 /\ 1 <= S.length := fun z hz x => by
   by_cases hz0 : z < 0
   ·rw [qEX hz0, hS] at x
    have e := (List.cons.inj x).1
    rw [e] at hb
    exact absurd rfl hb
   ·rw [qEW (by omega)] at x
    have l5 := (jI z.toNat).2 (by unfold sm99 at hz; omega)
    have l1 := qBQ z.toNat
    rw [<- x] at l5 l1
    exact ⟨by omega, x, l5, l1⟩
  refine qF (fun c1 => no fun z hz x => by have := hpos z hz x; omega) fun c1 => ?_
  refine qF (fun c2 => no fun z hz x => by have := hpos z hz x; omega) fun c2 => ?_
  refine qP [7, 6] (fun n vs h' => ∃ (i : Nat), vs = [.int .i64 i, .int .i64 (valN (S.take i) : Nat)] /\ h' = h /\ (∀ b ∈ S.take i, digP b) /\ i <= S.length /\ n = S.length - i) S.length rfl
   ⟨0, rfl, rfl, by simp, by omega, rfl⟩ ?_
  rintro n f h' ⟨i, hv, rfl, hd, hi, rfl⟩
  simp only [lm4] at hv
  simp only [wK, seval, wr, hv.1, hv.2]
  refine qF (fun c3 => ?_) fun c3 => ?_
  ·have hi2 : i < S.length := by omega
   have hg : S[i]? = some S[i] := List.getElem?_eq_getElem hi2
   have hlt := qDL 5 (S.take i) (by rw [List.length_take]; omega) hd
   have e5 : (10 : Nat) ^ 5 = 100000 := by decide
   have hb := UInt8.toNat_lt S[i]
   have hbad : ¬ digP S[i] -> ∀ z : Int, sm99 z -> S = decI z -> False := fun x z hz e => x (by have := (hpos z hz e).2.1; exact uR z.toNat _ (by rw [<- this]; exact List.getElem_mem hi2))
   simp only [wK, seval, wr, hv.1, hv.2, hg]
   refine ⟨by omega, ?_⟩
   refine qF (fun c4 => no (hbad fun x => by unfold digP at x; omega)) fun c4 => ?_
   refine ⟨by omega, ?_⟩
   refine qF (fun c5 => no (hbad fun x => by unfold digP at x; omega)) fun c5 => ?_
   have e1 : IntKind.u8.wrap ((S[i].toNat : Int) - 48) = ((S[i].toNat - 48 : Nat) : Int) := by rw [qNL]; omega
   have e2 : (valN (S.take i) : Int) * 10 + ((S[i].toNat - 48 : Nat) : Int) = ((valN (S.take (i + 1)) : Nat) : Int) := by
    rw [List.take_succ_eq_append_getElem hi2, qDM]; omega
   simp (disch := omega) only [wK, seval, qK, e1, e2]
   refine ⟨by omega, S.length - (i + 1), by omega, _, .refl _, i + 1, by simp, rfl, fun b hb => ?_, by omega, rfl⟩
   rw [List.take_succ_eq_append_getElem hi2] at hb
   rcases List.mem_append.1 hb with hb | hb
   ·exact hd b hb
   ·rw [List.mem_singleton] at hb
    subst hb
    unfold digP
    omega
  ·have hi2 : i = S.length := by omega
   subst hi2
   rw [List.take_length] at hd
   have hlt := qDL 5 S (by omega) hd
   have e5 : (10 : Nat) ^ 5 = 100000 := by decide
   simp only [wK, seval, List.take_length]
   refine zV (fun x => absurd x hb) fun _ => ?_
   refine qOL (by omega) ?_
   simp only [wK, seval, xP, uI]
   refine .of (k _ _ (fun z hz x => ?_) (fun x => (of_decide_eq_true x).symm) (by unfold sm99; omega))
   obtain ⟨h1, h2, _, _⟩ := hpos z hz x
   have e3 : valN S = z.toNat := by rw [h2, kN]
   have e4 : ((valN S : Nat) : Int) = z := by rw [e3]; omega
   exact ⟨decide_eq_true (by rw [e4, x]), e4⟩
theorem qYA {h : H} {s : List UInt8} {c : UInt8} (hs : s.length <= 4194304) {R : Ending -> H -> Prop} (k : ∀ v g, oLs 9 eT 1 v (splitB c s) g -> Dj g h -> R (.returned v) (g ++ h)) :
  HCalls Tryz.prog 168 #[.string ⟨s.toArray⟩, .int .u8 c.toNat] h R := by
 refine qD lite (args := [.string ⟨s.toArray⟩, .int .u8 c.toNat]) Tryz.func168 ?_
 conv => arg 2; cbv
 simp only [wK, seval]
 refine qC (o := blk (fl eT []) 9) fun j1 hj1 => ?_
 have o1 : oLs 9 eT 1 (.slice (some ⟨j1, 0, none⟩) 0 0) [] [(j1, blk (fl eT []) 9)] := xU vK
 simp only [wK, seval]
 refine qP [7, 6, 5] (fun n vs h' => ∃ (i a : Nat) (v' : Value) (O : List (List UInt8)) (g : H), vs = [.int .i64 i, .int .i64 a, v'] /\ h' = g ++ h /\ Dj g h /\ oLs 9 eT 1 v' O g /\ O.length <= i /\ a <= i /\ i <= s.length /\ splitB c s = O ++ splitB c (s.drop a) /\ c ∉ (s.drop a).take (i - a) /\ n = s.length - i) s.length rfl
  ⟨0, 0, _, [], _, rfl, rfl, Dj.one hj1, o1, by simp, by omega, by omega, by simp, by simp, rfl⟩ ?_
 rintro n f h' ⟨i, a, v', O, g, hv, rfl, dj, o, hO, ha, hi, hs1, hs2, rfl⟩
 simp only [lm4] at hv
 simp only [wK, seval, wr, hv.1, hv.2.1, hv.2.2]
 refine qF (fun c1 => ?_) fun c1 => ?_
 ·have hi2 : i < s.length := by omega
  have hg : s[i]? = some s[i] := List.getElem?_eq_getElem hi2
  simp only [wK, seval, wr, hv.1, hv.2.1, hv.2.2, hg]
  refine ⟨by omega, ?_⟩
  refine zV (fun e => ?_) fun e => ?_
  ·have ec : s[i] = c := UInt8.toNat_inj.1 (by omega)
   refine ⟨⟨by omega, by omega, by omega⟩, ?_⟩
   refine qC (o := blk (fl eT [(s.drop a).take (i - a)]) 9) fun j2 hj2 => ?_
   simp only [wK, seval]
   refine uT (g := g) (h := h) vK zIR tStrs iStr (Sub.cons hj2 (Sub.refl _)) dj o (kH (e := 9) vK [(s.drop a).take (i - a)]) (by simp; omega) (by simp; omega) fun v2 g2 o2 d2 => ?_
   simp (disch := omega) only [wK, seval, qK]
   refine ⟨s.length - (i + 1), by omega, _, .refl _, i + 1, i + 1, v2, _, g2, by simp, rfl, d2, o2, by simp; omega, by omega, by omega, ?_, by simp, rfl⟩
   have e3 : splitB c (s.drop a) = (s.drop a).take (i - a) :: splitB c (s.drop (i + 1)) := by
    have e4 := zFE s ha hi2
    rw [ec] at e4
    have e5 := jN (s.drop (i + 1)) hs2
    rw [<- e4] at e5
    exact e5
   rw [hs1, e3]
   simp
  ·simp (disch := omega) only [wK, seval, qK]
   refine ⟨s.length - (i + 1), by omega, _, .refl _, i + 1, a, v', O, g, by simp, rfl, dj, o, by omega, by omega, by omega, hs1, ?_, rfl⟩
   rw [qNO s ha hi2]
   intro m
   rcases List.mem_append.1 m with m | m
   ·exact hs2 m
   ·rw [List.mem_singleton] at m
    exact e (by rw [m])
 ·have hi2 : i = s.length := by omega
  subst hi2
  refine ⟨⟨by omega, by omega⟩, qC (o := blk (fl eT [s.drop a]) 9) fun j2 hj2 => ?_⟩
  simp only [wK, seval]
  refine uT (g := g) (h := h) vK zIR tStrs iStr (Sub.cons hj2 (Sub.refl _)) dj o (kH (e := 9) vK [s.drop a]) (by simp; omega) (by simp; omega) fun v2 g2 o2 d2 => ?_
  simp only [wK, seval]
  have e1 : (s.drop a).take (s.length - a) = s.drop a := List.take_of_length_le (by rw [List.length_drop]; omega)
  rw [e1] at hs2
  have e2 : splitB c s = O ++ [s.drop a] := by rw [hs1, jY hs2]
  rw [<- e2] at o2
  exact .of (k v2 g2 o2 d2)
end Go.Proofs.YtjioiemhgbkbfaaGreatDoor
end

section
namespace Go.Tk
open Go
def tabCells : DataW Unit -> List Value
 | .agg l => l.flatMap fun d => match d with
  | .lit (.int k n) => [.int k n]
  | .agg m => m.flatMap fun e => match e with
   | .lit (.int k n) => [.int k n]
   | _ => []
  | _ => []
 | _ => []
end Go.Tk
namespace Go.Proofs.YtjioiemhgbkbfaaGreatDoor
open Go Go.Tk
theorem zO : Tryz.prog.cellsOf 3 = 1 := by kernel_rfl
theorem qPB : Tryz.prog.cellsOf 9 = 1 := by kernel_rfl
section
variable {X : Type} {enc : TypeId × Value -> X} {w : World} {base : Nat} {sp : Nat -> Bool} {held : Bool}
theorem yD {m : Nat} {c : Value} {y : DataW X × List MemPlace} (h : DataW.trod enc Tryz.prog w base sp held m 3 [c] = some y) : ∃ n, c = .int .i64 n /\ i64P n := by
 obtain ⟨n, e, _, hw⟩ := DataW.trod_int Tryz.underlying3 h
 exact ⟨n, by simpa using e, bounds_i64 hw⟩
theorem in_text {m : Nat} {c : Value} {y : DataW X × List MemPlace} (h : DataW.trod enc Tryz.prog w base sp held m 9 [c] = some y) : ∃ t : List UInt8, c = .string ⟨t.toArray⟩ /\ t.length <= maxLen := by
 obtain ⟨s, e, _, hw⟩ := DataW.trod_string Tryz.underlying9 h
 simp only [List.cons.injEq, and_true] at e
 refine ⟨s.data.toList, by rw [e], ?_⟩
 simpa using hw
end
theorem gl_of {w : World} {l : List (String × DataW Unit)} {e1 e2 : DataW Unit} {s1 s2 : String} (h : laidMet Tryz.prog l w) (h1 : ("internal/strconv.uint64pow10", Lib.tabData .u64 Lib.pow10Tab) ∈ l) (h2 : ("strconv.ErrSyntax", .iface s1 e1) ∈ l) (h3 : ("strconv.ErrRange", .iface s2 e2) ∈ l) : Gl (full w) where
 tab := zHC h (g := 10) h1 (by kernel_rfl) (t := 363) (by kernel_rfl) Tryz.underlying363 Tryz.underlying340 (by kernel_rfl) (by kernel_rfl) (by decide)
 syn := qRG h (g := 6) h2 (by kernel_rfl) (t := 72) (by kernel_rfl) Tryz.underlying72
 rng := qRG h (g := 7) h3 (by kernel_rfl) (t := 72) (by kernel_rfl) Tryz.underlying72
end Go.Proofs.YtjioiemhgbkbfaaGreatDoor
end

section
namespace Go.Proofs.YtjioiemhgbkbfaaGreatDoor
open Go Go.Tk
theorem kD : Tryz.prog.cellsOf 94 = 6 := by kernel_rfl
section
variable {X : Type} {enc : TypeId × Value -> X} {w : World} {base : Nat} {sp : Nat -> Bool} {held : Bool}
theorem qHK {m : Nat} {cs : List Value} {y : DataW X × List MemPlace} (hl : cs.length = 6) (h : DataW.trod enc Tryz.prog w base sp held m 94 cs = some y) : ∃ c : DCall, cs = zW c /\ i64P c.session /\ i64P c.number /\ i64P c.kind /\ i64P c.slot /\ i64P c.to /\ c.text.length <= maxLen := by
 match cs, hl with
 | [c0, c1, c2, c3, c4, c5], _ =>
  obtain ⟨_, _, h0⟩ := qX Tryz.underlying94 h 0 0 1 (ty := 3) rfl zO rfl
  obtain ⟨_, _, h1⟩ := qX Tryz.underlying94 h 1 1 1 (ty := 3) rfl zO rfl
  obtain ⟨_, _, h2⟩ := qX Tryz.underlying94 h 2 2 1 (ty := 3) rfl zO rfl
  obtain ⟨_, _, h3⟩ := qX Tryz.underlying94 h 3 3 1 (ty := 9) rfl qPB rfl
  obtain ⟨_, _, h4⟩ := qX Tryz.underlying94 h 4 4 1 (ty := 3) rfl zO rfl
  obtain ⟨_, _, h5⟩ := qX Tryz.underlying94 h 5 5 1 (ty := 3) rfl zO rfl
  obtain ⟨n0, rfl, r0⟩ := yD h0
  obtain ⟨n1, rfl, r1⟩ := yD h1
  obtain ⟨n2, rfl, r2⟩ := yD h2
  obtain ⟨t3, rfl, r3⟩ := in_text h3
  obtain ⟨n4, rfl, r4⟩ := yD h4
  obtain ⟨n5, rfl, r5⟩ := yD h5
  exact ⟨⟨n0, n1, n2, t3, n4, n5⟩, rfl, r0, r1, r2, r4, r5, r3⟩
end
end Go.Proofs.YtjioiemhgbkbfaaGreatDoor
end

section
namespace Go.Tk
open Go
end Go.Tk
end

section
namespace Go.Tk
open Go
end Go.Tk
end

section
namespace Go.Tk
open Go
section
variable {α : Type} {sz : Nat}
theorem wE {css : List (List Value)} (hc : ∀ c ∈ css, c.length = sz) : css.flatten.length = css.length * sz := by
 induction css with
 | nil => simp
 | cons c css ih => rw [List.flatten_cons, List.length_append, hc c List.mem_cons_self, ih fun x hx => hc x (List.mem_cons_of_mem _ hx), List.length_cons, Nat.succ_mul, Nat.add_comm]
theorem flat_at : ∀ {css : List (List Value)} {i : Nat} (hc : ∀ c ∈ css, c.length = sz) (h : i < css.length), ((css.flatten).drop (i * sz)).take sz = css[i] := by
 intro css
 induction css with
 | nil => intro i _ h; cases h
 | cons c css ih =>
  intro i hc h
  rw [List.flatten_cons]
  have h0 := hc c List.mem_cons_self
  cases i with
  | zero => simp [<- h0]
  | succ i =>
   rw [Nat.succ_mul, Nat.add_comm, <- List.drop_drop, List.drop_left' h0]
   simpa using ih (i := i) (fun x hx => hc x (List.mem_cons_of_mem _ hx)) (by simpa using h)
theorem zCC {css : List (List Value)} (hc : ∀ c ∈ css, c.length = sz) : ∀ n, (css.flatten).drop (n * sz) = (css.drop n).flatten := by
 induction css with
 | nil => intro n; simp
 | cons c css ih =>
  intro n
  have h0 := hc c List.mem_cons_self
  cases n with
  | zero => simp
  | succ n =>
   rw [List.flatten_cons, Nat.succ_mul, Nat.add_comm, <- List.drop_drop, List.drop_left' h0, ih (fun x hx => hc x (List.mem_cons_of_mem _ hx))]
   simp
theorem zCB {css : List (List Value)} (hc : ∀ c ∈ css, c.length = sz) : ∀ n, (css.flatten).take (n * sz) = (css.take n).flatten := by
 induction css with
 | nil => intro n; simp
 | cons c css ih =>
  intro n
  have h0 := hc c List.mem_cons_self
  cases n with
  | zero => simp
  | succ n =>
   rw [List.flatten_cons, Nat.succ_mul, Nat.add_comm, <- h0, List.take_length_add_append, List.take_succ_cons, List.flatten_cons, h0, ih (fun x hx => hc x (List.mem_cons_of_mem _ hx))]
end
section
variable {α : Type} {β : Type} {r s : α -> β -> Prop}
theorem All2.left {l : List α} {m : List β} (h : All2 r l m) {P : α -> Prop} (f : ∀ a b, r a b -> P a) : ∀ a ∈ l, P a := by
 induction h with
 | nil => intro a ha; cases ha
 | cons x _ ih =>
  intro a ha
  rcases List.mem_cons.1 ha with rfl | ha
  ·exact f _ _ x
  ·exact ih a ha
theorem All2.app {l l' : List α} {m m' : List β} (h : All2 r l m) (h' : All2 r l' m') : All2 r (l ++ l') (m ++ m') := by
 induction h with
 | nil => exact h'
 | cons x _ ih => exact .cons x ih
theorem All2.take {l : List α} {m : List β} (h : All2 r l m) : ∀ n, All2 r (l.take n) (m.take n) := by
 induction h with
 | nil => intro n; simp; exact .nil
 | cons x _ ih =>
  intro n
  cases n with
  | zero => simp; exact .nil
  | succ n => rw [List.take_succ_cons, List.take_succ_cons]; exact .cons x (ih n)
theorem All2.drop {l : List α} {m : List β} (h : All2 r l m) : ∀ n, All2 r (l.drop n) (m.drop n) := by
 induction h with
 | nil => intro n; simp; exact .nil
 | cons x t ih =>
  intro n
  cases n with
  | zero => exact .cons x t
  | succ n => exact ih n
end
section
variable {α : Type} {rel : List Value -> α -> Prop} {sz : Nat}
theorem rRs.len {h : H} {v : Value} {l : List α} (r : rRs h rel sz v l) {f : Value -> Prop} : jQ v f = f (.int .i64 l.length) := by
 obtain ⟨_, r, _⟩ := r; exact qIX r
theorem rRs.subH {g h : H} (s : Sub g h) {v : Value} {l : List α} (r : rRs g rel sz v l) : rRs h rel sz v l := by
 obtain ⟨css, r, f⟩ := r; exact ⟨css, r.sub s, f⟩
theorem rRs.relImp {h : H} {rel' : List Value -> α -> Prop} {v : Value} {l : List α} (r : rRs h rel sz v l) (f : ∀ c a, rel c a -> rel' c a) : rRs h rel' sz v l := by
 obtain ⟨css, r, g⟩ := r; exact ⟨css, r, g.imp fun c a x => ⟨x.1, f _ _ x.2⟩⟩
theorem rRs.nil {h : H} : rRs h rel sz (.slice none 0 0) [] := ⟨[], ⟨by simp, .inl ⟨rfl, rfl⟩⟩, .nil⟩
theorem qOD {M : H} {j e : Nat} {cs : List Value} {d : α} (hj : hget M j = some (blk cs e)) (hc : cs.length = sz) (r : rel cs d) : rRs M rel sz (.slice (some ⟨j, 0, none⟩) 1 1) [d] := by
 refine ⟨[cs], ⟨by simp [hc], .inr ⟨j, 0, 1, rfl, Nat.le_refl _, ?_⟩⟩, .cons ⟨hc, r⟩ .nil⟩
 simp [qV, hj, qBY, hc]
 rw [<- hc, List.take_length]
def oRs (e : TypeId) (rel : List Value -> α -> Prop) (sz : Nat) (v : Value) (l : List α) (g : H) : Prop :=
 ∃ css : List (List Value), ows e sz v l.length css.flatten g /\ All2 (fun c a => c.length = sz /\ rel c a) css l
theorem oRs.rd {e : TypeId} {v : Value} {l : List α} {g : H} (o : oRs e rel sz v l g) : rRs g rel sz v l := by
 obtain ⟨css, o, a⟩ := o; exact ⟨css, o.rd, a⟩
theorem oRs.relImp {e : TypeId} {rel' : List Value -> α -> Prop} {v : Value} {l : List α} {g : H} (r : oRs e rel sz v l g) (f : ∀ c a, rel c a -> rel' c a) : oRs e rel' sz v l g := by
 obtain ⟨css, r, g⟩ := r; exact ⟨css, r, g.imp fun c a x => ⟨x.1, f _ _ x.2⟩⟩
theorem oRs.nil (e : TypeId) (rel : List Value -> α -> Prop) (sz : Nat) : oRs e rel sz (.slice none 0 0) [] [] := ⟨[], ows.nil _ _, .nil⟩
theorem oRs_new {e : TypeId} {j : Nat} {css : List (List Value)} {l : List α} (a : All2 (fun c a => c.length = sz /\ rel c a) css l) : oRs e rel sz (.slice (some ⟨j, 0, none⟩) l.length l.length) l [(j, blk css.flatten e)] :=
 ⟨css, ows.blk (by rw [wE (a.left fun _ _ x => x.1), a.len]), a⟩
theorem zGJ {e : TypeId} {j : Nat} : oRs e rel sz (.slice (some ⟨j, 0, none⟩) 0 0) [] [(j, blk [] e)] := oRs_new (css := []) (l := []) .nil
theorem zHT {css : List (List Value)} (h : ∀ c ∈ css, c.all vone = true) : css.flatten.all vone = true := by
 induction css with
 | nil => rfl
 | cons c css ih => rw [List.flatten_cons, List.all_append, h c List.mem_cons_self, ih fun x hx => h x (List.mem_cons_of_mem _ hx)]; rfl
theorem qWY {bytes : Nat} (hv : ∀ c a, rel c a -> c.all vone = true) {P : Program} {t ty e : TypeId} {v y : Value} {M g h : H} {l m : List α} {K : Value -> H -> Prop} {X : List PanicEntry -> H -> Prop}
  (h1 : P.underlying t = some (.slice e)) (hi : wP P e sz bytes) (sb : Sub (g ++ h) M) (dj : Dj g h) (o : oRs e rel sz v l g) (r : rRs M rel sz y m) (hb : (l.length + m.length) * bytes <= 140737488355328) (hn : l.length + m.length <= 140737488355328)
  (k : ∀ v' g', oRs e rel sz v' (l ++ m) g' -> Dj g' h -> K v' (g' ++ h)) : appK P t t ty v y M K X := by
 obtain ⟨i, z, hi, hz, rfl, rfl, hl⟩ := hi
 obtain ⟨css, o, a⟩ := o
 obtain ⟨ds, r, b⟩ := r
 refine qHN h1 h1 rfl hi hz hl sb dj o (kX r) (zHT (b.left fun c a x => hv c a x.2)) hb hn fun v' g' o' d' => k v' g' ⟨css ++ ds, ?_, a.app b⟩ d'
 rw [List.length_append, List.flatten_append]; exact o'
theorem slcS {h : H} {v : Value} {n : Nat} {cs : List Value} {lo hi : Int} {f : Value -> Prop} (r : rdS h sz v n cs) (h0 : 0 <= lo) (h1 : lo <= hi) (h2 : hi <= n)
  (k : ∀ v', rdS h sz v' (hi.toNat - lo.toNat) ((cs.drop (lo.toNat * sz)).take ((hi.toNat - lo.toNat) * sz)) -> f v') : slcK v sz (some (some lo)) (some (some hi)) f := by
 obtain ⟨hl, ⟨rfl, h0'⟩ | ⟨b, o, cap, rfl, hc, e⟩⟩ := r
 ·rw [qNZ]
  refine ⟨⟨h0, h1, by omega⟩, k _ ?_⟩
  have e1 : hi.toNat - lo.toNat = 0 := by omega
  have e2 : lo.toNat = 0 := by omega
  have e3 : hi.toNat = 0 := by omega
  refine ⟨by rw [e1]; simp, .inl ⟨?_, e1⟩⟩
  rw [e2, e3]; simp
 ·rw [qNZ]
  refine ⟨⟨h0, h1, by omega⟩, k _ ?_⟩
  have hle : (lo.toNat + (hi.toNat - lo.toNat)) * sz <= n * sz := Nat.mul_le_mul_right _ (by omega)
  rw [Nat.add_mul] at hle
  have hlen : ((cs.drop (lo.toNat * sz)).take ((hi.toNat - lo.toNat) * sz)).length = (hi.toNat - lo.toNat) * sz := by rw [List.length_take, List.length_drop]; omega
  have rd := qAM e hle
  by_cases c : cap = lo.toNat
  ·rw [if_pos c]
   have e1 : hi.toNat - lo.toNat = 0 := by omega
   refine ⟨hlen, .inr ⟨b, o, cap - lo.toNat, rfl, by omega, ?_⟩⟩
   rw [e1]
   have := qAM e (i := 0) (m := 0) (by omega)
   simp only [Nat.add_zero, Nat.zero_mul, List.take_zero] at this ⊢
   exact this
  ·rw [if_neg c]
   exact ⟨hlen, .inr ⟨b, o + lo.toNat * sz, cap - lo.toNat, by rw [Option.map_some, vC], by omega, rd⟩⟩
theorem slc_rs {h : H} {v : Value} {l : List α} {a b : Int} {f : Value -> Prop} (r : rRs h rel sz v l) (h0 : 0 <= a) (h1 : a <= b) (h2 : b <= l.length)
  (k : ∀ v', rRs h rel sz v' ((l.drop a.toNat).take (b.toNat - a.toNat)) -> f v') : slcK v sz (some (some a)) (some (some b)) f := by
 obtain ⟨css, r, x⟩ := r
 have hn := x.len
 refine slcS r h0 h1 h2 fun v' r' => k v' ⟨(css.drop a.toNat).take (b.toNat - a.toNat), ?_, (x.drop _).take _⟩
 have hc := x.left (P := fun c => c.length = sz) fun _ _ y => y.1
 rw [zCC hc, zCB (fun c hm => hc c (List.mem_of_mem_drop hm))] at r'
 rw [List.length_take, List.length_drop, Nat.min_eq_left (by omega)]
 exact r'
theorem qAD {h : H} {v : Value} {l : List α} {b : Int} {f : Value -> Prop} (r : rRs h rel sz v l) (h1 : 0 <= b) (h2 : b <= l.length)
  (k : ∀ v', rRs h rel sz v' (l.take b.toNat) -> f v') : slcK v sz none (some (some b)) f := by
 refine zFS _ _ _ (slc_rs r (by omega) h1 h2 fun v' r' => k v' ?_)
 simpa using r'
end
end Go.Tk
end

section
namespace Go.Tk
open Go
def mget {κ ν : Type} [DecidableEq κ] (m : List (κ × ν)) (k : κ) : Option ν := (m.find? fun p => decide (p.1 = k)).map (·.2)
def mput {κ ν : Type} [DecidableEq κ] : List (κ × ν) -> κ -> ν -> List (κ × ν)
 | [], k, v => [(k, v)]
 | p :: m, k, v => if p.1 = k then (k, v) :: m else p :: mput m k v
theorem zGS {κ ν : Type} [DecidableEq κ] (k : κ) : mget ([] : List (κ × ν)) k = none := rfl
theorem jE {κ ν : Type} [DecidableEq κ] (p : κ × ν) (m : List (κ × ν)) (k : κ) : mget (p :: m) k = if p.1 = k then some p.2 else mget m k := by
 unfold mget
 rw [List.find?_cons]
 by_cases e : p.1 = k
 ·simp [e]
 ·simp [e]
theorem qIT {κ ν : Type} [DecidableEq κ] (m : List (κ × ν)) (k j : κ) (v : ν) : mget (mput m k v) j = if k = j then some v else mget m j := by
 induction m with
 | nil => rw [mput, jE, zGS]
 | cons p m ih =>
  rw [mput]
  by_cases e : p.1 = k
  ·rw [if_pos e, jE, jE]
   by_cases e2 : k = j
   ·simp [e2]
   ·rw [if_neg e2, if_neg e2, if_neg (by rw [e]; exact e2)]
  ·rw [if_neg e, jE, jE, ih]
   by_cases e2 : p.1 = j
   ·rw [if_pos e2, if_pos e2, if_neg (fun x => e (e2.trans x.symm))]
   ·rw [if_neg e2, if_neg e2]
def mapO {κ : Type} (enc : κ -> Value) (es : Array MapEntry) (m : List (κ × Value)) : Prop := es.toList.map (fun e => (e.key, e.val)) = m.map fun p => (enc p.1, p.2)
structure KeyT {κ : Type} [DecidableEq κ] (P : Program) (kt : TypeId) (enc : κ -> Value) : Prop where
 check : ∀ (a : κ) (b : Bool) {Q : Unit -> H -> Prop} {E : Value -> H -> Prop} {h : H}, SH P (Instr.checkKey b 10000 kt (enc a)) Q E h = Q () h
 find : ∀ (k : κ) (es : List MapEntry) (m : List (κ × Value)), es.map (fun e => (e.key, e.val)) = m.map (fun p => (enc p.1, p.2)) -> ∀ {Q : Option (Nat × Value) -> H -> Prop} {E : Value -> H -> Prop} {h : H},
  SH P (Instr.findKey kt (enc k) es) Q E h = Q ((m.findIdx? fun p => decide (p.1 = k)).bind fun i => (m[i]?).map fun p => (i, p.2)) h
 bits : ∀ a : κ, Instr.sameBits 10000 (enc a) (enc a) = true
theorem qSD {κ : Type} [DecidableEq κ] (m : List (κ × Value)) (k : κ) : ((m.findIdx? fun p => decide (p.1 = k)).bind fun i => (m[i]?).map fun p => (i, p.2)).map (·.2) = mget m k := by
 induction m with
 | nil => rfl
 | cons p m ih =>
  rw [List.findIdx?_cons, jE]
  by_cases e : p.1 = k
  ·simp [e]
  ·simp only [e, decide_false, Bool.false_eq_true, if_false]
   rw [<- ih]
   cases (m.findIdx? fun p => decide (p.1 = k)) with
   | none => rfl
   | some i =>
    simp only [Option.map_some, Option.bind_some, List.getElem?_cons_succ]
    cases m[i]? <;> rfl
section
variable {P : Program} {κ : Type} [DecidableEq κ] {enc : κ -> Value} {kt et t : TypeId} {i : TypeInfo} {z : Value}
theorem qNB (K : KeyT P kt enc) (ht : P.underlying t = some (.map kt et)) (hi : P.info? et = some i) (hz : i.zero = some z) {r : Nat} {es : Array MapEntry} {c : Nat} {m : List (κ × Value)} {h : H} (hr : hget h r = some (.map es c)) (hm : mapO enc es m) (k : κ) {b : Bool} {Q : Value -> H -> Prop} {E : Value -> H -> Prop}
  (q : Q (if b = true then .tuple #[(mget m k).getD z, .bool (mget m k).isSome] else (mget m k).getD z) h) : SH P (Instr.lookup t (.map (some r)) (enc k) b) Q E h := by
 unfold Instr.lookup
 simp only [qH, qQ ht, getObj, SH, hr, qU, K.check, K.find k _ m hm]
 have := qSD m k
 cases e : ((m.findIdx? fun p => decide (p.1 = k)).bind fun i => (m[i]?).map fun p => (i, p.2)) with
 | none =>
  rw [e] at this
  rw [<- this] at q
  simp only [qH, xJ hi hz, qU]
  exact q
 | some x =>
  rw [e] at this
  rw [<- this] at q
  simp only [qH, qU]
  exact q
theorem zBG {es : Array MapEntry} {m : List (κ × Value)} (hm : mapO enc es m) {k : κ} {v : Value} {n : Nat} (hn : (m.findIdx? fun p => decide (p.1 = k)) = none) : mapO enc (es.push ⟨enc k, v, n⟩) (mput m k v) := by
 have : mput m k v = m ++ [(k, v)] := by
  clear hm
  induction m with
  | nil => rfl
  | cons p m ih =>
   rw [List.findIdx?_cons] at hn
   by_cases e : p.1 = k
   ·simp [e] at hn
   ·simp only [e, decide_false, Bool.false_eq_true, if_false, Option.map_eq_none_iff] at hn
    rw [mput, if_neg e, ih hn]; rfl
 unfold mapO at hm ⊢
 rw [this]
 simp [hm]
theorem zGT {es : Array MapEntry} {m : List (κ × Value)} (hm : mapO enc es m) {k : κ} {v : Value} {i : Nat} (hn : (m.findIdx? fun p => decide (p.1 = k)) = some i) : mapO enc (es.modify i fun e => { e with key := enc k, val := v }) (mput m k v) := by
 unfold mapO at hm ⊢
 rw [Array.toList_modify]
 generalize es.toList = l at hm
 clear es
 induction m generalizing l i with
 | nil => cases hn
 | cons p m ih =>
  cases l with
  | nil => cases hm
  | cons a l =>
   simp only [List.map_cons, List.cons.injEq] at hm
   rw [List.findIdx?_cons] at hn
   by_cases e : p.1 = k
   ·simp only [e, decide_true, if_true, Option.some.injEq] at hn
    subst hn
    rw [mput, if_pos e, List.modify_zero_cons, List.map_cons, List.map_cons, hm.2]
   ·simp only [e, decide_false, Bool.false_eq_true, if_false] at hn
    obtain ⟨j, hj, rfl⟩ := Option.map_eq_some_iff.1 hn
    rw [mput, if_neg e, List.modify_succ_cons, List.map_cons, List.map_cons, ih hj l hm.2, hm.1]
theorem qPL (K : KeyT P kt enc) (ht : P.underlying t = some (.map kt et)) {r : Nat} {es : Array MapEntry} {c : Nat} {m : List (κ × Value)} {h : H} (hr : hget h r = some (.map es c)) (hm : mapO enc es m) (k : κ) (v : Value) {Q : Unit -> H -> Prop} {E : Value -> H -> Prop}
  (q : ∀ es' c', mapO enc es' (mput m k v) -> Q () (hupd h r (.map es' c'))) : SH P (Instr.mapUpdate t (.map (some r)) (enc k) v) Q E h := by
 unfold Instr.mapUpdate
 simp only [qH, qQ ht, getObj, SH, hr, qU, K.check, K.find k _ m hm]
 cases e : m.findIdx? fun p => decide (p.1 = k) with
 | none =>
  simp only [Option.bind_none, setObj, SH, hr]
  exact q _ _ (zBG hm e)
 | some i =>
  have hi : i < m.length := by
   have := List.findIdx?_eq_some_iff_getElem.1 e
   exact this.1
  have hk : m[i].1 = k := by
   have := (List.findIdx?_eq_some_iff_getElem.1 e).2.1
   simpa using this
  have hl : es.toList.length = m.length := by have := congrArg List.length hm; simpa using this
  have hes : es[i]?.map (·.key) = some (enc k) := by
   have h1 := congrArg (fun l => l[i]?) hm
   simp only [List.getElem?_map, List.getElem?_eq_getElem hi, Array.getElem?_toList, Option.map_some] at h1
   rw [hk] at h1
   cases hx : es[i]? with
   | none => rw [hx] at h1; cases h1
   | some y =>
    rw [hx] at h1
    simp only [Option.map_some, Option.some.injEq, Prod.mk.injEq] at h1
    rw [Option.map_some, h1.1]
  simp only [Option.bind_some, List.getElem?_eq_getElem hi, Option.map_some, qH, hes, Option.getD_some, Instr.keyThatStays, K.bits, if_true, qU, setObj, SH, hr]
  exact q _ _ (zGT hm e)
end
theorem qSB {kd kd' : IntKind} (k : Int) : ∀ (es : List MapEntry) (m : List (Int × Value)) (n : Nat), es.map (fun e => (e.key, e.val)) = m.map (fun p => (Value.int kd p.1, p.2)) ->
  Instr.findNow (.int kd') (.int kd k) es n = some ((m.findIdx? fun p => decide (p.1 = k)).bind fun i => (m[i]?).map fun p => (i + n, p.2)) := by
 intro es
 induction es with
 | nil =>
  intro m n h
  cases m with
  | nil => rfl
  | cons => cases h
 | cons e es ih =>
  intro m n h
  cases m with
  | nil => cases h
  | cons p m =>
   simp only [List.map_cons, List.cons.injEq, Prod.mk.injEq] at h
   obtain ⟨⟨h1, h2⟩, h3⟩ := h
   simp only [Instr.findNow, h1, Instr.sameNow, if_true]
   rw [List.findIdx?_cons]
   by_cases c : p.1 = k
   ·have : (k == p.1) = true := by rw [c]; exact beq_self_eq_true k
    rw [this]
    simp [c, h2]
   ·have : (k == p.1) = false := by simpa using fun x => c x.symm
    rw [this]
    simp only [c, decide_false, Bool.false_eq_true, if_false]
    rw [ih m (n + 1) h3]
    cases (m.findIdx? fun p => decide (p.1 = k)) with
    | none => rfl
    | some i =>
     simp only [Option.map_some, Option.bind_some, List.getElem?_cons_succ]
     cases m[i]? with
     | none => rfl
     | some y => simp; omega
theorem keyInt {P : Program} {kt : TypeId} {kd : IntKind} (h : P.underlying kt = some (.int kd)) : KeyT P kt (Value.int kd) where
 check := fun a b => by
  intro Q E h'
  rw [show (10000 : Nat) = 9999 + 1 from rfl, Instr.checkKey]
  simp only [qH, qQ h, qU]
 find := fun k es m hm => by
  intro Q E h'
  simp only [Instr.findKey, qH, qQ h, qSB (kd' := kd) k es m 0 hm, qU, Nat.add_zero]
 bits := fun a => by simp [Instr.sameBits]
theorem findAsk {P : Program} {kt : TypeId} {κ : Type} [DecidableEq κ] {enc : κ -> Value} (eq : ∀ (a b : κ) {Q : Bool -> H -> Prop} {E : Value -> H -> Prop} {h : H}, SH P (Op.equal kt (enc a) (enc b)) Q E h = Q (decide (a = b)) h) (k : κ) : ∀ (es : List MapEntry) (m : List (κ × Value)) (n : Nat),
  es.map (fun e => (e.key, e.val)) = m.map (fun p => (enc p.1, p.2)) -> ∀ {Q : Option (Nat × Value) -> H -> Prop} {E : Value -> H -> Prop} {h : H}, SH P (Instr.findAsking kt (enc k) es n) Q E h = Q ((m.findIdx? fun p => decide (p.1 = k)).bind fun i => (m[i]?).map fun p => (i + n, p.2)) h := by
 intro es
 induction es with
 | nil =>
  intro m n h Q E h'
  cases m with
  | nil => rfl
  | cons => cases h
 | cons e es ih =>
  intro m n h Q E h'
  cases m with
  | nil => cases h
  | cons p m =>
   simp only [List.map_cons, List.cons.injEq, Prod.mk.injEq] at h
   obtain ⟨⟨h1, h2⟩, h3⟩ := h
   simp only [Instr.findAsking, qH, h1, eq]
   rw [List.findIdx?_cons]
   by_cases c : p.1 = k
   ·have c2 : k = p.1 := c.symm
    simp [c2, h2, qU]
   ·have c2 : ¬ k = p.1 := fun x => c x.symm
    simp only [c, c2, decide_false, Bool.false_eq_true, if_false]
    rw [ih m (n + 1) h3]
    cases (m.findIdx? fun p => decide (p.1 = k)) with
    | none => rfl
    | some i =>
     simp only [Option.map_some, Option.bind_some, List.getElem?_cons_succ]
     cases m[i]? with
     | none => rfl
     | some y => simp only [Option.map_some]; rw [show i + (n + 1) = i + 1 + n by omega]
def eTwo (a : Int × Int) : Value := .agg #[.int .i64 a.1, .int .i64 a.2]
end Go.Tk
end

section
attribute [local irreducible] Go.Tk.vc Go.Tk.vops Go.Tk.vdr Go.Tk.vop Go.Tk.vfl Go.Tk.HCalls
namespace Go.Tk
open Go
theorem vc1 {v : Value} (h : vone v = true) : zF v = [v] := by cases v <;> first | rfl | cases h
theorem qXT {α : Type} {e : TypeId} {enc : α -> List Value} {sz : Nat} : oLs e enc sz (.slice none 0 0) [] [] := ows.nil _ _
theorem raw_all {P : Program} {t ty e : TypeId} {i : TypeInfo} {n b o : Nat} {x : Operand} {ρ : Operand -> Value} {h : H} {K : Value -> H -> Prop} {X : List PanicEntry -> H -> Prop} (hx : ρ x = .pointer (some ⟨b, o, none⟩)) (ht : P.underlying t = some (.array n e)) (hi : P.info? e = some i)
  (k : K (.slice (some ⟨b, o, none⟩) n n) h) : rawK P (.slice t x none none none) ty ρ h K X := by
 unfold rawK
 simp only [execOp, mkO, yP, hx, Instr.sliceAt, qH, qQ ht, Option.map_none, Instr.sureAddr, qU, Instr.sliceBounds, xG hi]
 have : (if n = 0 then (⟨b, o, none⟩ : Addr) else (⟨b, o, none⟩ : Addr).add (0 * i.size)) = ⟨b, o, none⟩ := by
  split
  ·rfl
  ·rw [Nat.zero_mul]; rfl
 rw [this]
 exact k
theorem st_row {α : Type} {enc : α -> List Value} {sz : Nat} {e : TypeId} {l : List α} {b i off n p : Nat} {a' : α} {vs : List Value} {h0 : H} {f : H -> Prop} (he : ∀ a, (enc a).length = sz) (hp : p = i * sz + off) (hi : i < l.length) (hn : vs.length = n)
  (hoff : off + n <= sz) (hx : qJ (enc l[i]) off vs = enc a') (k : f ((b, blk (fl enc (l.set i a')) e) :: h0)) : hK (if p + n <= (fl enc l).length then some ((b, blk (qJ (fl enc l) p vs) e) :: h0) else none) f := by
 have := qID (e := e) (b := b) (sp := []) (h0 := h0) (f := f) he hp hi hn hoff hx (by simpa using k)
 simpa using this
theorem qPG {a b : List Value} {t u : TypeId} (h : blk a t = blk b u) : t = u := by unfold blk at h; injection h
theorem qFR : ∀ {l : List Int} {i : Nat} (h : i < l.length), (fl eI l)[i]? = some (.int .i64 l[i]) := by
 intro l
 induction l with
 | nil => intro i h; cases h
 | cons a l ih =>
  intro i h
  rw [vT]
  cases i with
  | zero => rfl
  | succ i => simpa [eI] using ih (i := i) (by simpa using h)
theorem rd_at {h : H} {v : Value} {n sz i : Nat} {cs : List Value} (r : rdS h sz v n cs) (hi : i < n) :
  ∃ b o, (∀ (kd : IntKind) (f : Value -> Prop), vI v (.int kd (i : Int)) sz f = f (.pointer (some ⟨b, o, none⟩))) /\ qV h b o sz = some ((cs.drop (i * sz)).take sz) := by
 obtain ⟨hl, ⟨rfl, h0⟩ | ⟨b, o, cap, rfl, hc, e⟩⟩ := r
 ·omega
 ·refine ⟨b, o + i * sz, fun kd f => ?_, qAM e ?_⟩
  ·rw [qBL]
   refine propext ⟨fun x => by simpa using x.2, fun x => ⟨⟨by omega, by omega⟩, by simpa using x⟩⟩
  ·rw [<- Nat.succ_mul]
   exact Nat.mul_le_mul_right _ (by omega)
theorem zU {α : Type} {rel : List Value -> α -> Prop} {sz : Nat} {h : H} {v : Value} {l : List α} {i : Nat} (r : rRs h rel sz v l) (hi : i < l.length) :
  ∃ b o cs, (∀ (kd : IntKind) (f : Value -> Prop), vI v (.int kd (i : Int)) sz f = f (.pointer (some ⟨b, o, none⟩))) /\ qV h b o sz = some cs /\ rel cs l[i] := by
 obtain ⟨css, r, a⟩ := r
 obtain ⟨b, o, hx, e⟩ := rd_at r hi
 have hl := a.len
 have hi2 : i < css.length := by omega
 rw [flat_at (a.left fun _ _ x => x.1) hi2] at e
 exact ⟨b, o, _, hx, e, (a.at hi2 hi).2⟩
theorem yU {α : Type} {enc : α -> List Value} {sz : Nat} {h : H} {v : Value} {l : List α} {i : Nat} (he : ∀ a, (enc a).length = sz) (r : rLs h enc sz v l) (hi : i < l.length) :
  ∃ b o, (∀ (kd : IntKind) (f : Value -> Prop), vI v (.int kd (i : Int)) sz f = f (.pointer (some ⟨b, o, none⟩))) /\ qV h b o sz = some (enc l[i]) := by
 obtain ⟨b, o, hx, e⟩ := rd_at r hi
 rw [fl_at he hi] at e
 exact ⟨b, o, hx, e⟩
def qOZ (e T : TypeId) (z : List Value) : IR := ⟨(.seq (.ops [.s 2 (.mov (.const (.slice none 0 0)))]) (.seq (.seq (.ops [.v 3 0, .s 4 (.leq false (.t 3) (.const (.slice none 0 0)))]) (.cond (.t 4) (.seq (.ops [.s 2 (.mov (.const (.slice none 0 0)))]) .ret) .skip)) (.seq (.ops [.s 5 (.bslice e z 0 []), .v 6 0, .s 7 (.app T T 0 (.t 5) (.t 6)), .v 2 7]) .ret))), [.tmp 2], 8⟩
theorem clone_s {P : Program} {f : FuncId} {fn : Func} {e T : TypeId} {z : List Value} {sz bytes : Nat} (hf : P.funcs[f]? = some fn) (hi : irOf P fn = some (qOZ e T z)) (ht : P.underlying T = some (.slice e)) (hI : wP P e sz bytes)
  {h : H} {v : Value} {n : Nat} {cs : List Value} (r : rdS h sz v n cs) (one : cs.all vone = true) (hb : n * bytes <= 140737488355328) (hn : n <= 140737488355328) {R : Ending -> H -> Prop}
  (k : ∀ v' g, ows e sz v' n cs g -> Dj g h -> R (.returned v') (g ++ h)) : HCalls P f #[v] h R := by
 refine yK (args := [v]) hf hi ?_
 unfold qOZ
 have r0 := r
 obtain ⟨hl, ⟨rfl, h0⟩ | ⟨b, o, cap, rfl, hc, e1⟩⟩ := r
 ·simp only [wK, seval]
  refine .of ?_
  have := k (.slice none 0 0) [] (by
   subst h0
   have : cs = [] := List.eq_nil_of_length_eq_zero (by simpa using hl)
   subst this
   exact ows.nil _ _) (Dj.nil _)
  exact this
 ·simp only [wK, seval]
  refine qC (o := blk [] e) fun j hj => ?_
  simp only [wK, seval]
  obtain ⟨i, z', hi', hz, rfl, rfl, hl'⟩ := hI
  refine qHN (g := [(j, blk [] e)]) (h := h) ht ht rfl hi' hz hl' (Sub.refl _) (Dj.one hj) (ows.blk (j := j) (n := 0) (by simp)) (kX (r0.sub (Sub.cons hj (Sub.refl _)))) one (by simpa using hb) (by simpa using hn) fun v' g' o' d' => ?_
  simp only [wK, seval]
  rw [Nat.zero_add, List.nil_append] at o'
  exact .of (k v' g' o' d')
theorem qOY {α : Type} {P : Program} {f : FuncId} {fn : Func} {e T : TypeId} {z : List Value} {enc : α -> List Value} {sz bytes : Nat} (hf : P.funcs[f]? = some fn) (hi : irOf P fn = some (qOZ e T z)) (ho : ∀ l, (fl enc l).all vone = true) (ht : P.underlying T = some (.slice e)) (hI : wP P e sz bytes)
  {h : H} {v : Value} {l : List α} (r : rLs h enc sz v l) (hb : l.length * bytes <= 140737488355328) (hn : l.length <= 140737488355328) {R : Ending -> H -> Prop}
  (k : ∀ v' g, oLs e enc sz v' l g -> Dj g h -> R (.returned v') (g ++ h)) : HCalls P f #[v] h R := clone_s hf hi ht hI r (ho l) hb hn k
end Go.Tk
end

section
namespace Go.Tk
open Go
def mG : Nat -> H -> H -> Prop := fun _ h g => Sub g h
def aV (w : Value) : H -> Value -> Prop := fun _ v => v = w
def aMono (q : H -> Value -> Prop) : Prop := ∀ g g' v, Sub g g' -> q g v -> q g' v
theorem qYU (w : Value) : aMono (aV w) := fun _ _ _ _ h => h
def aS {α : Type} (rest : H) (e : TypeId) (enc : α -> List Value) (sz : Nat) (l : List α) : H -> Value -> Prop := fun g v => ∃ G, oLs e enc sz v l G /\ Sub G g /\ Dj G rest
theorem aMono_S {α : Type} (rest : H) (e : TypeId) (enc : α -> List Value) (sz : Nat) (l : List α) : aMono (aS rest e enc sz l) := fun _ _ _ s ⟨G, a, b, c⟩ => ⟨G, a, b.trans s, c⟩
theorem andr : (nds [] = []) /\ (∀ d g i l, nds (⟨some d, g, i⟩ :: l) = d :: nds l) /\ (∀ g i l, nds (⟨none, g, i⟩ :: l) = nds l) /\ (∀ d i l, nds (N.s d i :: l) = d :: nds l) /\ (∀ i l, nds (N.n i :: l) = nds l) /\ (∀ d t l, nds (N.v d t :: l) = d :: nds l) :=
 ⟨rfl, fun _ _ _ _ => rfl, fun _ _ _ => rfl, fun _ _ _ => rfl, fun _ _ => rfl, fun _ _ _ => rfl⟩
section
variable {P : Program} {rest : H} {ρ : (Nat -> Value) -> Operand -> Value} {D : H -> (Nat -> Value) -> Prop} {q : H -> Value -> Prop}
theorem qFZ {x : Operand} (k : ∀ f g, Sub rest g -> D g f -> q g (ρ f x)) : stA P mG q rest ρ D (.mov x) := fun m f h g hm hs hd => ⟨g, hm, Sub.refl _, k f g hs hd⟩
theorem qGA {x : Operand} {off : Nat} (k : ∀ f g, Sub rest g -> D g f -> ∃ b o, ρ f x = .pointer (some ⟨b, o, none⟩) /\ q g (.pointer (some ⟨b, o + off, none⟩))) : stA P mG q rest ρ D (.fld x off) := fun m f h g hm hs hd => by
 obtain ⟨b, o, e, hq⟩ := k f g hs hd
 show (match ρ f x with | .pointer (some ⟨b, k, none⟩) => _ | _ => _)
 rw [e]
 exact ⟨g, hm, Sub.refl _, hq⟩
theorem qCH {x : Operand} (k : ∀ f g, Sub rest g -> D g f -> ∃ b o v, ρ f x = .pointer (some ⟨b, o, none⟩) /\ hcel g b o = some v /\ q g v) : stA P mG q rest ρ D (.load x 1 false) := fun m f h g hm hs hd => by
 obtain ⟨b, o, v, e, hc, hq⟩ := k f g hs hd
 show vop _ _ _ _ _ _
 rw [qPQ, e, qQY, zHQ, yA hm hc]
 exact ⟨g, hm, Sub.refl _, hq⟩
end
end Go.Tk
end
