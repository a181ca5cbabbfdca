/- Parts of the proof. -/
import Derived.JoinedOf
import Derived.Test.YtjioiemhgbkbfaaGreatDoorK1516
import Derived.Test.YtjioiemhgbkbfaaGreatDoorK1518
import Derived.Test.YtjioiemhgbkbfaaGreatDoorK1521
import Derived.Test.YtjioiemhgbkbfaaGreatDoorK155
import Derived.Test.YtjioiemhgbkbfaaGreatDoorK1511
import Derived.Test.YtjioiemhgbkbfaaGreatDoorK1510
set_option maxHeartbeats 4000000
set_option maxRecDepth 100000
set_option linter.unusedVariables false
set_option linter.unusedSimpArgs false
set_option linter.defProp false
section
namespace Go.Tk
open Go
theorem kQ {P : Program} {w : World} {l : List (String × DataW Unit)} (h : laidMet P l w) {n s : String} {d : DataW Unit} {g : Nat} {t : TypeId} {ms : Array (String × TypeId)} (hm : (n, .iface s d) ∈ l) (hg : P.globalNamed n = some g) (ht : (P.globals[g]?).map (·.type) = some t)
  (hu : P.underlying t = some (.interface ms)) : ∃ te pe ty, hget (full w) g = some (blk [.iface te pe] ty) := by
 obtain ⟨cs, fuel, p, h1, h2⟩ := qCZ h hm hg ht
 have : ∃ te pe, cs = [.iface te pe] := by
  cases fuel with
  | zero => simp [DataW.trod] at h1
  | succ fuel =>
   match cs with
   | [] => simp [DataW.trod, hu] at h1
   | _ :: _ :: _ => simp [DataW.trod, hu] at h1
   | [c] =>
    cases c <;> simp [DataW.trod, hu] at h1
    rename_i u v
    exact ⟨u, v, rfl⟩
 obtain ⟨te, pe, rfl⟩ := this
 obtain ⟨ty, h3⟩ := h2 (by simp)
 exact ⟨te, pe, ty, h3⟩
end Go.Tk
namespace Go.Proofs.YtjioiemhgbkbfaaGreatDoor
open Go Go.Tk
theorem qGU : Tryz.prog.cellsOf 290 = 4 := by kernel_rfl
theorem qWQ : Tryz.prog.cellsOf 217 = 6 := by kernel_rfl
theorem qSQ : Tryz.prog.cellsOf 223 = 4 := by kernel_rfl
theorem qSU : Tryz.prog.cellsOf 221 = 3 := by kernel_rfl
theorem qPC : Tryz.prog.cellsOf 91 = 6 := by kernel_rfl
theorem qSR : Tryz.prog.cellsOf 96 = 17 := by kernel_rfl
theorem qHC : Tryz.prog.cellsOf 99 = 11 := by kernel_rfl
section
variable {X : Type} {enc : TypeId × Value -> X} {w : World} {base : Nat} {sp : Nat -> Bool} {held : Bool}
theorem qRS {m : Nat} {cs : List Value} {y : DataW X × List MemPlace} (hl : cs.length = 4) (h : DataW.trod enc Tryz.prog w base sp held m 290 cs = some y) : ∃ d : DHold, cs = zE d /\ True := by
 match cs, hl with
 | [c0, c1, c2, c3], _ =>
  obtain ⟨_, _, h0⟩ := qX Tryz.underlying290 h 0 0 1 (ty := 3) rfl zO rfl
  obtain ⟨_, _, h1⟩ := qX Tryz.underlying290 h 1 1 1 (ty := 3) rfl zO rfl
  obtain ⟨_, _, h2⟩ := qX Tryz.underlying290 h 2 2 1 (ty := 4) rfl uG rfl
  obtain ⟨_, _, h3⟩ := qX Tryz.underlying290 h 3 3 1 (ty := 4) rfl uG rfl
  obtain ⟨n0, rfl, _⟩ := yD h0
  obtain ⟨n1, rfl, _⟩ := yD h1
  obtain ⟨n2, rfl⟩ := qCB h2
  obtain ⟨n3, rfl⟩ := qCB h3
  exact ⟨⟨n0, n1, n2, n3⟩, rfl, trivial⟩
theorem in_lRec {m : Nat} {cs : List Value} {y : DataW X × List MemPlace} (hl : cs.length = 6) (h : DataW.trod enc Tryz.prog w base sp held m 217 cs = some y) : ∃ d : DRec, nRec (full w) cs d /\ uRec d := by
 match cs, hl with
 | [c0, c1, c2, c3, c4, c5], _ =>
  obtain ⟨_, _, h0⟩ := qX Tryz.underlying217 h 0 0 1 (ty := 3) rfl zO rfl
  obtain ⟨_, _, h1⟩ := qX Tryz.underlying217 h 1 1 1 (ty := 3) rfl zO rfl
  obtain ⟨_, _, h2⟩ := qX Tryz.underlying217 h 2 2 1 (ty := 3) rfl zO rfl
  obtain ⟨_, _, h3⟩ := qX Tryz.underlying217 h 3 3 1 (ty := 3) rfl zO rfl
  obtain ⟨_, _, h4⟩ := qX Tryz.underlying217 h 4 4 1 (ty := 61) rfl (by kernel_rfl) rfl
  obtain ⟨_, _, h5⟩ := qX Tryz.underlying217 h 5 5 1 (ty := 93) rfl (by kernel_rfl) rfl
  obtain ⟨n0, rfl, _⟩ := yD h0
  obtain ⟨n1, rfl, _⟩ := yD h1
  obtain ⟨n2, rfl, _⟩ := yD h2
  obtain ⟨n3, rfl, _⟩ := yD h3
  obtain ⟨n4, r4, b4⟩ := qAK h4
  obtain ⟨n5, r5, b5⟩ := qEJ h5
  exact ⟨⟨n0, n1, n2, n3, n4, n5⟩, ⟨_, _, rfl, r4, r5⟩, ⟨maxB b4, maxB b5⟩⟩
theorem zHJ {m : Nat} {cs : List Value} {y : DataW X × List MemPlace} (hl : cs.length = 4) (h : DataW.trod enc Tryz.prog w base sp held m 223 cs = some y) : ∃ d : DWork, nWork (full w) cs d /\ qPW d := by
 match cs, hl with
 | [c0, c1, c2, c3], _ =>
  obtain ⟨_, _, h0⟩ := qX Tryz.underlying223 h 0 0 1 (ty := 3) rfl zO rfl
  obtain ⟨_, _, h1⟩ := qX Tryz.underlying223 h 1 1 1 (ty := 3) rfl zO rfl
  obtain ⟨_, _, h2⟩ := qX Tryz.underlying223 h 2 2 1 (ty := 3) rfl zO rfl
  obtain ⟨_, _, h3⟩ := qX Tryz.underlying223 h 3 3 1 (ty := 61) rfl (by kernel_rfl) rfl
  obtain ⟨n0, rfl, _⟩ := yD h0
  obtain ⟨n1, rfl, _⟩ := yD h1
  obtain ⟨n2, rfl, _⟩ := yD h2
  obtain ⟨n3, r3, b3⟩ := qAK h3
  exact ⟨⟨n0, n1, n2, n3⟩, ⟨_, rfl, r3⟩, maxB b3⟩
theorem zHL {m : Nat} {cs : List Value} {y : DataW X × List MemPlace} (hl : cs.length = 3) (h : DataW.trod enc Tryz.prog w base sp held m 221 cs = some y) : ∃ d : DLock, nLock (full w) cs d /\ qPY d := by
 match cs, hl with
 | [c0, c1, c2], _ =>
  obtain ⟨_, _, h0⟩ := qX Tryz.underlying221 h 0 0 1 (ty := 3) rfl zO rfl
  obtain ⟨_, _, h1⟩ := qX Tryz.underlying221 h 1 1 1 (ty := 219) rfl (by kernel_rfl) rfl
  obtain ⟨_, _, h2⟩ := qX Tryz.underlying221 h 2 2 1 (ty := 219) rfl (by kernel_rfl) rfl
  obtain ⟨n0, rfl, _⟩ := yD h0
  obtain ⟨a1, len1, cap1, rfl⟩ := xC Tryz.underlying219 h1
  obtain ⟨n1, r1, b1, _⟩ := qBC (encA := zE) (ok := fun _ => True) Tryz.underlying219 qGU (by decide) h1 fun cs m y hl ht => qRS hl ht
  obtain ⟨a2, len2, cap2, rfl⟩ := xC Tryz.underlying219 h2
  obtain ⟨n2, r2, b2, _⟩ := qBC (encA := zE) (ok := fun _ => True) Tryz.underlying219 qGU (by decide) h2 fun cs m y hl ht => qRS hl ht
  exact ⟨⟨n0, n1, n2⟩, ⟨_, _, rfl, r1, r2⟩, ⟨maxB b1, maxB b2⟩⟩
theorem zBU {m : Nat} {cs : List Value} {y : DataW X × List MemPlace} (hl : cs.length = 6) (h : DataW.trod enc Tryz.prog w base sp held m 91 cs = some y) : ∃ d : DHouse, nHouse (full w) cs d /\ qHZ d := by
 match cs, hl with
 | [c0, c1, c2, c3, c4, c5], _ =>
  obtain ⟨_, _, h0⟩ := qX Tryz.underlying91 h 0 0 1 (ty := 3) rfl zO rfl
  obtain ⟨_, _, h1⟩ := qX Tryz.underlying91 h 1 1 1 (ty := 4) rfl uG rfl
  obtain ⟨_, _, h2⟩ := qX Tryz.underlying91 h 2 2 1 (ty := 87) rfl (by kernel_rfl) rfl
  obtain ⟨_, _, h3⟩ := qX Tryz.underlying91 h 3 3 1 (ty := 3) rfl zO rfl
  obtain ⟨_, _, h4⟩ := qX Tryz.underlying91 h 4 4 1 (ty := 88) rfl (by kernel_rfl) rfl
  obtain ⟨_, _, h5⟩ := qX Tryz.underlying91 h 5 5 1 (ty := 89) rfl (by kernel_rfl) rfl
  obtain ⟨n0, rfl, _⟩ := yD h0
  obtain ⟨n1, rfl⟩ := qCB h1
  obtain ⟨a2, len2, cap2, rfl⟩ := xC Tryz.underlying87 h2
  obtain ⟨n2, r2, b2, u2⟩ := vH Tryz.underlying87 qWQ (by decide) h2 fun cs m y hl ht => in_lRec hl ht
  obtain ⟨n3, rfl, _⟩ := yD h3
  obtain ⟨a4, len4, cap4, rfl⟩ := xC Tryz.underlying88 h4
  obtain ⟨n4, r4, b4, u4⟩ := vH Tryz.underlying88 qSU (by decide) h4 fun cs m y hl ht => zHL hl ht
  obtain ⟨a5, len5, cap5, rfl⟩ := xC Tryz.underlying89 h5
  obtain ⟨n5, r5, b5, u5⟩ := vH Tryz.underlying89 qSQ (by decide) h5 fun cs m y hl ht => zHJ hl ht
  exact ⟨⟨n0, n1, n2, n3, n4, n5⟩, ⟨_, _, _, rfl, r2, r4, r5⟩, ⟨⟨maxB b2, u2⟩, ⟨maxB b4, u4⟩, ⟨maxB b5, u5⟩⟩⟩
theorem zHK {m : Nat} {cs : List Value} {y : DataW X × List MemPlace} (hl : cs.length = 17) (h : DataW.trod enc Tryz.prog w base sp held m 96 cs = some y) : ∃ d : DWord, nWord (full w) cs d /\ qPX d := by
 match cs, hl with
 | [c0, c1, c2, c3, c4, c5, c6, c7, c8, c9, c10, c11, c12, c13, c14, c15, c16], _ =>
  obtain ⟨_, _, h0⟩ := qX Tryz.underlying96 h 0 0 1 (ty := 3) rfl zO rfl
  obtain ⟨_, _, h1⟩ := qX Tryz.underlying96 h 1 1 1 (ty := 3) rfl zO rfl
  obtain ⟨_, _, h2⟩ := qX Tryz.underlying96 h 2 2 1 (ty := 3) rfl zO rfl
  obtain ⟨_, _, h3⟩ := qX Tryz.underlying96 h 3 3 1 (ty := 3) rfl zO rfl
  obtain ⟨_, _, h4⟩ := qX Tryz.underlying96 h 4 4 1 (ty := 3) rfl zO rfl
  obtain ⟨_, _, h5⟩ := qX Tryz.underlying96 h 5 5 1 (ty := 3) rfl zO rfl
  obtain ⟨_, _, h6⟩ := qX Tryz.underlying96 h 6 6 1 (ty := 4) rfl uG rfl
  obtain ⟨_, _, h7⟩ := qX Tryz.underlying96 h 7 7 1 (ty := 61) rfl (by kernel_rfl) rfl
  obtain ⟨_, _, h8⟩ := qX Tryz.underlying96 h 8 8 1 (ty := 93) rfl (by kernel_rfl) rfl
  obtain ⟨_, _, h9⟩ := qX Tryz.underlying96 h 9 9 1 (ty := 3) rfl zO rfl
  obtain ⟨_, _, h10⟩ := qX Tryz.underlying96 h 10 10 1 (ty := 61) rfl (by kernel_rfl) rfl
  obtain ⟨_, _, h11⟩ := qX Tryz.underlying96 h 11 11 6 (ty := 94) rfl kD rfl
  obtain ⟨n0, rfl, _⟩ := yD h0
  obtain ⟨n1, rfl, _⟩ := yD h1
  obtain ⟨n2, rfl, _⟩ := yD h2
  obtain ⟨n3, rfl, _⟩ := yD h3
  obtain ⟨n4, rfl, _⟩ := yD h4
  obtain ⟨n5, rfl, _⟩ := yD h5
  obtain ⟨n6, rfl⟩ := qCB h6
  obtain ⟨n7, r7, b7⟩ := qAK h7
  obtain ⟨n8, r8, b8⟩ := qEJ h8
  obtain ⟨n9, rfl, _⟩ := yD h9
  obtain ⟨n10, r10, b10⟩ := qAK h10
  obtain ⟨n11, hc11, _, _, _, _, _, ht11⟩ := qHK rfl h11
  simp only [zW, List.cons.injEq, and_true] at hc11
  obtain ⟨rfl, rfl, rfl, rfl, rfl, rfl⟩ := hc11
  exact ⟨⟨n0, n1, n2, n3, n4, n5, n6, n7, n8, n9, n10, n11⟩, ⟨_, _, _, rfl, r7, r8, r10⟩, ⟨maxB b7, maxB b8, maxB b10, maxB ht11⟩⟩
theorem qOO {m : Nat} {cs : List Value} {y : DataW X × List MemPlace} (hl : cs.length = 11) (h : DataW.trod enc Tryz.prog w base sp held m 99 cs = some y) : ∃ d : DTollCall, nTollCall (full w) cs d /\ kO d := by
 match cs, hl with
 | [c0, c1, c2, c3, c4, c5, c6, c7, c8, c9, c10], _ =>
  obtain ⟨_, _, h0⟩ := qX Tryz.underlying99 h 0 0 6 (ty := 94) rfl kD rfl
  obtain ⟨_, _, h1⟩ := qX Tryz.underlying99 h 1 6 1 (ty := 3) rfl zO rfl
  obtain ⟨_, _, h2⟩ := qX Tryz.underlying99 h 2 7 1 (ty := 3) rfl zO rfl
  obtain ⟨_, _, h3⟩ := qX Tryz.underlying99 h 3 8 1 (ty := 4) rfl uG rfl
  obtain ⟨_, _, h4⟩ := qX Tryz.underlying99 h 4 9 1 (ty := 3) rfl zO rfl
  obtain ⟨_, _, h5⟩ := qX Tryz.underlying99 h 5 10 1 (ty := 61) rfl (by kernel_rfl) rfl
  obtain ⟨n0, hc0, _, _, _, _, _, ht0⟩ := qHK rfl h0
  obtain ⟨n1, rfl, _⟩ := yD h1
  obtain ⟨n2, rfl, _⟩ := yD h2
  obtain ⟨n3, rfl⟩ := qCB h3
  obtain ⟨n4, rfl, _⟩ := yD h4
  obtain ⟨n5, r5, b5⟩ := qAK h5
  simp only [zW, List.cons.injEq, and_true] at hc0
  obtain ⟨rfl, rfl, rfl, rfl, rfl, rfl⟩ := hc0
  exact ⟨⟨n0, n1, n2, n3, n4, n5⟩, ⟨_, rfl, r5⟩, ⟨maxB ht0, maxB b5⟩⟩
theorem qKW {m : Nat} {cs : List Value} {y : DataW X × List MemPlace} (hl : cs.length = 10) (h : DataW.trod enc Tryz.prog w base sp held m 31 cs = some y) : ∃ (d : DTollWorld) (v1 v2 v3 v4 v5 v6 : Value), cs = cTollWorld d v1 v2 v3 v4 v5 v6 /\ nWorld (full w) d v1 v2 v3 v4 v5 v6 /\ qNK d := by
 match cs, hl with
 | [c0, c1, c2, c3, c4, c5, c6, c7, c8, c9], _ =>
  obtain ⟨_, _, h0⟩ := qX Tryz.underlying31 h 0 0 1 (ty := 3) rfl zO rfl
  obtain ⟨_, _, h1⟩ := qX Tryz.underlying31 h 1 1 6 (ty := 26) rfl qSW rfl
  obtain ⟨_, _, h2⟩ := qX Tryz.underlying31 h 2 7 1 (ty := 27) rfl (by kernel_rfl) rfl
  obtain ⟨_, _, h3⟩ := qX Tryz.underlying31 h 3 8 1 (ty := 28) rfl (by kernel_rfl) rfl
  obtain ⟨_, _, h4⟩ := qX Tryz.underlying31 h 4 9 1 (ty := 29) rfl (by kernel_rfl) rfl
  obtain ⟨n0, rfl, _⟩ := yD h0
  obtain ⟨n1, g1, g2, g3, hc1, r1, u1⟩ := in_gate rfl h1
  obtain ⟨a2, len2, cap2, rfl⟩ := xC Tryz.underlying27 h2
  obtain ⟨n2, r2, b2, u2⟩ := vH Tryz.underlying27 qPC (by decide) h2 fun cs m y hl ht => zBU hl ht
  obtain ⟨a3, len3, cap3, rfl⟩ := xC Tryz.underlying28 h3
  obtain ⟨n3, r3, b3, u3⟩ := vH Tryz.underlying28 qSR (by decide) h3 fun cs m y hl ht => zHK hl ht
  obtain ⟨a4, len4, cap4, rfl⟩ := xC Tryz.underlying29 h4
  obtain ⟨n4, r4, b4, u4⟩ := vH Tryz.underlying29 qHC (by decide) h4 fun cs m y hl ht => qOO hl ht
  simp only [zN, List.cons.injEq, and_true] at hc1
  obtain ⟨rfl, rfl, rfl, rfl, rfl, rfl⟩ := hc1
  exact ⟨⟨n0, n1, n2, n3, n4⟩, _, _, _, _, _, _, rfl, ⟨r1, r2, r3, r4⟩, ⟨u1, ⟨maxB b2, u2⟩, ⟨maxB b3, u3⟩, ⟨maxB b4, u4⟩⟩⟩
end
theorem ge_of {w : World} {l : List (String × DataW Unit)} {s : String} {d0 d1 d2 d3 d4 : DataW Unit} (h : laidMet Tryz.prog l w) (h0 : ("loop.example/turnpike/impl.errTime", .iface s d0) ∈ l) (h1 : ("loop.example/turnpike/impl.errGate", .iface s d1) ∈ l) (h2 : ("loop.example/turnpike/impl.errHouses", .iface s d2) ∈ l) (h3 : ("loop.example/turnpike/impl.errRadio", .iface s d3) ∈ l) (h4 : ("loop.example/turnpike/impl.errCalls", .iface s d4) ∈ l) : Ge (full w) where
 e0 := kQ h (g := 0) h0 (by kernel_rfl) (t := 72) (by kernel_rfl) Tryz.underlying72
 e1 := kQ h (g := 1) h1 (by kernel_rfl) (t := 72) (by kernel_rfl) Tryz.underlying72
 e2 := kQ h (g := 2) h2 (by kernel_rfl) (t := 72) (by kernel_rfl) Tryz.underlying72
 e3 := kQ h (g := 3) h3 (by kernel_rfl) (t := 72) (by kernel_rfl) Tryz.underlying72
 e4 := kQ h (g := 4) h4 (by kernel_rfl) (t := 72) (by kernel_rfl) Tryz.underlying72
theorem vars5 {H : Type} {enc : TypeId × Value -> H} {P : Program} {w : World} {sp : Nat -> Bool} {a b c d e : String} {gs : List (DataW H)} {ps : List MemPlace} (h : DataW.TrodVars enc P w sp [a, b, c, d, e] gs ps) : ∃ x0 x1 x2 x3 x4, gs = [x0, x1, x2, x3, x4] := by
 match gs, h with
 | [], h => exact h.elim
 | x0 :: gs, h =>
  obtain ⟨_, _, _, _, _, _, _, _, _, _, h, _⟩ := h
  match gs, h with
  | [], h => exact h.elim
  | x1 :: gs, h =>
   obtain ⟨_, _, _, _, _, _, _, _, _, _, h, _⟩ := h
   match gs, h with
   | [], h => exact h.elim
   | x2 :: gs, h =>
    obtain ⟨_, _, _, _, _, _, _, _, _, _, h, _⟩ := h
    match gs, h with
    | [], h => exact h.elim
    | x3 :: gs, h =>
     obtain ⟨_, _, _, _, _, _, _, _, _, _, h, _⟩ := h
     match gs, h with
     | [], h => exact h.elim
     | x4 :: gs, h =>
      obtain ⟨_, _, _, _, _, _, _, _, _, _, h, _⟩ := h
      obtain ⟨rfl, _⟩ := Go.ChangeShapes.trodVars_none h
      exact ⟨x0, x1, x2, x3, x4, rfl⟩
end Go.Proofs.YtjioiemhgbkbfaaGreatDoor
end

section
namespace Go.Tk
open Go Go.ChangeShapes
variable {P : Program} {f : FuncId} {fn : Func} {s : ChangeSpec} {c : OpenClaim}
def joined1 (P : Program) (fn : Func) (s : ChangeSpec) (c : OpenClaim) : Bool := c.wf (OpenSpec.ofChange s) && laidOutB P && mapsRowed P && fn.params.all (P.readableRec ·) && namedTie P c.named s.vars && (c.stops == []) && (P.stops == []) && (c.knobs == []) && (P.stopKnobs == [])
def joined2 (P : Program) (f : FuncId) (c : OpenClaim) : Bool := (c.inPlace == P.inPlace f) && (c.unfollowed == P.unfollowed f) && (c.recurses == P.recurses f)
def joined3 (P : Program) (f : FuncId) (c : OpenClaim) : Bool := c.named == P.varsNamed f
def joined4 (P : Program) (fn : Func) (s : ChangeSpec) (c : OpenClaim) : Bool := (c.maps == (fn.params.toList ++ s.plain.varTypes P).any (P.mapsRec ·)) && (c.ifaces == (fn.params.toList ++ s.plain.varTypes P).any (P.ifacesRec ·)) && (c.mapsOut == P.mapsAmong fn.resultTypes.toList)
def joined5 (P : Program) (fn : Func) (s : ChangeSpec) (c : OpenClaim) : Bool := (c.loops == (fn.params.toList ++ s.plain.varTypes P).any (P.loopsFrom ·)) && (c.wideKeys == (fn.params.toList ++ s.plain.varTypes P ++ fn.resultTypes.toList).any (P.wideKeysFrom ·))
def joined6 (P : Program) (fn : Func) (s : ChangeSpec) (c : OpenClaim) : Bool := s.vars.all (P.varReadable ·) && fn.resultTypes.all (fun t => P.readableRec t && decide (t < P.types.size)) && (c.ifacesOut == fn.resultTypes.toList.any (P.ifacesRec ·)) && (c.loopsOut == fn.resultTypes.toList.any (P.loopsFrom ·)) && (c.plainKeys == P.plainKeys) && c.shortTexts.isNone
def joined7 (P : Program) (fn : Func) (c : OpenClaim) : Bool := P.stopsHeard && P.mayEnter && (c.lifted == P.liftsFinal) && (P.make == some c.make) && (c.kinds == (if c.domain.isEmpty then [] else fn.params.toList.map fun t => match P.underlying t with | some (.int k) => some k | _ => none)) && (c.pinned == c.pinnedBy)
def joined8 (P : Program) (fn : Func) (s : ChangeSpec) (c : OpenClaim) : Bool := (c.veiled == (fn.params.toList ++ s.plain.varTypes P ++ fn.resultTypes.toList).any (P.veiledRec ·)) && c.veiledFits P fn.params.toList (fn.params.toList ++ s.plain.varTypes P ++ fn.resultTypes.toList)
theorem joined_of (h1 : joined1 P fn s c = true) (h2 : joined2 P f c = true) (h3 : joined3 P f c = true) (h4 : joined4 P fn s c = true) (h5 : joined5 P fn s c = true) (h6 : joined6 P fn s c = true) (h7 : joined7 P fn c = true) (h8 : joined8 P fn s c = true) : joinedFacts P f fn s c = true := by
 unfold joined1 at h1; unfold joined2 at h2; unfold joined3 at h3; unfold joined4 at h4; unfold joined5 at h5; unfold joined6 at h6; unfold joined7 at h7; unfold joined8 at h8
 unfold joinedFacts
 simp only [Bool.and_eq_true] at *
 obtain ⟨⟨⟨⟨⟨⟨⟨⟨a1, a2⟩, a3⟩, a4⟩, a5⟩, a6⟩, a7⟩, a8⟩, a9⟩ := h1
 obtain ⟨⟨b1, b2⟩, b3⟩ := h2
 obtain ⟨⟨d1, d2⟩, d3⟩ := h4
 obtain ⟨e1, e2⟩ := h5
 obtain ⟨⟨⟨⟨⟨f1, f2⟩, f3⟩, f4⟩, f5⟩, f6⟩ := h6
 obtain ⟨⟨⟨⟨⟨g1, g2⟩, g3⟩, g4⟩, g5⟩, g6⟩ := h7
 obtain ⟨i1, i2⟩ := h8
 exact ⟨⟨⟨⟨⟨⟨⟨⟨⟨⟨⟨⟨⟨⟨⟨⟨⟨⟨⟨⟨⟨⟨⟨⟨⟨⟨⟨⟨⟨⟨⟨a1, a2⟩, a3⟩, a4⟩, a5⟩, a6⟩, a7⟩, a8⟩, a9⟩, b1⟩, b2⟩, b3⟩, h3⟩, d1⟩, d2⟩, d3⟩, e1⟩, e2⟩, f1⟩, f2⟩, f3⟩, f4⟩, f5⟩, f6⟩, g1⟩, g2⟩, g3⟩, g4⟩, g5⟩, g6⟩, i1⟩, i2⟩
end Go.Tk
end

section
attribute [local irreducible] Go.Tk.vc Go.Tk.vops Go.Tk.vdr Go.Tk.vop Go.Tk.vfl Go.Tk.HCalls
namespace Go.Proofs.YtjioiemhgbkbfaaGreatDoor
open Go Go.Tk
theorem qND {h : H} {d : DTollWorld} {v1 v2 v3 v4 v5 v6 : Value} (gl : Gl h) (gm : MxL h) (ge : Ge h) (r : sTollWorld h d v1 v2 v3 v4 v5 v6) (hb : bWorld d) {R : Ending -> H -> Prop} (k1 : jJ d -> R (.returned .nilIface) h) (k2 : ¬ jJ d -> ∀ te pe, R (.returned (.iface te pe)) h) :
  HCalls Tryz.prog 25 #[.agg (cTollWorld d v1 v2 v3 v4 v5 v6).toArray] h R := by
 refine qD lite (args := [.agg (cTollWorld d v1 v2 v3 v4 v5 v6).toArray]) Tryz.func25 ?_
 conv => arg 2; cbv
 rw [qR]
 have egl : ∀ (env : List Value) (g : Nat), evl env (.global g) = .pointer (some ⟨g, 0, none⟩) := fun _ _ => rfl
 have b1 := hb.rlen
 have b2 := hb.hlen
 have b3 := hb.clen
 unfold lim at b1 b2 b3
 simp only [wK, seval, yQ]
 refine qC (o := blk (cTollWorld d v1 v2 v3 v4 v5 v6) 43) fun j1 h1 => ?_
 obtain ⟨A, hA⟩ : ∃ A, A = (j1, blk (cTollWorld d v1 v2 v3 v4 v5 v6) 43) :: h := ⟨_, rfl⟩
 have sA : Tk.Sub h A := by rw [hA]; exact Sub.cons h1 (Sub.refl _)
 have gA : hget A j1 = some (blk (cTollWorld d v1 v2 v3 v4 v5 v6) 43) := by rw [hA]; exact qG _ _ _
 have c0 : hcel A j1 0 = some (.int .i64 d.time) := qE gA rfl
 have cg : qV A j1 1 6 = some (zN d.gate v1 v2 v3) := by unfold qV; rw [gA]; rfl
 have c7 : hcel A j1 7 = some v4 := qE gA rfl
 have c8 : hcel A j1 8 = some v5 := qE gA rfl
 have c9 : hcel A j1 9 = some v6 := qE gA rfl
 obtain ⟨⟨t0, p0, y0, g0⟩, ⟨t1, p1, y1, g1⟩, ⟨t2, p2, y2, g2⟩, ⟨t3, p3, y3, g3⟩, ⟨t4, p4, y4, g4⟩⟩ := ge.sub sA
 have x0 : hcel A 0 0 = some (.iface t0 p0) := qE g0 rfl
 have x1 : hcel A 1 0 = some (.iface t1 p1) := qE g1 rfl
 have x2 : hcel A 2 0 = some (.iface t2 p2) := qE g2 rfl
 have x3 : hcel A 3 0 = some (.iface t3 p3) := qE g3 rfl
 have x4 : hcel A 4 0 = some (.iface t4 p4) := qE g4 rfl
 rw [<- hA]
 simp only [wK, seval]
 refine qC (o := blk [.slice none 0 0] 125) fun jf hf => ?_
 obtain ⟨M0, hM0⟩ : ∃ M0, M0 = (jf, blk [.slice none 0 0] 125) :: A := ⟨_, rfl⟩
 have sM0 : Tk.Sub A M0 := by rw [hM0]; exact Sub.cons hf (Sub.refl _)
 have gf0 : hget M0 jf = some (blk [.slice none 0 0] 125) := by rw [hM0]; exact qG _ _ _
 have dW0 : dL 72 eIf 1 M0 (.slice none 0 0) [] (fun _ => False) := dL.nil
 have hj0 : ¬ (fun _ : Nat => False) jf := fun q => q
 have fS0 : ∀ x, (fun _ : Nat => False) x -> hget A x = none := fun _ q => q.elim
 have len0 : ([] : List (TypeId × Value)).length <= 0 := Nat.le_refl _
 rw [<- hM0]
 simp only [wK, seval]
 refine zC A sM0 ?_
 simp only [wK, seval, egl, c0, x0, sM0]
 refine yO fun q11 k11 => ?_
 simp only [wK, seval, sM0]
 refine ⟨by kernel_rfl, qIR gf0 dW0 hj0 (by omega) fun M1 w1 L1 S1 gf1 dW1 hj1 kp1 ff1 iff1 len1 => ?_⟩
 have sM1 : Tk.Sub A M1 := fun x o e => by
  rw [kp1 x (by rw [sM0 x o e]; simp) (fun q => by rw [fS0 x q] at e; cases e) (fun c => by rw [c, hf] at e; cases e)]; exact sM0 x o e
 have fS1 : ∀ x, S1 x -> hget A x = none := fun x q => by
  rcases ff1 x q with e | e
  ·exact fS0 x e
  ·exact sM0.none' e
 simp only [wK, seval, sM1]
 refine zC A sM1 ?_
 simp only [wK, seval, egl, cg, x1, sM1]
 refine qOS ((gl.sub sA).sub sM1) ((gm.sub sA).sub sM1) (sGate.sub (sA.trans sM1) ⟨r.1, r.2.1, r.2.2.1⟩) hb.gate fun q12 k12 => ?_
 simp only [wK, seval, sM1]
 refine ⟨by kernel_rfl, qIR gf1 dW1 hj1 (by omega) fun M2 w2 L2 S2 gf2 dW2 hj2 kp2 ff2 iff2 len2 => ?_⟩
 have sM2 : Tk.Sub A M2 := fun x o e => by
  rw [kp2 x (by rw [sM1 x o e]; simp) (fun q => by rw [fS1 x q] at e; cases e) (fun c => by rw [c, hf] at e; cases e)]; exact sM1 x o e
 have fS2 : ∀ x, S2 x -> hget A x = none := fun x q => by
  rcases ff2 x q with e | e
  ·exact fS1 x e
  ·exact sM1.none' e
 simp only [wK, seval, sM2]
 refine zC A sM2 ?_
 simp only [wK, seval, egl, c7, x2, sM2]
 refine qKZ ((r.2.2.2.1.subH (sA.trans sM2)).relImp fun _ _ q => rHouse.sub (sA.trans sM2) q) hb.houses b2 fun q13 k13 => ?_
 simp only [wK, seval, sM2]
 refine ⟨by kernel_rfl, qIR gf2 dW2 hj2 (by omega) fun M3 w3 L3 S3 gf3 dW3 hj3 kp3 ff3 iff3 len3 => ?_⟩
 have sM3 : Tk.Sub A M3 := fun x o e => by
  rw [kp3 x (by rw [sM2 x o e]; simp) (fun q => by rw [fS2 x q] at e; cases e) (fun c => by rw [c, hf] at e; cases e)]; exact sM2 x o e
 have fS3 : ∀ x, S3 x -> hget A x = none := fun x q => by
  rcases ff3 x q with e | e
  ·exact fS2 x e
  ·exact sM2.none' e
 simp only [wK, seval, sM3]
 refine zC A sM3 ?_
 simp only [wK, seval, egl, c8, x3, sM3]
 refine zAX ((r.2.2.2.2.1.subH (sA.trans sM3)).relImp fun _ _ q => rWord.sub (sA.trans sM3) q) hb.radio b1 fun q14 k14 => ?_
 simp only [wK, seval, sM3]
 refine ⟨by kernel_rfl, qIR gf3 dW3 hj3 (by omega) fun M4 w4 L4 S4 gf4 dW4 hj4 kp4 ff4 iff4 len4 => ?_⟩
 have sM4 : Tk.Sub A M4 := fun x o e => by
  rw [kp4 x (by rw [sM3 x o e]; simp) (fun q => by rw [fS3 x q] at e; cases e) (fun c => by rw [c, hf] at e; cases e)]; exact sM3 x o e
 have fS4 : ∀ x, S4 x -> hget A x = none := fun x q => by
  rcases ff4 x q with e | e
  ·exact fS3 x e
  ·exact sM3.none' e
 simp only [wK, seval, sM4]
 refine zC A sM4 ?_
 simp only [wK, seval, egl, c9, c0, x4, sM4]
 refine qLD ((r.2.2.2.2.2.subH (sA.trans sM4)).relImp fun _ _ q => rTollCall.sub (sA.trans sM4) q) hb.calls fun q15 k15 => ?_
 simp only [wK, seval, sM4]
 refine ⟨by kernel_rfl, qIR gf4 dW4 hj4 (by omega) fun M5 w5 L5 S5 gf5 dW5 hj5 kp5 ff5 iff5 len5 => ?_⟩
 have sM5 : Tk.Sub A M5 := fun x o e => by
  rw [kp5 x (by rw [sM4 x o e]; simp) (fun q => by rw [fS4 x q] at e; cases e) (fun c => by rw [c, hf] at e; cases e)]; exact sM4 x o e
 have fS5 : ∀ x, S5 x -> hget A x = none := fun x q => by
  rcases ff5 x q with e | e
  ·exact fS4 x e
  ·exact sM4.none' e
 simp only [wK, seval, sM5]
 have cf : hcel M5 jf 0 = some w5 := qE gf5 rfl
 have iff : jJ d ↔ L5 = [] := by
  rw [iff5, iff4, iff3, iff2, iff1]
  unfold jJ
  constructor
  ·rintro ⟨a0, a1, a2, a3, a4, a5, a6⟩
   exact ⟨⟨⟨⟨⟨rfl, k11.2 a0⟩, k12.2 a1⟩, k13.2 ⟨a2, a5⟩⟩, k14.2 ⟨a3, a6⟩⟩, k15.2 ((qJV (by unfold inP at a0; omega)).2 a4)⟩
  ·rintro ⟨⟨⟨⟨⟨_, a0⟩, a1⟩, a2⟩, a3⟩, a4⟩
   have a0 := k11.1 a0
   have a2 := k13.1 a2
   have a3 := k14.1 a3
   exact ⟨a0, k12.1 a1, a2.1, a3.1, (qJV (by unfold inP at a0; omega)).1 (k15.1 a4), a2.2, a3.2⟩
 simp only [wK, seval, cf]
 refine join_c dW5.rd (by omega) (fun e => ?_) fun e te pe => ?_
 ·simp only [wK, seval]
  exact ⟨h, sA.trans sM5, k1 (iff.2 e)⟩
 ·simp only [wK, seval]
  exact ⟨h, sA.trans sM5, k2 (fun q => e (iff.1 q)) te pe⟩
theorem qOQ {h : H} {d : DTollWorld} {v1 v2 v3 v4 v5 v6 : Value} (gl : Gl h) (gm : MxL h) (ge : Ge h) (r : sTollWorld h d v1 v2 v3 v4 v5 v6) (hb : bWorld d) {R : Ending -> H -> Prop} (k : Asks R (jJ d) h) :
  HCalls Tryz.prog 8 #[.agg (cTollWorld d v1 v2 v3 v4 v5 v6).toArray] h R := by
 refine qD lite (args := [.agg (cTollWorld d v1 v2 v3 v4 v5 v6).toArray]) Tryz.func8 ?_
 conv => arg 2; cbv
 simp only [wK, seval, yQ]
 refine qC (o := blk (cTollWorld d v1 v2 v3 v4 v5 v6) 43) fun j1 h1 => ?_
 obtain ⟨A, hA⟩ : ∃ A, A = (j1, blk (cTollWorld d v1 v2 v3 v4 v5 v6) 43) :: h := ⟨_, rfl⟩
 have sA : Tk.Sub h A := by rw [hA]; exact Sub.cons h1 (Sub.refl _)
 have r1 : qV A j1 0 10 = some (cTollWorld d v1 v2 v3 v4 v5 v6) := zD (by rw [hA]; exact qG _ _ _) rfl
 rw [<- hA]
 simp only [wK, seval, yQ, r1]
 refine qND (gl.sub sA) (gm.sub sA) (ge.sub sA) (sTollWorld.sub sA r) hb (fun e => ?_) fun e te pe => ?_
 ·simp only [wK, seval]
  first | exact k.dyes sA e | exact ⟨rfl, k.dyes sA e⟩
 ·simp only [wK, seval]
  exact k.dno sA e
end Go.Proofs.YtjioiemhgbkbfaaGreatDoor
end

section
attribute [local irreducible] Go.Tk.vc Go.Tk.vops Go.Tk.vdr Go.Tk.vop Go.Tk.vfl Go.Tk.HCalls
namespace Go.Proofs.YtjioiemhgbkbfaaGreatDoor
open Go Go.Tk
theorem qWN {h : H} {v : Value} {l : List Int} (r : rLs h eI 1 v l) (hl : l.length <= 1048576) {R : Ending -> H -> Prop} (k : ∀ M' v' S, Tk.Sub h M' -> dL 3 eI 1 M' v' l S -> (∀ x, S x -> hget h x = none) -> R (.returned v') M') :
  HCalls Tryz.prog 127 #[v] h R := qOY Tryz.func127 ir127 qDE zFH iInt r (by omega) (by omega) fun v' g o d => k _ v' _ (Sub.right d) (dL.of (h := h) o (Sub.left _ _)) fun x q => d x q
theorem qSO {h : H} {v : Value} {l : List (Int × Int)} (r : rLs h eP 2 v l) (hl : l.length <= 1048576) {R : Ending -> H -> Prop} (k : ∀ M' v' S, Tk.Sub h M' -> dL 175 eP 2 M' v' l S -> (∀ x, S x -> hget h x = none) -> R (.returned v') M') :
  HCalls Tryz.prog 128 #[v] h R := qOY Tryz.func128 ir128 qJQ qNR qYD r (by omega) (by omega) fun v' g o d => k _ v' _ (Sub.right d) (dL.of (h := h) o (Sub.left _ _)) fun x q => d x q
end Go.Proofs.YtjioiemhgbkbfaaGreatDoor
end

section
attribute [local irreducible] Go.Tk.vc Go.Tk.vops Go.Tk.vdr Go.Tk.vop Go.Tk.vfl Go.Tk.HCalls
namespace Go.Proofs.YtjioiemhgbkbfaaGreatDoor
open Go Go.Tk
theorem zGB {h : H} {cs : List Value} {d : DRec} (r : rRec h cs d) : cs.length = 6 := by obtain ⟨v, p, rfl, r1, r2⟩ := r; rfl
theorem qUQ {h : H} {cs : List Value} {d : DRec} (r : rRec h cs d) (hx : bRec d) {R : Ending -> H -> Prop} (k : ∀ M' cs' S, Tk.Sub h M' -> WRec M' cs' d S -> (∀ x, S x -> hget h x = none) -> cs'.length = 6 -> cs'.all vone = true -> R (.returned (.agg cs'.toArray)) M') :
  HCalls Tryz.prog 77 #[.agg cs.toArray] h R := by
 obtain ⟨v1, v2, rfl, r1, r2⟩ := r
 refine qD lite (args := [.agg (cRec d v1 v2).toArray]) Tryz.func77 ?_
 conv => arg 2; cbv
 rw [qR]
 have z1 := vR
 try simp only [str] at z1
 simp only [wK, seval, wRec, str, z1]
 refine qC (o := blk (cRec d v1 v2) 137) fun j1 h1 => ?_
 simp only [wK, seval, wRec, z1]
 refine qC (o := blk (cRec zRec (.slice none 0 0) (.slice none 0 0)) 137) fun j2 h2 => ?_
 have n2 := h2
 simp only [subs] at n2
 have ne12 : j1 ≠ j2 := fun e => n2.1 e.symm
 obtain ⟨N0, hN0⟩ : ∃ N0, N0 = (j2, blk (cRec zRec (.slice none 0 0) (.slice none 0 0)) 137) :: (j1, blk (cRec d v1 v2) 137) :: h := ⟨_, rfl⟩
 have sN0 : Tk.Sub h N0 := by rw [hN0]; exact Sub.cons h2 (Sub.cons h1 (Sub.refl _))
 have g2_0 : hget N0 j2 = some (blk (cRec zRec (.slice none 0 0) (.slice none 0 0)) 137) := by rw [hN0]; exact qG _ _ _
 have g1_0 : hget N0 j1 = some (blk (cRec d v1 v2) 137) := by rw [hN0, xE _ _ _ ne12]; exact qG _ _ _
 rw [<- hN0]
 have cl1 : hcel N0 j1 4 = some v1 := qE g1_0 rfl
 try simp only [wK, seval, wRec, cl1]
 refine qWN (r1.sub sN0) (by have := hx.s; unfold lim at this; omega) fun M1 w1 S1 t1 u1 f1 => ?_
 have g1_1' := t1 _ _ g1_0
 have g2_1' := t1 _ _ g2_0
 obtain ⟨N1, hN1⟩ : ∃ N1, N1 = hupd M1 j1 (blk (cRec d w1 v2) 137) := ⟨_, rfl⟩
 have wt1 : zQ M1 j1 4 [w1] = some N1 := by
  rw [hN1]; exact yI g1_1' (by show 4 + 1 <= 6; omega)
 have on1 := u1.one
 have vcw1 := vc1 on1
 have g1_1 : hget N1 j1 = some (blk (cRec d w1 v2) 137) := by rw [hN1]; exact zH g1_1'
 have g2_1 : hget N1 j2 = some (blk (cRec zRec (.slice none 0 0) (.slice none 0 0)) 137) := by rw [hN1, qS ne12.symm]; exact g2_1'
 have fr1 : ∀ x, x ≠ j1 -> hget N1 x = hget M1 x := fun x e => by rw [hN1, qS e]
 have sN1 : Tk.Sub h N1 := fun x o e => by
  rw [fr1 x (fun c => by subst c; rw [h1] at e; cases e)]; exact t1 _ _ (sN0 _ _ e)
 simp only [wK, seval, wRec, wt1, on1, vcw1]
 have cl2 : hcel N1 j1 5 = some v2 := qE g1_1 rfl
 try simp only [wK, seval, wRec, cl2]
 refine qSO (r2.sub sN1) (by have := hx.p; unfold lim at this; omega) fun M2 w2 S2 t2 u2 f2 => ?_
 have g1_2' := t2 _ _ g1_1
 have g2_2' := t2 _ _ g2_1
 obtain ⟨N2, hN2⟩ : ∃ N2, N2 = hupd M2 j1 (blk (cRec d w1 w2) 137) := ⟨_, rfl⟩
 have wt2 : zQ M2 j1 5 [w2] = some N2 := by
  rw [hN2]; exact yI g1_2' (by show 5 + 1 <= 6; omega)
 have on2 := u2.one
 have vcw2 := vc1 on2
 have g1_2 : hget N2 j1 = some (blk (cRec d w1 w2) 137) := by rw [hN2]; exact zH g1_2'
 have g2_2 : hget N2 j2 = some (blk (cRec zRec (.slice none 0 0) (.slice none 0 0)) 137) := by rw [hN2, qS ne12.symm]; exact g2_2'
 have fr2 : ∀ x, x ≠ j1 -> hget N2 x = hget M2 x := fun x e => by rw [hN2, qS e]
 have sN2 : Tk.Sub h N2 := fun x o e => by
  rw [fr2 x (fun c => by subst c; rw [h1] at e; cases e)]; exact t2 _ _ (sN1 _ _ e)
 simp only [wK, seval, wRec, wt2, on2, vcw2]
 have rd3 : qV N2 j1 0 6 = some (cRec d w1 w2) := zD g1_2 rfl
 obtain ⟨Z3, hZ3⟩ : ∃ Z3, Z3 = hupd N2 j2 (blk (cRec d w1 w2) 137) := ⟨_, rfl⟩
 have wtz : zQ N2 j2 0 (cRec d w1 w2) = some Z3 := by
  rw [hZ3]; exact yI g2_2 (by show 0 + 6 <= 6; omega)
 have hone : (cRec d w1 w2).all vone = true := by simp only [cRec, List.all_cons, List.all_nil, on1, on2]; rfl
 simp only [wK, seval, wRec, rd3, wtz, hone]
 have rdz : qV Z3 j2 0 6 = some (cRec d w1 w2) := zD (by rw [hZ3]; exact zH g2_2) rfl
 try simp only [wK, seval, wRec, rdz]
 have frz : ∀ x, x ≠ j2 -> hget Z3 x = hget N2 x := fun x e => by rw [hZ3, qS e]
 have ne1 : ∀ x, S1 x -> x ≠ j2 /\ x ≠ j1 := fun x q => ⟨fun e => (by have := f1 x q; rw [e, g2_0] at this; cases this), fun e => (by have := f1 x q; rw [e, g1_0] at this; cases this)⟩
 have ne2 : ∀ x, S2 x -> x ≠ j2 /\ x ≠ j1 := fun x q => ⟨fun e => (by have := f2 x q; rw [e, g2_1] at this; cases this), fun e => (by have := f2 x q; rw [e, g1_1] at this; cases this)⟩
 have e1_1 : ∀ x, S1 x -> hget N1 x = hget M1 x := fun x q => fr1 x (ne1 x q).2
 have e1_2 : ∀ x, S1 x -> hget N2 x = hget M1 x := fun x q => by rw [fr2 x (ne1 x q).2, Sub.eq t2 (by rw [e1_1 x q]; exact u1.in q), e1_1 x q]
 have e2_2 : ∀ x, S2 x -> hget N2 x = hget M2 x := fun x q => fr2 x (ne2 x q).2
 have d12 : ∀ x, S1 x -> ¬ S2 x := fun x q q2 => by
  have := f2 x q2
  rw [e1_1 x q] at this
  exact u1.in q this
 refine .of (k _ _ _ (fun x o e => by rw [frz x (fun c => by subst c; rw [n2.2] at e; cases e)]; exact sN2 x o e) ⟨w1, w2, S1, S2, rfl, (u1.frame fun x q => by rw [frz x (ne1 x q).1, e1_2 x q]), (u2.frame fun x q => by rw [frz x (ne2 x q).1, e2_2 x q]), d12, fun _ => Iff.rfl⟩ ?_ rfl hone)
 rintro x (q | q)
 ·exact sN0.none' (f1 x q)
 ·exact sN1.none' (f2 x q)
theorem zCO {h : H} {v : Value} {l : List DRec} (r : rRs h (rRec h) 6 v l) (hl : l.length <= 1048576) (hb : ∀ d ∈ l, bRec d) {R : Ending -> H -> Prop} (k : ∀ M' v' S, Tk.Sub h M' -> dR 137 WRec 6 M' v' l S -> (∀ x, S x -> hget h x = none) -> R (.returned v') M') :
  HCalls Tryz.prog 75 #[v, .func (.func 77) #[] #[]] h R :=
 each_c (rel := rRec) (W := WRec) (bd := bRec) (z := [.int .i64 0, .int .i64 0, .int .i64 0, .int .i64 0, .slice none 0 0, .slice none 0 0]) Tryz.func75 ir75 rfl zFG iRec WRec.fr WRec.in (fun s _ _ q => rRec.sub s q) (fun q => zGB q) (fun q => qEA q) (fun q => qEA (WRec.rd _ _ _ _ q)) (by kernel_rfl)
  (fun h cs d q b R k => qUQ q b k) r hl hb (by omega) k
end Go.Proofs.YtjioiemhgbkbfaaGreatDoor
end

section
attribute [local irreducible] Go.Tk.vc Go.Tk.vops Go.Tk.vdr Go.Tk.vop Go.Tk.vfl Go.Tk.HCalls
namespace Go.Tk
open Go
def qIB (d : DHouse) : Prop := d.up = true /\ uY d.log = [] /\ d.works = [] /\ ∀ x ∈ d.locks, qAV x
def qNE (w : DTollWorld) : Prop := jJ w /\ w.radio = [] /\ w.gate.up = true /\ w.gate.lives = [] /\ w.gate.ways = [] /\ ∀ x ∈ w.houses, qIB x
theorem len_nil {α : Type} {l : List α} : ¬ (0 : Int) < l.length ↔ l = [] := ⟨fun e => List.eq_nil_of_length_eq_zero (by omega), fun e => by rw [e]; simp⟩
theorem len0 {α : Type} {l : List α} (e : (l.length : Int) <= 0) : l = [] := List.eq_nil_of_length_eq_zero (by omega)
end Go.Tk
namespace Go.Proofs.YtjioiemhgbkbfaaGreatDoor
open Go Go.Tk
theorem qRX {h : H} {d : DHouse} {lg lk wk : Value} (r : sHouse h d lg lk wk) (hb : bHouse d) (ok : xV d) {R : Ending -> H -> Prop} (k : ∀ M' v, Tk.Sub h M' -> rRs M' (rRec M') 6 v (uY d.log) -> R (.returned v) M') :
  HCalls Tryz.prog 31 #[.agg (qT d lg lk wk).toArray] h R := by
 refine qD lite (args := [.agg (qT d lg lk wk).toArray]) Tryz.func31 ?_
 conv => arg 2; cbv
 simp only [wK, seval, yC]
 refine qC (o := blk (qT d lg lk wk) 59) fun j1 h1 => ?_
 obtain ⟨A, hA⟩ : ∃ A, A = (j1, blk (qT d lg lk wk) 59) :: h := ⟨_, rfl⟩
 have sA : Tk.Sub h A := by rw [hA]; exact Sub.cons h1 (Sub.refl _)
 have rd1 : qV A j1 0 6 = some (qT d lg lk wk) := zD (by rw [hA]; exact qG _ _ _) rfl
 rw [<- hA]
 simp only [wK, seval, yC, rd1]
 refine qEL (r.sub sA) hb fun M jk q sM hq hw => ?_
 obtain rfl : q = true := hq.2 ok
 obtain ⟨H0, ks, s0, w⟩ := hw rfl
 simp only [wK, seval, Bool.not_true]
 refine qXR w fun M2 v s2 ro => ?_
 have hbo : ∀ x ∈ uY d.log, bRec x := fun x hx => hb.recs _ (List.mem_filter.1 hx).1
 have lo : (uY d.log).length <= 1048576 := Nat.le_trans (List.length_filter_le _ _) (by have := ok.2.1.1; omega)
 simp only [wK, seval]
 refine zCO ro lo hbo fun M3 v3 S3 s3 d3 f3 => ?_
 simp only [wK, seval]
 have s : Tk.Sub h M3 := sA.trans (sM.trans (s2.trans s3))
 exact .of (k M3 v3 s (d3.rd WRec.rd))
theorem qHA {h : H} {d : DTollWorld} {v1 v2 v3 v4 v5 v6 : Value} (gl : Gl h) (gm : MxL h) (ge : Ge h) (r : sTollWorld h d v1 v2 v3 v4 v5 v6) (hb : bWorld d) {R : Ending -> H -> Prop} (k : Asks R (qNE d) h) :
  HCalls Tryz.prog 11 #[.agg (cTollWorld d v1 v2 v3 v4 v5 v6).toArray] h R := by
 refine qD lite (args := [.agg (cTollWorld d v1 v2 v3 v4 v5 v6).toArray]) Tryz.func11 ?_
 conv => arg 2; cbv
 rw [qR]
 have b1 := hb.rlen
 have b2 := hb.hlen
 have b3 := hb.gate.lives
 have b4 := hb.gate.ways
 unfold lim at b1 b2 b3 b4
 simp only [wK, seval, yQ]
 refine qC (o := blk (cTollWorld d v1 v2 v3 v4 v5 v6) 43) fun j1 h1 => ?_
 obtain ⟨M, hM⟩ : ∃ M, M = (j1, blk (cTollWorld d v1 v2 v3 v4 v5 v6) 43) :: h := ⟨_, rfl⟩
 have sM : Tk.Sub h M := by rw [hM]; exact Sub.cons h1 (Sub.refl _)
 have gM : hget M j1 = some (blk (cTollWorld d v1 v2 v3 v4 v5 v6) 43) := by rw [hM]; exact qG _ _ _
 have ca : qV M j1 0 10 = some (cTollWorld d v1 v2 v3 v4 v5 v6) := zD gM rfl
 have c1 : hcel M j1 1 = some (.bool d.gate.up) := qE gM rfl
 have c5 : hcel M j1 5 = some v2 := qE gM rfl
 have c6 : hcel M j1 6 = some v3 := qE gM rfl
 have c7 : hcel M j1 7 = some v4 := qE gM rfl
 have c8 : hcel M j1 8 = some v5 := qE gM rfl
 have rg : sGate M d.gate v1 v2 v3 := sGate.sub sM ⟨r.1, r.2.1, r.2.2.1⟩
 have rh := (r.2.2.2.1.subH sM).relImp fun _ _ q => rHouse.sub sM q
 have rr := (r.2.2.2.2.1.subH sM).relImp fun _ _ q => rWord.sub sM q
 have zh := kL
 rw [<- hM]
 try simp only [wK, seval, ca]
 refine qOQ (gl.sub sM) (gm.sub sM) (ge.sub sM) (sTollWorld.sub sM r) hb fun q1 k1 => ?_
 cases q1 with
 | false => simp only [wK, seval]; exact k.dno sM fun x => qW k1 rfl x.1
 | true =>
 simp only [wK, seval, c8, rr.len, c1]
 refine qF (fun e => ?_) fun e => ?_
 ·try simp only [wK, seval]
  exact k.dno sM fun x => len_nil.2 x.2.1 e
 have hr := len0 e
 obtain ⟨u, hu⟩ : ∃ u, u = d.gate.up := ⟨_, rfl⟩
 rw [<- hu] at c1
 try simp only [wK, seval, <- hu]
 cases u with
 | false => simp only [wK, seval]; exact k.dno sM fun x => by have a := x.2.2.1; rw [<- hu] at a; cases a
 | true =>
 simp (disch := omega) only [wK, seval, c5, c6, rg.2.1.len, rg.2.2.len, qK]
 refine qF (fun e2 => ?_) fun e2 => ?_
 ·try simp only [wK, seval]
  exact k.dno sM fun x => by have a := x.2.2.2.1; have b := x.2.2.2.2.1; rw [a, b] at e2; simp at e2
 have hl1 : d.gate.lives = [] := List.eq_nil_of_length_eq_zero (by omega)
 have hl2 : d.gate.ways = [] := List.eq_nil_of_length_eq_zero (by omega)
 try simp only [wK, seval, c7, rh.len]
 refine qP [35] (fun n vs h' => ∃ i : Nat, vs = [.int .i64 i] /\ h' = M /\ i <= d.houses.length /\ n = d.houses.length - i /\ ∀ x ∈ d.houses.take i, qIB x) d.houses.length rfl ⟨0, rfl, rfl, by omega, by omega, by simp⟩ ?_
 rintro n f h' ⟨i, hv, rfl, hi, rfl, ht⟩
 simp only [lm4] at hv
 simp only [wK, seval, wr, hv]
 refine qF (fun c => ?_) fun c => ?_
 ·have hi2 : i < d.houses.length := by omega
  obtain ⟨b, o, cs, hx, e1, va, vb, vc, rfl, sr⟩ := zU rh hi2
  obtain ⟨x, hxx⟩ : ∃ x, x = d.houses[i] := ⟨_, rfl⟩
  have hbx : bHouse x := hxx ▸ hb.houses _ (List.getElem_mem hi2)
  have hok : xV x := by have := ((k1.1 rfl).2.2.2.2.2.1 i hi2).1; rw [<- hxx] at this; exact this
  have b5 := hbx.locks
  have b6 := hbx.works
  unfold lim at b5 b6
  rw [<- hxx] at e1 sr
  have no : ¬ qIB x -> ¬ qNE d := fun a y => a (by rw [hxx]; exact y.2.2.2.2.2 _ (List.getElem_mem hi2))
  simp only [wK, seval, hx, e1, zh, yC]
  refine qC (o := blk (qT zHouse (.slice none 0 0) (.slice none 0 0) (.slice none 0 0)) 59) fun j4 h4 => ?_
  have one4 : (qT x va vb vc).all vone = true := by simp only [qT, List.all_cons, List.all_nil, rRs.one sr.1, rRs.one sr.2.1, rRs.one sr.2.2]; rfl
  try simp only [wK, seval, zh, yC, one4]
  obtain ⟨N, hN⟩ : ∃ N, N = (j4, blk (qT x va vb vc) 59) :: h' := ⟨_, rfl⟩
  have sN : Tk.Sub h' N := by rw [hN]; exact Sub.cons h4 (Sub.refl _)
  have gN : hget N j4 = some (blk (qT x va vb vc) 59) := by rw [hN]; exact qG _ _ _
  have p1 : hcel N j4 1 = some (.bool x.up) := qE gN rfl
  have rN := rHouse.sub sN ⟨_, _, _, rfl, sr⟩
  have sr' : sHouse N x va vb vc := sr.sub sN
  rw [<- hN]
  obtain ⟨u, hu2⟩ : ∃ u, u = x.up := ⟨_, rfl⟩
  rw [<- hu2]
  cases u with
  | false => rw [if_pos rfl]; exact k.dno (sM.trans sN) (no fun y => by have a := y.1; rw [<- hu2] at a; cases a)
  | true =>
  rw [if_neg (by simp)]
  refine qRX sr' hbx hok fun M2 vo s2 ro => ?_
  have p5 : hcel M2 j4 5 = some vc := yA s2 (qE gN rfl)
  have p4 : hcel M2 j4 4 = some vb := yA s2 (qE gN rfl)
  have sr2 : sHouse M2 x va vb vc := sr'.sub s2
  have s3 := sM.trans (sN.trans s2)
  simp only [wK, seval, ro.len]
  refine qF (fun e4 => ?_) fun e4 => ?_
  ·try simp only [wK, seval]
   exact k.dno s3 (no fun y => len_nil.2 y.2.1 e4)
  have ho := len0 e4
  simp only [wK, seval, p5, sr2.2.2.len]
  refine qF (fun e5 => ?_) fun e5 => ?_
  ·try simp only [wK, seval]
   exact k.dno s3 (no fun y => len_nil.2 y.2.2.1 e5)
  have hw := len0 e5
  simp only [wK, seval, p4]
  refine qGM sr2.2.1 hbx.lock b5 fun q3 k3 => ?_
  cases q3 with
  | false => simp only [wK, seval]; exact k.dno s3 (no fun y => qW k3 rfl y.2.2.2)
  | true =>
  simp (disch := omega) only [wK, seval, qK]
  refine ⟨d.houses.length - (i + 1), by omega, h', sN.trans s2, i + 1, by simp, rfl, by omega, rfl, fun y hy => ?_⟩
  rw [yH hi2] at hy
  rcases List.mem_append.1 hy with hy | hy
  ·exact ht y hy
  ·rw [List.mem_singleton.1 hy, <- hxx]; exact ⟨hu2.symm, ho, hw, k3.1 rfl⟩
 ·have hi2 : i = d.houses.length := by omega
  rw [hi2, List.take_length] at ht
  try simp only [wK, seval]
  exact k.dyes sM ⟨k1.1 rfl, hr, hu.symm, hl1, hl2, ht⟩
end Go.Proofs.YtjioiemhgbkbfaaGreatDoor
end

section
attribute [local irreducible] Go.Tk.vc Go.Tk.vops Go.Tk.vdr Go.Tk.vop Go.Tk.vfl Go.Tk.HCalls
namespace Go.Proofs.YtjioiemhgbkbfaaGreatDoor
open Go Go.Tk
theorem qGX {h : H} {d : DTollWorld} {v1 v2 v3 v4 v5 v6 : Value} (r : sTollWorld h d v1 v2 v3 v4 v5 v6) (hb : bWorld d) {R : Ending -> H -> Prop} (k : Asks R (qNE d) h) :
  HCalls Tryz.prog 10 #[.agg (cTollWorld d v1 v2 v3 v4 v5 v6).toArray] h R := by
 refine qD lite (args := [.agg (cTollWorld d v1 v2 v3 v4 v5 v6).toArray]) Tryz.func10 ?_
 conv => arg 2; cbv
 rw [qR]
 have b1 := hb.rlen
 have b2 := hb.hlen
 have b3 := hb.gate.lives
 have b4 := hb.gate.ways
 unfold lim at b1 b2 b3 b4
 simp only [wK, seval, yQ]
 refine qC (o := blk (cTollWorld d v1 v2 v3 v4 v5 v6) 43) fun j1 h1 => ?_
 obtain ⟨M, hM⟩ : ∃ M, M = (j1, blk (cTollWorld d v1 v2 v3 v4 v5 v6) 43) :: h := ⟨_, rfl⟩
 have sM : Tk.Sub h M := by rw [hM]; exact Sub.cons h1 (Sub.refl _)
 have gM : hget M j1 = some (blk (cTollWorld d v1 v2 v3 v4 v5 v6) 43) := by rw [hM]; exact qG _ _ _
 have ca : qV M j1 0 10 = some (cTollWorld d v1 v2 v3 v4 v5 v6) := zD gM rfl
 have c1 : hcel M j1 1 = some (.bool d.gate.up) := qE gM rfl
 have c5 : hcel M j1 5 = some v2 := qE gM rfl
 have c6 : hcel M j1 6 = some v3 := qE gM rfl
 have c7 : hcel M j1 7 = some v4 := qE gM rfl
 have c8 : hcel M j1 8 = some v5 := qE gM rfl
 have rg : sGate M d.gate v1 v2 v3 := sGate.sub sM ⟨r.1, r.2.1, r.2.2.1⟩
 have rh := (r.2.2.2.1.subH sM).relImp fun _ _ q => rHouse.sub sM q
 have rr := (r.2.2.2.2.1.subH sM).relImp fun _ _ q => rWord.sub sM q
 have zh := kL
 rw [<- hM]
 try simp only [wK, seval, ca]
 refine qNX (sTollWorld.sub sM r) hb fun q1 k1 => ?_
 cases q1 with
 | false => simp only [wK, seval]; exact k.dno sM fun x => qW k1 rfl x.1
 | true =>
 obtain ⟨u, hu⟩ : ∃ u, u = d.gate.up := ⟨_, rfl⟩
 rw [<- hu] at c1
 simp only [wK, seval, c1]
 cases u with
 | false => simp only [wK, seval]; exact k.dno sM fun x => by have a := x.2.2.1; rw [<- hu] at a; cases a
 | true =>
 simp (disch := omega) only [wK, seval, c5, c6, c8, rg.2.1.len, rg.2.2.len, rr.len, qK]
 refine qF (fun e2 => ?_) fun e2 => ?_
 ·try simp only [wK, seval]
  exact k.dno sM fun x => by have a := x.2.2.2.1; have b := x.2.2.2.2.1; have c := x.2.1; rw [a, b, c] at e2; simp at e2
 have hr : d.radio = [] := List.eq_nil_of_length_eq_zero (by omega)
 have hl1 : d.gate.lives = [] := List.eq_nil_of_length_eq_zero (by omega)
 have hl2 : d.gate.ways = [] := List.eq_nil_of_length_eq_zero (by omega)
 try simp only [wK, seval]
 refine qP [3] (fun n vs h' => ∃ i : Nat, vs = [.int .i64 i] /\ h' = M /\ i <= d.houses.length /\ n = d.houses.length - i /\ ∀ x ∈ d.houses.take i, qIB x) d.houses.length rfl ⟨0, rfl, rfl, by omega, by omega, by simp⟩ ?_
 rintro n f h' ⟨i, hv, rfl, hi, rfl, ht⟩
 simp only [lm4] at hv
 simp only [wK, seval, wr, hv, c7, rh.len]
 refine qF (fun c => ?_) fun c => ?_
 ·have hi2 : i < d.houses.length := by omega
  obtain ⟨b, o, cs, hx, e1, va, vb, vc, rfl, sr⟩ := zU rh hi2
  obtain ⟨x, hxx⟩ : ∃ x, x = d.houses[i] := ⟨_, rfl⟩
  have hbx : bHouse x := hxx ▸ hb.houses _ (List.getElem_mem hi2)
  have hok : xV x := by have := ((k1.1 rfl).2.2.2.2.2.1 i hi2).1; rw [<- hxx] at this; exact this
  have b5 := hbx.locks
  have b6 := hbx.works
  have b7 : (uY x.log).length <= 400 := Nat.le_trans (List.length_filter_le _ _) hok.2.1.1
  unfold lim at b5 b6
  rw [<- hxx] at e1 sr
  have no : ¬ qIB x -> ¬ qNE d := fun a y => a (by rw [hxx]; exact y.2.2.2.2.2 _ (List.getElem_mem hi2))
  simp only [wK, seval, c7, hx, e1, zh, yC]
  refine qC (o := blk (qT zHouse (.slice none 0 0) (.slice none 0 0) (.slice none 0 0)) 59) fun j4 h4 => ?_
  have one4 : (qT x va vb vc).all vone = true := by simp only [qT, List.all_cons, List.all_nil, rRs.one sr.1, rRs.one sr.2.1, rRs.one sr.2.2]; rfl
  try simp only [wK, seval, zh, yC, one4]
  obtain ⟨N, hN⟩ : ∃ N, N = (j4, blk (qT x va vb vc) 59) :: h' := ⟨_, rfl⟩
  have sN : Tk.Sub h' N := by rw [hN]; exact Sub.cons h4 (Sub.refl _)
  have gN : hget N j4 = some (blk (qT x va vb vc) 59) := by rw [hN]; exact qG _ _ _
  have p1 : hcel N j4 1 = some (.bool x.up) := qE gN rfl
  have p4 : hcel N j4 4 = some vb := qE gN rfl
  have p5 : hcel N j4 5 = some vc := qE gN rfl
  have rd4 : qV N j4 0 6 = some (qT x va vb vc) := zD gN rfl
  have sr' : sHouse N x va vb vc := sr.sub sN
  have nn := Sub.refl N
  rw [<- hN]
  obtain ⟨u, hu2⟩ : ∃ u, u = x.up := ⟨_, rfl⟩
  rw [<- hu2] at p1
  refine zC N nn ?_
  simp only [wK, seval, p1, nn]
  cases u with
  | false => simp only [wK, seval, nn]; exact k.dno (sM.trans sN) (no fun y => by have a := y.1; rw [<- hu2] at a; cases a)
  | true =>
  simp only [wK, seval, rd4, p5, sr'.2.2.len, nn]
  refine qME sr' hbx fun M2 vo s2 ro => ?_
  have s3 := sM.trans (sN.trans s2)
  simp (disch := omega) only [wK, seval, ro.len, s2, qK]
  refine qF (fun e4 => ?_) fun e4 => ?_
  ·try simp only [wK, seval, s2]
   exact k.dno s3 (no fun y => by have a := y.2.1; have b := y.2.2.1; rw [a, b] at e4; simp at e4)
  have ho : uY x.log = [] := List.eq_nil_of_length_eq_zero (by omega)
  have hw : x.works = [] := List.eq_nil_of_length_eq_zero (by omega)
  have q4 := yA s2 p4
  have sr2 : sHouse M2 x va vb vc := sr'.sub s2
  have mm := Sub.refl M2
  try simp only [wK, seval, s2]
  refine qP [5] (fun n vs h2 => ∃ q : Nat, vs = [.int .i64 q] /\ h2 = M2 /\ q <= x.locks.length /\ n = x.locks.length - q /\ ∀ y ∈ x.locks.take q, qAV y) x.locks.length rfl ⟨0, rfl, rfl, by omega, by omega, by simp⟩ ?_
  rintro n f2 h2 ⟨q, hv2, rfl, hq, rfl, hf⟩
  simp only [lm4] at hv2
  simp only [wK, seval, wr, hv2, q4, sr2.2.1.len]
  refine qF (fun c2 => ?_) fun c2 => ?_
  ·have hq2 : q < x.locks.length := by omega
   obtain ⟨b', o', cs', hx', e1', va', vb', rfl, sl⟩ := zU sr2.2.1 hq2
   have bl := hbx.lock _ (List.getElem_mem hq2)
   have b8 := bl.h
   have b9 := bl.w
   unfold lim at b8 b9
   have f1 : hcel h2 b' (o' + 1) = some va' := zK e1' 1 rfl
   have f2' : hcel h2 b' (o' + 2) = some vb' := zK e1' 2 rfl
   refine zC h2 mm ?_
   simp (disch := omega) only [wK, seval, q4, hx', f1, f2', sl.1.len, sl.2.len, mm, qK]
   refine qF (fun c9 => ?_) fun c9 => ?_
   ·try simp only [wK, seval, mm]
    exact k.dno s3 (no fun y => by have := y.2.2.2 _ (List.getElem_mem hq2); unfold qAV at this; omega)
   ·try simp (disch := omega) only [wK, seval, mm, qK]
    refine ⟨x.locks.length - (q + 1), by omega, h2, .refl _, q + 1, by simp, rfl, by omega, rfl, fun y hy => ?_⟩
    rw [yH hq2] at hy
    rcases List.mem_append.1 hy with hy | hy
    ·exact hf y hy
    ·rw [List.mem_singleton.1 hy]; unfold qAV; omega
  ·have hq2 : q = x.locks.length := by omega
   rw [hq2, List.take_length] at hf
   simp (disch := omega) only [wK, seval, qK]
   refine ⟨d.houses.length - (i + 1), by omega, h', sN.trans s2, i + 1, by simp, rfl, by omega, rfl, fun y hy => ?_⟩
   rw [yH hi2] at hy
   rcases List.mem_append.1 hy with hy | hy
   ·exact ht y hy
   ·rw [List.mem_singleton.1 hy, <- hxx]; exact ⟨hu2.symm, ho, hw, hf⟩
 ·have hi2 : i = d.houses.length := by omega
  rw [hi2, List.take_length] at ht
  try simp only [wK, seval]
  exact k.dyes sM ⟨k1.1 rfl, hr, hu.symm, hl1, hl2, ht⟩
end Go.Proofs.YtjioiemhgbkbfaaGreatDoor
end

section
attribute [local irreducible] Go.Tk.vc Go.Tk.vops Go.Tk.vdr Go.Tk.vop Go.Tk.vfl Go.Tk.HCalls
namespace Go.Proofs.YtjioiemhgbkbfaaGreatDoor
open Go Go.Tk
theorem qFT {h : H} {d : DTollWorld} {v1 v2 v3 v4 v5 v6 : Value} (gl : Gl h) (gm : MxL h) (ge : Ge h) (r : nWorld h d v1 v2 v3 v4 v5 v6) (hu : qNK d) {R : Ending -> H -> Prop} (k : R (.returned (.bool true)) h) :
  HCalls Tryz.prog 4 #[.agg (cTollWorld d v1 v2 v3 v4 v5 v6).toArray] h R := by
 refine qD lite (args := [.agg (cTollWorld d v1 v2 v3 v4 v5 v6).toArray]) Tryz.func4 ?_
 conv => arg 2; cbv
 rw [qR]
 have zg := qCI
 simp only [wK, seval, yQ]
 refine qC (o := blk (cTollWorld d v1 v2 v3 v4 v5 v6) 31) fun j1 h1 => ?_
 obtain ⟨M0, hM0⟩ : ∃ M0, M0 = (j1, blk (cTollWorld d v1 v2 v3 v4 v5 v6) 31) :: h := ⟨_, rfl⟩
 have s0 : Tk.Sub h M0 := by rw [hM0]; exact Sub.cons h1 (Sub.refl _)
 have g0 : hget M0 j1 = some (blk (cTollWorld d v1 v2 v3 v4 v5 v6) 31) := by rw [hM0]; exact qG _ _ _
 have a0 : qV M0 j1 0 10 = some (cTollWorld d v1 v2 v3 v4 v5 v6) := zD g0 rfl
 rw [<- hM0]
 simp only [wK, seval, yQ, a0]
 refine qKM (r.sub s0) ⟨by omega, by omega⟩ hu fun x hx hx2 => ?_
 simp only [wK, seval]
 refine qF (fun c => ⟨h, s0, k⟩) fun c => ?_
 have hsz : qAZ d <= 1048576 := by have := hx (by omega); omega
 have hb := zDA hsz
 try simp only [wK, seval, a0]
 refine kG (r.sub s0) hb fun M1 w1 w2 w3 w4 w5 w6 s1 W1 => ?_
 simp only [wK, seval]
 refine qGX W1 hb fun q1 k1 => ?_
 simp only [wK, seval]
 have s01 : Tk.Sub h M1 := s0.trans s1
 have a1 : qV M1 j1 0 10 = some (cTollWorld d v1 v2 v3 v4 v5 v6) := zD (s1 _ _ g0) rfl
 try simp only [wK, seval, a1]
 refine kG (r.sub s01) hb fun M2 x1 x2 x3 x4 x5 x6 s2 W2 => ?_
 simp only [wK, seval, zg]
 refine qC (o := blk (cTollWorld zTollWorld (.slice none 0 0) (.slice none 0 0) (.slice none 0 0) (.slice none 0 0) (.slice none 0 0) (.slice none 0 0)) 43) fun j5 h5 => ?_
 have one5 := qIJ W2
 obtain ⟨M3, hM3⟩ : ∃ M3, M3 = (j5, blk (cTollWorld d x1 x2 x3 x4 x5 x6) 43) :: M2 := ⟨_, rfl⟩
 have s3 : Tk.Sub M2 M3 := by rw [hM3]; exact Sub.cons h5 (Sub.refl _)
 have g5 : hget M3 j5 = some (blk (cTollWorld d x1 x2 x3 x4 x5 x6) 43) := by rw [hM3]; exact qG _ _ _
 have a5 : qV M3 j5 0 10 = some (cTollWorld d x1 x2 x3 x4 x5 x6) := zD g5 rfl
 have s03 : Tk.Sub h M3 := s01.trans (s2.trans s3)
 have a13 : qV M3 j1 0 10 = some (cTollWorld d v1 v2 v3 v4 v5 v6) := zD (s3 _ _ (s2 _ _ (s1 _ _ g0))) rfl
 simp only [wK, seval, yQ, one5, <- hM3]
 try simp only [wK, seval, a5]
 refine qHA (gl.sub s03) (gm.sub s03) (ge.sub s03) (sTollWorld.sub s3 W2) hb fun q2 k2 => ?_
 have eq : q2 = q1 := by
  cases q1 <;> cases q2 <;> simp_all
 rw [eq]
 simp only [wK, seval]
 have s33 := Sub.refl M3
 have hbeq : (q1 == q1) = true := by cases q1 <;> rfl
 simp only [wK, seval, hbeq, Bool.not_true]
 refine zC _ (Sub.refl _) ?_
 simp only [wK, seval, a5, a13, s33]
 refine kG (r.sub s03) hb fun M4 y1 y2 y3 y4 y5 y6 s4 W4 => ?_
 simp only [wK, seval, s4]
 refine qLA (sTollWorld.sub (s3.trans s4) W2) W4 hb ?_
 simp only [wK, seval, decide_true, s4, Bool.not_true]
 exact ⟨h, s03.trans s4, k⟩
end Go.Proofs.YtjioiemhgbkbfaaGreatDoor
end
