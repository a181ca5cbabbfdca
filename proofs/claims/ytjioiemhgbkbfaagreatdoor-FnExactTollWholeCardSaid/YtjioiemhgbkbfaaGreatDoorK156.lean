/- Parts of the proof. -/
import Derived.Lib.LaidTab
import Derived.ChangeArms
import Derived.Below
import Derived.Shelf.Strings.Builder1
import Derived.Shelf.LaysM
import Derived.Shelf.Strconv.Itoa3
import Derived.Shelf.LaysC
import Derived.Shelf.Strconv.AtoiAll
import Derived.Shelf.Strings.Search1
import Derived.Shelf.Strings.Split
import Derived.Test.YtjioiemhgbkbfaaGreatDoorProg
import Derived.Test.YtjioiemhgbkbfaaGreatDoorChecked
import Derived.WalkKit
import Derived.Test.YtjioiemhgbkbfaaGreatDoorK155
set_option maxHeartbeats 4000000
set_option maxRecDepth 100000
set_option linter.unusedVariables false
set_option linter.unusedSimpArgs false
set_option linter.defProp false
section
namespace Go.Tk
open Go
def qMQ (w : World) : List Nat -> H
 | [] => []
 | i :: l => match w.heap[i]? with
  | some o => (i, o) :: qMQ w l
  | none => qMQ w l
def full (w : World) : H := qMQ w (List.range w.heap.size)
theorem qVW (w : World) (i : Nat) : ∀ l : List Nat, hget (qMQ w l) i = if i ∈ l then w.heap[i]? else none := by
 intro l
 induction l with
 | nil => simp [qMQ, hget]
 | cons j l ih =>
  unfold qMQ
  cases hj : w.heap[j]? with
  | none =>
   simp only [ih, List.mem_cons]
   by_cases e : i = j
   ·subst e; simp [hj]
   ·simp [e]
  | some o =>
   simp only [zM, ih, List.mem_cons]
   by_cases e : i = j
   ·subst e; simp [hj]
   ·simp [e]
theorem qCE (w : World) (i : Nat) : hget (full w) i = w.heap[i]? := by
 unfold full
 rw [qVW]
 split
 ·rfl
 ·rename_i h
  rw [List.mem_range, Nat.not_lt] at h
  exact (Array.getElem?_eq_none h).symm
theorem sat_full (w : World) : Sat (full w) w := fun i o e => by rw [<- qCE]; exact e
theorem qJU {w : World} {a : Addr} {v : Value} (h : w.cell? a = some v) : ∃ b off c e f, a = ⟨b, off, none⟩ /\ w.heap[b]? = some (.cells c e f) /\ c.toList[off]? = some v := by
 obtain ⟨b, off, sp⟩ := a
 unfold World.cell? at h
 cases ho : w.heap[b]? with
 | none => simp [ho] at h
 | some o =>
  cases o with
  | cells c e f =>
   cases sp with
   | some y => simp [ho] at h
   | none => exact ⟨b, off, c, e, f, rfl, ho, by simpa [ho] using h⟩
  | _ => simp [ho] at h
theorem qJT {w : World} {base : Nat} {a : Addr} {n : Nat} {cs : List Value} (h : w.cells? base a n = some cs) (hn : 0 < n) : ∃ b off, a = ⟨b, off, none⟩ /\ qV (full w) b off n = some cs := by
 obtain ⟨_, hl, hc⟩ := World.cells?_some h
 have h0 := hc 0 hn
 rw [List.getElem?_eq_getElem (by omega)] at h0
 have ha : a.add 0 = a := by unfold Addr.add; rw [if_pos rfl]
 rw [ha] at h0
 obtain ⟨b, off, c, e, f, rfl, hb, _⟩ := qJU h0
 have each : ∀ i, i < n -> c.toList[off + i]? = cs[i]? := fun i hi => by
  have := hc i hi
  rw [vC] at this
  rw [<- this]
  simp only [World.cell?, hb, Option.isSome_none, Bool.false_eq_true, if_false, Array.getElem?_toList]
 have hsz : off + n <= c.size := by
  have := each (n - 1) (by omega)
  rw [List.getElem?_eq_getElem (by omega : n - 1 < cs.length)] at this
  obtain ⟨h, _⟩ := List.getElem?_eq_some_iff.1 this
  simp at h; omega
 refine ⟨b, off, rfl, ?_⟩
 unfold qV
 rw [qCE, hb]
 simp only [Option.bind_some, qGH]
 rw [if_pos hsz]
 congr 1
 apply List.ext_getElem?
 intro i
 rw [List.getElem?_take, List.getElem?_drop]
 split
 ·rename_i hi; exact each i hi
 ·rename_i hi; exact (List.getElem?_eq_none (by omega)).symm
theorem zBW {h : H} {b o n m : Nat} {x y : List Value} (h1 : qV h b o n = some x) (h2 : qV h b (o + n) m = some y) : qV h b o (n + m) = some (x ++ y) := by
 unfold qV at *
 cases e : hget h b with
 | none => rw [e] at h1; cases h1
 | some ob =>
  rw [e] at h1 h2
  simp only [Option.bind_some] at *
  cases ob with
  | cells c t f =>
   simp only [qGH] at *
   by_cases c1 : o + n <= c.size
   ·by_cases c2 : o + n + m <= c.size
    ·rw [if_pos c1] at h1
     rw [if_pos c2] at h2
     rw [if_pos (by omega)]
     simp only [Option.some.injEq] at *
     rw [<- h1, <- h2, List.take_add, List.drop_drop]
    ·rw [if_neg c2] at h2; cases h2
   ·rw [if_neg c1] at h1; cases h1
  | _ => cases h1
theorem qVT {h : H} {b o sz : Nat} : ∀ {n : Nat} {css : List (List Value)}, css.length = n -> (∀ i (hi : i < css.length), qV h b (o + i * sz) sz = some css[i]) -> 0 < n -> qV h b o (n * sz) = some css.flatten := by
 intro n
 induction n with
 | zero => intro css _ _ h; cases h
 | succ n ih =>
  intro css hl hc _
  obtain ⟨l, c, rfl⟩ : ∃ l c, css = l ++ [c] := ⟨css.dropLast, css.getLast (by intro e; subst e; cases hl), (List.dropLast_concat_getLast _).symm⟩
  rw [List.length_append, List.length_singleton] at hl
  have hlast := hc n (by rw [List.length_append, List.length_singleton]; omega)
  rw [List.getElem_append_right (by omega)] at hlast
  simp only [List.getElem_singleton] at hlast
  rw [List.flatten_append, List.flatten_singleton]
  cases n with
  | zero =>
   have : l = [] := List.length_eq_zero_iff.1 (by omega)
   subst this
   simpa using hlast
  | succ n =>
   have h1 := ih (css := l) (by omega) (fun i hi => by
    have := hc i (by rw [List.length_append]; omega)
    rwa [List.getElem_append_left hi] at this) (by omega)
   rw [Nat.succ_mul (n + 1) sz]
   exact zBW h1 hlast
section
variable {X : Type} {enc : TypeId × Value -> X} {P : Program} {w : World} {base : Nat} {sp : Nat -> Bool} {held : Bool}
theorem qIH {t e : TypeId} {fuel sz : Nat} {a : Option Addr} {len cap : Nat} {x : DataW X × List MemPlace} (ht : P.underlying t = some (.slice e)) (hc : P.cellsOf e = sz) (hsz : 0 < sz)
  (h : DataW.trod enc P w base sp held fuel t [.slice a len cap] = some x) :
  len <= maxLen /\ ∃ css : List (List Value), css.length = len /\ (∀ cs ∈ css, cs.length = sz /\ ∃ m y, DataW.trod enc P w base sp held m e cs = some y) /\
   ((a = none /\ len = 0 /\ cap = 0) ∨ len = 0 ∨ ∃ b off, a = some ⟨b, off, none⟩ /\ len <= cap /\ qV (full w) b off (len * sz) = some css.flatten) := by
 rcases DataW.trod_slice ht h with ⟨h0, _⟩ | ⟨ad, len', cap', elems, rest, n, _, h0, rfl, hb, hl, hm, hlen, hel, _, _⟩
 ·simp only [List.cons.injEq, Value.slice.injEq, and_true] at h0
  obtain ⟨rfl, rfl, rfl⟩ := h0
  exact ⟨Nat.zero_le _, [], rfl, fun _ h => absurd h List.not_mem_nil, .inl ⟨rfl, rfl, rfl⟩⟩
 ·simp only [List.cons.injEq, Value.slice.injEq, and_true] at h0
  obtain ⟨rfl, rfl, rfl⟩ := h0
  rw [hc] at hel
  have each : ∀ i : Fin len, ∃ cs, w.cells? base (ad.add (i.1 * sz)) sz = some cs /\ ∃ y, DataW.trod enc P w base sp held n e cs = some y := fun i => by
   have := hel i.1 i.2
   rw [List.getElem?_eq_getElem (by omega : i.1 < elems.length), Option.bind_eq_some_iff] at this
   obtain ⟨cs, h1, h2⟩ := this
   exact ⟨cs, h1, _, h2⟩
  let C : Fin len -> List Value := fun i => Classical.choose (each i)
  have hC : ∀ i, w.cells? base (ad.add (i.1 * sz)) sz = some (C i) /\ ∃ y, DataW.trod enc P w base sp held n e (C i) = some y := fun i => Classical.choose_spec (each i)
  refine ⟨by omega, List.ofFn C, by simp, fun cs hcs => ?_, .inr ?_⟩
  ·obtain ⟨i, rfl⟩ := List.mem_ofFn.1 hcs
   exact ⟨(World.cells?_some (hC i).1).2.1, n, (hC i).2⟩
  ·rcases Nat.eq_zero_or_pos len with rfl | hp
   ·exact .inl rfl
   right
   obtain ⟨b, off, hab, _⟩ := qJT (hC ⟨0, hp⟩).1 hsz
   have ha : ad.add (0 * sz) = ad := by unfold Addr.add; rw [if_pos (Nat.zero_mul sz)]
   rw [ha] at hab
   subst hab
   refine ⟨b, off, rfl, hl, qVT (by simp) (fun i hi => ?_) hp⟩
   rw [List.length_ofFn] at hi
   obtain ⟨b', off', hab', hr⟩ := qJT (hC ⟨i, hi⟩).1 hsz
   rw [vC, Addr.mk.injEq] at hab'
   obtain ⟨rfl, rfl, _⟩ := hab'
   rw [List.getElem_ofFn]
   exact hr
theorem qBC {α : Type} {encA : α -> List Value} {ok : α -> Prop} {t e : TypeId} {fuel sz : Nat} {a : Option Addr} {len cap : Nat} {x : DataW X × List MemPlace} (ht : P.underlying t = some (.slice e)) (hc : P.cellsOf e = sz) (hsz : 0 < sz)
  (h : DataW.trod enc P w base sp held fuel t [.slice a len cap] = some x) (dec : ∀ cs m y, cs.length = sz -> DataW.trod enc P w base sp held m e cs = some y -> ∃ b : α, cs = encA b /\ ok b) :
  ∃ l : List α, rIn (full w) encA sz (.slice a len cap) l /\ l.length <= maxLen /\ ∀ b ∈ l, ok b := by
 obtain ⟨hm, css, hlen, hall, hr⟩ := qIH ht hc hsz h
 have key : ∀ css : List (List Value), (∀ cs ∈ css, cs.length = sz /\ ∃ m y, DataW.trod enc P w base sp held m e cs = some y) -> ∃ l : List α, css = l.map encA /\ ∀ b ∈ l, ok b := by
  intro css
  induction css with
  | nil => exact fun _ => ⟨[], rfl, fun _ h => absurd h List.not_mem_nil⟩
  | cons c css ih =>
   intro hx
   obtain ⟨l, rfl, hl⟩ := ih fun cs hcs => hx cs (List.mem_cons_of_mem _ hcs)
   obtain ⟨h1, m, y, h2⟩ := hx c List.mem_cons_self
   obtain ⟨b, rfl, hb⟩ := dec c m y h1 h2
   refine ⟨b :: l, rfl, fun b' hb' => ?_⟩
   rcases List.mem_cons.1 hb' with rfl | hb'
   ·exact hb
   ·exact hl _ hb'
 obtain ⟨l, rfl, hl⟩ := key css hall
 have hll : l.length = len := by rw [<- hlen, List.length_map]
 have hfl : (fl encA l).length = l.length * sz := by
  unfold fl
  clear hr hlen hll hl
  induction l with
  | nil => simp
  | cons b l ih =>
   rw [List.map_cons, List.flatten_cons, List.length_append, ih fun cs hcs => hall cs (by rw [List.map_cons]; exact List.mem_cons_of_mem _ hcs), (hall (encA b) (by simp)).1, List.length_cons, Nat.succ_mul, Nat.add_comm]
 refine ⟨l, ?_, by omega, hl⟩
 rcases hr with ⟨rfl, rfl, rfl⟩ | rfl | ⟨b, off, rfl, hcap, qV⟩
 ·exact .inr ⟨List.length_eq_zero_iff.1 hll, _, _, rfl⟩
 ·exact .inr ⟨List.length_eq_zero_iff.1 hll, _, _, rfl⟩
 ·subst hll
  exact .inl ⟨hfl, .inr ⟨b, off, cap, rfl, hcap, qV⟩⟩
theorem zHY {t : TypeId} {fs : Array Field} {fuel : Nat} {cs : List Value} {x : DataW X × List MemPlace} (ht : P.underlying t = some (.struct fs)) (h : DataW.trod enc P w base sp held fuel t cs = some x) (i : Nat) {f : Field} (hf : fs[i]? = some f) :
  ∃ m y, DataW.trod enc P w base sp held m f.type ((cs.drop f.offset).take (P.cellsOf f.type)) = some y := by
 obtain ⟨xs, n, _, _, _, hl, ha⟩ := DataW.trod_struct ht h
 have := ha i f hf
 obtain ⟨hi, _⟩ := Array.getElem?_eq_some_iff.1 hf
 rw [List.getElem?_eq_getElem (by omega : i < xs.length)] at this
 exact ⟨n, _, this⟩
theorem qX {t ty : TypeId} {fs : Array Field} {fuel : Nat} {cs cs' : List Value} {x : DataW X × List MemPlace} (ht : P.underlying t = some (.struct fs)) (h : DataW.trod enc P w base sp held fuel t cs = some x) (i off sz : Nat)
  (hf : (fs[i]?).map (fun f => (f.type, f.offset)) = some (ty, off)) (hc : P.cellsOf ty = sz) (hcs : (cs.drop off).take sz = cs') : ∃ m y, DataW.trod enc P w base sp held m ty cs' = some y := by
 rw [Option.map_eq_some_iff] at hf
 obtain ⟨f, h1, h2⟩ := hf
 simp only [Prod.mk.injEq] at h2
 obtain ⟨rfl, rfl⟩ := h2
 subst hc hcs
 exact zHY ht h i h1
end
theorem okWide_struct {P : Program} {w : World} {r : Reach} {base : Nat} {t : TypeId} {fs : Array Field} {v : Value} (ht : P.underlying t = some (.struct fs)) (h : Value.okWide P w r base t v) : ∃ cs, v = .agg cs /\ cs.size = P.cellsOf t := by
 unfold Value.okWide at h
 rw [ht] at h
 obtain ⟨cs, h1, h2, _⟩ := h
 exact ⟨cs, h1, h2⟩
theorem qIY {P : Program} {w : World} : ∀ {l : List (String × DataW Unit)} {ps : List MemPlace}, DataW.LaidVars P w l ps -> ∀ n d, (n, d) ∈ l ->
  ∃ g t cs fuel p, P.globalNamed n = some g /\ (P.globals[g]?).map (·.type) = some t /\ w.var? P n = some cs /\ DataW.trod (fun _ => ()) P w 0 (fun _ => true) false fuel t cs.toList = some (d, p) /\ ∀ q ∈ MemPlace.row ⟨g, 0, none⟩ cs.size, q ∈ ps
 | [], _, _, _, _, hm => by cases hm
 | (n', d') :: r, ps, h, n, d, hm => by
  obtain ⟨g, t, cs, fuel, p, q, h1, h2, h3, h4, h5, rfl⟩ := h
  rcases List.mem_cons.1 hm with e | e
  ·cases e
   exact ⟨g, t, cs, fuel, p, h1, h2, h3, h4, fun q hq => List.mem_append_left _ (List.mem_append_left _ hq)⟩
  ·obtain ⟨g', t', cs', f', p', a1, a2, a3, a4, a5⟩ := qIY h5 n d e
   exact ⟨g', t', cs', f', p', a1, a2, a3, a4, fun q hq => List.mem_append_right _ (a5 q hq)⟩
theorem qCZ {P : Program} {w : World} {l : List (String × DataW Unit)} (h : laidMet P l w) {n : String} {d : DataW Unit} {g : Nat} {t : TypeId} (hm : (n, d) ∈ l) (hg : P.globalNamed n = some g) (ht : (P.globals[g]?).map (·.type) = some t) :
  ∃ cs fuel p, DataW.trod (fun _ => ()) P w 0 (fun _ => true) false fuel t cs = some (d, p) /\ (cs ≠ [] -> ∃ ty, hget (full w) g = some (blk cs ty)) := by
 obtain ⟨ps, hv, _, hf⟩ := h
 obtain ⟨g', t', cs, fuel, p, a1, a2, a3, a4, a5⟩ := qIY hv n d hm
 obtain rfl := Option.some.inj (hg.symm.trans a1)
 obtain rfl := Option.some.inj (ht.symm.trans a2)
 refine ⟨cs.toList, fuel, p, a4, fun hne => ?_⟩
 unfold World.var? at a3
 rw [hg] at a3
 simp only [Option.bind_some] at a3
 have hp : 0 < cs.size := by
  rcases Nat.eq_zero_or_pos cs.size with e | e
  ·exact absurd (by simpa using e) hne
  ·exact e
 obtain ⟨⟨c, ty, hb⟩, _⟩ := hf g 0 (a5 _ (by unfold MemPlace.row; refine List.mem_map.2 ⟨0, List.mem_range.2 hp, ?_⟩; rfl))
 rw [hb] at a3
 simp only [Option.some.injEq] at a3
 subst a3
 refine ⟨ty, ?_⟩
 rw [qCE, hb]
 rfl
theorem zHC {P : Program} {w : World} {l : List (String × DataW Unit)} (h : laidMet P l w) {n : String} {k : IntKind} {zs : List Int} {g m : Nat} {t e : TypeId} (hm : (n, Lib.tabData k zs) ∈ l) (hg : P.globalNamed n = some g) (ht : (P.globals[g]?).map (·.type) = some t)
  (hu : P.underlying t = some (.array m e)) (he : P.underlying e = some (.int k)) (hce : P.cellsOf e = 1) (hct : P.cellsOf t = m) (hz : zs ≠ []) : ∃ ty, hget (full w) g = some (blk (zs.map fun z => .int k z) ty) := by
 obtain ⟨cs, fuel, p, h1, h2⟩ := qCZ h hm hg ht
 have := Lib.cells_of_tab hu he hce hct h1
 subst this
 exact h2 (by simpa using hz)
theorem qRG {P : Program} {w : World} {l : List (String × DataW Unit)} (h : laidMet P l w) {n s : String} {d : DataW Unit} {g : Nat} {t : TypeId} {ms : Array (String × TypeId)} (hm : (n, .iface s d) ∈ l) (hg : P.globalNamed n = some g) (ht : (P.globals[g]?).map (·.type) = some t)
  (hu : P.underlying t = some (.interface ms)) : ∃ ev ty, hget (full w) g = some (blk [ev] ty) /\ (ev = .nilIface ∨ ∃ te pe, ev = .iface te pe) := by
 obtain ⟨cs, fuel, p, h1, h2⟩ := qCZ h hm hg ht
 have : ∃ te pe, cs = [.iface te pe] := by
  cases fuel with
  | zero => simp [DataW.trod] at h1
  | succ fuel =>
   match cs with
   | [] => simp [DataW.trod, hu] at h1
   | _ :: _ :: _ => simp [DataW.trod, hu] at h1
   | [c] =>
    cases c <;> simp [DataW.trod, hu] at h1
    rename_i u v
    exact ⟨u, v, rfl⟩
 obtain ⟨te, pe, rfl⟩ := this
 obtain ⟨ty, h3⟩ := h2 (by simp)
 exact ⟨_, ty, h3, .inr ⟨te, pe, rfl⟩⟩
end Go.Tk
end

section
namespace Go.Tk
open Go
theorem jK :
  (∀ (d : (Int × Int)), (eP d).length = 2) /\
  (∀ (d : (Int × Int)), (eP d)[0]? = some (.int .i64 d.1)) /\
  (∀ (d : (Int × Int)), (eP d)[1]? = some (.int .i64 d.2)) /\
  (∀ (d : (Int × Int)), ((eP d).drop 0).take 2 = eP d) /\
  (∀ (d : (Int × Int)), (eP d).take 2 = eP d) /\
  (∀ (d : (Int × Int)), (eP d).all vone = true) /\
  (∀ (d : (Int × Int)) (x : Int), qJ (eP d) 0 [.int .i64 x] = eP (x, d.2)) /\
  (∀ (d : (Int × Int)) (x : Int), qJ (eP d) 1 [.int .i64 x] = eP (d.1, x)) /\
  (∀ (d e : (Int × Int)), qJ (eP d) 0 (eP e) = eP e) :=
 ⟨fun _ => rfl, fun _ => rfl, fun _ => rfl, fun _ => rfl, fun _ => rfl, fun _ => rfl, fun _ _ => rfl, fun _ _ => rfl, fun _ _ => rfl⟩
structure DCall where
 session : Int
 number : Int
 kind : Int
 text : List UInt8
 slot : Int
 to : Int
deriving DecidableEq
def zW (d : DCall) : List Value := [.int .i64 d.session, .int .i64 d.number, .int .i64 d.kind, .string ⟨(d.text).toArray⟩, .int .i64 d.slot, .int .i64 d.to]
def zCall : DCall := ⟨0, 0, 0, [], 0, 0⟩
theorem qPP : [.int .i64 0, .int .i64 0, .int .i64 0, str [], .int .i64 0, .int .i64 0] = zW zCall := rfl
theorem zA :
  (∀ (d : DCall), (zW d).length = 6) /\
  (∀ (d : DCall), (zW d)[0]? = some (.int .i64 d.session)) /\
  (∀ (d : DCall), (zW d)[1]? = some (.int .i64 d.number)) /\
  (∀ (d : DCall), (zW d)[2]? = some (.int .i64 d.kind)) /\
  (∀ (d : DCall), (zW d)[3]? = some (.string ⟨(d.text).toArray⟩)) /\
  (∀ (d : DCall), (zW d)[4]? = some (.int .i64 d.slot)) /\
  (∀ (d : DCall), (zW d)[5]? = some (.int .i64 d.to)) /\
  (∀ (d : DCall), ((zW d).drop 0).take 6 = zW d) /\
  (∀ (d : DCall), (zW d).take 6 = zW d) /\
  (∀ (d : DCall), (zW d).all vone = true) /\
  (∀ (d : DCall) (x : Int), qJ (zW d) 0 [.int .i64 x] = zW { d with session := x }) /\
  (∀ (d : DCall) (x : Int), qJ (zW d) 1 [.int .i64 x] = zW { d with number := x }) /\
  (∀ (d : DCall) (x : Int), qJ (zW d) 2 [.int .i64 x] = zW { d with kind := x }) /\
  (∀ (d : DCall) (x : List UInt8), qJ (zW d) 3 [.string ⟨(x).toArray⟩] = zW { d with text := x }) /\
  (∀ (d : DCall) (x : Int), qJ (zW d) 4 [.int .i64 x] = zW { d with slot := x }) /\
  (∀ (d : DCall) (x : Int), qJ (zW d) 5 [.int .i64 x] = zW { d with to := x }) /\
  (∀ (d e : DCall), qJ (zW d) 0 (zW e) = zW e) :=
 ⟨fun _ => rfl, fun _ => rfl, fun _ => rfl, fun _ => rfl, fun _ => rfl, fun _ => rfl, fun _ => rfl, fun _ => rfl, fun _ => rfl, fun _ => rfl, fun _ _ => rfl, fun _ _ => rfl, fun _ _ => rfl, fun _ _ => rfl, fun _ _ => rfl, fun _ _ => rfl, fun _ _ => rfl⟩
structure DWord where
 kind : Int
 from_ : Int
 to : Int
 stamp : Int
 try_ : Int
 what : Int
 yes : Bool
 slots : List Int
 pairs : List ((Int × Int))
 code : Int
 vals : List Int
 call : DCall
deriving DecidableEq
def zL (d : DWord) (slots' pairs' vals' : Value) : List Value := [.int .i64 d.kind, .int .i64 d.from_, .int .i64 d.to, .int .i64 d.stamp, .int .i64 d.try_, .int .i64 d.what, .bool d.yes, slots', pairs', .int .i64 d.code, vals', .int .i64 d.call.session, .int .i64 d.call.number, .int .i64 d.call.kind, .string ⟨(d.call.text).toArray⟩, .int .i64 d.call.slot, .int .i64 d.call.to]
def zWord : DWord := ⟨0, 0, 0, 0, 0, 0, false, [], [], 0, [], ⟨0, 0, 0, [], 0, 0⟩⟩
theorem qHQ : [.int .i64 0, .int .i64 0, .int .i64 0, .int .i64 0, .int .i64 0, .int .i64 0, .bool false, .slice none 0 0, .slice none 0 0, .int .i64 0, .slice none 0 0, .int .i64 0, .int .i64 0, .int .i64 0, str [], .int .i64 0, .int .i64 0] = zL zWord (.slice none 0 0) (.slice none 0 0) (.slice none 0 0) := rfl
theorem zZ :
  (∀ (d : DWord) (slots' pairs' vals' : Value), (zL d slots' pairs' vals').length = 17) /\
  (∀ (d : DWord) (slots' pairs' vals' : Value), (zL d slots' pairs' vals')[0]? = some (.int .i64 d.kind)) /\
  (∀ (d : DWord) (slots' pairs' vals' : Value), (zL d slots' pairs' vals')[1]? = some (.int .i64 d.from_)) /\
  (∀ (d : DWord) (slots' pairs' vals' : Value), (zL d slots' pairs' vals')[2]? = some (.int .i64 d.to)) /\
  (∀ (d : DWord) (slots' pairs' vals' : Value), (zL d slots' pairs' vals')[3]? = some (.int .i64 d.stamp)) /\
  (∀ (d : DWord) (slots' pairs' vals' : Value), (zL d slots' pairs' vals')[4]? = some (.int .i64 d.try_)) /\
  (∀ (d : DWord) (slots' pairs' vals' : Value), (zL d slots' pairs' vals')[5]? = some (.int .i64 d.what)) /\
  (∀ (d : DWord) (slots' pairs' vals' : Value), (zL d slots' pairs' vals')[6]? = some (.bool d.yes)) /\
  (∀ (d : DWord) (slots' pairs' vals' : Value), (zL d slots' pairs' vals')[7]? = some (slots')) /\
  (∀ (d : DWord) (slots' pairs' vals' : Value), (zL d slots' pairs' vals')[8]? = some (pairs')) /\
  (∀ (d : DWord) (slots' pairs' vals' : Value), (zL d slots' pairs' vals')[9]? = some (.int .i64 d.code)) /\
  (∀ (d : DWord) (slots' pairs' vals' : Value), (zL d slots' pairs' vals')[10]? = some (vals')) /\
  (∀ (d : DWord) (slots' pairs' vals' : Value), (zL d slots' pairs' vals')[11]? = some (.int .i64 d.call.session)) /\
  (∀ (d : DWord) (slots' pairs' vals' : Value), (zL d slots' pairs' vals')[12]? = some (.int .i64 d.call.number)) /\
  (∀ (d : DWord) (slots' pairs' vals' : Value), (zL d slots' pairs' vals')[13]? = some (.int .i64 d.call.kind)) /\
  (∀ (d : DWord) (slots' pairs' vals' : Value), (zL d slots' pairs' vals')[14]? = some (.string ⟨(d.call.text).toArray⟩)) /\
  (∀ (d : DWord) (slots' pairs' vals' : Value), (zL d slots' pairs' vals')[15]? = some (.int .i64 d.call.slot)) /\
  (∀ (d : DWord) (slots' pairs' vals' : Value), (zL d slots' pairs' vals')[16]? = some (.int .i64 d.call.to)) /\
  (∀ (d : DWord) (slots' pairs' vals' : Value), ((zL d slots' pairs' vals').drop 0).take 17 = zL d slots' pairs' vals') /\
  (∀ (d : DWord) (slots' pairs' vals' : Value), (zL d slots' pairs' vals').take 17 = zL d slots' pairs' vals') /\
  (∀ (d : DWord) (slots' pairs' vals' : Value), vone slots' = true -> vone pairs' = true -> vone vals' = true -> (zL d slots' pairs' vals').all vone = true) /\
  (∀ (d : DWord) (slots' pairs' vals' : Value) (x : Int), qJ (zL d slots' pairs' vals') 0 [.int .i64 x] = zL { d with kind := x } slots' pairs' vals') /\
  (∀ (d : DWord) (slots' pairs' vals' : Value) (x : Int), qJ (zL d slots' pairs' vals') 1 [.int .i64 x] = zL { d with from_ := x } slots' pairs' vals') /\
  (∀ (d : DWord) (slots' pairs' vals' : Value) (x : Int), qJ (zL d slots' pairs' vals') 2 [.int .i64 x] = zL { d with to := x } slots' pairs' vals') /\
  (∀ (d : DWord) (slots' pairs' vals' : Value) (x : Int), qJ (zL d slots' pairs' vals') 3 [.int .i64 x] = zL { d with stamp := x } slots' pairs' vals') /\
  (∀ (d : DWord) (slots' pairs' vals' : Value) (x : Int), qJ (zL d slots' pairs' vals') 4 [.int .i64 x] = zL { d with try_ := x } slots' pairs' vals') /\
  (∀ (d : DWord) (slots' pairs' vals' : Value) (x : Int), qJ (zL d slots' pairs' vals') 5 [.int .i64 x] = zL { d with what := x } slots' pairs' vals') /\
  (∀ (d : DWord) (slots' pairs' vals' : Value) (x : Bool), qJ (zL d slots' pairs' vals') 6 [.bool x] = zL { d with yes := x } slots' pairs' vals') /\
  (∀ (d : DWord) (slots' pairs' vals' : Value) (x : Value), qJ (zL d slots' pairs' vals') 7 [x] = zL d x pairs' vals') /\
  (∀ (d : DWord) (slots' pairs' vals' : Value) (x : Value), qJ (zL d slots' pairs' vals') 8 [x] = zL d slots' x vals') /\
  (∀ (d : DWord) (slots' pairs' vals' : Value) (x : Int), qJ (zL d slots' pairs' vals') 9 [.int .i64 x] = zL { d with code := x } slots' pairs' vals') /\
  (∀ (d : DWord) (slots' pairs' vals' : Value) (x : Value), qJ (zL d slots' pairs' vals') 10 [x] = zL d slots' pairs' x) /\
  (∀ (d : DWord) (slots' pairs' vals' : Value) (x : Int), qJ (zL d slots' pairs' vals') 11 [.int .i64 x] = zL { d with call := { d.call with session := x } } slots' pairs' vals') /\
  (∀ (d : DWord) (slots' pairs' vals' : Value) (x : Int), qJ (zL d slots' pairs' vals') 12 [.int .i64 x] = zL { d with call := { d.call with number := x } } slots' pairs' vals') /\
  (∀ (d : DWord) (slots' pairs' vals' : Value) (x : Int), qJ (zL d slots' pairs' vals') 13 [.int .i64 x] = zL { d with call := { d.call with kind := x } } slots' pairs' vals') /\
  (∀ (d : DWord) (slots' pairs' vals' : Value) (x : List UInt8), qJ (zL d slots' pairs' vals') 14 [.string ⟨(x).toArray⟩] = zL { d with call := { d.call with text := x } } slots' pairs' vals') /\
  (∀ (d : DWord) (slots' pairs' vals' : Value) (x : Int), qJ (zL d slots' pairs' vals') 15 [.int .i64 x] = zL { d with call := { d.call with slot := x } } slots' pairs' vals') /\
  (∀ (d : DWord) (slots' pairs' vals' : Value) (x : Int), qJ (zL d slots' pairs' vals') 16 [.int .i64 x] = zL { d with call := { d.call with to := x } } slots' pairs' vals') /\
  (∀ (d e : DWord) (slots' pairs' vals' : Value) (slots'' pairs'' vals'' : Value), qJ (zL d slots' pairs' vals') 0 (zL e slots'' pairs'' vals'') = zL e slots'' pairs'' vals'') /\
  (∀ (d : DWord) (slots' pairs' vals' : Value), ((zL d slots' pairs' vals').drop 11).take 6 = zW d.call) /\
  (∀ (d : DWord) (slots' pairs' vals' : Value) (x : DCall), qJ (zL d slots' pairs' vals') 11 (zW x) = zL { d with call := x } slots' pairs' vals') :=
 ⟨fun _ _ _ _ => rfl, fun _ _ _ _ => rfl, fun _ _ _ _ => rfl, fun _ _ _ _ => rfl, fun _ _ _ _ => rfl, fun _ _ _ _ => rfl, fun _ _ _ _ => rfl, fun _ _ _ _ => rfl, fun _ _ _ _ => rfl, fun _ _ _ _ => rfl, fun _ _ _ _ => rfl, fun _ _ _ _ => rfl, fun _ _ _ _ => rfl, fun _ _ _ _ => rfl, fun _ _ _ _ => rfl, fun _ _ _ _ => rfl, fun _ _ _ _ => rfl, fun _ _ _ _ => rfl, fun _ _ _ _ => rfl, fun _ _ _ _ => rfl, fun _ _ _ _ h0 h1 h2 => by simp only [zL, List.all_cons, List.all_nil, h0, h1, h2]; rfl, fun _ _ _ _ _ => rfl, fun _ _ _ _ _ => rfl, fun _ _ _ _ _ => rfl, fun _ _ _ _ _ => rfl, fun _ _ _ _ _ => rfl, fun _ _ _ _ _ => rfl, fun _ _ _ _ _ => rfl, fun _ _ _ _ _ => rfl, fun _ _ _ _ _ => rfl, fun _ _ _ _ _ => rfl, fun _ _ _ _ _ => rfl, fun _ _ _ _ _ => rfl, fun _ _ _ _ _ => rfl, fun _ _ _ _ _ => rfl, fun _ _ _ _ _ => rfl, fun _ _ _ _ _ => rfl, fun _ _ _ _ _ => rfl, fun _ _ _ _ _ _ _ _ => rfl, fun _ _ _ _ => rfl, fun _ _ _ _ _ => rfl⟩
def sWord (h : H) (d : DWord) (slots' pairs' vals' : Value) : Prop := rLs h eI 1 slots' d.slots /\ rLs h eP 2 pairs' d.pairs /\ rLs h eI 1 vals' d.vals
def rWord (h : H) (cs : List Value) (d : DWord) : Prop := ∃ slots' pairs' vals', cs = zL d slots' pairs' vals' /\ sWord h d slots' pairs' vals'
theorem sWord.sub {g h : H} (s : Sub g h) {d : DWord} {slots' pairs' vals' : Value} (r : sWord g d slots' pairs' vals') : sWord h d slots' pairs' vals' := by
 obtain ⟨u0, u1, u2⟩ := r
 exact ⟨rLs.sub s u0, rLs.sub s u1, rLs.sub s u2⟩
theorem rWord.sub {g h : H} (s : Sub g h) {c : List Value} {d : DWord} (r : rWord g c d) : rWord h c d := by
 obtain ⟨slots', pairs', vals', e, r⟩ := r
 exact ⟨slots', pairs', vals', e, sWord.sub s r⟩
structure DStatement where
 do_ : Int
 key : Int
 num : Int
deriving DecidableEq
def qO (d : DStatement) : List Value := [.int .i64 d.do_, .int .i64 d.key, .int .i64 d.num]
def yT : DStatement := ⟨0, 0, 0⟩
theorem wL : [.int .i64 0, .int .i64 0, .int .i64 0] = qO yT := rfl
theorem zB :
  (∀ (d : DStatement), (qO d).length = 3) /\
  (∀ (d : DStatement), (qO d)[0]? = some (.int .i64 d.do_)) /\
  (∀ (d : DStatement), (qO d)[1]? = some (.int .i64 d.key)) /\
  (∀ (d : DStatement), (qO d)[2]? = some (.int .i64 d.num)) /\
  (∀ (d : DStatement), ((qO d).drop 0).take 3 = qO d) /\
  (∀ (d : DStatement), (qO d).take 3 = qO d) /\
  (∀ (d : DStatement), (qO d).all vone = true) /\
  (∀ (d : DStatement) (x : Int), qJ (qO d) 0 [.int .i64 x] = qO { d with do_ := x }) /\
  (∀ (d : DStatement) (x : Int), qJ (qO d) 1 [.int .i64 x] = qO { d with key := x }) /\
  (∀ (d : DStatement) (x : Int), qJ (qO d) 2 [.int .i64 x] = qO { d with num := x }) /\
  (∀ (d e : DStatement), qJ (qO d) 0 (qO e) = qO e) :=
 ⟨fun _ => rfl, fun _ => rfl, fun _ => rfl, fun _ => rfl, fun _ => rfl, fun _ => rfl, fun _ => rfl, fun _ _ => rfl, fun _ _ => rfl, fun _ _ => rfl, fun _ _ => rfl⟩
def wLen (w : DWord) : Prop := w.slots.length <= 1099511627776 /\ w.pairs.length <= 1099511627776 /\ w.vals.length <= 1099511627776
def encN (m : Nat) : List UInt8 := if m < 128 then [UInt8.ofNat m] else UInt8.ofNat (128 + m % 128) :: encN (m / 128)
termination_by m
decreasing_by omega
def Num (rest : List UInt8) (m : Nat) (r : List UInt8) : Prop := rest = encN m ++ r /\ m < 2097152
end Go.Tk
end

section
namespace Go.Tk
open Go
section
variable {α : Type}
def allP (P : α -> Prop) (l : List α) : Prop := ∀ x ∈ l, P x
theorem xF (P : α -> Prop) (l : List α) : allP P (l.take 0) := fun x h => by simp at h
theorem yJ {P : α -> Prop} {l : List α} {i : Nat} (h : i < l.length) (a : allP P (l.take i)) (p : P l[i]) : allP P (l.take (i + 1)) := by
 rw [List.take_succ_eq_append_getElem h]
 intro x hx
 rcases List.mem_append.1 hx with hx | hx
 ·exact a x hx
 ·rw [List.mem_singleton.1 hx]; exact p
theorem xM {P : α -> Prop} {l : List α} {i : Nat} (h : l.length <= i) (a : allP P (l.take i)) : allP P l := by rw [List.take_of_length_le h] at a; exact a
theorem vB {P : α -> Prop} {l : List α} {i : Nat} (h : i < l.length) (p : ¬ P l[i]) : ¬ allP P l := fun a => p (a _ (List.getElem_mem h))
def risU (k : α -> Int) (l : List α) (n : Nat) : Prop := ∀ i (h : i + 1 < l.length), i + 1 < n -> k (l[i]'(by omega)) < k l[i + 1]
def risP (k : α -> Int) (l : List α) : Prop := ∀ i (h : i + 1 < l.length), k (l[i]'(by omega)) < k l[i + 1]
theorem xD (k : α -> Int) (l : List α) : risU k l 0 := fun i h n => by omega
theorem wG {k : α -> Int} {l : List α} {i : Nat} (h : i = 0) (r : risU k l i) : risU k l (i + 1) := fun j hj n => by omega
theorem xR {k : α -> Int} {l : List α} {i : Nat} (hi : i < l.length) (h0 : 0 < i) (r : risU k l i) (x : k (l[i - 1]'(by omega)) < k l[i]) : risU k l (i + 1) := fun j hj n => by
 by_cases e : j + 1 < i
 ·exact r j hj e
 ·have : j + 1 = i := by omega
  subst this
  exact x
theorem xS {k : α -> Int} {l : List α} {i : Nat} (h : l.length <= i) (r : risU k l i) : risP k l := fun j hj => r j hj (by omega)
theorem vM {k : α -> Int} {l : List α} {i : Nat} (hi : i < l.length) (h0 : 0 < i) (x : ¬ k (l[i - 1]'(by omega)) < k l[i]) : ¬ risP k l := fun r => by
 obtain ⟨i, rfl⟩ : ∃ j, i = j + 1 := ⟨i - 1, by omega⟩
 exact x (r i hi)
end
def inP (a b n : Int) : Prop := a <= n /\ n <= b
def keyP (n : Int) : Prop := inP 0 31 n
def valP (n : Int) : Prop := inP (-9999) 9999 n
def qIG (n : Int) : Prop := inP 0 7 n
def xH (n : Int) : Prop := inP 0 2 n
def qCX (n : Int) : Prop := xH n ∨ n = 9 ∨ inP 100 102 n
def qQR (p : Int × Int) : Prop := keyP p.1 /\ valP p.2
def qIF (l : List Int) : Prop := allP qIG l /\ risP id l
def xI (l : List (Int × Int)) : Prop := l.length <= 32 /\ allP qQR l /\ risP (·.1) l
def qHW (l : List Int) : Prop := l.length <= 6 /\ allP valP l
def wU (n : Int) : Prop := inP 0 9999 n
def zJB (c : DCall) : Prop := wU c.session /\ wU c.number /\ wU c.kind /\ wU c.slot /\ wU c.to /\ c.text.length <= 80
def qLI (w : DWord) : Prop := inP 1 9 w.kind /\ qCX w.from_ /\ qCX w.to /\ wU w.stamp /\ wU w.try_ /\ inP 0 3 w.what /\ qIF w.slots /\ xI w.pairs /\ inP 0 9 w.code /\ qHW w.vals /\ zJB w.call
theorem wR {b : Bool} {X Y : Prop} (x : b = true -> X) (y : b = false -> Y) : if b = true then X else Y := by
 cases b
 ·exact y rfl
 ·exact x rfl
theorem wJ {b : Bool} {X Y : Prop} (x : b = false -> X) (y : b = true -> Y) : if b = false then X else Y := by
 cases b
 ·exact x rfl
 ·exact y rfl
def Asks (R : Ending -> H -> Prop) (p : Prop) (h : H) : Prop := ∀ b : Bool, (b = true ↔ p) -> R (.returned (.bool b)) h
theorem Asks.yes {R : Ending -> H -> Prop} {p : Prop} {h : H} (k : Asks R p h) (x : p) : R (.returned (.bool true)) h := k true (by simp [x])
theorem Asks.no {R : Ending -> H -> Prop} {p : Prop} {h : H} (k : Asks R p h) (x : ¬ p) : R (.returned (.bool false)) h := k false (by simp [x])
theorem Asks.dyes {R : Ending -> H -> Prop} {p : Prop} {h g : H} (k : Asks R p g) (s : Sub g h) (x : p) : dP R (.returned (.bool true)) h := ⟨g, s, k.yes x⟩
theorem Asks.dno {R : Ending -> H -> Prop} {p : Prop} {h g : H} (k : Asks R p g) (s : Sub g h) (x : ¬ p) : dP R (.returned (.bool false)) h := ⟨g, s, k.no x⟩
theorem qW {b : Bool} {p : Prop} (hb : b = true ↔ p) (h : b = false) : ¬ p := fun x => by rw [hb.2 x] at h; cases h
end Go.Tk
end

section
namespace Go.Tk
open Go
theorem qNP {α : Type} {l : List α} {i : Nat} (h : i < l.length) : l.take (i + 1) = l.take i ++ [l[i]] := List.take_succ_eq_append_getElem h
def decN (n : Nat) : List UInt8 := if h : n < 10 then [UInt8.ofNat (48 + n)] else decN (n / 10) ++ [UInt8.ofNat (48 + n % 10)]
termination_by n
decreasing_by omega
theorem vA {n : Nat} (h : n < 10) : decN n = [UInt8.ofNat (48 + n)] := by rw [decN, dif_pos h]
theorem jU {n : Nat} (h : ¬ n < 10) : decN n = decN (n / 10) ++ [UInt8.ofNat (48 + n % 10)] := by rw [decN, dif_neg h]
theorem qSK : ∀ (k n : Nat), n < 10 ^ (k + 1) -> (decN n).length <= k + 1 := by
 intro k
 induction k with
 | zero => intro n h; rw [vA (by simpa using h)]; simp
 | succ k ih =>
  intro n h
  by_cases c : n < 10
  ·rw [vA c]; simp
  ·rw [jU c, List.length_append, List.length_singleton]
   have := ih (n / 10) (by rw [Nat.pow_succ] at h; omega)
   omega
theorem qAR {n : Nat} (h : n <= 9223372036854775807) : (decN n).length <= 20 := qSK 19 n (by
 have : (10 : Nat) ^ (19 + 1) = 100000000000000000000 := by decide
 omega)
def decI (i : Int) : List UInt8 := if i < 0 then 45 :: decN (-i).toNat else decN i.toNat
theorem kU {i : Int} (h : -9223372036854775807 <= i /\ i <= 9223372036854775807) : (decI i).length <= 21 := by
 unfold decI
 split
 ·rw [List.length_cons]; have := qAR (n := (-i).toNat) (by omega); omega
 ·have := qAR (n := i.toNat) (by omega); omega
def stP (s : DStatement) : Prop := inP 1 4 s.do_ /\ inP 0 31 s.key /\ valP s.num /\ (s.do_ = 1 -> s.num = 0)
def uS (l : List DStatement) : Prop := 1 <= l.length /\ l.length <= 6 /\ allP stP l
def qAI (n : Int) : List UInt8 := if n = 1 then [103, 101, 116, 32] else if n = 2 then [112, 117, 116, 32] else if n = 3 then [97, 100, 100, 32] else [110, 101, 101, 100, 32]
def uX (s : DStatement) : List UInt8 := qAI s.do_ ++ decI s.key ++ (if s.do_ = 1 then [] else 32 :: decI s.num) ++ [59]
def zR (l : List DStatement) : List UInt8 := (l.map uX).flatten
theorem qFA (l m : List DStatement) : zR (l ++ m) = zR l ++ zR m := by simp [zR]
theorem qEY (s : DStatement) : zR [s] = uX s := by simp [zR]
theorem qIQ (n : Int) : (qAI n).length <= 5 := by
 unfold qAI
 repeat' split
 all_goals simp
theorem qIE {s : DStatement} (h : stP s) : (uX s).length <= 60 := by
 have h1 := qIQ s.do_
 have h2 := kU (i := s.key) (by have := h.2.1; simp only [inP] at this; omega)
 have h3 := kU (i := s.num) (by have := h.2.2.1; simp only [valP, inP] at this; omega)
 unfold uX
 split <;> simp only [List.length_append, List.length_cons, List.length_nil] <;> omega
theorem qEZ {l : List DStatement} (h : allP stP l) : (zR l).length <= 60 * l.length := by
 induction l with
 | nil => simp [zR]
 | cons s l ih =>
  have h1 := ih fun x hx => h x (List.mem_cons_of_mem _ hx)
  have h2 := qIE (h s List.mem_cons_self)
  have : zR (s :: l) = uX s ++ zR l := by simp [zR]
  rw [this, List.length_append, List.length_cons]
  omega
end Go.Tk
end

section
namespace Go.Tk
open Go
end Go.Tk
end

section
namespace Go.Tk
open Go
def digP (b : UInt8) : Prop := 48 <= b.toNat /\ b.toNat <= 57
theorem qYL {n : Nat} (h : n < 10) : digP (UInt8.ofNat (48 + n)) := by
 unfold digP
 rw [UInt8.toNat_ofNat']
 omega
theorem qYK {n : Nat} (h : n < 10) : (UInt8.ofNat (48 + n)).toNat = 48 + n := by
 rw [UInt8.toNat_ofNat']
 omega
theorem uR (n : Nat) : ∀ b ∈ decN n, digP b := by
 induction n using Nat.strongRecOn with
 | _ n ih =>
  intro b hb
  by_cases c : n < 10
  ·rw [vA c, List.mem_singleton] at hb
   subst hb
   exact qYL c
  ·rw [jU c] at hb
   rcases List.mem_append.1 hb with h | h
   ·exact ih (n / 10) (by omega) b h
   ·rw [List.mem_singleton] at h
    subst h
    exact qYL (Nat.mod_lt _ (by decide))
theorem qBQ (n : Nat) : 1 <= (decN n).length := by
 by_cases c : n < 10
 ·rw [vA c]; simp
 ·rw [jU c]; simp
def valN (l : List UInt8) : Nat := l.foldl (fun a b => a * 10 + (b.toNat - 48)) 0
theorem qDM (l : List UInt8) (b : UInt8) : valN (l ++ [b]) = valN l * 10 + (b.toNat - 48) := by simp [valN]
theorem kN (n : Nat) : valN (decN n) = n := by
 induction n using Nat.strongRecOn with
 | _ n ih =>
  by_cases c : n < 10
  ·rw [vA c]
   show 0 * 10 + ((UInt8.ofNat (48 + n)).toNat - 48) = n
   rw [qYK c]; omega
  ·rw [jU c, qDM, ih (n / 10) (by omega), qYK (Nat.mod_lt _ (by decide))]
   omega
theorem qDL : ∀ (k : Nat) (l : List UInt8), l.length <= k -> (∀ b ∈ l, digP b) -> valN l < 10 ^ k := by
 intro k
 induction k with
 | zero => intro l h _; have : l = [] := List.length_eq_zero_iff.1 (by omega); subst this; decide
 | succ k ih =>
  intro l h hd
  by_cases e : l = []
  ·subst e; exact Nat.pos_of_ne_zero (by simp [valN])
  ·have hl := List.dropLast_concat_getLast e
   have h1 := ih l.dropLast (by rw [List.length_dropLast]; omega) fun b hb => hd b (List.dropLast_subset l hb)
   have h2 := hd (l.getLast e) (List.getLast_mem e)
   rw [<- hl, qDM, Nat.pow_succ]
   unfold digP at h2
   omega
theorem jI (n : Nat) : (decN n).length <= 5 ↔ n <= 99999 := by
 constructor
 ·intro h
  have := qDL 5 _ h (uR n)
  rw [kN] at this
  have e : (10 : Nat) ^ 5 = 100000 := by decide
  omega
 ·intro h
  exact qSK 4 n (by have e : (10 : Nat) ^ (4 + 1) = 100000 := by decide
                    omega)
def numS (l : List UInt8) : Option Nat := if l = decN (valN l) /\ l.length <= 5 then some (valN l) else none
theorem zGM {n : Nat} (h : n <= 99999) : numS (decN n) = some n := by
 unfold numS
 rw [kN, if_pos ⟨rfl, (jI n).2 h⟩]
theorem qLZ {l : List UInt8} {n : Nat} (h : numS l = some n) : l = decN n /\ n <= 99999 := by
 unfold numS at h
 split at h
 ·rename_i c
  have e := Option.some.inj h
  rw [e] at c
  refine ⟨c.1, (jI n).1 ?_⟩
  rw [<- c.1]; exact c.2
 ·cases h
theorem zGL {l : List UInt8} {n : Nat} (h : numS l = some n) : ∀ b ∈ l, digP b := by
 rw [(qLZ h).1]; exact uR n
def CutO (c : UInt8) (s a b : List UInt8) (f : Bool) : Prop := c ∉ a /\ ((f = true /\ s = a ++ c :: b) ∨ (f = false /\ s = a /\ b = []))
theorem cut_un {c : UInt8} : ∀ {a b x y : List UInt8}, c ∉ a -> c ∉ b -> a ++ c :: x = b ++ c :: y -> a = b /\ x = y := by
 intro a
 induction a with
 | nil =>
  intro b x y _ hb h
  cases b with
  | nil => exact ⟨rfl, (List.cons.inj h).2⟩
  | cons d b => exact absurd (by rw [(List.cons.inj h).1]; exact List.mem_cons_self) hb
 | cons e a ih =>
  intro b x y ha hb h
  cases b with
  | nil => exact absurd (by rw [<- (List.cons.inj h).1]; exact List.mem_cons_self) ha
  | cons d b =>
   obtain ⟨h1, h2⟩ := List.cons.inj h
   obtain ⟨h3, h4⟩ := ih (fun m => ha (List.mem_cons_of_mem _ m)) (fun m => hb (List.mem_cons_of_mem _ m)) h2
   exact ⟨by rw [h1, h3], h4⟩
theorem CutO.at {c : UInt8} {s a b a' b' : List UInt8} {f : Bool} (h : CutO c s a b f) (hs : s = a' ++ c :: b') (ha : c ∉ a') : a = a' /\ b = b' /\ f = true := by
 obtain ⟨h1, ⟨rfl, h2⟩ | ⟨rfl, h2, rfl⟩⟩ := h
 ·obtain ⟨e1, e2⟩ := cut_un h1 ha (h2.symm.trans hs)
  exact ⟨e1, e2, rfl⟩
 ·exact absurd (by rw [<- h2, hs]; simp) h1
def splitB (c : UInt8) : List UInt8 -> List (List UInt8)
 | [] => [[]]
 | b :: l => if b = c then [] :: splitB c l else match splitB c l with
  | [] => [[b]]
  | w :: r => (b :: w) :: r
theorem qFI (c : UInt8) (l : List UInt8) : splitB c l ≠ [] := by
 cases l with
 | nil => simp [splitB]
 | cons b l =>
  unfold splitB
  split
  ·simp
  ·split <;> simp
theorem jN {c : UInt8} : ∀ {a : List UInt8} (l : List UInt8), c ∉ a -> splitB c (a ++ c :: l) = a :: splitB c l := by
 intro a
 induction a with
 | nil => intro l _; simp [splitB]
 | cons b a ih =>
  intro l h
  rw [List.cons_append, splitB, if_neg (fun e => h (by rw [e]; exact List.mem_cons_self)), ih l fun m => h (List.mem_cons_of_mem _ m)]
theorem jY {c : UInt8} : ∀ {a : List UInt8}, c ∉ a -> splitB c a = [a] := by
 intro a
 induction a with
 | nil => intro _; rfl
 | cons b a ih =>
  intro h
  rw [splitB, if_neg (fun e => h (by rw [e]; exact List.mem_cons_self)), ih fun m => h (List.mem_cons_of_mem _ m)]
structure Form where
 name : List UInt8
 kind : Int
 keep : Int
 offs : List Nat
def forms : List Form := [⟨[98, 101, 103, 105, 110, 115], 1, 0, [2]⟩, ⟨[115, 101, 110, 100, 115], 2, 0, [2]⟩, ⟨[103, 105, 118, 101, 115], 3, 0, [2]⟩, ⟨[98, 114, 105, 110, 103, 115], 4, 0, [3]⟩, ⟨[100, 111, 117, 98, 108, 101, 115], 4, 1, [3]⟩,
 ⟨[108, 111, 115, 101, 115], 5, 0, [3]⟩, ⟨[102, 97, 108, 108, 115], 6, 0, [1, 4]⟩, ⟨[114, 105, 115, 101, 115], 7, 0, [1]⟩, ⟨[116, 101, 110, 100, 115], 8, 0, [1]⟩, ⟨[102, 111, 114, 99, 101, 115], 9, 0, [1]⟩]
end Go.Tk
end

section
namespace Go.Proofs
open Go.Shelf
def Tryz.lays169_ren : Go.Shelf.Ren := ⟨fun | 169 => 205 | n => n, fun | 70 => 306 | 9 => 9 | 0 => 0 | 72 => 308 | 37 => 298 | 127 => 317 | 3 => 3 | 5 => 5 | n => n, fun | n => n⟩
theorem Tryz.lays169 : Go.Proofs.Lays.n169 Tryz.prog Tryz.lays169_ren := {
 mixed := by kernel_rfl
 f169 := Tryz.func205.trans (congrArg some (by kernel_rfl))
 t0 := Tryz.underlying0
 a0 := Tryz.isAgg0
 z0 := Tryz.sizeOf0
 v0 := Tryz.zeroValue0
 t3 := Tryz.underlying3
 a3 := Tryz.isAgg3
 z3 := Tryz.sizeOf3
 v3 := Tryz.zeroValue3
 t9 := Tryz.underlying9
 a9 := Tryz.isAgg9
 z9 := Tryz.sizeOf9
 v9 := Tryz.zeroValue9
 t37 := Tryz.underlying298
 a37 := Tryz.isAgg298
 z37 := Tryz.sizeOf298
 v37 := Tryz.zeroValue298
 t70 := Tryz.underlying306
 a70 := Tryz.isAgg306
 z70 := Tryz.sizeOf306
 v70 := Tryz.zeroValue306
 t72 := Tryz.underlying308
 a72 := Tryz.isAgg308
 z72 := Tryz.sizeOf308
 v72 := Tryz.zeroValue308
 t127 := Tryz.underlying317
 a127 := Tryz.isAgg317
 z127 := Tryz.sizeOf317
 v127 := Tryz.zeroValue317 }
theorem Tryz.Builder_Extra_169 : Builder.Extra Tryz.prog Tryz.lays169_ren := {
 sizeBuilder := by kernel_rfl
 liesBuilder := by kernel_rfl
 t5 := Tryz.underlying5
 a5 := Tryz.isAgg5
 z5 := Tryz.sizeOf5
 v5 := Tryz.zeroValue5
 infoByte := by kernel_rfl
 cellsByte := by kernel_rfl
 sizeByte := by kernel_rfl
 neB5 := by decide }
def Tryz.laysM171_ren : Go.Shelf.Ren := ⟨fun | 171 => 233 | 243 => 237 | 246 => 238 | 283 => 239 | 284 => 240 | 285 => 241 | 286 => 242 | 129 => 244 | 317 => 243 | 318 => 245 | 319 => 246 | 320 => 247 | 337 => 248 | 338 => 249 | n => n, fun | 3 => 3 | 9 => 9 | 2 => 2 | 4 => 4 | 171 => 357 | 0 => 0 | 53 => 340 | 37 => 298 | 5 => 5 | 173 => 360 | 212 => 363 | 51 => 334 | 20 => 20 | 213 => 364 | 46 => 295 | 232 => 367 | 233 => 368 | n => n, fun | 17 => 10 | 18 => 11 | 19 => 12 | n => n⟩
theorem Tryz.laysM171 : Go.Proofs.LaysM.n171 Tryz.prog Tryz.laysM171_ren := {
 mixed := by kernel_rfl
 f129 := Tryz.func244.trans (congrArg some (by kernel_rfl))
 f171 := Tryz.func233.trans (congrArg some (by kernel_rfl))
 f243 := Tryz.func237.trans (congrArg some (by kernel_rfl))
 f246 := Tryz.func238.trans (congrArg some (by kernel_rfl))
 f283 := Tryz.func239.trans (congrArg some (by kernel_rfl))
 f284 := Tryz.func240.trans (congrArg some (by kernel_rfl))
 f285 := Tryz.func241.trans (congrArg some (by kernel_rfl))
 f286 := Tryz.func242.trans (congrArg some (by kernel_rfl))
 f317 := Tryz.func243.trans (congrArg some (by kernel_rfl))
 f318 := Tryz.func245.trans (congrArg some (by kernel_rfl))
 f319 := Tryz.func246.trans (congrArg some (by kernel_rfl))
 f320 := Tryz.func247.trans (congrArg some (by kernel_rfl))
 f337 := Tryz.func248.trans (congrArg some (by kernel_rfl))
 f338 := Tryz.func249.trans (congrArg some (by kernel_rfl))
 t0 := Tryz.underlying0
 a0 := Tryz.isAgg0
 z0 := Tryz.sizeOf0
 v0 := Tryz.zeroValue0
 t2 := Tryz.underlying2
 a2 := Tryz.isAgg2
 z2 := Tryz.sizeOf2
 v2 := Tryz.zeroValue2
 t3 := Tryz.underlying3
 a3 := Tryz.isAgg3
 z3 := Tryz.sizeOf3
 v3 := Tryz.zeroValue3
 t4 := Tryz.underlying4
 a4 := Tryz.isAgg4
 z4 := Tryz.sizeOf4
 v4 := Tryz.zeroValue4
 t5 := Tryz.underlying5
 a5 := Tryz.isAgg5
 z5 := Tryz.sizeOf5
 v5 := Tryz.zeroValue5
 t9 := Tryz.underlying9
 a9 := Tryz.isAgg9
 z9 := Tryz.sizeOf9
 v9 := Tryz.zeroValue9
 t20 := Tryz.underlying20
 a20 := Tryz.isAgg20
 z20 := Tryz.sizeOf20
 v20 := Tryz.zeroValue20
 t37 := Tryz.underlying298
 a37 := Tryz.isAgg298
 z37 := Tryz.sizeOf298
 v37 := Tryz.zeroValue298
 t46 := Tryz.underlying295
 a46 := Tryz.isAgg295
 z46 := Tryz.sizeOf295
 v46 := Tryz.zeroValue295
 t51 := Tryz.underlying334
 a51 := Tryz.isAgg334
 z51 := Tryz.sizeOf334
 v51 := Tryz.zeroValue334
 t53 := Tryz.underlying340
 a53 := Tryz.isAgg340
 z53 := Tryz.sizeOf340
 v53 := Tryz.zeroValue340
 t171 := Tryz.underlying357
 a171 := Tryz.isAgg357
 z171 := Tryz.sizeOf357
 v171 := Tryz.zeroValue357
 t173 := Tryz.underlying360
 a173 := Tryz.isAgg360
 z173 := Tryz.sizeOf360
 v173 := Tryz.zeroValue360
 t212 := Tryz.underlying363
 a212 := Tryz.isAgg363
 z212 := Tryz.sizeOf363
 v212 := Tryz.zeroValue363
 t213 := Tryz.underlying364
 a213 := Tryz.isAgg364
 z213 := Tryz.sizeOf364
 t232 := Tryz.underlying367
 a232 := Tryz.isAgg367
 z232 := Tryz.sizeOf367
 v232 := Tryz.zeroValue367
 t233 := Tryz.underlying368
 a233 := Tryz.isAgg368
 z233 := Tryz.sizeOf368
 v233 := Tryz.zeroValue368
 g17 := by kernel_rfl
 g18 := by kernel_rfl
 g19 := by kernel_rfl
 i0 := by kernel_rfl
 i2 := by kernel_rfl
 i3 := by kernel_rfl
 i4 := by kernel_rfl
 i5 := by kernel_rfl
 i9 := by kernel_rfl
 i20 := by kernel_rfl
 i37 := by kernel_rfl
 i46 := by kernel_rfl
 i51 := by kernel_rfl
 i53 := by kernel_rfl
 i171 := by kernel_rfl
 i173 := by kernel_rfl
 i212 := by kernel_rfl
 i232 := by kernel_rfl
 i233 := by kernel_rfl
 m17 := by kernel_rfl
 m18 := by kernel_rfl
 m19 := by kernel_rfl }
open Go.RowKit Go.Sort Go.Lib in
theorem Tryz.strconv_Itoa (n : Int) (h0 : -9223372036854775808 <= n) (h1 : n <= 9223372036854775807) (w : World) (htab : Lib.TabIs Tryz.prog w "internal/strconv.uint64pow10" .u64 Lib.pow10Tab) :
  Calls Tryz.prog 233 #[.int .i64 n] w fun e w' => e = .returned (.string ⟨(Lib.itoa n).toArray⟩) /\ ∃ k os, w' = grow (w.drewN k) os := Any.strconv_Itoa Tryz.laysM171 n h0 h1 w htab
def Tryz.laysC172_ren : Go.Shelf.Ren := ⟨fun | 172 => 202 | 244 => 208 | 245 => 209 | 247 => 219 | 279 => 220 | 280 => 221 | 281 => 222 | 282 => 223 | 287 => 230 | 316 => 231 | 171 => 233 | 205 => 232 | 321 => 235 | 322 => 236 | 243 => 237 | 246 => 238 | 283 => 239 | 284 => 240 | 285 => 241 | 286 => 242 | 129 => 244 | 317 => 243 | 318 => 245 | 319 => 246 | 320 => 247 | 337 => 248 | 338 => 249 | n => n, fun | 9 => 9 | 3 => 3 | 75 => 72 | 76 => 301 | 4 => 4 | 5 => 5 | 167 => 320 | 37 => 298 | 0 => 0 | 85 => 321 | 2 => 2 | 168 => 323 | 53 => 340 | 175 => 341 | 46 => 295 | 210 => 345 | 127 => 317 | 145 => 351 | 143 => 349 | 21 => 21 | 171 => 357 | 173 => 360 | 212 => 363 | 51 => 334 | 20 => 20 | 213 => 364 | 232 => 367 | 233 => 368 | 80 => 311 | n => n, fun | 15 => 6 | 16 => 7 | 17 => 10 | 18 => 11 | 19 => 12 | n => n⟩
theorem Tryz.laysC172 : Go.Proofs.LaysC.n172 Tryz.prog Tryz.laysC172_ren := {
 mixed := by kernel_rfl
 f129 := Tryz.func244.trans (congrArg some (by kernel_rfl))
 f171 := Tryz.func233.trans (congrArg some (by kernel_rfl))
 f172 := Tryz.func202.trans (congrArg some (by kernel_rfl))
 f205 := Tryz.func232.trans (congrArg some (by kernel_rfl))
 f243 := Tryz.func237.trans (congrArg some (by kernel_rfl))
 f244 := Tryz.func208.trans (congrArg some (by kernel_rfl))
 f245 := Tryz.func209.trans (congrArg some (by kernel_rfl))
 f246 := Tryz.func238.trans (congrArg some (by kernel_rfl))
 f247 := Tryz.func219.trans (congrArg some (by kernel_rfl))
 f279 := Tryz.func220.trans (congrArg some (by kernel_rfl))
 f280 := Tryz.func221.trans (congrArg some (by kernel_rfl))
 f281 := Tryz.func222.trans (congrArg some (by kernel_rfl))
 f282 := Tryz.func223.trans (congrArg some (by kernel_rfl))
 f283 := Tryz.func239.trans (congrArg some (by kernel_rfl))
 f284 := Tryz.func240.trans (congrArg some (by kernel_rfl))
 f285 := Tryz.func241.trans (congrArg some (by kernel_rfl))
 f286 := Tryz.func242.trans (congrArg some (by kernel_rfl))
 f287 := Tryz.func230.trans (congrArg some (by kernel_rfl))
 f316 := Tryz.func231.trans (congrArg some (by kernel_rfl))
 f317 := Tryz.func243.trans (congrArg some (by kernel_rfl))
 f318 := Tryz.func245.trans (congrArg some (by kernel_rfl))
 f319 := Tryz.func246.trans (congrArg some (by kernel_rfl))
 f320 := Tryz.func247.trans (congrArg some (by kernel_rfl))
 f321 := Tryz.func235.trans (congrArg some (by kernel_rfl))
 f322 := Tryz.func236.trans (congrArg some (by kernel_rfl))
 f337 := Tryz.func248.trans (congrArg some (by kernel_rfl))
 f338 := Tryz.func249.trans (congrArg some (by kernel_rfl))
 t0 := Tryz.underlying0
 a0 := Tryz.isAgg0
 z0 := Tryz.sizeOf0
 v0 := Tryz.zeroValue0
 t2 := Tryz.underlying2
 a2 := Tryz.isAgg2
 z2 := Tryz.sizeOf2
 v2 := Tryz.zeroValue2
 t3 := Tryz.underlying3
 a3 := Tryz.isAgg3
 z3 := Tryz.sizeOf3
 v3 := Tryz.zeroValue3
 t4 := Tryz.underlying4
 a4 := Tryz.isAgg4
 z4 := Tryz.sizeOf4
 v4 := Tryz.zeroValue4
 t5 := Tryz.underlying5
 a5 := Tryz.isAgg5
 z5 := Tryz.sizeOf5
 v5 := Tryz.zeroValue5
 t9 := Tryz.underlying9
 a9 := Tryz.isAgg9
 z9 := Tryz.sizeOf9
 v9 := Tryz.zeroValue9
 t20 := Tryz.underlying20
 a20 := Tryz.isAgg20
 z20 := Tryz.sizeOf20
 v20 := Tryz.zeroValue20
 t21 := Tryz.underlying21
 a21 := Tryz.isAgg21
 z21 := Tryz.sizeOf21
 v21 := Tryz.zeroValue21
 t37 := Tryz.underlying298
 a37 := Tryz.isAgg298
 z37 := Tryz.sizeOf298
 v37 := Tryz.zeroValue298
 t46 := Tryz.underlying295
 a46 := Tryz.isAgg295
 z46 := Tryz.sizeOf295
 v46 := Tryz.zeroValue295
 t51 := Tryz.underlying334
 a51 := Tryz.isAgg334
 z51 := Tryz.sizeOf334
 v51 := Tryz.zeroValue334
 t53 := Tryz.underlying340
 a53 := Tryz.isAgg340
 z53 := Tryz.sizeOf340
 v53 := Tryz.zeroValue340
 t75 := Tryz.underlying72
 a75 := Tryz.isAgg72
 z75 := Tryz.sizeOf72
 v75 := Tryz.zeroValue72
 t76 := Tryz.underlying301
 a76 := Tryz.isAgg301
 z76 := Tryz.sizeOf301
 v76 := Tryz.zeroValue301
 t85 := Tryz.underlying321
 a85 := Tryz.isAgg321
 z85 := Tryz.sizeOf321
 v85 := Tryz.zeroValue321
 t127 := Tryz.underlying317
 a127 := Tryz.isAgg317
 z127 := Tryz.sizeOf317
 v127 := Tryz.zeroValue317
 t143 := Tryz.underlying349
 a143 := Tryz.isAgg349
 z143 := Tryz.sizeOf349
 v143 := Tryz.zeroValue349
 t145 := Tryz.underlying351
 a145 := Tryz.isAgg351
 z145 := Tryz.sizeOf351
 v145 := Tryz.zeroValue351
 t167 := Tryz.underlying320
 a167 := Tryz.isAgg320
 z167 := Tryz.sizeOf320
 v167 := Tryz.zeroValue320
 t168 := Tryz.underlying323
 a168 := Tryz.isAgg323
 z168 := Tryz.sizeOf323
 v168 := Tryz.zeroValue323
 t171 := Tryz.underlying357
 a171 := Tryz.isAgg357
 z171 := Tryz.sizeOf357
 v171 := Tryz.zeroValue357
 t173 := Tryz.underlying360
 a173 := Tryz.isAgg360
 z173 := Tryz.sizeOf360
 v173 := Tryz.zeroValue360
 t175 := Tryz.underlying341
 a175 := Tryz.isAgg341
 z175 := Tryz.sizeOf341
 v175 := Tryz.zeroValue341
 t210 := Tryz.underlying345
 a210 := Tryz.isAgg345
 z210 := Tryz.sizeOf345
 v210 := Tryz.zeroValue345
 t212 := Tryz.underlying363
 a212 := Tryz.isAgg363
 z212 := Tryz.sizeOf363
 v212 := Tryz.zeroValue363
 t213 := Tryz.underlying364
 a213 := Tryz.isAgg364
 z213 := Tryz.sizeOf364
 t232 := Tryz.underlying367
 a232 := Tryz.isAgg367
 z232 := Tryz.sizeOf367
 v232 := Tryz.zeroValue367
 t233 := Tryz.underlying368
 a233 := Tryz.isAgg368
 z233 := Tryz.sizeOf368
 v233 := Tryz.zeroValue368
 g15 := by kernel_rfl
 g16 := by kernel_rfl
 g17 := by kernel_rfl
 g18 := by kernel_rfl
 g19 := by kernel_rfl
 t80 := Tryz.underlying311
 a80 := Tryz.isAgg311
 z80 := Tryz.sizeOf311
 v80 := Tryz.zeroValue311
 i0 := by kernel_rfl
 i2 := by kernel_rfl
 i3 := by kernel_rfl
 i4 := by kernel_rfl
 i5 := by kernel_rfl
 i9 := by kernel_rfl
 i20 := by kernel_rfl
 i21 := by kernel_rfl
 i37 := by kernel_rfl
 i46 := by kernel_rfl
 i51 := by kernel_rfl
 i53 := by kernel_rfl
 i75 := by kernel_rfl
 i76 := by kernel_rfl
 i80 := by kernel_rfl
 i85 := by kernel_rfl
 i127 := by kernel_rfl
 i143 := by kernel_rfl
 i145 := by kernel_rfl
 i167 := by kernel_rfl
 i168 := by kernel_rfl
 i171 := by kernel_rfl
 i173 := by kernel_rfl
 i175 := by kernel_rfl
 i210 := by kernel_rfl
 i212 := by kernel_rfl
 i232 := by kernel_rfl
 i233 := by kernel_rfl
 m15 := by kernel_rfl
 m16 := by kernel_rfl
 m17 := by kernel_rfl
 m18 := by kernel_rfl
 m19 := by kernel_rfl
 c0 := by kernel_rfl
 c2 := by kernel_rfl
 c3 := by kernel_rfl
 c4 := by kernel_rfl
 c5 := by kernel_rfl
 c9 := by kernel_rfl
 c20 := by kernel_rfl
 c21 := by kernel_rfl
 c37 := by kernel_rfl
 c46 := by kernel_rfl
 c51 := by kernel_rfl
 c53 := by kernel_rfl
 c75 := by kernel_rfl
 c76 := by kernel_rfl
 c80 := by kernel_rfl
 c85 := by kernel_rfl
 c127 := by kernel_rfl
 c143 := by kernel_rfl
 c145 := by kernel_rfl
 c167 := by kernel_rfl
 c168 := by kernel_rfl
 c171 := by kernel_rfl
 c173 := by kernel_rfl
 c175 := by kernel_rfl
 c210 := by kernel_rfl
 c212 := by kernel_rfl
 c213 := by kernel_rfl
 c232 := by kernel_rfl
 c233 := by kernel_rfl }
open Go.RowKit in
theorem Tryz.strconv_Atoi_ok (s : ByteArray) (hmax : s.size <= 9223372036854775806) (v : Int) (h : Lib.atoiAll s.data.toList = .ok v) (w : World) :
  Calls Tryz.prog 202 #[.string s] w fun e w' => e = .returned (.tuple #[.int .i64 v, .nilIface]) /\ (w' = w ∨ ∃ t, w' = Lib.bytesWorld w 5 t) := Any.strconv_Atoi_ok Tryz.laysC172 s hmax v h w
open Go.RowKit in
theorem Tryz.strconv_Atoi_range (s : ByteArray) (hlim : s.size <= 281474976710656) (h : Lib.atoiAll s.data.toList = .range) (ev : Value) (w : World) (hv : w.cell? ⟨7, 0, none⟩ = some ev) (hev : ev = .nilIface ∨ ∃ te pe, ev = .iface te pe) :
  Calls Tryz.prog 202 #[.string s] w fun e w' => ∃ N, e = .returned (.tuple #[.int .i64 (Lib.atoiSat s.data.toList), .iface 323 (.pointer (some ⟨N, 0, none⟩))]) /\ w.heap.size <= N /\ w'.heap[N]? = some (.cells #[.string ⟨#[65, 116, 111, 105]⟩, .string s, ev] 345 (0, 0)) /\ Below w.heap.size w w' := Any.strconv_Atoi_range Tryz.laysC172 s hlim h ev w hv hev
def Tryz.lays217_ren : Go.Shelf.Ren := ⟨fun | 217 => 212 | 266 => 225 | n => n, fun | 9 => 9 | 5 => 5 | 3 => 3 | n => n, fun | n => n⟩
theorem Tryz.lays217 : Go.Proofs.Lays.n217 Tryz.prog Tryz.lays217_ren := {
 mixed := by kernel_rfl
 f217 := Tryz.func212.trans (congrArg some (by kernel_rfl))
 f266 := Tryz.func225.trans (congrArg some (by kernel_rfl))
 t3 := Tryz.underlying3
 a3 := Tryz.isAgg3
 z3 := Tryz.sizeOf3
 v3 := Tryz.zeroValue3
 t5 := Tryz.underlying5
 a5 := Tryz.isAgg5
 z5 := Tryz.sizeOf5
 v5 := Tryz.zeroValue5
 t9 := Tryz.underlying9
 a9 := Tryz.isAgg9
 z9 := Tryz.sizeOf9
 v9 := Tryz.zeroValue9 }
open Go.RowKit Go.Lib in
theorem Tryz.stringslite_IndexByte (s : ByteArray) (c : Int) (w : World) :
  Calls Tryz.prog 212 #[.string s, .int .u8 c] w fun e w' => e = .returned (.int .i64 (Lib.indexByte s.data.toList c.toNat.toUInt8)) /\ w' = w := Any.stringslite_IndexByte Tryz.lays217 s c w
def Tryz.lays146_ren : Go.Shelf.Ren := ⟨fun | 146 => 200 | 221 => 207 | 268 => 216 | 138 => 217 | 143 => 218 | 195 => 227 | 197 => 228 | 218 => 229 | 219 => 206 | 260 => 234 | 217 => 212 | 225 => 213 | 224 => 214 | 267 => 215 | 266 => 225 | 314 => 226 | n => n, fun | 9 => 9 | 31 => 264 | 3 => 3 | 4 => 4 | 0 => 0 | 105 => 338 | 21 => 21 | 5 => 5 | 46 => 295 | 119 => 352 | 139 => 355 | 138 => 354 | 146 => 335 | 51 => 334 | n => n, fun | 1 => 5 | 3 => 8 | 4 => 9 | n => n⟩
theorem Tryz.lays146 : Go.Proofs.Lays.n146 Tryz.prog Tryz.lays146_ren := {
 mixed := by kernel_rfl
 f138 := Tryz.func217.trans (congrArg some (by kernel_rfl))
 f143 := Tryz.func218.trans (congrArg some (by kernel_rfl))
 f146 := Tryz.func200.trans (congrArg some (by kernel_rfl))
 f195 := Tryz.func227.trans (congrArg some (by kernel_rfl))
 f197 := Tryz.func228.trans (congrArg some (by kernel_rfl))
 f217 := Tryz.func212.trans (congrArg some (by kernel_rfl))
 f218 := Tryz.func229.trans (congrArg some (by kernel_rfl))
 f219 := Tryz.func206.trans (congrArg some (by kernel_rfl))
 f221 := Tryz.func207.trans (congrArg some (by kernel_rfl))
 f224 := Tryz.func214.trans (congrArg some (by kernel_rfl))
 f225 := Tryz.func213.trans (congrArg some (by kernel_rfl))
 f260 := Tryz.func234.trans (congrArg some (by kernel_rfl))
 f266 := Tryz.func225.trans (congrArg some (by kernel_rfl))
 f267 := Tryz.func215.trans (congrArg some (by kernel_rfl))
 f268 := Tryz.func216.trans (congrArg some (by kernel_rfl))
 f314 := Tryz.func226.trans (congrArg some (by kernel_rfl))
 t0 := Tryz.underlying0
 a0 := Tryz.isAgg0
 z0 := Tryz.sizeOf0
 v0 := Tryz.zeroValue0
 t3 := Tryz.underlying3
 a3 := Tryz.isAgg3
 z3 := Tryz.sizeOf3
 v3 := Tryz.zeroValue3
 t4 := Tryz.underlying4
 a4 := Tryz.isAgg4
 z4 := Tryz.sizeOf4
 v4 := Tryz.zeroValue4
 t5 := Tryz.underlying5
 a5 := Tryz.isAgg5
 z5 := Tryz.sizeOf5
 v5 := Tryz.zeroValue5
 t9 := Tryz.underlying9
 a9 := Tryz.isAgg9
 z9 := Tryz.sizeOf9
 v9 := Tryz.zeroValue9
 t21 := Tryz.underlying21
 a21 := Tryz.isAgg21
 z21 := Tryz.sizeOf21
 v21 := Tryz.zeroValue21
 t31 := Tryz.underlying264
 a31 := Tryz.isAgg264
 z31 := Tryz.sizeOf264
 v31 := Tryz.zeroValue264
 t46 := Tryz.underlying295
 a46 := Tryz.isAgg295
 z46 := Tryz.sizeOf295
 v46 := Tryz.zeroValue295
 t51 := Tryz.underlying334
 a51 := Tryz.isAgg334
 z51 := Tryz.sizeOf334
 v51 := Tryz.zeroValue334
 t105 := Tryz.underlying338
 a105 := Tryz.isAgg338
 z105 := Tryz.sizeOf338
 v105 := Tryz.zeroValue338
 t119 := Tryz.underlying352
 a119 := Tryz.isAgg352
 z119 := Tryz.sizeOf352
 t138 := Tryz.underlying354
 a138 := Tryz.isAgg354
 z138 := Tryz.sizeOf354
 v138 := Tryz.zeroValue354
 t139 := Tryz.underlying355
 a139 := Tryz.isAgg355
 z139 := Tryz.sizeOf355
 v139 := Tryz.zeroValue355
 t146 := Tryz.underlying335
 a146 := Tryz.isAgg335
 z146 := Tryz.sizeOf335
 v146 := Tryz.zeroValue335
 g1 := by kernel_rfl
 g3 := by kernel_rfl
 g4 := by kernel_rfl }
open Go.RowKit Go.Lib in
theorem Tryz.strings_Split (s sep : ByteArray) (m : Int) (w : World) (hs : s.size < 4294967281) (hm : w.cell? ⟨5, 0, none⟩ = some (.int .i64 m)) (h1 : 1 <= sep.size) :
  Calls Tryz.prog 200 #[.string s, .string sep] w fun e w' =>
   e = .returned (.slice (some ⟨w.heap.size, 0, none⟩) (Lib.countB s sep + 1) (Lib.countB s sep + 1)) /\ w' = w.alloc (.cells ((Lib.splitB sep 0 (Lib.countB s sep) s).map Value.string).toArray 9) := Any.strings_Split Tryz.lays146 (by kernel_rfl) s sep m w hs hm h1
end Go.Proofs
end

section
namespace Go.Tk
open Go
theorem Pst.grown {h : H} {w : World} (s : Sat h w) (k : Nat) (os : Array Obj) : Pst h w h (Sort.grow (w.drewN k) os) := by
 have hp : ∀ i, i < w.heap.size -> (w.heap ++ os)[i]? = w.heap[i]? := fun i hi => by rw [Array.getElem?_append, if_pos hi]
 refine ⟨fun i o hi => ?_, rfl, rfl, rfl, ?_, fun i hi _ => hp i hi, fun i hi => .inl hi⟩
 ·have := s i o hi
  show (w.heap ++ os)[i]? = some o
  rw [hp i (Array.getElem?_eq_some_iff.1 this).1]; exact this
 ·show w.heap.size <= (w.heap ++ os).size
  simp
theorem Pst.ofBelow {h : H} {w w' : World} (s : Sat h w) (b : RowKit.Below w.heap.size w w') : Pst h w h w' :=
 ⟨fun i o hi => (b.block i (s.lt (by rw [hi]; simp))).trans (s i o hi), b.os, b.tape, b.output, b.size, fun i hi _ => b.block i hi, fun i hi => .inl hi⟩
theorem qSJ (n : Nat) : Lib.decDigits n = decN n := by
 induction n using Nat.strongRecOn with
 | _ n ih =>
  by_cases c : n < 10
  ·rw [Lib.decDigits, dif_pos c, vA c]
  ·rw [Lib.decDigits, dif_neg c, jU c, ih (n / 10) (by omega)]
theorem zIT (n : Int) : Lib.itoa n = decI n := by
 unfold Lib.itoa decI
 split
 ·rw [qSJ, show n.natAbs = (-n).toNat by omega]
 ·rw [qSJ]
theorem qQQ : ∀ (l : List UInt8) (acc : Nat), (∀ b ∈ l, digP b) -> acc < 10 ^ 5 -> l.length <= 5 -> Lib.parseUint10 acc l = .ok (l.foldl (fun a b => a * 10 + (b.toNat - 48)) acc) := by
 have key : ∀ (k : Nat) (l : List UInt8) (acc : Nat), (∀ b ∈ l, digP b) -> acc < 10 ^ k -> l.length + k <= 10 -> Lib.parseUint10 acc l = .ok (l.foldl (fun a b => a * 10 + (b.toNat - 48)) acc) := by
  intro k l
  induction l generalizing k with
  | nil => intro acc _ _ _; rfl
  | cons c r ih =>
   intro acc hd ha hl
   have hc := hd c List.mem_cons_self
   unfold digP at hc
   rw [List.length_cons] at hl
   have hk : 10 ^ k <= 10 ^ 9 := Nat.pow_le_pow_right (by decide) (by omega)
   have e9 : (10 : Nat) ^ 9 = 1000000000 := by decide
   rw [Lib.parseUint10, if_pos hc, if_neg (by omega), if_neg (by omega), List.foldl_cons]
   exact ih (k + 1) _ (fun b hb => hd b (List.mem_cons_of_mem _ hb)) (by rw [Nat.pow_succ]; omega) (by omega)
 exact fun l acc h1 h2 h3 => key 5 l acc h1 h2 (by omega)
theorem zJJ {s : List UInt8} {m : Nat} (h : numS s = some m) : Lib.atoiAll s = .ok (m : Int) := by
 have hd := zGL h
 obtain ⟨e, hm⟩ := qLZ h
 have hl : s.length <= 5 := by rw [e]; exact (jI m).2 hm
 have hv : valN s = m := by rw [e, kN]
 cases s with
 | nil => exact absurd (congrArg List.length e) (by have := qBQ m; simp; omega)
 | cons c r =>
  have hc := hd c List.mem_cons_self
  unfold digP at hc
  have h1 : ¬ c.toNat = 43 := by omega
  have h2 : ¬ c.toNat = 45 := by omega
  have hp := qQQ (c :: r) 0 hd (by decide) hl
  have hv' : (c :: r).foldl (fun a b => a * 10 + (b.toNat - 48)) 0 = m := hv
  rw [hv'] at hp
  simp only [Lib.atoiAll, h1, h2, or_self, if_false, Lib.parseMag, List.isEmpty_cons, Bool.false_eq_true, hp, not_false_eq_true, true_and, false_and]
  show (if 9223372036854775808 <= m then Lib.NumEnd.range else Lib.NumEnd.ok (m : Int)) = _
  rw [if_neg (show ¬ 9223372036854775808 <= m by omega)]
theorem qTE {z : Int} (h : -99999 <= z /\ z <= 99999) : Lib.atoiAll (decI z) = .ok z := by
 by_cases hn : z < 0
 ·have e : decI z = 45 :: decN (-z).toNat := by unfold decI; rw [if_pos hn]
  have hm : (-z).toNat <= 99999 := by omega
  have hp := qQQ (decN (-z).toNat) 0 (uR _) (by decide) ((jI _).2 hm)
  have hv : (decN (-z).toNat).foldl (fun a b => a * 10 + (b.toNat - 48)) 0 = (-z).toNat := kN _
  rw [hv] at hp
  have hne : decN (-z).toNat ≠ [] := fun x => by have := qBQ (-z).toNat; rw [x] at this; simp at this
  have h45 : (45 : UInt8).toNat = 45 := rfl
  rw [e]
  simp only [Lib.atoiAll, h45, or_true, if_true, Lib.parseMag, if_neg hne, hp, not_true_eq_false, false_and, if_false, true_and]
  rw [if_neg (by omega)]
  congr 1
  omega
 ·have := zJJ (zGM (n := z.toNat) (by omega))
  have e : decI z = decN z.toNat := by unfold decI; rw [if_neg hn]
  rw [e, this]
  congr 1
  omega
end Go.Tk
namespace Go.Proofs.YtjioiemhgbkbfaaGreatDoor
open Go Go.Tk Go.RowKit
structure Gl (h : H) : Prop where
 tab : ∃ ty, hget h 10 = some (blk (Lib.pow10Tab.map fun z => Value.int .u64 z) ty)
 syn : ∃ ev ty, hget h 6 = some (blk [ev] ty) /\ (ev = .nilIface ∨ ∃ te pe, ev = .iface te pe)
 rng : ∃ ev ty, hget h 7 = some (blk [ev] ty) /\ (ev = .nilIface ∨ ∃ te pe, ev = .iface te pe)
theorem Gl.sub {g h : H} (k : Gl g) (s : Tk.Sub g h) : Gl h := by
 obtain ⟨⟨t, h1⟩, ⟨a, b, h2, h3⟩, ⟨c, d, h4, h5⟩⟩ := k
 exact ⟨⟨t, s _ _ h1⟩, ⟨a, b, s _ _ h2, h3⟩, ⟨c, d, s _ _ h4, h5⟩⟩
theorem glPow : Tryz.prog.globalNamed "internal/strconv.uint64pow10" = some 10 := by kernel_rfl
theorem Gl.tabIs {h : H} {w : World} (k : Gl h) (s : Sat h w) : Lib.TabIs Tryz.prog w "internal/strconv.uint64pow10" .u64 Lib.pow10Tab := by
 obtain ⟨t, h1⟩ := k.tab
 have := s _ _ h1
 unfold Lib.TabIs World.var?
 rw [glPow]
 simp only [Option.bind_some, this, blk]
theorem qVM {h : H} {n : Int} (g : Gl h) (h0 : -9223372036854775808 <= n /\ n <= 9223372036854775807) {R : Ending -> H -> Prop} (k : R (.returned (.string ⟨(decI n).toArray⟩)) h) :
  HCalls Tryz.prog 233 #[.int .i64 n] h R := by
 refine .of_calls fun w s => ?_
 refine (Tryz.strconv_Itoa n h0.1 h0.2 w (g.tabIs s)).mono ?_
 rintro e w' ⟨rfl, j, os, rfl⟩
 rw [zIT]
 exact ⟨h, k, .grown s j os⟩
theorem qPI {h : H} {t : List UInt8} (g : Gl h) (ht : t.length <= 4194304) {R : Ending -> H -> Prop}
  (k : ∀ n e, (∀ m : Int, Lib.atoiAll t = .ok m -> n = m /\ e = .nilIface) -> (-9223372036854775808 <= n /\ n <= 9223372036854775807) -> (e = .nilIface ∨ ∃ y p, e = .iface y p) -> R (.returned (.tuple #[.int .i64 n, e])) h) :
  HCalls Tryz.prog 202 #[.string ⟨t.toArray⟩] h R := by
 refine .of_calls fun w s => ?_
 have hsz : (⟨t.toArray⟩ : ByteArray).size = t.length := rfl
 have hdt : (⟨t.toArray⟩ : ByteArray).data.toList = t := rfl
 obtain ⟨-, ⟨e1, t1, g1, i1⟩, ⟨e2, t2, g2, i2⟩⟩ := g
 have c1 : w.cell? ⟨6, 0, none⟩ = some e1 := by rw [Lib.cell_of_heap (s _ _ g1)]; rfl
 have c2 : w.cell? ⟨7, 0, none⟩ = some e2 := by rw [Lib.cell_of_heap (s _ _ g2)]; rfl
 cases hv : Lib.atoiAll t with
 | ok v =>
  refine (Tryz.strconv_Atoi_ok ⟨t.toArray⟩ (by rw [hsz]; omega) v hv w).mono ?_
  rintro e w' ⟨rfl, hw⟩
  have hb : -9223372036854775808 <= v /\ v <= 9223372036854775807 := by
   revert hv
   unfold Lib.atoiAll
   split
   ·intro hv; cases hv
   ·intro hv
    simp only at hv
    split at hv
    ·cases hv
    ·cases hv
    ·split at hv
     ·cases hv
     ·split at hv
      ·cases hv
      ·rename_i c1 c2
       have := Lib.NumEnd.ok.inj hv
       subst this
       split <;> omega
  refine ⟨h, k v _ (fun m hm => ?_) hb (.inl rfl), ?_⟩
  ·rw [hv] at hm
   exact ⟨Lib.NumEnd.ok.inj hm, rfl⟩
  ·rcases hw with rfl | ⟨t', rfl⟩
   ·exact .refl s
   ·exact .ofBelow s (Lib.bytesWorld_below _ _ _)
 | range =>
  refine (Tryz.strconv_Atoi_range ⟨t.toArray⟩ (by rw [hsz]; omega) hv e2 w c2 i2).mono ?_
  rintro e w' ⟨N, rfl, -, -, hb⟩
  refine ⟨h, k _ _ (fun m hm => ?_) (by unfold Lib.atoiSat; split <;> omega) (.inr ⟨_, _, rfl⟩), .ofBelow s hb⟩
  rw [hv] at hm
  cases hm
 | _ =>
  refine (Any.strconv_Atoi_syntax Tryz.laysC172 ⟨t.toArray⟩ (by rw [hsz]; omega) hv e1 w c1 i1).mono ?_
  rintro e w' ⟨N, rfl, -, -, hb⟩
  refine ⟨h, k 0 _ (fun m hm => ?_) (by omega) (.inr ⟨_, _, rfl⟩), .ofBelow s hb⟩
  rw [hv] at hm
  cases hm
end Go.Proofs.YtjioiemhgbkbfaaGreatDoor
end
