/- Parts of the proof, put together: A25, D1, O1, P1, P2, P3, P4, D5, P5, S1, U1. -/
import Derived.Lib.LaidTab
import Derived.ChangeArms
import Derived.Below
import Derived.Shelf.Strings.Builder1
import Derived.Shelf.LaysM
import Derived.Shelf.Strconv.Itoa3
import Derived.Shelf.LaysC
import Derived.Shelf.Strconv.AtoiAll
import Derived.Shelf.Strings.Search1
import Derived.Shelf.Sort.Plain
import Derived.Shelf.Strings.Split
import Derived.Ground.Names2Prog
import Derived.Shelf.Slices.CompactI
import Derived.Shelf.Slices.In.SortNone
import Derived.Test.YtgbapakcfmgahaaGreatDoorProg
import Derived.Test.YtgbapakcfmgahaaGreatDoorChecked
import Derived.WalkKit
import Derived.Test.YtgbapakcfmgahaaGreatDoorK135
set_option linter.unusedVariables false
set_option linter.unusedSimpArgs false
set_option linter.defProp false
section
namespace Go.Tk
open Go
def fullL (w : World) : List Nat -> H
 | [] => []
 | i :: l => match w.heap[i]? with
  | some o => (i, o) :: fullL w l
  | none => fullL w l
def full (w : World) : H := fullL w (List.range w.heap.size)
theorem hget_fullL (w : World) (i : Nat) : ∀ l : List Nat, hget (fullL w l) i = if i ∈ l then w.heap[i]? else none := by
 intro l
 induction l with
 | nil => simp [fullL, hget]
 | cons j l ih =>
  unfold fullL
  cases hj : w.heap[j]? with
  | none =>
   simp only [ih, List.mem_cons]
   by_cases e : i = j
   ·subst e; simp [hj]
   ·simp [e]
  | some o =>
   simp only [qX, ih, List.mem_cons]
   by_cases e : i = j
   ·subst e; simp [hj]
   ·simp [e]
theorem hget_full (w : World) (i : Nat) : hget (full w) i = w.heap[i]? := by
 unfold full
 rw [hget_fullL]
 split
 ·rfl
 ·rename_i h
  rw [List.mem_range, Nat.not_lt] at h
  exact (Array.getElem?_eq_none h).symm
theorem sat_full (w : World) : Sat (full w) w := fun i o e => by rw [<- hget_full]; exact e
theorem cell_plain {w : World} {a : Addr} {v : Value} (h : w.cell? a = some v) : ∃ b off c e f, a = ⟨b, off, none⟩ /\ w.heap[b]? = some (.cells c e f) /\ c.toList[off]? = some v := by
 obtain ⟨b, off, sp⟩ := a
 unfold World.cell? at h
 cases ho : w.heap[b]? with
 | none => simp [ho] at h
 | some o =>
  cases o with
  | cells c e f =>
   cases sp with
   | some y => simp [ho] at h
   | none => exact ⟨b, off, c, e, f, rfl, ho, by simpa [ho] using h⟩
  | _ => simp [ho] at h
theorem cells_read {w : World} {base : Nat} {a : Addr} {n : Nat} {cs : List Value} (h : w.cells? base a n = some cs) (hn : 0 < n) : ∃ b off, a = ⟨b, off, none⟩ /\ qQ (full w) b off n = some cs := by
 obtain ⟨_, hl, hc⟩ := World.cells?_some h
 have h0 := hc 0 hn
 rw [List.getElem?_eq_getElem (by omega)] at h0
 have ha : a.add 0 = a := by unfold Addr.add; rw [if_pos rfl]
 rw [ha] at h0
 obtain ⟨b, off, c, e, f, rfl, hb, _⟩ := cell_plain h0
 have each : ∀ i, i < n -> c.toList[off + i]? = cs[i]? := fun i hi => by
  have := hc i hi
  rw [add_none] at this
  rw [<- this]
  simp only [World.cell?, hb, Option.isSome_none, Bool.false_eq_true, if_false, Array.getElem?_toList]
 have hsz : off + n <= c.size := by
  have := each (n - 1) (by omega)
  rw [List.getElem?_eq_getElem (by omega : n - 1 < cs.length)] at this
  obtain ⟨h, _⟩ := List.getElem?_eq_some_iff.1 this
  simp at h; omega
 refine ⟨b, off, rfl, ?_⟩
 unfold qQ
 rw [hget_full, hb]
 simp only [Option.bind_some, rdObj]
 rw [if_pos hsz]
 congr 1
 apply List.ext_getElem?
 intro i
 rw [List.getElem?_take, List.getElem?_drop]
 split
 ·rename_i hi; exact each i hi
 ·rename_i hi; exact (List.getElem?_eq_none (by omega)).symm
theorem hread_cat {h : H} {b o n m : Nat} {x y : List Value} (h1 : qQ h b o n = some x) (h2 : qQ h b (o + n) m = some y) : qQ h b o (n + m) = some (x ++ y) := by
 unfold qQ at *
 cases e : hget h b with
 | none => rw [e] at h1; cases h1
 | some ob =>
  rw [e] at h1 h2
  simp only [Option.bind_some] at *
  cases ob with
  | cells c t f =>
   simp only [rdObj] at *
   by_cases c1 : o + n <= c.size
   ·by_cases c2 : o + n + m <= c.size
    ·rw [if_pos c1] at h1
     rw [if_pos c2] at h2
     rw [if_pos (by omega)]
     simp only [Option.some.injEq] at *
     rw [<- h1, <- h2, List.take_add, List.drop_drop]
    ·rw [if_neg c2] at h2; cases h2
   ·rw [if_neg c1] at h1; cases h1
  | _ => cases h1
theorem hread_rows {h : H} {b o sz : Nat} : ∀ {n : Nat} {css : List (List Value)}, css.length = n -> (∀ i (hi : i < css.length), qQ h b (o + i * sz) sz = some css[i]) -> 0 < n -> qQ h b o (n * sz) = some css.flatten := by
 intro n
 induction n with
 | zero => intro css _ _ h; cases h
 | succ n ih =>
  intro css hl hc _
  obtain ⟨l, c, rfl⟩ : ∃ l c, css = l ++ [c] := ⟨css.dropLast, css.getLast (by intro e; subst e; cases hl), (List.dropLast_concat_getLast _).symm⟩
  rw [List.length_append, List.length_singleton] at hl
  have hlast := hc n (by rw [List.length_append, List.length_singleton]; omega)
  rw [List.getElem_append_right (by omega)] at hlast
  simp only [List.getElem_singleton] at hlast
  rw [List.flatten_append, List.flatten_singleton]
  cases n with
  | zero =>
   have : l = [] := List.length_eq_zero_iff.1 (by omega)
   subst this
   simpa using hlast
  | succ n =>
   have h1 := ih (css := l) (by omega) (fun i hi => by
    have := hc i (by rw [List.length_append]; omega)
    rwa [List.getElem_append_left hi] at this) (by omega)
   rw [Nat.succ_mul (n + 1) sz]
   exact hread_cat h1 hlast
section
variable {X : Type} {enc : TypeId × Value -> X} {P : Program} {w : World} {base : Nat} {sp : Nat -> Bool} {held : Bool}
theorem slice_rows {t e : TypeId} {fuel sz : Nat} {a : Option Addr} {len cap : Nat} {x : DataW X × List MemPlace} (ht : P.underlying t = some (.slice e)) (hc : P.cellsOf e = sz) (hsz : 0 < sz)
  (h : DataW.trod enc P w base sp held fuel t [.slice a len cap] = some x) :
  len <= maxLen /\ ∃ css : List (List Value), css.length = len /\ (∀ cs ∈ css, cs.length = sz /\ ∃ m y, DataW.trod enc P w base sp held m e cs = some y) /\
   ((a = none /\ len = 0 /\ cap = 0) ∨ len = 0 ∨ ∃ b off, a = some ⟨b, off, none⟩ /\ len <= cap /\ qQ (full w) b off (len * sz) = some css.flatten) := by
 rcases DataW.trod_slice ht h with ⟨h0, _⟩ | ⟨ad, len', cap', elems, rest, n, _, h0, rfl, hb, hl, hm, hlen, hel, _, _⟩
 ·simp only [List.cons.injEq, Value.slice.injEq, and_true] at h0
  obtain ⟨rfl, rfl, rfl⟩ := h0
  exact ⟨Nat.zero_le _, [], rfl, fun _ h => absurd h List.not_mem_nil, .inl ⟨rfl, rfl, rfl⟩⟩
 ·simp only [List.cons.injEq, Value.slice.injEq, and_true] at h0
  obtain ⟨rfl, rfl, rfl⟩ := h0
  rw [hc] at hel
  have each : ∀ i : Fin len, ∃ cs, w.cells? base (ad.add (i.1 * sz)) sz = some cs /\ ∃ y, DataW.trod enc P w base sp held n e cs = some y := fun i => by
   have := hel i.1 i.2
   rw [List.getElem?_eq_getElem (by omega : i.1 < elems.length), Option.bind_eq_some_iff] at this
   obtain ⟨cs, h1, h2⟩ := this
   exact ⟨cs, h1, _, h2⟩
  let C : Fin len -> List Value := fun i => Classical.choose (each i)
  have hC : ∀ i, w.cells? base (ad.add (i.1 * sz)) sz = some (C i) /\ ∃ y, DataW.trod enc P w base sp held n e (C i) = some y := fun i => Classical.choose_spec (each i)
  refine ⟨by omega, List.ofFn C, by simp, fun cs hcs => ?_, .inr ?_⟩
  ·obtain ⟨i, rfl⟩ := List.mem_ofFn.1 hcs
   exact ⟨(World.cells?_some (hC i).1).2.1, n, (hC i).2⟩
  ·rcases Nat.eq_zero_or_pos len with rfl | hp
   ·exact .inl rfl
   right
   obtain ⟨b, off, hab, _⟩ := cells_read (hC ⟨0, hp⟩).1 hsz
   have ha : ad.add (0 * sz) = ad := by unfold Addr.add; rw [if_pos (Nat.zero_mul sz)]
   rw [ha] at hab
   subst hab
   refine ⟨b, off, rfl, hl, hread_rows (by simp) (fun i hi => ?_) hp⟩
   rw [List.length_ofFn] at hi
   obtain ⟨b', off', hab', hr⟩ := cells_read (hC ⟨i, hi⟩).1 hsz
   rw [add_none, Addr.mk.injEq] at hab'
   obtain ⟨rfl, rfl, _⟩ := hab'
   rw [List.getElem_ofFn]
   exact hr
theorem slice_in {α : Type} {encA : α -> List Value} {ok : α -> Prop} {t e : TypeId} {fuel sz : Nat} {a : Option Addr} {len cap : Nat} {x : DataW X × List MemPlace} (ht : P.underlying t = some (.slice e)) (hc : P.cellsOf e = sz) (hsz : 0 < sz)
  (h : DataW.trod enc P w base sp held fuel t [.slice a len cap] = some x) (dec : ∀ cs m y, cs.length = sz -> DataW.trod enc P w base sp held m e cs = some y -> ∃ b : α, cs = encA b /\ ok b) :
  ∃ l : List α, rIn (full w) encA sz (.slice a len cap) l /\ l.length <= maxLen /\ ∀ b ∈ l, ok b := by
 obtain ⟨hm, css, hlen, hall, hr⟩ := slice_rows ht hc hsz h
 have key : ∀ css : List (List Value), (∀ cs ∈ css, cs.length = sz /\ ∃ m y, DataW.trod enc P w base sp held m e cs = some y) -> ∃ l : List α, css = l.map encA /\ ∀ b ∈ l, ok b := by
  intro css
  induction css with
  | nil => exact fun _ => ⟨[], rfl, fun _ h => absurd h List.not_mem_nil⟩
  | cons c css ih =>
   intro hx
   obtain ⟨l, rfl, hl⟩ := ih fun cs hcs => hx cs (List.mem_cons_of_mem _ hcs)
   obtain ⟨h1, m, y, h2⟩ := hx c List.mem_cons_self
   obtain ⟨b, rfl, hb⟩ := dec c m y h1 h2
   refine ⟨b :: l, rfl, fun b' hb' => ?_⟩
   rcases List.mem_cons.1 hb' with rfl | hb'
   ·exact hb
   ·exact hl _ hb'
 obtain ⟨l, rfl, hl⟩ := key css hall
 have hll : l.length = len := by rw [<- hlen, List.length_map]
 have hfl : (fl encA l).length = l.length * sz := by
  unfold fl
  clear hr hlen hll hl
  induction l with
  | nil => simp
  | cons b l ih =>
   rw [List.map_cons, List.flatten_cons, List.length_append, ih fun cs hcs => hall cs (by rw [List.map_cons]; exact List.mem_cons_of_mem _ hcs), (hall (encA b) (by simp)).1, List.length_cons, Nat.succ_mul, Nat.add_comm]
 refine ⟨l, ?_, by omega, hl⟩
 rcases hr with ⟨rfl, rfl, rfl⟩ | rfl | ⟨b, off, rfl, hcap, qQ⟩
 ·exact .inr ⟨List.length_eq_zero_iff.1 hll, _, _, rfl⟩
 ·exact .inr ⟨List.length_eq_zero_iff.1 hll, _, _, rfl⟩
 ·subst hll
  exact .inl ⟨hfl, .inr ⟨b, off, cap, rfl, hcap, qQ⟩⟩
theorem field_of {t : TypeId} {fs : Array Field} {fuel : Nat} {cs : List Value} {x : DataW X × List MemPlace} (ht : P.underlying t = some (.struct fs)) (h : DataW.trod enc P w base sp held fuel t cs = some x) (i : Nat) {f : Field} (hf : fs[i]? = some f) :
  ∃ m y, DataW.trod enc P w base sp held m f.type ((cs.drop f.offset).take (P.cellsOf f.type)) = some y := by
 obtain ⟨xs, n, _, _, _, hl, ha⟩ := DataW.trod_struct ht h
 have := ha i f hf
 obtain ⟨hi, _⟩ := Array.getElem?_eq_some_iff.1 hf
 rw [List.getElem?_eq_getElem (by omega : i < xs.length)] at this
 exact ⟨n, _, this⟩
theorem zP {t ty : TypeId} {fs : Array Field} {fuel : Nat} {cs cs' : List Value} {x : DataW X × List MemPlace} (ht : P.underlying t = some (.struct fs)) (h : DataW.trod enc P w base sp held fuel t cs = some x) (i off sz : Nat)
  (hf : (fs[i]?).map (fun f => (f.type, f.offset)) = some (ty, off)) (hc : P.cellsOf ty = sz) (hcs : (cs.drop off).take sz = cs') : ∃ m y, DataW.trod enc P w base sp held m ty cs' = some y := by
 rw [Option.map_eq_some_iff] at hf
 obtain ⟨f, h1, h2⟩ := hf
 simp only [Prod.mk.injEq] at h2
 obtain ⟨rfl, rfl⟩ := h2
 subst hc hcs
 exact field_of ht h i h1
end
theorem okWide_struct {P : Program} {w : World} {r : Reach} {base : Nat} {t : TypeId} {fs : Array Field} {v : Value} (ht : P.underlying t = some (.struct fs)) (h : Value.okWide P w r base t v) : ∃ cs, v = .agg cs /\ cs.size = P.cellsOf t := by
 unfold Value.okWide at h
 rw [ht] at h
 obtain ⟨cs, h1, h2, _⟩ := h
 exact ⟨cs, h1, h2⟩
theorem laid_reads {P : Program} {w : World} : ∀ {l : List (String × DataW Unit)} {ps : List MemPlace}, DataW.LaidVars P w l ps -> ∀ n d, (n, d) ∈ l ->
  ∃ g t cs fuel p, P.globalNamed n = some g /\ (P.globals[g]?).map (·.type) = some t /\ w.var? P n = some cs /\ DataW.trod (fun _ => ()) P w 0 (fun _ => true) false fuel t cs.toList = some (d, p) /\ ∀ q ∈ MemPlace.row ⟨g, 0, none⟩ cs.size, q ∈ ps
 | [], _, _, _, _, hm => by cases hm
 | (n', d') :: r, ps, h, n, d, hm => by
  obtain ⟨g, t, cs, fuel, p, q, h1, h2, h3, h4, h5, rfl⟩ := h
  rcases List.mem_cons.1 hm with e | e
  ·cases e
   exact ⟨g, t, cs, fuel, p, h1, h2, h3, h4, fun q hq => List.mem_append_left _ (List.mem_append_left _ hq)⟩
  ·obtain ⟨g', t', cs', f', p', a1, a2, a3, a4, a5⟩ := laid_reads h5 n d e
   exact ⟨g', t', cs', f', p', a1, a2, a3, a4, fun q hq => List.mem_append_right _ (a5 q hq)⟩
theorem laid_block {P : Program} {w : World} {l : List (String × DataW Unit)} (h : laidMet P l w) {n : String} {d : DataW Unit} {g : Nat} {t : TypeId} (hm : (n, d) ∈ l) (hg : P.globalNamed n = some g) (ht : (P.globals[g]?).map (·.type) = some t) :
  ∃ cs fuel p, DataW.trod (fun _ => ()) P w 0 (fun _ => true) false fuel t cs = some (d, p) /\ (cs ≠ [] -> ∃ ty, hget (full w) g = some (blk cs ty)) := by
 obtain ⟨ps, hv, _, hf⟩ := h
 obtain ⟨g', t', cs, fuel, p, a1, a2, a3, a4, a5⟩ := laid_reads hv n d hm
 obtain rfl := Option.some.inj (hg.symm.trans a1)
 obtain rfl := Option.some.inj (ht.symm.trans a2)
 refine ⟨cs.toList, fuel, p, a4, fun hne => ?_⟩
 unfold World.var? at a3
 rw [hg] at a3
 simp only [Option.bind_some] at a3
 have hp : 0 < cs.size := by
  rcases Nat.eq_zero_or_pos cs.size with e | e
  ·exact absurd (by simpa using e) hne
  ·exact e
 obtain ⟨⟨c, ty, hb⟩, _⟩ := hf g 0 (a5 _ (by unfold MemPlace.row; refine List.mem_map.2 ⟨0, List.mem_range.2 hp, ?_⟩; rfl))
 rw [hb] at a3
 simp only [Option.some.injEq] at a3
 subst a3
 refine ⟨ty, ?_⟩
 rw [hget_full, hb]
 rfl
theorem laid_tab {P : Program} {w : World} {l : List (String × DataW Unit)} (h : laidMet P l w) {n : String} {k : IntKind} {zs : List Int} {g m : Nat} {t e : TypeId} (hm : (n, Lib.tabData k zs) ∈ l) (hg : P.globalNamed n = some g) (ht : (P.globals[g]?).map (·.type) = some t)
  (hu : P.underlying t = some (.array m e)) (he : P.underlying e = some (.int k)) (hce : P.cellsOf e = 1) (hct : P.cellsOf t = m) (hz : zs ≠ []) : ∃ ty, hget (full w) g = some (blk (zs.map fun z => .int k z) ty) := by
 obtain ⟨cs, fuel, p, h1, h2⟩ := laid_block h hm hg ht
 have := Lib.cells_of_tab hu he hce hct h1
 subst this
 exact h2 (by simpa using hz)
theorem laid_err {P : Program} {w : World} {l : List (String × DataW Unit)} (h : laidMet P l w) {n s : String} {d : DataW Unit} {g : Nat} {t : TypeId} {ms : Array (String × TypeId)} (hm : (n, .iface s d) ∈ l) (hg : P.globalNamed n = some g) (ht : (P.globals[g]?).map (·.type) = some t)
  (hu : P.underlying t = some (.interface ms)) : ∃ ev ty, hget (full w) g = some (blk [ev] ty) /\ (ev = .nilIface ∨ ∃ te pe, ev = .iface te pe) := by
 obtain ⟨cs, fuel, p, h1, h2⟩ := laid_block h hm hg ht
 have : ∃ te pe, cs = [.iface te pe] := by
  cases fuel with
  | zero => simp [DataW.trod] at h1
  | succ fuel =>
   match cs with
   | [] => simp [DataW.trod, hu] at h1
   | _ :: _ :: _ => simp [DataW.trod, hu] at h1
   | [c] =>
    cases c <;> simp [DataW.trod, hu] at h1
    rename_i u v
    exact ⟨u, v, rfl⟩
 obtain ⟨te, pe, rfl⟩ := this
 obtain ⟨ty, h3⟩ := h2 (by simp)
 exact ⟨_, ty, h3, .inr ⟨te, pe, rfl⟩⟩
end Go.Tk
end

section
set_option maxRecDepth 4000
namespace Go.Tk
open Go
theorem wPair :
  (∀ (d : (Int × Int)), (eP d).length = 2) /\
  (∀ (d : (Int × Int)), (eP d)[0]? = some (.int .i64 d.1)) /\
  (∀ (d : (Int × Int)), (eP d)[1]? = some (.int .i64 d.2)) /\
  (∀ (d : (Int × Int)), ((eP d).drop 0).take 2 = eP d) /\
  (∀ (d : (Int × Int)), (eP d).take 2 = eP d) /\
  (∀ (d : (Int × Int)), (eP d).all vone = true) /\
  (∀ (d : (Int × Int)) (x : Int), qJ (eP d) 0 [.int .i64 x] = eP (x, d.2)) /\
  (∀ (d : (Int × Int)) (x : Int), qJ (eP d) 1 [.int .i64 x] = eP (d.1, x)) /\
  (∀ (d e : (Int × Int)), qJ (eP d) 0 (eP e) = eP e) :=
 ⟨fun _ => rfl, fun _ => rfl, fun _ => rfl, fun _ => rfl, fun _ => rfl, fun _ => rfl, fun _ _ => rfl, fun _ _ => rfl, fun _ _ => rfl⟩
structure DCall where
 session : Int
 number : Int
 kind : Int
 text : List UInt8
 slot : Int
 to : Int
deriving DecidableEq
def zL (d : DCall) : List Value := [.int .i64 d.session, .int .i64 d.number, .int .i64 d.kind, .string ⟨(d.text).toArray⟩, .int .i64 d.slot, .int .i64 d.to]
def zCall : DCall := ⟨0, 0, 0, [], 0, 0⟩
theorem zCall_eq : [.int .i64 0, .int .i64 0, .int .i64 0, str [], .int .i64 0, .int .i64 0] = zL zCall := rfl
theorem zE :
  (∀ (d : DCall), (zL d).length = 6) /\
  (∀ (d : DCall), (zL d)[0]? = some (.int .i64 d.session)) /\
  (∀ (d : DCall), (zL d)[1]? = some (.int .i64 d.number)) /\
  (∀ (d : DCall), (zL d)[2]? = some (.int .i64 d.kind)) /\
  (∀ (d : DCall), (zL d)[3]? = some (.string ⟨(d.text).toArray⟩)) /\
  (∀ (d : DCall), (zL d)[4]? = some (.int .i64 d.slot)) /\
  (∀ (d : DCall), (zL d)[5]? = some (.int .i64 d.to)) /\
  (∀ (d : DCall), ((zL d).drop 0).take 6 = zL d) /\
  (∀ (d : DCall), (zL d).take 6 = zL d) /\
  (∀ (d : DCall), (zL d).all vone = true) /\
  (∀ (d : DCall) (x : Int), qJ (zL d) 0 [.int .i64 x] = zL { d with session := x }) /\
  (∀ (d : DCall) (x : Int), qJ (zL d) 1 [.int .i64 x] = zL { d with number := x }) /\
  (∀ (d : DCall) (x : Int), qJ (zL d) 2 [.int .i64 x] = zL { d with kind := x }) /\
  (∀ (d : DCall) (x : List UInt8), qJ (zL d) 3 [.string ⟨(x).toArray⟩] = zL { d with text := x }) /\
  (∀ (d : DCall) (x : Int), qJ (zL d) 4 [.int .i64 x] = zL { d with slot := x }) /\
  (∀ (d : DCall) (x : Int), qJ (zL d) 5 [.int .i64 x] = zL { d with to := x }) /\
  (∀ (d e : DCall), qJ (zL d) 0 (zL e) = zL e) :=
 ⟨fun _ => rfl, fun _ => rfl, fun _ => rfl, fun _ => rfl, fun _ => rfl, fun _ => rfl, fun _ => rfl, fun _ => rfl, fun _ => rfl, fun _ => rfl, fun _ _ => rfl, fun _ _ => rfl, fun _ _ => rfl, fun _ _ => rfl, fun _ _ => rfl, fun _ _ => rfl, fun _ _ => rfl⟩
structure DWord where
 kind : Int
 from_ : Int
 to : Int
 stamp : Int
 try_ : Int
 what : Int
 yes : Bool
 slots : List Int
 pairs : List ((Int × Int))
 code : Int
 vals : List Int
 call : DCall
deriving DecidableEq
def qK (d : DWord) (slots' pairs' vals' : Value) : List Value := [.int .i64 d.kind, .int .i64 d.from_, .int .i64 d.to, .int .i64 d.stamp, .int .i64 d.try_, .int .i64 d.what, .bool d.yes, slots', pairs', .int .i64 d.code, vals', .int .i64 d.call.session, .int .i64 d.call.number, .int .i64 d.call.kind, .string ⟨(d.call.text).toArray⟩, .int .i64 d.call.slot, .int .i64 d.call.to]
def zWord : DWord := ⟨0, 0, 0, 0, 0, 0, false, [], [], 0, [], ⟨0, 0, 0, [], 0, 0⟩⟩
theorem zWord_eq : [.int .i64 0, .int .i64 0, .int .i64 0, .int .i64 0, .int .i64 0, .int .i64 0, .bool false, .slice none 0 0, .slice none 0 0, .int .i64 0, .slice none 0 0, .int .i64 0, .int .i64 0, .int .i64 0, str [], .int .i64 0, .int .i64 0] = qK zWord (.slice none 0 0) (.slice none 0 0) (.slice none 0 0) := rfl
theorem zV :
  (∀ (d : DWord) (slots' pairs' vals' : Value), (qK d slots' pairs' vals').length = 17) /\
  (∀ (d : DWord) (slots' pairs' vals' : Value), (qK d slots' pairs' vals')[0]? = some (.int .i64 d.kind)) /\
  (∀ (d : DWord) (slots' pairs' vals' : Value), (qK d slots' pairs' vals')[1]? = some (.int .i64 d.from_)) /\
  (∀ (d : DWord) (slots' pairs' vals' : Value), (qK d slots' pairs' vals')[2]? = some (.int .i64 d.to)) /\
  (∀ (d : DWord) (slots' pairs' vals' : Value), (qK d slots' pairs' vals')[3]? = some (.int .i64 d.stamp)) /\
  (∀ (d : DWord) (slots' pairs' vals' : Value), (qK d slots' pairs' vals')[4]? = some (.int .i64 d.try_)) /\
  (∀ (d : DWord) (slots' pairs' vals' : Value), (qK d slots' pairs' vals')[5]? = some (.int .i64 d.what)) /\
  (∀ (d : DWord) (slots' pairs' vals' : Value), (qK d slots' pairs' vals')[6]? = some (.bool d.yes)) /\
  (∀ (d : DWord) (slots' pairs' vals' : Value), (qK d slots' pairs' vals')[7]? = some (slots')) /\
  (∀ (d : DWord) (slots' pairs' vals' : Value), (qK d slots' pairs' vals')[8]? = some (pairs')) /\
  (∀ (d : DWord) (slots' pairs' vals' : Value), (qK d slots' pairs' vals')[9]? = some (.int .i64 d.code)) /\
  (∀ (d : DWord) (slots' pairs' vals' : Value), (qK d slots' pairs' vals')[10]? = some (vals')) /\
  (∀ (d : DWord) (slots' pairs' vals' : Value), (qK d slots' pairs' vals')[11]? = some (.int .i64 d.call.session)) /\
  (∀ (d : DWord) (slots' pairs' vals' : Value), (qK d slots' pairs' vals')[12]? = some (.int .i64 d.call.number)) /\
  (∀ (d : DWord) (slots' pairs' vals' : Value), (qK d slots' pairs' vals')[13]? = some (.int .i64 d.call.kind)) /\
  (∀ (d : DWord) (slots' pairs' vals' : Value), (qK d slots' pairs' vals')[14]? = some (.string ⟨(d.call.text).toArray⟩)) /\
  (∀ (d : DWord) (slots' pairs' vals' : Value), (qK d slots' pairs' vals')[15]? = some (.int .i64 d.call.slot)) /\
  (∀ (d : DWord) (slots' pairs' vals' : Value), (qK d slots' pairs' vals')[16]? = some (.int .i64 d.call.to)) /\
  (∀ (d : DWord) (slots' pairs' vals' : Value), ((qK d slots' pairs' vals').drop 0).take 17 = qK d slots' pairs' vals') /\
  (∀ (d : DWord) (slots' pairs' vals' : Value), (qK d slots' pairs' vals').take 17 = qK d slots' pairs' vals') /\
  (∀ (d : DWord) (slots' pairs' vals' : Value), vone slots' = true -> vone pairs' = true -> vone vals' = true -> (qK d slots' pairs' vals').all vone = true) /\
  (∀ (d : DWord) (slots' pairs' vals' : Value) (x : Int), qJ (qK d slots' pairs' vals') 0 [.int .i64 x] = qK { d with kind := x } slots' pairs' vals') /\
  (∀ (d : DWord) (slots' pairs' vals' : Value) (x : Int), qJ (qK d slots' pairs' vals') 1 [.int .i64 x] = qK { d with from_ := x } slots' pairs' vals') /\
  (∀ (d : DWord) (slots' pairs' vals' : Value) (x : Int), qJ (qK d slots' pairs' vals') 2 [.int .i64 x] = qK { d with to := x } slots' pairs' vals') /\
  (∀ (d : DWord) (slots' pairs' vals' : Value) (x : Int), qJ (qK d slots' pairs' vals') 3 [.int .i64 x] = qK { d with stamp := x } slots' pairs' vals') /\
  (∀ (d : DWord) (slots' pairs' vals' : Value) (x : Int), qJ (qK d slots' pairs' vals') 4 [.int .i64 x] = qK { d with try_ := x } slots' pairs' vals') /\
  (∀ (d : DWord) (slots' pairs' vals' : Value) (x : Int), qJ (qK d slots' pairs' vals') 5 [.int .i64 x] = qK { d with what := x } slots' pairs' vals') /\
  (∀ (d : DWord) (slots' pairs' vals' : Value) (x : Bool), qJ (qK d slots' pairs' vals') 6 [.bool x] = qK { d with yes := x } slots' pairs' vals') /\
  (∀ (d : DWord) (slots' pairs' vals' : Value) (x : Value), qJ (qK d slots' pairs' vals') 7 [x] = qK d x pairs' vals') /\
  (∀ (d : DWord) (slots' pairs' vals' : Value) (x : Value), qJ (qK d slots' pairs' vals') 8 [x] = qK d slots' x vals') /\
  (∀ (d : DWord) (slots' pairs' vals' : Value) (x : Int), qJ (qK d slots' pairs' vals') 9 [.int .i64 x] = qK { d with code := x } slots' pairs' vals') /\
  (∀ (d : DWord) (slots' pairs' vals' : Value) (x : Value), qJ (qK d slots' pairs' vals') 10 [x] = qK d slots' pairs' x) /\
  (∀ (d : DWord) (slots' pairs' vals' : Value) (x : Int), qJ (qK d slots' pairs' vals') 11 [.int .i64 x] = qK { d with call := { d.call with session := x } } slots' pairs' vals') /\
  (∀ (d : DWord) (slots' pairs' vals' : Value) (x : Int), qJ (qK d slots' pairs' vals') 12 [.int .i64 x] = qK { d with call := { d.call with number := x } } slots' pairs' vals') /\
  (∀ (d : DWord) (slots' pairs' vals' : Value) (x : Int), qJ (qK d slots' pairs' vals') 13 [.int .i64 x] = qK { d with call := { d.call with kind := x } } slots' pairs' vals') /\
  (∀ (d : DWord) (slots' pairs' vals' : Value) (x : List UInt8), qJ (qK d slots' pairs' vals') 14 [.string ⟨(x).toArray⟩] = qK { d with call := { d.call with text := x } } slots' pairs' vals') /\
  (∀ (d : DWord) (slots' pairs' vals' : Value) (x : Int), qJ (qK d slots' pairs' vals') 15 [.int .i64 x] = qK { d with call := { d.call with slot := x } } slots' pairs' vals') /\
  (∀ (d : DWord) (slots' pairs' vals' : Value) (x : Int), qJ (qK d slots' pairs' vals') 16 [.int .i64 x] = qK { d with call := { d.call with to := x } } slots' pairs' vals') /\
  (∀ (d e : DWord) (slots' pairs' vals' : Value) (slots'' pairs'' vals'' : Value), qJ (qK d slots' pairs' vals') 0 (qK e slots'' pairs'' vals'') = qK e slots'' pairs'' vals'') /\
  (∀ (d : DWord) (slots' pairs' vals' : Value), ((qK d slots' pairs' vals').drop 11).take 6 = zL d.call) /\
  (∀ (d : DWord) (slots' pairs' vals' : Value) (x : DCall), qJ (qK d slots' pairs' vals') 11 (zL x) = qK { d with call := x } slots' pairs' vals') :=
 ⟨fun _ _ _ _ => rfl, fun _ _ _ _ => rfl, fun _ _ _ _ => rfl, fun _ _ _ _ => rfl, fun _ _ _ _ => rfl, fun _ _ _ _ => rfl, fun _ _ _ _ => rfl, fun _ _ _ _ => rfl, fun _ _ _ _ => rfl, fun _ _ _ _ => rfl, fun _ _ _ _ => rfl, fun _ _ _ _ => rfl, fun _ _ _ _ => rfl, fun _ _ _ _ => rfl, fun _ _ _ _ => rfl, fun _ _ _ _ => rfl, fun _ _ _ _ => rfl, fun _ _ _ _ => rfl, fun _ _ _ _ => rfl, fun _ _ _ _ => rfl, fun _ _ _ _ h0 h1 h2 => by simp only [qK, List.all_cons, List.all_nil, h0, h1, h2]; rfl, fun _ _ _ _ _ => rfl, fun _ _ _ _ _ => rfl, fun _ _ _ _ _ => rfl, fun _ _ _ _ _ => rfl, fun _ _ _ _ _ => rfl, fun _ _ _ _ _ => rfl, fun _ _ _ _ _ => rfl, fun _ _ _ _ _ => rfl, fun _ _ _ _ _ => rfl, fun _ _ _ _ _ => rfl, fun _ _ _ _ _ => rfl, fun _ _ _ _ _ => rfl, fun _ _ _ _ _ => rfl, fun _ _ _ _ _ => rfl, fun _ _ _ _ _ => rfl, fun _ _ _ _ _ => rfl, fun _ _ _ _ _ => rfl, fun _ _ _ _ _ _ _ _ => rfl, fun _ _ _ _ => rfl, fun _ _ _ _ _ => rfl⟩
def sWord (h : H) (d : DWord) (slots' pairs' vals' : Value) : Prop := rLs h eI 1 slots' d.slots /\ rLs h eP 2 pairs' d.pairs /\ rLs h eI 1 vals' d.vals
def rWord (h : H) (cs : List Value) (d : DWord) : Prop := ∃ slots' pairs' vals', cs = qK d slots' pairs' vals' /\ sWord h d slots' pairs' vals'
structure DStatement where
 do_ : Int
 key : Int
 num : Int
deriving DecidableEq
def qM (d : DStatement) : List Value := [.int .i64 d.do_, .int .i64 d.key, .int .i64 d.num]
def zStatement : DStatement := ⟨0, 0, 0⟩
theorem zStatement_eq : [.int .i64 0, .int .i64 0, .int .i64 0] = qM zStatement := rfl
theorem qP :
  (∀ (d : DStatement), (qM d).length = 3) /\
  (∀ (d : DStatement), (qM d)[0]? = some (.int .i64 d.do_)) /\
  (∀ (d : DStatement), (qM d)[1]? = some (.int .i64 d.key)) /\
  (∀ (d : DStatement), (qM d)[2]? = some (.int .i64 d.num)) /\
  (∀ (d : DStatement), ((qM d).drop 0).take 3 = qM d) /\
  (∀ (d : DStatement), (qM d).take 3 = qM d) /\
  (∀ (d : DStatement), (qM d).all vone = true) /\
  (∀ (d : DStatement) (x : Int), qJ (qM d) 0 [.int .i64 x] = qM { d with do_ := x }) /\
  (∀ (d : DStatement) (x : Int), qJ (qM d) 1 [.int .i64 x] = qM { d with key := x }) /\
  (∀ (d : DStatement) (x : Int), qJ (qM d) 2 [.int .i64 x] = qM { d with num := x }) /\
  (∀ (d e : DStatement), qJ (qM d) 0 (qM e) = qM e) :=
 ⟨fun _ => rfl, fun _ => rfl, fun _ => rfl, fun _ => rfl, fun _ => rfl, fun _ => rfl, fun _ => rfl, fun _ _ => rfl, fun _ _ => rfl, fun _ _ => rfl, fun _ _ => rfl⟩
end Go.Tk
end

section
namespace Go.Tk
open Go
def wLen (w : DWord) : Prop := w.slots.length <= 1099511627776 /\ w.pairs.length <= 1099511627776 /\ w.vals.length <= 1099511627776
end Go.Tk
end

section
namespace Go.Tk
open Go
def encN (m : Nat) : List UInt8 := if m < 128 then [UInt8.ofNat m] else UInt8.ofNat (128 + m % 128) :: encN (m / 128)
termination_by m
decreasing_by omega
def Num (rest : List UInt8) (m : Nat) (r : List UInt8) : Prop := rest = encN m ++ r /\ m < 2097152
end Go.Tk
end

section
namespace Go.Tk
open Go
section
variable {α : Type}
def allP (P : α -> Prop) (l : List α) : Prop := ∀ x ∈ l, P x
theorem allP_zero (P : α -> Prop) (l : List α) : allP P (l.take 0) := fun x h => by simp at h
theorem allP_more {P : α -> Prop} {l : List α} {i : Nat} (h : i < l.length) (a : allP P (l.take i)) (p : P l[i]) : allP P (l.take (i + 1)) := by
 rw [List.take_succ_eq_append_getElem h]
 intro x hx
 rcases List.mem_append.1 hx with hx | hx
 ·exact a x hx
 ·rw [List.mem_singleton.1 hx]; exact p
theorem allP_done {P : α -> Prop} {l : List α} {i : Nat} (h : l.length <= i) (a : allP P (l.take i)) : allP P l := by rw [List.take_of_length_le h] at a; exact a
theorem allP_not {P : α -> Prop} {l : List α} {i : Nat} (h : i < l.length) (p : ¬ P l[i]) : ¬ allP P l := fun a => p (a _ (List.getElem_mem h))
def risU (k : α -> Int) (l : List α) (n : Nat) : Prop := ∀ i (h : i + 1 < l.length), i + 1 < n -> k (l[i]'(by omega)) < k l[i + 1]
def risP (k : α -> Int) (l : List α) : Prop := ∀ i (h : i + 1 < l.length), k (l[i]'(by omega)) < k l[i + 1]
theorem risU_zero (k : α -> Int) (l : List α) : risU k l 0 := fun i h n => by omega
theorem risU_one {k : α -> Int} {l : List α} {i : Nat} (h : i = 0) (r : risU k l i) : risU k l (i + 1) := fun j hj n => by omega
theorem risU_more {k : α -> Int} {l : List α} {i : Nat} (hi : i < l.length) (h0 : 0 < i) (r : risU k l i) (x : k (l[i - 1]'(by omega)) < k l[i]) : risU k l (i + 1) := fun j hj n => by
 by_cases e : j + 1 < i
 ·exact r j hj e
 ·have : j + 1 = i := by omega
  subst this
  exact x
theorem risU_done {k : α -> Int} {l : List α} {i : Nat} (h : l.length <= i) (r : risU k l i) : risP k l := fun j hj => r j hj (by omega)
theorem risU_not {k : α -> Int} {l : List α} {i : Nat} (hi : i < l.length) (h0 : 0 < i) (x : ¬ k (l[i - 1]'(by omega)) < k l[i]) : ¬ risP k l := fun r => by
 obtain ⟨i, rfl⟩ : ∃ j, i = j + 1 := ⟨i - 1, by omega⟩
 exact x (r i hi)
end
def inP (a b n : Int) : Prop := a <= n /\ n <= b
def keyP (n : Int) : Prop := inP 0 31 n
def valP (n : Int) : Prop := inP (-9999) 9999 n
def slotP (n : Int) : Prop := inP 0 7 n
def zO (n : Int) : Prop := inP 0 2 n
def pairP (p : Int × Int) : Prop := keyP p.1 /\ valP p.2
def pairsP (l : List (Int × Int)) : Prop := l.length <= 32 /\ allP pairP l /\ risP (·.1) l
def valsP (l : List Int) : Prop := l.length <= 6 /\ allP valP l
theorem ite_f {b : Bool} {X Y : Prop} (x : b = false -> X) (y : b = true -> Y) : if b = false then X else Y := by
 cases b
 ·exact x rfl
 ·exact y rfl
def Asks (R : Ending -> H -> Prop) (p : Prop) (h : H) : Prop := ∀ b : Bool, (b = true ↔ p) -> R (.returned (.bool b)) h
theorem Asks.yes {R : Ending -> H -> Prop} {p : Prop} {h : H} (k : Asks R p h) (x : p) : R (.returned (.bool true)) h := k true (by simp [x])
theorem Asks.no {R : Ending -> H -> Prop} {p : Prop} {h : H} (k : Asks R p h) (x : ¬ p) : R (.returned (.bool false)) h := k false (by simp [x])
theorem Asks.dyes {R : Ending -> H -> Prop} {p : Prop} {h g : H} (k : Asks R p g) (s : Sub g h) (x : p) : dP R (.returned (.bool true)) h := ⟨g, s, k.yes x⟩
theorem Asks.dno {R : Ending -> H -> Prop} {p : Prop} {h g : H} (k : Asks R p g) (s : Sub g h) (x : ¬ p) : dP R (.returned (.bool false)) h := ⟨g, s, k.no x⟩
theorem zG {b : Bool} {p : Prop} (hb : b = true ↔ p) (h : b = false) : ¬ p := fun x => by rw [hb.2 x] at h; cases h
end Go.Tk
end

section
namespace Go.Tk
open Go
theorem take_app_one {α : Type} {l : List α} {i : Nat} (h : i < l.length) : l.take (i + 1) = l.take i ++ [l[i]] := List.take_succ_eq_append_getElem h
end Go.Tk
end

section
namespace Go.Tk
open Go
def decN (n : Nat) : List UInt8 := if h : n < 10 then [UInt8.ofNat (48 + n)] else decN (n / 10) ++ [UInt8.ofNat (48 + n % 10)]
termination_by n
decreasing_by omega
theorem decN_small {n : Nat} (h : n < 10) : decN n = [UInt8.ofNat (48 + n)] := by rw [decN, dif_pos h]
theorem decN_big {n : Nat} (h : ¬ n < 10) : decN n = decN (n / 10) ++ [UInt8.ofNat (48 + n % 10)] := by rw [decN, dif_neg h]
theorem decN_len : ∀ (k n : Nat), n < 10 ^ (k + 1) -> (decN n).length <= k + 1 := by
 intro k
 induction k with
 | zero => intro n h; rw [decN_small (by simpa using h)]; simp
 | succ k ih =>
  intro n h
  by_cases c : n < 10
  ·rw [decN_small c]; simp
  ·rw [decN_big c, List.length_append, List.length_singleton]
   have := ih (n / 10) (by rw [Nat.pow_succ] at h; omega)
   omega
theorem decN_len20 {n : Nat} (h : n <= 9223372036854775807) : (decN n).length <= 20 := decN_len 19 n (by
 have : (10 : Nat) ^ (19 + 1) = 100000000000000000000 := by decide
 omega)
def decI (i : Int) : List UInt8 := if i < 0 then 45 :: decN (-i).toNat else decN i.toNat
theorem decI_len {i : Int} (h : -9223372036854775807 <= i /\ i <= 9223372036854775807) : (decI i).length <= 21 := by
 unfold decI
 split
 ·rw [List.length_cons]; have := decN_len20 (n := (-i).toNat) (by omega); omega
 ·have := decN_len20 (n := i.toNat) (by omega); omega
def stP (s : DStatement) : Prop := inP 1 4 s.do_ /\ inP 0 31 s.key /\ valP s.num /\ (s.do_ = 1 -> s.num = 0)
def dealP (l : List DStatement) : Prop := 1 <= l.length /\ l.length <= 6 /\ allP stP l
def opName (n : Int) : List UInt8 := if n = 1 then [103, 101, 116, 32] else if n = 2 then [112, 117, 116, 32] else if n = 3 then [97, 100, 100, 32] else [110, 101, 101, 100, 32]
def stText (s : DStatement) : List UInt8 := opName s.do_ ++ decI s.key ++ (if s.do_ = 1 then [] else 32 :: decI s.num) ++ [59]
def zD (l : List DStatement) : List UInt8 := (l.map stText).flatten
theorem dealText_app (l m : List DStatement) : zD (l ++ m) = zD l ++ zD m := by simp [zD]
theorem dealText_one (s : DStatement) : zD [s] = stText s := by simp [zD]
theorem opName_len (n : Int) : (opName n).length <= 5 := by
 unfold opName
 repeat' split
 all_goals simp
theorem stText_len {s : DStatement} (h : stP s) : (stText s).length <= 60 := by
 have h1 := opName_len s.do_
 have h2 := decI_len (i := s.key) (by have := h.2.1; simp only [inP] at this; omega)
 have h3 := decI_len (i := s.num) (by have := h.2.2.1; simp only [valP, inP] at this; omega)
 unfold stText
 split <;> simp only [List.length_append, List.length_cons, List.length_nil] <;> omega
theorem dealText_len {l : List DStatement} (h : allP stP l) : (zD l).length <= 60 * l.length := by
 induction l with
 | nil => simp [zD]
 | cons s l ih =>
  have h1 := ih fun x hx => h x (List.mem_cons_of_mem _ hx)
  have h2 := stText_len (h s List.mem_cons_self)
  have : zD (s :: l) = stText s ++ zD l := by simp [zD]
  rw [this, List.length_append, List.length_cons]
  omega
end Go.Tk
end

section
set_option maxRecDepth 4000
namespace Go.Tk
open Go
end Go.Tk
end

section
namespace Go.Tk
open Go
def digP (b : UInt8) : Prop := 48 <= b.toNat /\ b.toNat <= 57
theorem digP_of {n : Nat} (h : n < 10) : digP (UInt8.ofNat (48 + n)) := by
 unfold digP
 rw [UInt8.toNat_ofNat']
 omega
theorem dig_val {n : Nat} (h : n < 10) : (UInt8.ofNat (48 + n)).toNat = 48 + n := by
 rw [UInt8.toNat_ofNat']
 omega
theorem decN_dig (n : Nat) : ∀ b ∈ decN n, digP b := by
 induction n using Nat.strongRecOn with
 | _ n ih =>
  intro b hb
  by_cases c : n < 10
  ·rw [decN_small c, List.mem_singleton] at hb
   subst hb
   exact digP_of c
  ·rw [decN_big c] at hb
   rcases List.mem_append.1 hb with h | h
   ·exact ih (n / 10) (by omega) b h
   ·rw [List.mem_singleton] at h
    subst h
    exact digP_of (Nat.mod_lt _ (by decide))
theorem decN_pos (n : Nat) : 1 <= (decN n).length := by
 by_cases c : n < 10
 ·rw [decN_small c]; simp
 ·rw [decN_big c]; simp
def valN (l : List UInt8) : Nat := l.foldl (fun a b => a * 10 + (b.toNat - 48)) 0
theorem valN_app (l : List UInt8) (b : UInt8) : valN (l ++ [b]) = valN l * 10 + (b.toNat - 48) := by simp [valN]
theorem valN_dec (n : Nat) : valN (decN n) = n := by
 induction n using Nat.strongRecOn with
 | _ n ih =>
  by_cases c : n < 10
  ·rw [decN_small c]
   show 0 * 10 + ((UInt8.ofNat (48 + n)).toNat - 48) = n
   rw [dig_val c]; omega
  ·rw [decN_big c, valN_app, ih (n / 10) (by omega), dig_val (Nat.mod_lt _ (by decide))]
   omega
theorem decN_inj {m n : Nat} (h : decN m = decN n) : m = n := by
 have := congrArg valN h
 rwa [valN_dec, valN_dec] at this
theorem valN_lt : ∀ (k : Nat) (l : List UInt8), l.length <= k -> (∀ b ∈ l, digP b) -> valN l < 10 ^ k := by
 intro k
 induction k with
 | zero => intro l h _; have : l = [] := List.length_eq_zero_iff.1 (by omega); subst this; decide
 | succ k ih =>
  intro l h hd
  by_cases e : l = []
  ·subst e; exact Nat.pos_of_ne_zero (by simp [valN])
  ·have hl := List.dropLast_concat_getLast e
   have h1 := ih l.dropLast (by rw [List.length_dropLast]; omega) fun b hb => hd b (List.dropLast_subset l hb)
   have h2 := hd (l.getLast e) (List.getLast_mem e)
   rw [<- hl, valN_app, Nat.pow_succ]
   unfold digP at h2
   omega
theorem decN_len5 (n : Nat) : (decN n).length <= 5 ↔ n <= 99999 := by
 constructor
 ·intro h
  have := valN_lt 5 _ h (decN_dig n)
  rw [valN_dec] at this
  have e : (10 : Nat) ^ 5 = 100000 := by decide
  omega
 ·intro h
  exact decN_len 4 n (by have e : (10 : Nat) ^ (4 + 1) = 100000 := by decide
                         omega)
def numS (l : List UInt8) : Option Nat := if l = decN (valN l) /\ l.length <= 5 then some (valN l) else none
theorem numS_dec {n : Nat} (h : n <= 99999) : numS (decN n) = some n := by
 unfold numS
 rw [valN_dec, if_pos ⟨rfl, (decN_len5 n).2 h⟩]
theorem numS_some {l : List UInt8} {n : Nat} (h : numS l = some n) : l = decN n /\ n <= 99999 := by
 unfold numS at h
 split at h
 ·rename_i c
  have e := Option.some.inj h
  rw [e] at c
  refine ⟨c.1, (decN_len5 n).1 ?_⟩
  rw [<- c.1]; exact c.2
 ·cases h
theorem numS_dig {l : List UInt8} {n : Nat} (h : numS l = some n) : ∀ b ∈ l, digP b := by
 rw [(numS_some h).1]; exact decN_dig n
def CutO (c : UInt8) (s a b : List UInt8) (f : Bool) : Prop := c ∉ a /\ ((f = true /\ s = a ++ c :: b) ∨ (f = false /\ s = a /\ b = []))
theorem cut_un {c : UInt8} : ∀ {a b x y : List UInt8}, c ∉ a -> c ∉ b -> a ++ c :: x = b ++ c :: y -> a = b /\ x = y := by
 intro a
 induction a with
 | nil =>
  intro b x y _ hb h
  cases b with
  | nil => exact ⟨rfl, (List.cons.inj h).2⟩
  | cons d b => exact absurd (by rw [(List.cons.inj h).1]; exact List.mem_cons_self) hb
 | cons e a ih =>
  intro b x y ha hb h
  cases b with
  | nil => exact absurd (by rw [<- (List.cons.inj h).1]; exact List.mem_cons_self) ha
  | cons d b =>
   obtain ⟨h1, h2⟩ := List.cons.inj h
   obtain ⟨h3, h4⟩ := ih (fun m => ha (List.mem_cons_of_mem _ m)) (fun m => hb (List.mem_cons_of_mem _ m)) h2
   exact ⟨by rw [h1, h3], h4⟩
theorem CutO.at {c : UInt8} {s a b a' b' : List UInt8} {f : Bool} (h : CutO c s a b f) (hs : s = a' ++ c :: b') (ha : c ∉ a') : a = a' /\ b = b' /\ f = true := by
 obtain ⟨h1, ⟨rfl, h2⟩ | ⟨rfl, h2, rfl⟩⟩ := h
 ·obtain ⟨e1, e2⟩ := cut_un h1 ha (h2.symm.trans hs)
  exact ⟨e1, e2, rfl⟩
 ·exact absurd (by rw [<- h2, hs]; simp) h1
def splitB (c : UInt8) : List UInt8 -> List (List UInt8)
 | [] => [[]]
 | b :: l => if b = c then [] :: splitB c l else match splitB c l with
  | [] => [[b]]
  | w :: r => (b :: w) :: r
theorem splitB_ne (c : UInt8) (l : List UInt8) : splitB c l ≠ [] := by
 cases l with
 | nil => simp [splitB]
 | cons b l =>
  unfold splitB
  split
  ·simp
  ·split <;> simp
theorem splitB_app {c : UInt8} : ∀ {a : List UInt8} (l : List UInt8), c ∉ a -> splitB c (a ++ c :: l) = a :: splitB c l := by
 intro a
 induction a with
 | nil => intro l _; simp [splitB]
 | cons b a ih =>
  intro l h
  rw [List.cons_append, splitB, if_neg (fun e => h (by rw [e]; exact List.mem_cons_self)), ih l fun m => h (List.mem_cons_of_mem _ m)]
theorem splitB_none {c : UInt8} : ∀ {a : List UInt8}, c ∉ a -> splitB c a = [a] := by
 intro a
 induction a with
 | nil => intro _; rfl
 | cons b a ih =>
  intro h
  rw [splitB, if_neg (fun e => h (by rw [e]; exact List.mem_cons_self)), ih fun m => h (List.mem_cons_of_mem _ m)]
structure Form where
 name : List UInt8
 kind : Int
 keep : Int
 offs : List Nat
def forms : List Form := [⟨[98, 101, 103, 105, 110, 115], 1, 0, [2]⟩, ⟨[115, 101, 110, 100, 115], 2, 0, [2]⟩, ⟨[103, 105, 118, 101, 115], 3, 0, [2]⟩, ⟨[98, 114, 105, 110, 103, 115], 4, 0, [3]⟩, ⟨[100, 111, 117, 98, 108, 101, 115], 4, 1, [3]⟩,
 ⟨[108, 111, 115, 101, 115], 5, 0, [3]⟩, ⟨[102, 97, 108, 108, 115], 6, 0, [1, 4]⟩, ⟨[114, 105, 115, 101, 115], 7, 0, [1]⟩, ⟨[116, 101, 110, 100, 115], 8, 0, [1]⟩, ⟨[102, 111, 114, 99, 101, 115], 9, 0, [1]⟩]
end Go.Tk
end

section
namespace Go.Proofs
open Go.Shelf
def Tryz.lays169_ren : Go.Shelf.Ren := ⟨fun | 169 => 158 | n => n, fun | 70 => 204 | 9 => 9 | 0 => 0 | 72 => 206 | 37 => 133 | 127 => 227 | 3 => 3 | 5 => 5 | n => n, fun | n => n⟩
theorem Tryz.lays169 : Go.Proofs.Lays.n169 Tryz.prog Tryz.lays169_ren := {
 mixed := by kernel_rfl
 f169 := Tryz.func158.trans (congrArg some (by kernel_rfl))
 t0 := Tryz.underlying0
 a0 := Tryz.isAgg0
 z0 := Tryz.sizeOf0
 v0 := Tryz.zeroValue0
 t3 := Tryz.underlying3
 a3 := Tryz.isAgg3
 z3 := Tryz.sizeOf3
 v3 := Tryz.zeroValue3
 t9 := Tryz.underlying9
 a9 := Tryz.isAgg9
 z9 := Tryz.sizeOf9
 v9 := Tryz.zeroValue9
 t37 := Tryz.underlying133
 a37 := Tryz.isAgg133
 z37 := Tryz.sizeOf133
 v37 := Tryz.zeroValue133
 t70 := Tryz.underlying204
 a70 := Tryz.isAgg204
 z70 := Tryz.sizeOf204
 v70 := Tryz.zeroValue204
 t72 := Tryz.underlying206
 a72 := Tryz.isAgg206
 z72 := Tryz.sizeOf206
 v72 := Tryz.zeroValue206
 t127 := Tryz.underlying227
 a127 := Tryz.isAgg227
 z127 := Tryz.sizeOf227
 v127 := Tryz.zeroValue227 }
theorem Tryz.Builder_Extra_169 : Builder.Extra Tryz.prog Tryz.lays169_ren := {
 sizeBuilder := by kernel_rfl
 liesBuilder := by kernel_rfl
 t5 := Tryz.underlying5
 a5 := Tryz.isAgg5
 z5 := Tryz.sizeOf5
 v5 := Tryz.zeroValue5
 infoByte := by kernel_rfl
 cellsByte := by kernel_rfl
 sizeByte := by kernel_rfl
 neB5 := by decide }
def Tryz.laysM171_ren : Go.Shelf.Ren := ⟨fun | 171 => 203 | 243 => 207 | 246 => 208 | 283 => 209 | 284 => 210 | 285 => 211 | 286 => 212 | 129 => 169 | 317 => 213 | 318 => 214 | 319 => 215 | 320 => 216 | 337 => 217 | 338 => 218 | n => n, fun | 3 => 3 | 9 => 9 | 2 => 2 | 4 => 4 | 171 => 274 | 0 => 0 | 53 => 221 | 37 => 133 | 5 => 5 | 173 => 276 | 212 => 279 | 51 => 219 | 20 => 20 | 213 => 280 | 46 => 160 | 232 => 281 | 233 => 282 | n => n, fun | 17 => 5 | 18 => 6 | 19 => 7 | n => n⟩
theorem Tryz.laysM171 : Go.Proofs.LaysM.n171 Tryz.prog Tryz.laysM171_ren := {
 mixed := by kernel_rfl
 f129 := Tryz.func169.trans (congrArg some (by kernel_rfl))
 f171 := Tryz.func203.trans (congrArg some (by kernel_rfl))
 f243 := Tryz.func207.trans (congrArg some (by kernel_rfl))
 f246 := Tryz.func208.trans (congrArg some (by kernel_rfl))
 f283 := Tryz.func209.trans (congrArg some (by kernel_rfl))
 f284 := Tryz.func210.trans (congrArg some (by kernel_rfl))
 f285 := Tryz.func211.trans (congrArg some (by kernel_rfl))
 f286 := Tryz.func212.trans (congrArg some (by kernel_rfl))
 f317 := Tryz.func213.trans (congrArg some (by kernel_rfl))
 f318 := Tryz.func214.trans (congrArg some (by kernel_rfl))
 f319 := Tryz.func215.trans (congrArg some (by kernel_rfl))
 f320 := Tryz.func216.trans (congrArg some (by kernel_rfl))
 f337 := Tryz.func217.trans (congrArg some (by kernel_rfl))
 f338 := Tryz.func218.trans (congrArg some (by kernel_rfl))
 t0 := Tryz.underlying0
 a0 := Tryz.isAgg0
 z0 := Tryz.sizeOf0
 v0 := Tryz.zeroValue0
 t2 := Tryz.underlying2
 a2 := Tryz.isAgg2
 z2 := Tryz.sizeOf2
 v2 := Tryz.zeroValue2
 t3 := Tryz.underlying3
 a3 := Tryz.isAgg3
 z3 := Tryz.sizeOf3
 v3 := Tryz.zeroValue3
 t4 := Tryz.underlying4
 a4 := Tryz.isAgg4
 z4 := Tryz.sizeOf4
 v4 := Tryz.zeroValue4
 t5 := Tryz.underlying5
 a5 := Tryz.isAgg5
 z5 := Tryz.sizeOf5
 v5 := Tryz.zeroValue5
 t9 := Tryz.underlying9
 a9 := Tryz.isAgg9
 z9 := Tryz.sizeOf9
 v9 := Tryz.zeroValue9
 t20 := Tryz.underlying20
 a20 := Tryz.isAgg20
 z20 := Tryz.sizeOf20
 v20 := Tryz.zeroValue20
 t37 := Tryz.underlying133
 a37 := Tryz.isAgg133
 z37 := Tryz.sizeOf133
 v37 := Tryz.zeroValue133
 t46 := Tryz.underlying160
 a46 := Tryz.isAgg160
 z46 := Tryz.sizeOf160
 v46 := Tryz.zeroValue160
 t51 := Tryz.underlying219
 a51 := Tryz.isAgg219
 z51 := Tryz.sizeOf219
 v51 := Tryz.zeroValue219
 t53 := Tryz.underlying221
 a53 := Tryz.isAgg221
 z53 := Tryz.sizeOf221
 v53 := Tryz.zeroValue221
 t171 := Tryz.underlying274
 a171 := Tryz.isAgg274
 z171 := Tryz.sizeOf274
 v171 := Tryz.zeroValue274
 t173 := Tryz.underlying276
 a173 := Tryz.isAgg276
 z173 := Tryz.sizeOf276
 v173 := Tryz.zeroValue276
 t212 := Tryz.underlying279
 a212 := Tryz.isAgg279
 z212 := Tryz.sizeOf279
 v212 := Tryz.zeroValue279
 t213 := Tryz.underlying280
 a213 := Tryz.isAgg280
 z213 := Tryz.sizeOf280
 t232 := Tryz.underlying281
 a232 := Tryz.isAgg281
 z232 := Tryz.sizeOf281
 v232 := Tryz.zeroValue281
 t233 := Tryz.underlying282
 a233 := Tryz.isAgg282
 z233 := Tryz.sizeOf282
 v233 := Tryz.zeroValue282
 g17 := by kernel_rfl
 g18 := by kernel_rfl
 g19 := by kernel_rfl
 i0 := by kernel_rfl
 i2 := by kernel_rfl
 i3 := by kernel_rfl
 i4 := by kernel_rfl
 i5 := by kernel_rfl
 i9 := by kernel_rfl
 i20 := by kernel_rfl
 i37 := by kernel_rfl
 i46 := by kernel_rfl
 i51 := by kernel_rfl
 i53 := by kernel_rfl
 i171 := by kernel_rfl
 i173 := by kernel_rfl
 i212 := by kernel_rfl
 i232 := by kernel_rfl
 i233 := by kernel_rfl
 m17 := by kernel_rfl
 m18 := by kernel_rfl
 m19 := by kernel_rfl }
open Go.RowKit Go.Sort Go.Lib in
theorem Tryz.strconv_Itoa (n : Int) (h0 : -9223372036854775808 <= n) (h1 : n <= 9223372036854775807) (w : World) (htab : Lib.TabIs Tryz.prog w "internal/strconv.uint64pow10" .u64 Lib.pow10Tab) :
  Calls Tryz.prog 203 #[.int .i64 n] w fun e w' => e = .returned (.string ⟨(Lib.itoa n).toArray⟩) /\ ∃ k os, w' = grow (w.drewN k) os := Any.strconv_Itoa Tryz.laysM171 n h0 h1 w htab
def Tryz.laysC172_ren : Go.Shelf.Ren := ⟨fun | 172 => 155 | 244 => 172 | 245 => 173 | 247 => 188 | 279 => 189 | 280 => 190 | 281 => 191 | 282 => 192 | 287 => 200 | 316 => 201 | 171 => 203 | 205 => 202 | 321 => 205 | 322 => 206 | 243 => 207 | 246 => 208 | 283 => 209 | 284 => 210 | 285 => 211 | 286 => 212 | 129 => 169 | 317 => 213 | 318 => 214 | 319 => 215 | 320 => 216 | 337 => 217 | 338 => 218 | n => n, fun | 9 => 9 | 3 => 3 | 75 => 198 | 76 => 199 | 4 => 4 | 5 => 5 | 167 => 236 | 37 => 133 | 0 => 0 | 85 => 237 | 2 => 2 | 168 => 239 | 53 => 221 | 175 => 258 | 46 => 160 | 210 => 262 | 127 => 227 | 145 => 268 | 143 => 266 | 21 => 21 | 171 => 274 | 173 => 276 | 212 => 279 | 51 => 219 | 20 => 20 | 213 => 280 | 232 => 281 | 233 => 282 | 80 => 209 | n => n, fun | 15 => 1 | 16 => 2 | 17 => 5 | 18 => 6 | 19 => 7 | n => n⟩
theorem Tryz.laysC172 : Go.Proofs.LaysC.n172 Tryz.prog Tryz.laysC172_ren := {
 mixed := by kernel_rfl
 f129 := Tryz.func169.trans (congrArg some (by kernel_rfl))
 f171 := Tryz.func203.trans (congrArg some (by kernel_rfl))
 f172 := Tryz.func155.trans (congrArg some (by kernel_rfl))
 f205 := Tryz.func202.trans (congrArg some (by kernel_rfl))
 f243 := Tryz.func207.trans (congrArg some (by kernel_rfl))
 f244 := Tryz.func172.trans (congrArg some (by kernel_rfl))
 f245 := Tryz.func173.trans (congrArg some (by kernel_rfl))
 f246 := Tryz.func208.trans (congrArg some (by kernel_rfl))
 f247 := Tryz.func188.trans (congrArg some (by kernel_rfl))
 f279 := Tryz.func189.trans (congrArg some (by kernel_rfl))
 f280 := Tryz.func190.trans (congrArg some (by kernel_rfl))
 f281 := Tryz.func191.trans (congrArg some (by kernel_rfl))
 f282 := Tryz.func192.trans (congrArg some (by kernel_rfl))
 f283 := Tryz.func209.trans (congrArg some (by kernel_rfl))
 f284 := Tryz.func210.trans (congrArg some (by kernel_rfl))
 f285 := Tryz.func211.trans (congrArg some (by kernel_rfl))
 f286 := Tryz.func212.trans (congrArg some (by kernel_rfl))
 f287 := Tryz.func200.trans (congrArg some (by kernel_rfl))
 f316 := Tryz.func201.trans (congrArg some (by kernel_rfl))
 f317 := Tryz.func213.trans (congrArg some (by kernel_rfl))
 f318 := Tryz.func214.trans (congrArg some (by kernel_rfl))
 f319 := Tryz.func215.trans (congrArg some (by kernel_rfl))
 f320 := Tryz.func216.trans (congrArg some (by kernel_rfl))
 f321 := Tryz.func205.trans (congrArg some (by kernel_rfl))
 f322 := Tryz.func206.trans (congrArg some (by kernel_rfl))
 f337 := Tryz.func217.trans (congrArg some (by kernel_rfl))
 f338 := Tryz.func218.trans (congrArg some (by kernel_rfl))
 t0 := Tryz.underlying0
 a0 := Tryz.isAgg0
 z0 := Tryz.sizeOf0
 v0 := Tryz.zeroValue0
 t2 := Tryz.underlying2
 a2 := Tryz.isAgg2
 z2 := Tryz.sizeOf2
 v2 := Tryz.zeroValue2
 t3 := Tryz.underlying3
 a3 := Tryz.isAgg3
 z3 := Tryz.sizeOf3
 v3 := Tryz.zeroValue3
 t4 := Tryz.underlying4
 a4 := Tryz.isAgg4
 z4 := Tryz.sizeOf4
 v4 := Tryz.zeroValue4
 t5 := Tryz.underlying5
 a5 := Tryz.isAgg5
 z5 := Tryz.sizeOf5
 v5 := Tryz.zeroValue5
 t9 := Tryz.underlying9
 a9 := Tryz.isAgg9
 z9 := Tryz.sizeOf9
 v9 := Tryz.zeroValue9
 t20 := Tryz.underlying20
 a20 := Tryz.isAgg20
 z20 := Tryz.sizeOf20
 v20 := Tryz.zeroValue20
 t21 := Tryz.underlying21
 a21 := Tryz.isAgg21
 z21 := Tryz.sizeOf21
 v21 := Tryz.zeroValue21
 t37 := Tryz.underlying133
 a37 := Tryz.isAgg133
 z37 := Tryz.sizeOf133
 v37 := Tryz.zeroValue133
 t46 := Tryz.underlying160
 a46 := Tryz.isAgg160
 z46 := Tryz.sizeOf160
 v46 := Tryz.zeroValue160
 t51 := Tryz.underlying219
 a51 := Tryz.isAgg219
 z51 := Tryz.sizeOf219
 v51 := Tryz.zeroValue219
 t53 := Tryz.underlying221
 a53 := Tryz.isAgg221
 z53 := Tryz.sizeOf221
 v53 := Tryz.zeroValue221
 t75 := Tryz.underlying198
 a75 := Tryz.isAgg198
 z75 := Tryz.sizeOf198
 v75 := Tryz.zeroValue198
 t76 := Tryz.underlying199
 a76 := Tryz.isAgg199
 z76 := Tryz.sizeOf199
 v76 := Tryz.zeroValue199
 t85 := Tryz.underlying237
 a85 := Tryz.isAgg237
 z85 := Tryz.sizeOf237
 v85 := Tryz.zeroValue237
 t127 := Tryz.underlying227
 a127 := Tryz.isAgg227
 z127 := Tryz.sizeOf227
 v127 := Tryz.zeroValue227
 t143 := Tryz.underlying266
 a143 := Tryz.isAgg266
 z143 := Tryz.sizeOf266
 v143 := Tryz.zeroValue266
 t145 := Tryz.underlying268
 a145 := Tryz.isAgg268
 z145 := Tryz.sizeOf268
 v145 := Tryz.zeroValue268
 t167 := Tryz.underlying236
 a167 := Tryz.isAgg236
 z167 := Tryz.sizeOf236
 v167 := Tryz.zeroValue236
 t168 := Tryz.underlying239
 a168 := Tryz.isAgg239
 z168 := Tryz.sizeOf239
 v168 := Tryz.zeroValue239
 t171 := Tryz.underlying274
 a171 := Tryz.isAgg274
 z171 := Tryz.sizeOf274
 v171 := Tryz.zeroValue274
 t173 := Tryz.underlying276
 a173 := Tryz.isAgg276
 z173 := Tryz.sizeOf276
 v173 := Tryz.zeroValue276
 t175 := Tryz.underlying258
 a175 := Tryz.isAgg258
 z175 := Tryz.sizeOf258
 v175 := Tryz.zeroValue258
 t210 := Tryz.underlying262
 a210 := Tryz.isAgg262
 z210 := Tryz.sizeOf262
 v210 := Tryz.zeroValue262
 t212 := Tryz.underlying279
 a212 := Tryz.isAgg279
 z212 := Tryz.sizeOf279
 v212 := Tryz.zeroValue279
 t213 := Tryz.underlying280
 a213 := Tryz.isAgg280
 z213 := Tryz.sizeOf280
 t232 := Tryz.underlying281
 a232 := Tryz.isAgg281
 z232 := Tryz.sizeOf281
 v232 := Tryz.zeroValue281
 t233 := Tryz.underlying282
 a233 := Tryz.isAgg282
 z233 := Tryz.sizeOf282
 v233 := Tryz.zeroValue282
 g15 := by kernel_rfl
 g16 := by kernel_rfl
 g17 := by kernel_rfl
 g18 := by kernel_rfl
 g19 := by kernel_rfl
 t80 := Tryz.underlying209
 a80 := Tryz.isAgg209
 z80 := Tryz.sizeOf209
 v80 := Tryz.zeroValue209
 i0 := by kernel_rfl
 i2 := by kernel_rfl
 i3 := by kernel_rfl
 i4 := by kernel_rfl
 i5 := by kernel_rfl
 i9 := by kernel_rfl
 i20 := by kernel_rfl
 i21 := by kernel_rfl
 i37 := by kernel_rfl
 i46 := by kernel_rfl
 i51 := by kernel_rfl
 i53 := by kernel_rfl
 i75 := by kernel_rfl
 i76 := by kernel_rfl
 i80 := by kernel_rfl
 i85 := by kernel_rfl
 i127 := by kernel_rfl
 i143 := by kernel_rfl
 i145 := by kernel_rfl
 i167 := by kernel_rfl
 i168 := by kernel_rfl
 i171 := by kernel_rfl
 i173 := by kernel_rfl
 i175 := by kernel_rfl
 i210 := by kernel_rfl
 i212 := by kernel_rfl
 i232 := by kernel_rfl
 i233 := by kernel_rfl
 m15 := by kernel_rfl
 m16 := by kernel_rfl
 m17 := by kernel_rfl
 m18 := by kernel_rfl
 m19 := by kernel_rfl
 c0 := by kernel_rfl
 c2 := by kernel_rfl
 c3 := by kernel_rfl
 c4 := by kernel_rfl
 c5 := by kernel_rfl
 c9 := by kernel_rfl
 c20 := by kernel_rfl
 c21 := by kernel_rfl
 c37 := by kernel_rfl
 c46 := by kernel_rfl
 c51 := by kernel_rfl
 c53 := by kernel_rfl
 c75 := by kernel_rfl
 c76 := by kernel_rfl
 c80 := by kernel_rfl
 c85 := by kernel_rfl
 c127 := by kernel_rfl
 c143 := by kernel_rfl
 c145 := by kernel_rfl
 c167 := by kernel_rfl
 c168 := by kernel_rfl
 c171 := by kernel_rfl
 c173 := by kernel_rfl
 c175 := by kernel_rfl
 c210 := by kernel_rfl
 c212 := by kernel_rfl
 c213 := by kernel_rfl
 c232 := by kernel_rfl
 c233 := by kernel_rfl }
open Go.RowKit in
theorem Tryz.strconv_Atoi_ok (s : ByteArray) (hmax : s.size <= 9223372036854775806) (v : Int) (h : Lib.atoiAll s.data.toList = .ok v) (w : World) :
  Calls Tryz.prog 155 #[.string s] w fun e w' => e = .returned (.tuple #[.int .i64 v, .nilIface]) /\ (w' = w ∨ ∃ t, w' = Lib.bytesWorld w 5 t) := Any.strconv_Atoi_ok Tryz.laysC172 s hmax v h w
open Go.RowKit in
theorem Tryz.strconv_Atoi_range (s : ByteArray) (hlim : s.size <= 281474976710656) (h : Lib.atoiAll s.data.toList = .range) (ev : Value) (w : World) (hv : w.cell? ⟨2, 0, none⟩ = some ev) (hev : ev = .nilIface ∨ ∃ te pe, ev = .iface te pe) :
  Calls Tryz.prog 155 #[.string s] w fun e w' => ∃ N, e = .returned (.tuple #[.int .i64 (Lib.atoiSat s.data.toList), .iface 239 (.pointer (some ⟨N, 0, none⟩))]) /\ w.heap.size <= N /\ w'.heap[N]? = some (.cells #[.string ⟨#[65, 116, 111, 105]⟩, .string s, ev] 262 (0, 0)) /\ Below w.heap.size w w' := Any.strconv_Atoi_range Tryz.laysC172 s hlim h ev w hv hev
def Tryz.lays217_ren : Go.Shelf.Ren := ⟨fun | 217 => 181 | 266 => 195 | n => n, fun | 9 => 9 | 5 => 5 | 3 => 3 | n => n, fun | n => n⟩
theorem Tryz.lays217 : Go.Proofs.Lays.n217 Tryz.prog Tryz.lays217_ren := {
 mixed := by kernel_rfl
 f217 := Tryz.func181.trans (congrArg some (by kernel_rfl))
 f266 := Tryz.func195.trans (congrArg some (by kernel_rfl))
 t3 := Tryz.underlying3
 a3 := Tryz.isAgg3
 z3 := Tryz.sizeOf3
 v3 := Tryz.zeroValue3
 t5 := Tryz.underlying5
 a5 := Tryz.isAgg5
 z5 := Tryz.sizeOf5
 v5 := Tryz.zeroValue5
 t9 := Tryz.underlying9
 a9 := Tryz.isAgg9
 z9 := Tryz.sizeOf9
 v9 := Tryz.zeroValue9 }
open Go.RowKit Go.Lib in
theorem Tryz.stringslite_IndexByte (s : ByteArray) (c : Int) (w : World) :
  Calls Tryz.prog 181 #[.string s, .int .u8 c] w fun e w' => e = .returned (.int .i64 (Lib.indexByte s.data.toList c.toNat.toUInt8)) /\ w' = w := Any.stringslite_IndexByte Tryz.lays217 s c w
def Tryz.lays189_ren : Go.Shelf.Ren := ⟨fun | 189 => 114 | 125 => 144 | 257 => 143 | 128 => 168 | 129 => 169 | 294 => 159 | 295 => 160 | 296 => 161 | 297 => 162 | 298 => 163 | 299 => 164 | 216 => 165 | 300 => 166 | 301 => 167 | 328 => 176 | 329 => 177 | 330 => 178 | 331 => 179 | 332 => 180 | 215 => 109 | 343 => 194 | n => n, fun | 28 => 47 | 3 => 3 | 46 => 160 | 0 => 0 | 51 => 219 | 53 => 221 | 4 => 4 | 183 => 212 | 182 => 211 | 131 => 69 | 5 => 5 | 9 => 9 | 218 => 228 | 222 => 232 | 228 => 250 | 229 => 251 | n => n, fun | n => n⟩
theorem Tryz.lays189 : Go.Proofs.Lays.n189 Tryz.prog Tryz.lays189_ren := {
 mixed := by kernel_rfl
 f125 := Tryz.func144.trans (congrArg some (by kernel_rfl))
 f128 := Tryz.func168.trans (congrArg some (by kernel_rfl))
 f129 := Tryz.func169.trans (congrArg some (by kernel_rfl))
 f189 := Tryz.func114.trans (congrArg some (by kernel_rfl))
 f215 := Tryz.func109.trans (congrArg some (by kernel_rfl))
 f216 := Tryz.func165.trans (congrArg some (by kernel_rfl))
 f257 := Tryz.func143.trans (congrArg some (by kernel_rfl))
 f294 := Tryz.func159.trans (congrArg some (by kernel_rfl))
 f295 := Tryz.func160.trans (congrArg some (by kernel_rfl))
 f296 := Tryz.func161.trans (congrArg some (by kernel_rfl))
 f297 := Tryz.func162.trans (congrArg some (by kernel_rfl))
 f298 := Tryz.func163.trans (congrArg some (by kernel_rfl))
 f299 := Tryz.func164.trans (congrArg some (by kernel_rfl))
 f300 := Tryz.func166.trans (congrArg some (by kernel_rfl))
 f301 := Tryz.func167.trans (congrArg some (by kernel_rfl))
 f328 := Tryz.func176.trans (congrArg some (by kernel_rfl))
 f329 := Tryz.func177.trans (congrArg some (by kernel_rfl))
 f330 := Tryz.func178.trans (congrArg some (by kernel_rfl))
 f331 := Tryz.func179.trans (congrArg some (by kernel_rfl))
 f332 := Tryz.func180.trans (congrArg some (by kernel_rfl))
 f343 := Tryz.func194.trans (congrArg some (by kernel_rfl))
 t0 := Tryz.underlying0
 a0 := Tryz.isAgg0
 z0 := Tryz.sizeOf0
 v0 := Tryz.zeroValue0
 t3 := Tryz.underlying3
 a3 := Tryz.isAgg3
 z3 := Tryz.sizeOf3
 v3 := Tryz.zeroValue3
 t4 := Tryz.underlying4
 a4 := Tryz.isAgg4
 z4 := Tryz.sizeOf4
 v4 := Tryz.zeroValue4
 t5 := Tryz.underlying5
 a5 := Tryz.isAgg5
 z5 := Tryz.sizeOf5
 v5 := Tryz.zeroValue5
 t9 := Tryz.underlying9
 a9 := Tryz.isAgg9
 z9 := Tryz.sizeOf9
 v9 := Tryz.zeroValue9
 t28 := Tryz.underlying47
 a28 := Tryz.isAgg47
 z28 := Tryz.sizeOf47
 v28 := Tryz.zeroValue47
 t46 := Tryz.underlying160
 a46 := Tryz.isAgg160
 z46 := Tryz.sizeOf160
 v46 := Tryz.zeroValue160
 t51 := Tryz.underlying219
 a51 := Tryz.isAgg219
 z51 := Tryz.sizeOf219
 v51 := Tryz.zeroValue219
 t53 := Tryz.underlying221
 a53 := Tryz.isAgg221
 z53 := Tryz.sizeOf221
 v53 := Tryz.zeroValue221
 t131 := Tryz.underlying69
 a131 := Tryz.isAgg69
 z131 := Tryz.sizeOf69
 v131 := Tryz.zeroValue69
 t182 := Tryz.underlying211
 a182 := Tryz.isAgg211
 z182 := Tryz.sizeOf211
 v182 := Tryz.zeroValue211
 t183 := Tryz.underlying212
 a183 := Tryz.isAgg212
 z183 := Tryz.sizeOf212
 v183 := Tryz.zeroValue212
 t218 := Tryz.underlying228
 a218 := Tryz.isAgg228
 z218 := Tryz.sizeOf228
 v218 := Tryz.zeroValue228
 t222 := Tryz.underlying232
 a222 := Tryz.isAgg232
 z222 := Tryz.sizeOf232
 v222 := Tryz.zeroValue232
 t228 := Tryz.underlying250
 a228 := Tryz.isAgg250
 z228 := Tryz.sizeOf250
 v228 := Tryz.zeroValue250
 t229 := Tryz.underlying251
 a229 := Tryz.isAgg251
 z229 := Tryz.sizeOf251
 v229 := Tryz.zeroValue251 }
open Go.Sort Go.RowKit in
theorem Tryz.slices_Sort_int (blk off cap : Nat) (zs : List Int) (w : World) (hH : Holds (Value.int .i64) w blk off zs.toArray) (hblk : blk < w.heap.size) (hsz : zs.length < 4611686018427387904) :
  Calls Tryz.prog 114 #[.slice (some ⟨blk, off, none⟩) zs.length cap] w fun e w' =>
   e = .returned (.tuple #[]) /\ ∃ n os, w' = grow (putRow (Value.int .i64) (Sort.ahead w n) blk off (zs.mergeSort fun x y => decide (x <= y)).toArray) os := Any.slices_Sort_int Tryz.lays189 blk off cap zs w hH hblk hsz
def Tryz.lays146_ren : Go.Shelf.Ren := ⟨fun | 146 => 153 | 221 => 171 | 268 => 185 | 138 => 186 | 143 => 187 | 195 => 197 | 197 => 198 | 218 => 199 | 219 => 170 | 260 => 204 | 217 => 181 | 225 => 182 | 224 => 183 | 267 => 184 | 266 => 195 | 314 => 196 | n => n, fun | 9 => 9 | 31 => 171 | 3 => 3 | 4 => 4 | 0 => 0 | 105 => 256 | 21 => 21 | 5 => 5 | 46 => 160 | 119 => 269 | 139 => 272 | 138 => 271 | 146 => 253 | 51 => 219 | n => n, fun | 1 => 0 | 3 => 3 | 4 => 4 | n => n⟩
theorem Tryz.lays146 : Go.Proofs.Lays.n146 Tryz.prog Tryz.lays146_ren := {
 mixed := by kernel_rfl
 f138 := Tryz.func186.trans (congrArg some (by kernel_rfl))
 f143 := Tryz.func187.trans (congrArg some (by kernel_rfl))
 f146 := Tryz.func153.trans (congrArg some (by kernel_rfl))
 f195 := Tryz.func197.trans (congrArg some (by kernel_rfl))
 f197 := Tryz.func198.trans (congrArg some (by kernel_rfl))
 f217 := Tryz.func181.trans (congrArg some (by kernel_rfl))
 f218 := Tryz.func199.trans (congrArg some (by kernel_rfl))
 f219 := Tryz.func170.trans (congrArg some (by kernel_rfl))
 f221 := Tryz.func171.trans (congrArg some (by kernel_rfl))
 f224 := Tryz.func183.trans (congrArg some (by kernel_rfl))
 f225 := Tryz.func182.trans (congrArg some (by kernel_rfl))
 f260 := Tryz.func204.trans (congrArg some (by kernel_rfl))
 f266 := Tryz.func195.trans (congrArg some (by kernel_rfl))
 f267 := Tryz.func184.trans (congrArg some (by kernel_rfl))
 f268 := Tryz.func185.trans (congrArg some (by kernel_rfl))
 f314 := Tryz.func196.trans (congrArg some (by kernel_rfl))
 t0 := Tryz.underlying0
 a0 := Tryz.isAgg0
 z0 := Tryz.sizeOf0
 v0 := Tryz.zeroValue0
 t3 := Tryz.underlying3
 a3 := Tryz.isAgg3
 z3 := Tryz.sizeOf3
 v3 := Tryz.zeroValue3
 t4 := Tryz.underlying4
 a4 := Tryz.isAgg4
 z4 := Tryz.sizeOf4
 v4 := Tryz.zeroValue4
 t5 := Tryz.underlying5
 a5 := Tryz.isAgg5
 z5 := Tryz.sizeOf5
 v5 := Tryz.zeroValue5
 t9 := Tryz.underlying9
 a9 := Tryz.isAgg9
 z9 := Tryz.sizeOf9
 v9 := Tryz.zeroValue9
 t21 := Tryz.underlying21
 a21 := Tryz.isAgg21
 z21 := Tryz.sizeOf21
 v21 := Tryz.zeroValue21
 t31 := Tryz.underlying171
 a31 := Tryz.isAgg171
 z31 := Tryz.sizeOf171
 v31 := Tryz.zeroValue171
 t46 := Tryz.underlying160
 a46 := Tryz.isAgg160
 z46 := Tryz.sizeOf160
 v46 := Tryz.zeroValue160
 t51 := Tryz.underlying219
 a51 := Tryz.isAgg219
 z51 := Tryz.sizeOf219
 v51 := Tryz.zeroValue219
 t105 := Tryz.underlying256
 a105 := Tryz.isAgg256
 z105 := Tryz.sizeOf256
 v105 := Tryz.zeroValue256
 t119 := Tryz.underlying269
 a119 := Tryz.isAgg269
 z119 := Tryz.sizeOf269
 t138 := Tryz.underlying271
 a138 := Tryz.isAgg271
 z138 := Tryz.sizeOf271
 v138 := Tryz.zeroValue271
 t139 := Tryz.underlying272
 a139 := Tryz.isAgg272
 z139 := Tryz.sizeOf272
 v139 := Tryz.zeroValue272
 t146 := Tryz.underlying253
 a146 := Tryz.isAgg253
 z146 := Tryz.sizeOf253
 v146 := Tryz.zeroValue253
 g1 := by kernel_rfl
 g3 := by kernel_rfl
 g4 := by kernel_rfl }
open Go.RowKit Go.Lib in
theorem Tryz.strings_Split (s sep : ByteArray) (m : Int) (w : World) (hs : s.size < 4294967281) (hm : w.cell? ⟨0, 0, none⟩ = some (.int .i64 m)) (h1 : 1 <= sep.size) :
  Calls Tryz.prog 153 #[.string s, .string sep] w fun e w' =>
   e = .returned (.slice (some ⟨w.heap.size, 0, none⟩) (Lib.countB s sep + 1) (Lib.countB s sep + 1)) /\ w' = w.alloc (.cells ((Lib.splitB sep 0 (Lib.countB s sep) s).map Value.string).toArray 9) := Any.strings_Split Tryz.lays146 (by kernel_rfl) s sep m w hs hm h1
def Tryz.laysNm220_ren : Go.Shelf.Ren := ⟨fun | 20 => 115 | n => n, fun | 22 => 47 | 3 => 3 | 4 => 4 | 0 => 0 | n => n, fun | n => n⟩
theorem Tryz.laysNm220 : Go.Proofs.Lays2.n20 Tryz.prog Tryz.laysNm220_ren := {
 mixed := by kernel_rfl
 f20 := Tryz.func115.trans (congrArg some (by kernel_rfl))
 t0 := Tryz.underlying0
 a0 := Tryz.isAgg0
 z0 := Tryz.sizeOf0
 v0 := Tryz.zeroValue0
 t3 := Tryz.underlying3
 a3 := Tryz.isAgg3
 z3 := Tryz.sizeOf3
 v3 := Tryz.zeroValue3
 t4 := Tryz.underlying4
 a4 := Tryz.isAgg4
 z4 := Tryz.sizeOf4
 v4 := Tryz.zeroValue4
 t22 := Tryz.underlying47
 a22 := Tryz.isAgg47
 z22 := Tryz.sizeOf47
 v22 := Tryz.zeroValue47
 i3 := by kernel_rfl }
open Go.RowKit Go.Lib Go.Sort in
theorem Tryz.slices_Compact_int (blk off cap : Nat) (zs : List Int) (w : World) (hH : Holds (Value.int .i64) w blk off zs.toArray) (hsz : zs.length <= 9223372036854775807) (hcap : zs.length <= cap) :
  Calls Tryz.prog 115 #[.slice (some ⟨blk, off, none⟩) zs.length cap] w fun e w' => e = .returned (.slice (some ⟨blk, off, none⟩) (Lib.compact zs).length cap) /\ ∃ q, w' = putRow (Value.int .i64) (Sort.ahead w q) blk off (Lib.compact zs ++ List.replicate (zs.length - (Lib.compact zs).length) 0).toArray := Any.slices_Compact_int Tryz.laysNm220 blk off cap zs w hH hsz hcap
end Go.Proofs
end

section
namespace Go.Tk
open Go
theorem Pst.grown {h : H} {w : World} (s : Sat h w) (k : Nat) (os : Array Obj) : Pst h w h (Sort.grow (w.drewN k) os) := by
 have hp : ∀ i, i < w.heap.size -> (w.heap ++ os)[i]? = w.heap[i]? := fun i hi => by rw [Array.getElem?_append, if_pos hi]
 refine ⟨fun i o hi => ?_, rfl, rfl, rfl, ?_, fun i hi _ => hp i hi, fun i hi => .inl hi⟩
 ·have := s i o hi
  show (w.heap ++ os)[i]? = some o
  rw [hp i (Array.getElem?_eq_some_iff.1 this).1]; exact this
 ·show w.heap.size <= (w.heap ++ os).size
  simp
theorem Pst.ofBelow {h : H} {w w' : World} (s : Sat h w) (b : RowKit.Below w.heap.size w w') : Pst h w h w' :=
 ⟨fun i o hi => (b.block i (s.lt (by rw [hi]; simp))).trans (s i o hi), b.os, b.tape, b.output, b.size, fun i hi _ => b.block i hi, fun i hi => .inl hi⟩
theorem decN_lib (n : Nat) : Lib.decDigits n = decN n := by
 induction n using Nat.strongRecOn with
 | _ n ih =>
  by_cases c : n < 10
  ·rw [Lib.decDigits, dif_pos c, decN_small c]
  ·rw [Lib.decDigits, dif_neg c, decN_big c, ih (n / 10) (by omega)]
theorem decI_lib (n : Int) : Lib.itoa n = decI n := by
 unfold Lib.itoa decI
 split
 ·rw [decN_lib, show n.natAbs = (-n).toNat by omega]
 ·rw [decN_lib]
theorem parse_ok : ∀ (l : List UInt8) (acc : Nat), (∀ b ∈ l, digP b) -> acc < 10 ^ 5 -> l.length <= 5 -> Lib.parseUint10 acc l = .ok (l.foldl (fun a b => a * 10 + (b.toNat - 48)) acc) := by
 have key : ∀ (k : Nat) (l : List UInt8) (acc : Nat), (∀ b ∈ l, digP b) -> acc < 10 ^ k -> l.length + k <= 10 -> Lib.parseUint10 acc l = .ok (l.foldl (fun a b => a * 10 + (b.toNat - 48)) acc) := by
  intro k l
  induction l generalizing k with
  | nil => intro acc _ _ _; rfl
  | cons c r ih =>
   intro acc hd ha hl
   have hc := hd c List.mem_cons_self
   unfold digP at hc
   rw [List.length_cons] at hl
   have hk : 10 ^ k <= 10 ^ 9 := Nat.pow_le_pow_right (by decide) (by omega)
   have e9 : (10 : Nat) ^ 9 = 1000000000 := by decide
   rw [Lib.parseUint10, if_pos hc, if_neg (by omega), if_neg (by omega), List.foldl_cons]
   exact ih (k + 1) _ (fun b hb => hd b (List.mem_cons_of_mem _ hb)) (by rw [Nat.pow_succ]; omega) (by omega)
 exact fun l acc h1 h2 h3 => key 5 l acc h1 h2 (by omega)
theorem atoi_num {s : List UInt8} {m : Nat} (h : numS s = some m) : Lib.atoiAll s = .ok (m : Int) := by
 have hd := numS_dig h
 obtain ⟨e, hm⟩ := numS_some h
 have hl : s.length <= 5 := by rw [e]; exact (decN_len5 m).2 hm
 have hv : valN s = m := by rw [e, valN_dec]
 cases s with
 | nil => exact absurd (congrArg List.length e) (by have := decN_pos m; simp; omega)
 | cons c r =>
  have hc := hd c List.mem_cons_self
  unfold digP at hc
  have h1 : ¬ c.toNat = 43 := by omega
  have h2 : ¬ c.toNat = 45 := by omega
  have hp := parse_ok (c :: r) 0 hd (by decide) hl
  have hv' : (c :: r).foldl (fun a b => a * 10 + (b.toNat - 48)) 0 = m := hv
  rw [hv'] at hp
  simp only [Lib.atoiAll, h1, h2, or_self, if_false, Lib.parseMag, List.isEmpty_cons, Bool.false_eq_true, hp, not_false_eq_true, true_and, false_and]
  show (if 9223372036854775808 <= m then Lib.NumEnd.range else Lib.NumEnd.ok (m : Int)) = _
  rw [if_neg (show ¬ 9223372036854775808 <= m by omega)]
theorem atoi_dec {z : Int} (h : -99999 <= z /\ z <= 99999) : Lib.atoiAll (decI z) = .ok z := by
 by_cases hn : z < 0
 ·have e : decI z = 45 :: decN (-z).toNat := by unfold decI; rw [if_pos hn]
  have hm : (-z).toNat <= 99999 := by omega
  have hp := parse_ok (decN (-z).toNat) 0 (decN_dig _) (by decide) ((decN_len5 _).2 hm)
  have hv : (decN (-z).toNat).foldl (fun a b => a * 10 + (b.toNat - 48)) 0 = (-z).toNat := valN_dec _
  rw [hv] at hp
  have hne : decN (-z).toNat ≠ [] := fun x => by have := decN_pos (-z).toNat; rw [x] at this; simp at this
  have h45 : (45 : UInt8).toNat = 45 := rfl
  rw [e]
  simp only [Lib.atoiAll, h45, or_true, if_true, Lib.parseMag, if_neg hne, hp, not_true_eq_false, false_and, if_false, true_and]
  rw [if_neg (by omega)]
  congr 1
  omega
 ·have := atoi_num (numS_dec (n := z.toNat) (by omega))
  have e : decI z = decN z.toNat := by unfold decI; rw [if_neg hn]
  rw [e, this]
  congr 1
  omega
end Go.Tk
namespace Go.Proofs.YtgbapakcfmgahaaGreatDoor
open Go Go.Tk Go.RowKit
structure Gl (h : H) : Prop where
 tab : ∃ ty, hget h 5 = some (blk (Lib.pow10Tab.map fun z => Value.int .u64 z) ty)
 syn : ∃ ev ty, hget h 1 = some (blk [ev] ty) /\ (ev = .nilIface ∨ ∃ te pe, ev = .iface te pe)
 rng : ∃ ev ty, hget h 2 = some (blk [ev] ty) /\ (ev = .nilIface ∨ ∃ te pe, ev = .iface te pe)
theorem Gl.sub {g h : H} (k : Gl g) (s : Tk.Sub g h) : Gl h := by
 obtain ⟨⟨t, h1⟩, ⟨a, b, h2, h3⟩, ⟨c, d, h4, h5⟩⟩ := k
 exact ⟨⟨t, s _ _ h1⟩, ⟨a, b, s _ _ h2, h3⟩, ⟨c, d, s _ _ h4, h5⟩⟩
theorem glPow : Tryz.prog.globalNamed "internal/strconv.uint64pow10" = some 5 := by kernel_rfl
theorem Gl.tabIs {h : H} {w : World} (k : Gl h) (s : Sat h w) : Lib.TabIs Tryz.prog w "internal/strconv.uint64pow10" .u64 Lib.pow10Tab := by
 obtain ⟨t, h1⟩ := k.tab
 have := s _ _ h1
 unfold Lib.TabIs World.var?
 rw [glPow]
 simp only [Option.bind_some, this, blk]
theorem itoa_c {h : H} {n : Int} (g : Gl h) (h0 : -9223372036854775808 <= n /\ n <= 9223372036854775807) {R : Ending -> H -> Prop} (k : R (.returned (.string ⟨(decI n).toArray⟩)) h) :
  HCalls Tryz.prog 203 #[.int .i64 n] h R := by
 refine .of_calls fun w s => ?_
 refine (Tryz.strconv_Itoa n h0.1 h0.2 w (g.tabIs s)).mono ?_
 rintro e w' ⟨rfl, j, os, rfl⟩
 rw [decI_lib]
 exact ⟨h, k, .grown s j os⟩
theorem atoiL_c {h : H} {t : List UInt8} (g : Gl h) (ht : t.length <= 4194304) {R : Ending -> H -> Prop}
  (k : ∀ n e, (∀ m : Int, Lib.atoiAll t = .ok m -> n = m /\ e = .nilIface) -> (-9223372036854775808 <= n /\ n <= 9223372036854775807) -> (e = .nilIface ∨ ∃ y p, e = .iface y p) -> R (.returned (.tuple #[.int .i64 n, e])) h) :
  HCalls Tryz.prog 155 #[.string ⟨t.toArray⟩] h R := by
 refine .of_calls fun w s => ?_
 have hsz : (⟨t.toArray⟩ : ByteArray).size = t.length := rfl
 have hdt : (⟨t.toArray⟩ : ByteArray).data.toList = t := rfl
 obtain ⟨-, ⟨e1, t1, g1, i1⟩, ⟨e2, t2, g2, i2⟩⟩ := g
 have c1 : w.cell? ⟨1, 0, none⟩ = some e1 := by rw [Lib.cell_of_heap (s _ _ g1)]; rfl
 have c2 : w.cell? ⟨2, 0, none⟩ = some e2 := by rw [Lib.cell_of_heap (s _ _ g2)]; rfl
 cases hv : Lib.atoiAll t with
 | ok v =>
  refine (Tryz.strconv_Atoi_ok ⟨t.toArray⟩ (by rw [hsz]; omega) v hv w).mono ?_
  rintro e w' ⟨rfl, hw⟩
  have hb : -9223372036854775808 <= v /\ v <= 9223372036854775807 := by
   revert hv
   unfold Lib.atoiAll
   split
   ·intro hv; cases hv
   ·intro hv
    simp only at hv
    split at hv
    ·cases hv
    ·cases hv
    ·split at hv
     ·cases hv
     ·split at hv
      ·cases hv
      ·rename_i c1 c2
       have := Lib.NumEnd.ok.inj hv
       subst this
       split <;> omega
  refine ⟨h, k v _ (fun m hm => ?_) hb (.inl rfl), ?_⟩
  ·rw [hv] at hm
   exact ⟨Lib.NumEnd.ok.inj hm, rfl⟩
  ·rcases hw with rfl | ⟨t', rfl⟩
   ·exact .refl s
   ·exact .ofBelow s (Lib.bytesWorld_below _ _ _)
 | range =>
  refine (Tryz.strconv_Atoi_range ⟨t.toArray⟩ (by rw [hsz]; omega) hv e2 w c2 i2).mono ?_
  rintro e w' ⟨N, rfl, -, -, hb⟩
  refine ⟨h, k _ _ (fun m hm => ?_) (by unfold Lib.atoiSat; split <;> omega) (.inr ⟨_, _, rfl⟩), .ofBelow s hb⟩
  rw [hv] at hm
  cases hm
 | _ =>
  refine (Any.strconv_Atoi_syntax Tryz.laysC172 ⟨t.toArray⟩ (by rw [hsz]; omega) hv e1 w c1 i1).mono ?_
  rintro e w' ⟨N, rfl, -, -, hb⟩
  refine ⟨h, k 0 _ (fun m hm => ?_) (by omega) (.inr ⟨_, _, rfl⟩), .ofBelow s hb⟩
  rw [hv] at hm
  cases hm
end Go.Proofs.YtgbapakcfmgahaaGreatDoor
end
