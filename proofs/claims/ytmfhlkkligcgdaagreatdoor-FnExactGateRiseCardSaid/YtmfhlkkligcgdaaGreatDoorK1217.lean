/- Parts of the proof, put together: Y1, V0, V1, V2, V3, V4, V5, V6, V7. -/
import Derived.Shelf.Vars
import Derived.Test.YtmfhlkkligcgdaaGreatDoorK1213
import Derived.Test.YtmfhlkkligcgdaaGreatDoorK126
/- What words are made of, when that is ok. -/
section
set_option linter.unusedVariables false
set_option linter.unusedSimpArgs false
set_option maxRecDepth 20000
attribute [local irreducible] Go.Tk.vc Go.Tk.vops Go.Tk.vdr Go.Tk.vop Go.Tk.vfl Go.Tk.HCalls
namespace Go.Proofs.YtmfhlkkligcgdaaGreatDoor
open Go Go.Tk

theorem valsOk_c {h : H} {v : Value} {l : List Int} (r : rInts h v l) (hl : l.length ≤ 1099511627776) {R : Ending → H → Prop} (k : Asks R (valsP l) h) : HCalls Tryz.prog 101 #[v] h R := by
  refine HCalls_ir (args := [v]) Tryz.func101 ir101 ?_
  simp only [walk, lists, acts, mem, plain, seqs, maps, cells, resL, resV, intBin, seval, r.len]
  refine vc_loop [7] (fun n vs h' => ∃ i : Nat, vs = [.int .i64 i] ∧ h' = h ∧ i ≤ l.length ∧ n = l.length - i ∧ allP valP (l.take i)) l.length rfl ⟨0, rfl, rfl, by omega, by omega, allP_zero _ _⟩ ?_
  rintro n f h' ⟨i, hv, rfl, hi, rfl, ht⟩
  simp only [List.map_cons, List.map_nil, List.cons.injEq, and_true] at hv
  simp only [walk, lists, acts, mem, plain, seqs, maps, cells, resL, resV, intBin, seval, wr, hv, r.len]
  refine ite_lt (fun c1 => ?_) fun c1 => ?_
  · refine idx_leaf (i := i) eI_len r rfl (by omega) fun b1 o1 e1 => ?_
    simp only [walk, lists, acts, mem, plain, seqs, maps, cells, resL, resV, intBin, seval, hread_1 e1]
    refine isVal_c fun b hb => ?_
    simp only [walk, lists, acts, mem, plain, seqs, maps, cells, resL, resV, intBin, seval]
    refine ite_f (fun e => .of (k.no fun p => allP_not (by omega) (not_b hb e) p.2)) fun e => ?_
    simp (disch := omega) only [wrapI]
    exact ⟨l.length - (i + 1), by omega, h', .refl _, i + 1, by simp, rfl, by omega, rfl, allP_more (by omega) ht (hb.1 e)⟩
  · have := allP_done (by omega) ht
    exact .of (k _ (by simp [valsP, this]; omega))

theorem l3Vals_c {h : H} {v : Value} {l : List Int} (r : rInts h v l) (hl : l.length ≤ 1099511627776) {R : Ending → H → Prop} (k : Asks R (valsP l) h) : HCalls Tryz.prog 90 #[v] h R := by
  refine HCalls_ir (args := [v]) Tryz.func90 ir90 ?_
  simp only [walk, lists, acts, mem, plain, seqs, maps, cells, resL, resV, intBin, seval, r.len]
  refine ite_lt (fun c1 => .of (k.no fun p => ?_)) fun c1 => ?_
  · have := p.1; omega
  refine vc_loop [3] (fun n vs h' => ∃ i : Nat, vs = [.int .i64 i] ∧ h' = h ∧ i ≤ l.length ∧ n = l.length - i ∧ allP valP (l.take i)) l.length rfl ⟨0, rfl, rfl, by omega, by omega, allP_zero _ _⟩ ?_
  rintro n f h' ⟨i, hv, rfl, hi, rfl, ht⟩
  simp only [List.map_cons, List.map_nil, List.cons.injEq, and_true] at hv
  simp only [walk, lists, acts, mem, plain, seqs, maps, cells, resL, resV, intBin, seval, wr, hv, r.len]
  refine ite_lt (fun c1 => ?_) fun c1 => ?_
  · refine idx_leaf (i := i) eI_len r rfl (by omega) fun b1 o1 e1 => ?_
    simp only [walk, lists, acts, mem, plain, seqs, maps, cells, resL, resV, intBin, seval, hread_1 e1]
    refine l1Val_c fun b hb => ?_
    simp only [walk, lists, acts, mem, plain, seqs, maps, cells, resL, resV, intBin, seval]
    refine ite_f (fun e => .of (k.no fun p => allP_not (by omega) (not_b hb e) p.2)) fun e => ?_
    simp (disch := omega) only [wrapI]
    exact ⟨l.length - (i + 1), by omega, h', .refl _, i + 1, by simp, rfl, by omega, rfl, allP_more (by omega) ht (hb.1 e)⟩
  · exact .of (k.yes ⟨by omega, allP_done (by omega) ht⟩)

theorem rising_c {g : FuncId} {P : Int → Prop} (hg : callOk Tryz.prog g = true) (hc : ∀ {a : Int} {h : H} {R : Ending → H → Prop}, Asks R (P a) h → HCalls Tryz.prog g #[.int .i64 a] h R)
    {h : H} {v : Value} {l : List Int} (r : rInts h v l) (hl : l.length ≤ 1099511627776) {R : Ending → H → Prop} (k : Asks R (allP P l ∧ risP id l) h) : HCalls Tryz.prog 103 #[v, .func (.func g) #[] #[]] h R := by
  refine HCalls_ir (args := [v, .func (.func g) #[] #[]]) Tryz.func103 ir103 ?_
  simp only [walk, lists, acts, mem, plain, seqs, maps, cells, resL, resV, intBin, seval, r.len]
  refine vc_loop [9] (fun n vs h' => ∃ i : Nat, vs = [.int .i64 i] ∧ h' = h ∧ i ≤ l.length ∧ n = l.length - i ∧ allP P (l.take i) ∧ risU id l i) l.length rfl ⟨0, rfl, rfl, by omega, by omega, allP_zero _ _, risU_zero _ _⟩ ?_
  rintro n f h' ⟨i, hv, rfl, hi, rfl, ht, hu⟩
  simp only [List.map_cons, List.map_nil, List.cons.injEq, and_true] at hv
  simp only [walk, lists, acts, mem, plain, seqs, maps, cells, resL, resV, intBin, seval, wr, hv, r.len]
  refine ite_lt (fun c1 => ?_) fun c1 => ?_
  · refine idx_leaf (i := i) eI_len r rfl (by omega) fun b1 o1 e1 => ?_
    simp only [walk, lists, acts, mem, plain, seqs, maps, cells, resL, resV, intBin, seval, hread_1 e1]
    refine ⟨hg, hc fun b hb => ?_⟩
    simp (disch := omega) only [walk, lists, acts, mem, plain, seqs, maps, cells, resL, resV, intBin, seval, wrapI]
    refine ite_f (fun e => .of (k.no fun p => allP_not (by omega) (not_b hb e) p.1)) fun e => ?_
    refine ite_lt (fun c2 => ?_) fun c2 => ?_
    · refine idx_leaf (i := i - 1) eI_len r (by omega) (by omega) fun b2 o2 e2 => ?_
      simp (disch := omega) only [walk, lists, acts, mem, plain, seqs, maps, cells, resL, resV, intBin, seval, hread_1 e2, wrapI]
      refine ite_ge (fun c3 => .of (k.no fun p => risU_not (i := i) (by omega) (by omega) (fun x => ?_) p.2)) fun c3 => ?_
      · simp only [id] at x; omega
      · exact ⟨l.length - (i + 1), by omega, h', .refl _, i + 1, by simp, rfl, by omega, rfl, allP_more (by omega) ht (hb.1 e), risU_more (by omega) (by omega) hu c3⟩
    · exact ⟨l.length - (i + 1), by omega, h', .refl _, i + 1, by simp, rfl, by omega, rfl, allP_more (by omega) ht (hb.1 e), risU_one (by omega) hu⟩
  · exact .of (k.yes ⟨allP_done (by omega) ht, risU_done (by omega) hu⟩)

theorem pair_cells {h : H} {b o : Nat} {p : Int × Int} (e : hread h b o 2 = some (eP p)) : hcel h b o = some (.int .i64 p.1) ∧ hcel h b (o + 1) = some (.int .i64 p.2) := ⟨hread_c e 0 rfl, hread_c e 1 rfl⟩

theorem pairsOk_c {h : H} {v : Value} {l : List (Int × Int)} (r : rPairs h v l) (hl : l.length ≤ 1099511627776) {R : Ending → H → Prop} (k : Asks R (pairsP l) h) : HCalls Tryz.prog 102 #[v] h R := by
  refine HCalls_ir (args := [v]) Tryz.func102 ir102 ?_
  simp only [walk, lists, acts, mem, plain, seqs, maps, cells, resL, resV, intBin, seval, r.len]
  refine ite_lt (fun c0 => .of (k.no fun p => ?_)) fun c0 => ?_
  · have := p.1; omega
  refine vc_loop [10] (fun n vs h' => ∃ i : Nat, vs = [.int .i64 i] ∧ h' = h ∧ i ≤ l.length ∧ n = l.length - i ∧ allP pairP (l.take i) ∧ risU (·.1) l i) l.length rfl ⟨0, rfl, rfl, by omega, by omega, allP_zero _ _, risU_zero _ _⟩ ?_
  rintro n f h' ⟨i, hv, rfl, hi, rfl, ht, hu⟩
  simp only [List.map_cons, List.map_nil, List.cons.injEq, and_true] at hv
  simp only [walk, lists, acts, mem, plain, seqs, maps, cells, resL, resV, intBin, seval, wr, hv, r.len]
  refine ite_lt (fun c1 => ?_) fun c1 => ?_
  · refine idx_leaf (i := i) eP_len r rfl (by omega) fun b1 o1 e1 => ?_
    simp only [walk, lists, acts, mem, plain, seqs, maps, cells, resL, resV, intBin, seval, e1]
    refine newB_intro fun j hj => ?_
    have sj := fun o => Sub.cons (o := o) hj (Sub.refl h')
    have hi2 : i < l.length := by omega
    generalize hx : l[i] = x at *
    have zp : [Value.int .i64 0, .int .i64 0] = eP (0, 0) := rfl
    simp only [zp, walk, lists, acts, mem, plain, seqs, maps, cells, resL, resV, intBin, seval, wPair]
    refine vc_draw _ (Sub.refl _) ?_
    simp only [walk, lists, acts, mem, plain, seqs, maps, cells, resL, resV, intBin, seval, wPair]
    refine isKey_c fun b hb => ?_
    simp (disch := omega) only [walk, lists, acts, mem, plain, seqs, maps, cells, resL, resV, intBin, seval, wPair, wrapI]
    refine ite_f (fun e => ⟨h', sj _, k.no fun p => allP_not hi2 (fun y => not_b hb e (by rw [hx] at y; exact y.1)) p.2.1⟩) fun e => ?_
    refine isVal_c fun b2 hb2 => ?_
    simp (disch := omega) only [walk, lists, acts, mem, plain, seqs, maps, cells, resL, resV, intBin, seval, wPair, wrapI]
    refine ite_f (fun e => ⟨h', sj _, k.no fun p => allP_not hi2 (fun y => not_b hb2 e (by rw [hx] at y; exact y.2)) p.2.1⟩) fun e' => ?_
    have hok : pairP l[i] := by rw [hx]; exact ⟨hb.1 e, hb2.1 e'⟩
    refine ite_lt (fun c2 => ?_) fun c2 => ?_
    · refine idx_leaf (i := i - 1) eP_len (r.sub (sj (blk (eP x) 136))) (by omega) (by omega) fun b2 o2 e2 => ?_
      simp (disch := omega) only [walk, lists, acts, mem, plain, seqs, maps, cells, resL, resV, intBin, seval, wPair, (pair_cells e2).1, wrapI]
      refine ite_ge (fun c3 => ⟨h', sj _, k.no fun p => risU_not (i := i) hi2 (by omega) (fun y => ?_) p.2.2⟩) fun c3 => ?_
      · simp only [hx] at y; omega
      · exact ⟨l.length - (i + 1), by omega, h', sj _, i + 1, by simp, rfl, by omega, rfl, allP_more (by omega) ht hok, risU_more (by omega) (by omega) hu (by simp only [hx]; exact c3)⟩
    · exact ⟨l.length - (i + 1), by omega, h', sj _, i + 1, by simp, rfl, by omega, rfl, allP_more (by omega) ht hok, risU_one (by omega) hu⟩
  · exact .of (k.yes ⟨by omega, allP_done (by omega) ht, risU_done (by omega) hu⟩)

theorem l1Pairs_c {h : H} {v : Value} {l : List (Int × Int)} (r : rPairs h v l) (hl : l.length ≤ 1099511627776) {R : Ending → H → Prop} (k : Asks R (pairsP l) h) : HCalls Tryz.prog 91 #[v] h R := by
  refine HCalls_ir (args := [v]) Tryz.func91 ir91 ?_
  simp only [walk, lists, acts, mem, plain, seqs, maps, cells, resL, resV, intBin, seval, r.len]
  refine ite_lt (fun c0 => .of (k.no fun p => ?_)) fun c0 => ?_
  · have := p.1; omega
  refine vc_loop [3] (fun n vs h' => ∃ i : Nat, vs = [.int .i64 i] ∧ h' = h ∧ i ≤ l.length ∧ n = l.length - i ∧ allP pairP (l.take i) ∧ risU (·.1) l i) l.length rfl ⟨0, rfl, rfl, by omega, by omega, allP_zero _ _, risU_zero _ _⟩ ?_
  rintro n f h' ⟨i, hv, rfl, hi, rfl, ht, hu⟩
  simp only [List.map_cons, List.map_nil, List.cons.injEq, and_true] at hv
  simp only [walk, lists, acts, mem, plain, seqs, maps, cells, resL, resV, intBin, seval, wr, hv, r.len]
  refine ite_lt (fun c1 => ?_) fun c1 => ?_
  · refine vc_draw _ (Sub.refl _) ?_
    have hi2 : i < l.length := by omega
    simp only [walk, lists, acts, mem, plain, seqs, maps, cells, resL, resV, intBin, seval]
    refine idx_leaf (i := i) eP_len r rfl hi2 fun b1 o1 e1 => ?_
    simp only [walk, lists, acts, mem, plain, seqs, maps, cells, resL, resV, intBin, seval, (pair_cells e1).1]
    refine l6In_c fun b hb => ?_
    simp (disch := omega) only [walk, lists, acts, mem, plain, seqs, maps, cells, resL, resV, intBin, seval, wrapI]
    refine ite_f (fun e => .of (k.no fun p => allP_not hi2 (fun y => not_b hb e y.1) p.2.1)) fun e => ?_
    refine idx_leaf (i := i) eP_len r rfl hi2 fun b2 o2 e2 => ?_
    simp only [walk, lists, acts, mem, plain, seqs, maps, cells, resL, resV, intBin, seval, (pair_cells e2).2]
    refine l1Val_c fun b2 hb2 => ?_
    simp (disch := omega) only [walk, lists, acts, mem, plain, seqs, maps, cells, resL, resV, intBin, seval, wrapI]
    refine ite_f (fun e => .of (k.no fun p => allP_not hi2 (fun y => not_b hb2 e y.2) p.2.1)) fun e' => ?_
    have hok : pairP l[i] := ⟨hb.1 e, hb2.1 e'⟩
    refine ite_lt (fun c2 => ?_) fun c2 => ?_
    · refine idx_leaf (i := i - 1) eP_len r (by omega) (by omega) fun b3 o3 e3 => ?_
      simp (disch := omega) only [walk, lists, acts, mem, plain, seqs, maps, cells, resL, resV, intBin, seval, (pair_cells e3).1, wrapI]
      refine idx_leaf (i := i) eP_len r rfl (by omega) fun b4 o4 e4 => ?_
      simp (disch := omega) only [walk, lists, acts, mem, plain, seqs, maps, cells, resL, resV, intBin, seval, (pair_cells e4).1, wrapI]
      refine ite_ge (fun c3 => .of (k.no fun p => risU_not (i := i) hi2 (by omega) (fun y => ?_) p.2.2)) fun c3 => ?_
      · omega
      · exact ⟨l.length - (i + 1), by omega, h', .refl _, i + 1, by simp, rfl, by omega, rfl, allP_more (by omega) ht hok, risU_more (by omega) (by omega) hu c3⟩
    · exact ⟨l.length - (i + 1), by omega, h', .refl _, i + 1, by simp, rfl, by omega, rfl, allP_more (by omega) ht hok, risU_one (by omega) hu⟩
  · exact .of (k.yes ⟨by omega, allP_done (by omega) ht, risU_done (by omega) hu⟩)

end Go.Proofs.YtmfhlkkligcgdaaGreatDoor
end

/- The library's cuts of texts into rows. -/
section
set_option linter.unusedVariables false
set_option linter.unusedSimpArgs false
set_option maxRecDepth 20000
attribute [local irreducible] Go.Tk.vc Go.Tk.vops Go.Tk.vdr Go.Tk.vop Go.Tk.vfl Go.Tk.HCalls
namespace Go.Tk
open Go
theorem idx1 (s : List UInt8) (c : UInt8) : Lib.indexB ⟨s.toArray⟩ ⟨#[c]⟩ = Lib.indexByte s c := Lib.index_one s c
theorem split_lib (c : UInt8) : ∀ (n : Nat) (s : List UInt8), s.length ≤ n → (Lib.splitB ⟨#[c]⟩ 0 (Lib.countB ⟨s.toArray⟩ ⟨#[c]⟩) ⟨s.toArray⟩).map (fun b => b.data.toList) = splitB c s := by
  intro n
  induction n with
  | zero =>
    intro s hs
    have : s = [] := List.length_eq_zero_iff.1 (by omega)
    subst this
    have hm : Lib.indexB ⟨([] : List UInt8).toArray⟩ ⟨#[c]⟩ = -1 := by rw [idx1]; rfl
    rw [Lib.splitB_miss _ _ _ _ hm]
    rfl
  | succ n ih =>
    intro s hs
    obtain ⟨a, b, f, hc, hi⟩ := index_cut c s
    rw [← idx1] at hi
    cases f with
    | false =>
      rw [if_neg (by decide)] at hi
      rw [Lib.splitB_miss _ _ _ _ hi]
      obtain ⟨h1, ⟨h, _⟩ | ⟨_, h2, _⟩⟩ := hc
      · cases h
      · subst h2
        rw [splitB_none h1]; rfl
    | true =>
      rw [if_pos rfl] at hi
      obtain ⟨h1, ⟨_, h2⟩ | ⟨h, _⟩⟩ := hc
      · have e1 : ((⟨s.toArray⟩ : ByteArray).extract (a.length + (⟨#[c]⟩ : ByteArray).size) (⟨s.toArray⟩ : ByteArray).size) = ⟨b.toArray⟩ := by
          apply ByteArray.ext
          rw [ByteArray.data_extract]
          apply Array.ext'
          rw [Array.toList_extract]
          show (s.drop (a.length + 1)).take (s.length - (a.length + 1)) = b
          have e3 : s.drop (a.length + 1) = b := by rw [h2]; simp
          rw [e3, h2]
          exact List.take_of_length_le (by simp only [List.length_append, List.length_cons]; omega)
        have e2 : ((⟨s.toArray⟩ : ByteArray).extract 0 (a.length + 0)).data.toList = a := by
          rw [ByteArray.data_extract, Array.toList_extract]
          show (s.drop 0).take (a.length + 0 - 0) = a
          rw [h2]; simp
        rw [Lib.countB_hit ⟨s.toArray⟩ ⟨#[c]⟩ a.length (Nat.le_refl 1) hi, Nat.add_comm, Lib.splitB_hit _ _ _ _ _ hi, e1, List.map_cons, e2, ih b (by rw [h2, List.length_append, List.length_cons] at hs; omega), h2, splitB_app b h1]
      · cases h
theorem fl_eT : ∀ l : List (List UInt8), fl eT l = l.map fun t => .string ⟨t.toArray⟩ := by
  intro l
  induction l with
  | nil => rfl
  | cons a l ih => rw [fl_cons, ih]; rfl
end Go.Tk
namespace Go.Proofs.YtmfhlkkligcgdaaGreatDoor
open Go Go.Tk Go.RowKit

/-- Some number stands where the library keeps how long a short text is. -/
def MxL (h : H) : Prop := ∃ c e f m, hget h 0 = some (.cells c e f) ∧ c[0]? = some (.int .i64 m)
theorem MxL.sub {g h : H} (k : MxL g) (s : Tk.Sub g h) : MxL h := by
  obtain ⟨c, e, f, m, h1, h2⟩ := k
  exact ⟨c, e, f, m, s _ _ h1, h2⟩
theorem mxl_of {w : World} (h : w.ShapedOpen Tryz.prog) : MxL (full w) := by
  obtain ⟨m, hm⟩ := Go.Proofs.cell_of_shapedOpen_int (g := 0) (k := .i64) (zero := #[.int .i64 0]) (t := 3) h (of_decide_eq_true (by kernel_rfl)) (by kernel_rfl) rfl (by kernel_rfl) (by kernel_rfl) Tryz.underlying3
  obtain ⟨b, off, c, e, f, h1, h2, h3⟩ := cell_plain hm
  cases h1
  exact ⟨c, e, f, m, by rw [hget_full]; exact h2, by simpa using h3⟩

theorem split_c {h : H} {s : List UInt8} {c : UInt8} (gm : MxL h) (hs : s.length ≤ 4194304) {R : Ending → H → Prop} (k : ∀ v g, oLs 9 eT 1 v (splitB c s) g → Dj g h → R (.returned v) (g ++ h)) :
    HCalls Tryz.prog 146 #[.string ⟨s.toArray⟩, .string ⟨#[c]⟩] h R := by
  refine .of_calls fun w sa => ?_
  obtain ⟨cs, e, f, m, h1, h2⟩ := gm
  have hc : w.cell? ⟨0, 0, none⟩ = some (.int .i64 m) := by
    have := sa _ _ h1
    simp only [World.cell?, this, Option.isSome_none, Bool.false_eq_true, if_false, h2]
  have hz : (⟨s.toArray⟩ : ByteArray).size = s.length := rfl
  refine (Tryz.strings_Split ⟨s.toArray⟩ ⟨#[c]⟩ m w (by rw [hz]; omega) hc (Nat.le_refl 1)).mono ?_
  rintro e' w' ⟨rfl, hw⟩
  have hl := split_lib c s.length s (Nat.le_refl _)
  have hv : ((Lib.splitB ⟨#[c]⟩ 0 (Lib.countB ⟨s.toArray⟩ ⟨#[c]⟩) ⟨s.toArray⟩).map Value.string) = fl eT (splitB c s) := by
    rw [fl_eT, ← hl, List.map_map]
    apply List.map_congr_left
    intro x _
    rfl
  have hn : Lib.countB ⟨s.toArray⟩ ⟨#[c]⟩ + 1 = (splitB c s).length := by
    rw [← Lib.splitB_all ⟨#[c]⟩ (Nat.le_refl 1) 0 _ ⟨s.toArray⟩ rfl, ← hl, List.length_map]
  rw [hv] at hw
  rw [hn]
  have hnew : hget h w.heap.size = none := by
    cases e : hget h w.heap.size with
    | none => rfl
    | some o => exact absurd (sa.lt (by rw [e]; simp)) (by omega)
  have := k (.slice (some ⟨w.heap.size, 0, none⟩) (splitB c s).length (splitB c s).length) [(w.heap.size, blk (fl eT (splitB c s)) 9)] (oLs_new eT_len) (by simp only [subs, hnew])
  exact ⟨_, this, Pst.push sa (blk (fl eT (splitB c s)) 9) hw⟩

end Go.Proofs.YtmfhlkkligcgdaaGreatDoor
end

/- What stands first in a row. -/
section
set_option linter.unusedVariables false
set_option linter.unusedSimpArgs false
set_option maxRecDepth 20000
attribute [local irreducible] Go.Tk.vc Go.Tk.vops Go.Tk.vdr Go.Tk.vop Go.Tk.vfl Go.Tk.HCalls
namespace Go.Proofs.YtmfhlkkligcgdaaGreatDoor
open Go Go.Tk Go.RowKit
/-- Where a text stands in a row of texts. -/
theorem index_of_c {h : H} {v : Value} {l : List (List UInt8)} {s : List UInt8} (r : rLs h eT 1 v l) (hl : l.length ≤ 1048576) {R : Ending → H → Prop} (k : ∀ n : Int, (∀ i (hi : i < l.length), l[i] = s → (∀ j (hj : j < i), l[j] ≠ s) → n = (i : Int)) → ((∀ x ∈ l, x ≠ s) → n = -1) → (-1 ≤ n ∧ n < l.length) → R (.returned (.int .i64 n)) h) :
    HCalls Tryz.prog 147 #[v, .string ⟨s.toArray⟩] h R := by
  refine HCalls_ir (args := [v, .string ⟨s.toArray⟩]) Tryz.func147 ir147 ?_
  simp only [walk, lists, acts, mem, plain, seqs, maps, cells, resL, resV, intBin, seval, r.len]
  refine vc_loop [8] (fun n vs h' => ∃ (i : Nat), vs = [.int .i64 i] ∧ h' = h ∧ (∀ x ∈ l.take i, x ≠ s) ∧ i ≤ l.length ∧ n = l.length - i) l.length rfl
    ⟨0, rfl, rfl, by simp, by omega, rfl⟩ ?_
  rintro n f h' ⟨i, hv, rfl, hn, hi, rfl⟩
  simp only [List.map_cons, List.map_nil, List.cons.injEq, and_true] at hv
  simp only [walk, lists, acts, mem, plain, seqs, maps, cells, resL, resV, intBin, seval, wr, hv, r.len]
  refine ite_lt (fun c => ?_) fun c => ?_
  · have hi2 : i < l.length := by omega
    refine idx_leaf (i := i) eT_len r rfl hi2 fun b1 o1 e1 => ?_
    have e1' : hread h' b1 o1 1 = some [.string ⟨(l[i]).toArray⟩] := e1
    simp only [walk, lists, acts, mem, plain, seqs, maps, cells, resL, resV, intBin, seval, hread_1 e1', strBin, str_inj]
    refine ite_pos (fun ce => ?_) fun ce => ?_
    · refine .of (k i (fun j hj he hf => ?_) (fun hx => absurd ce.symm (hx _ (List.getElem_mem hi2))) (by omega))
      rcases Nat.lt_trichotomy i j with x | x | x
      · exact absurd ce.symm (hf i x)
      · rw [x]
      · exact absurd he (hn _ (by rw [List.mem_take_iff_getElem]; exact ⟨j, by omega, rfl⟩))
    · simp (disch := omega) only [walk, lists, acts, mem, plain, seqs, maps, cells, resL, resV, intBin, seval, wrapI]
      refine ⟨l.length - (i + 1), by omega, h', .refl _, i + 1, by simp, rfl, fun x hx => ?_, by omega, rfl⟩
      rw [List.take_succ_eq_append_getElem hi2] at hx
      rcases List.mem_append.1 hx with hx | hx
      · exact hn x hx
      · rw [List.mem_singleton] at hx
        rw [hx]; exact fun e => ce e.symm
  · have hi2 : i = l.length := by omega
    subst hi2
    rw [List.take_length] at hn
    exact .of (k (-1) (fun i hi he _ => absurd he (hn _ (List.getElem_mem hi))) (fun _ => rfl) (by omega))
end Go.Proofs.YtmfhlkkligcgdaaGreatDoor
end

/- What both call ok; how the reference writes deals. -/
section
set_option linter.unusedVariables false
set_option linter.unusedSimpArgs false
set_option maxRecDepth 20000
attribute [local irreducible] Go.Tk.vc Go.Tk.vops Go.Tk.vdr Go.Tk.vop Go.Tk.vfl Go.Tk.HCalls
namespace Go.Proofs.YtmfhlkkligcgdaaGreatDoor
open Go Go.Tk

theorem cStatement_len (s : DStatement) : (cStatement s).length = 3 := rfl
theorem dealOk_c {h : H} {v : Value} {l : List DStatement} (r : rLs h cStatement 3 v l) (hl : l.length ≤ 1099511627776) {R : Ending → H → Prop} (k : Asks R (dealP l) h) : HCalls Tryz.prog 143 #[v] h R := by
  refine HCalls_ir (args := [v]) Tryz.func143 ir143 ?_
  have zs := zStatement_eq
  simp only [walk, lists, acts, mem, plain, seqs, maps, cells, resL, resV, intBin, seval, r.len, zs]
  refine ite_lt (fun c => .of (k.no fun p => by have := p.1; omega)) fun c0 => ?_
  refine ite_lt (fun c => .of (k.no fun p => by have := p.2.1; omega)) fun c1 => ?_
  refine vc_loopS [3] (fun n vs h' => ∃ i : Nat, vs = [.int .i64 i] ∧ h' = h ∧ i ≤ l.length ∧ n = l.length - i ∧ allP stP (l.take i)) l.length rfl (Sub.refl _) ⟨0, rfl, rfl, by omega, by omega, allP_zero _ _⟩ ?_
  rintro n f h' ⟨i, hv, rfl, hi, rfl, ht⟩
  simp only [List.map_cons, List.map_nil, List.cons.injEq, and_true] at hv
  simp only [walk, lists, acts, mem, plain, seqs, maps, cells, resL, resV, intBin, seval, wr, hv, r.len, zs]
  refine ite_lt (fun c2 => ?_) fun c2 => ?_
  · refine idx_leaf (i := i) cStatement_len r rfl (by omega) fun b1 o1 e1 => ?_
    simp only [walk, lists, acts, mem, plain, seqs, maps, cells, resL, resV, intBin, seval, e1, zs]
    refine newB_intro fun j hj => ?_
    have hi2 : i < l.length := by omega
    obtain ⟨s, hs⟩ : ∃ s, s = l[i] := ⟨_, rfl⟩
    have sj := fun o => Sub.cons (o := o) hj (Sub.refl h')
    simp only [walk, lists, acts, mem, plain, seqs, maps, cells, resL, resV, intBin, seval, wStatement, zs]
    have no : ¬ stP l[i] → ∀ o, dP R (.returned (.bool false)) ((j, o) :: h') := fun hn o => ⟨h', sj o, k.no fun p => hn (p.2.2 _ (List.getElem_mem hi2))⟩
    refine l6In_c fun b hb => ?_
    simp only [walk, lists, acts, mem, plain, seqs, maps, cells, resL, resV, intBin, seval, wStatement]
    refine ite_f (fun e => no (fun p => not_b hb e p.1) _) fun e1 => ?_
    refine l6In_c fun b2 hb2 => ?_
    simp only [walk, lists, acts, mem, plain, seqs, maps, cells, resL, resV, intBin, seval, wStatement]
    refine ite_f (fun e => no (fun p => not_b hb2 e p.2.1) _) fun e2 => ?_
    refine l1Val_c fun b3 hb3 => ?_
    simp only [walk, lists, acts, mem, plain, seqs, maps, cells, resL, resV, intBin, seval, wStatement]
    refine ite_f (fun e => no (fun p => not_b hb3 e p.2.2.1) _) fun e3 => ?_
    have go : stP l[i] → ∀ o, ∃ m, m < l.length - i ∧ ∃ g, Tk.Sub g ((j, o) :: h') ∧ ∃ i' : Nat, [Value.int IntKind.i64 (IntKind.i64.wrap ((i : Int) + 1))] = [Value.int IntKind.i64 i'] ∧ g = h' ∧ i' ≤ l.length ∧ m = l.length - i' ∧ allP stP (l.take i') := fun p o =>
      ⟨l.length - (i + 1), by omega, h', sj o, i + 1, by simp (disch := omega) only [wrapI]; simp, rfl, by omega, rfl, allP_more (by omega) ht p⟩
    refine ite_pos (fun e4 => ?_) fun e4 => ?_
    · refine ite_pos (fun e5 => no (fun p => e5 (p.2.2.2 e4)) _) fun e5 => ?_
      exact go ⟨hb.1 e1, hb2.1 e2, hb3.1 e3, fun _ => Classical.not_not.1 e5⟩ _
    · exact go ⟨hb.1 e1, hb2.1 e2, hb3.1 e3, fun x => absurd x e4⟩ _
  · exact .of (k.yes ⟨by omega, by omega, allP_done (by omega) ht⟩)

theorem opName_at {n : Int} (h : 1 ≤ n ∧ n ≤ 4) : (fl eT [[], [103, 101, 116, 32], [112, 117, 116, 32], [97, 100, 100, 32], [110, 101, 101, 100, 32]])[n.toNat]? = some (.string ⟨(opName n).toArray⟩) := by
  have : n = 1 ∨ n = 2 ∨ n = 3 ∨ n = 4 := by omega
  rcases this with rfl | rfl | rfl | rfl <;> rfl
def dealT (l : List DStatement) (t : List UInt8) : Prop := (dealP l ∧ t = dealText l) ∨ (¬ dealP l ∧ t = [])
theorem dealWrite_c {h : H} {v : Value} {l : List DStatement} (r : rLs h cStatement 3 v l) (hl : l.length ≤ 1099511627776) {R : Ending → H → Prop} (k : ∀ t, dealT l t → R (.returned (.string ⟨t.toArray⟩)) h) : HCalls Tryz.prog 136 #[v] h R := by
  refine HCalls_ir (args := [v]) Tryz.func136 ir136 ?_
  have zs := zStatement_eq
  simp only [walk, lists, acts, mem, plain, seqs, maps, cells, resL, resV, intBin, seval, str, r.len, zs]
  refine dealOk_c r hl fun b hb => ?_
  simp only [walk, lists, acts, mem, plain, seqs, maps, cells, resL, resV, intBin, seval]
  refine ite_f (fun e => .of (k [] (.inr ⟨not_b hb e, rfl⟩))) fun e => ?_
  have dp := hb.1 e
  have hl6 := dp.2.1
  refine vc_loopS [3, 4] (fun n vs h' => ∃ i : Nat, vs = [.string ⟨(dealText (l.take i)).toArray⟩, .int .i64 i] ∧ h' = h ∧ i ≤ l.length ∧ n = l.length - i) l.length rfl (Sub.refl _) ⟨0, by simp [dealText], rfl, by omega, by omega⟩ ?_
  rintro n f h' ⟨i, hv, rfl, hi, rfl⟩
  simp only [List.map_cons, List.map_nil, List.cons.injEq, and_true] at hv
  simp only [walk, lists, acts, mem, plain, seqs, maps, cells, resL, resV, intBin, seval, wr, hv.1, hv.2, r.len, zs]
  refine ite_lt (fun c2 => ?_) fun c2 => ?_
  · refine idx_leaf (i := i) cStatement_len r rfl (by omega) fun b1 o1 e1 => ?_
    simp only [walk, lists, acts, mem, plain, seqs, maps, cells, resL, resV, intBin, seval, e1, zs]
    refine newB_intro fun j hj => ?_
    have hi2 : i < l.length := by omega
    have sj := fun o => Sub.cons (o := o) hj (Sub.refl h')
    have st : stP l[i] := dp.2.2 _ (List.getElem_mem hi2)
    have hlen := dealText_len (l := l.take i) fun x hx => dp.2.2 x (List.mem_of_mem_take hx)
    rw [List.length_take] at hlen
    have hon := opName_len l[i].do_
    have hdk := decI_len (i := l[i].key) (by have := st.2.1; simp only [inP] at this; omega)
    have hdn := decI_len (i := l[i].num) (by have := st.2.2.1; simp only [valP, inP] at this; omega)
    have hdo := st.1
    simp only [inP] at hdo
    simp only [walk, lists, acts, mem, plain, seqs, maps, cells, resL, resV, intBin, seval, wStatement, zs]
    refine vc_draw _ (Sub.refl _) ?_
    simp only [walk, lists, acts, mem, plain, seqs, maps, cells, resL, resV, intBin, seval, wStatement]
    refine pcall_intro (.string ⟨(decI l[i].key).toArray⟩) (fun R r => l6Dec_c (by unfold i64P; have := st.2.1; simp only [inP] at this; omega) r) ?_
    simp only [walk, lists, acts, mem, plain, seqs, maps, cells, resL, resV, intBin, seval, str]
    refine newB_intro (o := blk (fl eT [[], [103, 101, 116, 32], [112, 117, 116, 32], [97, 100, 100, 32], [110, 101, 101, 100, 32]]) 9) fun j2 hj2 => ?_
    have sj2 := Sub_new (o := blk (fl eT [[], [103, 101, 116, 32], [112, 117, 116, 32], [97, 100, 100, 32], [110, 101, 101, 100, 32]]) 9) hj2
    simp only [walk, lists, acts, mem, plain, seqs, maps, cells, resL, resV, intBin, seval, sj2]
    refine ⟨⟨by omega, by omega⟩, ?_⟩
    rw [opName_at hdo]
    have z1 : (dealText (l.take i)).length + (opName l[i].do_).length ≤ 9223372036854775807 := by omega
    have z2 : (dealText (l.take i) ++ opName l[i].do_).length + (decI l[i].key).length ≤ 9223372036854775807 := by rw [List.length_append]; omega
    have n2 := fresh hj2
    simp only [walk, lists, acts, mem, plain, seqs, maps, cells, resL, resV, intBin, seval, sj2, str_add _ _ z1, str_add _ _ z2, wStatement, n2.1, n2.2.1]
    have go : ∀ t, t = dealText (l.take i) ++ stText l[i] → ∀ m, Tk.Sub h' m → ∃ m', m' < l.length - i ∧ ∃ g, Tk.Sub g m ∧ ∃ i' : Nat, [Value.string ⟨t.toArray⟩, Value.int IntKind.i64 (IntKind.i64.wrap ((i : Int) + 1))] = [Value.string ⟨(dealText (l.take i')).toArray⟩, Value.int IntKind.i64 i'] ∧ g = h' ∧ i' ≤ l.length ∧ m' = l.length - i' := fun t ht m hm =>
      ⟨l.length - (i + 1), by omega, h', hm, i + 1, by
        simp (disch := omega) only [wrapI]
        rw [ht, take_app_one hi2, dealText_app, dealText_one]; simp, rfl, by omega, rfl⟩
    have sM : Tk.Sub h' ((j2, blk (fl eT [[], [103, 101, 116, 32], [112, 117, 116, 32], [97, 100, 100, 32], [110, 101, 101, 100, 32]]) 9) :: (j, blk (cStatement l[i]) 161) :: h') := Sub.cons hj2 (sj _)
    obtain ⟨A, hA⟩ : ∃ A, A = dealText (l.take i) ++ opName l[i].do_ ++ decI l[i].key := ⟨_, rfl⟩
    have hAl : A.length ≤ 400 := by rw [hA]; simp only [List.length_append]; omega
    rw [← hA]
    refine ite_pos (fun c3 => ?_) fun c3 => ?_
    · have z3 : A.length + ([32] : List UInt8).length ≤ 9223372036854775807 := by simp only [List.length_cons, List.length_nil]; omega
      simp only [walk, lists, acts, mem, plain, seqs, maps, cells, resL, resV, intBin, seval, str_add _ _ z3, wStatement, n2.1, n2.2.1]
      refine l1Int_c (by have := st.2.2.1; simp only [valP, inP] at this; omega) ?_
      have z4 : (A ++ [32]).length + (decI l[i].num).length ≤ 9223372036854775807 := by simp only [List.length_append, List.length_cons, List.length_nil]; omega
      have z5 : (A ++ [32] ++ decI l[i].num).length + ([59] : List UInt8).length ≤ 9223372036854775807 := by simp only [List.length_append, List.length_cons, List.length_nil]; omega
      simp only [walk, lists, acts, mem, plain, seqs, maps, cells, resL, resV, intBin, seval, str_add _ _ z4, str_add _ _ z5]
      refine go _ ?_ _ sM
      rw [hA, stText, if_neg c3]; simp
    · have z5 : A.length + ([59] : List UInt8).length ≤ 9223372036854775807 := by simp only [List.length_cons, List.length_nil]; omega
      simp only [walk, lists, acts, mem, plain, seqs, maps, cells, resL, resV, intBin, seval, str_add _ _ z5]
      refine go _ ?_ _ sM
      rw [hA, stText, if_pos (Classical.not_not.1 c3)]; simp
  · rw [List.take_of_length_le (by omega)]
    exact .of (k _ (.inl ⟨dp, rfl⟩))
end Go.Proofs.YtmfhlkkligcgdaaGreatDoor
end

/- How the reference reads deals. -/
section
set_option linter.unusedVariables false
set_option linter.unusedSimpArgs false
set_option maxRecDepth 20000
attribute [local irreducible] Go.Tk.vc Go.Tk.vops Go.Tk.vdr Go.Tk.vop Go.Tk.vfl Go.Tk.HCalls
namespace Go.Tk
open Go
/-- Names by number, the first being none. -/
def tbD : List (List UInt8) := [[], [103, 101, 116], [112, 117, 116], [97, 100, 100], [110, 101, 101, 100]]
theorem tbD_get {k : Nat} (h : 1 ≤ k ∧ k ≤ 4) : (fl eT tbD)[k]? = some (.string ⟨(nmD k).toArray⟩) := by
  have : k = 1 ∨ k = 2 ∨ k = 3 ∨ k = 4 := by omega
  rcases this with rfl | rfl | rfl | rfl <;> rfl
theorem words_len (s : DStatement) : (wordsD s).length = if s.do_ = 1 then 2 else 3 := by
  unfold wordsD
  split <;> rfl
theorem deal_part {d : List DStatement} {s : List UInt8} (h : s = dealText d) {i : Nat} (hi : i + 1 < (splitB 59 s).length) : ∃ hd : i < d.length, (splitB 59 s)[i] = stW d[i] := by
  have e : splitB 59 s = d.map stW ++ [[]] := by rw [h, deal_split]
  have hl := congrArg List.length e
  rw [List.length_append, List.length_map, List.length_singleton] at hl
  refine ⟨by omega, ?_⟩
  have : ∀ (m : List (List UInt8)) (hm : i < m.length), m = d.map stW ++ [[]] → m[i] = stW (d[i]'(by omega)) := by
    rintro m hm rfl
    rw [List.getElem_append_left (by rw [List.length_map]; omega), List.getElem_map]
  exact this _ (by omega) e
end Go.Tk
namespace Go.Proofs.YtmfhlkkligcgdaaGreatDoor
open Go Go.Tk

theorem cStatement_one (l : List DStatement) : (fl cStatement l).all vone = true := by induction l <;> simp_all [fl, cStatement, vone]

theorem specRead_c {h : H} {s : List UInt8} (hs : s.length ≤ 4194304) {R : Ending → H → Prop} (k : ∀ v g l ok, OutD s l ok → oLs 161 cStatement 3 v l g → Dj g h → R (.returned (.tuple #[v, .bool ok])) (g ++ h)) :
    HCalls Tryz.prog 118 #[.string ⟨s.toArray⟩] h R := by
  refine HCalls_ir (args := [.string ⟨s.toArray⟩]) Tryz.func118 ir118 ?_
  have zs := zStatement_eq
  simp only [walk, lists, acts, mem, plain, seqs, maps, cells, resL, resV, intBin, seval, str, zs]
  refine newB_intro (o := blk (fl cStatement []) 161) fun jn hjn => ?_
  have on : oLs 161 cStatement 3 (.slice (some ⟨jn, 0, none⟩) 0 0) [] [(jn, blk (fl cStatement []) 161)] := oLs_new cStatement_len
  have sn := Sub.cons (o := blk (fl cStatement []) 161) hjn (Sub.refl h)
  have bad : ∀ {M : H}, Tk.Sub ((jn, blk (fl cStatement []) 161) :: h) M → (∀ d, dealP d → s = dealText d → s.length ≤ 80 → False) → dP R (.returned (.tuple #[.slice (some ⟨jn, 0, none⟩) 0 0, .bool false])) M := fun {M} sM e => ⟨_, sM, k _ _ [] false (.inr ⟨rfl, rfl, e⟩) on (by simp only [subs, hjn])⟩
  simp only [walk, lists, acts, mem, plain, seqs, maps, cells, resL, resV, intBin, seval, str, zs]
  refine ite_lt (fun c => bad (.refl _) fun d _ _ h => by omega) fun c => ?_
  refine newB_intro (o := blk (fl cStatement []) 161) fun jo hjo => ?_
  have no := hjo
  simp only [subs] at no
  have ejn : ¬ jn = jo := fun e => no.1 e.symm
  have oo : oLs 161 cStatement 3 (.slice (some ⟨jo, 0, none⟩) 0 0) [] [(jo, blk (fl cStatement []) 161)] := oLs_new cStatement_len
  simp only [walk, lists, acts, mem, plain, seqs, maps, cells, resL, resV, intBin, seval, str, zs]
  refine (l1Cut_c (c := 59) (by omega) fun pv gp op dp => ?_)
  obtain ⟨ps, hps⟩ : ∃ ps, ps = splitB 59 s := ⟨_, rfl⟩
  rw [← hps] at op
  have dpx := dp
  simp only [subs] at dpx
  obtain ⟨B, hB⟩ : ∃ B, B = gp ++ ((jn, blk (fl cStatement []) 161) :: h) := ⟨_, rfl⟩
  have sB : Tk.Sub ((jn, blk (fl cStatement []) 161) :: h) B := by rw [hB]; (repeat' first | exact Sub.refl _ | exact Sub.nil _ | assumption | refine Sub.both ?_ ?_ | refine Sub.cons_of (by simp only [subs, dpx, hjn]) ?_ | exact Sub.left _ _ | refine Sub.app (by simp only [subs, dpx, hjn]) ?_ | refine Sub.cons (by simp only [subs, dpx, hjn]) ?_)
  have rpB : rLs B eT 1 pv ps := op.rd.sub (by rw [hB]; exact Sub.left _ _)
  have hpl : ps.length ≤ 82 ∧ ∀ w ∈ ps, w.length ≤ 80 := by
    have := splitB_len 59 s
    rw [hps]
    exact ⟨by omega, fun w hw => by have := this.2 w hw; omega⟩
  have hBo : hget B jo = none := by rw [hB]; simp only [subs, dpx, no]
  simp only [walk, lists, acts, mem, plain, seqs, maps, cells, resL, resV, intBin, seval, str, zs, op.rd.len]
  refine vc_loopS [7, 5] (fun n vs h' => ∃ (i : Nat) (v : Value) (xs : List DStatement) (G : H), vs = [.int .i64 i, v] ∧ h' = G ++ B ∧ Dj G B ∧ oLs 161 cStatement 3 v xs G ∧ xs.length = i ∧ (∀ d, dealP d → s = dealText d → xs = d.take i) ∧ i ≤ ps.length ∧ n = ps.length - i) ps.length rfl
    (g0 := [(jo, blk (fl cStatement []) 161)] ++ B) (by rw [hB]; (repeat' first | exact Sub.refl _ | exact Sub.nil _ | assumption | refine Sub.both ?_ ?_ | refine Sub.cons_of (by simp only [subs, dpx, hjn, no, ejn]) ?_ | exact Sub.left _ _ | refine Sub.app (by simp only [subs, dpx, hjn, no, ejn]) ?_ | refine Sub.cons (by simp only [subs, dpx, hjn, no, ejn]) ?_)) ⟨0, _, [], _, rfl, rfl, by simp only [subs, hBo], oo, rfl, by simp, by omega, rfl⟩ ?_
  rintro n f h' ⟨i, v, xs, G, hv, rfl, dG, oG, hxl, hin, hi, rfl⟩
  simp only [List.map_cons, List.map_nil, List.cons.injEq, and_true] at hv
  have sG := Sub.right dG
  simp (disch := omega) only [walk, lists, acts, mem, plain, seqs, maps, cells, resL, resV, intBin, seval, wr, hv.1, hv.2, (rpB.sub sG).len, wrapI, str, zs]
  refine ite_lt (fun c1 => ?_) fun c1 => ?_
  · have hi2 : i < ps.length := by omega
    refine idx_leaf (i := i) eT_len (rpB.sub sG) rfl hi2 fun b1 o1 e1 => ?_
    have e1' : hread (G ++ B) b1 o1 1 = some [.string ⟨ps[i].toArray⟩] := e1
    simp only [walk, lists, acts, mem, plain, seqs, maps, cells, resL, resV, intBin, seval, hread_1 e1', str, zs]
    have hwl := hpl.2 _ (List.getElem_mem hi2)
    refine (l1Cut_c (c := 32) (by omega) fun wv gw ow dw => ?_)
    obtain ⟨ws, hws⟩ : ∃ ws, ws = splitB 32 ps[i] := ⟨_, rfl⟩
    rw [← hws] at ow
    obtain ⟨w0, wr0, hw0⟩ : ∃ w0 wr0, ws = w0 :: wr0 := by
      cases e : ws with
      | nil => exact absurd (hws.symm.trans e) (splitB_ne _ _)
      | cons a b => exact ⟨a, b, rfl⟩
    have hwsl : ws.length ≤ 82 ∧ ∀ w ∈ ws, w.length ≤ 80 := by
      have := splitB_len 32 ps[i]
      rw [hws]
      exact ⟨by omega, fun w hw => by have := this.2 w hw; omega⟩
    simp only [walk, lists, acts, mem, plain, seqs, maps, cells, resL, resV, intBin, seval, str, zs]
    refine newB_intro fun j9 hj9 => ?_
    have n9 := hj9
    simp only [subs] at n9
    simp only [walk, lists, acts, mem, plain, seqs, maps, cells, resL, resV, intBin, seval, wStatement, str, zs]
    have sW : Tk.Sub (gw ++ (G ++ B)) (gw ++ (G ++ B)) := .refl _
    have rW : rLs (gw ++ (G ++ B)) eT 1 wv ws := ow.rd.sub (Sub.left _ _)
    have sGw := Sub.right dw
    have sj9 : ∀ x, Tk.Sub (gw ++ (G ++ B)) ((j9, blk (cStatement x) 161) :: (gw ++ (G ++ B))) := fun x => Sub.cons hj9 (Sub.refl _)
    obtain ⟨M, hM⟩ : ∃ M, M = gw ++ (G ++ B) := ⟨_, rfl⟩
    rw [← hM] at hj9 rW sGw sj9 ⊢
    have stw : ∀ st, ps[i] = stW st → ws = wordsD st := fun st e => by rw [hws, e, stW_split]
    refine vc_loop [10] (fun n vs h' => ∃ (q : Nat) (x : DStatement), vs = [.int .i64 q] ∧ h' = (j9, blk (cStatement x) 161) :: M ∧ x.key = 0 ∧ x.num = 0 ∧ 1 ≤ q ∧ q ≤ 5 ∧ (∀ st, stP st → ps[i] = stW st → x.do_ = if st.do_ < q then st.do_ else 0) ∧ n = 5 - q) 4 rfl
      ⟨1, zStatement, rfl, rfl, rfl, rfl, by omega, by omega, fun st hst _ => by rw [if_neg (by have := hst.1; unfold inP at this; omega)]; rfl, rfl⟩ ?_
    rintro n f' h' ⟨q, x, hv', rfl, hx1, hx2, hq1, hq2, hxd, rfl⟩
    simp only [List.map_cons, List.map_nil, List.cons.injEq, and_true] at hv'
    simp only [walk, lists, acts, mem, plain, seqs, maps, cells, resL, resV, intBin, seval, wr, hv', wStatement, str, zs]
    refine ite_ge (fun c2 => ?_) fun c2 => ?_
    · have hq4 : q ≤ 4 := by omega
      refine vc_draw _ (Sub.refl _) ?_
      simp only [walk, lists, acts, mem, plain, seqs, maps, cells, resL, resV, intBin, seval, wStatement, str]
      refine idx_leaf (i := 0) eT_len (rW.sub (sj9 x)) rfl (by rw [hw0]; simp) fun b2 o2 e2 => ?_
      have e2' : hread ((j9, blk (cStatement x) 161) :: M) b2 o2 1 = some [.string ⟨w0.toArray⟩] := by rw [e2]; simp only [hw0]; rfl
      simp only [walk, lists, acts, mem, plain, seqs, maps, cells, resL, resV, intBin, seval, hread_1 e2', wStatement, str]
      refine newB_intro (o := blk (fl eT tbD) 9) fun j5 hj5 => ?_
      have sj5 := Sub_new (o := blk (fl eT tbD) 9) hj5
      simp only [walk, lists, acts, mem, plain, seqs, maps, cells, resL, resV, intBin, seval, sj5]
      refine ⟨⟨by omega, by omega⟩, ?_⟩
      rw [tbD_get ⟨hq1, hq4⟩]
      have n5 := hj5
      simp only [subs] at n5
      have e95 : ¬ j9 = j5 := fun e => n5.1 e.symm
      simp only [walk, lists, acts, mem, plain, seqs, maps, cells, resL, resV, intBin, seval, sj5, wStatement, str, strBin, str_inj, e95]
      have nx : ∀ x' : DStatement, x'.key = 0 → x'.num = 0 → (∀ st, stP st → ps[i] = stW st → x'.do_ = if st.do_ < ((q + 1 : Nat) : Int) then st.do_ else 0) →
          ∃ m, m < 5 - q ∧ ∃ g', Tk.Sub g' ((j5, blk (fl eT tbD) 9) :: (j9, blk (cStatement x') 161) :: M) ∧ ∃ (q' : Nat) (x'' : DStatement), [Value.int IntKind.i64 (IntKind.i64.wrap ((q : Int) + 1))] = [Value.int IntKind.i64 q'] ∧ g' = (j9, blk (cStatement x'') 161) :: M ∧ x''.key = 0 ∧ x''.num = 0 ∧ 1 ≤ q' ∧ q' ≤ 5 ∧ (∀ st, stP st → ps[i] = stW st → x''.do_ = if st.do_ < q' then st.do_ else 0) ∧ m = 5 - q' := fun x' h1 h2 h3 =>
        ⟨5 - (q + 1), by omega, _, Sub.cons (by simp only [subs, n5]) (Sub.refl _), q + 1, x', by simp (disch := omega) only [wrapI]; simp, rfl, h1, h2, by omega, by omega, h3, rfl⟩
      refine ite_pos (fun c4 => ?_) fun c4 => ?_
      · refine nx { x with do_ := q } hx1 hx2 fun st hst e => ?_
        have hw := stw st e
        rw [hw0] at hw
        have hnm : w0 = nmD st.do_ := (List.cons.inj hw).1
        have hd := hst.1
        unfold inP at hd
        have := nmD_inj (m := (q : Int)) (n := st.do_) (by omega) (by omega) (by rw [← c4, hnm])
        rw [if_pos (by omega), this]
      · refine nx x hx1 hx2 fun st hst e => ?_
        have hw := stw st e
        rw [hw0] at hw
        have hnm : w0 = nmD st.do_ := (List.cons.inj hw).1
        rw [hxd st hst e]
        have hne : st.do_ ≠ (q : Int) := fun e2 => c4 (by rw [hnm, e2])
        by_cases c5 : st.do_ < (q : Int)
        · rw [if_pos c5, if_pos (by omega)]
        · rw [if_neg c5, if_neg (by omega)]
    · have hq5 : q = 5 := by omega
      subst hq5
      have hdo : ∀ st, stP st → ps[i] = stW st → x.do_ = st.do_ := fun st hst e => by
        rw [hxd st hst e, if_pos]
        have := hst.1
        unfold inP at this
        omega
      have rWl : ∀ {f : Value → Prop}, lenSK wv f = f (.int .i64 ws.length) := fun {f} => rW.len (f := f)
      have hwlen : ∀ st, ps[i] = stW st → ws.length = if st.do_ = 1 then 2 else 3 := fun st e => by rw [stw st e, words_len]
      simp only [walk, lists, acts, mem, plain, seqs, maps, cells, resL, resV, intBin, seval, wStatement, str, zs, rWl]
      have nxt : ∀ x', (∀ st, stP st → ps[i] = stW st → x' = st) → ∀ d, dealP d → s = dealText d → xs ++ [x'] = d.take (i + 1) := fun x' hx' d hd e => by
        obtain ⟨hdl, hp⟩ := deal_part e (i := i) (by rw [← hps]; omega)
        have hp' : ps[i] = stW d[i] := by
          have : ∀ (m : List (List UInt8)) (hm : i < m.length), m = splitB 59 s → m[i] = stW d[i] := by rintro m hm rfl; exact hp
          exact this ps hi2 hps
        rw [List.take_succ_eq_append_getElem hdl, hin d hd e, hx' _ (hd.2.2 _ (List.getElem_mem hdl)) hp']
      have w1 : ∀ st, ps[i] = stW st → ∀ (h1 : 1 < ws.length), ws[1] = decI st.key := fun st e h1 => by
        have : ∀ (m : List (List UInt8)) (hm : 1 < m.length), m = wordsD st → m[1] = decI st.key := by rintro m hm rfl; rfl
        exact this ws h1 (stw st e)
      have w2 : ∀ st, ps[i] = stW st → ∀ (h1 : 2 < ws.length), ws[2] = decI st.num := fun st e h1 => by
        have : ∀ (m : List (List UInt8)) (hm : 2 < m.length), m = wordsD st → m[2] = decI st.num := by
          rintro m hm rfl
          unfold wordsD at hm ⊢
          by_cases c : st.do_ = 1
          · simp only [if_pos c, List.length_cons, List.length_nil] at hm; omega
          · simp only [if_neg c]; rfl
        exact this ws h1 (stw st e)
      have eqS : ∀ {a b : DStatement}, a.do_ = b.do_ → a.key = b.key → a.num = b.num → a = b := fun {a b} h1 h2 h3 => by
        obtain ⟨a1, a2, a3⟩ := a
        obtain ⟨b1, b2, b3⟩ := b
        simp only at h1 h2 h3
        rw [h1, h2, h3]
      refine ite_lt (fun c5 => ?_) fun c5 => ?_
      · have l1 : 1 < ws.length := by omega
        refine idx_leaf (i := 1) eT_len (rW.sub (sj9 x)) rfl l1 fun b3 o3 e3 => ?_
        have e3' : hread ((j9, blk (cStatement x) 161) :: M) b3 o3 1 = some [.string ⟨(ws[1]).toArray⟩] := e3
        simp only [walk, lists, acts, mem, plain, seqs, maps, cells, resL, resV, intBin, seval, hread_1 e3', wStatement, str, zs]
        refine l1NumI_c (by have := hwsl.2 _ (List.getElem_mem l1); omega) fun n1 ok1 hn1 _ hb1 => ?_
        simp only [walk, lists, acts, mem, plain, seqs, maps, cells, resL, resV, intBin, seval, wStatement, str, zs, rWl]
        have hk1 : ∀ st, stP st → ps[i] = stW st → n1 = st.key := fun st hst e => (hn1 st.key (stP_sm hst).1 (w1 st e l1)).2
        refine ite_lt (fun c6 => ?_) fun c6 => ?_
        · have l2 : 2 < ws.length := by omega
          refine idx_leaf (i := 2) eT_len (rW.sub (sj9 { x with key := n1 })) rfl l2 fun b4 o4 e4 => ?_
          have e4' : hread ((j9, blk (cStatement { x with key := n1 }) 161) :: M) b4 o4 1 = some [.string ⟨(ws[2]).toArray⟩] := e4
          simp only [walk, lists, acts, mem, plain, seqs, maps, cells, resL, resV, intBin, seval, hread_1 e4', wStatement, str, zs]
          refine l1NumI_c (by have := hwsl.2 _ (List.getElem_mem l2); omega) fun n2 ok2 hn2 _ hb2 => ?_
          simp only [walk, lists, acts, mem, plain, seqs, maps, cells, resL, resV, intBin, seval, wStatement, str, zs, rWl]
          have hm : ∀ st, stP st → ps[i] = stW st → { x with key := n1, num := n2 } = st := fun st hst e => eqS (hdo st hst e) (hk1 st hst e) (hn2 st.num (stP_sm hst).2 (w2 st e l2)).2
          refine newB_intro (o := blk (fl cStatement [{ x with key := n1, num := n2 }]) 161) fun j7 hj7 => ?_
          simp only [walk, lists, acts, mem, plain, seqs, maps, cells, resL, resV, intBin, seval, wStatement, str, zs]
          refine app_leaf (g := G) (h := B) cStatement_len cStatement_one tStatements iStatement (sGw.trans ((sj9 _).trans (Sub.cons hj7 (Sub.refl _)))) dG oG (rL_lit (e := 161) cStatement_len [{ x with key := n1, num := n2 }]) (by simp; omega) (by simp; omega) fun v2 g2 o2 d2 => ?_
          simp (disch := omega) only [walk, lists, acts, mem, plain, seqs, maps, cells, resL, resV, intBin, seval, wrapI]
          refine ⟨ps.length - (i + 1), by omega, _, .refl _, i + 1, v2, _, g2, by simp, rfl, d2, o2, by simp [hxl], fun d hd e => ?_, by omega, rfl⟩
          exact nxt { x with key := n1, num := n2 } hm d hd e
        · have hm : ∀ st, stP st → ps[i] = stW st → { x with key := n1 } = st := fun st hst e => eqS (hdo st hst e) (hk1 st hst e) (by
            have hl := hwlen st e
            have hd1 : st.do_ = 1 := by
              by_cases c : st.do_ = 1
              · exact c
              · rw [if_neg c] at hl; omega
            rw [hst.2.2.2 hd1]; exact hx2)
          refine newB_intro (o := blk (fl cStatement [{ x with key := n1 }]) 161) fun j7 hj7 => ?_
          simp only [walk, lists, acts, mem, plain, seqs, maps, cells, resL, resV, intBin, seval, wStatement, str, zs]
          refine app_leaf (g := G) (h := B) cStatement_len cStatement_one tStatements iStatement (sGw.trans ((sj9 _).trans (Sub.cons hj7 (Sub.refl _)))) dG oG (rL_lit (e := 161) cStatement_len [{ x with key := n1 }]) (by simp; omega) (by simp; omega) fun v2 g2 o2 d2 => ?_
          simp (disch := omega) only [walk, lists, acts, mem, plain, seqs, maps, cells, resL, resV, intBin, seval, wrapI]
          refine ⟨ps.length - (i + 1), by omega, _, .refl _, i + 1, v2, _, g2, by simp, rfl, d2, o2, by simp [hxl], fun d hd e => ?_, by omega, rfl⟩
          exact nxt { x with key := n1 } hm d hd e
      · have c6 : ¬ (2 : Int) < ws.length := by omega
        simp only [walk, lists, acts, mem, plain, seqs, maps, cells, resL, resV, intBin, seval, wStatement, str, zs, rWl, c6, if_false]
        have hm : ∀ st, stP st → ps[i] = stW st → x = st := fun st hst e => by
          have hl := hwlen st e
          split at hl <;> omega
        refine newB_intro (o := blk (fl cStatement [x]) 161) fun j7 hj7 => ?_
        simp only [walk, lists, acts, mem, plain, seqs, maps, cells, resL, resV, intBin, seval, wStatement, str, zs]
        refine app_leaf (g := G) (h := B) cStatement_len cStatement_one tStatements iStatement (sGw.trans ((sj9 _).trans (Sub.cons hj7 (Sub.refl _)))) dG oG (rL_lit (e := 161) cStatement_len [x]) (by simp; omega) (by simp; omega) fun v2 g2 o2 d2 => ?_
        simp (disch := omega) only [walk, lists, acts, mem, plain, seqs, maps, cells, resL, resV, intBin, seval, wrapI]
        refine ⟨ps.length - (i + 1), by omega, _, .refl _, i + 1, v2, _, g2, by simp, rfl, d2, o2, by simp [hxl], fun d hd e => ?_, by omega, rfl⟩
        exact nxt x hm d hd e
  · have fin : ∀ d, dealP d → s = dealText d → xs = d := fun d hd e => by
      rw [hin d hd e]
      refine List.take_of_length_le ?_
      have := congrArg List.length (hps.trans (by rw [e, deal_split]))
      rw [List.length_append, List.length_map, List.length_singleton] at this
      omega
    have hx82 : xs.length ≤ 82 := by omega
    simp only [walk, lists, acts, mem, plain, seqs, maps, cells, resL, resV, intBin, seval, str, strBin, str_inj]
    refine ite_pos (fun c2 => bad (sB.trans sG) fun d hd e _ => ?_) fun c2 => ?_
    · have h1 := hd.1
      cases d with
      | nil => simp at h1
      | cons a d =>
        rw [c2, dealText_cons] at e
        have := congrArg List.length e
        simp at this
    · refine dealWrite_c (oG.rd.sub (Sub.left _ _)) (by omega) fun t ht => ?_
      simp only [walk, lists, acts, mem, plain, seqs, maps, cells, resL, resV, intBin, seval, str, strBin, str_inj]
      refine ite_ne (fun c3 => bad (sB.trans sG) fun d hd e _ => ?_) fun c3 => ?_
      · have := fin d hd e
        rcases ht with ⟨_, ht⟩ | ⟨hn, _⟩
        · rw [this, ← e] at ht
          exact c3 ht
        · rw [this] at hn
          exact hn hd
      · rcases ht with ⟨hp, ht⟩ | ⟨_, ht⟩
        · have dh : Dj G h := by
            have := dG
            rw [hB] at this
            simp only [subs] at this
            exact this.2.2
          refine ⟨G ++ h, ?_, k v G xs true (.inl ⟨rfl, hp, by rw [← c3, ht], by omega⟩) oG dh⟩
          rw [hB] at dG ⊢
          have dg := dG
          simp only [subs] at dg
          (repeat' first | exact Sub.refl _ | exact Sub.nil _ | assumption | refine Sub.both ?_ ?_ | refine Sub.cons_of (by simp only [subs, dg, dpx, hjn]) ?_ | exact Sub.left _ _ | refine Sub.app (by simp only [subs, dg, dpx, hjn]) ?_ | refine Sub.cons (by simp only [subs, dg, dpx, hjn]) ?_)
        · exact absurd (by rw [← c3, ht]) c2
end Go.Proofs.YtmfhlkkligcgdaaGreatDoor
end

/- How the program reads a statement. -/
section
set_option linter.unusedVariables false
set_option linter.unusedSimpArgs false
set_option maxRecDepth 20000
attribute [local irreducible] Go.Tk.vc Go.Tk.vops Go.Tk.vdr Go.Tk.vop Go.Tk.vfl Go.Tk.HCalls
namespace Go.Tk
open Go
def tb4 : List (List UInt8) := [[103, 101, 116], [112, 117, 116], [97, 100, 100], [110, 101, 101, 100]]
theorem tb4_nm {n : Int} (h : 1 ≤ n ∧ n ≤ 4) : ∃ (i : Nat) (hi : i < tb4.length), (i : Int) = n - 1 ∧ tb4[i] = nmD n ∧ ∀ j (hj : j < i), tb4[j]'(by omega) ≠ nmD n := by
  have : n = 1 ∨ n = 2 ∨ n = 3 ∨ n = 4 := by omega
  rcases this with rfl | rfl | rfl | rfl
  · refine ⟨0, by decide, rfl, rfl, fun j hj => ?_⟩
    exact absurd hj (Nat.not_lt_zero _)
  · refine ⟨1, by decide, rfl, rfl, fun j hj => ?_⟩
    have : j = 0 := by omega
    subst this
    show ([103, 101, 116] : List UInt8) ≠ [112, 117, 116]
    decide
  · refine ⟨2, by decide, rfl, rfl, fun j hj => ?_⟩
    have : j = 0 ∨ j = 1 := by omega
    rcases this with rfl | rfl
    · show ([103, 101, 116] : List UInt8) ≠ [97, 100, 100]
      decide
    · show ([112, 117, 116] : List UInt8) ≠ [97, 100, 100]
      decide
  · refine ⟨3, by decide, rfl, rfl, fun j hj => ?_⟩
    have : j = 0 ∨ j = 1 ∨ j = 2 := by omega
    rcases this with rfl | rfl | rfl
    · show ([103, 101, 116] : List UInt8) ≠ [110, 101, 101, 100]
      decide
    · show ([112, 117, 116] : List UInt8) ≠ [110, 101, 101, 100]
      decide
    · show ([97, 100, 100] : List UInt8) ≠ [110, 101, 101, 100]
      decide
end Go.Tk
namespace Go.Proofs.YtmfhlkkligcgdaaGreatDoor
open Go Go.Tk

theorem readStatement_c {h : H} {s : List UInt8} (gl : Gl h) (gm : MxL h) (hs : s.length ≤ 4000000) {R : Ending → H → Prop} (k : ∀ x ok, (∀ st, stP st → s = stW st → ok = true ∧ x = st) → R (.returned (.tuple #[.agg (cStatement x).toArray, .bool ok])) h) :
    HCalls Tryz.prog 138 #[.string ⟨s.toArray⟩] h R := by
  refine HCalls_ir (args := [.string ⟨s.toArray⟩]) Tryz.func138 ir138 ?_
  have zs := zStatement_eq
  simp only [walk, lists, acts, mem, plain, seqs, maps, cells, resL, resV, intBin, seval, str, zs]
  refine newB_intro fun j2 hj2 => ?_
  have s2 := fun o => Sub.cons (o := o) hj2 (Sub.refl h)
  simp only [walk, lists, acts, mem, plain, seqs, maps, cells, resL, resV, intBin, seval, str, zs]
  refine split_c (c := 32) (gm.sub (s2 _)) (by omega) fun wv gw ow dw => ?_
  obtain ⟨ws, hws⟩ : ∃ ws, ws = splitB 32 s := ⟨_, rfl⟩
  rw [← hws] at ow
  have dwx := dw
  simp only [subs] at dwx
  obtain ⟨w0, wr0, hw0⟩ : ∃ w0 wr0, ws = w0 :: wr0 := by
    cases e : ws with
    | nil => exact absurd (hws.symm.trans e) (splitB_ne _ _)
    | cons a b => exact ⟨a, b, rfl⟩
  have hwsl : ws.length ≤ 4000001 ∧ ∀ w ∈ ws, w.length ≤ 4000000 := by
    have := splitB_len 32 s
    rw [hws]
    exact ⟨by omega, fun w hw => by have := this.2 w hw; omega⟩
  have stw : ∀ st, s = stW st → ws = wordsD st := fun st e => by rw [hws, e, stW_split]
  have sM : ∀ o, Tk.Sub h (gw ++ ((j2, o) :: h)) := fun o => by (repeat' first | exact Sub.refl _ | exact Sub.nil _ | assumption | refine Sub.both ?_ ?_ | refine Sub.cons_of (by simp only [subs, dwx, hj2]) ?_ | exact Sub.left _ _ | refine Sub.app (by simp only [subs, dwx, hj2]) ?_ | refine Sub.cons (by simp only [subs, dwx, hj2]) ?_)
  have rW : ∀ o, rLs (gw ++ ((j2, o) :: h)) eT 1 wv ws := fun o => ow.rd.sub (Sub.left _ _)
  have rWl : ∀ {f : Value → Prop}, lenSK wv f = f (.int .i64 ws.length) := fun {f} => (rW (blk [] 0)).len (f := f)
  simp only [walk, lists, acts, mem, plain, seqs, maps, cells, resL, resV, intBin, seval, str, zs]
  refine newB_intro (o := blk (fl eT tb4) 9) fun j5 hj5 => ?_
  have n5 := hj5
  simp only [subs] at n5
  have s5 := Sub.cons (o := blk (fl eT tb4) 9) hj5 (Sub.refl (gw ++ ((j2, blk (cStatement zStatement) 161) :: h)))
  simp only [walk, lists, acts, mem, plain, seqs, maps, cells, resL, resV, intBin, seval, str, zs]
  refine idx_leaf (i := 0) eT_len ((rW _).sub s5) rfl (by rw [hw0]; simp) fun b2 o2 e2 => ?_
  have e2' : hread ((j5, blk (fl eT tb4) 9) :: (gw ++ ((j2, blk (cStatement zStatement) 161) :: h))) b2 o2 1 = some [.string ⟨w0.toArray⟩] := by rw [e2]; simp only [hw0]; rfl
  simp only [walk, lists, acts, mem, plain, seqs, maps, cells, resL, resV, intBin, seval, hread_1 e2', str, zs]
  refine index_of_c (rL_lit eT_len tb4) (by decide) fun n hn1 hn2 hn3 => ?_
  have hn4 : n < 4 := hn3.2
  have hdo : ∀ st, stP st → s = stW st → n + 1 = st.do_ := fun st hst e => by
    have hw := stw st e
    rw [hw0] at hw
    have hd := hst.1
    unfold inP at hd
    obtain ⟨i, hi, h1, h2, h3⟩ := tb4_nm (n := st.do_) hd
    rw [← (List.cons.inj hw).1] at h2 h3
    have := hn1 i hi h2 h3
    omega
  have wlen : ∀ st, s = stW st → ws.length = if st.do_ = 1 then 2 else 3 := fun st e => by rw [stw st e, words_len]
  have w1 : ∀ st, s = stW st → ∀ (h1 : 1 < ws.length), ws[1] = decI st.key := fun st e h1 => by
    have : ∀ (m : List (List UInt8)) (hm : 1 < m.length), m = wordsD st → m[1] = decI st.key := by rintro m hm rfl; rfl
    exact this ws h1 (stw st e)
  have w2 : ∀ st, s = stW st → ∀ (h1 : 2 < ws.length), ws[2] = decI st.num := fun st e h1 => by
    have : ∀ (m : List (List UInt8)) (hm : 2 < m.length), m = wordsD st → m[2] = decI st.num := by
      rintro m hm rfl
      unfold wordsD at hm ⊢
      by_cases c : st.do_ = 1
      · simp only [if_pos c, List.length_cons, List.length_nil] at hm; omega
      · simp only [if_neg c]; rfl
    exact this ws h1 (stw st e)
  have eqS : ∀ {a b : DStatement}, a.do_ = b.do_ → a.key = b.key → a.num = b.num → a = b := fun {a b} h1 h2 h3 => by
    obtain ⟨a1, a2, a3⟩ := a
    obtain ⟨b1, b2, b3⟩ := b
    simp only at h1 h2 h3
    rw [h1, h2, h3]
  have bad : ∀ {o : Obj} {x : DStatement} {M : H}, Tk.Sub h M → (∀ st, stP st → s = stW st → False) → dP R (.returned (.tuple #[.agg (cStatement x).toArray, .bool false])) M := fun {o x M} sm e => ⟨h, sm, k x false fun st a b => (e st a b).elim⟩
  have e25 : ¬ j2 = j5 := fun e => n5.2.1 e.symm
  have sH : ∀ o, Tk.Sub h ((j5, blk (fl eT tb4) 9) :: (gw ++ ((j2, o) :: h))) := fun o => by (repeat' first | exact Sub.refl _ | exact Sub.nil _ | assumption | refine Sub.both ?_ ?_ | refine Sub.cons_of (by simp only [subs, dwx, hj2, n5]) ?_ | exact Sub.left _ _ | refine Sub.app (by simp only [subs, dwx, hj2, n5]) ?_ | refine Sub.cons (by simp only [subs, dwx, hj2, n5]) ?_)
  simp (disch := omega) only [walk, lists, acts, mem, plain, seqs, maps, cells, resL, resV, intBin, seval, str, zs, wrapI, rWl]
  have a1 : ∀ st, stP st → s = stW st → ∀ (h1 : 1 < ws.length), Lib.atoiAll ws[1] = .ok st.key := fun st hst e h1 => by rw [w1 st e h1]; exact atoi_dec (stP_sm hst).1
  have a2 : ∀ st, stP st → s = stW st → ∀ (h1 : 2 < ws.length), Lib.atoiAll ws[2] = .ok st.num := fun st hst e h1 => by rw [w2 st e h1]; exact atoi_dec (stP_sm hst).2
  refine ite_pos (fun c1 => ?_) fun c1 => ?_
  · have c0 : ¬ (1 + n = 0) := by omega
    simp (disch := omega) only [walk, lists, acts, mem, plain, seqs, maps, cells, resL, resV, intBin, seval, wStatement, str, zs, wrapI, rWl, c0, if_false]
    simp only [walk, lists, acts, mem, plain, seqs, maps, cells, resL, resV, intBin, seval, wStatement, str, zs, apps, dwx, e25]
    refine ite_ne (fun c2 => bad (o := blk [] 0) (sH _) fun st hst e => ?_) fun c2 => ?_
    · have := wlen st e
      rw [if_pos (by have := hdo st hst e; omega)] at this
      omega
    refine newB_intro fun j7 hj7 => ?_
    have n7 := hj7
    simp only [subs] at n7
    have e75 : ¬ j5 = j7 := fun e => n7.1 e.symm
    have e72 : ¬ j2 = j7 := fun e => n7.2.2.1 e.symm
    have s7 := fun o => Sub.cons (o := o) hj7 (Sub.refl ((j5, blk (fl eT tb4) 9) :: (gw ++ ((j2, blk (cStatement zStatement) 161) :: h))))
    simp only [walk, lists, acts, mem, plain, seqs, maps, cells, resL, resV, intBin, seval, wStatement, str, zs, apps, dwx, e25, e75, e72]
    have l1 : 1 < ws.length := by omega
    refine idx_leaf (i := 1) eT_len (((rW _).sub s5).sub (s7 (blk (cStatement { zStatement with do_ := 1 + n }) 161))) rfl l1 fun b3 o3 e3 => ?_
    have e3' : hread ((j7, blk (cStatement { zStatement with do_ := 1 + n }) 161) :: ((j5, blk (fl eT tb4) 9) :: (gw ++ ((j2, blk (cStatement zStatement) 161) :: h)))) b3 o3 1 = some [.string ⟨(ws[1]).toArray⟩] := e3
    simp only [walk, lists, acts, mem, plain, seqs, maps, cells, resL, resV, intBin, seval, hread_1 e3', wStatement, str, zs]
    refine atoiL_c (gl.sub ((sH _).trans (s7 _))) (by have := hwsl.2 _ (List.getElem_mem l1); omega) fun n1 x1 hn1 rn1 tn1 => ?_
    have bd1 : x1 ≠ .nilIface → ∀ st, stP st → s = stW st → False := fun hx st hst e => hx (hn1 _ (a1 st hst e l1)).2
    simp only [walk, lists, acts, mem, plain, seqs, maps, cells, resL, resV, intBin, seval, wStatement, str, zs, apps, dwx, e25, e75, e72]
    rcases tn1 with rfl | ⟨y1, p1, rfl⟩
    rotate_left
    · simp only [walk, lists, acts, mem, plain, seqs, maps, cells, resL, resV, intBin, seval, wStatement, str, zs, apps, dwx, e25, e75, e72]
      exact bad (o := blk [] 0) ((sH _).trans (s7 _)) (bd1 (by simp))
    simp only [walk, lists, acts, mem, plain, seqs, maps, cells, resL, resV, intBin, seval, wStatement, str, zs, apps, dwx, e25, e75, e72]
    refine ⟨rfl, ⟨h, (sH _).trans (Sub.cons (by simp only [subs, n7]) (Sub.refl _)), k _ true fun st hst e => ⟨rfl, eqS ?_ ?_ ?_⟩⟩⟩
    · show 1 + n = st.do_
      have := hdo st hst e; omega
    · exact (hn1 _ (a1 st hst e l1)).1
    · exact (hst.2.2.2 (by have := hdo st hst e; omega)).symm
  · refine ite_pos (fun c0 => ?_) fun c0 => ?_
    · simp only [walk, lists, acts, mem, plain, seqs, maps, cells, resL, resV, intBin, seval, wStatement, str, zs, apps, dwx, e25]
      refine bad (o := blk [] 0) (sH _) fun st hst e => ?_
      have h1 := hdo st hst e
      have h2 := hst.1
      unfold inP at h2
      omega
    · simp (disch := omega) only [walk, lists, acts, mem, plain, seqs, maps, cells, resL, resV, intBin, seval, wStatement, str, zs, wrapI, rWl]
      simp only [walk, lists, acts, mem, plain, seqs, maps, cells, resL, resV, intBin, seval, wStatement, str, zs, apps, dwx, e25]
      refine ite_ne (fun c2 => bad (o := blk [] 0) (sH _) fun st hst e => ?_) fun c2 => ?_
      · have := wlen st e
        rw [if_neg (by have := hdo st hst e; omega)] at this
        omega
      refine newB_intro fun j7 hj7 => ?_
      have n7 := hj7
      simp only [subs] at n7
      have e75 : ¬ j5 = j7 := fun e => n7.1 e.symm
      have e72 : ¬ j2 = j7 := fun e => n7.2.2.1 e.symm
      have s7 := fun o => Sub.cons (o := o) hj7 (Sub.refl ((j5, blk (fl eT tb4) 9) :: (gw ++ ((j2, blk (cStatement zStatement) 161) :: h))))
      simp only [walk, lists, acts, mem, plain, seqs, maps, cells, resL, resV, intBin, seval, wStatement, str, zs, apps, dwx, e25, e75, e72]
      have l1 : 1 < ws.length := by omega
      have l2 : 2 < ws.length := by omega
      refine idx_leaf (i := 1) eT_len (((rW _).sub s5).sub (s7 (blk (cStatement { zStatement with do_ := 1 + n }) 161))) rfl l1 fun b3 o3 e3 => ?_
      have e3' : hread ((j7, blk (cStatement { zStatement with do_ := 1 + n }) 161) :: ((j5, blk (fl eT tb4) 9) :: (gw ++ ((j2, blk (cStatement zStatement) 161) :: h)))) b3 o3 1 = some [.string ⟨(ws[1]).toArray⟩] := e3
      simp only [walk, lists, acts, mem, plain, seqs, maps, cells, resL, resV, intBin, seval, hread_1 e3', wStatement, str, zs]
      refine atoiL_c (gl.sub ((sH _).trans (s7 _))) (by have := hwsl.2 _ (List.getElem_mem l1); omega) fun n1 x1 hn1 rn1 tn1 => ?_
      have bd1 : x1 ≠ .nilIface → ∀ st, stP st → s = stW st → False := fun hx st hst e => hx (hn1 _ (a1 st hst e l1)).2
      simp only [walk, lists, acts, mem, plain, seqs, maps, cells, resL, resV, intBin, seval, wStatement, str, zs, apps, dwx, e25, e75, e72]
      rcases tn1 with rfl | ⟨y1, p1, rfl⟩
      rotate_left
      · simp only [walk, lists, acts, mem, plain, seqs, maps, cells, resL, resV, intBin, seval, wStatement, str, zs, apps, dwx, e25, e75, e72]
        exact bad (o := blk [] 0) ((sH _).trans (s7 _)) (bd1 (by simp))
      simp only [walk, lists, acts, mem, plain, seqs, maps, cells, resL, resV, intBin, seval, wStatement, str, zs, apps, dwx, e25, e75, e72]
      refine ⟨rfl, ?_⟩
      refine idx_leaf (i := 2) eT_len (((rW _).sub s5).sub (s7 (blk (cStatement { zStatement with do_ := 1 + n, key := n1 }) 161))) rfl l2 fun b4 o4 e4 => ?_
      have e4' : hread ((j7, blk (cStatement { zStatement with do_ := 1 + n, key := n1 }) 161) :: ((j5, blk (fl eT tb4) 9) :: (gw ++ ((j2, blk (cStatement zStatement) 161) :: h)))) b4 o4 1 = some [.string ⟨(ws[2]).toArray⟩] := e4
      simp only [walk, lists, acts, mem, plain, seqs, maps, cells, resL, resV, intBin, seval, hread_1 e4', wStatement, str, zs]
      refine atoiL_c (gl.sub ((sH _).trans (s7 _))) (by have := hwsl.2 _ (List.getElem_mem l2); omega) fun n2 x2 hn2 rn2 tn2 => ?_
      have bd2 : x2 ≠ .nilIface → ∀ st, stP st → s = stW st → False := fun hx st hst e => hx (hn2 _ (a2 st hst e l2)).2
      simp only [walk, lists, acts, mem, plain, seqs, maps, cells, resL, resV, intBin, seval, wStatement, str, zs, apps, dwx, e25, e75, e72]
      rcases tn2 with rfl | ⟨y2, p2, rfl⟩
      rotate_left
      · simp only [walk, lists, acts, mem, plain, seqs, maps, cells, resL, resV, intBin, seval, wStatement, str, zs, apps, dwx, e25, e75, e72]
        exact bad (o := blk [] 0) ((sH _).trans (s7 _)) (bd2 (by simp))
      simp only [walk, lists, acts, mem, plain, seqs, maps, cells, resL, resV, intBin, seval, wStatement, str, zs, apps, dwx, e25, e75, e72]
      refine ⟨rfl, ?_⟩
      refine ⟨h, (sH _).trans (Sub.cons (by simp only [subs, n7]) (Sub.refl _)), k _ true fun st hst e => ⟨rfl, eqS ?_ ?_ ?_⟩⟩
      · show 1 + n = st.do_
        have := hdo st hst e; omega
      · exact (hn1 _ (a1 st hst e l1)).1
      · exact (hn2 _ (a2 st hst e l2)).1
end Go.Proofs.YtmfhlkkligcgdaaGreatDoor
end

/- How the program keeps and writes the statements of a deal. -/
section
set_option linter.unusedVariables false
set_option linter.unusedSimpArgs false
set_option maxRecDepth 20000
attribute [local irreducible] Go.Tk.vc Go.Tk.vops Go.Tk.vdr Go.Tk.vop Go.Tk.vfl Go.Tk.HCalls
namespace Go.Proofs.YtmfhlkkligcgdaaGreatDoor
open Go Go.Tk

/-- A statement by its kind. -/
def stepV (s : DStatement) : Value := if s.do_ = 1 then .iface 201 (.agg #[.int .i64 s.key]) else if s.do_ = 2 then .iface 203 (.agg #[.int .i64 s.key, .int .i64 s.num]) else if s.do_ = 3 then .iface 204 (.agg #[.int .i64 s.key, .int .i64 s.num]) else .iface 205 (.agg #[.int .i64 s.key, .int .i64 s.num])
def eStep (s : DStatement) : List Value := [stepV s]
theorem eStep_len (s : DStatement) : (eStep s).length = 1 := rfl
theorem stepV_one (s : DStatement) : vone (stepV s) = true := by
  unfold stepV
  repeat' split
  all_goals rfl
theorem stepV_cells (s : DStatement) : vcells (stepV s) = [stepV s] := by
  unfold stepV
  repeat' split
  all_goals rfl
theorem eStep_one (l : List DStatement) : (fl eStep l).all vone = true := by
  induction l with
  | nil => rfl
  | cons a l ih => rw [fl_cons, List.all_append, ih]; simp [eStep, stepV_one]

theorem stepOf_c {h : H} {x : DStatement} {R : Ending → H → Prop} (k1 : stP x → R (.returned (.tuple #[stepV x, .bool true])) h) (k2 : ¬ stP x → ∀ v, R (.returned (.tuple #[v, .bool false])) h) :
    HCalls Tryz.prog 156 #[.agg (cStatement x).toArray] h R := by
  refine HCalls_ir (args := [.agg (cStatement x).toArray]) Tryz.func156 ir156 ?_
  simp only [walk, lists, acts, mem, plain, seqs, maps, cells, resL, resV, intBin, seval, wStatement]
  refine newB_intro fun j1 hj1 => ?_
  have s1 := Sub.cons (o := blk (cStatement x) 161) hj1 (Sub.refl h)
  simp only [walk, lists, acts, mem, plain, seqs, maps, cells, resL, resV, intBin, seval, wStatement]
  refine isKey_c fun b1 hb1 => ?_
  simp only [walk, lists, acts, mem, plain, seqs, maps, cells, resL, resV, intBin, seval, wStatement]
  refine ite_f (fun e => ⟨h, s1, k2 (fun p => not_b hb1 e p.2.1) _⟩) fun e1 => ?_
  refine isVal_c fun b2 hb2 => ?_
  simp only [walk, lists, acts, mem, plain, seqs, maps, cells, resL, resV, intBin, seval, wStatement]
  refine ite_f (fun e => ⟨h, s1, k2 (fun p => not_b hb2 e p.2.2.1) _⟩) fun e2 => ?_
  have key := hb1.1 e1
  have val := hb2.1 e2
  have bad : ¬ (1 ≤ x.do_ ∧ x.do_ ≤ 4) → ¬ stP x := fun c p => c p.1
  refine ite_pos (fun c1 => ?_) fun c1 => ?_
  · refine vc_draw _ (Sub.refl _) ?_
    simp only [walk, lists, acts, mem, plain, seqs, maps, cells, resL, resV, intBin, seval, wStatement]
    by_cases c0 : x.num = 0
    · have sv : stepV x = .iface 201 (.agg #[.int .i64 x.key]) := by unfold stepV; rw [if_pos c1]
      rw [decide_eq_true c0]
      have := k1 ⟨by unfold inP; omega, key, val, fun _ => c0⟩
      rw [sv] at this
      exact ⟨h, s1, this⟩
    · rw [decide_eq_false c0]
      exact ⟨h, s1, k2 (fun p => c0 (p.2.2.2 c1)) _⟩
  refine ite_pos (fun c2 => ?_) fun c2 => ?_
  · have sv : stepV x = .iface 203 (.agg #[.int .i64 x.key, .int .i64 x.num]) := by unfold stepV; rw [if_neg c1, if_pos c2]
    have := k1 ⟨by unfold inP; omega, key, val, fun e => absurd e c1⟩
    rw [sv] at this
    exact ⟨h, s1, this⟩
  refine ite_pos (fun c3 => ?_) fun c3 => ?_
  · have sv : stepV x = .iface 204 (.agg #[.int .i64 x.key, .int .i64 x.num]) := by unfold stepV; rw [if_neg c1, if_neg c2, if_pos c3]
    have := k1 ⟨by unfold inP; omega, key, val, fun e => absurd e c1⟩
    rw [sv] at this
    exact ⟨h, s1, this⟩
  refine ite_pos (fun c4 => ?_) fun c4 => ?_
  · have sv : stepV x = .iface 205 (.agg #[.int .i64 x.key, .int .i64 x.num]) := by unfold stepV; rw [if_neg c1, if_neg c2, if_neg c3]
    have := k1 ⟨by unfold inP; omega, key, val, fun e => absurd e c1⟩
    rw [sv] at this
    exact ⟨h, s1, this⟩
  · exact ⟨h, s1, k2 (bad (by omega)) _⟩

theorem stepsOf_c {h : H} {v : Value} {l : List DStatement} (r : rLs h cStatement 3 v l) (hl : l.length ≤ 1099511627776) {R : Ending → H → Prop} (k1 : dealP l → ∀ v' g, oLs 183 eStep 1 v' l g → Dj g h → R (.returned (.tuple #[v', .bool true])) (g ++ h)) (k2 : ¬ dealP l → R (.returned (.tuple #[.slice none 0 0, .bool false])) h) :
    HCalls Tryz.prog 149 #[v] h R := by
  refine HCalls_ir (args := [v]) Tryz.func149 ir149 ?_
  have zs := zStatement_eq
  simp only [walk, lists, acts, mem, plain, seqs, maps, cells, resL, resV, intBin, seval, r.len, zs]
  refine within_c fun b1 hb1 => ?_
  simp only [walk, lists, acts, mem, plain, seqs, maps, cells, resL, resV, intBin, seval, r.len, zs]
  refine ite_f (fun e => .of (k2 fun p => not_b hb1 e (by have := p.1; have := p.2.1; unfold inP; omega))) fun e1 => ?_
  have hlen := hb1.1 e1
  unfold inP at hlen
  refine ⟨⟨by omega, by omega, by omega⟩, newB_intro fun js hjs => ?_⟩
  have o0 : oLs 183 eStep 1 (.slice (some ⟨js, 0, none⟩) 0 l.length) [] [(js, blk (zrep [.nilIface] l.length) 183)] :=
    ⟨rfl, .inr ⟨js, l.length, zrep [.nilIface] l.length, rfl, Nat.zero_le _, by simp [zrep, fl_nil], rfl⟩⟩
  have ss := Sub.cons (o := blk (zrep [.nilIface] l.length) 183) hjs (Sub.refl h)
  simp only [walk, lists, acts, mem, plain, seqs, maps, cells, resL, resV, intBin, seval, r.len, zs]
  refine vc_loop [18, 4] (fun n vs h' => ∃ (i : Nat) (v' : Value) (G : H), vs = [.int .i64 i, v'] ∧ h' = G ++ h ∧ Dj G h ∧ oLs 183 eStep 1 v' (l.take i) G ∧ allP stP (l.take i) ∧ i ≤ l.length ∧ n = l.length - i) l.length rfl
    ⟨0, _, _, rfl, rfl, by simp only [subs, hjs], o0, allP_zero _ _, by omega, rfl⟩ ?_
  rintro n f h' ⟨i, v', G, hv, rfl, dG, oG, ht, hi, rfl⟩
  simp only [List.map_cons, List.map_nil, List.cons.injEq, and_true] at hv
  have sG := Sub.right dG
  simp only [walk, lists, acts, mem, plain, seqs, maps, cells, resL, resV, intBin, seval, wr, hv.1, hv.2, zs]
  refine ite_lt (fun c2 => ?_) fun c2 => ?_
  · have hi2 : i < l.length := by omega
    refine idx_leaf (i := i) cStatement_len (r.sub sG) rfl hi2 fun b1 o1 e1 => ?_
    simp only [walk, lists, acts, mem, plain, seqs, maps, cells, resL, resV, intBin, seval, e1, zs, wStatement]
    refine newB_intro fun j6 hj6 => ?_
    have n6 := hj6
    simp only [subs] at n6
    have s6 := Sub.cons (o := blk (cStatement l[i]) 161) hj6 (Sub.refl (G ++ h))
    simp only [walk, lists, acts, mem, plain, seqs, maps, cells, resL, resV, intBin, seval, zs, wStatement]
    refine stepOf_c (fun p => ?_) fun p v2 => ?_
    · simp only [walk, lists, acts, mem, plain, seqs, maps, cells, resL, resV, intBin, seval, zs, wStatement, stepV_one, stepV_cells]
      refine newB_intro (o := blk (fl eStep [l[i]]) 183) fun j7 hj7 => ?_
      simp only [walk, lists, acts, mem, plain, seqs, maps, cells, resL, resV, intBin, seval, zs, wStatement]
      refine app_leaf (g := G) (h := h) eStep_len eStep_one tSteps iStep (s6.trans (Sub.cons hj7 (Sub.refl _))) dG oG (rL_lit (e := 183) eStep_len [l[i]]) (by rw [List.length_take]; simp; omega) (by rw [List.length_take]; simp; omega) fun v3 g3 o3 d3 => ?_
      simp (disch := omega) only [walk, lists, acts, mem, plain, seqs, maps, cells, resL, resV, intBin, seval, wrapI]
      refine ⟨l.length - (i + 1), by omega, _, .refl _, i + 1, v3, g3, by simp, rfl, d3, ?_, allP_more hi2 ht p, by omega, rfl⟩
      rw [List.take_succ_eq_append_getElem hi2]; exact o3
    · simp only [walk, lists, acts, mem, plain, seqs, maps, cells, resL, resV, intBin, seval, zs, wStatement]
      exact ⟨h, sG.trans s6, k2 fun q => p (q.2.2 _ (List.getElem_mem hi2))⟩
  · have hi2 : i = l.length := by omega
    subst hi2
    rw [List.take_length] at ht oG
    exact .of (k1 ⟨by omega, by omega, ht⟩ v' G oG dG)

theorem implOk_c {h : H} {v : Value} {l : List DStatement} (r : rLs h cStatement 3 v l) (hl : l.length ≤ 1099511627776) {R : Ending → H → Prop} (k : Asks R (dealP l) h) : HCalls Tryz.prog 139 #[v] h R := by
  refine HCalls_ir (args := [v]) Tryz.func139 ir139 ?_
  simp only [walk, lists, acts, mem, plain, seqs, maps, cells, resL, resV, intBin, seval]
  refine stepsOf_c r hl (fun p v' g o d => ?_) fun p => ?_
  · simp only [walk, lists, acts, mem, plain, seqs, maps, cells, resL, resV, intBin, seval]
    exact ⟨h, Sub.right d, k.yes p⟩
  · simp only [walk, lists, acts, mem, plain, seqs, maps, cells, resL, resV, intBin, seval]
    exact .of (k.no p)

theorem numText_c {h : H} {nm : List UInt8} {a b : Int} (gl : Gl h) (hn : nm.length ≤ 100) (ha : i64P a) (hb : i64P b) {R : Ending → H → Prop} (k : R (.returned (.string ⟨(nm ++ 32 :: (decI a ++ 32 :: (decI b ++ [59]))).toArray⟩)) h) :
    HCalls Tryz.prog 216 #[.string ⟨nm.toArray⟩, .int .i64 a, .int .i64 b] h R := by
  refine HCalls_ir (args := [.string ⟨nm.toArray⟩, .int .i64 a, .int .i64 b]) Tryz.func216 ir216 ?_
  have la := decI_len' ha
  have lb := decI_len' hb
  simp (disch := (first | assumption | (simp only [List.length_append, List.length_cons, List.length_nil]; omega) | omega)) only [walk, lists, acts, mem, plain, seqs, maps, cells, resL, resV, intBin, seval, str, str_add]
  refine itoa_c gl ha ?_
  simp (disch := (first | assumption | (simp only [List.length_append, List.length_cons, List.length_nil]; omega) | omega)) only [walk, lists, acts, mem, plain, seqs, maps, cells, resL, resV, intBin, seval, str, str_add]
  refine itoa_c gl hb ?_
  simp (disch := (first | assumption | (simp only [List.length_append, List.length_cons, List.length_nil]; omega) | omega)) only [walk, lists, acts, mem, plain, seqs, maps, cells, resL, resV, intBin, seval, str, str_add]
  refine .of ?_
  have e : nm ++ [32] ++ decI a ++ [32] ++ decI b ++ [59] = nm ++ 32 :: (decI a ++ 32 :: (decI b ++ [59])) := by simp
  rw [e]; exact k
end Go.Proofs.YtmfhlkkligcgdaaGreatDoor
end

/- How the program writes a deal. -/
section
set_option linter.unusedVariables false
set_option linter.unusedSimpArgs false
set_option maxRecDepth 20000
attribute [local irreducible] Go.Tk.vc Go.Tk.vops Go.Tk.vdr Go.Tk.vop Go.Tk.vfl Go.Tk.HCalls
namespace Go.Proofs.YtmfhlkkligcgdaaGreatDoor
open Go Go.Tk

theorem get_text_c {h : H} {a : Int} (gl : Gl h) (ha : i64P a) {R : Ending → H → Prop} (k : R (.returned (.string ⟨([103, 101, 116, 32] ++ decI a ++ [59]).toArray⟩)) h) :
    HCalls Tryz.prog 214 #[.agg #[.int .i64 a]] h R := by
  refine HCalls_ir (args := [.agg [.int .i64 a].toArray]) Tryz.func214 ir214 ?_
  have la := decI_len' ha
  simp only [walk, lists, acts, mem, plain, seqs, maps, cells, resL, resV, intBin, seval, str]
  refine newB_intro fun j hj => ?_
  have sj := fun o => Sub.cons (o := o) hj (Sub.refl h)
  simp only [walk, lists, acts, mem, plain, seqs, maps, cells, resL, resV, intBin, seval, str]
  refine itoa_c (gl.sub (sj _)) ha ?_
  simp (disch := (first | assumption | (simp only [List.length_append, List.length_cons, List.length_nil]; omega) | omega)) only [walk, lists, acts, mem, plain, seqs, maps, cells, resL, resV, intBin, seval, str, str_add]
  exact ⟨h, sj _, k⟩
theorem putStep_text_c {h : H} {a b : Int} (gl : Gl h) (ha : i64P a) (hb : i64P b) {R : Ending → H → Prop} (k : R (.returned (.string ⟨([112, 117, 116] ++ 32 :: (decI a ++ 32 :: (decI b ++ [59]))).toArray⟩)) h) :
    HCalls Tryz.prog 215 #[.agg #[.int .i64 a, .int .i64 b]] h R := by
  refine HCalls_ir (args := [.agg [.int .i64 a, .int .i64 b].toArray]) Tryz.func215 ir215 ?_
  simp only [walk, lists, acts, mem, plain, seqs, maps, cells, resL, resV, intBin, seval, str]
  refine newB_intro fun j hj => ?_
  have sj := fun o => Sub.cons (o := o) hj (Sub.refl h)
  simp only [walk, lists, acts, mem, plain, seqs, maps, cells, resL, resV, intBin, seval, str]
  refine numText_c (gl.sub (sj _)) (by decide) ha hb ?_
  simp only [walk, lists, acts, mem, plain, seqs, maps, cells, resL, resV, intBin, seval, str]
  exact ⟨h, sj _, k⟩
theorem addStep_text_c {h : H} {a b : Int} (gl : Gl h) (ha : i64P a) (hb : i64P b) {R : Ending → H → Prop} (k : R (.returned (.string ⟨([97, 100, 100] ++ 32 :: (decI a ++ 32 :: (decI b ++ [59]))).toArray⟩)) h) :
    HCalls Tryz.prog 217 #[.agg #[.int .i64 a, .int .i64 b]] h R := by
  refine HCalls_ir (args := [.agg [.int .i64 a, .int .i64 b].toArray]) Tryz.func217 ir217 ?_
  simp only [walk, lists, acts, mem, plain, seqs, maps, cells, resL, resV, intBin, seval, str]
  refine newB_intro fun j hj => ?_
  have sj := fun o => Sub.cons (o := o) hj (Sub.refl h)
  simp only [walk, lists, acts, mem, plain, seqs, maps, cells, resL, resV, intBin, seval, str]
  refine numText_c (gl.sub (sj _)) (by decide) ha hb ?_
  simp only [walk, lists, acts, mem, plain, seqs, maps, cells, resL, resV, intBin, seval, str]
  exact ⟨h, sj _, k⟩
theorem needStep_text_c {h : H} {a b : Int} (gl : Gl h) (ha : i64P a) (hb : i64P b) {R : Ending → H → Prop} (k : R (.returned (.string ⟨([110, 101, 101, 100] ++ 32 :: (decI a ++ 32 :: (decI b ++ [59]))).toArray⟩)) h) :
    HCalls Tryz.prog 218 #[.agg #[.int .i64 a, .int .i64 b]] h R := by
  refine HCalls_ir (args := [.agg [.int .i64 a, .int .i64 b].toArray]) Tryz.func218 ir218 ?_
  simp only [walk, lists, acts, mem, plain, seqs, maps, cells, resL, resV, intBin, seval, str]
  refine newB_intro fun j hj => ?_
  have sj := fun o => Sub.cons (o := o) hj (Sub.refl h)
  simp only [walk, lists, acts, mem, plain, seqs, maps, cells, resL, resV, intBin, seval, str]
  refine numText_c (gl.sub (sj _)) (by decide) ha hb ?_
  simp only [walk, lists, acts, mem, plain, seqs, maps, cells, resL, resV, intBin, seval, str]
  exact ⟨h, sj _, k⟩
theorem step_text_c {h : H} {s : DStatement} (gl : Gl h) (hp : stP s) {R : Ending → H → Prop} (k : R (.returned (.string ⟨(stText s).toArray⟩)) h) : invK Tryz.prog (stepV s) "loop.example/turnpike/impl.text" [] h R := by
  obtain ⟨hd, hk, hv, _⟩ := hp
  unfold inP at hd
  have ik : i64P s.key := by unfold inP at hk; unfold i64P; omega
  have iv : i64P s.num := by unfold valP inP at hv; unfold i64P; omega
  rw [stText_W] at k
  unfold stW nmD at k
  unfold stepV
  split
  · rename_i c
    rw [if_pos c, if_pos c] at k
    refine ⟨214, .agg #[.int .i64 s.key], by kernel_rfl, by kernel_rfl, get_text_c gl ik ?_⟩
    simpa using k
  · rename_i c
    rw [if_neg c, if_neg c] at k
    split
    · rename_i c2
      rw [if_pos c2] at k
      refine ⟨215, .agg #[.int .i64 s.key, .int .i64 s.num], by kernel_rfl, by kernel_rfl, putStep_text_c gl ik iv ?_⟩
      simpa using k
    · rename_i c2
      rw [if_neg c2] at k
      split
      · rename_i c3
        rw [if_pos c3] at k
        refine ⟨217, .agg #[.int .i64 s.key, .int .i64 s.num], by kernel_rfl, by kernel_rfl, addStep_text_c gl ik iv ?_⟩
        simpa using k
      · rename_i c3
        rw [if_neg c3] at k
        refine ⟨218, .agg #[.int .i64 s.key, .int .i64 s.num], by kernel_rfl, by kernel_rfl, needStep_text_c gl ik iv ?_⟩
        simpa using k

theorem implDealWrite_c {h : H} {v : Value} {l : List DStatement} (gl : Gl h) (r : rLs h cStatement 3 v l) (hl : l.length ≤ 1099511627776) {R : Ending → H → Prop} (k : ∀ t, dealT l t → R (.returned (.string ⟨t.toArray⟩)) h) :
    HCalls Tryz.prog 140 #[v] h R := by
  refine HCalls_ir (args := [v]) Tryz.func140 ir140 ?_
  simp only [walk, lists, acts, mem, plain, seqs, maps, cells, resL, resV, intBin, seval, str]
  refine stepsOf_c r hl (fun p v' g o d => ?_) fun p => ?_
  · have sg := Sub.right d
    simp only [walk, lists, acts, mem, plain, seqs, maps, cells, resL, resV, intBin, seval, str]
    refine newB_intro fun jb hjb => ?_
    have nb := hjb
    simp only [subs] at nb
    simp only [walk, lists, acts, mem, plain, seqs, maps, cells, resL, resV, intBin, seval, str, o.rd.len]
    obtain ⟨B, hB⟩ : ∃ B, B = g ++ h := ⟨_, rfl⟩
    rw [← hB] at sg
    have rB : rLs B eStep 1 v' l := o.rd.sub (by rw [hB]; exact Sub.left _ _)
    rw [← hB] at hjb ⊢
    have hlt := fun i => dealText_len (l := l.take i) fun x hx => p.2.2 x (List.mem_of_mem_take hx)
    refine vc_loop [17] (fun n vs h' => ∃ (i : Nat) (G : H), vs = [.int .i64 i] ∧ h' = G ++ B ∧ oB jb (dealText (l.take i)) G ∧ Dj G B ∧ i ≤ l.length ∧ n = l.length - i) l.length rfl
      ⟨0, _, rfl, rfl, oB_new, by simp only [subs, hjb], by omega, rfl⟩ ?_
    rintro n f h' ⟨i, G, hv, rfl, oG, dG, hi, rfl⟩
    simp only [List.map_cons, List.map_nil, List.cons.injEq, and_true] at hv
    have sG := Sub.right dG
    simp only [walk, lists, acts, mem, plain, seqs, maps, cells, resL, resV, intBin, seval, wr, hv, str]
    refine ite_lt (fun c2 => ?_) fun c2 => ?_
    · have hi2 : i < l.length := by omega
      refine idx_leaf (i := i) eStep_len (rB.sub sG) rfl hi2 fun b1 o1 e1 => ?_
      have e1' : hread (G ++ B) b1 o1 1 = some [stepV l[i]] := e1
      have st := p.2.2 _ (List.getElem_mem hi2)
      have h60 := stText_len st
      have hli := hlt i
      rw [List.length_take] at hli
      have h6 := p.2.1
      simp only [walk, lists, acts, mem, plain, seqs, maps, cells, resL, resV, intBin, seval, hread_1 e1', str]
      refine step_text_c (gl.sub (sg.trans sG)) st ?_
      simp only [walk, lists, acts, mem, plain, seqs, maps, cells, resL, resV, intBin, seval, str]
      refine bws_c oG dG (by omega) fun G2 o2 d2 => ?_
      simp (disch := omega) only [walk, lists, acts, mem, plain, seqs, maps, cells, resL, resV, intBin, seval, wrapI]
      refine ⟨l.length - (i + 1), by omega, _, .refl _, i + 1, G2, by simp, rfl, ?_, d2, by omega, rfl⟩
      rw [List.take_succ_eq_append_getElem hi2, dealText_app, dealText_one]; exact o2
    · have hi2 : i = l.length := by omega
      subst hi2
      have hli := hlt l.length
      rw [List.take_length] at oG hli
      have h6 := p.2.1
      refine bstr_c oG dG (by omega) ?_
      simp only [walk, lists, acts, mem, plain, seqs, maps, cells, resL, resV, intBin, seval]
      exact ⟨h, sg, k _ (.inl ⟨p, rfl⟩)⟩
  · simp only [walk, lists, acts, mem, plain, seqs, maps, cells, resL, resV, intBin, seval, str]
    exact .of (k _ (.inr ⟨p, rfl⟩))
end Go.Proofs.YtmfhlkkligcgdaaGreatDoor
end

/- How the program reads a deal. -/
section
set_option linter.unusedVariables false
set_option linter.unusedSimpArgs false
set_option maxRecDepth 20000
attribute [local irreducible] Go.Tk.vc Go.Tk.vops Go.Tk.vdr Go.Tk.vop Go.Tk.vfl Go.Tk.HCalls
namespace Go.Proofs.YtmfhlkkligcgdaaGreatDoor
open Go Go.Tk

theorem implRead_c {h : H} {s : List UInt8} (gl : Gl h) (gm : MxL h) (hs : s.length ≤ 4194304) {R : Ending → H → Prop} (k : ∀ v g l ok, OutD s l ok → oLs 161 cStatement 3 v l g → Dj g h → R (.returned (.tuple #[v, .bool ok])) (g ++ h)) :
    HCalls Tryz.prog 124 #[.string ⟨s.toArray⟩] h R := by
  refine HCalls_ir (args := [.string ⟨s.toArray⟩]) Tryz.func124 ir124 ?_
  have zs := zStatement_eq
  have bad : ∀ {M : H}, Tk.Sub h M → (∀ d, dealP d → s = dealText d → s.length ≤ 80 → False) → dP R (.returned (.tuple #[.slice none 0 0, .bool false])) M := fun {M} sM e => ⟨h, sM, k _ [] [] false (.inr ⟨rfl, rfl, e⟩) (ows.nil _ _) (Dj.nil _)⟩
  simp only [walk, lists, acts, mem, plain, seqs, maps, cells, resL, resV, intBin, seval, str, zs]
  refine ite_lt (fun c => bad (.refl _) fun d _ _ h => by omega) fun c => ?_
  refine vc_loop [5, 4] (fun n vs h' => ∃ (v : Value) (xs : List DStatement) (r : List UInt8) (G : H), vs = [.string ⟨r.toArray⟩, v] ∧ h' = G ++ h ∧ Dj G h ∧ oLs 161 cStatement 3 v xs G ∧ xs.length + r.length ≤ 80 ∧ (∀ d, dealP d → s = dealText d → ∃ i, i ≤ d.length ∧ xs = d.take i ∧ r = dealText (d.drop i)) ∧ n = r.length) s.length rfl
    ⟨_, [], s, [], rfl, rfl, Dj.nil _, ows.nil _ _, by simp; omega, fun d hd e => ⟨0, by omega, rfl, e⟩, rfl⟩ ?_
  rintro n f h' ⟨v, xs, r, G, hv, rfl, dG, oG, hlen, hin, rfl⟩
  simp only [List.map_cons, List.map_nil, List.cons.injEq, and_true] at hv
  have sG := Sub.right dG
  simp only [walk, lists, acts, mem, plain, seqs, maps, cells, resL, resV, intBin, seval, wr, hv.1, hv.2, str, zs, strBin, str_inj]
  refine ite_ne (fun c2 => ?_) fun c2 => ?_
  · refine cut_c (c := 59) (by omega) fun a b fd hc => ?_
    have hab : a.length ≤ r.length ∧ b.length ≤ r.length ∧ (fd = true → b.length < r.length) := by
      obtain ⟨_, ⟨_, h2⟩ | ⟨h1, h2, h3⟩⟩ := hc
      · rw [h2]; simp; omega
      · rw [h2, h3, h1]; simp
    simp only [walk, lists, acts, mem, plain, seqs, maps, cells, resL, resV, intBin, seval, str, zs]
    refine readStatement_c (gl.sub sG) (gm.sub sG) (by omega) fun x ok hx => ?_
    simp only [walk, lists, acts, mem, plain, seqs, maps, cells, resL, resV, intBin, seval, str, zs, wStatement]
    refine newB_intro fun j9 hj9 => ?_
    have s9 := Sub.cons (o := blk (cStatement x) 161) hj9 (Sub.refl (G ++ h))
    have step : ∀ d, dealP d → s = dealText d → ∃ i, ∃ hi : i < d.length, xs = d.take i ∧ a = stW d[i] ∧ b = dealText (d.drop (i + 1)) ∧ fd = true := fun d hd e => by
      obtain ⟨i, hi, h1, h2⟩ := hin d hd e
      have hi2 : i < d.length := by
        rcases Nat.lt_or_ge i d.length with q | q
        · exact q
        · rw [List.drop_eq_nil_of_le q] at h2
          exact absurd h2 c2
      rw [List.drop_eq_getElem_cons hi2, dealText_cons] at h2
      obtain ⟨e1, e2, e3⟩ := hc.at h2 (stW_no59 _)
      exact ⟨i, hi2, h1, e1, e2, e3⟩
    simp only [walk, lists, acts, mem, plain, seqs, maps, cells, resL, resV, intBin, seval, str, zs, wStatement]
    cases fd with
    | false =>
      simp only [walk, lists, acts, mem, plain, seqs, maps, cells, resL, resV, intBin, seval, str, zs, wStatement]
      exact bad (sG.trans s9) fun d hd e _ => by
        obtain ⟨i, hi, _, _, _, q⟩ := step d hd e
        cases q
    | true =>
      cases ok with
      | false =>
        simp only [walk, lists, acts, mem, plain, seqs, maps, cells, resL, resV, intBin, seval, str, zs, wStatement]
        exact bad (sG.trans s9) fun d hd e _ => by
          obtain ⟨i, hi, _, q, _, _⟩ := step d hd e
          have := (hx _ (hd.2.2 _ (List.getElem_mem hi)) q).1
          cases this
      | true =>
        simp only [walk, lists, acts, mem, plain, seqs, maps, cells, resL, resV, intBin, seval, str, zs, wStatement]
        refine newB_intro (o := blk (fl cStatement [x]) 161) fun j7 hj7 => ?_
        simp only [walk, lists, acts, mem, plain, seqs, maps, cells, resL, resV, intBin, seval, wStatement, str, zs]
        refine app_leaf (g := G) (h := h) cStatement_len cStatement_one tStatements iStatement (s9.trans (Sub.cons hj7 (Sub.refl _))) dG oG (rL_lit (e := 161) cStatement_len [x]) (by simp; omega) (by simp; omega) fun v2 g2 o2 d2 => ?_
        simp only [walk, lists, acts, mem, plain, seqs, maps, cells, resL, resV, intBin, seval]
        refine ⟨b.length, hab.2.2 rfl, _, .refl _, v2, _, b, g2, rfl, rfl, d2, o2, by rw [List.length_append]; have := hab.2.2 rfl; simp; omega, fun d hd e => ?_, rfl⟩
        obtain ⟨i, hi, h1, h2, h3, _⟩ := step d hd e
        refine ⟨i + 1, by omega, ?_, h3⟩
        rw [List.take_succ_eq_append_getElem hi, h1, (hx _ (hd.2.2 _ (List.getElem_mem hi)) h2).2]
  · subst c2
    have fin : ∀ d, dealP d → s = dealText d → xs = d := fun d hd e => by
      obtain ⟨i, hi, h1, h2⟩ := hin d hd e
      rcases Nat.lt_or_ge i d.length with q | q
      · rw [List.drop_eq_getElem_cons q, dealText_cons] at h2
        have := congrArg List.length h2
        simp at this
      · rw [h1, List.take_of_length_le q]
    have hx80 : xs.length ≤ 80 := by omega
    refine implOk_c (oG.rd.sub (Sub.left _ _)) (by omega) fun b1 hb1 => ?_
    simp only [walk, lists, acts, mem, plain, seqs, maps, cells, resL, resV, intBin, seval]
    refine ite_f (fun e => bad sG fun d hd e2 _ => not_b hb1 e (by rw [fin d hd e2]; exact hd)) fun e1 => ?_
    have hp := hb1.1 e1
    refine implDealWrite_c (gl.sub sG) (oG.rd.sub (Sub.left _ _)) (by omega) fun t ht => ?_
    simp only [walk, lists, acts, mem, plain, seqs, maps, cells, resL, resV, intBin, seval, str, strBin, str_inj]
    have ht2 : t = dealText xs := by
      rcases ht with ⟨_, ht⟩ | ⟨hn, _⟩
      · exact ht
      · exact absurd hp hn
    refine ite_ne (fun c3 => bad sG fun d hd e _ => c3 (by rw [ht2, fin d hd e, e])) fun c3 => ?_
    exact .of (k v G xs true (.inl ⟨rfl, hp, by rw [← c3, ht2], by omega⟩) oG dG)
end Go.Proofs.YtmfhlkkligcgdaaGreatDoor
end
