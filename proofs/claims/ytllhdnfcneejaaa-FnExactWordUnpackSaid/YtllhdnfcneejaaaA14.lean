/- Slices: what is read of one, one that is owned, what is put behind it. -/
import Derived.Test.YtllhdnfcneejaaaA13
import Derived.Laws.Append
set_option linter.unusedVariables false
set_option linter.unusedSimpArgs false
namespace Go.Tk
open Go

/-- Parts that have no block in common. -/
def Dj (g h : H) : Prop := ∀ i, hget g i ≠ none → hget h i = none
theorem hget_app (g h : H) (i : Nat) : hget (g ++ h) i = (hget g i).or (hget h i) := by
  induction g with
  | nil => rfl
  | cons p t ih =>
    show hget (p :: (t ++ h)) i = _
    rw [hget_cons, hget_cons]
    split
    · rfl
    · exact ih
theorem Dj.symm {g h : H} (d : Dj g h) : Dj h g := fun i hi => by
  cases e : hget g i with
  | none => rfl
  | some o => exact absurd (d i (by rw [e]; simp)) hi
theorem Dj.of {g h : H} (d : Dj g h) {i : Nat} (hi : hget h i ≠ none) : hget g i = none := d.symm i hi
theorem Dj.nil (h : H) : Dj [] h := fun i hi => absurd rfl hi
theorem Dj.sub {g g' h h' : H} (d : Dj g h) (s : Sub g' g) (t : Sub h' h) : Dj g' h' := fun i hi => t.none' (d i (fun e => hi (s.none' e)))
theorem Dj.one {j : Nat} {o : Obj} {h : H} (e : hget h j = none) : Dj [(j, o)] h := fun i hi => by
  rw [hget_cons] at hi
  split at hi
  · rename_i c; exact c ▸ e
  · exact absurd rfl hi
theorem Dj.one' {j : Nat} {o : Obj} {h : H} (d : Dj [(j, o)] h) : hget h j = none := d j (by rw [hget_cons, if_pos rfl]; simp)
theorem Dj_cons {g h : H} {j : Nat} {o : Obj} : Dj g ((j, o) :: h) ↔ hget g j = none ∧ Dj g h := by
  constructor
  · intro d
    refine ⟨d.of (by rw [hget_cons, if_pos rfl]; simp), fun i hi => ?_⟩
    have := d i hi
    rw [hget_cons] at this
    split at this
    · cases this
    · exact this
  · rintro ⟨a, b⟩ i hi
    rw [hget_cons]
    split
    · rename_i c; subst c; exact absurd a hi
    · exact b i hi
theorem Dj_app {g a b : H} : Dj g (a ++ b) ↔ Dj g a ∧ Dj g b := by
  constructor
  · intro d
    refine ⟨fun i hi => ?_, fun i hi => ?_⟩ <;> have x := d i hi <;> rw [hget_app] at x <;> cases e : hget a i <;> rw [e] at x <;> simp_all
  · rintro ⟨x, y⟩ i hi
    rw [hget_app, x i hi, y i hi]; rfl
theorem Dj_app_l {a b h : H} : Dj (a ++ b) h ↔ Dj a h ∧ Dj b h := by
  constructor
  · intro d; exact ⟨((Dj_app.1 d.symm).1).symm, ((Dj_app.1 d.symm).2).symm⟩
  · rintro ⟨x, y⟩; exact (Dj_app.2 ⟨x.symm, y.symm⟩).symm
theorem Sub.left (g h : H) : Sub g (g ++ h) := fun i o e => by rw [hget_app, e]; rfl
theorem Sub.right {g h : H} (d : Dj g h) : Sub h (g ++ h) := fun i o e => by rw [hget_app, d.of (by rw [e]; simp)]; exact e
theorem Sub.app {a g h : H} (d : Dj g h) (s : Sub a h) : Sub a (g ++ h) := s.trans (.right d)
theorem Sub.both {g h m : H} (s : Sub g m) (t : Sub h m) : Sub (g ++ h) m := fun i o e => by
  rw [hget_app] at e
  cases eg : hget g i with
  | none => rw [eg] at e; exact t i o e
  | some x => rw [eg] at e; exact s i o (eg.trans e)
theorem Sub.cons_of {g m : H} {j : Nat} {o : Obj} (e : hget m j = some o) (s : Sub g m) : Sub ((j, o) :: g) m := fun i x h => by
  rw [hget_cons] at h
  split at h
  · rename_i c; subst c; rw [e]; exact h
  · exact s i x h
theorem Sub.nil (m : H) : Sub [] m := fun i o e => by cases e
theorem Sub.wr {a h : H} {j : Nat} {o : Obj} (s : Sub a h) (hn : hget a j = none) : Sub a (hupd h j o) := fun i x e => by
  rw [hget_hupd_ne (fun c => by subst c; rw [hn] at e; cases e)]; exact s i x e

theorem hread_sub {g h : H} (s : Sub g h) {b k n : Nat} {l : List Value} (e : hread g b k n = some l) : hread h b k n = some l := by
  unfold hread at e ⊢
  cases eg : hget g b with
  | none => rw [eg] at e; cases e
  | some o => rw [eg] at e; rw [s _ _ eg]; exact e
theorem hcel_sub {g h : H} (s : Sub g h) {b k : Nat} {v : Value} (e : hcel g b k = some v) : hcel h b k = some v := by
  unfold hcel at e ⊢
  cases eg : hget g b with
  | none => rw [eg] at e; cases e
  | some o => rw [eg] at e; rw [s _ _ eg]; exact e
theorem hread_len {h : H} {b k n : Nat} {l : List Value} (e : hread h b k n = some l) : l.length = n := (hread_get e).1
theorem hread_cel {h : H} {b k n : Nat} {l : List Value} (e : hread h b k n = some l) {j : Nat} (hj : j < n) : hcel h b (k + j) = l[j]? := (hread_get e).2 j hj
theorem hread_part {h : H} {b k n : Nat} {l : List Value} (e : hread h b k n = some l) {i m : Nat} (hm : i + m ≤ n) : hread h b (k + i) m = some ((l.drop i).take m) := by
  unfold hread at e ⊢
  cases eg : hget h b with
  | none => rw [eg] at e; cases e
  | some o =>
    rw [eg] at e
    cases o <;> simp only [Option.bind_some, rdObj] at e <;> try cases e
    rename_i c t f
    split at e
    · cases e
      simp only [Option.bind_some, rdObj]
      rw [if_pos (by omega)]
      simp only [List.drop_take, List.take_take, List.drop_drop]
      rw [Nat.min_eq_left (by omega)]
    · cases e

/-- What a slice reads: so many elements, their cells. -/
def rdS (h : H) (sz : Nat) (v : Value) (n : Nat) (cs : List Value) : Prop :=
  cs.length = n * sz ∧ ((v = .slice none 0 0 ∧ n = 0) ∨ ∃ b k cap, v = .slice (some ⟨b, k, none⟩) n cap ∧ n ≤ cap ∧ hread h b k (n * sz) = some cs)
theorem rdS.sub {g h : H} (s : Sub g h) {sz : Nat} {v : Value} {n : Nat} {cs : List Value} (r : rdS g sz v n cs) : rdS h sz v n cs := by
  obtain ⟨hl, r | ⟨b, k, cap, rfl, hc, e⟩⟩ := r
  · exact ⟨hl, .inl r⟩
  · exact ⟨hl, .inr ⟨b, k, cap, rfl, hc, hread_sub s e⟩⟩

/-- A slice that is owned. -/
def ows (e sz : Nat) (v : Value) (n : Nat) (cs : List Value) (g : H) : Prop :=
  cs.length = n * sz ∧ ((v = .slice none 0 0 ∧ n = 0 ∧ g = []) ∨ ∃ j cap sp, v = .slice (some ⟨j, 0, none⟩) n cap ∧ n ≤ cap ∧ (cs ++ sp).length = cap * sz ∧ g = [(j, blk (cs ++ sp) e)])
theorem ows.rd {e sz : Nat} {v : Value} {n : Nat} {cs : List Value} {g : H} (o : ows e sz v n cs g) : rdS g sz v n cs := by
  obtain ⟨hl, ⟨rfl, rfl, rfl⟩ | ⟨j, cap, sp, rfl, hc, hs, rfl⟩⟩ := o
  · exact ⟨hl, .inl ⟨rfl, rfl⟩⟩
  · refine ⟨hl, .inr ⟨j, 0, cap, rfl, hc, ?_⟩⟩
    rw [hread_same, if_pos (by simp only [List.length_append]; omega)]
    simp [← hl]
theorem ows.nil (e sz : Nat) : ows e sz (.slice none 0 0) 0 [] [] := ⟨by simp, .inl ⟨rfl, rfl, rfl⟩⟩
theorem ows.blk {e sz : Nat} {j n : Nat} {cs : List Value} (hl : cs.length = n * sz) : ows e sz (.slice (some ⟨j, 0, none⟩) n n) n cs [(j, blk cs e)] :=
  ⟨hl, .inr ⟨j, n, [], rfl, Nat.le_refl _, by simp [hl], by simp⟩⟩

/-! ### Reading -/

theorem lenS_intro {h : H} {sz : Nat} {v : Value} {n : Nat} {cs : List Value} (r : rdS h sz v n cs) {f : Value → Prop} : lenSK v f = f (.int .i64 n) := by
  obtain ⟨_, ⟨rfl, rfl⟩ | ⟨b, k, cap, rfl, _⟩⟩ := r <;> rfl
theorem idxS_intro {h : H} {sz : Nat} {v : Value} {n : Nat} {cs : List Value} {kd : IntKind} {j : Int} {f : Value → Prop} (r : rdS h sz v n cs) (h0 : 0 ≤ j) (h1 : j < n)
    (k : ∀ b o, hread h b o sz = some ((cs.drop (j.toNat * sz)).take sz) → f (.pointer (some ⟨b, o, none⟩))) : idxSK v (.int kd j) sz f := by
  obtain ⟨hl, ⟨rfl, rfl⟩ | ⟨b, o, cap, rfl, hc, e⟩⟩ := r
  · omega
  · rw [idxSK_eq]
    refine ⟨⟨h0, h1⟩, k _ _ (hread_part e ?_)⟩
    rw [← Nat.succ_mul]
    exact Nat.mul_le_mul_right _ (by omega)
theorem idxS_intro1 {h : H} {v : Value} {n : Nat} {cs : List Value} {kd : IntKind} {j : Int} {f : Value → Prop} (r : rdS h 1 v n cs) (h0 : 0 ≤ j) (h1 : j < n)
    (k : ∀ b o, hcel h b o = cs[j.toNat]? → f (.pointer (some ⟨b, o, none⟩))) : idxSK v (.int kd j) 1 f := by
  refine idxS_intro r h0 h1 fun b o e => k b o ?_
  have := hread_cel e (j := 0) (by omega)
  rw [Nat.add_zero] at this
  rw [this, List.getElem?_take, if_pos (by omega), List.getElem?_drop]
  simp

/-! ### What is put behind a slice -/

theorem zrep_len {z : List Value} {sz : Nat} (h : z.length = sz) (n : Nat) : (zrep z n).length = n * sz := by rw [zrep_length, h]

/-- What a value gives to be put behind a slice. -/
def Src (P : Program) (M : H) (sz : Nat) (y : Value) (m : Nat) (ds : List Value) : Prop :=
  ds.length = m * sz ∧ Builtin.lenOf y = Sem.pure m ∧ ∀ {Q : Array Value → H → Prop} {E : Value → H → Prop}, Q ds.toArray M → SH P (Builtin.firstCells sz m y) Q E M

theorem Src_slice {P : Program} {M : H} {sz : Nat} {y : Value} {m : Nat} {ds : List Value} (r : rdS M sz y m ds) : Src P M sz y m ds := by
  obtain ⟨hl, ⟨rfl, rfl⟩ | ⟨b, o, cap, rfl, hc, e⟩⟩ := r
  · have : ds = [] := List.eq_nil_of_length_eq_zero (by simpa using hl)
    subst this
    exact ⟨hl, rfl, fun q => q⟩
  · refine ⟨hl, rfl, fun q => ?_⟩
    unfold Builtin.firstCells
    simp only [SH_loadCells e]
    exact q
theorem Src_str {P : Program} {M : H} (s : List UInt8) : Src P M 1 (.string ⟨s.toArray⟩) s.length (s.map fun b => .int .u8 b.toNat) := by
  refine ⟨by simp, by simp only [Builtin.lenOf, str_size]; rfl, fun q => ?_⟩
  unfold Builtin.firstCells
  show _
  have e : ((⟨s.toArray⟩ : ByteArray).extract 0 s.length).data = s.toArray := by
    apply Array.ext'
    simp
  simp only [SH_pure, e]
  simpa using q

theorem firstOwn {P : Program} {M : H} {e sz : Nat} {v : Value} {n : Nat} {cs : List Value} {g : H} (o : ows e sz v n cs g) (sb : Sub g M) {Q : Array Value → H → Prop} {E : Value → H → Prop} (q : Q cs.toArray M) :
    SH P (Builtin.firstCells sz n v) Q E M := (Src_slice (o.rd.sub sb)).2.2 q

def intD : TypeDesc → Bool
  | .slice _ => false
  | .string => false
  | _ => true

theorem SH_pure0 {α : Type} {P : Program} (a : α) {Q : α → H → Prop} {E : Value → H → Prop} {h : H} : SH P (Sem.pure a) Q E h = Q a h := rfl
theorem SH_room {P : Program} {n : Nat} {Q : Unit → H → Prop} {E : Value → H → Prop} {h : H} (q : Q () h) : SH P (askRoom n) Q E h := by
  unfold askRoom
  split <;> exact q
theorem SH_cap {P : Program} {need old : Nat} {e : TypeId} {Q : Nat → H → Prop} {E : Value → H → Prop} {h : H} (q : ∀ c, need ≤ c → Q c h) : SH P (choose (.appendCap need old e)) Q E h := by
  simp only [choose, SH]
  split
  · rename_i hf; simp only [Question.forced] at hf; exact (by cases hf)
  · intro t
    refine q _ ?_
    simp only [Question.cut]
    omega

theorem app_own {P : Program} {t1 t2 ty e : TypeId} {d2 : TypeDesc} {i : TypeInfo} {z : Value} {v y : Value} {M g h : H} {n m : Nat} {cs ds : List Value} {K : Value → H → Prop} {X : List PanicEntry → H → Prop}
    (h1 : P.underlying t1 = some (.slice e)) (h2 : P.underlying t2 = some d2) (hd : intD d2 = false) (hi : P.info? e = some i) (hz : i.zero = some z) (hs : (vcells z).length = i.size)
    (sb : Sub (g ++ h) M) (dj : Dj g h) (ow : ows e i.size v n cs g) (src : Src P M i.size y m ds) (ho : ds.all vone = true) (hb : (n + m) * i.bytes ≤ 140737488355328) (hn : n + m ≤ 140737488355328)
    (k : ∀ v' g', ows e i.size v' (n + m) (cs ++ ds) g' → Dj g' h → K v' (g' ++ h)) : appK P t1 t2 ty v y M K X := by
  obtain ⟨hdl, hlen, hfc⟩ := src
  have hcl := ow.1
  have hlen' : (cs ++ ds).length = (n + m) * i.size := by rw [List.length_append, hcl, hdl, Nat.add_mul]
  have new : ∀ c, n + m ≤ c → SH P (do pure (Value.slice (some (← newRow e (cs.toArray ++ ds.toArray ++ Builtin.zeroCells z.cells (c - (n + m))))) (n + m) c)) (dP K) (pK X) M := by
    intro c hc
    simp only [newRow, SH_bind', SH_newObj, SH_pure]
    intro j hj
    rw [vcells_cells, show Builtin.zeroCells (vcells z).toArray (c - (n + m)) = (zrep (vcells z) (c - (n + m))).toArray from by simpa [Builtin.zeroCells] using zeros_eq (vcells z) (c - (n + m))]
    refine ⟨[(j, blk ((cs ++ ds) ++ zrep (vcells z) (c - (n + m))) e)] ++ h, ?_, k _ _ ⟨hlen', .inr ⟨j, c, zrep (vcells z) (c - (n + m)), rfl, hc, ?_, rfl⟩⟩ (.one ((Sub.right dj).trans sb |>.none' hj))⟩
    · have : (cs.toArray ++ ds.toArray ++ (zrep (vcells z) (c - (n + m))).toArray) = ((cs ++ ds) ++ zrep (vcells z) (c - (n + m))).toArray := by apply Array.ext'; simp
      rw [this]
      exact Sub.cons2 ((Sub.right dj).trans sb)
    · rw [List.length_append, hlen', zrep_len hs, ← Nat.add_mul]; congr 1; omega
  have hnl : ¬ (((n + m : Nat) : Int) > IntKind.i64.max) := by show ¬ (((n + m : Nat) : Int) > 9223372036854775807); omega
  have common : ∀ (base : Option Addr) (cap : Nat), v = .slice base n cap → n ≤ cap → (n + m ≤ cap → SH P (do let new ← Builtin.firstCells i.size m y; (if let some a := base then storeCells (a.add (n * i.size)) new.toList else pure ()); pure (Value.slice base (n + m) cap)) (dP K) (pK X) M) →
      SH P (Builtin.append_ #[t1, t2] ty #[v, y]) (dP K) (pK X) M := by
    intro base cap hv hle inplace
    subst hv
    unfold Builtin.append_
    simp only [List.getElem?_toArray, List.getElem?_cons_zero, List.getElem?_cons_succ, SH_bind', SH_underlying h1, SH_underlying h2, SH_sizeOf hi, SH_pure]
    cases d2 <;> simp only [intD, Bool.true_eq_false] at hd
    all_goals
    simp only [Bool.false_eq_true, if_false, hlen, Bool.not_false, if_true, SH_bind', SH_pure]
    all_goals
    simp only [SH_pure0]
    by_cases hc : n + m ≤ cap
    · rw [if_pos hc]
      have := inplace hc
      cases base <;> simp only [SH_bind', SH_pure] at this ⊢ <;> exact this
    · rw [if_neg hc]
      have h48 : ¬ (Builtin.nextslicecap (n + m) cap * i.bytes > 2 ^ 48) := by
        have := growslice_fits (need := n + m) (old := cap) (bytes := i.bytes) (by omega) hb
        rw [show (2 : Nat) ^ 48 = 281474976710656 from rfl]; omega
      simp only [SH_bind', SH_typeInfo hi, hnl, false_and, if_false, h48, SH_pure]
      refine SH_cap fun c hc' => ?_
      refine SH_room ?_
      refine firstOwn ow ((Sub.left g h).trans sb) ?_
      refine hfc ?_
      simp only [SH_zeroValue hi hz]
      have := new c hc'
      simp only [SH_bind', SH_pure] at this
      exact this
  obtain ⟨_, ow'⟩ := id ow
  unfold appK
  rcases ow' with ⟨rfl, rfl, rfl⟩ | ⟨j, cap, sp, rfl, hle, hsp, rfl⟩
  · refine common none 0 rfl (Nat.le_refl _) fun hc => ?_
    have hm : m = 0 := by omega
    subst hm
    have hd0 : ds = [] := List.eq_nil_of_length_eq_zero (by simpa using hdl)
    have hc0 : cs = [] := List.eq_nil_of_length_eq_zero (by simpa using hcl)
    subst hd0; subst hc0
    simp only [SH_bind', SH_pure]
    refine hfc ?_
    exact ⟨h, (Sub.right dj).trans sb, k _ [] ⟨by simp, .inl ⟨rfl, rfl, rfl⟩⟩ (Dj.nil h)⟩
  · refine common _ cap rfl hle fun hc => ?_
    simp only [SH_bind', SH_pure]
    refine hfc ?_
    have hj : hget M j = some (blk (cs ++ sp) e) := sb _ _ (by rw [hget_app, hget_same]; rfl)
    have hfit : n * i.size + ds.length ≤ (cs ++ sp).length := by rw [hsp, hdl, ← Nat.add_mul]; exact Nat.mul_le_mul_right _ hc
    have hw : hwrite M j (n * i.size) ds = some (hupd M j (blk (splice (cs ++ sp) (n * i.size) ds) e)) := by
      simp only [hwrite, hj, Option.bind_some, wrObj_blk, if_pos hfit, Option.map_some]
    simp only [add_none, Nat.zero_add]
    rw [SH_storeCells ho hw]
    have hsl : splice (cs ++ sp) (n * i.size) ds = (cs ++ ds) ++ sp.drop ds.length := by
      rw [splice_eq _ _ _ hfit, ← hcl]; simp
    rw [hsl]
    refine ⟨[(j, blk (cs ++ ds ++ sp.drop ds.length) e)] ++ h, ?_, k _ _ ⟨hlen', .inr ⟨j, cap, sp.drop ds.length, rfl, hc, ?_, rfl⟩⟩ (.one dj.one')⟩
    · refine Sub.both (Sub.cons_of (hget_hupd_same hj) (Sub.nil _)) ?_
      exact Sub.wr ((Sub.right dj).trans sb) dj.one'
    · rw [← hsl, splice_length, hsp]
end Go.Tk
