/- Slices of values that hold no slices themselves. -/
import Derived.Test.YtllhdnfcneejaaaA14
set_option linter.unusedVariables false
set_option linter.unusedSimpArgs false
namespace Go.Tk
open Go

section
variable {α : Type}

def fl (enc : α → List Value) (l : List α) : List Value := (l.map enc).flatten
theorem fl_nil (enc : α → List Value) : fl enc [] = [] := rfl
theorem fl_cons (enc : α → List Value) (a : α) (l : List α) : fl enc (a :: l) = enc a ++ fl enc l := by simp [fl]
theorem fl_app (enc : α → List Value) (l m : List α) : fl enc (l ++ m) = fl enc l ++ fl enc m := by simp [fl]
theorem fl_one (enc : α → List Value) (a : α) : fl enc [a] = enc a := by simp [fl]
theorem fl_len {enc : α → List Value} {sz : Nat} (he : ∀ a, (enc a).length = sz) (l : List α) : (fl enc l).length = l.length * sz := by
  induction l with
  | nil => simp [fl]
  | cons a l ih => rw [fl_cons, List.length_append, he, ih, List.length_cons, Nat.succ_mul, Nat.add_comm]
theorem fl_at {enc : α → List Value} {sz : Nat} (he : ∀ a, (enc a).length = sz) : ∀ {l : List α} {i : Nat} (h : i < l.length), ((fl enc l).drop (i * sz)).take sz = enc l[i] := by
  intro l
  induction l with
  | nil => intro i h; cases h
  | cons a l ih =>
    intro i h
    rw [fl_cons]
    cases i with
    | zero => simp [← he a]
    | succ i =>
      rw [Nat.succ_mul, Nat.add_comm, ← List.drop_drop, List.drop_left' (he a)]
      simpa using ih (i := i) (by simpa using h)

/-- A slice that reads as a list. -/
def rLs (h : H) (enc : α → List Value) (sz : Nat) (v : Value) (l : List α) : Prop := rdS h sz v l.length (fl enc l)
/-- A slice that is owned and reads as a list. -/
def oLs (e : TypeId) (enc : α → List Value) (sz : Nat) (v : Value) (l : List α) (g : H) : Prop := ows e sz v l.length (fl enc l) g
theorem rLs.sub {g h : H} (s : Sub g h) {enc : α → List Value} {sz : Nat} {v : Value} {l : List α} (r : rLs g enc sz v l) : rLs h enc sz v l := rdS.sub s r
theorem oLs.rd {e : TypeId} {enc : α → List Value} {sz : Nat} {v : Value} {l : List α} {g : H} (o : oLs e enc sz v l g) : rLs g enc sz v l := ows.rd o
theorem rLs.len {h : H} {enc : α → List Value} {sz : Nat} {v : Value} {l : List α} (r : rLs h enc sz v l) {f : Value → Prop} : lenSK v f = f (.int .i64 l.length) := lenS_intro r

theorem idx_leaf {h : H} {enc : α → List Value} {sz : Nat} {v : Value} {l : List α} {kd : IntKind} {j : Int} {i : Nat} {f : Value → Prop} (he : ∀ a, (enc a).length = sz) (r : rLs h enc sz v l) (hj : j = i) (hi : i < l.length)
    (k : ∀ b o, hread h b o sz = some (enc l[i]) → f (.pointer (some ⟨b, o, none⟩))) : idxSK v (.int kd j) sz f := by
  subst hj
  refine idxS_intro r (by omega) (by omega) fun b o e => k b o ?_
  rw [e, Int.toNat_natCast, fl_at he hi]
end

theorem hread_1 {h : H} {b o : Nat} {x : Value} (e : hread h b o 1 = some [x]) : hcel h b o = some x := by simpa using hread_cel e (j := 0) (by omega)
theorem hread_c {h : H} {b o n : Nat} {l : List Value} (e : hread h b o n = some l) (j : Nat) {x : Value} (hx : l[j]? = some x) : hcel h b (o + j) = some x := by
  have hl := hread_len e
  have hj : j < l.length := by
    rcases Nat.lt_or_ge j l.length with c | c
    · exact c
    · rw [List.getElem?_eq_none c] at hx; cases hx
  rw [hread_cel e (by omega)]; exact hx

def eI (n : Int) : List Value := [.int .i64 n]
def eB (b : UInt8) : List Value := [.int .u8 b.toNat]
def eP (p : Int × Int) : List Value := [.int .i64 p.1, .int .i64 p.2]
theorem eI_len (n : Int) : (eI n).length = 1 := rfl
theorem eB_len (n : UInt8) : (eB n).length = 1 := rfl
theorem eP_len (n : Int × Int) : (eP n).length = 2 := rfl
theorem eI_one (l : List Int) : (fl eI l).all vone = true := by induction l <;> simp_all [fl, eI, vone]
theorem eB_one (l : List UInt8) : (fl eB l).all vone = true := by induction l <;> simp_all [fl, eB, vone]
theorem eP_one (l : List (Int × Int)) : (fl eP l).all vone = true := by induction l <;> simp_all [fl, eP, vone]

abbrev rInts (h : H) := rLs h eI 1
abbrev rBytes (h : H) := rLs h eB 1
abbrev rPairs (h : H) := rLs h eP 2

/-- One more round of a loop that compares. -/
theorem take_more {α : Type} {a b : List α} {i : Nat} (ha : i < a.length) (hb : i < b.length) (ht : a.take i = b.take i) (he : a[i] = b[i]) : a.take (i + 1) = b.take (i + 1) := by
  rw [List.take_succ_eq_append_getElem ha, List.take_succ_eq_append_getElem hb, ht, he]
theorem take_all {α : Type} {a b : List α} {i : Nat} (ha : a.length ≤ i) (hl : a.length = b.length) (ht : a.take i = b.take i) : a = b := by
  rw [List.take_of_length_le ha, List.take_of_length_le (hl ▸ ha)] at ht; exact ht
theorem ne_at {α : Type} {a b : List α} {i : Nat} (ha : i < a.length) (hb : i < b.length) (he : a[i] ≠ b[i]) : a ≠ b := fun e => he (by subst e; rfl)
theorem wrapI (n : Int) (h : -9223372036854775808 ≤ n ∧ n ≤ 9223372036854775807) : IntKind.i64.wrap n = n := wrap_fits n h
theorem dP_self {α : Type} {Q : α → H → Prop} {a : α} {h : H} (q : Q a h) : dP Q a h := dP.of q
theorem dP_sub {α : Type} {Q : α → H → Prop} {a : α} {h g : H} (s : Sub g h) (q : Q a g) : dP Q a h := ⟨g, s, q⟩

theorem ite_ne {c : Prop} [Decidable c] {X Y : Prop} (x : ¬ c → X) (y : c → Y) : if ¬ c then X else Y := by
  split
  · rename_i h; exact x h
  · rename_i h; exact y (Classical.not_not.1 h)

/-! ### Writing into an element -/

theorem splice_left : ∀ (a b : List Value) (k : Nat) (vs : List Value), k + vs.length ≤ a.length → splice (a ++ b) k vs = splice a k vs ++ b := by
  intro a b k vs hk
  rw [splice_eq _ _ _ (by simp; omega), splice_eq _ _ _ hk, List.take_append_of_le_length (by omega), List.drop_append_of_le_length hk]
  simp
theorem splice_right : ∀ (a b : List Value) (k : Nat) (vs : List Value), splice (a ++ b) (a.length + k) vs = a ++ splice b k vs := by
  intro a
  induction a with
  | nil => intro b k vs; simp
  | cons x a ih =>
    intro b k vs
    rw [List.cons_append, List.length_cons, Nat.add_right_comm, splice_succ, ih]; rfl

section
variable {α : Type} {enc : α → List Value} {sz : Nat}
theorem splice_fl (he : ∀ a, (enc a).length = sz) {a' : α} {off : Nat} {vs : List Value} (ho : off + vs.length ≤ sz) : ∀ {l : List α} {i : Nat} (hi : i < l.length), splice (enc l[i]) off vs = enc a' → splice (fl enc l) (i * sz + off) vs = fl enc (l.set i a') := by
  intro l
  induction l with
  | nil => intro i hi; cases hi
  | cons a l ih =>
    intro i hi hx
    cases i with
    | zero =>
      simp only [List.getElem_cons_zero] at hx
      rw [fl_cons, List.set_cons_zero, fl_cons, Nat.zero_mul, Nat.zero_add, splice_left _ _ _ _ (by rw [he]; exact ho), hx]
    | succ i =>
      simp only [List.getElem_cons_succ] at hx
      rw [fl_cons, List.set_cons_succ, fl_cons, Nat.succ_mul, ← ih (by simpa using hi) hx]
      have := splice_right (enc a) (fl enc l) (i * sz + off) vs
      rw [he] at this
      rw [← this]; congr 1; omega

theorem own_idx {e : TypeId} {v : Value} {l : List α} {g : H} {kd : IntKind} {j : Int} {i : Nat} {f : Value → Prop} (he : ∀ a, (enc a).length = sz) (o : oLs e enc sz v l g) (hj : j = i) (hi : i < l.length)
    (k : ∀ b cap sp, v = .slice (some ⟨b, 0, none⟩) l.length cap → l.length ≤ cap → (fl enc l ++ sp).length = cap * sz → g = [(b, blk (fl enc l ++ sp) e)] → f (.pointer (some ⟨b, i * sz, none⟩))) : idxSK v (.int kd j) sz f := by
  subst hj
  obtain ⟨hl, ⟨rfl, h0, rfl⟩ | ⟨b, cap, sp, rfl, hc, hs, rfl⟩⟩ := o
  · omega
  · rw [idxSK_eq]
    refine ⟨⟨by omega, by omega⟩, ?_⟩
    have := k b cap sp rfl hc hs rfl
    rw [Int.toNat_natCast, Nat.zero_add]; exact this

theorem st_own {e : TypeId} {l : List α} {sp : List Value} {b i off n p : Nat} {a' : α} {vs : List Value} {h0 : H} {f : H → Prop} (he : ∀ a, (enc a).length = sz) (hp : p = i * sz + off) (hi : i < l.length) (hn : vs.length = n)
    (hoff : off + n ≤ sz) (hx : splice (enc l[i]) off vs = enc a') (k : f ([(b, blk (fl enc (l.set i a') ++ sp) e)] ++ h0)) : hK (if p + n ≤ (fl enc l ++ sp).length then some ((b, blk (splice (fl enc l ++ sp) p vs) e) :: h0) else none) f := by
  subst hp
  have hlen : i * sz + off + vs.length ≤ (fl enc l).length := by
    rw [fl_len he, hn]
    have : (i + 1) * sz ≤ l.length * sz := Nat.mul_le_mul_right _ hi
    rw [Nat.succ_mul] at this
    omega
  rw [if_pos (by rw [List.length_append]; omega), hK_some, splice_left _ _ _ _ hlen, splice_fl he (by omega) hi hx]
  exact k

theorem own_set {e : TypeId} {v : Value} {l : List α} {i : Nat} {a' : α} {b cap : Nat} {sp : List Value} (he : ∀ a, (enc a).length = sz) (hv : v = .slice (some ⟨b, 0, none⟩) l.length cap) (hc : l.length ≤ cap) (hs : (fl enc l ++ sp).length = cap * sz) :
    oLs e enc sz v (l.set i a') [(b, blk (fl enc (l.set i a') ++ sp) e)] := by
  refine ⟨by rw [fl_len he], .inr ⟨b, cap, sp, by simpa using hv, by simpa using hc, ?_, rfl⟩⟩
  rw [← hs, List.length_append, List.length_append, fl_len he, fl_len he]; simp
end

/-- What is marked from k on. -/
def mks (k : Int) (n : Nat) : List Int := (List.range n).map fun (i : Nat) => k + i
def mkp (k : Int) (n : Nat) : List (Int × Int) := (List.range n).map fun (i : Nat) => (k + 2 * i, k + 2 * i + 1)
theorem mks_len (k : Int) (n : Nat) : (mks k n).length = n := by simp [mks]
theorem mkp_len (k : Int) (n : Nat) : (mkp k n).length = n := by simp [mkp]
theorem mks_at (k : Int) (n i : Nat) (h : i < (mks k n).length) : (mks k n)[i] = k + i := by simp [mks]
theorem mkp_at (k : Int) (n i : Nat) (h : i < (mkp k n).length) : (mkp k n)[i] = (k + 2 * i, k + 2 * i + 1) := by simp [mkp]
theorem mks_set (k : Int) (l : List Int) (i : Nat) (h : i < l.length) : (mks k i ++ l.drop i).set i (k + i) = mks k (i + 1) ++ l.drop (i + 1) := by
  rw [List.set_append_right _ _ (by rw [mks_len]; omega), mks_len, Nat.sub_self, List.drop_eq_getElem_cons h, List.set_cons_zero]
  simp [mks, List.range_succ]
theorem mkp_set (k : Int) (l : List (Int × Int)) (i : Nat) (h : i < l.length) : (mkp k i ++ l.drop i).set i (k + 2 * i, k + 2 * i + 1) = mkp k (i + 1) ++ l.drop (i + 1) := by
  rw [List.set_append_right _ _ (by rw [mkp_len]; omega), mkp_len, Nat.sub_self, List.drop_eq_getElem_cons h, List.set_cons_zero]
  simp [mkp, List.range_succ]

theorem u8_wrap (n : Int) : IntKind.u8.wrap n = n % 256 := rfl
theorem eB_wrap (x : UInt8) (n : Int) : splice (eB x) 0 (vcells (.int .u8 (IntKind.u8.wrap n))) = eB (UInt8.ofNat (IntKind.u8.wrap n).toNat) := by
  rw [u8_wrap]
  simp only [eB, vcells, splice]
  have : ((UInt8.ofNat (n % 256).toNat).toNat : Int) = n % 256 := by
    rw [UInt8.toNat_ofNat']
    omega
  rw [this]

theorem kF {R : Ending → H → Prop} {p : Prop} [Decidable p] {h : H} (k : R (.returned (.bool (decide p))) h) (n : ¬ p) : R (.returned (.bool false)) h := by rw [decide_eq_false n] at k; exact k
theorem kT {R : Ending → H → Prop} {p : Prop} [Decidable p] {h : H} (k : R (.returned (.bool (decide p))) h) (n : p) : R (.returned (.bool true)) h := by rw [decide_eq_true n] at k; exact k

theorem ite_eqb {a b : Bool} {X Y : Prop} (x : ¬ a = b → X) (y : a = b → Y) : if (a == b) = false then X else Y := by
  by_cases h : a = b
  · subst h; simp; exact y rfl
  · have : (a == b) = false := by simpa using h
    rw [if_pos this]; exact x h

/-- What is part of what, by simp. -/
theorem subs : (∀ g : H, Sub g g = True) ∧ (∀ (m : H), Sub [] m = True) ∧ (∀ (a m : H), Sub a (a ++ m) = True) ∧
    (∀ (a x m : H), Dj x m → Sub a m → Sub a (x ++ m) = True) ∧ (∀ (a m : H) (j : Nat) (o : Obj), hget m j = none → Sub a m → Sub a ((j, o) :: m) = True) ∧
    (∀ (g m : H) (j : Nat) (o : Obj), hget m j = some o → Sub g m → Sub ((j, o) :: g) m = True) ∧ (∀ (a b m : H), Sub a m → Sub b m → Sub (a ++ b) m = True) ∧
    (∀ (g h : H) (j : Nat) (o : Obj), Dj g ((j, o) :: h) = (hget g j = none ∧ Dj g h)) ∧ (∀ (g a b : H), Dj g (a ++ b) = (Dj g a ∧ Dj g b)) ∧ (∀ g : H, Dj g [] = True) ∧ (∀ g : H, Dj [] g = True) ∧
    (∀ (g h : H) (j : Nat) (o : Obj), Dj ((j, o) :: g) h = (hget h j = none ∧ Dj g h)) ∧ (∀ (a b g : H), Dj (a ++ b) g = (Dj a g ∧ Dj b g)) ∧
    (∀ (g h : H) (i : Nat), (hget (g ++ h) i = none) = (hget g i = none ∧ hget h i = none)) ∧ (∀ (h : H) (i j : Nat) (o : Obj), (hget ((j, o) :: h) i = none) = (i ≠ j ∧ hget h i = none)) ∧
    (∀ (h : H) (j : Nat) (o : Obj), hget ((j, o) :: h) j = some o) ∧ (∀ (h : H) (i j : Nat) (o : Obj), i ≠ j → hget ((j, o) :: h) i = hget h i) ∧ (∀ (g h : H) (i : Nat), hget g i = none → hget (g ++ h) i = hget h i) ∧ (∀ p : Prop, (True ∧ p) = p) ∧ (∀ p : Prop, (p ∧ True) = p) ∧ (∀ a b : Nat, (a ≠ b) = ¬ (a = b)) ∧ ((¬ False) = True) := by
  refine ⟨fun g => eq_true (.refl g), fun m => eq_true (.nil m), fun a m => eq_true (.left a m), fun a x m d s => eq_true (.app d s), fun a m j o n s => eq_true (.cons n s), fun g m j o e s => eq_true (.cons_of e s), fun a b m s t => eq_true (.both s t),
    fun g h j o => propext Dj_cons, fun g a b => propext Dj_app, fun g => eq_true (Dj.nil g).symm, fun g => eq_true (Dj.nil g), fun g h j o => propext ?_, fun a b g => propext Dj_app_l, fun g h i => ?_, fun h i j o => ?_, fun h j o => hget_same h j o, fun h i j o n => hget_next h j o n, fun g h i n => ?_, fun _ => by simp, fun _ => by simp, fun _ _ => rfl, by simp⟩
  · constructor
    · intro d; have := Dj_cons.1 d.symm; exact ⟨this.1, this.2.symm⟩
    · intro ⟨a, b⟩; exact (Dj_cons.2 ⟨a, b.symm⟩).symm
  · rw [hget_app]; cases hget g i <;> simp
  · rw [hget_cons]; split <;> simp_all
  · rw [hget_app, n]; rfl

/-- Reading and writing behind a part. -/
theorem apps : (∀ (g h : H) (b k : Nat), hget g b = none → hcel (g ++ h) b k = hcel h b k) ∧ (∀ (g h : H) (b k n : Nat), hget g b = none → hread (g ++ h) b k n = hread h b k n) ∧
    (∀ (g h : H) (b k : Nat) (vs : List Value), hget g b = none → hwrite (g ++ h) b k vs = (hwrite h b k vs).map (g ++ ·)) := by
  refine ⟨fun g h b k n => ?_, fun g h b k n e => ?_, fun g h b k vs e => ?_⟩
  · simp only [hcel, hget_app, n, Option.none_or]
  · simp only [hread, hget_app, e, Option.none_or]
  · simp only [hwrite, hget_app, e, Option.none_or]
    cases hget h b with
    | none => rfl
    | some o =>
      simp only [Option.bind_some]
      cases wrObj o k vs with
      | none => rfl
      | some x =>
        simp only [Option.map_some, Option.some.injEq]
        induction g with
        | nil => rfl
        | cons p t ih =>
          rw [hget_cons] at e
          split at e
          · cases e
          · rename_i c
            rw [List.cons_append, hupd_cons, if_neg c, ih e]; rfl

theorem zrep_fl {α : Type} {enc : α → List Value} {z : List Value} {a : α} (e : enc a = z) (n : Nat) : zrep z n = fl enc (List.replicate n a) := by
  simp [zrep, fl, e]
theorem zB (n : Nat) : zrep [.int .u8 0] n = fl eB (List.replicate n 0) := zrep_fl (enc := eB) (a := 0) rfl n
theorem zI (n : Nat) : zrep [.int .i64 0] n = fl eI (List.replicate n 0) := zrep_fl (enc := eI) (a := 0) rfl n
theorem oLs_new {α : Type} {enc : α → List Value} {sz : Nat} {e : TypeId} (he : ∀ a, (enc a).length = sz) {j : Nat} {l : List α} : oLs e enc sz (.slice (some ⟨j, 0, none⟩) l.length l.length) l [(j, blk (fl enc l) e)] := ows.blk (fl_len he l)
theorem take_set {α : Type} {l m : List α} {i : Nat} (h : i < l.length) (hm : m.length = l.length) : (l.take i ++ m.drop i).set i l[i] = l.take (i + 1) ++ m.drop (i + 1) := by
  rw [List.set_append_right _ _ (by rw [List.length_take]; omega), List.length_take, Nat.min_eq_left (by omega), Nat.sub_self, List.drop_eq_getElem_cons (by omega : i < m.length), List.set_cons_zero, List.take_succ_eq_append_getElem h, List.append_assoc]
  rfl
end Go.Tk
