/- Parts of the proof, put together: A22, A23, A24, A25, D1, O1, P1, P2, P3, P4, D5, P5. -/
import Derived.Laws.StructEq
import Derived.Lib.LaidTab
import Derived.ChangeArms
import Derived.Below
import Derived.Test.YtdlgaidjlepepaaDoorK85
/- Slices cut at one end; numbers that are picked. -/
section
set_option linter.unusedVariables false
set_option linter.unusedSimpArgs false
namespace Go.Tk
open Go

theorem slcK_pre (x : Value) (n : Nat) (u : Int) {f : Value → Prop} (h : slcK x n (some (some 0)) (some (some u)) f) : slcK x n none (some (some u)) f := by
  cases x <;> exact h
theorem slc_pre {α : Type} {enc : α → List Value} {sz : Nat} (he : ∀ a, (enc a).length = sz) {h : H} {v : Value} {l : List α} {u : Int} {f : Value → Prop} (r : rLs h enc sz v l) (h1 : 0 ≤ u) (h2 : u ≤ l.length)
    (k : ∀ v', rLs h enc sz v' (l.take u.toNat) → f v') : slcK v sz none (some (some u)) f := by
  refine slcK_pre _ _ _ (slc_rd he r (by omega) h1 h2 fun v' r' => k v' ?_)
  simpa using r'
theorem slc_suf {α : Type} {enc : α → List Value} {sz : Nat} (he : ∀ a, (enc a).length = sz) {h : H} {v : Value} {l : List α} {u : Int} {f : Value → Prop} (r : rLs h enc sz v l) (h1 : 0 ≤ u) (h2 : u ≤ l.length)
    (k : ∀ v', rLs h enc sz v' (l.drop u.toNat) → f v') : slcK v sz (some (some u)) none f := by
  have x : slcK v sz (some (some u)) (some (some (l.length : Int))) f := slc_rd he r h1 h2 (Int.le_refl _) fun v' r' => k v' (by
    have : (l.drop u.toNat).take ((l.length : Int).toNat - u.toNat) = l.drop u.toNat := List.take_of_length_le (by rw [List.length_drop]; omega)
    rw [this] at r'; exact r')
  obtain ⟨hl, ⟨rfl, hn⟩ | ⟨b, k', cap, rfl, hc, e⟩⟩ := r
  · rw [slcK_11] at x
    rw [slcK_10]
    have hu : u = 0 := by omega
    subst hu
    exact ⟨⟨by omega, by omega, by omega⟩, by simpa [hn] using x.2⟩
  · rw [slcK_11] at x
    rw [slcK_10]
    exact ⟨⟨h1, by omega, by omega⟩, by simpa using x.2⟩

def eT (t : List UInt8) : List Value := [.string ⟨t.toArray⟩]
theorem eT_len (t : List UInt8) : (eT t).length = 1 := rfl
theorem eT_one (l : List (List UInt8)) : (fl eT l).all vone = true := by induction l <;> simp_all [fl, eT, vone]
theorem str_add (a b : List UInt8) (h : a.length + b.length ≤ 9223372036854775807) : strBin .add ⟨a.toArray⟩ ⟨b.toArray⟩ = some (.string ⟨(a ++ b).toArray⟩) := by
  simp only [strBin, str_size, str_append]
  rw [if_pos h]
theorem tmodN (a : Nat) (n : Int) (h : 1 ≤ n) : 0 ≤ (a : Int).tmod n ∧ (a : Int).tmod n < n := by
  rw [Int.tmod_eq_emod_of_nonneg (by omega)]
  exact ⟨Int.emod_nonneg _ (by omega), Int.emod_lt_of_pos _ (by omega)⟩
theorem tmodN' (a b : Nat) : (a : Int).tmod (b : Int) = ((a % b : Nat) : Int) := rfl
theorem tdivN' (a b : Nat) : (a : Int).tdiv (b : Int) = ((a / b : Nat) : Int) := rfl
theorem xor64 (a b : Nat) (ha : a < 1125899906842624) (hb : b < 1125899906842624) : ∃ c : Nat, c < 1125899906842624 ∧ IntKind.i64.wrap ((BitVec.ofInt IntKind.i64.bits (a : Int) ^^^ BitVec.ofInt IntKind.i64.bits (b : Int)).toNat : Int) = (c : Int) := by
  have e : (BitVec.ofInt IntKind.i64.bits (a : Int) ^^^ BitVec.ofInt IntKind.i64.bits (b : Int)).toNat = a ^^^ b := by
    rw [BitVec.toNat_xor, BitVec.toNat_ofInt, BitVec.toNat_ofInt]
    show ((a : Int) % (2 ^ 64 : Nat)).toNat ^^^ ((b : Int) % (2 ^ 64 : Nat)).toNat = a ^^^ b
    have h1 : ((a : Int) % (2 ^ 64 : Nat)).toNat = a := by
      rw [show ((2 ^ 64 : Nat) : Int) = 18446744073709551616 from rfl]; omega
    have h2 : ((b : Int) % (2 ^ 64 : Nat)).toNat = b := by
      rw [show ((2 ^ 64 : Nat) : Int) = 18446744073709551616 from rfl]; omega
    rw [h1, h2]
  have hx : a ^^^ b < 2 ^ 50 := Nat.xor_lt_two_pow ha hb
  refine ⟨a ^^^ b, hx, ?_⟩
  rw [e, wrapI _ ⟨by omega, by have : (2 : Nat) ^ 50 = 1125899906842624 := rfl; omega⟩]

/-! ### Steps in any order, the slots' values abstract -/

def vanyR (P : Program) (mem : Nat → H → H → Prop) (Q : List (H → Value → Prop)) (rest : H) (W : List Nat) (ρ : (Nat → Value) → Operand → Value) (K : (Nat → Value) → Option Nat → Value → H → Prop) : Nat → List (N × List Nat) → Prop
  | _, [] => False
  | i, x :: r => match r with
    | [] => stZ P mem rest ρ (fun g f => dq Q W g f x.2) (fun f v h => K f x.1.d v h) x.1.i
    | _ :: _ => stA P mem (Q.getD i (fun _ _ => True)) rest ρ (fun g f => dq Q W g f x.2) x.1.i ∧ vanyR P mem Q rest W ρ K (i + 1) r
theorem anysR : (∀ (P : Program) mem Q rest W ρ K i x, vanyR P mem Q rest W ρ K i [x] = stZ P mem rest ρ (fun g f => dq Q W g f x.2) (fun f v h => K f x.1.d v h) x.1.i) ∧
    (∀ (P : Program) mem Q rest W ρ K i x y r, vanyR P mem Q rest W ρ K i (x :: y :: r) = (stA P mem (Q.getD i (fun _ _ => True)) rest ρ (fun g f => dq Q W g f x.2) x.1.i ∧ vanyR P mem Q rest W ρ K (i + 1) (y :: r))) ∧
    (∀ Q W g f, dq Q W g f [] = True) ∧ (∀ Q W g f d r, dq Q W g f (d :: r) = ((Q.getD d (fun _ _ => True)) g (f (W.getD d 0)) ∧ dq Q W g f r)) :=
  ⟨fun _ _ _ _ _ _ _ _ _ => rfl, fun _ _ _ _ _ _ _ _ _ _ _ => rfl, fun _ _ _ _ => rfl, fun _ _ _ _ _ _ => rfl⟩
theorem vanyR_vany {P : Program} {mem : Nat → H → H → Prop} {Q : List (H → Value → Prop)} {rest : H} {W : List Nat} {env : List Value} {K : List Value → H → Prop} : ∀ (l : List (N × List Nat)) (i : Nat),
    vanyR P mem Q rest W (fun f => evl (hav env W f)) (fun f d v h => K (putE d v (hav env W f)) h) i l → vany P mem Q rest W env K i l := by
  intro l
  induction l with
  | nil => intro i h; exact h
  | cons x r ih =>
    intro i h
    cases r with
    | nil => exact h
    | cons y r => exact ⟨h.1, ih _ h.2⟩
theorem vc_anyR {P : Program} {l : List (N × List Nat)} {env : List Value} {h : H} {K : KK} (mem : Nat → H → H → Prop) (Q : List (H → Value → Prop)) (rest : H) (hm : ∀ q ∈ Q, ∀ g g' v, Sub g g' → q g v → q g' v) (h0 : mem l.length h rest)
    (hd : (nds (l.map (·.1))).all (fun d => decide (d < env.length)) = true)
    (hv : ∀ ρ : (Nat → Value) → Operand → Value, (∀ f t, (nds (l.map (·.1))).contains t = true → ρ f (.tmp t) = f t) → (∀ f t, (nds (l.map (·.1))).contains t = false → ρ f (.tmp t) = env.getD t undef) → (∀ f v, ρ f (.const v) = v) →
      vanyR P mem Q rest (nds (l.map (·.1))) ρ (fun f d v h => K .normal (putE d v (hav env (nds (l.map (·.1))) f)) h) 0 l) : vc P (.any l) env h K := by
  refine vc_any mem Q rest hm h0 hd (vanyR_vany _ _ (hv _ (fun f t ht => ?_) (fun f t ht => ?_) (fun _ _ => rfl)))
  · have hin : t ∈ nds (l.map (·.1)) := by simpa using ht
    have hl : t < env.length := by simpa using List.all_eq_true.1 hd t hin
    show (hav env _ f).getD t undef = f t
    rw [List.getD_eq_getElem?_getD, hav_get, if_pos ⟨hin, hl⟩]; rfl
  · have hin : t ∉ nds (l.map (·.1)) := by simpa using ht
    show (hav env _ f).getD t undef = env.getD t undef
    rw [List.getD_eq_getElem?_getD, hav_get, if_neg (fun x => hin x.1), ← List.getD_eq_getElem?_getD]
end Go.Tk
end

/- Structs that are compared. -/
section
set_option linter.unusedVariables false
set_option linter.unusedSimpArgs false
namespace Go.Tk
open Go

section
variable {P : Program} {E : Value → H → Prop} {h : H}
theorem SH_program {Q : Program → H → Prop} : SH P program Q E h = Q P h := rfl
theorem SH_ite {α : Type} {c : Prop} [Decidable c] {x y : Sem α} {Q : α → H → Prop} : SH P (if c then x else y) Q E h = if c then SH P x Q E h else SH P y Q E h := by split <;> rfl

theorem SH_struct {d : Nat} {t : TypeId} {fs : Array Field} {xs ys : Array Value} {Q : Bool → H → Prop} (hd : P.underlying t = some (.struct fs)) (hp : P.stoodInHeld t = false) :
    SH P (Op.equalIn (d + 1) t (.agg xs) (.agg ys)) Q E h = SH P (Op.eqFields d xs ys fs.toList) Q E h := by
  simp only [Op.equalIn, SH_bind', SH_underlying hd, SH_program, hp, Bool.false_eq_true, if_false]
  rw [← Array.forIn_toList]
  generalize fs.toList = l
  clear hd
  induction l generalizing h with
  | nil => simp only [List.forIn_nil, SH_pure, Op.eqFields]
  | cons f l ih =>
    simp only [List.forIn_cons, Op.eqFields, SH_bind', SH_ite]
    split
    · congr 1; funext a h1
      congr 1; funext b h2
      congr 1; funext r h3
      cases r
      · simp only [Bool.not_false, if_true, SH_pure]
      · simp only [Bool.not_true, Bool.false_eq_true, if_false, SH_pure]
        exact ih
    · simp only [SH_pure]
      exact ih

theorem SH_eqFields {d : Nat} {xs : Array Value} : ∀ {fs : List Field} {Q : Bool → H → Prop} {h : H}, (∀ f ∈ fs, ∃ v, (∀ Q h, SH P (part f.type xs f.offset) Q E h = Q v h) ∧ ∀ Q h, SH P (Op.equalIn d f.type v v) Q E h = Q true h) → SH P (Op.eqFields d xs xs fs) Q E h = Q true h := by
  intro fs
  induction fs with
  | nil => intro Q h _; rfl
  | cons f fs ih =>
    intro Q h hf
    obtain ⟨v, h1, h2⟩ := hf f List.mem_cons_self
    simp only [Op.eqFields]
    split
    · simp only [SH_bind', h1, h2]
      exact ih fun x hx => hf x (List.mem_cons_of_mem _ hx)
    · exact ih fun x hx => hf x (List.mem_cons_of_mem _ hx)

theorem SH_eqI {d : Nat} {t : TypeId} {k k' : IntKind} {a : Int} {Q : Bool → H → Prop} (hd : P.underlying t = some (.int k')) : SH P (Op.equalIn (d + 1) t (.int k a) (.int k a)) Q E h = Q true h := by
  simp only [Op.equalIn, SH_bind', SH_underlying hd, if_true, SH_pure, beq_self_eq_true]
theorem SH_eqT {d : Nat} {t : TypeId} {a : ByteArray} {Q : Bool → H → Prop} (hd : P.underlying t = some .string) : SH P (Op.equalIn (d + 1) t (.string a) (.string a)) Q E h = Q true h := by
  have : (a == a) = true := by rw [beq_toListBytes]; simp
  simp only [Op.equalIn, SH_bind', SH_underlying hd, SH_pure, this]

theorem SH_part {t : TypeId} {d : TypeDesc} {xs : Array Value} {off : Nat} {v : Value} {Q : Value → H → Prop} (hd : P.underlying t = some d) (ha : aggD d = false) (hv : xs[off]? = some v) : SH P (part t xs off) Q E h = Q v h := by
  unfold part isAgg
  simp only [SH_bind', SH_underlying hd]
  cases d <;> simp only [aggD, Bool.true_eq_false] at ha <;> simp only [SH_pure, Bool.false_eq_true, if_false, hv]

/-- A struct is itself. -/
theorem SH_same {op : BinOp} {t : TypeId} {fs : Array Field} {x y : Operand} {xs : Array Value} {Q : Value → H → Prop} (ho : op = .eql ∨ op = .neq) (hd : P.underlying t = some (.struct fs)) (hp : P.stoodInHeld t = false) (hg : P.eqGuardType P.depth t = false)
    (hf : ∀ f ∈ fs.toList, ∃ v, (∀ Q h, SH P (part f.type xs f.offset) Q E h = Q v h) ∧ ∀ Q h, SH P (Op.equalIn 9999 f.type v v) Q E h = Q true h) (k : Q (.bool (op == .eql)) h) :
    SH P (do eqGuard op t x y (.agg xs) (.agg xs); binOp op t (.agg xs) (.agg xs)) Q E h := by
  have e : ∀ Q' : Bool → H → Prop, SH P (Op.equal t (.agg xs) (.agg xs)) Q' E h = Q' true h := fun Q' => by
    show SH P (Op.equalIn (9999 + 1) t _ _) Q' E h = _
    rw [SH_struct hd hp]
    exact SH_eqFields hf
  rcases ho with rfl | rfl
  · simp only [eqGuard, SH_bind', SH_program, hg, SH_pure, SH_ite]
    simp
    show SH P (do pure (Value.bool (← Op.equal t (.agg xs) (.agg xs)))) Q E h
    rw [SH_bind', e]; exact k
  · simp only [eqGuard, SH_bind', SH_program, hg, SH_pure, SH_ite]
    simp
    show SH P (do pure (Value.bool (!(← Op.equal t (.agg xs) (.agg xs))))) Q E h
    rw [SH_bind', e]; exact k
end
end Go.Tk
end

/- Structs that are compared, whatever they are. -/
section
set_option linter.unusedVariables false
set_option linter.unusedSimpArgs false
namespace Go.Tk
open Go

section
variable {P : Program} {E : Value → H → Prop} {h : H}
theorem SH_eqFieldsB {d : Nat} {xs ys : Array Value} (b : Field → Bool) : ∀ {fs : List Field} {Q : Bool → H → Prop} {h : H}, (∀ f ∈ fs, f.name ≠ "_" ∧ ∃ v v', (∀ Q h, SH P (part f.type xs f.offset) Q E h = Q v h) ∧ (∀ Q h, SH P (part f.type ys f.offset) Q E h = Q v' h) ∧ ∀ Q h, SH P (Op.equalIn d f.type v v') Q E h = Q (b f) h) →
    SH P (Op.eqFields d xs ys fs) Q E h = Q (fs.all b) h := by
  intro fs
  induction fs with
  | nil => intro Q h _; rfl
  | cons f fs ih =>
    intro Q h hf
    obtain ⟨hn, v, v', h1, h2, h3⟩ := hf f List.mem_cons_self
    simp only [Op.eqFields]
    rw [if_pos hn]
    simp only [SH_bind', h1, h2, h3, SH_ite]
    rw [List.all_cons]
    cases hb : b f
    · simp only [Bool.not_false, if_true, SH_pure, Bool.false_and]
    · simp only [Bool.not_true, Bool.false_eq_true, if_false, Bool.true_and]
      exact ih fun x hx => hf x (List.mem_cons_of_mem _ hx)
theorem SH_eqIB {d : Nat} {t : TypeId} {k k' : IntKind} {a b : Int} {Q : Bool → H → Prop} (hd : P.underlying t = some (.int k')) : SH P (Op.equalIn (d + 1) t (.int k a) (.int k b)) Q E h = Q (a == b) h := by
  simp only [Op.equalIn, SH_bind', SH_underlying hd, if_true, SH_pure]
theorem SH_eqTB {d : Nat} {t : TypeId} {a b : ByteArray} {Q : Bool → H → Prop} (hd : P.underlying t = some .string) : SH P (Op.equalIn (d + 1) t (.string a) (.string b)) Q E h = Q (a == b) h := by
  simp only [Op.equalIn, SH_bind', SH_underlying hd, SH_pure]
theorem SH_partA {t : TypeId} {fs : Array Field} {i : TypeInfo} {xs : Array Value} {off : Nat} {Q : Value → H → Prop} (hd : P.underlying t = some (.struct fs)) (hi : P.info? t = some i) (hz : off + i.size ≤ xs.size) : SH P (part t xs off) Q E h = Q (.agg (xs.extract off (off + i.size))) h := by
  unfold part isAgg
  simp only [SH_bind', SH_underlying hd, SH_pure, if_true, SH_sizeOf hi]
/-- Two structs compared. -/
theorem SH_eqs {op : BinOp} {t : TypeId} {x y : Operand} {xs ys : Array Value} {r : Bool} {Q : Value → H → Prop} (ho : op = .eql ∨ op = .neq) (hg : P.eqGuardType P.depth t = false)
    (e : ∀ Q' : Bool → H → Prop, SH P (Op.equalIn (9999 + 1) t (.agg xs) (.agg ys)) Q' E h = Q' r h) (k : Q (.bool (if op = .eql then r else !r)) h) :
    SH P (do eqGuard op t x y (.agg xs) (.agg ys); binOp op t (.agg xs) (.agg ys)) Q E h := by
  have e : ∀ Q' : Bool → H → Prop, SH P (Op.equal t (.agg xs) (.agg ys)) Q' E h = Q' r h := e
  rcases ho with rfl | rfl
  · simp only [eqGuard, SH_bind', SH_program, hg, SH_pure, SH_ite]
    simp
    show SH P (do pure (Value.bool (← Op.equal t (.agg xs) (.agg ys)))) Q E h
    rw [SH_bind', e, SH_pure]; simpa using k
  · simp only [eqGuard, SH_bind', SH_program, hg, SH_pure, SH_ite]
    simp
    show SH P (do pure (Value.bool (!(← Op.equal t (.agg xs) (.agg ys))))) Q E h
    rw [SH_bind', e, SH_pure]; simpa using k
end
end Go.Tk
end

/- What comes in as data, and what package-level variables hold, as parts of the memory. -/
section
set_option linter.unusedVariables false
set_option linter.unusedSimpArgs false
namespace Go.Tk
open Go

/-- All of a world's memory. -/
def fullL (w : World) : List Nat → H
  | [] => []
  | i :: l => match w.heap[i]? with
    | some o => (i, o) :: fullL w l
    | none => fullL w l
def full (w : World) : H := fullL w (List.range w.heap.size)
theorem hget_fullL (w : World) (i : Nat) : ∀ l : List Nat, hget (fullL w l) i = if i ∈ l then w.heap[i]? else none := by
  intro l
  induction l with
  | nil => simp [fullL, hget]
  | cons j l ih =>
    unfold fullL
    cases hj : w.heap[j]? with
    | none =>
      simp only [ih, List.mem_cons]
      by_cases e : i = j
      · subst e; simp [hj]
      · simp [e]
    | some o =>
      simp only [hget_cons, ih, List.mem_cons]
      by_cases e : i = j
      · subst e; simp [hj]
      · simp [e]
theorem hget_full (w : World) (i : Nat) : hget (full w) i = w.heap[i]? := by
  unfold full
  rw [hget_fullL]
  split
  · rfl
  · rename_i h
    rw [List.mem_range, Nat.not_lt] at h
    exact (Array.getElem?_eq_none h).symm
theorem sat_full (w : World) : Sat (full w) w := fun i o e => by rw [← hget_full]; exact e

theorem cell_plain {w : World} {a : Addr} {v : Value} (h : w.cell? a = some v) : ∃ b off c e f, a = ⟨b, off, none⟩ ∧ w.heap[b]? = some (.cells c e f) ∧ c.toList[off]? = some v := by
  obtain ⟨b, off, sp⟩ := a
  unfold World.cell? at h
  cases ho : w.heap[b]? with
  | none => simp [ho] at h
  | some o =>
    cases o with
    | cells c e f =>
      cases sp with
      | some y => simp [ho] at h
      | none => exact ⟨b, off, c, e, f, rfl, ho, by simpa [ho] using h⟩
    | _ => simp [ho] at h
theorem cells_read {w : World} {base : Nat} {a : Addr} {n : Nat} {cs : List Value} (h : w.cells? base a n = some cs) (hn : 0 < n) : ∃ b off, a = ⟨b, off, none⟩ ∧ hread (full w) b off n = some cs := by
  obtain ⟨_, hl, hc⟩ := World.cells?_some h
  have h0 := hc 0 hn
  rw [List.getElem?_eq_getElem (by omega)] at h0
  have ha : a.add 0 = a := by unfold Addr.add; rw [if_pos rfl]
  rw [ha] at h0
  obtain ⟨b, off, c, e, f, rfl, hb, _⟩ := cell_plain h0
  have each : ∀ i, i < n → c.toList[off + i]? = cs[i]? := fun i hi => by
    have := hc i hi
    rw [add_none] at this
    rw [← this]
    simp only [World.cell?, hb, Option.isSome_none, Bool.false_eq_true, if_false, Array.getElem?_toList]
  have hsz : off + n ≤ c.size := by
    have := each (n - 1) (by omega)
    rw [List.getElem?_eq_getElem (by omega : n - 1 < cs.length)] at this
    obtain ⟨h, _⟩ := List.getElem?_eq_some_iff.1 this
    simp at h; omega
  refine ⟨b, off, rfl, ?_⟩
  unfold hread
  rw [hget_full, hb]
  simp only [Option.bind_some, rdObj]
  rw [if_pos hsz]
  congr 1
  apply List.ext_getElem?
  intro i
  rw [List.getElem?_take, List.getElem?_drop]
  split
  · rename_i hi; exact each i hi
  · rename_i hi; exact (List.getElem?_eq_none (by omega)).symm
theorem hread_cat {h : H} {b o n m : Nat} {x y : List Value} (h1 : hread h b o n = some x) (h2 : hread h b (o + n) m = some y) : hread h b o (n + m) = some (x ++ y) := by
  unfold hread at *
  cases e : hget h b with
  | none => rw [e] at h1; cases h1
  | some ob =>
    rw [e] at h1 h2
    simp only [Option.bind_some] at *
    cases ob with
    | cells c t f =>
      simp only [rdObj] at *
      by_cases c1 : o + n ≤ c.size
      · by_cases c2 : o + n + m ≤ c.size
        · rw [if_pos c1] at h1
          rw [if_pos c2] at h2
          rw [if_pos (by omega)]
          simp only [Option.some.injEq] at *
          rw [← h1, ← h2, List.take_add, List.drop_drop]
        · rw [if_neg c2] at h2; cases h2
      · rw [if_neg c1] at h1; cases h1
    | _ => cases h1
theorem hread_rows {h : H} {b o sz : Nat} : ∀ {n : Nat} {css : List (List Value)}, css.length = n → (∀ i (hi : i < css.length), hread h b (o + i * sz) sz = some css[i]) → 0 < n → hread h b o (n * sz) = some css.flatten := by
  intro n
  induction n with
  | zero => intro css _ _ h; cases h
  | succ n ih =>
    intro css hl hc _
    obtain ⟨l, c, rfl⟩ : ∃ l c, css = l ++ [c] := ⟨css.dropLast, css.getLast (by intro e; subst e; cases hl), (List.dropLast_concat_getLast _).symm⟩
    rw [List.length_append, List.length_singleton] at hl
    have hlast := hc n (by rw [List.length_append, List.length_singleton]; omega)
    rw [List.getElem_append_right (by omega)] at hlast
    simp only [List.getElem_singleton] at hlast
    rw [List.flatten_append, List.flatten_singleton]
    cases n with
    | zero =>
      have : l = [] := List.length_eq_zero_iff.1 (by omega)
      subst this
      simpa using hlast
    | succ n =>
      have h1 := ih (css := l) (by omega) (fun i hi => by
        have := hc i (by rw [List.length_append]; omega)
        rwa [List.getElem_append_left hi] at this) (by omega)
      rw [Nat.succ_mul (n + 1) sz]
      exact hread_cat h1 hlast

section
variable {X : Type} {enc : TypeId × Value → X} {P : Program} {w : World} {base : Nat} {sp : Nat → Bool} {held : Bool}

/-- A slice that came in: its rows, each as it reads. -/
theorem slice_rows {t e : TypeId} {fuel sz : Nat} {a : Option Addr} {len cap : Nat} {x : DataW X × List MemPlace} (ht : P.underlying t = some (.slice e)) (hc : P.cellsOf e = sz) (hsz : 0 < sz)
    (h : DataW.trod enc P w base sp held fuel t [.slice a len cap] = some x) :
    len ≤ maxLen ∧ ∃ css : List (List Value), css.length = len ∧ (∀ cs ∈ css, cs.length = sz ∧ ∃ m y, DataW.trod enc P w base sp held m e cs = some y) ∧
      ((a = none ∧ len = 0 ∧ cap = 0) ∨ len = 0 ∨ ∃ b off, a = some ⟨b, off, none⟩ ∧ len ≤ cap ∧ hread (full w) b off (len * sz) = some css.flatten) := by
  rcases DataW.trod_slice ht h with ⟨h0, _⟩ | ⟨ad, len', cap', elems, rest, n, _, h0, rfl, hb, hl, hm, hlen, hel, _, _⟩
  · simp only [List.cons.injEq, Value.slice.injEq, and_true] at h0
    obtain ⟨rfl, rfl, rfl⟩ := h0
    exact ⟨Nat.zero_le _, [], rfl, fun _ h => absurd h List.not_mem_nil, .inl ⟨rfl, rfl, rfl⟩⟩
  · simp only [List.cons.injEq, Value.slice.injEq, and_true] at h0
    obtain ⟨rfl, rfl, rfl⟩ := h0
    rw [hc] at hel
    have each : ∀ i : Fin len, ∃ cs, w.cells? base (ad.add (i.1 * sz)) sz = some cs ∧ ∃ y, DataW.trod enc P w base sp held n e cs = some y := fun i => by
      have := hel i.1 i.2
      rw [List.getElem?_eq_getElem (by omega : i.1 < elems.length), Option.bind_eq_some_iff] at this
      obtain ⟨cs, h1, h2⟩ := this
      exact ⟨cs, h1, _, h2⟩
    let C : Fin len → List Value := fun i => Classical.choose (each i)
    have hC : ∀ i, w.cells? base (ad.add (i.1 * sz)) sz = some (C i) ∧ ∃ y, DataW.trod enc P w base sp held n e (C i) = some y := fun i => Classical.choose_spec (each i)
    refine ⟨by omega, List.ofFn C, by simp, fun cs hcs => ?_, .inr ?_⟩
    · obtain ⟨i, rfl⟩ := List.mem_ofFn.1 hcs
      exact ⟨(World.cells?_some (hC i).1).2.1, n, (hC i).2⟩
    · rcases Nat.eq_zero_or_pos len with rfl | hp
      · exact .inl rfl
      right
      obtain ⟨b, off, hab, _⟩ := cells_read (hC ⟨0, hp⟩).1 hsz
      have ha : ad.add (0 * sz) = ad := by unfold Addr.add; rw [if_pos (Nat.zero_mul sz)]
      rw [ha] at hab
      subst hab
      refine ⟨b, off, rfl, hl, hread_rows (by simp) (fun i hi => ?_) hp⟩
      rw [List.length_ofFn] at hi
      obtain ⟨b', off', hab', hr⟩ := cells_read (hC ⟨i, hi⟩).1 hsz
      rw [add_none, Addr.mk.injEq] at hab'
      obtain ⟨rfl, rfl, _⟩ := hab'
      rw [List.getElem_ofFn]
      exact hr

/-- A slice of plain values that came in. -/
theorem slice_in {α : Type} {encA : α → List Value} {ok : α → Prop} {t e : TypeId} {fuel sz : Nat} {a : Option Addr} {len cap : Nat} {x : DataW X × List MemPlace} (ht : P.underlying t = some (.slice e)) (hc : P.cellsOf e = sz) (hsz : 0 < sz)
    (h : DataW.trod enc P w base sp held fuel t [.slice a len cap] = some x) (dec : ∀ cs m y, cs.length = sz → DataW.trod enc P w base sp held m e cs = some y → ∃ b : α, cs = encA b ∧ ok b) :
    ∃ l : List α, rIn (full w) encA sz (.slice a len cap) l ∧ l.length ≤ maxLen ∧ ∀ b ∈ l, ok b := by
  obtain ⟨hm, css, hlen, hall, hr⟩ := slice_rows ht hc hsz h
  have key : ∀ css : List (List Value), (∀ cs ∈ css, cs.length = sz ∧ ∃ m y, DataW.trod enc P w base sp held m e cs = some y) → ∃ l : List α, css = l.map encA ∧ ∀ b ∈ l, ok b := by
    intro css
    induction css with
    | nil => exact fun _ => ⟨[], rfl, fun _ h => absurd h List.not_mem_nil⟩
    | cons c css ih =>
      intro hx
      obtain ⟨l, rfl, hl⟩ := ih fun cs hcs => hx cs (List.mem_cons_of_mem _ hcs)
      obtain ⟨h1, m, y, h2⟩ := hx c List.mem_cons_self
      obtain ⟨b, rfl, hb⟩ := dec c m y h1 h2
      refine ⟨b :: l, rfl, fun b' hb' => ?_⟩
      rcases List.mem_cons.1 hb' with rfl | hb'
      · exact hb
      · exact hl _ hb'
  obtain ⟨l, rfl, hl⟩ := key css hall
  have hll : l.length = len := by rw [← hlen, List.length_map]
  have hfl : (fl encA l).length = l.length * sz := by
    unfold fl
    clear hr hlen hll hl
    induction l with
    | nil => simp
    | cons b l ih =>
      rw [List.map_cons, List.flatten_cons, List.length_append, ih fun cs hcs => hall cs (by rw [List.map_cons]; exact List.mem_cons_of_mem _ hcs), (hall (encA b) (by simp)).1, List.length_cons, Nat.succ_mul, Nat.add_comm]
  refine ⟨l, ?_, by omega, hl⟩
  rcases hr with ⟨rfl, rfl, rfl⟩ | rfl | ⟨b, off, rfl, hcap, hread⟩
  · exact .inr ⟨List.length_eq_zero_iff.1 hll, _, _, rfl⟩
  · exact .inr ⟨List.length_eq_zero_iff.1 hll, _, _, rfl⟩
  · subst hll
    exact .inl ⟨hfl, .inr ⟨b, off, cap, rfl, hcap, hread⟩⟩

/-- One cell of a struct that came in. -/
theorem field_of {t : TypeId} {fs : Array Field} {fuel : Nat} {cs : List Value} {x : DataW X × List MemPlace} (ht : P.underlying t = some (.struct fs)) (h : DataW.trod enc P w base sp held fuel t cs = some x) (i : Nat) {f : Field} (hf : fs[i]? = some f) :
    ∃ m y, DataW.trod enc P w base sp held m f.type ((cs.drop f.offset).take (P.cellsOf f.type)) = some y := by
  obtain ⟨xs, n, _, _, _, hl, ha⟩ := DataW.trod_struct ht h
  have := ha i f hf
  obtain ⟨hi, _⟩ := Array.getElem?_eq_some_iff.1 hf
  rw [List.getElem?_eq_getElem (by omega : i < xs.length)] at this
  exact ⟨n, _, this⟩
theorem field_at {t ty : TypeId} {fs : Array Field} {fuel : Nat} {cs cs' : List Value} {x : DataW X × List MemPlace} (ht : P.underlying t = some (.struct fs)) (h : DataW.trod enc P w base sp held fuel t cs = some x) (i off sz : Nat)
    (hf : (fs[i]?).map (fun f => (f.type, f.offset)) = some (ty, off)) (hc : P.cellsOf ty = sz) (hcs : (cs.drop off).take sz = cs') : ∃ m y, DataW.trod enc P w base sp held m ty cs' = some y := by
  rw [Option.map_eq_some_iff] at hf
  obtain ⟨f, h1, h2⟩ := hf
  simp only [Prod.mk.injEq] at h2
  obtain ⟨rfl, rfl⟩ := h2
  subst hc hcs
  exact field_of ht h i h1
end
theorem okWide_struct {P : Program} {w : World} {r : Reach} {base : Nat} {t : TypeId} {fs : Array Field} {v : Value} (ht : P.underlying t = some (.struct fs)) (h : Value.okWide P w r base t v) : ∃ cs, v = .agg cs ∧ cs.size = P.cellsOf t := by
  unfold Value.okWide at h
  rw [ht] at h
  obtain ⟨cs, h1, h2, _⟩ := h
  exact ⟨cs, h1, h2⟩

/-! ### What is laid -/

theorem laid_reads {P : Program} {w : World} : ∀ {l : List (String × DataW Unit)} {ps : List MemPlace}, DataW.LaidVars P w l ps → ∀ n d, (n, d) ∈ l →
    ∃ g t cs fuel p, P.globalNamed n = some g ∧ (P.globals[g]?).map (·.type) = some t ∧ w.var? P n = some cs ∧ DataW.trod (fun _ => ()) P w 0 (fun _ => true) false fuel t cs.toList = some (d, p) ∧ ∀ q ∈ MemPlace.row ⟨g, 0, none⟩ cs.size, q ∈ ps
  | [], _, _, _, _, hm => by cases hm
  | (n', d') :: r, ps, h, n, d, hm => by
    obtain ⟨g, t, cs, fuel, p, q, h1, h2, h3, h4, h5, rfl⟩ := h
    rcases List.mem_cons.1 hm with e | e
    · cases e
      exact ⟨g, t, cs, fuel, p, h1, h2, h3, h4, fun q hq => List.mem_append_left _ (List.mem_append_left _ hq)⟩
    · obtain ⟨g', t', cs', f', p', a1, a2, a3, a4, a5⟩ := laid_reads h5 n d e
      exact ⟨g', t', cs', f', p', a1, a2, a3, a4, fun q hq => List.mem_append_right _ (a5 q hq)⟩
theorem laid_block {P : Program} {w : World} {l : List (String × DataW Unit)} (h : laidMet P l w) {n : String} {d : DataW Unit} {g : Nat} {t : TypeId} (hm : (n, d) ∈ l) (hg : P.globalNamed n = some g) (ht : (P.globals[g]?).map (·.type) = some t) :
    ∃ cs fuel p, DataW.trod (fun _ => ()) P w 0 (fun _ => true) false fuel t cs = some (d, p) ∧ (cs ≠ [] → ∃ ty, hget (full w) g = some (blk cs ty)) := by
  obtain ⟨ps, hv, _, hf⟩ := h
  obtain ⟨g', t', cs, fuel, p, a1, a2, a3, a4, a5⟩ := laid_reads hv n d hm
  obtain rfl := Option.some.inj (hg.symm.trans a1)
  obtain rfl := Option.some.inj (ht.symm.trans a2)
  refine ⟨cs.toList, fuel, p, a4, fun hne => ?_⟩
  unfold World.var? at a3
  rw [hg] at a3
  simp only [Option.bind_some] at a3
  have hp : 0 < cs.size := by
    rcases Nat.eq_zero_or_pos cs.size with e | e
    · exact absurd (by simpa using e) hne
    · exact e
  obtain ⟨⟨c, ty, hb⟩, _⟩ := hf g 0 (a5 _ (by unfold MemPlace.row; refine List.mem_map.2 ⟨0, List.mem_range.2 hp, ?_⟩; rfl))
  rw [hb] at a3
  simp only [Option.some.injEq] at a3
  subst a3
  refine ⟨ty, ?_⟩
  rw [hget_full, hb]
  rfl
/-- A table. -/
theorem laid_tab {P : Program} {w : World} {l : List (String × DataW Unit)} (h : laidMet P l w) {n : String} {k : IntKind} {zs : List Int} {g m : Nat} {t e : TypeId} (hm : (n, Lib.tabData k zs) ∈ l) (hg : P.globalNamed n = some g) (ht : (P.globals[g]?).map (·.type) = some t)
    (hu : P.underlying t = some (.array m e)) (he : P.underlying e = some (.int k)) (hce : P.cellsOf e = 1) (hct : P.cellsOf t = m) (hz : zs ≠ []) : ∃ ty, hget (full w) g = some (blk (zs.map fun z => .int k z) ty) := by
  obtain ⟨cs, fuel, p, h1, h2⟩ := laid_block h hm hg ht
  have := Lib.cells_of_tab hu he hce hct h1
  subst this
  exact h2 (by simpa using hz)
/-- An error that is named. -/
theorem laid_err {P : Program} {w : World} {l : List (String × DataW Unit)} (h : laidMet P l w) {n s : String} {d : DataW Unit} {g : Nat} {t : TypeId} {ms : Array (String × TypeId)} (hm : (n, .iface s d) ∈ l) (hg : P.globalNamed n = some g) (ht : (P.globals[g]?).map (·.type) = some t)
    (hu : P.underlying t = some (.interface ms)) : ∃ ev ty, hget (full w) g = some (blk [ev] ty) ∧ (ev = .nilIface ∨ ∃ te pe, ev = .iface te pe) := by
  obtain ⟨cs, fuel, p, h1, h2⟩ := laid_block h hm hg ht
  have : ∃ te pe, cs = [.iface te pe] := by
    cases fuel with
    | zero => simp [DataW.trod] at h1
    | succ fuel =>
      match cs with
      | [] => simp [DataW.trod, hu] at h1
      | _ :: _ :: _ => simp [DataW.trod, hu] at h1
      | [c] =>
        cases c <;> simp [DataW.trod, hu] at h1
        rename_i u v
        exact ⟨u, v, rfl⟩
  obtain ⟨te, pe, rfl⟩ := this
  obtain ⟨ty, h3⟩ := h2 (by simp)
  exact ⟨_, ty, h3, .inr ⟨te, pe, rfl⟩⟩
end Go.Tk
end

/- The program's structs as data. -/
section
set_option linter.unusedVariables false
set_option linter.unusedSimpArgs false
set_option maxRecDepth 4000
namespace Go.Tk
open Go

theorem zPair_eq : [.int .i64 0, .int .i64 0] = eP ((0, 0) : Int × Int) := rfl
theorem wPair :
    (∀ (d : (Int × Int)), (eP d).length = 2) ∧
    (∀ (d : (Int × Int)), (eP d)[0]? = some (.int .i64 d.1)) ∧
    (∀ (d : (Int × Int)), (eP d)[1]? = some (.int .i64 d.2)) ∧
    (∀ (d : (Int × Int)), ((eP d).drop 0).take 2 = eP d) ∧
    (∀ (d : (Int × Int)), (eP d).take 2 = eP d) ∧
    (∀ (d : (Int × Int)), (eP d).all vone = true) ∧
    (∀ (d : (Int × Int)) (x : Int), splice (eP d) 0 [.int .i64 x] = eP (x, d.2)) ∧
    (∀ (d : (Int × Int)) (x : Int), splice (eP d) 1 [.int .i64 x] = eP (d.1, x)) ∧
    (∀ (d e : (Int × Int)), splice (eP d) 0 (eP e) = eP e) :=
  ⟨fun _ => rfl, fun _ => rfl, fun _ => rfl, fun _ => rfl, fun _ => rfl, fun _ => rfl, fun _ _ => rfl, fun _ _ => rfl, fun _ _ => rfl⟩

structure DCall where
  session : Int
  number : Int
  kind : Int
  text : List UInt8
  slot : Int
  to : Int
deriving DecidableEq
def cCall (d : DCall) : List Value := [.int .i64 d.session, .int .i64 d.number, .int .i64 d.kind, .string ⟨(d.text).toArray⟩, .int .i64 d.slot, .int .i64 d.to]
def zCall : DCall := ⟨0, 0, 0, [], 0, 0⟩
theorem zCall_eq : [.int .i64 0, .int .i64 0, .int .i64 0, str [], .int .i64 0, .int .i64 0] = cCall zCall := rfl
theorem wCall :
    (∀ (d : DCall), (cCall d).length = 6) ∧
    (∀ (d : DCall), (cCall d)[0]? = some (.int .i64 d.session)) ∧
    (∀ (d : DCall), (cCall d)[1]? = some (.int .i64 d.number)) ∧
    (∀ (d : DCall), (cCall d)[2]? = some (.int .i64 d.kind)) ∧
    (∀ (d : DCall), (cCall d)[3]? = some (.string ⟨(d.text).toArray⟩)) ∧
    (∀ (d : DCall), (cCall d)[4]? = some (.int .i64 d.slot)) ∧
    (∀ (d : DCall), (cCall d)[5]? = some (.int .i64 d.to)) ∧
    (∀ (d : DCall), ((cCall d).drop 0).take 6 = cCall d) ∧
    (∀ (d : DCall), (cCall d).take 6 = cCall d) ∧
    (∀ (d : DCall), (cCall d).all vone = true) ∧
    (∀ (d : DCall) (x : Int), splice (cCall d) 0 [.int .i64 x] = cCall { d with session := x }) ∧
    (∀ (d : DCall) (x : Int), splice (cCall d) 1 [.int .i64 x] = cCall { d with number := x }) ∧
    (∀ (d : DCall) (x : Int), splice (cCall d) 2 [.int .i64 x] = cCall { d with kind := x }) ∧
    (∀ (d : DCall) (x : List UInt8), splice (cCall d) 3 [.string ⟨(x).toArray⟩] = cCall { d with text := x }) ∧
    (∀ (d : DCall) (x : Int), splice (cCall d) 4 [.int .i64 x] = cCall { d with slot := x }) ∧
    (∀ (d : DCall) (x : Int), splice (cCall d) 5 [.int .i64 x] = cCall { d with to := x }) ∧
    (∀ (d e : DCall), splice (cCall d) 0 (cCall e) = cCall e) :=
  ⟨fun _ => rfl, fun _ => rfl, fun _ => rfl, fun _ => rfl, fun _ => rfl, fun _ => rfl, fun _ => rfl, fun _ => rfl, fun _ => rfl, fun _ => rfl, fun _ _ => rfl, fun _ _ => rfl, fun _ _ => rfl, fun _ _ => rfl, fun _ _ => rfl, fun _ _ => rfl, fun _ _ => rfl⟩

structure DWord where
  kind : Int
  from_ : Int
  to : Int
  stamp : Int
  try_ : Int
  what : Int
  yes : Bool
  slots : List Int
  pairs : List ((Int × Int))
  code : Int
  vals : List Int
  call : DCall
deriving DecidableEq
def cWord (d : DWord) (slots' pairs' vals' : Value) : List Value := [.int .i64 d.kind, .int .i64 d.from_, .int .i64 d.to, .int .i64 d.stamp, .int .i64 d.try_, .int .i64 d.what, .bool d.yes, slots', pairs', .int .i64 d.code, vals', .int .i64 d.call.session, .int .i64 d.call.number, .int .i64 d.call.kind, .string ⟨(d.call.text).toArray⟩, .int .i64 d.call.slot, .int .i64 d.call.to]
def zWord : DWord := ⟨0, 0, 0, 0, 0, 0, false, [], [], 0, [], ⟨0, 0, 0, [], 0, 0⟩⟩
theorem zWord_eq : [.int .i64 0, .int .i64 0, .int .i64 0, .int .i64 0, .int .i64 0, .int .i64 0, .bool false, .slice none 0 0, .slice none 0 0, .int .i64 0, .slice none 0 0, .int .i64 0, .int .i64 0, .int .i64 0, str [], .int .i64 0, .int .i64 0] = cWord zWord (.slice none 0 0) (.slice none 0 0) (.slice none 0 0) := rfl
theorem wWord :
    (∀ (d : DWord) (slots' pairs' vals' : Value), (cWord d slots' pairs' vals').length = 17) ∧
    (∀ (d : DWord) (slots' pairs' vals' : Value), (cWord d slots' pairs' vals')[0]? = some (.int .i64 d.kind)) ∧
    (∀ (d : DWord) (slots' pairs' vals' : Value), (cWord d slots' pairs' vals')[1]? = some (.int .i64 d.from_)) ∧
    (∀ (d : DWord) (slots' pairs' vals' : Value), (cWord d slots' pairs' vals')[2]? = some (.int .i64 d.to)) ∧
    (∀ (d : DWord) (slots' pairs' vals' : Value), (cWord d slots' pairs' vals')[3]? = some (.int .i64 d.stamp)) ∧
    (∀ (d : DWord) (slots' pairs' vals' : Value), (cWord d slots' pairs' vals')[4]? = some (.int .i64 d.try_)) ∧
    (∀ (d : DWord) (slots' pairs' vals' : Value), (cWord d slots' pairs' vals')[5]? = some (.int .i64 d.what)) ∧
    (∀ (d : DWord) (slots' pairs' vals' : Value), (cWord d slots' pairs' vals')[6]? = some (.bool d.yes)) ∧
    (∀ (d : DWord) (slots' pairs' vals' : Value), (cWord d slots' pairs' vals')[7]? = some (slots')) ∧
    (∀ (d : DWord) (slots' pairs' vals' : Value), (cWord d slots' pairs' vals')[8]? = some (pairs')) ∧
    (∀ (d : DWord) (slots' pairs' vals' : Value), (cWord d slots' pairs' vals')[9]? = some (.int .i64 d.code)) ∧
    (∀ (d : DWord) (slots' pairs' vals' : Value), (cWord d slots' pairs' vals')[10]? = some (vals')) ∧
    (∀ (d : DWord) (slots' pairs' vals' : Value), (cWord d slots' pairs' vals')[11]? = some (.int .i64 d.call.session)) ∧
    (∀ (d : DWord) (slots' pairs' vals' : Value), (cWord d slots' pairs' vals')[12]? = some (.int .i64 d.call.number)) ∧
    (∀ (d : DWord) (slots' pairs' vals' : Value), (cWord d slots' pairs' vals')[13]? = some (.int .i64 d.call.kind)) ∧
    (∀ (d : DWord) (slots' pairs' vals' : Value), (cWord d slots' pairs' vals')[14]? = some (.string ⟨(d.call.text).toArray⟩)) ∧
    (∀ (d : DWord) (slots' pairs' vals' : Value), (cWord d slots' pairs' vals')[15]? = some (.int .i64 d.call.slot)) ∧
    (∀ (d : DWord) (slots' pairs' vals' : Value), (cWord d slots' pairs' vals')[16]? = some (.int .i64 d.call.to)) ∧
    (∀ (d : DWord) (slots' pairs' vals' : Value), ((cWord d slots' pairs' vals').drop 0).take 17 = cWord d slots' pairs' vals') ∧
    (∀ (d : DWord) (slots' pairs' vals' : Value), (cWord d slots' pairs' vals').take 17 = cWord d slots' pairs' vals') ∧
    (∀ (d : DWord) (slots' pairs' vals' : Value), vone slots' = true → vone pairs' = true → vone vals' = true → (cWord d slots' pairs' vals').all vone = true) ∧
    (∀ (d : DWord) (slots' pairs' vals' : Value) (x : Int), splice (cWord d slots' pairs' vals') 0 [.int .i64 x] = cWord { d with kind := x } slots' pairs' vals') ∧
    (∀ (d : DWord) (slots' pairs' vals' : Value) (x : Int), splice (cWord d slots' pairs' vals') 1 [.int .i64 x] = cWord { d with from_ := x } slots' pairs' vals') ∧
    (∀ (d : DWord) (slots' pairs' vals' : Value) (x : Int), splice (cWord d slots' pairs' vals') 2 [.int .i64 x] = cWord { d with to := x } slots' pairs' vals') ∧
    (∀ (d : DWord) (slots' pairs' vals' : Value) (x : Int), splice (cWord d slots' pairs' vals') 3 [.int .i64 x] = cWord { d with stamp := x } slots' pairs' vals') ∧
    (∀ (d : DWord) (slots' pairs' vals' : Value) (x : Int), splice (cWord d slots' pairs' vals') 4 [.int .i64 x] = cWord { d with try_ := x } slots' pairs' vals') ∧
    (∀ (d : DWord) (slots' pairs' vals' : Value) (x : Int), splice (cWord d slots' pairs' vals') 5 [.int .i64 x] = cWord { d with what := x } slots' pairs' vals') ∧
    (∀ (d : DWord) (slots' pairs' vals' : Value) (x : Bool), splice (cWord d slots' pairs' vals') 6 [.bool x] = cWord { d with yes := x } slots' pairs' vals') ∧
    (∀ (d : DWord) (slots' pairs' vals' : Value) (x : Value), splice (cWord d slots' pairs' vals') 7 [x] = cWord d x pairs' vals') ∧
    (∀ (d : DWord) (slots' pairs' vals' : Value) (x : Value), splice (cWord d slots' pairs' vals') 8 [x] = cWord d slots' x vals') ∧
    (∀ (d : DWord) (slots' pairs' vals' : Value) (x : Int), splice (cWord d slots' pairs' vals') 9 [.int .i64 x] = cWord { d with code := x } slots' pairs' vals') ∧
    (∀ (d : DWord) (slots' pairs' vals' : Value) (x : Value), splice (cWord d slots' pairs' vals') 10 [x] = cWord d slots' pairs' x) ∧
    (∀ (d : DWord) (slots' pairs' vals' : Value) (x : Int), splice (cWord d slots' pairs' vals') 11 [.int .i64 x] = cWord { d with call := { d.call with session := x } } slots' pairs' vals') ∧
    (∀ (d : DWord) (slots' pairs' vals' : Value) (x : Int), splice (cWord d slots' pairs' vals') 12 [.int .i64 x] = cWord { d with call := { d.call with number := x } } slots' pairs' vals') ∧
    (∀ (d : DWord) (slots' pairs' vals' : Value) (x : Int), splice (cWord d slots' pairs' vals') 13 [.int .i64 x] = cWord { d with call := { d.call with kind := x } } slots' pairs' vals') ∧
    (∀ (d : DWord) (slots' pairs' vals' : Value) (x : List UInt8), splice (cWord d slots' pairs' vals') 14 [.string ⟨(x).toArray⟩] = cWord { d with call := { d.call with text := x } } slots' pairs' vals') ∧
    (∀ (d : DWord) (slots' pairs' vals' : Value) (x : Int), splice (cWord d slots' pairs' vals') 15 [.int .i64 x] = cWord { d with call := { d.call with slot := x } } slots' pairs' vals') ∧
    (∀ (d : DWord) (slots' pairs' vals' : Value) (x : Int), splice (cWord d slots' pairs' vals') 16 [.int .i64 x] = cWord { d with call := { d.call with to := x } } slots' pairs' vals') ∧
    (∀ (d e : DWord) (slots' pairs' vals' : Value) (slots'' pairs'' vals'' : Value), splice (cWord d slots' pairs' vals') 0 (cWord e slots'' pairs'' vals'') = cWord e slots'' pairs'' vals'') ∧
    (∀ (d : DWord) (slots' pairs' vals' : Value), ((cWord d slots' pairs' vals').drop 11).take 6 = cCall d.call) ∧
    (∀ (d : DWord) (slots' pairs' vals' : Value) (x : DCall), splice (cWord d slots' pairs' vals') 11 (cCall x) = cWord { d with call := x } slots' pairs' vals') :=
  ⟨fun _ _ _ _ => rfl, fun _ _ _ _ => rfl, fun _ _ _ _ => rfl, fun _ _ _ _ => rfl, fun _ _ _ _ => rfl, fun _ _ _ _ => rfl, fun _ _ _ _ => rfl, fun _ _ _ _ => rfl, fun _ _ _ _ => rfl, fun _ _ _ _ => rfl, fun _ _ _ _ => rfl, fun _ _ _ _ => rfl, fun _ _ _ _ => rfl, fun _ _ _ _ => rfl, fun _ _ _ _ => rfl, fun _ _ _ _ => rfl, fun _ _ _ _ => rfl, fun _ _ _ _ => rfl, fun _ _ _ _ => rfl, fun _ _ _ _ => rfl, fun _ _ _ _ h0 h1 h2 => by simp only [cWord, List.all_cons, List.all_nil, h0, h1, h2]; rfl, fun _ _ _ _ _ => rfl, fun _ _ _ _ _ => rfl, fun _ _ _ _ _ => rfl, fun _ _ _ _ _ => rfl, fun _ _ _ _ _ => rfl, fun _ _ _ _ _ => rfl, fun _ _ _ _ _ => rfl, fun _ _ _ _ _ => rfl, fun _ _ _ _ _ => rfl, fun _ _ _ _ _ => rfl, fun _ _ _ _ _ => rfl, fun _ _ _ _ _ => rfl, fun _ _ _ _ _ => rfl, fun _ _ _ _ _ => rfl, fun _ _ _ _ _ => rfl, fun _ _ _ _ _ => rfl, fun _ _ _ _ _ => rfl, fun _ _ _ _ _ _ _ _ => rfl, fun _ _ _ _ => rfl, fun _ _ _ _ _ => rfl⟩
/-- What a word's slices read. -/
def sWord (h : H) (d : DWord) (slots' pairs' vals' : Value) : Prop := rLs h eI 1 slots' d.slots ∧ rLs h eP 2 pairs' d.pairs ∧ rLs h eI 1 vals' d.vals
def rWord (h : H) (cs : List Value) (d : DWord) : Prop := ∃ slots' pairs' vals', cs = cWord d slots' pairs' vals' ∧ sWord h d slots' pairs' vals'
theorem sWord.sub {g h : H} (s : Sub g h) {d : DWord} {slots' pairs' vals' : Value} (r : sWord g d slots' pairs' vals') : sWord h d slots' pairs' vals' := by
  obtain ⟨u0, u1, u2⟩ := r
  exact ⟨rLs.sub s u0, rLs.sub s u1, rLs.sub s u2⟩
theorem rWord.sub {g h : H} (s : Sub g h) {c : List Value} {d : DWord} (r : rWord g c d) : rWord h c d := by
  obtain ⟨slots', pairs', vals', e, r⟩ := r
  exact ⟨slots', pairs', vals', e, sWord.sub s r⟩

structure DStatement where
  do_ : Int
  key : Int
  num : Int
deriving DecidableEq
def cStatement (d : DStatement) : List Value := [.int .i64 d.do_, .int .i64 d.key, .int .i64 d.num]
def zStatement : DStatement := ⟨0, 0, 0⟩
theorem zStatement_eq : [.int .i64 0, .int .i64 0, .int .i64 0] = cStatement zStatement := rfl
theorem wStatement :
    (∀ (d : DStatement), (cStatement d).length = 3) ∧
    (∀ (d : DStatement), (cStatement d)[0]? = some (.int .i64 d.do_)) ∧
    (∀ (d : DStatement), (cStatement d)[1]? = some (.int .i64 d.key)) ∧
    (∀ (d : DStatement), (cStatement d)[2]? = some (.int .i64 d.num)) ∧
    (∀ (d : DStatement), ((cStatement d).drop 0).take 3 = cStatement d) ∧
    (∀ (d : DStatement), (cStatement d).take 3 = cStatement d) ∧
    (∀ (d : DStatement), (cStatement d).all vone = true) ∧
    (∀ (d : DStatement) (x : Int), splice (cStatement d) 0 [.int .i64 x] = cStatement { d with do_ := x }) ∧
    (∀ (d : DStatement) (x : Int), splice (cStatement d) 1 [.int .i64 x] = cStatement { d with key := x }) ∧
    (∀ (d : DStatement) (x : Int), splice (cStatement d) 2 [.int .i64 x] = cStatement { d with num := x }) ∧
    (∀ (d e : DStatement), splice (cStatement d) 0 (cStatement e) = cStatement e) :=
  ⟨fun _ => rfl, fun _ => rfl, fun _ => rfl, fun _ => rfl, fun _ => rfl, fun _ => rfl, fun _ => rfl, fun _ _ => rfl, fun _ _ => rfl, fun _ _ => rfl, fun _ _ => rfl⟩

end Go.Tk
end

/- Words that are owned. -/
section
set_option linter.unusedVariables false
set_option linter.unusedSimpArgs false
namespace Go.Tk
open Go

def wLen (w : DWord) : Prop := w.slots.length ≤ 1099511627776 ∧ w.pairs.length ≤ 1099511627776 ∧ w.vals.length ≤ 1099511627776

/-- A word that is owned: its slices' blocks. -/
structure oWord (es ep ev : TypeId) (w : DWord) (s p v : Value) (gs gp gv : H) : Prop where
  s : oLs es eI 1 s w.slots gs
  p : oLs ep eP 2 p w.pairs gp
  v : oLs ev eI 1 v w.vals gv
  sp : Dj gs gp
  sv : Dj gs gv
  pv : Dj gp gv
theorem oWord.rd {es ep ev : TypeId} {w : DWord} {s p v : Value} {gs gp gv : H} (o : oWord es ep ev w s p v gs gp gv) : sWord (gs ++ (gp ++ gv)) w s p v := by
  refine ⟨o.s.rd.sub ?_, o.p.rd.sub ?_, o.v.rd.sub ?_⟩
  · exact Sub.left _ _
  · exact Sub.app (Dj_app.2 ⟨o.sp, o.sv⟩) (Sub.left _ _)
  · exact Sub.app (Dj_app.2 ⟨o.sp, o.sv⟩) (Sub.right o.pv)
end Go.Tk
end

/- Numbers as bytes, seven bits each, the lower first. -/
section
set_option linter.unusedVariables false
set_option linter.unusedSimpArgs false
namespace Go.Tk
open Go

def encN (m : Nat) : List UInt8 := if m < 128 then [UInt8.ofNat m] else UInt8.ofNat (128 + m % 128) :: encN (m / 128)
termination_by m
decreasing_by omega
theorem encN_lt {m : Nat} (h : m < 128) : encN m = [UInt8.ofNat m] := by rw [encN, if_pos h]
theorem encN_ge {m : Nat} (h : ¬ m < 128) : encN m = UInt8.ofNat (128 + m % 128) :: encN (m / 128) := by rw [encN, if_neg h]
theorem u8_nat {m : Nat} (h : m < 256) : (UInt8.ofNat m).toNat = m := by rw [UInt8.toNat_ofNat']; omega
theorem encN_ne (m : Nat) : encN m ≠ [] := by
  rw [encN]; split <;> simp
theorem encN_len3 {m : Nat} (h : m < 2097152) : (encN m).length ≤ 3 := by
  by_cases a : m < 128
  · rw [encN_lt a]; simp
  · rw [encN_ge a]
    by_cases b : m / 128 < 128
    · rw [encN_lt b]; simp
    · rw [encN_ge b, encN_lt (by omega : m / 128 / 128 < 128)]; simp

/-- A number with its sign as its last bit. -/
def zig (n : Int) : Nat := if n < 0 then (-2 * n - 1).toNat else (2 * n).toNat
def unzig (m : Nat) : Int := if m % 2 = 1 then -(((m + 1) / 2 : Nat) : Int) else ((m / 2 : Nat) : Int)
theorem unzig_zig (n : Int) : unzig (zig n) = n := by
  unfold zig unzig
  split <;> split <;> omega
theorem zig_lt {n : Int} {b : Nat} (h : -b < n ∧ n < b) : zig n < 2 * b := by
  unfold zig; split <;> omega
def encI (n : Int) : List UInt8 := encN (zig n)

/-- What is read at a place, if a number was written there. -/
def Num (rest : List UInt8) (m : Nat) (r : List UInt8) : Prop := rest = encN m ++ r ∧ m < 2097152

theorem tm_nat (a b : Nat) : ((a : Int).tmod (b : Int)) = ((a % b : Nat) : Int) := by
  rw [Int.tmod_eq_emod_of_nonneg (by omega)]; simp
theorem td_nat (a b : Nat) : ((a : Int).tdiv (b : Int)) = ((a / b : Nat) : Int) := by
  rw [Int.tdiv_eq_ediv_of_nonneg (by omega)]; simp
theorem tm128 (a : Nat) : ((a : Int).tmod 128) = ((a % 128 : Nat) : Int) := tm_nat a 128
theorem tm2 (a : Nat) : ((a : Int).tmod 2) = ((a % 2 : Nat) : Int) := tm_nat a 2
theorem td2 (a : Nat) : ((a : Int).tdiv 2) = ((a / 2 : Nat) : Int) := td_nat a 2
theorem td128 (a : Nat) : ((a : Int).tdiv 128) = ((a / 128 : Nat) : Int) := td_nat a 128
theorem tdneg2 (a : Nat) : ((-(a : Int)).tdiv 2) = -((a / 2 : Nat) : Int) := by rw [Int.neg_tdiv, td2]

theorem num_step {l2 r : List UInt8} {c : UInt8} {i a m : Nat} (h : c :: l2 = encN (m / 128 ^ i) ++ r) (ha : a = m % 128 ^ i) :
    (c.toNat < 128 → a + c.toNat % 128 * 128 ^ i = m ∧ l2 = r) ∧ (128 ≤ c.toNat → l2 = encN (m / 128 ^ (i + 1)) ++ r ∧ a + c.toNat % 128 * 128 ^ i = m % 128 ^ (i + 1) ∧ 128 ^ (i + 1) ≤ m) := by
  have hm : m % 128 ^ i + 128 ^ i * (m / 128 ^ i) = m := Nat.mod_add_div _ _
  have hp : 128 ^ (i + 1) = 128 ^ i * 128 := Nat.pow_succ _ _
  by_cases q : m / 128 ^ i < 128
  · rw [encN_lt q] at h
    simp only [List.cons_append, List.nil_append, List.cons.injEq] at h
    have hc : c.toNat = m / 128 ^ i := by rw [h.1, u8_nat (by omega)]
    refine ⟨fun _ => ⟨?_, h.2⟩, fun x => by omega⟩
    rw [hc, Nat.mod_eq_of_lt q, ha, Nat.mul_comm]; exact hm
  · rw [encN_ge q] at h
    simp only [List.cons_append, List.cons.injEq] at h
    have hc : c.toNat = 128 + m / 128 ^ i % 128 := by rw [h.1, u8_nat (by omega)]
    refine ⟨fun x => by omega, fun _ => ⟨?_, ?_, ?_⟩⟩
    · rw [h.2, hp, ← Nat.div_div_eq_div_mul]
    · rw [hc, show (128 + m / 128 ^ i % 128) % 128 = m / 128 ^ i % 128 from by omega, ha, Nat.mod_pow_succ, Nat.mul_comm]
    · have : 128 ^ i * 128 ≤ 128 ^ i * (m / 128 ^ i) := Nat.mul_le_mul_left _ (by omega)
      rw [hp]; omega

theorem encN_le : ∀ (m : Nat), (encN m).length ≤ m + 1 := by
  intro m
  induction m using Nat.strongRecOn with
  | _ m ih =>
    by_cases h : m < 128
    · rw [encN_lt h]; simp
    · rw [encN_ge h, List.length_cons]
      have := ih (m / 128) (by omega)
      omega
theorem wrapU (n : Int) (h : 0 ≤ n ∧ n ≤ 18446744073709551615) : IntKind.u64.wrap n = n := by
  have e : IntKind.u64.wrap n = n % 18446744073709551616 := rfl
  rw [e]; omega
theorem mb1 : min 1 IntKind.u64.bits = 1 := rfl
theorem mb7 : min 7 IntKind.u64.bits = 7 := rfl
theorem fdiv128 (a : Nat) : (a : Int).fdiv 128 = ((a / 128 : Nat) : Int) := by
  rw [Int.fdiv_eq_ediv_of_nonneg _ (by omega)]; simp
theorem and127 (a : Nat) (h : a ≤ 18446744073709551615) : IntKind.u64.wrap ((BitVec.ofInt IntKind.u64.bits (a : Int) &&& BitVec.ofInt IntKind.u64.bits 127).toNat : Int) = ((a % 128 : Nat) : Int) := by
  have e : (BitVec.ofInt IntKind.u64.bits (a : Int) &&& BitVec.ofInt IntKind.u64.bits 127).toNat = a % 128 := by
    rw [BitVec.toNat_and, BitVec.toNat_ofInt, BitVec.toNat_ofInt]
    show ((a : Int) % (2 ^ 64 : Nat)).toNat &&& ((127 : Int) % (2 ^ 64 : Nat)).toNat = a % 128
    have h1 : ((a : Int) % (2 ^ 64 : Nat)).toNat = a := by
      rw [show ((2 ^ 64 : Nat) : Int) = 18446744073709551616 from rfl]; omega
    rw [h1, show ((127 : Int) % (2 ^ 64 : Nat)).toNat = 2 ^ 7 - 1 from rfl, Nat.and_two_pow_sub_one_eq_mod]
  rw [e, wrapU _ (by omega)]
end Go.Tk
end

/- What is ok: numbers, slots, pairs, values, words. -/
section
set_option linter.unusedVariables false
set_option linter.unusedSimpArgs false
namespace Go.Tk
open Go

section
variable {α : Type}
def allP (P : α → Prop) (l : List α) : Prop := ∀ x ∈ l, P x
theorem allP_nil (P : α → Prop) : allP P [] := fun x h => by cases h
theorem allP_zero (P : α → Prop) (l : List α) : allP P (l.take 0) := fun x h => by simp at h
theorem allP_more {P : α → Prop} {l : List α} {i : Nat} (h : i < l.length) (a : allP P (l.take i)) (p : P l[i]) : allP P (l.take (i + 1)) := by
  rw [List.take_succ_eq_append_getElem h]
  intro x hx
  rcases List.mem_append.1 hx with hx | hx
  · exact a x hx
  · rw [List.mem_singleton.1 hx]; exact p
theorem allP_done {P : α → Prop} {l : List α} {i : Nat} (h : l.length ≤ i) (a : allP P (l.take i)) : allP P l := by rw [List.take_of_length_le h] at a; exact a
theorem allP_not {P : α → Prop} {l : List α} {i : Nat} (h : i < l.length) (p : ¬ P l[i]) : ¬ allP P l := fun a => p (a _ (List.getElem_mem h))
/-- Ascending up to a place. -/
def risU (k : α → Int) (l : List α) (n : Nat) : Prop := ∀ i (h : i + 1 < l.length), i + 1 < n → k (l[i]'(by omega)) < k l[i + 1]
def risP (k : α → Int) (l : List α) : Prop := ∀ i (h : i + 1 < l.length), k (l[i]'(by omega)) < k l[i + 1]
theorem risU_zero (k : α → Int) (l : List α) : risU k l 0 := fun i h n => by omega
theorem risU_one {k : α → Int} {l : List α} {i : Nat} (h : i = 0) (r : risU k l i) : risU k l (i + 1) := fun j hj n => by omega
theorem risU_more {k : α → Int} {l : List α} {i : Nat} (hi : i < l.length) (h0 : 0 < i) (r : risU k l i) (x : k (l[i - 1]'(by omega)) < k l[i]) : risU k l (i + 1) := fun j hj n => by
  by_cases e : j + 1 < i
  · exact r j hj e
  · have : j + 1 = i := by omega
    subst this
    exact x
theorem risU_done {k : α → Int} {l : List α} {i : Nat} (h : l.length ≤ i) (r : risU k l i) : risP k l := fun j hj => r j hj (by omega)
theorem risU_not {k : α → Int} {l : List α} {i : Nat} (hi : i < l.length) (h0 : 0 < i) (x : ¬ k (l[i - 1]'(by omega)) < k l[i]) : ¬ risP k l := fun r => by
  obtain ⟨i, rfl⟩ : ∃ j, i = j + 1 := ⟨i - 1, by omega⟩
  exact x (r i hi)
end

def inP (a b n : Int) : Prop := a ≤ n ∧ n ≤ b
def keyP (n : Int) : Prop := inP 0 31 n
def valP (n : Int) : Prop := inP (-9999) 9999 n
def slotP (n : Int) : Prop := inP 0 7 n
def houseP (n : Int) : Prop := inP 0 2 n
def placeP (n : Int) : Prop := houseP n ∨ n = 9 ∨ inP 100 102 n
def pairP (p : Int × Int) : Prop := keyP p.1 ∧ valP p.2
def slotsP (l : List Int) : Prop := allP slotP l ∧ risP id l
def pairsP (l : List (Int × Int)) : Prop := l.length ≤ 32 ∧ allP pairP l ∧ risP (·.1) l
def valsP (l : List Int) : Prop := l.length ≤ 6 ∧ allP valP l
def stampP (n : Int) : Prop := inP 0 9999 n
def callP (c : DCall) : Prop := stampP c.session ∧ stampP c.number ∧ stampP c.kind ∧ stampP c.slot ∧ stampP c.to ∧ c.text.length ≤ 80
def wordP (w : DWord) : Prop := inP 1 9 w.kind ∧ placeP w.from_ ∧ placeP w.to ∧ stampP w.stamp ∧ stampP w.try_ ∧ inP 0 3 w.what ∧ slotsP w.slots ∧ pairsP w.pairs ∧ inP 0 9 w.code ∧ valsP w.vals ∧ callP w.call

theorem ite_b {b : Bool} {X Y : Prop} (x : b = true → X) (y : b = false → Y) : if b = true then X else Y := by
  cases b
  · exact y rfl
  · exact x rfl
theorem ite_f {b : Bool} {X Y : Prop} (x : b = false → X) (y : b = true → Y) : if b = false then X else Y := by
  cases b
  · exact x rfl
  · exact y rfl
/-- A call that answers yes or no. -/
def Asks (R : Ending → H → Prop) (p : Prop) (h : H) : Prop := ∀ b : Bool, (b = true ↔ p) → R (.returned (.bool b)) h
theorem Asks.yes {R : Ending → H → Prop} {p : Prop} {h : H} (k : Asks R p h) (x : p) : R (.returned (.bool true)) h := k true (by simp [x])
theorem Asks.no {R : Ending → H → Prop} {p : Prop} {h : H} (k : Asks R p h) (x : ¬ p) : R (.returned (.bool false)) h := k false (by simp [x])
theorem Asks.dyes {R : Ending → H → Prop} {p : Prop} {h g : H} (k : Asks R p g) (s : Sub g h) (x : p) : dP R (.returned (.bool true)) h := ⟨g, s, k.yes x⟩
theorem Asks.dno {R : Ending → H → Prop} {p : Prop} {h g : H} (k : Asks R p g) (s : Sub g h) (x : ¬ p) : dP R (.returned (.bool false)) h := ⟨g, s, k.no x⟩
theorem not_b {b : Bool} {p : Prop} (hb : b = true ↔ p) (h : b = false) : ¬ p := fun x => by rw [hb.2 x] at h; cases h
end Go.Tk
end

/- Words as bytes. -/
section
set_option linter.unusedVariables false
set_option linter.unusedSimpArgs false
namespace Go.Tk
open Go

def encIs (l : List Int) : List UInt8 := (l.map encI).flatten
theorem encIs_nil : encIs [] = [] := rfl
theorem encIs_cons (n : Int) (l : List Int) : encIs (n :: l) = encI n ++ encIs l := by simp [encIs]
theorem encIs_app (l m : List Int) : encIs (l ++ m) = encIs l ++ encIs m := by simp [encIs]
theorem encIs_one (n : Int) : encIs [n] = encI n := by simp [encIs]
def smallP (n : Int) : Prop := -9999 ≤ n ∧ n ≤ 9999
theorem encI_len {n : Int} (h : -1000000 ≤ n ∧ n ≤ 1000000) : (encI n).length ≤ 3 := encN_len3 (by have := zig_lt (n := n) (b := 1000001) (by omega); omega)
theorem encIs_len {l : List Int} (h : allP smallP l) : (encIs l).length ≤ 3 * l.length := by
  induction l with
  | nil => simp [encIs]
  | cons a l ih =>
    rw [encIs_cons, List.length_append, List.length_cons]
    have h1 := ih (fun x hx => h x (List.mem_cons_of_mem _ hx))
    have h2 : smallP a := h a List.mem_cons_self
    have h3 := encI_len (n := a) ⟨by have := h2.1; omega, by have := h2.2; omega⟩
    omega
def flatP (l : List (Int × Int)) : List Int := (l.map fun p => [p.1, p.2]).flatten
theorem flatP_nil : flatP [] = [] := rfl
theorem flatP_app (l m : List (Int × Int)) : flatP (l ++ m) = flatP l ++ flatP m := by simp [flatP]
theorem flatP_one (p : Int × Int) : flatP [p] = [p.1, p.2] := rfl
theorem flatP_cons (p : Int × Int) (l : List (Int × Int)) : flatP (p :: l) = p.1 :: p.2 :: flatP l := by simp [flatP]
def yesN (b : Bool) : Int := if b then 1 else 0
def headW (w : DWord) : List Int := [w.kind, w.from_, w.to, w.stamp, w.try_, w.what, yesN w.yes, w.code, w.call.session, w.call.number, w.call.kind, w.call.slot, w.call.to, (w.call.text.length : Int)]
def pack (w : DWord) : List UInt8 := encIs (headW w) ++ w.call.text ++ encIs ((w.slots.length : Int) :: w.slots) ++ encIs ((w.vals.length : Int) :: w.vals) ++ encIs ((w.pairs.length : Int) :: flatP w.pairs)
theorem take_app_one {α : Type} {l : List α} {i : Nat} (h : i < l.length) : l.take (i + 1) = l.take i ++ [l[i]] := List.take_succ_eq_append_getElem h

theorem slotsP_small {l : List Int} (h : slotsP l) : allP smallP l := fun x hx => by
  have := h.1 x hx
  simp only [slotP, inP] at this
  exact ⟨by omega, by omega⟩
theorem valsP_small {l : List Int} (h : valsP l) : allP smallP l := fun x hx => by
  have := h.2 x hx
  simp only [valP, inP] at this
  exact ⟨by omega, by omega⟩
theorem pairsP_small {l : List (Int × Int)} (h : pairsP l) {x : Int × Int} (hx : x ∈ l) : smallP x.1 ∧ smallP x.2 := by
  have := h.2.1 x hx
  simp only [pairP, keyP, valP, inP] at this
  exact ⟨⟨by omega, by omega⟩, ⟨by omega, by omega⟩⟩
theorem place_small {n : Int} (h : placeP n) : smallP n := by
  rcases h with h | h | h
  · simp only [houseP, inP] at h; exact ⟨by omega, by omega⟩
  · exact ⟨by omega, by omega⟩
  · simp only [inP] at h; exact ⟨by omega, by omega⟩
theorem headW_small {w : DWord} (h : wordP w) : allP smallP (headW w) := by
  obtain ⟨h1, h2, h3, h4, h5, h6, _, _, h7, _, g1, g2, g3, g4, g5, g6⟩ := h
  have p2 := place_small h2
  have p3 := place_small h3
  simp only [inP, stampP] at *
  have hy : smallP (yesN w.yes) := by unfold yesN smallP; split <;> omega
  intro x hx
  simp only [headW, List.mem_cons, List.not_mem_nil, or_false] at hx
  rcases hx with rfl | rfl | rfl | rfl | rfl | rfl | rfl | rfl | rfl | rfl | rfl | rfl | rfl | rfl <;> first | assumption | exact ⟨by omega, by omega⟩
end Go.Tk
end

/- Numbers in decimals, and deals as texts. -/
section
set_option linter.unusedVariables false
set_option linter.unusedSimpArgs false
namespace Go.Tk
open Go

/-- A number in decimals. -/
def decN (n : Nat) : List UInt8 := if h : n < 10 then [UInt8.ofNat (48 + n)] else decN (n / 10) ++ [UInt8.ofNat (48 + n % 10)]
termination_by n
decreasing_by omega
theorem decN_small {n : Nat} (h : n < 10) : decN n = [UInt8.ofNat (48 + n)] := by rw [decN, dif_pos h]
theorem decN_big {n : Nat} (h : ¬ n < 10) : decN n = decN (n / 10) ++ [UInt8.ofNat (48 + n % 10)] := by rw [decN, dif_neg h]
theorem decN_len : ∀ (k n : Nat), n < 10 ^ (k + 1) → (decN n).length ≤ k + 1 := by
  intro k
  induction k with
  | zero => intro n h; rw [decN_small (by simpa using h)]; simp
  | succ k ih =>
    intro n h
    by_cases c : n < 10
    · rw [decN_small c]; simp
    · rw [decN_big c, List.length_append, List.length_singleton]
      have := ih (n / 10) (by rw [Nat.pow_succ] at h; omega)
      omega
theorem decN_len20 {n : Nat} (h : n ≤ 9223372036854775807) : (decN n).length ≤ 20 := decN_len 19 n (by
  have : (10 : Nat) ^ (19 + 1) = 100000000000000000000 := by decide
  omega)
def decI (i : Int) : List UInt8 := if i < 0 then 45 :: decN (-i).toNat else decN i.toNat
theorem decI_len {i : Int} (h : -9223372036854775807 ≤ i ∧ i ≤ 9223372036854775807) : (decI i).length ≤ 21 := by
  unfold decI
  split
  · rw [List.length_cons]; have := decN_len20 (n := (-i).toNat) (by omega); omega
  · have := decN_len20 (n := i.toNat) (by omega); omega

def stP (s : DStatement) : Prop := inP 1 4 s.do_ ∧ inP 0 31 s.key ∧ valP s.num ∧ (s.do_ = 1 → s.num = 0)
def dealP (l : List DStatement) : Prop := 1 ≤ l.length ∧ l.length ≤ 6 ∧ allP stP l
/-- What a statement begins with. -/
def opName (n : Int) : List UInt8 := if n = 1 then [103, 101, 116, 32] else if n = 2 then [112, 117, 116, 32] else if n = 3 then [97, 100, 100, 32] else [110, 101, 101, 100, 32]
def stText (s : DStatement) : List UInt8 := opName s.do_ ++ decI s.key ++ (if s.do_ = 1 then [] else 32 :: decI s.num) ++ [59]
def dealText (l : List DStatement) : List UInt8 := (l.map stText).flatten
theorem dealText_app (l m : List DStatement) : dealText (l ++ m) = dealText l ++ dealText m := by simp [dealText]
theorem dealText_one (s : DStatement) : dealText [s] = stText s := by simp [dealText]
theorem opName_len (n : Int) : (opName n).length ≤ 5 := by
  unfold opName
  repeat' split
  all_goals simp
theorem stText_len {s : DStatement} (h : stP s) : (stText s).length ≤ 60 := by
  have h1 := opName_len s.do_
  have h2 := decI_len (i := s.key) (by have := h.2.1; simp only [inP] at this; omega)
  have h3 := decI_len (i := s.num) (by have := h.2.2.1; simp only [valP, inP] at this; omega)
  unfold stText
  split <;> simp only [List.length_append, List.length_cons, List.length_nil] <;> omega
theorem dealText_len {l : List DStatement} (h : allP stP l) : (dealText l).length ≤ 60 * l.length := by
  induction l with
  | nil => simp [dealText]
  | cons s l ih =>
    have h1 := ih fun x hx => h x (List.mem_cons_of_mem _ hx)
    have h2 := stText_len (h s List.mem_cons_self)
    have : dealText (s :: l) = stText s ++ dealText l := by simp [dealText]
    rw [this, List.length_append, List.length_cons]
    omega
end Go.Tk
end

/- The program's structs as data. -/
section
set_option linter.unusedVariables false
set_option linter.unusedSimpArgs false
set_option maxRecDepth 4000
namespace Go.Tk
open Go

structure DTollEvent where
  kind : Int
  at_ : Int
  session : Int
  word : Int
  keep : Int
  call : DCall
deriving DecidableEq
def cTollEvent (d : DTollEvent) : List Value := [.int .i64 d.kind, .int .i64 d.at_, .int .i64 d.session, .int .i64 d.word, .int .i64 d.keep, .int .i64 d.call.session, .int .i64 d.call.number, .int .i64 d.call.kind, .string ⟨(d.call.text).toArray⟩, .int .i64 d.call.slot, .int .i64 d.call.to]
def zTollEvent : DTollEvent := ⟨0, 0, 0, 0, 0, ⟨0, 0, 0, [], 0, 0⟩⟩
theorem zTollEvent_eq : [.int .i64 0, .int .i64 0, .int .i64 0, .int .i64 0, .int .i64 0, .int .i64 0, .int .i64 0, .int .i64 0, str [], .int .i64 0, .int .i64 0] = cTollEvent zTollEvent := rfl
theorem wTollEvent :
    (∀ (d : DTollEvent), (cTollEvent d).length = 11) ∧
    (∀ (d : DTollEvent), (cTollEvent d)[0]? = some (.int .i64 d.kind)) ∧
    (∀ (d : DTollEvent), (cTollEvent d)[1]? = some (.int .i64 d.at_)) ∧
    (∀ (d : DTollEvent), (cTollEvent d)[2]? = some (.int .i64 d.session)) ∧
    (∀ (d : DTollEvent), (cTollEvent d)[3]? = some (.int .i64 d.word)) ∧
    (∀ (d : DTollEvent), (cTollEvent d)[4]? = some (.int .i64 d.keep)) ∧
    (∀ (d : DTollEvent), (cTollEvent d)[5]? = some (.int .i64 d.call.session)) ∧
    (∀ (d : DTollEvent), (cTollEvent d)[6]? = some (.int .i64 d.call.number)) ∧
    (∀ (d : DTollEvent), (cTollEvent d)[7]? = some (.int .i64 d.call.kind)) ∧
    (∀ (d : DTollEvent), (cTollEvent d)[8]? = some (.string ⟨(d.call.text).toArray⟩)) ∧
    (∀ (d : DTollEvent), (cTollEvent d)[9]? = some (.int .i64 d.call.slot)) ∧
    (∀ (d : DTollEvent), (cTollEvent d)[10]? = some (.int .i64 d.call.to)) ∧
    (∀ (d : DTollEvent), ((cTollEvent d).drop 0).take 11 = cTollEvent d) ∧
    (∀ (d : DTollEvent), (cTollEvent d).take 11 = cTollEvent d) ∧
    (∀ (d : DTollEvent), (cTollEvent d).all vone = true) ∧
    (∀ (d : DTollEvent) (x : Int), splice (cTollEvent d) 0 [.int .i64 x] = cTollEvent { d with kind := x }) ∧
    (∀ (d : DTollEvent) (x : Int), splice (cTollEvent d) 1 [.int .i64 x] = cTollEvent { d with at_ := x }) ∧
    (∀ (d : DTollEvent) (x : Int), splice (cTollEvent d) 2 [.int .i64 x] = cTollEvent { d with session := x }) ∧
    (∀ (d : DTollEvent) (x : Int), splice (cTollEvent d) 3 [.int .i64 x] = cTollEvent { d with word := x }) ∧
    (∀ (d : DTollEvent) (x : Int), splice (cTollEvent d) 4 [.int .i64 x] = cTollEvent { d with keep := x }) ∧
    (∀ (d : DTollEvent) (x : Int), splice (cTollEvent d) 5 [.int .i64 x] = cTollEvent { d with call := { d.call with session := x } }) ∧
    (∀ (d : DTollEvent) (x : Int), splice (cTollEvent d) 6 [.int .i64 x] = cTollEvent { d with call := { d.call with number := x } }) ∧
    (∀ (d : DTollEvent) (x : Int), splice (cTollEvent d) 7 [.int .i64 x] = cTollEvent { d with call := { d.call with kind := x } }) ∧
    (∀ (d : DTollEvent) (x : List UInt8), splice (cTollEvent d) 8 [.string ⟨(x).toArray⟩] = cTollEvent { d with call := { d.call with text := x } }) ∧
    (∀ (d : DTollEvent) (x : Int), splice (cTollEvent d) 9 [.int .i64 x] = cTollEvent { d with call := { d.call with slot := x } }) ∧
    (∀ (d : DTollEvent) (x : Int), splice (cTollEvent d) 10 [.int .i64 x] = cTollEvent { d with call := { d.call with to := x } }) ∧
    (∀ (d e : DTollEvent), splice (cTollEvent d) 0 (cTollEvent e) = cTollEvent e) ∧
    (∀ (d : DTollEvent), ((cTollEvent d).drop 5).take 6 = cCall d.call) ∧
    (∀ (d : DTollEvent) (x : DCall), splice (cTollEvent d) 5 (cCall x) = cTollEvent { d with call := x }) :=
  ⟨fun _ => rfl, fun _ => rfl, fun _ => rfl, fun _ => rfl, fun _ => rfl, fun _ => rfl, fun _ => rfl, fun _ => rfl, fun _ => rfl, fun _ => rfl, fun _ => rfl, fun _ => rfl, fun _ => rfl, fun _ => rfl, fun _ => rfl, fun _ _ => rfl, fun _ _ => rfl, fun _ _ => rfl, fun _ _ => rfl, fun _ _ => rfl, fun _ _ => rfl, fun _ _ => rfl, fun _ _ => rfl, fun _ _ => rfl, fun _ _ => rfl, fun _ _ => rfl, fun _ _ => rfl, fun _ => rfl, fun _ _ => rfl⟩

end Go.Tk
end

/- Lines of scripts as rows of bytes: numbers, cuts, forms. -/
section
set_option linter.unusedVariables false
set_option linter.unusedSimpArgs false
namespace Go.Tk
open Go

/-! ### Numbers -/

def digP (b : UInt8) : Prop := 48 ≤ b.toNat ∧ b.toNat ≤ 57
theorem digP_of {n : Nat} (h : n < 10) : digP (UInt8.ofNat (48 + n)) := by
  unfold digP
  rw [UInt8.toNat_ofNat']
  omega
theorem dig_val {n : Nat} (h : n < 10) : (UInt8.ofNat (48 + n)).toNat = 48 + n := by
  rw [UInt8.toNat_ofNat']
  omega
theorem decN_dig (n : Nat) : ∀ b ∈ decN n, digP b := by
  induction n using Nat.strongRecOn with
  | _ n ih =>
    intro b hb
    by_cases c : n < 10
    · rw [decN_small c, List.mem_singleton] at hb
      subst hb
      exact digP_of c
    · rw [decN_big c] at hb
      rcases List.mem_append.1 hb with h | h
      · exact ih (n / 10) (by omega) b h
      · rw [List.mem_singleton] at h
        subst h
        exact digP_of (Nat.mod_lt _ (by decide))
theorem decN_pos (n : Nat) : 1 ≤ (decN n).length := by
  by_cases c : n < 10
  · rw [decN_small c]; simp
  · rw [decN_big c]; simp
/-- What a row of figures says. -/
def valN (l : List UInt8) : Nat := l.foldl (fun a b => a * 10 + (b.toNat - 48)) 0
theorem valN_app (l : List UInt8) (b : UInt8) : valN (l ++ [b]) = valN l * 10 + (b.toNat - 48) := by simp [valN]
theorem valN_dec (n : Nat) : valN (decN n) = n := by
  induction n using Nat.strongRecOn with
  | _ n ih =>
    by_cases c : n < 10
    · rw [decN_small c]
      show 0 * 10 + ((UInt8.ofNat (48 + n)).toNat - 48) = n
      rw [dig_val c]; omega
    · rw [decN_big c, valN_app, ih (n / 10) (by omega), dig_val (Nat.mod_lt _ (by decide))]
      omega
theorem decN_inj {m n : Nat} (h : decN m = decN n) : m = n := by
  have := congrArg valN h
  rwa [valN_dec, valN_dec] at this
theorem valN_lt : ∀ (k : Nat) (l : List UInt8), l.length ≤ k → (∀ b ∈ l, digP b) → valN l < 10 ^ k := by
  intro k
  induction k with
  | zero => intro l h _; have : l = [] := List.length_eq_zero_iff.1 (by omega); subst this; decide
  | succ k ih =>
    intro l h hd
    by_cases e : l = []
    · subst e; exact Nat.pos_of_ne_zero (by simp [valN])
    · have hl := List.dropLast_concat_getLast e
      have h1 := ih l.dropLast (by rw [List.length_dropLast]; omega) fun b hb => hd b (List.dropLast_subset l hb)
      have h2 := hd (l.getLast e) (List.getLast_mem e)
      rw [← hl, valN_app, Nat.pow_succ]
      unfold digP at h2
      omega
theorem decN_len5 (n : Nat) : (decN n).length ≤ 5 ↔ n ≤ 99999 := by
  constructor
  · intro h
    have := valN_lt 5 _ h (decN_dig n)
    rw [valN_dec] at this
    have e : (10 : Nat) ^ 5 = 100000 := by decide
    omega
  · intro h
    exact decN_len 4 n (by have e : (10 : Nat) ^ (4 + 1) = 100000 := by decide
                           omega)
/-- The number that a row of bytes is, if it is one of a script. -/
def numS (l : List UInt8) : Option Nat := if l = decN (valN l) ∧ l.length ≤ 5 then some (valN l) else none
theorem numS_dec {n : Nat} (h : n ≤ 99999) : numS (decN n) = some n := by
  unfold numS
  rw [valN_dec, if_pos ⟨rfl, (decN_len5 n).2 h⟩]
theorem numS_some {l : List UInt8} {n : Nat} (h : numS l = some n) : l = decN n ∧ n ≤ 99999 := by
  unfold numS at h
  split at h
  · rename_i c
    have e := Option.some.inj h
    rw [e] at c
    refine ⟨c.1, (decN_len5 n).1 ?_⟩
    rw [← c.1]; exact c.2
  · cases h
theorem numS_dig {l : List UInt8} {n : Nat} (h : numS l = some n) : ∀ b ∈ l, digP b := by
  rw [(numS_some h).1]; exact decN_dig n
theorem decI_nat (n : Nat) : decI (n : Int) = decN n := by
  unfold decI
  rw [if_neg (by omega), Int.toNat_natCast]

/-! ### Cuts -/

/-- What a cut at the first byte of a kind gives. -/
def CutO (c : UInt8) (s a b : List UInt8) (f : Bool) : Prop := c ∉ a ∧ ((f = true ∧ s = a ++ c :: b) ∨ (f = false ∧ s = a ∧ b = []))
theorem cut_un {c : UInt8} : ∀ {a b x y : List UInt8}, c ∉ a → c ∉ b → a ++ c :: x = b ++ c :: y → a = b ∧ x = y := by
  intro a
  induction a with
  | nil =>
    intro b x y _ hb h
    cases b with
    | nil => exact ⟨rfl, (List.cons.inj h).2⟩
    | cons d b => exact absurd (by rw [(List.cons.inj h).1]; exact List.mem_cons_self) hb
  | cons e a ih =>
    intro b x y ha hb h
    cases b with
    | nil => exact absurd (by rw [← (List.cons.inj h).1]; exact List.mem_cons_self) ha
    | cons d b =>
      obtain ⟨h1, h2⟩ := List.cons.inj h
      obtain ⟨h3, h4⟩ := ih (fun m => ha (List.mem_cons_of_mem _ m)) (fun m => hb (List.mem_cons_of_mem _ m)) h2
      exact ⟨by rw [h1, h3], h4⟩
/-- Where the text is known. -/
theorem CutO.at {c : UInt8} {s a b a' b' : List UInt8} {f : Bool} (h : CutO c s a b f) (hs : s = a' ++ c :: b') (ha : c ∉ a') : a = a' ∧ b = b' ∧ f = true := by
  obtain ⟨h1, ⟨rfl, h2⟩ | ⟨rfl, h2, rfl⟩⟩ := h
  · obtain ⟨e1, e2⟩ := cut_un h1 ha (h2.symm.trans hs)
    exact ⟨e1, e2, rfl⟩
  · exact absurd (by rw [← h2, hs]; simp) h1
theorem CutO.no {c : UInt8} {s a b : List UInt8} {f : Bool} (h : CutO c s a b f) (hs : c ∉ s) : a = s ∧ b = [] ∧ f = false := by
  obtain ⟨h1, ⟨rfl, h2⟩ | ⟨rfl, h2, rfl⟩⟩ := h
  · exact absurd (by rw [h2]; simp) hs
  · exact ⟨h2.symm, rfl, rfl⟩

def splitB (c : UInt8) : List UInt8 → List (List UInt8)
  | [] => [[]]
  | b :: l => if b = c then [] :: splitB c l else match splitB c l with
    | [] => [[b]]
    | w :: r => (b :: w) :: r
theorem splitB_ne (c : UInt8) (l : List UInt8) : splitB c l ≠ [] := by
  cases l with
  | nil => simp [splitB]
  | cons b l =>
    unfold splitB
    split
    · simp
    · split <;> simp
theorem splitB_app {c : UInt8} : ∀ {a : List UInt8} (l : List UInt8), c ∉ a → splitB c (a ++ c :: l) = a :: splitB c l := by
  intro a
  induction a with
  | nil => intro l _; simp [splitB]
  | cons b a ih =>
    intro l h
    rw [List.cons_append, splitB, if_neg (fun e => h (by rw [e]; exact List.mem_cons_self)), ih l fun m => h (List.mem_cons_of_mem _ m)]
theorem splitB_none {c : UInt8} : ∀ {a : List UInt8}, c ∉ a → splitB c a = [a] := by
  intro a
  induction a with
  | nil => intro _; rfl
  | cons b a ih =>
    intro h
    rw [splitB, if_neg (fun e => h (by rw [e]; exact List.mem_cons_self)), ih fun m => h (List.mem_cons_of_mem _ m)]
theorem splitB_join {c : UInt8} : ∀ {s w : List UInt8} {r : List (List UInt8)}, splitB c s = w :: r → s = w ++ (r.map fun x => c :: x).flatten := by
  intro s
  induction s with
  | nil =>
    intro w r h
    simp only [splitB, List.cons.injEq] at h
    obtain ⟨rfl, rfl⟩ := h
    rfl
  | cons b s ih =>
    intro w r h
    cases e : splitB c s with
    | nil => exact absurd e (splitB_ne c s)
    | cons w2 r2 =>
      have hs := ih e
      by_cases hb : b = c
      · rw [splitB, if_pos hb, e] at h
        obtain ⟨rfl, rfl⟩ := List.cons.inj h
        rw [List.map_cons, List.flatten_cons, List.nil_append, List.cons_append, ← hs, hb]
      · rw [splitB, if_neg hb, e] at h
        obtain ⟨rfl, rfl⟩ := List.cons.inj h
        rw [List.cons_append, ← hs]

/-! ### Forms of lines -/

/-- How something that happens is written: its name, its kind, what is kept, and in which cells its numbers stand. -/
structure Form where
  name : List UInt8
  kind : Int
  keep : Int
  offs : List Nat
def sm5 (n : Int) : Prop := 0 ≤ n ∧ n ≤ 99999
def printP (t : List UInt8) : Prop := ∀ b ∈ t, 32 ≤ b.toNat ∧ b.toNat ≤ 126
def askC (c : DCall) : List UInt8 := if c.kind = 2 then [109, 111, 118, 101, 32] ++ decI c.slot ++ 32 :: decI c.to else [100, 101, 97, 108, 32] ++ c.text
def askP (c : DCall) : Prop := c.session = 0 ∧ c.number = 0 ∧ ((c.kind = 1 ∧ printP c.text ∧ c.text.length ≤ 80 ∧ c.slot = 0 ∧ c.to = 0) ∨ (c.kind = 2 ∧ c.text = [] ∧ sm5 c.slot ∧ sm5 c.to))
def forms : List Form := [⟨[98, 101, 103, 105, 110, 115], 1, 0, [2]⟩, ⟨[115, 101, 110, 100, 115], 2, 0, [2]⟩, ⟨[103, 105, 118, 101, 115], 3, 0, [2]⟩, ⟨[98, 114, 105, 110, 103, 115], 4, 0, [3]⟩, ⟨[100, 111, 117, 98, 108, 101, 115], 4, 1, [3]⟩,
  ⟨[108, 111, 115, 101, 115], 5, 0, [3]⟩, ⟨[102, 97, 108, 108, 115], 6, 0, [1, 4]⟩, ⟨[114, 105, 115, 101, 115], 7, 0, [1]⟩, ⟨[116, 101, 110, 100, 115], 8, 0, [1]⟩, ⟨[102, 111, 114, 99, 101, 115], 9, 0, [1]⟩]
/-- A number put into a cell. -/
def putN (e : DTollEvent) (o : Nat) (n : Int) : DTollEvent := match o with
  | 0 => { e with kind := n }
  | 1 => { e with at_ := n }
  | 2 => { e with session := n }
  | 3 => { e with word := n }
  | 4 => { e with keep := n }
  | _ => e
def getN (e : DTollEvent) (o : Nat) : Int := match o with
  | 0 => e.kind
  | 1 => e.at_
  | 2 => e.session
  | 3 => e.word
  | 4 => e.keep
  | _ => 0
def putNs (e : DTollEvent) : List Nat → List Int → DTollEvent
  | o :: os, n :: ns => putNs (putN e o n) os ns
  | _, _ => e
def numsT (ns : List Int) : List UInt8 := (ns.map fun n => 32 :: decI n).flatten
def evF (f : Form) (ns : List Int) (c : DCall) : DTollEvent := putNs { zTollEvent with kind := f.kind, keep := f.keep, call := c } f.offs ns
def lineF (f : Form) (ns : List Int) (c : DCall) : List UInt8 := f.name ++ numsT ns ++ (if f.kind = 1 then 32 :: askC c else [])
def fitF (f : Form) (ns : List Int) (c : DCall) : Prop := f ∈ forms ∧ ns.length = f.offs.length ∧ allP sm5 ns ∧ (if f.kind = 1 then askP c else c = zCall)
/-- What happens, and its line. -/
def Fit (e : DTollEvent) (s : List UInt8) : Prop := ∃ f ns c, fitF f ns c ∧ e = evF f ns c ∧ s = lineF f ns c
/-- What a reader of a line says. -/
def OutE (s : List UInt8) (e : DTollEvent) (ok : Bool) : Prop := (ok = true ∧ Fit e s) ∨ (ok = false ∧ ∀ e, ¬ Fit e s)
end Go.Tk
end
