/- Parts of the proof, put together: A22, A23. -/
import Derived.Laws.StructEq
import Derived.Test.YtllhdnfcneejaaaK35
/- Slices cut at one end; numbers that are picked. -/
section
set_option linter.unusedVariables false
set_option linter.unusedSimpArgs false
namespace Go.Tk
open Go

theorem slcK_pre (x : Value) (n : Nat) (u : Int) {f : Value → Prop} (h : slcK x n (some (some 0)) (some (some u)) f) : slcK x n none (some (some u)) f := by
  cases x <;> exact h
theorem slc_pre {α : Type} {enc : α → List Value} {sz : Nat} (he : ∀ a, (enc a).length = sz) {h : H} {v : Value} {l : List α} {u : Int} {f : Value → Prop} (r : rLs h enc sz v l) (h1 : 0 ≤ u) (h2 : u ≤ l.length)
    (k : ∀ v', rLs h enc sz v' (l.take u.toNat) → f v') : slcK v sz none (some (some u)) f := by
  refine slcK_pre _ _ _ (slc_rd he r (by omega) h1 h2 fun v' r' => k v' ?_)
  simpa using r'
theorem slc_suf {α : Type} {enc : α → List Value} {sz : Nat} (he : ∀ a, (enc a).length = sz) {h : H} {v : Value} {l : List α} {u : Int} {f : Value → Prop} (r : rLs h enc sz v l) (h1 : 0 ≤ u) (h2 : u ≤ l.length)
    (k : ∀ v', rLs h enc sz v' (l.drop u.toNat) → f v') : slcK v sz (some (some u)) none f := by
  have x : slcK v sz (some (some u)) (some (some (l.length : Int))) f := slc_rd he r h1 h2 (Int.le_refl _) fun v' r' => k v' (by
    have : (l.drop u.toNat).take ((l.length : Int).toNat - u.toNat) = l.drop u.toNat := List.take_of_length_le (by rw [List.length_drop]; omega)
    rw [this] at r'; exact r')
  obtain ⟨hl, ⟨rfl, hn⟩ | ⟨b, k', cap, rfl, hc, e⟩⟩ := r
  · rw [slcK_11] at x
    rw [slcK_10]
    have hu : u = 0 := by omega
    subst hu
    exact ⟨⟨by omega, by omega, by omega⟩, by simpa [hn] using x.2⟩
  · rw [slcK_11] at x
    rw [slcK_10]
    exact ⟨⟨h1, by omega, by omega⟩, by simpa using x.2⟩

def eT (t : List UInt8) : List Value := [.string ⟨t.toArray⟩]
theorem eT_len (t : List UInt8) : (eT t).length = 1 := rfl
theorem eT_one (l : List (List UInt8)) : (fl eT l).all vone = true := by induction l <;> simp_all [fl, eT, vone]
theorem str_add (a b : List UInt8) (h : a.length + b.length ≤ 9223372036854775807) : strBin .add ⟨a.toArray⟩ ⟨b.toArray⟩ = some (.string ⟨(a ++ b).toArray⟩) := by
  simp only [strBin, str_size, str_append]
  rw [if_pos h]
theorem tmodN (a : Nat) (n : Int) (h : 1 ≤ n) : 0 ≤ (a : Int).tmod n ∧ (a : Int).tmod n < n := by
  rw [Int.tmod_eq_emod_of_nonneg (by omega)]
  exact ⟨Int.emod_nonneg _ (by omega), Int.emod_lt_of_pos _ (by omega)⟩
theorem tmodN' (a b : Nat) : (a : Int).tmod (b : Int) = ((a % b : Nat) : Int) := rfl
theorem tdivN' (a b : Nat) : (a : Int).tdiv (b : Int) = ((a / b : Nat) : Int) := rfl
theorem xor64 (a b : Nat) (ha : a < 1125899906842624) (hb : b < 1125899906842624) : ∃ c : Nat, c < 1125899906842624 ∧ IntKind.i64.wrap ((BitVec.ofInt IntKind.i64.bits (a : Int) ^^^ BitVec.ofInt IntKind.i64.bits (b : Int)).toNat : Int) = (c : Int) := by
  have e : (BitVec.ofInt IntKind.i64.bits (a : Int) ^^^ BitVec.ofInt IntKind.i64.bits (b : Int)).toNat = a ^^^ b := by
    rw [BitVec.toNat_xor, BitVec.toNat_ofInt, BitVec.toNat_ofInt]
    show ((a : Int) % (2 ^ 64 : Nat)).toNat ^^^ ((b : Int) % (2 ^ 64 : Nat)).toNat = a ^^^ b
    have h1 : ((a : Int) % (2 ^ 64 : Nat)).toNat = a := by
      rw [show ((2 ^ 64 : Nat) : Int) = 18446744073709551616 from rfl]; omega
    have h2 : ((b : Int) % (2 ^ 64 : Nat)).toNat = b := by
      rw [show ((2 ^ 64 : Nat) : Int) = 18446744073709551616 from rfl]; omega
    rw [h1, h2]
  have hx : a ^^^ b < 2 ^ 50 := Nat.xor_lt_two_pow ha hb
  refine ⟨a ^^^ b, hx, ?_⟩
  rw [e, wrapI _ ⟨by omega, by have : (2 : Nat) ^ 50 = 1125899906842624 := rfl; omega⟩]

/-! ### Steps in any order, the slots' values abstract -/

def vanyR (P : Program) (mem : Nat → H → H → Prop) (Q : List (H → Value → Prop)) (rest : H) (W : List Nat) (ρ : (Nat → Value) → Operand → Value) (K : (Nat → Value) → Option Nat → Value → H → Prop) : Nat → List (N × List Nat) → Prop
  | _, [] => False
  | i, x :: r => match r with
    | [] => stZ P mem rest ρ (fun g f => dq Q W g f x.2) (fun f v h => K f x.1.d v h) x.1.i
    | _ :: _ => stA P mem (Q.getD i (fun _ _ => True)) rest ρ (fun g f => dq Q W g f x.2) x.1.i ∧ vanyR P mem Q rest W ρ K (i + 1) r
theorem anysR : (∀ (P : Program) mem Q rest W ρ K i x, vanyR P mem Q rest W ρ K i [x] = stZ P mem rest ρ (fun g f => dq Q W g f x.2) (fun f v h => K f x.1.d v h) x.1.i) ∧
    (∀ (P : Program) mem Q rest W ρ K i x y r, vanyR P mem Q rest W ρ K i (x :: y :: r) = (stA P mem (Q.getD i (fun _ _ => True)) rest ρ (fun g f => dq Q W g f x.2) x.1.i ∧ vanyR P mem Q rest W ρ K (i + 1) (y :: r))) ∧
    (∀ Q W g f, dq Q W g f [] = True) ∧ (∀ Q W g f d r, dq Q W g f (d :: r) = ((Q.getD d (fun _ _ => True)) g (f (W.getD d 0)) ∧ dq Q W g f r)) :=
  ⟨fun _ _ _ _ _ _ _ _ _ => rfl, fun _ _ _ _ _ _ _ _ _ _ _ => rfl, fun _ _ _ _ => rfl, fun _ _ _ _ _ _ => rfl⟩
theorem vanyR_vany {P : Program} {mem : Nat → H → H → Prop} {Q : List (H → Value → Prop)} {rest : H} {W : List Nat} {env : List Value} {K : List Value → H → Prop} : ∀ (l : List (N × List Nat)) (i : Nat),
    vanyR P mem Q rest W (fun f => evl (hav env W f)) (fun f d v h => K (putE d v (hav env W f)) h) i l → vany P mem Q rest W env K i l := by
  intro l
  induction l with
  | nil => intro i h; exact h
  | cons x r ih =>
    intro i h
    cases r with
    | nil => exact h
    | cons y r => exact ⟨h.1, ih _ h.2⟩
theorem vc_anyR {P : Program} {l : List (N × List Nat)} {env : List Value} {h : H} {K : KK} (mem : Nat → H → H → Prop) (Q : List (H → Value → Prop)) (rest : H) (hm : ∀ q ∈ Q, ∀ g g' v, Sub g g' → q g v → q g' v) (h0 : mem l.length h rest)
    (hd : (nds (l.map (·.1))).all (fun d => decide (d < env.length)) = true)
    (hv : ∀ ρ : (Nat → Value) → Operand → Value, (∀ f t, (nds (l.map (·.1))).contains t = true → ρ f (.tmp t) = f t) → (∀ f t, (nds (l.map (·.1))).contains t = false → ρ f (.tmp t) = env.getD t undef) → (∀ f v, ρ f (.const v) = v) →
      vanyR P mem Q rest (nds (l.map (·.1))) ρ (fun f d v h => K .normal (putE d v (hav env (nds (l.map (·.1))) f)) h) 0 l) : vc P (.any l) env h K := by
  refine vc_any mem Q rest hm h0 hd (vanyR_vany _ _ (hv _ (fun f t ht => ?_) (fun f t ht => ?_) (fun _ _ => rfl)))
  · have hin : t ∈ nds (l.map (·.1)) := by simpa using ht
    have hl : t < env.length := by simpa using List.all_eq_true.1 hd t hin
    show (hav env _ f).getD t undef = f t
    rw [List.getD_eq_getElem?_getD, hav_get, if_pos ⟨hin, hl⟩]; rfl
  · have hin : t ∉ nds (l.map (·.1)) := by simpa using ht
    show (hav env _ f).getD t undef = env.getD t undef
    rw [List.getD_eq_getElem?_getD, hav_get, if_neg (fun x => hin x.1), ← List.getD_eq_getElem?_getD]
end Go.Tk
end

/- Structs that are compared. -/
section
set_option linter.unusedVariables false
set_option linter.unusedSimpArgs false
namespace Go.Tk
open Go

section
variable {P : Program} {E : Value → H → Prop} {h : H}
theorem SH_program {Q : Program → H → Prop} : SH P program Q E h = Q P h := rfl
theorem SH_ite {α : Type} {c : Prop} [Decidable c] {x y : Sem α} {Q : α → H → Prop} : SH P (if c then x else y) Q E h = if c then SH P x Q E h else SH P y Q E h := by split <;> rfl

theorem SH_struct {d : Nat} {t : TypeId} {fs : Array Field} {xs ys : Array Value} {Q : Bool → H → Prop} (hd : P.underlying t = some (.struct fs)) (hp : P.stoodInHeld t = false) :
    SH P (Op.equalIn (d + 1) t (.agg xs) (.agg ys)) Q E h = SH P (Op.eqFields d xs ys fs.toList) Q E h := by
  simp only [Op.equalIn, SH_bind', SH_underlying hd, SH_program, hp, Bool.false_eq_true, if_false]
  rw [← Array.forIn_toList]
  generalize fs.toList = l
  clear hd
  induction l generalizing h with
  | nil => simp only [List.forIn_nil, SH_pure, Op.eqFields]
  | cons f l ih =>
    simp only [List.forIn_cons, Op.eqFields, SH_bind', SH_ite]
    split
    · congr 1; funext a h1
      congr 1; funext b h2
      congr 1; funext r h3
      cases r
      · simp only [Bool.not_false, if_true, SH_pure]
      · simp only [Bool.not_true, Bool.false_eq_true, if_false, SH_pure]
        exact ih
    · simp only [SH_pure]
      exact ih

theorem SH_eqFields {d : Nat} {xs : Array Value} : ∀ {fs : List Field} {Q : Bool → H → Prop} {h : H}, (∀ f ∈ fs, ∃ v, (∀ Q h, SH P (part f.type xs f.offset) Q E h = Q v h) ∧ ∀ Q h, SH P (Op.equalIn d f.type v v) Q E h = Q true h) → SH P (Op.eqFields d xs xs fs) Q E h = Q true h := by
  intro fs
  induction fs with
  | nil => intro Q h _; rfl
  | cons f fs ih =>
    intro Q h hf
    obtain ⟨v, h1, h2⟩ := hf f List.mem_cons_self
    simp only [Op.eqFields]
    split
    · simp only [SH_bind', h1, h2]
      exact ih fun x hx => hf x (List.mem_cons_of_mem _ hx)
    · exact ih fun x hx => hf x (List.mem_cons_of_mem _ hx)

theorem SH_eqI {d : Nat} {t : TypeId} {k k' : IntKind} {a : Int} {Q : Bool → H → Prop} (hd : P.underlying t = some (.int k')) : SH P (Op.equalIn (d + 1) t (.int k a) (.int k a)) Q E h = Q true h := by
  simp only [Op.equalIn, SH_bind', SH_underlying hd, if_true, SH_pure, beq_self_eq_true]
theorem SH_eqT {d : Nat} {t : TypeId} {a : ByteArray} {Q : Bool → H → Prop} (hd : P.underlying t = some .string) : SH P (Op.equalIn (d + 1) t (.string a) (.string a)) Q E h = Q true h := by
  have : (a == a) = true := by rw [beq_toListBytes]; simp
  simp only [Op.equalIn, SH_bind', SH_underlying hd, SH_pure, this]

theorem SH_part {t : TypeId} {d : TypeDesc} {xs : Array Value} {off : Nat} {v : Value} {Q : Value → H → Prop} (hd : P.underlying t = some d) (ha : aggD d = false) (hv : xs[off]? = some v) : SH P (part t xs off) Q E h = Q v h := by
  unfold part isAgg
  simp only [SH_bind', SH_underlying hd]
  cases d <;> simp only [aggD, Bool.true_eq_false] at ha <;> simp only [SH_pure, Bool.false_eq_true, if_false, hv]

/-- A struct is itself. -/
theorem SH_same {op : BinOp} {t : TypeId} {fs : Array Field} {x y : Operand} {xs : Array Value} {Q : Value → H → Prop} (ho : op = .eql ∨ op = .neq) (hd : P.underlying t = some (.struct fs)) (hp : P.stoodInHeld t = false) (hg : P.eqGuardType P.depth t = false)
    (hf : ∀ f ∈ fs.toList, ∃ v, (∀ Q h, SH P (part f.type xs f.offset) Q E h = Q v h) ∧ ∀ Q h, SH P (Op.equalIn 9999 f.type v v) Q E h = Q true h) (k : Q (.bool (op == .eql)) h) :
    SH P (do eqGuard op t x y (.agg xs) (.agg xs); binOp op t (.agg xs) (.agg xs)) Q E h := by
  have e : ∀ Q' : Bool → H → Prop, SH P (Op.equal t (.agg xs) (.agg xs)) Q' E h = Q' true h := fun Q' => by
    show SH P (Op.equalIn (9999 + 1) t _ _) Q' E h = _
    rw [SH_struct hd hp]
    exact SH_eqFields hf
  rcases ho with rfl | rfl
  · simp only [eqGuard, SH_bind', SH_program, hg, SH_pure, SH_ite]
    simp
    show SH P (do pure (Value.bool (← Op.equal t (.agg xs) (.agg xs)))) Q E h
    rw [SH_bind', e]; exact k
  · simp only [eqGuard, SH_bind', SH_program, hg, SH_pure, SH_ite]
    simp
    show SH P (do pure (Value.bool (!(← Op.equal t (.agg xs) (.agg xs))))) Q E h
    rw [SH_bind', e]; exact k
end
end Go.Tk
end
