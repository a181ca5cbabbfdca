/- What comes in, and what is left of the world behind a call. -/
import Derived.Test.YtllhdnfcneejaaaA20
import Derived.Below
set_option linter.unusedVariables false
set_option linter.unusedSimpArgs false
namespace Go.Tk
open Go

/-- What comes in: as read; an empty one may lie anywhere. -/
def rIn {α : Type} (h : H) (enc : α → List Value) (sz : Nat) (v : Value) (l : List α) : Prop := rLs h enc sz v l ∨ (l = [] ∧ ∃ a c, v = .slice a 0 c)
theorem rIn.sub {α : Type} {g h : H} (s : Sub g h) {enc : α → List Value} {sz : Nat} {v : Value} {l : List α} (r : rIn g enc sz v l) : rIn h enc sz v l := r.imp (·.sub s) id
theorem rIn.len {α : Type} {h : H} {enc : α → List Value} {sz : Nat} {v : Value} {l : List α} (r : rIn h enc sz v l) {f : Value → Prop} : lenSK v f = f (.int .i64 l.length) := by
  rcases r with r | ⟨rfl, a, c, rfl⟩
  · exact r.len
  · rfl
theorem rIn.one {α : Type} {h : H} {enc : α → List Value} {sz : Nat} {v : Value} {l : List α} (r : rIn h enc sz v l) : vone v = true := by
  rcases r with r | ⟨rfl, a, c, rfl⟩
  · exact rdS.one r
  · rfl
theorem idx_in {α : Type} {h : H} {enc : α → List Value} {sz : Nat} {v : Value} {l : List α} {kd : IntKind} {j : Int} {i : Nat} {f : Value → Prop} (he : ∀ a, (enc a).length = sz) (r : rIn h enc sz v l) (hj : j = i) (hi : i < l.length)
    (k : ∀ b o, hread h b o sz = some (enc l[i]) → f (.pointer (some ⟨b, o, none⟩))) : idxSK v (.int kd j) sz f := by
  rcases r with r | ⟨rfl, a, c, rfl⟩
  · exact idx_leaf he r hj hi k
  · cases hi

theorem Pst.below {h g : H} {w w' : World} (s : Sat h w) (p : Pst h w g w') (hs : Sub h g) : RowKit.Below w.heap.size w w' := by
  refine ⟨p.os, p.tape, p.output, p.size, fun k hk => ?_⟩
  cases e : hget h k with
  | none => exact p.keep k hk e
  | some o => rw [s k o e, p.sat k o (hs k o e)]

/-- What a slice of bytes that came in is, as a part of the memory. -/
theorem bytes_in {w : World} {a : Option Addr} {len cap : Nat} {zs : List Int} (r : (a = none ∧ len = 0 ∧ cap = 0 ∧ zs = []) ∨
    ∃ x, a = some x ∧ len ≤ cap ∧ cap ≤ maxLen ∧ zs.length = cap ∧ (∀ i, i < zs.length → w.cell? (x.add i) = some (.int .u8 (zs.getD i 0))) ∧ ∀ n ∈ zs, (Lit.int .u8 n).wf = true) :
    ∃ h l, Sat h w ∧ rIn h eB 1 (.slice a len cap) l := by
  rcases r with ⟨rfl, rfl, rfl, rfl⟩ | ⟨x, rfl, hl, hm, hz, hc, hw⟩
  · exact ⟨[], [], fun i o e => (by cases e), .inl ⟨rfl, .inl ⟨rfl, rfl⟩⟩⟩
  · cases len with
    | zero => exact ⟨[], [], fun i o e => (by cases e), .inr ⟨rfl, _, _, rfl⟩⟩
    | succ len =>
      obtain ⟨b, off, sp⟩ := x
      have h0 := hc 0 (by omega)
      unfold World.cell? at h0
      cases ho : w.heap[b]? with
      | none => simp [Addr.add, ho] at h0
      | some o =>
        have hsp : sp = none := by
          cases sp with
          | none => rfl
          | some y => cases o <;> simp [Addr.add, ho] at h0
        subst hsp
        cases o with
        | cells c e f =>
          refine ⟨[(b, .cells c e f)], (zs.take (len + 1)).map fun n => UInt8.ofNat n.toNat, fun i o e => ?_, .inl ⟨?_, .inr ⟨b, off, cap, ?_, ?_, ?_⟩⟩⟩
          · rw [hget_cons] at e
            split at e
            · rename_i h; cases e; rw [h]; exact ho
            · cases e
          · rw [fl_len eB_len]
          · simp; omega
          · simp; omega
          · have hcell : ∀ i, i < zs.length → c.toList[off + i]? = some (.int .u8 (zs.getD i 0)) := fun i hi => by
              have := hc i hi
              rw [add_none] at this
              simpa only [World.cell?, ho, Option.isSome_none, Bool.false_eq_true, if_false, Array.getElem?_toList] using this
            have hsz : off + (len + 1) ≤ c.size := by
              have := hcell len (by omega)
              obtain ⟨h, _⟩ := List.getElem?_eq_some_iff.1 this
              simp at h; omega
            have hn : ((zs.take (len + 1)).map fun n => UInt8.ofNat n.toNat).length * 1 = len + 1 := by simp; omega
            unfold hread
            rw [hget_same, hn]
            simp only [Option.bind_some, rdObj]
            rw [if_pos hsz, ← fl_text, List.map_map]
            congr 1
            apply List.ext_getElem?
            intro i
            rcases Nat.lt_or_ge i (len + 1) with hi | hi
            · rw [List.getElem?_take, if_pos hi, List.getElem?_drop, hcell i (by omega), List.getElem?_map, List.getElem?_take, if_pos hi, List.getElem?_eq_getElem (by omega : i < zs.length)]
              have hv := hw zs[i] (List.getElem_mem (by omega))
              have hb : 0 ≤ zs[i] ∧ zs[i] ≤ 255 := by
                simp [Lit.wf] at hv
                exact hv
              have h2 : ((UInt8.ofNat zs[i].toNat).toNat : Int) = zs[i] := by rw [UInt8.toNat_ofNat']; omega
              simp only [Option.map_some, Function.comp, h2]
              rw [List.getD_eq_getElem?_getD, List.getElem?_eq_getElem (by omega : i < zs.length)]; rfl
            · rw [List.getElem?_eq_none (by simp; omega), List.getElem?_eq_none (by simp; omega)]
        | _ => simp [Addr.add, ho] at h0
end Go.Tk
