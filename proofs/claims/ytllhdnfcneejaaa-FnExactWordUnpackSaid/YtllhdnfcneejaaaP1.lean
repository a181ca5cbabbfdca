/- Numbers as bytes, seven bits each, the lower first. -/
import Derived.Test.YtllhdnfcneejaaaA17
set_option linter.unusedVariables false
set_option linter.unusedSimpArgs false
namespace Go.Tk
open Go

def encN (m : Nat) : List UInt8 := if m < 128 then [UInt8.ofNat m] else UInt8.ofNat (128 + m % 128) :: encN (m / 128)
termination_by m
decreasing_by omega
theorem encN_lt {m : Nat} (h : m < 128) : encN m = [UInt8.ofNat m] := by rw [encN, if_pos h]
theorem encN_ge {m : Nat} (h : ¬ m < 128) : encN m = UInt8.ofNat (128 + m % 128) :: encN (m / 128) := by rw [encN, if_neg h]
theorem u8_nat {m : Nat} (h : m < 256) : (UInt8.ofNat m).toNat = m := by rw [UInt8.toNat_ofNat']; omega
theorem encN_ne (m : Nat) : encN m ≠ [] := by
  rw [encN]; split <;> simp
theorem encN_len3 {m : Nat} (h : m < 2097152) : (encN m).length ≤ 3 := by
  by_cases a : m < 128
  · rw [encN_lt a]; simp
  · rw [encN_ge a]
    by_cases b : m / 128 < 128
    · rw [encN_lt b]; simp
    · rw [encN_ge b, encN_lt (by omega : m / 128 / 128 < 128)]; simp

/-- A number with its sign as its last bit. -/
def zig (n : Int) : Nat := if n < 0 then (-2 * n - 1).toNat else (2 * n).toNat
def unzig (m : Nat) : Int := if m % 2 = 1 then -(((m + 1) / 2 : Nat) : Int) else ((m / 2 : Nat) : Int)
theorem unzig_zig (n : Int) : unzig (zig n) = n := by
  unfold zig unzig
  split <;> split <;> omega
theorem zig_lt {n : Int} {b : Nat} (h : -b < n ∧ n < b) : zig n < 2 * b := by
  unfold zig; split <;> omega
def encI (n : Int) : List UInt8 := encN (zig n)

/-- What is read at a place, if a number was written there. -/
def Num (rest : List UInt8) (m : Nat) (r : List UInt8) : Prop := rest = encN m ++ r ∧ m < 2097152

theorem tm_nat (a b : Nat) : ((a : Int).tmod (b : Int)) = ((a % b : Nat) : Int) := by
  rw [Int.tmod_eq_emod_of_nonneg (by omega)]; simp
theorem td_nat (a b : Nat) : ((a : Int).tdiv (b : Int)) = ((a / b : Nat) : Int) := by
  rw [Int.tdiv_eq_ediv_of_nonneg (by omega)]; simp
theorem tm128 (a : Nat) : ((a : Int).tmod 128) = ((a % 128 : Nat) : Int) := tm_nat a 128
theorem tm2 (a : Nat) : ((a : Int).tmod 2) = ((a % 2 : Nat) : Int) := tm_nat a 2
theorem td2 (a : Nat) : ((a : Int).tdiv 2) = ((a / 2 : Nat) : Int) := td_nat a 2
theorem td128 (a : Nat) : ((a : Int).tdiv 128) = ((a / 128 : Nat) : Int) := td_nat a 128
theorem tdneg2 (a : Nat) : ((-(a : Int)).tdiv 2) = -((a / 2 : Nat) : Int) := by rw [Int.neg_tdiv, td2]

theorem num_step {l2 r : List UInt8} {c : UInt8} {i a m : Nat} (h : c :: l2 = encN (m / 128 ^ i) ++ r) (ha : a = m % 128 ^ i) :
    (c.toNat < 128 → a + c.toNat % 128 * 128 ^ i = m ∧ l2 = r) ∧ (128 ≤ c.toNat → l2 = encN (m / 128 ^ (i + 1)) ++ r ∧ a + c.toNat % 128 * 128 ^ i = m % 128 ^ (i + 1) ∧ 128 ^ (i + 1) ≤ m) := by
  have hm : m % 128 ^ i + 128 ^ i * (m / 128 ^ i) = m := Nat.mod_add_div _ _
  have hp : 128 ^ (i + 1) = 128 ^ i * 128 := Nat.pow_succ _ _
  by_cases q : m / 128 ^ i < 128
  · rw [encN_lt q] at h
    simp only [List.cons_append, List.nil_append, List.cons.injEq] at h
    have hc : c.toNat = m / 128 ^ i := by rw [h.1, u8_nat (by omega)]
    refine ⟨fun _ => ⟨?_, h.2⟩, fun x => by omega⟩
    rw [hc, Nat.mod_eq_of_lt q, ha, Nat.mul_comm]; exact hm
  · rw [encN_ge q] at h
    simp only [List.cons_append, List.cons.injEq] at h
    have hc : c.toNat = 128 + m / 128 ^ i % 128 := by rw [h.1, u8_nat (by omega)]
    refine ⟨fun x => by omega, fun _ => ⟨?_, ?_, ?_⟩⟩
    · rw [h.2, hp, ← Nat.div_div_eq_div_mul]
    · rw [hc, show (128 + m / 128 ^ i % 128) % 128 = m / 128 ^ i % 128 from by omega, ha, Nat.mod_pow_succ, Nat.mul_comm]
    · have : 128 ^ i * 128 ≤ 128 ^ i * (m / 128 ^ i) := Nat.mul_le_mul_left _ (by omega)
      rw [hp]; omega

theorem encN_le : ∀ (m : Nat), (encN m).length ≤ m + 1 := by
  intro m
  induction m using Nat.strongRecOn with
  | _ m ih =>
    by_cases h : m < 128
    · rw [encN_lt h]; simp
    · rw [encN_ge h, List.length_cons]
      have := ih (m / 128) (by omega)
      omega
theorem wrapU (n : Int) (h : 0 ≤ n ∧ n ≤ 18446744073709551615) : IntKind.u64.wrap n = n := by
  have e : IntKind.u64.wrap n = n % 18446744073709551616 := rfl
  rw [e]; omega
theorem mb1 : min 1 IntKind.u64.bits = 1 := rfl
theorem mb7 : min 7 IntKind.u64.bits = 7 := rfl
theorem fdiv128 (a : Nat) : (a : Int).fdiv 128 = ((a / 128 : Nat) : Int) := by
  rw [Int.fdiv_eq_ediv_of_nonneg _ (by omega)]; simp
theorem and127 (a : Nat) (h : a ≤ 18446744073709551615) : IntKind.u64.wrap ((BitVec.ofInt IntKind.u64.bits (a : Int) &&& BitVec.ofInt IntKind.u64.bits 127).toNat : Int) = ((a % 128 : Nat) : Int) := by
  have e : (BitVec.ofInt IntKind.u64.bits (a : Int) &&& BitVec.ofInt IntKind.u64.bits 127).toNat = a % 128 := by
    rw [BitVec.toNat_and, BitVec.toNat_ofInt, BitVec.toNat_ofInt]
    show ((a : Int) % (2 ^ 64 : Nat)).toNat &&& ((127 : Int) % (2 ^ 64 : Nat)).toNat = a % 128
    have h1 : ((a : Int) % (2 ^ 64 : Nat)).toNat = a := by
      rw [show ((2 ^ 64 : Nat) : Int) = 18446744073709551616 from rfl]; omega
    rw [h1, show ((127 : Int) % (2 ^ 64 : Nat)).toNat = 2 ^ 7 - 1 from rfl, Nat.and_two_pow_sub_one_eq_mod]
  rw [e, wrapU _ (by omega)]
end Go.Tk
