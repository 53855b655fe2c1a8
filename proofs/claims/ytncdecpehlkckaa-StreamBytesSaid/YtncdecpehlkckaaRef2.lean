/-
The product as the document's answer reckons it (bits shifted, then the rest taken) is the field's product. No condition.
-/
import Derived.Test.YtncdecpehlkckaaFld
namespace Lg

/-- the first k rounds: bits of b, each with a shifted -/
def cl (a b : Nat) : Nat → Nat
  | 0 => 0
  | k + 1 => if b / 2 ^ k % 2 = 1 then cl a b k ^^^ a * 2 ^ k else cl a b k

/-- one round of the rest -/
def rd1 (i p : Nat) : Nat := if p / 2 ^ i % 2 = 1 then p ^^^ 283 * 2 ^ (i - 8) else p
def rd (p : Nat) : Nat → Nat
  | 0 => p
  | j + 1 => rd1 (14 - j) (rd p j)

theorem cl_add (a c b k : Nat) : cl (a ^^^ c) b k = cl a b k ^^^ cl c b k := by
  induction k with
  | zero => simp [cl]
  | succ k ih =>
    unfold cl
    split
    · rw [ih, ← Nat.shiftLeft_eq, ← Nat.shiftLeft_eq, ← Nat.shiftLeft_eq, Nat.shiftLeft_xor_distrib]
      rw [Nat.xor_assoc, Nat.xor_assoc, ← Nat.xor_assoc (cl c b k), Nat.xor_comm (cl c b k), Nat.xor_assoc]
    · exact ih

theorem bit_xor (p q i : Nat) : ((p ^^^ q) / 2 ^ i % 2 = 1) ↔ ¬ ((p / 2 ^ i % 2 = 1) ↔ (q / 2 ^ i % 2 = 1)) := by
  have h : ∀ x : Nat, (x / 2 ^ i % 2 = 1) ↔ x.testBit i = true := by
    intro x
    rw [Nat.testBit_eq_decide_div_mod_eq]
    simp
  rw [h, h, h, Nat.testBit_xor]
  cases p.testBit i <;> cases q.testBit i <;> simp

theorem rd1_add (i p q : Nat) : rd1 i (p ^^^ q) = rd1 i p ^^^ rd1 i q := by
  have h := bit_xor p q i
  unfold rd1
  by_cases hp : p / 2 ^ i % 2 = 1 <;> by_cases hq : q / 2 ^ i % 2 = 1
  · rw [if_pos hp, if_pos hq, if_neg (by rw [h]; simp [hp, hq])]
    rw [Nat.xor_assoc p, Nat.xor_comm (283 * 2 ^ (i - 8)), Nat.xor_assoc q, Nat.xor_self, Nat.xor_zero]
  · rw [if_pos hp, if_neg hq, if_pos (by rw [h]; simp [hp, hq])]
    rw [Nat.xor_assoc, Nat.xor_comm q, Nat.xor_assoc]
  · rw [if_neg hp, if_pos hq, if_pos (by rw [h]; simp [hp, hq])]
    rw [Nat.xor_assoc]
  · rw [if_neg hp, if_neg hq, if_neg (by rw [h]; simp [hp, hq])]

theorem rd_add (p q j : Nat) : rd (p ^^^ q) j = rd p j ^^^ rd q j := by
  induction j with
  | zero => rfl
  | succ j ih => rw [rd, rd, rd, ih, rd1_add]

def refMul (a b : B) : Nat := rd (cl a.toNat b.toNat 8) 7

theorem refMul_add (a c b : B) : refMul (a ^^^ c) b = refMul a b ^^^ refMul c b := by
  unfold refMul
  rw [UInt8.toNat_xor, cl_add, rd_add]

theorem bits_of (a : B) : a = (a &&& 1) ^^^ (a &&& 2) ^^^ (a &&& 4) ^^^ (a &&& 8) ^^^ (a &&& 16) ^^^ (a &&& 32) ^^^ (a &&& 64) ^^^ (a &&& 128) := by
  revert a; exact all_bytes (by decide +kernel)
theorem bit_of (a : B) : (a &&& 1 = 0 ∨ a &&& 1 = 1) ∧ (a &&& 2 = 0 ∨ a &&& 2 = 2) ∧ (a &&& 4 = 0 ∨ a &&& 4 = 4) ∧ (a &&& 8 = 0 ∨ a &&& 8 = 8) ∧
    (a &&& 16 = 0 ∨ a &&& 16 = 16) ∧ (a &&& 32 = 0 ∨ a &&& 32 = 32) ∧ (a &&& 64 = 0 ∨ a &&& 64 = 64) ∧ (a &&& 128 = 0 ∨ a &&& 128 = 128) := by
  revert a; exact all_bytes (by decide +kernel)

theorem refMul_basis : ∀ b, b < 256 → ∀ a ∈ ([0, 1, 2, 4, 8, 16, 32, 64, 128] : List Nat), refMul (UInt8.ofNat a) (UInt8.ofNat b) = (mul (UInt8.ofNat a) (UInt8.ofNat b)).toNat := by
  decide +kernel

theorem refMul_eq (a b : B) : refMul a b = (mul a b).toNat := by
  have hb : ∀ a ∈ ([0, 1, 2, 4, 8, 16, 32, 64, 128] : List Nat), refMul (UInt8.ofNat a) b = (mul (UInt8.ofNat a) b).toNat := by
    have := refMul_basis b.toNat b.toNat_lt
    rwa [UInt8.ofNat_toNat] at this
  obtain ⟨h1, h2, h3, h4, h5, h6, h7, h8⟩ := bit_of a
  have g : ∀ (x y : B), refMul x b = (mul x b).toNat → refMul y b = (mul y b).toNat → refMul (x ^^^ y) b = (mul (x ^^^ y) b).toNat := by
    intro x y hx hy
    rw [refMul_add, hx, hy, add_mul, UInt8.toNat_xor]
  have z : refMul 0 b = (mul 0 b).toNat := hb 0 (by simp)
  rw [bits_of a]
  refine g _ _ (g _ _ (g _ _ (g _ _ (g _ _ (g _ _ (g _ _ ?_ ?_) ?_) ?_) ?_) ?_) ?_) ?_
  · rcases h1 with e | e
    · rw [e]; exact z
    · rw [e]; exact hb 1 (by simp)
  · rcases h2 with e | e
    · rw [e]; exact z
    · rw [e]; exact hb 2 (by simp)
  · rcases h3 with e | e
    · rw [e]; exact z
    · rw [e]; exact hb 4 (by simp)
  · rcases h4 with e | e
    · rw [e]; exact z
    · rw [e]; exact hb 8 (by simp)
  · rcases h5 with e | e
    · rw [e]; exact z
    · rw [e]; exact hb 16 (by simp)
  · rcases h6 with e | e
    · rw [e]; exact z
    · rw [e]; exact hb 32 (by simp)
  · rcases h7 with e | e
    · rw [e]; exact z
    · rw [e]; exact hb 64 (by simp)
  · rcases h8 with e | e
    · rw [e]; exact z
    · rw [e]; exact hb 128 (by simp)

theorem cl_lt (a b k : Nat) (ha : a < 256) (hk : k ≤ 8) : cl a b k < 65536 := by
  induction k with
  | zero => simp [cl]
  | succ k ih =>
    have ih := ih (by omega)
    unfold cl
    split
    · have h1 : a * 2 ^ k < 2 ^ 16 := by
        have : 2 ^ k ≤ 2 ^ 7 := Nat.pow_le_pow_right (by omega) (by omega)
        have := Nat.mul_le_mul (Nat.le_of_lt_succ (show a < 255 + 1 by omega)) this
        omega
      exact Nat.xor_lt_two_pow (n := 16) ih h1
    · exact ih
theorem rd1_lt (i p : Nat) (hi : i ≤ 14) (hp : p < 65536) : rd1 i p < 65536 := by
  unfold rd1
  split
  · have h1 : 283 * 2 ^ (i - 8) < 2 ^ 16 := by
      have : 2 ^ (i - 8) ≤ 2 ^ 6 := Nat.pow_le_pow_right (by omega) (by omega)
      have := Nat.mul_le_mul_left 283 this
      omega
    exact Nat.xor_lt_two_pow (n := 16) hp h1
  · exact hp
theorem rd_lt (p j : Nat) (hp : p < 65536) : rd p j < 65536 := by
  induction j with
  | zero => exact hp
  | succ j ih => exact rd1_lt _ _ (by omega) ih
end Lg
