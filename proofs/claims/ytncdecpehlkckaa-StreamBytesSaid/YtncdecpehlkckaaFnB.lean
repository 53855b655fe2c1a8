/-
What the small functions of the package word come to: how many bits a word has, a word turned. No condition.
-/
import Derived.Test.YtncdecpehlkckaaFnA
import Derived.Test.YtncdecpehlkckaaSha
namespace Lg
open Go Go.RowKit Go.Proofs

/-- so many ones less k -/
def ones (n k : Nat) : Nat := 2 ^ (n - k) - 1
theorem ones_half {n k : Nat} (h : k < n) : ones n k / 2 = ones n (k + 1) := by
  have : n - k = (n - (k + 1)) + 1 := by omega
  unfold ones
  rw [this, Nat.pow_succ]
  have := Nat.two_pow_pos (n - (k + 1))
  omega
theorem ones_pos {n k : Nat} (h : k < n) : 0 < ones n k := by
  have : n - k = (n - (k + 1)) + 1 := by omega
  unfold ones
  rw [this, Nat.pow_succ]
  have := Nat.two_pow_pos (n - (k + 1))
  omega
theorem ones_end (n : Nat) : ones n n = 0 := by simp [ones]

set_option maxHeartbeats 400000 in
theorem Bits8_any (w : World) : Calls Try.prog 100 #[] w fun e w' => e = .returned (vi 8) ∧ w = w' := by
  go_enter Try.func100, Try.ntmps100
  go_wp2
  go_loop [1, 2] (fun s1 s2 => ∃ k : Nat, k ≤ 8 ∧ s1 = vi k ∧ s2 = .int .u8 (ones 8 k : Nat)) (fun s1 _ => 8 - (intOf s1).toNat)
  case atStart => exact ⟨0, by omega, rfl, rfl⟩
  case round =>
    obtain ⟨k, hk, rfl, rfl⟩ := hrel
    by_cases hlt : k < 8
    · have h0 : (((ones 8 k : Nat) : Int) != 0) = true := by have := ones_pos hlt; simp; omega
      have hh : ((ones 8 k : Nat) : Int) / 2 = ((ones 8 (k + 1) : Nat) : Int) := by rw [← ones_half hlt]; rfl
      have Hh := Lib.hid hh
      clear hh
      go_wp2
      go_round
      case rel => exact ⟨k + 1, by omega, by go_num, by rw [Hh.out]⟩
      case measure => simp [intOf]; omega
    · obtain rfl : k = 8 := by omega
      rw [ones_end]
      go_wp2
      go_ret
      exact ⟨rfl, rfl⟩

set_option maxHeartbeats 400000 in
theorem Bits32_any (w : World) : Calls Try.prog 105 #[] w fun e w' => e = .returned (vi 32) ∧ w = w' := by
  go_enter Try.func105, Try.ntmps105
  go_wp2
  go_loop [1, 2] (fun s1 s2 => ∃ k : Nat, k ≤ 32 ∧ s1 = vi k ∧ s2 = .int .u32 (ones 32 k : Nat)) (fun s1 _ => 32 - (intOf s1).toNat)
  case atStart => exact ⟨0, by omega, rfl, rfl⟩
  case round =>
    obtain ⟨k, hk, rfl, rfl⟩ := hrel
    by_cases hlt : k < 32
    · have h0 : (((ones 32 k : Nat) : Int) != 0) = true := by have := ones_pos hlt; simp; omega
      have hh : ((ones 32 k : Nat) : Int) / 2 = ((ones 32 (k + 1) : Nat) : Int) := by rw [← ones_half hlt]; rfl
      have Hh := Lib.hid hh
      clear hh
      go_wp2
      go_round
      case rel => exact ⟨k + 1, by omega, by go_num, by rw [Hh.out]⟩
      case measure => simp [intOf]; omega
    · obtain rfl : k = 32 := by omega
      rw [ones_end]
      go_wp2
      go_ret
      exact ⟨rfl, rfl⟩

set_option maxHeartbeats 400000 in
theorem Bits64_any (w : World) : Calls Try.prog 93 #[] w fun e w' => e = .returned (vi 64) ∧ w = w' := by
  go_enter Try.func93, Try.ntmps93
  go_wp2
  go_loop [1, 2] (fun s1 s2 => ∃ k : Nat, k ≤ 64 ∧ s1 = vi k ∧ s2 = .int .u64 (ones 64 k : Nat)) (fun s1 _ => 64 - (intOf s1).toNat)
  case atStart => exact ⟨0, by omega, rfl, rfl⟩
  case round =>
    obtain ⟨k, hk, rfl, rfl⟩ := hrel
    by_cases hlt : k < 64
    · have h0 : (((ones 64 k : Nat) : Int) != 0) = true := by have := ones_pos hlt; simp; omega
      have hh : ((ones 64 k : Nat) : Int) / 2 = ((ones 64 (k + 1) : Nat) : Int) := by rw [← ones_half hlt]; rfl
      have Hh := Lib.hid hh
      clear hh
      go_wp2
      go_round
      case rel => exact ⟨k + 1, by omega, by go_num, by rw [Hh.out]⟩
      case measure => simp [intOf]; omega
    · obtain rfl : k = 64 := by omega
      rw [ones_end]
      go_wp2
      go_ret
      exact ⟨rfl, rfl⟩


theorem turn8_val (x : UInt8) {n : Nat} (hn : 1 ≤ n) (hn4 : n ≤ 4) : bits .or .u8 ((x.toNat : Int) * 2 ^ n % 256) ((x.toNat : Int) / 2 ^ (8 - n)) = ((tup x (UInt8.ofNat n)).toNat : Int) := by
  have h : n = 1 ∨ n = 2 ∨ n = 3 ∨ n = 4 := by omega
  rcases h with rfl | rfl | rfl | rfl <;> (revert x; exact all_bytes (by decide +kernel))

set_option maxHeartbeats 400000 in
theorem Turn8_any (x : UInt8) (n : Nat) (hn : 1 ≤ n) (hn4 : n ≤ 4) (w : World) :
    Calls Try.prog 86 #[vb x, vi n] w fun e w' => e = .returned (vb (tup x (UInt8.ofNat n))) ∧ ∃ k, w' = w.drewN k := by
  have e1 : ((n : Int) == 0) = false := by simp; omega
  have e2 : (n : Int) % 8 = n := by omega
  have e3 : ((n : Int) + 8) % 8 = n := by omega
  go_enter Try.func86, Try.ntmps86
  go_wp2_with (go_at_call 100; refine (Bits8_any _).mono ?_; rintro e w' ⟨rfl, rfl⟩)
  go_quiet (fail)
  go_wp2
  go_ret
  exact ⟨ret_vb (turn8_val x hn hn4), _, rfl⟩

theorem ret_u32 {a b : Int} (h : a = b) : Ending.returned (.int .u32 a) = .returned (.int .u32 b) := by rw [h]
theorem turn32_val (x : UInt32) {n : Nat} (hn : 1 ≤ n) (hn4 : n ≤ 31) : bits .or .u32 ((x.toNat : Int) * 2 ^ (32 - n) % 4294967296) ((x.toNat : Int) / 2 ^ n) = ((tdn x (UInt32.ofNat n)).toNat : Int) := by
  have hx := x.toNat_lt
  have e1 : ((x.toNat : Int) * 2 ^ (32 - n) % 4294967296) = ((x.toNat * 2 ^ (32 - n) % 4294967296 : Nat) : Int) := by simp
  have e2 : ((x.toNat : Int) / 2 ^ n) = ((x.toNat / 2 ^ n : Nat) : Int) := by simp
  have hd : x.toNat / 2 ^ n ≤ x.toNat := Nat.div_le_self _ _
  rw [e1, e2, u32_or_nat _ _ (Nat.mod_lt _ (by omega)) (by omega)]
  have hn32 : (UInt32.ofNat n).toNat = n := by rw [UInt32.toNat_ofNat']; omega
  have hs : (32 - UInt32.ofNat n).toNat = 32 - n := by
    rw [UInt32.toNat_sub_of_le _ _ (by rw [UInt32.le_iff_toNat_le, hn32]; exact Nat.le_trans hn4 (by decide)), hn32]
    rfl
  unfold tdn
  rw [UInt32.toNat_or, UInt32.toNat_shiftRight, UInt32.toNat_shiftLeft, hn32, hs, Nat.mod_eq_of_lt (show n < 32 by omega), Nat.mod_eq_of_lt (show 32 - n < 32 by omega), Nat.shiftRight_eq_div_pow, Nat.shiftLeft_eq, Nat.or_comm]

set_option maxHeartbeats 400000 in
theorem Turn32_any (x : UInt32) (n : Nat) (hn : 1 ≤ n) (hn4 : n ≤ 31) (w : World) :
    Calls Try.prog 112 #[.int .u32 (x.toNat : Int), vi (-n)] w fun e w' => e = .returned (.int .u32 ((tdn x (UInt32.ofNat n)).toNat : Int)) ∧ ∃ k, w' = w.drewN k := by
  have e1 : ((32 - (n : Int)) == 0) = false := by simp; omega
  have e3 : (-(n : Int)).tmod 32 = - n := by rw [Int.neg_tmod, Int.tmod_eq_emod_of_nonneg (by omega)]; omega
  have e4 : (-(n : Int) + 32) % 32 = 32 - n := by omega
  go_enter Try.func112, Try.ntmps112
  go_wp2_with (go_at_call 105; refine (Bits32_any _).mono ?_; rintro e w' ⟨rfl, rfl⟩)
  go_quiet (fail)
  go_wp2
  go_ret
  refine ⟨ret_u32 ?_, _, rfl⟩
  rw [show 32 - (32 - n) = n by omega]
  exact turn32_val x hn hn4
end Lg
