/-
What the document's answer for the field and for the cipher's box comes to. No condition.
-/
import Derived.Test.YtncdecpehlkckaaFnF
import Derived.Test.YtncdecpehlkckaaRef2
namespace Lg
open Go Go.RowKit Go.Proofs

theorem ofInt_i64 (a : Nat) (ha : a < 9223372036854775808) : (BitVec.ofInt 64 (a : Int)).toNat = a := by
  rw [BitVec.ofInt_natCast, BitVec.toNat_ofNat]; exact Nat.mod_eq_of_lt (by omega)
theorem i64_xor_nat (a b : Nat) (ha : a < 9223372036854775808) (hb : b < 9223372036854775808) : bits .xor .i64 (a : Int) (b : Int) = ((a ^^^ b : Nat) : Int) := by
  have hx : a ^^^ b < 2 ^ 63 := Nat.xor_lt_two_pow (by omega) (by omega)
  show IntKind.i64.wrap ((BitVec.ofInt 64 (a : Int) ^^^ BitVec.ofInt 64 (b : Int)).toNat : Int) = _
  rw [BitVec.toNat_xor, ofInt_i64 a ha, ofInt_i64 b hb, IntKind.wrap_i64]
  omega
theorem bit_test (x i : Nat) : (((x : Int) / 2 ^ i).tmod 2 == 1) = decide (x / 2 ^ i % 2 = 1) := by
  have e : ((x : Int) / 2 ^ i) = ((x / 2 ^ i : Nat) : Int) := by simp
  rw [e]
  generalize x / 2 ^ i = y
  rw [Int.tmod_eq_emod_of_nonneg (by omega)]
  by_cases h : y % 2 = 1
  · rw [decide_eq_true h, beq_iff_eq]; omega
  · rw [decide_eq_false h, beq_eq_false_iff_ne]; omega
theorem xor_shift (p a k : Nat) (hp : p < 65536) (ha : a < 512) (hk : k ≤ 8) : bits .xor .i64 (p : Int) (wrap64 ((a : Int) * 2 ^ k)) = ((p ^^^ a * 2 ^ k : Nat) : Int) := by
  have h1 : 2 ^ k ≤ 2 ^ 8 := Nat.pow_le_pow_right (by omega) hk
  have h2 : a * 2 ^ k ≤ 511 * 2 ^ 8 := Nat.mul_le_mul (by omega) h1
  have e : wrap64 ((a : Int) * 2 ^ k) = ((a * 2 ^ k : Nat) : Int) := by
    have e1 : ((a : Int) * 2 ^ k) = ((a * 2 ^ k : Nat) : Int) := by simp
    rw [e1]
    unfold wrap64
    omega
  rw [e, i64_xor_nat _ _ (by omega) (by omega)]

set_option maxRecDepth 10000 in
set_option maxHeartbeats 400000 in
theorem refMul_any (a b : UInt8) (w : World) :
    Calls Try.prog 64 #[vb a, vb b] w fun e w' => e = .returned (vb (mul a b)) ∧ w = w' := by
  have ha := a.toNat_lt
  go_enter Try.func64, Try.ntmps64
  go_wp2
  go_loop [5, 6] (fun s5 s6 => ∃ k : Nat, k ≤ 8 ∧ s6 = vi k ∧ s5 = vi (cl a.toNat b.toNat k)) (fun _ s6 => 8 - (intOf s6).toNat)
  case atStart => exact ⟨0, by omega, rfl, rfl⟩
  case round =>
    obtain ⟨k, hk, rfl, rfl⟩ := hrel
    by_cases hlt : k < 8
    · go_wp2
      · have ht : b.toNat / 2 ^ k % 2 = 1 := of_decide_eq_true ((bit_test _ _).symm.trans ‹_›)
        go_round
        case rel => exact ⟨k + 1, by omega, by go_num, by rw [xor_shift _ _ _ (cl_lt _ _ _ ha (by omega)) (by omega) (by omega), cl, if_pos ht]⟩
        case measure => simp [intOf]; omega
      · have ht : ¬ b.toNat / 2 ^ k % 2 = 1 := of_decide_eq_false ((bit_test _ _).symm.trans ‹_›)
        go_round
        case rel => exact ⟨k + 1, by omega, by go_num, by rw [cl, if_neg ht]⟩
        case measure => simp [intOf]; omega
    · obtain rfl : k = 8 := by omega
      go_wp2
      go_loop [5, 7] (fun s5 s7 => ∃ j : Nat, j ≤ 7 ∧ s7 = vi (14 - (j : Int)) ∧ s5 = vi (rd (cl a.toNat b.toNat 8) j)) (fun _ s7 => (intOf s7).toNat)
      case atStart => exact ⟨0, by omega, rfl, rfl⟩
      case round =>
        obtain ⟨j, hj, rfl, rfl⟩ := hrel
        by_cases hlt : j < 7
        · have hp := rd_lt (cl a.toNat b.toNat 8) j (cl_lt _ _ _ ha (by omega))
          have HP := Lib.hid hp
          clear hp
          go_wp2
          · have ht : rd (cl a.toNat b.toNat 8) j / 2 ^ (14 - j) % 2 = 1 := of_decide_eq_true ((bit_test _ _).symm.trans ‹_›)
            go_round
            case rel => exact ⟨j + 1, by omega, by go_num, by rw [show (283 : Int) = ((283 : Nat) : Int) from rfl, xor_shift _ _ _ HP.out (by omega) (by omega), rd, rd1, if_pos ht]⟩
            case measure => simp [intOf]; omega
          · have ht : ¬ rd (cl a.toNat b.toNat 8) j / 2 ^ (14 - j) % 2 = 1 := of_decide_eq_false ((bit_test _ _).symm.trans ‹_›)
            go_round
            case rel => exact ⟨j + 1, by omega, by go_num, by rw [rd, rd1, if_neg ht]⟩
            case measure => simp [intOf]; omega
        · obtain rfl : j = 7 := by omega
          go_wp2
          go_ret
          refine ⟨ret_vb ?_, rfl⟩
          have h := refMul_eq a b
          unfold refMul at h
          rw [h]
          have := (mul a b).toNat_lt
          omega

theorem refMul_nat (a : UInt8) (k : Nat) (hk : k < 256) (w : World) :
    Calls Try.prog 64 #[vb a, .int .u8 (k : Int)] w fun e w' => e = .returned (vb (mul a (UInt8.ofNat k))) ∧ w = w' := by
  have h := refMul_any a (UInt8.ofNat k) w
  rwa [vb, vb, UInt8.toNat_ofNat', Nat.mod_eq_of_lt (show k < 2 ^ 8 by omega)] at h

theorem inv_none {x : UInt8} {k : Nat} (hk : k ≤ 256) (h : ∀ j, 1 ≤ j → j < k → mul x (UInt8.ofNat j) ≠ 1) (h1 : 256 ≤ k) : inv x = 0 := by
  by_cases hx : x = 0
  · rw [hx]; rfl
  · exfalso
    have hn := inv_ne hx
    have h0 : (inv x).toNat ≠ 0 := by intro e; exact hn (by rw [← UInt8.toNat_inj, e]; rfl)
    have := h (inv x).toNat (by omega) (by have := (inv x).toNat_lt; omega)
    rw [UInt8.ofNat_toNat] at this
    exact this (mul_inv hx)

set_option maxRecDepth 10000 in
set_option maxHeartbeats 400000 in
theorem refInv_any (x : UInt8) (w : World) :
    Calls Try.prog 92 #[vb x] w fun e w' => e = .returned (vb (inv x)) ∧ w = w' := by
  go_enter Try.func92, Try.ntmps92
  go_wp2
  go_loop [3] (fun s3 => ∃ k : Nat, 1 ≤ k ∧ k ≤ 256 ∧ s3 = vi k ∧ Hid (∀ j, 1 ≤ j → j < k → mul x (UInt8.ofNat j) ≠ 1)) (fun s3 => 256 - (intOf s3).toNat)
  case atStart => exact ⟨1, by omega, by omega, rfl, fun j _ _ => by omega⟩
  case round =>
    obtain ⟨k, hk1, hk, rfl, H⟩ := hrel
    by_cases hlt : k < 256
    · have hc := Lib.hid (refMul_nat x k hlt)
      go_wp2_with (go_at_call 64; refine (hc.out _).mono ?_; rintro e w' ⟨rfl, rfl⟩)
      · go_ret
        have h1 : mul x (UInt8.ofNat k) = 1 := by
          have h : ((mul x (UInt8.ofNat k)).toNat : Int) = 1 := eq_of_beq ‹_›
          exact UInt8.toNat_inj.1 (by show _ = 1; omega)
        refine ⟨ret_vb ?_, rfl⟩
        rw [← inv_unique h1, UInt8.toNat_ofNat']
        omega
      · go_round
        case rel =>
          refine ⟨k + 1, by omega, by omega, by go_num, fun j h1 h2 => ?_⟩
          by_cases e : j = k
          · subst e
            intro h
            have hf := beq_eq_false_iff_ne.1 ‹_›
            rw [h] at hf
            exact hf rfl
          · exact H.out j h1 (by omega)
        case measure => simp [intOf]; omega
    · obtain rfl : k = 256 := by omega
      go_wp2
      go_ret
      refine ⟨ret_vb ?_, rfl⟩
      rw [inv_none (by omega) H.out (Nat.le_refl _)]
      rfl

def bitOf (v : UInt8) (i : Nat) : UInt8 := (v >>> UInt8.ofNat i) &&& 1
/-- the box's first k bits -/
def boxUpto (v : UInt8) : Nat → UInt8
  | 0 => 0
  | k + 1 => boxUpto v k ||| (bitOf v k ^^^ bitOf v ((k + 4) % 8) ^^^ bitOf v ((k + 5) % 8) ^^^ bitOf v ((k + 6) % 8) ^^^ bitOf v ((k + 7) % 8) ^^^ bitOf 99 k) <<< UInt8.ofNat k
theorem boxUpto_end (x : UInt8) : boxUpto (inv x) 8 = sbox x := by
  revert x; exact all_bytes (by decide +kernel)

set_option maxRecDepth 10000 in
set_option maxHeartbeats 400000 in
theorem refBox_any (x : UInt8) (w : World) :
    Calls Try.prog 63 #[vb x] w fun e w' => e = .returned (vb (sbox x)) ∧ ∃ n, w' = w.drewN n := by
  go_enter Try.func63, Try.ntmps63
  go_wp2_with (go_at_call 92; refine (refInv_any x _).mono ?_; rintro e w' ⟨rfl, rfl⟩)
  go_loopw [4, 5] (fun s4 s5 wr => ∃ k : Nat, k ≤ 8 ∧ s5 = vi k ∧ s4 = vb (boxUpto (inv x) k) ∧ ∃ d, wr = w.drewN d) (fun _ s5 _ => 8 - (intOf s5).toNat)
  case atStart => exact ⟨0, by omega, rfl, rfl, 0, rfl⟩
  case round =>
    obtain ⟨k, hk, rfl, rfl, d, rfl⟩ := hrel
    by_cases hlt : k < 8
    · have h8 : k = 0 ∨ k = 1 ∨ k = 2 ∨ k = 3 ∨ k = 4 ∨ k = 5 ∨ k = 6 ∨ k = 7 := by omega
      rcases h8 with rfl | rfl | rfl | rfl | rfl | rfl | rfl | rfl
      · go_wp2
        go_quiet (fail)
        go_wp2
        go_roundw
        case rel => exact ⟨1, by omega, rfl, vb_of (by generalize inv x = v; revert v; exact all_bytes (by decide +kernel)), _, rfl⟩
        case measure => simp [intOf]
      · go_wp2
        go_quiet (fail)
        go_wp2
        go_roundw
        case rel => exact ⟨2, by omega, rfl, vb_of (by generalize inv x = v; revert v; exact all_bytes (by decide +kernel)), _, rfl⟩
        case measure => simp [intOf]
      · go_wp2
        go_quiet (fail)
        go_wp2
        go_roundw
        case rel => exact ⟨3, by omega, rfl, vb_of (by generalize inv x = v; revert v; exact all_bytes (by decide +kernel)), _, rfl⟩
        case measure => simp [intOf]
      · go_wp2
        go_quiet (fail)
        go_wp2
        go_roundw
        case rel => exact ⟨4, by omega, rfl, vb_of (by generalize inv x = v; revert v; exact all_bytes (by decide +kernel)), _, rfl⟩
        case measure => simp [intOf]
      · go_wp2
        go_quiet (fail)
        go_wp2
        go_roundw
        case rel => exact ⟨5, by omega, rfl, vb_of (by generalize inv x = v; revert v; exact all_bytes (by decide +kernel)), _, rfl⟩
        case measure => simp [intOf]
      · go_wp2
        go_quiet (fail)
        go_wp2
        go_roundw
        case rel => exact ⟨6, by omega, rfl, vb_of (by generalize inv x = v; revert v; exact all_bytes (by decide +kernel)), _, rfl⟩
        case measure => simp [intOf]
      · go_wp2
        go_quiet (fail)
        go_wp2
        go_roundw
        case rel => exact ⟨7, by omega, rfl, vb_of (by generalize inv x = v; revert v; exact all_bytes (by decide +kernel)), _, rfl⟩
        case measure => simp [intOf]
      · go_wp2
        go_quiet (fail)
        go_wp2
        go_roundw
        case rel => exact ⟨8, by omega, rfl, vb_of (by generalize inv x = v; revert v; exact all_bytes (by decide +kernel)), _, rfl⟩
        case measure => simp [intOf]
    · obtain rfl : k = 8 := by omega
      go_wp2
      go_ret
      exact ⟨ret_eq (boxUpto_end x), _, rfl⟩
end Lg
