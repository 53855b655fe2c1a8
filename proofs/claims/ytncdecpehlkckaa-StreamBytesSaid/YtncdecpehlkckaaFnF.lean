/-
What the library's Equal comes to at slices of bytes, by elements and by strings. Bounds: none but what a slice may have.
-/
import Derived.Test.YtncdecpehlkckaaFnE
namespace Lg
open Go Go.RowKit Go.Proofs

theorem ret_bool {a b : Bool} (h : a = b) : Ending.returned (.bool a) = .returned (.bool b) := by rw [h]

theorem neq_of {x y : UInt8} (h : ((x.toNat : Int) != (y.toNat : Int)) = true) : x ≠ y := by
  rintro rfl; simp at h
theorem eq_of_ne {x y : UInt8} (h : ((x.toNat : Int) != (y.toNat : Int)) = false) : x = y := by
  simp at h; exact UInt8.toNat_inj.1 (by omega)

set_option maxRecDepth 10000 in
set_option maxHeartbeats 400000 in
theorem Equal_any (A1 A2 : Option Addr) (n1 c1 n2 c2 : Nat) (l1 l2 : List UInt8) (w : World) (h1 : Sl w A1 n1 c1 (l1.map vb)) (h2 : Sl w A2 n2 c2 (l2.map vb)) :
    Calls Try.prog 72 #[.slice A1 n1 c1, .slice A2 n2 c2] w fun e w' => e = .returned (.bool (decide (l1 = l2))) ∧ ∃ n, w' = w.drewN n := by
  have e1 : l1.length = n1 := by simpa using h1.len
  have e2 : l2.length = n2 := by simpa using h2.len
  have E1 := Lib.hid e1
  have E2 := Lib.hid e2
  have b1 := Nat.le_trans h1.le h1.cap
  unfold maxLen at b1
  clear e1 e2
  have H1 := Lib.hid h1
  have H2 := Lib.hid h2
  clear h1 h2
  by_cases hn : n1 = n2
  · subst hn
    have hne : ((n1 : Int) != (n1 : Int)) = false := by simp
    go_enter Try.func72, Try.ntmps72
    go_wp2
    go_loopw [13] (fun s13 wr => ∃ k : Nat, k ≤ n1 ∧ s13 = vi k ∧ Hid (l1.take k = l2.take k) ∧ ∃ d, wr = w.drewN d) (fun s13 _ => n1 - (intOf s13).toNat)
    case atStart => exact ⟨0, by omega, rfl, by simp [Hid], 0, rfl⟩
    case round =>
      obtain ⟨k, hk, rfl, HT, d, rfl⟩ := hrel
      by_cases hlt : k < n1
      · obtain ⟨ad1, x, rfl, hx, cx⟩ := H1.out.byte (k := k) (by omega)
        obtain ⟨ad2, y, rfl, hy, cy⟩ := H2.out.byte (k := k) (by omega)
        have HX := Lib.hid hx
        have HY := Lib.hid hy
        clear hx hy
        go_wp2
        go_quiet (fail)
        go_wp2
        · have hne' := neq_of (x := x) (y := y) ‹_›
          go_ret
          refine ⟨ret_bool ?_, d + nq, World.drewN_drewN _ _ _⟩
          have : l1 ≠ l2 := by
            intro e; subst e
            have := HX.out.symm.trans HY.out
            injection this with this
            exact hne' this
          simp [this]
        · have he := eq_of_ne (x := x) (y := y) ‹_›
          subst he
          go_roundw
          case rel => exact ⟨k + 1, by omega, by go_num, by rw [Hid, take_snoc HX.out, take_snoc HY.out, HT.out], _, rfl⟩
          case measure => simp [intOf]; omega
      · go_wp2
        go_ret
        obtain rfl : k = n1 := by omega
        have h := HT.out
        rw [List.take_of_length_le (by have := E1.out; omega), List.take_of_length_le (by have := E2.out; omega)] at h
        exact ⟨ret_bool (by simp [h]), _, rfl⟩
  · have hne : ((n1 : Int) != (n2 : Int)) = true := by simp; omega
    have hl : l1 ≠ l2 := by intro e; subst e; exact hn (E1.out.symm.trans E2.out)
    have HL := Lib.hid hl
    clear hl
    go_enter Try.func72, Try.ntmps72
    go_wp2
    go_ret
    exact ⟨ret_bool (by simp [HL.out]), 0, rfl⟩

set_option maxRecDepth 10000 in
set_option maxHeartbeats 400000 in
theorem bytesEqual_any (A1 A2 : Option Addr) (n1 c1 n2 c2 : Nat) (l1 l2 : List UInt8) (w : World) (h1 : Sl w A1 n1 c1 (l1.map vb)) (h2 : Sl w A2 n2 c2 (l2.map vb)) :
    Calls Try.prog 84 #[.slice A1 n1 c1, .slice A2 n2 c2] w fun e w' => e = .returned (.bool (decide (l1 = l2))) ∧ w = w' := by
  have c1 := strB h1
  have c2 := strB h2
  go_enter Try.func84, Try.ntmps84
  go_wp2
  go_ret
  exact ⟨ret_bool (beq_dec l1 l2), rfl⟩
end Lg
