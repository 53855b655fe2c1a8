/-
The cipher of chapter 5: a column there and back. No condition.
-/
import Derived.Test.YtncdecpehlkckaaAes
namespace Lg

theorem lin4 (p q r s t u v z x : UInt8) : mul p (mul q x) ^^^ mul r (mul s x) ^^^ mul t (mul u x) ^^^ mul v (mul z x) = mul (mul p q ^^^ mul r s ^^^ mul t u ^^^ mul v z) x := by
  rw [add_mul, add_mul, add_mul, mul_assoc, mul_assoc, mul_assoc, mul_assoc]

theorem ci00 (x : UInt8) : mul 14 (mul 2 x) ^^^ mul 11 (mul 1 x) ^^^ mul 13 (mul 1 x) ^^^ mul 9 (mul 3 x) = x := by
  rw [lin4, show (mul 14 2 ^^^ mul 11 1 ^^^ mul 13 1 ^^^ mul 9 3 : UInt8) = 1 by decide +kernel, one_mul]
theorem ci01 (x : UInt8) : mul 14 (mul 3 x) ^^^ mul 11 (mul 2 x) ^^^ mul 13 (mul 1 x) ^^^ mul 9 (mul 1 x) = 0 := by
  rw [lin4, show (mul 14 3 ^^^ mul 11 2 ^^^ mul 13 1 ^^^ mul 9 1 : UInt8) = 0 by decide +kernel, zero_mul]
theorem ci02 (x : UInt8) : mul 14 (mul 1 x) ^^^ mul 11 (mul 3 x) ^^^ mul 13 (mul 2 x) ^^^ mul 9 (mul 1 x) = 0 := by
  rw [lin4, show (mul 14 1 ^^^ mul 11 3 ^^^ mul 13 2 ^^^ mul 9 1 : UInt8) = 0 by decide +kernel, zero_mul]
theorem ci03 (x : UInt8) : mul 14 (mul 1 x) ^^^ mul 11 (mul 1 x) ^^^ mul 13 (mul 3 x) ^^^ mul 9 (mul 2 x) = 0 := by
  rw [lin4, show (mul 14 1 ^^^ mul 11 1 ^^^ mul 13 3 ^^^ mul 9 2 : UInt8) = 0 by decide +kernel, zero_mul]
theorem ci10 (x : UInt8) : mul 9 (mul 2 x) ^^^ mul 14 (mul 1 x) ^^^ mul 11 (mul 1 x) ^^^ mul 13 (mul 3 x) = 0 := by
  rw [lin4, show (mul 9 2 ^^^ mul 14 1 ^^^ mul 11 1 ^^^ mul 13 3 : UInt8) = 0 by decide +kernel, zero_mul]
theorem ci11 (x : UInt8) : mul 9 (mul 3 x) ^^^ mul 14 (mul 2 x) ^^^ mul 11 (mul 1 x) ^^^ mul 13 (mul 1 x) = x := by
  rw [lin4, show (mul 9 3 ^^^ mul 14 2 ^^^ mul 11 1 ^^^ mul 13 1 : UInt8) = 1 by decide +kernel, one_mul]
theorem ci12 (x : UInt8) : mul 9 (mul 1 x) ^^^ mul 14 (mul 3 x) ^^^ mul 11 (mul 2 x) ^^^ mul 13 (mul 1 x) = 0 := by
  rw [lin4, show (mul 9 1 ^^^ mul 14 3 ^^^ mul 11 2 ^^^ mul 13 1 : UInt8) = 0 by decide +kernel, zero_mul]
theorem ci13 (x : UInt8) : mul 9 (mul 1 x) ^^^ mul 14 (mul 1 x) ^^^ mul 11 (mul 3 x) ^^^ mul 13 (mul 2 x) = 0 := by
  rw [lin4, show (mul 9 1 ^^^ mul 14 1 ^^^ mul 11 3 ^^^ mul 13 2 : UInt8) = 0 by decide +kernel, zero_mul]
theorem ci20 (x : UInt8) : mul 13 (mul 2 x) ^^^ mul 9 (mul 1 x) ^^^ mul 14 (mul 1 x) ^^^ mul 11 (mul 3 x) = 0 := by
  rw [lin4, show (mul 13 2 ^^^ mul 9 1 ^^^ mul 14 1 ^^^ mul 11 3 : UInt8) = 0 by decide +kernel, zero_mul]
theorem ci21 (x : UInt8) : mul 13 (mul 3 x) ^^^ mul 9 (mul 2 x) ^^^ mul 14 (mul 1 x) ^^^ mul 11 (mul 1 x) = 0 := by
  rw [lin4, show (mul 13 3 ^^^ mul 9 2 ^^^ mul 14 1 ^^^ mul 11 1 : UInt8) = 0 by decide +kernel, zero_mul]
theorem ci22 (x : UInt8) : mul 13 (mul 1 x) ^^^ mul 9 (mul 3 x) ^^^ mul 14 (mul 2 x) ^^^ mul 11 (mul 1 x) = x := by
  rw [lin4, show (mul 13 1 ^^^ mul 9 3 ^^^ mul 14 2 ^^^ mul 11 1 : UInt8) = 1 by decide +kernel, one_mul]
theorem ci23 (x : UInt8) : mul 13 (mul 1 x) ^^^ mul 9 (mul 1 x) ^^^ mul 14 (mul 3 x) ^^^ mul 11 (mul 2 x) = 0 := by
  rw [lin4, show (mul 13 1 ^^^ mul 9 1 ^^^ mul 14 3 ^^^ mul 11 2 : UInt8) = 0 by decide +kernel, zero_mul]
theorem ci30 (x : UInt8) : mul 11 (mul 2 x) ^^^ mul 13 (mul 1 x) ^^^ mul 9 (mul 1 x) ^^^ mul 14 (mul 3 x) = 0 := by
  rw [lin4, show (mul 11 2 ^^^ mul 13 1 ^^^ mul 9 1 ^^^ mul 14 3 : UInt8) = 0 by decide +kernel, zero_mul]
theorem ci31 (x : UInt8) : mul 11 (mul 3 x) ^^^ mul 13 (mul 2 x) ^^^ mul 9 (mul 1 x) ^^^ mul 14 (mul 1 x) = 0 := by
  rw [lin4, show (mul 11 3 ^^^ mul 13 2 ^^^ mul 9 1 ^^^ mul 14 1 : UInt8) = 0 by decide +kernel, zero_mul]
theorem ci32 (x : UInt8) : mul 11 (mul 1 x) ^^^ mul 13 (mul 3 x) ^^^ mul 9 (mul 2 x) ^^^ mul 14 (mul 1 x) = 0 := by
  rw [lin4, show (mul 11 1 ^^^ mul 13 3 ^^^ mul 9 2 ^^^ mul 14 1 : UInt8) = 0 by decide +kernel, zero_mul]
theorem ci33 (x : UInt8) : mul 11 (mul 1 x) ^^^ mul 13 (mul 1 x) ^^^ mul 9 (mul 3 x) ^^^ mul 14 (mul 2 x) = x := by
  rw [lin4, show (mul 11 1 ^^^ mul 13 1 ^^^ mul 9 3 ^^^ mul 14 2 : UInt8) = 1 by decide +kernel, one_mul]
theorem ci0 (a b c d : UInt8) : mul 14 (mul 2 a ^^^ mul 3 b ^^^ mul 1 c ^^^ mul 1 d) ^^^ mul 11 (mul 1 a ^^^ mul 2 b ^^^ mul 3 c ^^^ mul 1 d) ^^^ mul 13 (mul 1 a ^^^ mul 1 b ^^^ mul 2 c ^^^ mul 3 d) ^^^ mul 9 (mul 3 a ^^^ mul 1 b ^^^ mul 1 c ^^^ mul 2 d) = a := by
  simp only [mul_add]
  refine Eq.trans (b := (mul 14 (mul 2 a) ^^^ mul 11 (mul 1 a) ^^^ mul 13 (mul 1 a) ^^^ mul 9 (mul 3 a)) ^^^ (mul 14 (mul 3 b) ^^^ mul 11 (mul 2 b) ^^^ mul 13 (mul 1 b) ^^^ mul 9 (mul 1 b)) ^^^ (mul 14 (mul 1 c) ^^^ mul 11 (mul 3 c) ^^^ mul 13 (mul 2 c) ^^^ mul 9 (mul 1 c)) ^^^ (mul 14 (mul 1 d) ^^^ mul 11 (mul 1 d) ^^^ mul 13 (mul 3 d) ^^^ mul 9 (mul 2 d))) (by ac_rfl) ?_
  rw [ci00 a, ci01 b, ci02 c, ci03 d]
  simp
theorem ci1 (a b c d : UInt8) : mul 9 (mul 2 a ^^^ mul 3 b ^^^ mul 1 c ^^^ mul 1 d) ^^^ mul 14 (mul 1 a ^^^ mul 2 b ^^^ mul 3 c ^^^ mul 1 d) ^^^ mul 11 (mul 1 a ^^^ mul 1 b ^^^ mul 2 c ^^^ mul 3 d) ^^^ mul 13 (mul 3 a ^^^ mul 1 b ^^^ mul 1 c ^^^ mul 2 d) = b := by
  simp only [mul_add]
  refine Eq.trans (b := (mul 9 (mul 2 a) ^^^ mul 14 (mul 1 a) ^^^ mul 11 (mul 1 a) ^^^ mul 13 (mul 3 a)) ^^^ (mul 9 (mul 3 b) ^^^ mul 14 (mul 2 b) ^^^ mul 11 (mul 1 b) ^^^ mul 13 (mul 1 b)) ^^^ (mul 9 (mul 1 c) ^^^ mul 14 (mul 3 c) ^^^ mul 11 (mul 2 c) ^^^ mul 13 (mul 1 c)) ^^^ (mul 9 (mul 1 d) ^^^ mul 14 (mul 1 d) ^^^ mul 11 (mul 3 d) ^^^ mul 13 (mul 2 d))) (by ac_rfl) ?_
  rw [ci10 a, ci11 b, ci12 c, ci13 d]
  simp
theorem ci2 (a b c d : UInt8) : mul 13 (mul 2 a ^^^ mul 3 b ^^^ mul 1 c ^^^ mul 1 d) ^^^ mul 9 (mul 1 a ^^^ mul 2 b ^^^ mul 3 c ^^^ mul 1 d) ^^^ mul 14 (mul 1 a ^^^ mul 1 b ^^^ mul 2 c ^^^ mul 3 d) ^^^ mul 11 (mul 3 a ^^^ mul 1 b ^^^ mul 1 c ^^^ mul 2 d) = c := by
  simp only [mul_add]
  refine Eq.trans (b := (mul 13 (mul 2 a) ^^^ mul 9 (mul 1 a) ^^^ mul 14 (mul 1 a) ^^^ mul 11 (mul 3 a)) ^^^ (mul 13 (mul 3 b) ^^^ mul 9 (mul 2 b) ^^^ mul 14 (mul 1 b) ^^^ mul 11 (mul 1 b)) ^^^ (mul 13 (mul 1 c) ^^^ mul 9 (mul 3 c) ^^^ mul 14 (mul 2 c) ^^^ mul 11 (mul 1 c)) ^^^ (mul 13 (mul 1 d) ^^^ mul 9 (mul 1 d) ^^^ mul 14 (mul 3 d) ^^^ mul 11 (mul 2 d))) (by ac_rfl) ?_
  rw [ci20 a, ci21 b, ci22 c, ci23 d]
  simp
theorem ci3 (a b c d : UInt8) : mul 11 (mul 2 a ^^^ mul 3 b ^^^ mul 1 c ^^^ mul 1 d) ^^^ mul 13 (mul 1 a ^^^ mul 2 b ^^^ mul 3 c ^^^ mul 1 d) ^^^ mul 9 (mul 1 a ^^^ mul 1 b ^^^ mul 2 c ^^^ mul 3 d) ^^^ mul 14 (mul 3 a ^^^ mul 1 b ^^^ mul 1 c ^^^ mul 2 d) = d := by
  simp only [mul_add]
  refine Eq.trans (b := (mul 11 (mul 2 a) ^^^ mul 13 (mul 1 a) ^^^ mul 9 (mul 1 a) ^^^ mul 14 (mul 3 a)) ^^^ (mul 11 (mul 3 b) ^^^ mul 13 (mul 2 b) ^^^ mul 9 (mul 1 b) ^^^ mul 14 (mul 1 b)) ^^^ (mul 11 (mul 1 c) ^^^ mul 13 (mul 3 c) ^^^ mul 9 (mul 2 c) ^^^ mul 14 (mul 1 c)) ^^^ (mul 11 (mul 1 d) ^^^ mul 13 (mul 1 d) ^^^ mul 9 (mul 3 d) ^^^ mul 14 (mul 2 d))) (by ac_rfl) ?_
  rw [ci30 a, ci31 b, ci32 c, ci33 d]
  simp
theorem cj00 (x : UInt8) : mul 2 (mul 14 x) ^^^ mul 3 (mul 9 x) ^^^ mul 1 (mul 13 x) ^^^ mul 1 (mul 11 x) = x := by
  rw [lin4, show (mul 2 14 ^^^ mul 3 9 ^^^ mul 1 13 ^^^ mul 1 11 : UInt8) = 1 by decide +kernel, one_mul]
theorem cj01 (x : UInt8) : mul 2 (mul 11 x) ^^^ mul 3 (mul 14 x) ^^^ mul 1 (mul 9 x) ^^^ mul 1 (mul 13 x) = 0 := by
  rw [lin4, show (mul 2 11 ^^^ mul 3 14 ^^^ mul 1 9 ^^^ mul 1 13 : UInt8) = 0 by decide +kernel, zero_mul]
theorem cj02 (x : UInt8) : mul 2 (mul 13 x) ^^^ mul 3 (mul 11 x) ^^^ mul 1 (mul 14 x) ^^^ mul 1 (mul 9 x) = 0 := by
  rw [lin4, show (mul 2 13 ^^^ mul 3 11 ^^^ mul 1 14 ^^^ mul 1 9 : UInt8) = 0 by decide +kernel, zero_mul]
theorem cj03 (x : UInt8) : mul 2 (mul 9 x) ^^^ mul 3 (mul 13 x) ^^^ mul 1 (mul 11 x) ^^^ mul 1 (mul 14 x) = 0 := by
  rw [lin4, show (mul 2 9 ^^^ mul 3 13 ^^^ mul 1 11 ^^^ mul 1 14 : UInt8) = 0 by decide +kernel, zero_mul]
theorem cj10 (x : UInt8) : mul 1 (mul 14 x) ^^^ mul 2 (mul 9 x) ^^^ mul 3 (mul 13 x) ^^^ mul 1 (mul 11 x) = 0 := by
  rw [lin4, show (mul 1 14 ^^^ mul 2 9 ^^^ mul 3 13 ^^^ mul 1 11 : UInt8) = 0 by decide +kernel, zero_mul]
theorem cj11 (x : UInt8) : mul 1 (mul 11 x) ^^^ mul 2 (mul 14 x) ^^^ mul 3 (mul 9 x) ^^^ mul 1 (mul 13 x) = x := by
  rw [lin4, show (mul 1 11 ^^^ mul 2 14 ^^^ mul 3 9 ^^^ mul 1 13 : UInt8) = 1 by decide +kernel, one_mul]
theorem cj12 (x : UInt8) : mul 1 (mul 13 x) ^^^ mul 2 (mul 11 x) ^^^ mul 3 (mul 14 x) ^^^ mul 1 (mul 9 x) = 0 := by
  rw [lin4, show (mul 1 13 ^^^ mul 2 11 ^^^ mul 3 14 ^^^ mul 1 9 : UInt8) = 0 by decide +kernel, zero_mul]
theorem cj13 (x : UInt8) : mul 1 (mul 9 x) ^^^ mul 2 (mul 13 x) ^^^ mul 3 (mul 11 x) ^^^ mul 1 (mul 14 x) = 0 := by
  rw [lin4, show (mul 1 9 ^^^ mul 2 13 ^^^ mul 3 11 ^^^ mul 1 14 : UInt8) = 0 by decide +kernel, zero_mul]
theorem cj20 (x : UInt8) : mul 1 (mul 14 x) ^^^ mul 1 (mul 9 x) ^^^ mul 2 (mul 13 x) ^^^ mul 3 (mul 11 x) = 0 := by
  rw [lin4, show (mul 1 14 ^^^ mul 1 9 ^^^ mul 2 13 ^^^ mul 3 11 : UInt8) = 0 by decide +kernel, zero_mul]
theorem cj21 (x : UInt8) : mul 1 (mul 11 x) ^^^ mul 1 (mul 14 x) ^^^ mul 2 (mul 9 x) ^^^ mul 3 (mul 13 x) = 0 := by
  rw [lin4, show (mul 1 11 ^^^ mul 1 14 ^^^ mul 2 9 ^^^ mul 3 13 : UInt8) = 0 by decide +kernel, zero_mul]
theorem cj22 (x : UInt8) : mul 1 (mul 13 x) ^^^ mul 1 (mul 11 x) ^^^ mul 2 (mul 14 x) ^^^ mul 3 (mul 9 x) = x := by
  rw [lin4, show (mul 1 13 ^^^ mul 1 11 ^^^ mul 2 14 ^^^ mul 3 9 : UInt8) = 1 by decide +kernel, one_mul]
theorem cj23 (x : UInt8) : mul 1 (mul 9 x) ^^^ mul 1 (mul 13 x) ^^^ mul 2 (mul 11 x) ^^^ mul 3 (mul 14 x) = 0 := by
  rw [lin4, show (mul 1 9 ^^^ mul 1 13 ^^^ mul 2 11 ^^^ mul 3 14 : UInt8) = 0 by decide +kernel, zero_mul]
theorem cj30 (x : UInt8) : mul 3 (mul 14 x) ^^^ mul 1 (mul 9 x) ^^^ mul 1 (mul 13 x) ^^^ mul 2 (mul 11 x) = 0 := by
  rw [lin4, show (mul 3 14 ^^^ mul 1 9 ^^^ mul 1 13 ^^^ mul 2 11 : UInt8) = 0 by decide +kernel, zero_mul]
theorem cj31 (x : UInt8) : mul 3 (mul 11 x) ^^^ mul 1 (mul 14 x) ^^^ mul 1 (mul 9 x) ^^^ mul 2 (mul 13 x) = 0 := by
  rw [lin4, show (mul 3 11 ^^^ mul 1 14 ^^^ mul 1 9 ^^^ mul 2 13 : UInt8) = 0 by decide +kernel, zero_mul]
theorem cj32 (x : UInt8) : mul 3 (mul 13 x) ^^^ mul 1 (mul 11 x) ^^^ mul 1 (mul 14 x) ^^^ mul 2 (mul 9 x) = 0 := by
  rw [lin4, show (mul 3 13 ^^^ mul 1 11 ^^^ mul 1 14 ^^^ mul 2 9 : UInt8) = 0 by decide +kernel, zero_mul]
theorem cj33 (x : UInt8) : mul 3 (mul 9 x) ^^^ mul 1 (mul 13 x) ^^^ mul 1 (mul 11 x) ^^^ mul 2 (mul 14 x) = x := by
  rw [lin4, show (mul 3 9 ^^^ mul 1 13 ^^^ mul 1 11 ^^^ mul 2 14 : UInt8) = 1 by decide +kernel, one_mul]
theorem cj0 (a b c d : UInt8) : mul 2 (mul 14 a ^^^ mul 11 b ^^^ mul 13 c ^^^ mul 9 d) ^^^ mul 3 (mul 9 a ^^^ mul 14 b ^^^ mul 11 c ^^^ mul 13 d) ^^^ mul 1 (mul 13 a ^^^ mul 9 b ^^^ mul 14 c ^^^ mul 11 d) ^^^ mul 1 (mul 11 a ^^^ mul 13 b ^^^ mul 9 c ^^^ mul 14 d) = a := by
  simp only [mul_add]
  refine Eq.trans (b := (mul 2 (mul 14 a) ^^^ mul 3 (mul 9 a) ^^^ mul 1 (mul 13 a) ^^^ mul 1 (mul 11 a)) ^^^ (mul 2 (mul 11 b) ^^^ mul 3 (mul 14 b) ^^^ mul 1 (mul 9 b) ^^^ mul 1 (mul 13 b)) ^^^ (mul 2 (mul 13 c) ^^^ mul 3 (mul 11 c) ^^^ mul 1 (mul 14 c) ^^^ mul 1 (mul 9 c)) ^^^ (mul 2 (mul 9 d) ^^^ mul 3 (mul 13 d) ^^^ mul 1 (mul 11 d) ^^^ mul 1 (mul 14 d))) (by ac_rfl) ?_
  rw [cj00 a, cj01 b, cj02 c, cj03 d]
  simp
theorem cj1 (a b c d : UInt8) : mul 1 (mul 14 a ^^^ mul 11 b ^^^ mul 13 c ^^^ mul 9 d) ^^^ mul 2 (mul 9 a ^^^ mul 14 b ^^^ mul 11 c ^^^ mul 13 d) ^^^ mul 3 (mul 13 a ^^^ mul 9 b ^^^ mul 14 c ^^^ mul 11 d) ^^^ mul 1 (mul 11 a ^^^ mul 13 b ^^^ mul 9 c ^^^ mul 14 d) = b := by
  simp only [mul_add]
  refine Eq.trans (b := (mul 1 (mul 14 a) ^^^ mul 2 (mul 9 a) ^^^ mul 3 (mul 13 a) ^^^ mul 1 (mul 11 a)) ^^^ (mul 1 (mul 11 b) ^^^ mul 2 (mul 14 b) ^^^ mul 3 (mul 9 b) ^^^ mul 1 (mul 13 b)) ^^^ (mul 1 (mul 13 c) ^^^ mul 2 (mul 11 c) ^^^ mul 3 (mul 14 c) ^^^ mul 1 (mul 9 c)) ^^^ (mul 1 (mul 9 d) ^^^ mul 2 (mul 13 d) ^^^ mul 3 (mul 11 d) ^^^ mul 1 (mul 14 d))) (by ac_rfl) ?_
  rw [cj10 a, cj11 b, cj12 c, cj13 d]
  simp
theorem cj2 (a b c d : UInt8) : mul 1 (mul 14 a ^^^ mul 11 b ^^^ mul 13 c ^^^ mul 9 d) ^^^ mul 1 (mul 9 a ^^^ mul 14 b ^^^ mul 11 c ^^^ mul 13 d) ^^^ mul 2 (mul 13 a ^^^ mul 9 b ^^^ mul 14 c ^^^ mul 11 d) ^^^ mul 3 (mul 11 a ^^^ mul 13 b ^^^ mul 9 c ^^^ mul 14 d) = c := by
  simp only [mul_add]
  refine Eq.trans (b := (mul 1 (mul 14 a) ^^^ mul 1 (mul 9 a) ^^^ mul 2 (mul 13 a) ^^^ mul 3 (mul 11 a)) ^^^ (mul 1 (mul 11 b) ^^^ mul 1 (mul 14 b) ^^^ mul 2 (mul 9 b) ^^^ mul 3 (mul 13 b)) ^^^ (mul 1 (mul 13 c) ^^^ mul 1 (mul 11 c) ^^^ mul 2 (mul 14 c) ^^^ mul 3 (mul 9 c)) ^^^ (mul 1 (mul 9 d) ^^^ mul 1 (mul 13 d) ^^^ mul 2 (mul 11 d) ^^^ mul 3 (mul 14 d))) (by ac_rfl) ?_
  rw [cj20 a, cj21 b, cj22 c, cj23 d]
  simp
theorem cj3 (a b c d : UInt8) : mul 3 (mul 14 a ^^^ mul 11 b ^^^ mul 13 c ^^^ mul 9 d) ^^^ mul 1 (mul 9 a ^^^ mul 14 b ^^^ mul 11 c ^^^ mul 13 d) ^^^ mul 1 (mul 13 a ^^^ mul 9 b ^^^ mul 14 c ^^^ mul 11 d) ^^^ mul 2 (mul 11 a ^^^ mul 13 b ^^^ mul 9 c ^^^ mul 14 d) = d := by
  simp only [mul_add]
  refine Eq.trans (b := (mul 3 (mul 14 a) ^^^ mul 1 (mul 9 a) ^^^ mul 1 (mul 13 a) ^^^ mul 2 (mul 11 a)) ^^^ (mul 3 (mul 11 b) ^^^ mul 1 (mul 14 b) ^^^ mul 1 (mul 9 b) ^^^ mul 2 (mul 13 b)) ^^^ (mul 3 (mul 13 c) ^^^ mul 1 (mul 11 c) ^^^ mul 1 (mul 14 c) ^^^ mul 2 (mul 9 c)) ^^^ (mul 3 (mul 9 d) ^^^ mul 1 (mul 13 d) ^^^ mul 1 (mul 11 d) ^^^ mul 2 (mul 14 d))) (by ac_rfl) ?_
  rw [cj30 a, cj31 b, cj32 c, cj33 d]
  simp

theorem list16 {s : List UInt8} (h : s.length = 16) : ∃ s0 s1 s2 s3 s4 s5 s6 s7 s8 s9 s10 s11 s12 s13 s14 s15, s = [s0, s1, s2, s3, s4, s5, s6, s7, s8, s9, s10, s11, s12, s13, s14, s15] := by
  match s, h with
  | [s0, s1, s2, s3, s4, s5, s6, s7, s8, s9, s10, s11, s12, s13, s14, s15], _ => exact ⟨s0, s1, s2, s3, s4, s5, s6, s7, s8, s9, s10, s11, s12, s13, s14, s15, rfl⟩
theorem aesCol_16 (p0 p1 p2 p3 s0 s1 s2 s3 s4 s5 s6 s7 s8 s9 s10 s11 s12 s13 s14 s15 : UInt8) : aesCol [p0, p1, p2, p3] [s0, s1, s2, s3, s4, s5, s6, s7, s8, s9, s10, s11, s12, s13, s14, s15] = [mul p0 s0 ^^^ mul p3 s1 ^^^ mul p2 s2 ^^^ mul p1 s3, mul p1 s0 ^^^ mul p0 s1 ^^^ mul p3 s2 ^^^ mul p2 s3, mul p2 s0 ^^^ mul p1 s1 ^^^ mul p0 s2 ^^^ mul p3 s3, mul p3 s0 ^^^ mul p2 s1 ^^^ mul p1 s2 ^^^ mul p0 s3, mul p0 s4 ^^^ mul p3 s5 ^^^ mul p2 s6 ^^^ mul p1 s7, mul p1 s4 ^^^ mul p0 s5 ^^^ mul p3 s6 ^^^ mul p2 s7, mul p2 s4 ^^^ mul p1 s5 ^^^ mul p0 s6 ^^^ mul p3 s7, mul p3 s4 ^^^ mul p2 s5 ^^^ mul p1 s6 ^^^ mul p0 s7, mul p0 s8 ^^^ mul p3 s9 ^^^ mul p2 s10 ^^^ mul p1 s11, mul p1 s8 ^^^ mul p0 s9 ^^^ mul p3 s10 ^^^ mul p2 s11, mul p2 s8 ^^^ mul p1 s9 ^^^ mul p0 s10 ^^^ mul p3 s11, mul p3 s8 ^^^ mul p2 s9 ^^^ mul p1 s10 ^^^ mul p0 s11, mul p0 s12 ^^^ mul p3 s13 ^^^ mul p2 s14 ^^^ mul p1 s15, mul p1 s12 ^^^ mul p0 s13 ^^^ mul p3 s14 ^^^ mul p2 s15, mul p2 s12 ^^^ mul p1 s13 ^^^ mul p0 s14 ^^^ mul p3 s15, mul p3 s12 ^^^ mul p2 s13 ^^^ mul p1 s14 ^^^ mul p0 s15] := rfl
theorem aesCol_ci {s : List UInt8} (h : s.length = 16) : aesCol [14, 9, 13, 11] (aesCol [2, 1, 1, 3] s) = s := by
  obtain ⟨s0, s1, s2, s3, s4, s5, s6, s7, s8, s9, s10, s11, s12, s13, s14, s15, rfl⟩ := list16 h
  rw [aesCol_16, aesCol_16, ci0 s0 s1 s2 s3, ci1 s0 s1 s2 s3, ci2 s0 s1 s2 s3, ci3 s0 s1 s2 s3, ci0 s4 s5 s6 s7, ci1 s4 s5 s6 s7, ci2 s4 s5 s6 s7, ci3 s4 s5 s6 s7, ci0 s8 s9 s10 s11, ci1 s8 s9 s10 s11, ci2 s8 s9 s10 s11, ci3 s8 s9 s10 s11, ci0 s12 s13 s14 s15, ci1 s12 s13 s14 s15, ci2 s12 s13 s14 s15, ci3 s12 s13 s14 s15]
theorem aesCol_cj {s : List UInt8} (h : s.length = 16) : aesCol [2, 1, 1, 3] (aesCol [14, 9, 13, 11] s) = s := by
  obtain ⟨s0, s1, s2, s3, s4, s5, s6, s7, s8, s9, s10, s11, s12, s13, s14, s15, rfl⟩ := list16 h
  rw [aesCol_16, aesCol_16, cj0 s0 s1 s2 s3, cj1 s0 s1 s2 s3, cj2 s0 s1 s2 s3, cj3 s0 s1 s2 s3, cj0 s4 s5 s6 s7, cj1 s4 s5 s6 s7, cj2 s4 s5 s6 s7, cj3 s4 s5 s6 s7, cj0 s8 s9 s10 s11, cj1 s8 s9 s10 s11, cj2 s8 s9 s10 s11, cj3 s8 s9 s10 s11, cj0 s12 s13 s14 s15, cj1 s12 s13 s14 s15, cj2 s12 s13 s14 s15, cj3 s12 s13 s14 s15]
theorem aesRow_31 {s : List UInt8} (h : s.length = 16) : aesRow 3 (aesRow 1 s) = s := by
  obtain ⟨s0, s1, s2, s3, s4, s5, s6, s7, s8, s9, s10, s11, s12, s13, s14, s15, rfl⟩ := list16 h
  rfl
theorem aesRow_13 {s : List UInt8} (h : s.length = 16) : aesRow 1 (aesRow 3 s) = s := by
  obtain ⟨s0, s1, s2, s3, s4, s5, s6, s7, s8, s9, s10, s11, s12, s13, s14, s15, rfl⟩ := list16 h
  rfl
theorem aesRow_length (b : Nat) (s : List UInt8) : (aesRow b s).length = 16 := by simp [aesRow]
theorem aesCol_length (p s : List UInt8) : (aesCol p s).length = 16 := by simp [aesCol]
theorem xorL_len (a b : List UInt8) : (xorL a b).length = min a.length b.length := by simp [xorL]
theorem xorL_back : ∀ (a b : List UInt8), a.length = b.length → xorL (xorL a b) b = a
  | [], [], _ => rfl
  | x :: a, y :: b, h => by
    have ih := xorL_back a b (by simpa using h)
    unfold xorL at ih ⊢
    rw [List.zipWith_cons_cons, List.zipWith_cons_cons, ih, xor_assoc, xor_self, xor_zero]
  | [], _ :: _, h => by simp at h
  | _ :: _, [], h => by simp at h
theorem map_isbox (s : List UInt8) : (s.map sbox).map isbox = s := by
  rw [List.map_map]; exact (List.map_congr_left fun a _ => isbox_sbox a).trans (List.map_id s)
theorem map_sbox (s : List UInt8) : (s.map isbox).map sbox = s := by
  rw [List.map_map]; exact (List.map_congr_left fun a _ => sbox_isbox a).trans (List.map_id s)

section
variable {key : List UInt8} (hk : ∀ r, r < aesRounds key + 1 → (aesKey key r).length = 16)
include hk
theorem round_back {s : List UInt8} (hs : s.length = 16) {r : Nat} (hr : r < aesRounds key + 1) : aesRoundBack key r (aesRound key r s) = s ∧ (aesRound key r s).length = 16 := by
  have hkr := hk r hr
  have h1 : (s.map sbox).length = 16 := by rw [List.length_map, hs]
  have h2 := aesRow_length 1 (s.map sbox)
  unfold aesRoundBack aesRound
  simp only
  by_cases hlt : r < aesRounds key
  · rw [if_pos hlt, if_pos hlt, xorL_back _ _ (by rw [aesCol_length, hkr]), aesCol_ci h2, aesRow_31 h1, map_isbox]
    exact ⟨rfl, by rw [xorL_len, aesCol_length, hkr]; rfl⟩
  · rw [if_neg hlt, if_neg hlt, xorL_back _ _ (by rw [h2, hkr]), aesRow_31 h1, map_isbox]
    exact ⟨rfl, by rw [xorL_len, h2, hkr]; rfl⟩
theorem back_round {s : List UInt8} (hs : s.length = 16) {r : Nat} (hr : r < aesRounds key + 1) : aesRound key r (aesRoundBack key r s) = s ∧ (aesRoundBack key r s).length = 16 := by
  have hkr := hk r hr
  have h0 : (xorL s (aesKey key r)).length = 16 := by rw [xorL_len, hs, hkr]; rfl
  unfold aesRoundBack aesRound
  simp only
  by_cases hlt : r < aesRounds key
  · rw [if_pos hlt, if_pos hlt, map_sbox, aesRow_13 (aesCol_length _ _), aesCol_cj h0, xorL_back _ _ (by rw [hs, hkr])]
    exact ⟨rfl, by rw [List.length_map, aesRow_length]⟩
  · rw [if_neg hlt, if_neg hlt, map_sbox, aesRow_13 h0, xorL_back _ _ (by rw [hs, hkr])]
    exact ⟨rfl, by rw [List.length_map, aesRow_length]⟩
theorem upto_length16 {b : List UInt8} (hb : b.length = 16) : ∀ r, r < aesRounds key + 1 → (aesUpto key b r).length = 16
  | 0, h => by rw [aesUpto, xorL_len, hb, hk 0 h]; rfl
  | r + 1, h => (round_back hk (upto_length16 hb r (by omega)) h).2
theorem down_upto {b : List UInt8} (hb : b.length = 16) : ∀ r, r < aesRounds key + 1 → aesDown key r (aesUpto key b r) = b
  | 0, h => by rw [aesUpto, aesDown, xorL_back _ _ (by rw [hb, hk 0 h])]
  | r + 1, h => by
    rw [aesDown, aesUpto, (round_back hk (upto_length16 hk hb r (by omega)) h).1]
    exact down_upto hb r (by omega)
theorem upto_down : ∀ r, r < aesRounds key + 1 → ∀ (s : List UInt8), s.length = 16 → aesUpto key (aesDown key r s) r = s ∧ (aesDown key r s).length = 16
  | 0, h, s, hs => by
    rw [aesUpto, aesDown, xorL_back _ _ (by rw [hs, hk 0 h])]
    exact ⟨rfl, by rw [xorL_len, hs, hk 0 h]; rfl⟩
  | r + 1, h, s, hs => by
    have h1 := back_round hk hs h
    have ih := upto_down r (by omega) _ h1.2
    rw [aesDown, aesUpto, ih.1]
    exact ⟨h1.1, ih.2⟩
theorem dec_enc {b : List UInt8} (hb : b.length = 16) : aesDec key (aesEnc key b) = b := down_upto hk hb _ (by omega)
theorem enc_dec {b : List UInt8} (hb : b.length = 16) : aesEnc key (aesDec key b) = b := (upto_down hk _ (by omega) b hb).1
theorem enc_length {b : List UInt8} (hb : b.length = 16) : (aesEnc key b).length = 16 := upto_length16 hk hb _ (by omega)
theorem dec_length {b : List UInt8} (hb : b.length = 16) : (aesDec key b).length = 16 := (upto_down hk _ (by omega) b hb).2
end
end Lg
