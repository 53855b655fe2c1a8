/-
Keys and blocks of other lengths are refused (the statement CipherForms): the walk. No condition.
-/
import Derived.Test.YtncdecpehlkckaaLwC
namespace Lg
open Go Go.RowKit Go.Proofs

theorem zero16_sl (w : World) (Z : Array Value) (h : (List.replicate 16 (vb 0)).toArray = Z) : Sl (w.alloc (.cells Z 5)) (some ⟨w.heap.size, 0, none⟩) 16 16 ((List.replicate 16 (0 : UInt8)).map vb) := by
  subst h
  have hb := Blk.new w 5 (List.replicate 16 (vb 0)).toArray
  have h := (Blk.own hb (Nat.le_refl _) (by decide)).sl
  simpa using h

set_option maxRecDepth 10000 in
set_option maxHeartbeats 1000000 in
theorem forms_big0 (A0 A1 : Option Addr) (m0 m1 c0 c1 : Nat) (k b : List UInt8) (w : World) (h0 : Sl w A0 m0 c0 (k.map vb)) (h1 : Sl w A1 m1 c1 (b.map vb)) (hb : 100 < m0) :
    Calls Try.prog 5 #[.slice A0 m0 c0, .slice A1 m1 c1] w fun e w' => e = .returned (.bool true) ∧ Below w.heap.size w w' := by
  have H0 := Lib.hid h0
  have H1 := Lib.hid h1
  clear h0 h1
  have b0 : decide (100 < (m0 : Int)) = true := by simp; omega
  obtain ⟨Z16, hZ16⟩ : ∃ Z, (List.replicate 16 (vb 0)).toArray = Z := ⟨_, rfl⟩
  have m16 : ∀ w : World, (Instr.makeSlice 22 (.int .i64 16) (.int .i64 16)).run Try.prog w = .ok (.slice (some ⟨w.heap.size, 0, none⟩) 16 16) (w.alloc (.cells Z16 5)) := by rw [← hZ16]; exact makeB 16 (by omega)
  have HZ := Lib.hid hZ16
  clear hZ16
  go_enter Try.func5, Try.ntmps5
  go_wp2_with (first
    | (go_at_call 15; with_reducible refine (lawLives05_any w).mono ?_; rintro e w1 ⟨rfl, hB1⟩)
    | (go_at_call 15; with_reducible refine (lawLives05_any w1).mono ?_; rintro e w2 ⟨rfl, hB2⟩))
  go_ret
  exact ⟨rfl, below_then hB1 hB2 hB1.size⟩

set_option maxRecDepth 10000 in
set_option maxHeartbeats 1000000 in
theorem forms_big1 (A0 A1 : Option Addr) (m0 m1 c0 c1 : Nat) (k b : List UInt8) (w : World) (h0 : Sl w A0 m0 c0 (k.map vb)) (h1 : Sl w A1 m1 c1 (b.map vb)) (ha : m0 ≤ 100) (hb : 100 < m1) :
    Calls Try.prog 5 #[.slice A0 m0 c0, .slice A1 m1 c1] w fun e w' => e = .returned (.bool true) ∧ Below w.heap.size w w' := by
  have H0 := Lib.hid h0
  have H1 := Lib.hid h1
  clear h0 h1
  have b0 : decide (100 < (m0 : Int)) = false := by simp; omega
  have b1 : decide (100 < (m1 : Int)) = true := by simp; omega
  obtain ⟨Z16, hZ16⟩ : ∃ Z, (List.replicate 16 (vb 0)).toArray = Z := ⟨_, rfl⟩
  have m16 : ∀ w : World, (Instr.makeSlice 22 (.int .i64 16) (.int .i64 16)).run Try.prog w = .ok (.slice (some ⟨w.heap.size, 0, none⟩) 16 16) (w.alloc (.cells Z16 5)) := by rw [← hZ16]; exact makeB 16 (by omega)
  have HZ := Lib.hid hZ16
  clear hZ16
  go_enter Try.func5, Try.ntmps5
  go_wp2_with (first
    | (go_at_call 15; with_reducible refine (lawLives05_any w).mono ?_; rintro e w1 ⟨rfl, hB1⟩)
    | (go_at_call 15; with_reducible refine (lawLives05_any w1).mono ?_; rintro e w2 ⟨rfl, hB2⟩))
  go_ret
  exact ⟨rfl, below_then hB1 hB2 hB1.size⟩

set_option maxRecDepth 10000 in
set_option maxHeartbeats 1000000 in
theorem forms_ay (A0 A1 : Option Addr) (c0 c1 : Nat) (k b : List UInt8) (w : World) (h0 : Sl w A0 16 c0 (k.map vb)) (h1 : Sl w A1 16 c1 (b.map vb)) :
    Calls Try.prog 5 #[.slice A0 16 c0, .slice A1 16 c1] w fun e w' => e = .returned (.bool true) ∧ Below w.heap.size w w' := by
  have H0 := Lib.hid h0
  have H1 := Lib.hid h1
  clear h0 h1
  obtain ⟨Z16, hZ16⟩ : ∃ Z, (List.replicate 16 (vb 0)).toArray = Z := ⟨_, rfl⟩
  have m16 : ∀ w : World, (Instr.makeSlice 22 (.int .i64 16) (.int .i64 16)).run Try.prog w = .ok (.slice (some ⟨w.heap.size, 0, none⟩) 16 16) (w.alloc (.cells Z16 5)) := by rw [← hZ16]; exact makeB 16 (by omega)
  have HZ := Lib.hid hZ16
  clear hZ16
  go_enter Try.func5, Try.ntmps5
  go_wp2_with (first
    | (go_at_call 15; refine (lawLives05_any w).mono ?_; rintro e w1 ⟨rfl, hB1⟩)
    | (go_at_call 18; refine (fieldNew_any w1).mono ?_; rintro e w2 ⟨f, rfl, hf1, hf2, hf3⟩; have hB2 := below_then hB1 hf3 hB1.size)
    | (go_at_call_has 17 c0; refine (New16 f A0 c0 k w2 hf2 (H0.out.below hB2)).mono ?_; rintro e w3 ⟨g3, rfl, hg3, hk3, hd3⟩; have hB3 := below_then hB2 hd3 hB2.size; have hF4 := (hf2.keep hd3).alloc (.cells Z16 5); have hB4 := hB3.alloc hB3.size (.cells Z16 5))
    | (go_at_call_has 17 w3; refine (New16 f _ 16 _ _ hF4 (zero16_sl w3 Z16 HZ.out)).mono ?_; rintro e w5 ⟨g, rfl, hg5, hk5, hd5⟩; have hB5 := below_then hB4 hd5 hB4.size)
    | (go_at_call_has 19 c1; refine (Encrypt_any g _ 4 (by omega) (by simp) A1 c1 b w5 hk5 (H1.out.below hB5)).mono ?_; rintro e w6 ⟨A6, c6, rfl, ho6, hd6⟩; have hB6 := below_then hB5 hd6 hB5.size)
    | (go_at_call_has 20 c1; refine (Decrypt_any g _ 4 (by omega) (by simp) A1 c1 b w6 (hk5.keep hd6) (H1.out.below hB6)).mono ?_; rintro e w7 ⟨A7, c7, rfl, ho7, hd7⟩; have hB7 := below_then hB6 hd7 hB6.size)
    | (go_at_call 19; refine (Encrypt_nil _ _ _ (w7.alloc (.cells Z16 5))).mono ?_; rintro e w8 ⟨rfl, hd8⟩; have hB8 := below_then (hB7.alloc hB7.size (.cells Z16 5)) hd8 (hB7.alloc hB7.size (.cells Z16 5)).size)
    | (go_at_call 20; refine (Decrypt_nil _ _ _ (w8.alloc (.cells Z16 5))).mono ?_; rintro e w9 ⟨rfl, hd9⟩; have hB9 := below_then (hB8.alloc hB8.size (.cells Z16 5)) hd9 (hB8.alloc hB8.size (.cells Z16 5)).size)
    | (go_at_call 17; refine (New_nil _ _ _ (w9.alloc (.cells Z16 5))).mono ?_; rintro e w10 ⟨rfl, hd10⟩; have hB10 := below_then (hB9.alloc hB9.size (.cells Z16 5)) hd10 (hB9.alloc hB9.size (.cells Z16 5)).size)
    | (go_at_call 22; refine (Rounds_nil w10).mono ?_; rintro e w11 ⟨rfl, rfl⟩))
  go_ret
  exact ⟨rfl, hB10⟩

set_option maxRecDepth 10000 in
set_option maxHeartbeats 1000000 in
theorem forms_an (A0 A1 : Option Addr) (m1 c0 c1 : Nat) (k b : List UInt8) (w : World) (h0 : Sl w A0 16 c0 (k.map vb)) (h1 : Sl w A1 m1 c1 (b.map vb)) (hm0 : m1 ≤ 100) (hm16 : m1 ≠ 16) :
    Calls Try.prog 5 #[.slice A0 16 c0, .slice A1 m1 c1] w fun e w' => e = .returned (.bool true) ∧ Below w.heap.size w w' := by
  have H0 := Lib.hid h0
  have H1 := Lib.hid h1
  clear h0 h1
  have b0 : decide (100 < (m1 : Int)) = false := by simp; omega
  have b1 : ((m1 : Int) == 16) = false := by simp; omega
  obtain ⟨Z16, hZ16⟩ : ∃ Z, (List.replicate 16 (vb 0)).toArray = Z := ⟨_, rfl⟩
  have m16 : ∀ w : World, (Instr.makeSlice 22 (.int .i64 16) (.int .i64 16)).run Try.prog w = .ok (.slice (some ⟨w.heap.size, 0, none⟩) 16 16) (w.alloc (.cells Z16 5)) := by rw [← hZ16]; exact makeB 16 (by omega)
  have HZ := Lib.hid hZ16
  clear hZ16
  go_enter Try.func5, Try.ntmps5
  go_wp2_with (first
    | (go_at_call 15; refine (lawLives05_any w).mono ?_; rintro e w1 ⟨rfl, hB1⟩)
    | (go_at_call 18; refine (fieldNew_any w1).mono ?_; rintro e w2 ⟨f, rfl, hf1, hf2, hf3⟩; have hB2 := below_then hB1 hf3 hB1.size)
    | (go_at_call_has 17 c0; refine (New16 f A0 c0 k w2 hf2 (H0.out.below hB2)).mono ?_; rintro e w3 ⟨g3, rfl, hg3, hk3, hd3⟩; have hB3 := below_then hB2 hd3 hB2.size; have hF4 := (hf2.keep hd3).alloc (.cells Z16 5); have hB4 := hB3.alloc hB3.size (.cells Z16 5))
    | (go_at_call_has 17 w3; refine (New16 f _ 16 _ _ hF4 (zero16_sl w3 Z16 HZ.out)).mono ?_; rintro e w5 ⟨g, rfl, hg5, hk5, hd5⟩; have hB5 := below_then hB4 hd5 hB4.size)
    | (go_at_call_has 19 c1; refine (Encrypt_form g A1 m1 c1 w5 hm16).mono ?_; rintro e w6 ⟨rfl, hd6⟩; have hB6 := below_then hB5 hd6 hB5.size)
    | (go_at_call_has 20 c1; refine (Decrypt_form g A1 m1 c1 w6 hm16).mono ?_; rintro e w7 ⟨rfl, hd7⟩; have hB7 := below_then hB6 hd7 hB6.size)
    | (go_at_call 19; refine (Encrypt_nil _ _ _ (w7.alloc (.cells Z16 5))).mono ?_; rintro e w8 ⟨rfl, hd8⟩; have hB8 := below_then (hB7.alloc hB7.size (.cells Z16 5)) hd8 (hB7.alloc hB7.size (.cells Z16 5)).size)
    | (go_at_call 20; refine (Decrypt_nil _ _ _ (w8.alloc (.cells Z16 5))).mono ?_; rintro e w9 ⟨rfl, hd9⟩; have hB9 := below_then (hB8.alloc hB8.size (.cells Z16 5)) hd9 (hB8.alloc hB8.size (.cells Z16 5)).size)
    | (go_at_call 17; refine (New_nil _ _ _ (w9.alloc (.cells Z16 5))).mono ?_; rintro e w10 ⟨rfl, hd10⟩; have hB10 := below_then (hB9.alloc hB9.size (.cells Z16 5)) hd10 (hB9.alloc hB9.size (.cells Z16 5)).size)
    | (go_at_call 22; refine (Rounds_nil w10).mono ?_; rintro e w11 ⟨rfl, rfl⟩))
  go_ret
  exact ⟨rfl, hB10⟩

set_option maxRecDepth 10000 in
set_option maxHeartbeats 1000000 in
theorem forms_by (A0 A1 : Option Addr) (c0 c1 : Nat) (k b : List UInt8) (w : World) (h0 : Sl w A0 32 c0 (k.map vb)) (h1 : Sl w A1 16 c1 (b.map vb)) :
    Calls Try.prog 5 #[.slice A0 32 c0, .slice A1 16 c1] w fun e w' => e = .returned (.bool true) ∧ Below w.heap.size w w' := by
  have H0 := Lib.hid h0
  have H1 := Lib.hid h1
  clear h0 h1
  obtain ⟨Z16, hZ16⟩ : ∃ Z, (List.replicate 16 (vb 0)).toArray = Z := ⟨_, rfl⟩
  have m16 : ∀ w : World, (Instr.makeSlice 22 (.int .i64 16) (.int .i64 16)).run Try.prog w = .ok (.slice (some ⟨w.heap.size, 0, none⟩) 16 16) (w.alloc (.cells Z16 5)) := by rw [← hZ16]; exact makeB 16 (by omega)
  have HZ := Lib.hid hZ16
  clear hZ16
  go_enter Try.func5, Try.ntmps5
  go_wp2_with (first
    | (go_at_call 15; refine (lawLives05_any w).mono ?_; rintro e w1 ⟨rfl, hB1⟩)
    | (go_at_call 18; refine (fieldNew_any w1).mono ?_; rintro e w2 ⟨f, rfl, hf1, hf2, hf3⟩; have hB2 := below_then hB1 hf3 hB1.size)
    | (go_at_call_has 17 c0; refine (New32 f A0 c0 k w2 hf2 (H0.out.below hB2)).mono ?_; rintro e w3 ⟨g3, rfl, hg3, hk3, hd3⟩; have hB3 := below_then hB2 hd3 hB2.size; have hF4 := (hf2.keep hd3).alloc (.cells Z16 5); have hB4 := hB3.alloc hB3.size (.cells Z16 5))
    | (go_at_call_has 17 w3; refine (New16 f _ 16 _ _ hF4 (zero16_sl w3 Z16 HZ.out)).mono ?_; rintro e w5 ⟨g, rfl, hg5, hk5, hd5⟩; have hB5 := below_then hB4 hd5 hB4.size)
    | (go_at_call_has 19 c1; refine (Encrypt_any g _ 4 (by omega) (by simp) A1 c1 b w5 hk5 (H1.out.below hB5)).mono ?_; rintro e w6 ⟨A6, c6, rfl, ho6, hd6⟩; have hB6 := below_then hB5 hd6 hB5.size)
    | (go_at_call_has 20 c1; refine (Decrypt_any g _ 4 (by omega) (by simp) A1 c1 b w6 (hk5.keep hd6) (H1.out.below hB6)).mono ?_; rintro e w7 ⟨A7, c7, rfl, ho7, hd7⟩; have hB7 := below_then hB6 hd7 hB6.size)
    | (go_at_call 19; refine (Encrypt_nil _ _ _ (w7.alloc (.cells Z16 5))).mono ?_; rintro e w8 ⟨rfl, hd8⟩; have hB8 := below_then (hB7.alloc hB7.size (.cells Z16 5)) hd8 (hB7.alloc hB7.size (.cells Z16 5)).size)
    | (go_at_call 20; refine (Decrypt_nil _ _ _ (w8.alloc (.cells Z16 5))).mono ?_; rintro e w9 ⟨rfl, hd9⟩; have hB9 := below_then (hB8.alloc hB8.size (.cells Z16 5)) hd9 (hB8.alloc hB8.size (.cells Z16 5)).size)
    | (go_at_call 17; refine (New_nil _ _ _ (w9.alloc (.cells Z16 5))).mono ?_; rintro e w10 ⟨rfl, hd10⟩; have hB10 := below_then (hB9.alloc hB9.size (.cells Z16 5)) hd10 (hB9.alloc hB9.size (.cells Z16 5)).size)
    | (go_at_call 22; refine (Rounds_nil w10).mono ?_; rintro e w11 ⟨rfl, rfl⟩))
  go_ret
  exact ⟨rfl, hB10⟩

set_option maxRecDepth 10000 in
set_option maxHeartbeats 1000000 in
theorem forms_bn (A0 A1 : Option Addr) (m1 c0 c1 : Nat) (k b : List UInt8) (w : World) (h0 : Sl w A0 32 c0 (k.map vb)) (h1 : Sl w A1 m1 c1 (b.map vb)) (hm0 : m1 ≤ 100) (hm16 : m1 ≠ 16) :
    Calls Try.prog 5 #[.slice A0 32 c0, .slice A1 m1 c1] w fun e w' => e = .returned (.bool true) ∧ Below w.heap.size w w' := by
  have H0 := Lib.hid h0
  have H1 := Lib.hid h1
  clear h0 h1
  have b0 : decide (100 < (m1 : Int)) = false := by simp; omega
  have b1 : ((m1 : Int) == 16) = false := by simp; omega
  obtain ⟨Z16, hZ16⟩ : ∃ Z, (List.replicate 16 (vb 0)).toArray = Z := ⟨_, rfl⟩
  have m16 : ∀ w : World, (Instr.makeSlice 22 (.int .i64 16) (.int .i64 16)).run Try.prog w = .ok (.slice (some ⟨w.heap.size, 0, none⟩) 16 16) (w.alloc (.cells Z16 5)) := by rw [← hZ16]; exact makeB 16 (by omega)
  have HZ := Lib.hid hZ16
  clear hZ16
  go_enter Try.func5, Try.ntmps5
  go_wp2_with (first
    | (go_at_call 15; refine (lawLives05_any w).mono ?_; rintro e w1 ⟨rfl, hB1⟩)
    | (go_at_call 18; refine (fieldNew_any w1).mono ?_; rintro e w2 ⟨f, rfl, hf1, hf2, hf3⟩; have hB2 := below_then hB1 hf3 hB1.size)
    | (go_at_call_has 17 c0; refine (New32 f A0 c0 k w2 hf2 (H0.out.below hB2)).mono ?_; rintro e w3 ⟨g3, rfl, hg3, hk3, hd3⟩; have hB3 := below_then hB2 hd3 hB2.size; have hF4 := (hf2.keep hd3).alloc (.cells Z16 5); have hB4 := hB3.alloc hB3.size (.cells Z16 5))
    | (go_at_call_has 17 w3; refine (New16 f _ 16 _ _ hF4 (zero16_sl w3 Z16 HZ.out)).mono ?_; rintro e w5 ⟨g, rfl, hg5, hk5, hd5⟩; have hB5 := below_then hB4 hd5 hB4.size)
    | (go_at_call_has 19 c1; refine (Encrypt_form g A1 m1 c1 w5 hm16).mono ?_; rintro e w6 ⟨rfl, hd6⟩; have hB6 := below_then hB5 hd6 hB5.size)
    | (go_at_call_has 20 c1; refine (Decrypt_form g A1 m1 c1 w6 hm16).mono ?_; rintro e w7 ⟨rfl, hd7⟩; have hB7 := below_then hB6 hd7 hB6.size)
    | (go_at_call 19; refine (Encrypt_nil _ _ _ (w7.alloc (.cells Z16 5))).mono ?_; rintro e w8 ⟨rfl, hd8⟩; have hB8 := below_then (hB7.alloc hB7.size (.cells Z16 5)) hd8 (hB7.alloc hB7.size (.cells Z16 5)).size)
    | (go_at_call 20; refine (Decrypt_nil _ _ _ (w8.alloc (.cells Z16 5))).mono ?_; rintro e w9 ⟨rfl, hd9⟩; have hB9 := below_then (hB8.alloc hB8.size (.cells Z16 5)) hd9 (hB8.alloc hB8.size (.cells Z16 5)).size)
    | (go_at_call 17; refine (New_nil _ _ _ (w9.alloc (.cells Z16 5))).mono ?_; rintro e w10 ⟨rfl, hd10⟩; have hB10 := below_then (hB9.alloc hB9.size (.cells Z16 5)) hd10 (hB9.alloc hB9.size (.cells Z16 5)).size)
    | (go_at_call 22; refine (Rounds_nil w10).mono ?_; rintro e w11 ⟨rfl, rfl⟩))
  go_ret
  exact ⟨rfl, hB10⟩

set_option maxRecDepth 10000 in
set_option maxHeartbeats 1000000 in
theorem forms_cy (A0 A1 : Option Addr) (m0 c0 c1 : Nat) (k b : List UInt8) (w : World) (h0 : Sl w A0 m0 c0 (k.map vb)) (h1 : Sl w A1 16 c1 (b.map vb)) (hn0 : m0 ≤ 100) (hn16 : m0 ≠ 16) (hn32 : m0 ≠ 32) :
    Calls Try.prog 5 #[.slice A0 m0 c0, .slice A1 16 c1] w fun e w' => e = .returned (.bool true) ∧ Below w.heap.size w w' := by
  have H0 := Lib.hid h0
  have H1 := Lib.hid h1
  clear h0 h1
  have a0 : decide (100 < (m0 : Int)) = false := by simp; omega
  have a1 : ((m0 : Int) == 16) = false := by simp; omega
  have a2 : ((m0 : Int) == 32) = false := by simp; omega
  obtain ⟨Z16, hZ16⟩ : ∃ Z, (List.replicate 16 (vb 0)).toArray = Z := ⟨_, rfl⟩
  have m16 : ∀ w : World, (Instr.makeSlice 22 (.int .i64 16) (.int .i64 16)).run Try.prog w = .ok (.slice (some ⟨w.heap.size, 0, none⟩) 16 16) (w.alloc (.cells Z16 5)) := by rw [← hZ16]; exact makeB 16 (by omega)
  have HZ := Lib.hid hZ16
  clear hZ16
  go_enter Try.func5, Try.ntmps5
  go_wp2_with (first
    | (go_at_call 15; refine (lawLives05_any w).mono ?_; rintro e w1 ⟨rfl, hB1⟩)
    | (go_at_call 18; refine (fieldNew_any w1).mono ?_; rintro e w2 ⟨f, rfl, hf1, hf2, hf3⟩; have hB2 := below_then hB1 hf3 hB1.size)
    | (go_at_call_has 17 c0; refine (New_form f A0 m0 c0 w2 hn16 hn32).mono ?_; rintro e w3 ⟨rfl, hd3⟩; have hB3 := below_then hB2 hd3 hB2.size; have hF4 := (hf2.keep hd3).alloc (.cells Z16 5); have hB4 := hB3.alloc hB3.size (.cells Z16 5))
    | (go_at_call_has 17 w3; refine (New16 f _ 16 _ _ hF4 (zero16_sl w3 Z16 HZ.out)).mono ?_; rintro e w5 ⟨g, rfl, hg5, hk5, hd5⟩; have hB5 := below_then hB4 hd5 hB4.size)
    | (go_at_call_has 19 c1; refine (Encrypt_any g _ 4 (by omega) (by simp) A1 c1 b w5 hk5 (H1.out.below hB5)).mono ?_; rintro e w6 ⟨A6, c6, rfl, ho6, hd6⟩; have hB6 := below_then hB5 hd6 hB5.size)
    | (go_at_call_has 20 c1; refine (Decrypt_any g _ 4 (by omega) (by simp) A1 c1 b w6 (hk5.keep hd6) (H1.out.below hB6)).mono ?_; rintro e w7 ⟨A7, c7, rfl, ho7, hd7⟩; have hB7 := below_then hB6 hd7 hB6.size)
    | (go_at_call 19; refine (Encrypt_nil _ _ _ (w7.alloc (.cells Z16 5))).mono ?_; rintro e w8 ⟨rfl, hd8⟩; have hB8 := below_then (hB7.alloc hB7.size (.cells Z16 5)) hd8 (hB7.alloc hB7.size (.cells Z16 5)).size)
    | (go_at_call 20; refine (Decrypt_nil _ _ _ (w8.alloc (.cells Z16 5))).mono ?_; rintro e w9 ⟨rfl, hd9⟩; have hB9 := below_then (hB8.alloc hB8.size (.cells Z16 5)) hd9 (hB8.alloc hB8.size (.cells Z16 5)).size)
    | (go_at_call 17; refine (New_nil _ _ _ (w9.alloc (.cells Z16 5))).mono ?_; rintro e w10 ⟨rfl, hd10⟩; have hB10 := below_then (hB9.alloc hB9.size (.cells Z16 5)) hd10 (hB9.alloc hB9.size (.cells Z16 5)).size)
    | (go_at_call 22; refine (Rounds_nil w10).mono ?_; rintro e w11 ⟨rfl, rfl⟩))
  go_ret
  exact ⟨rfl, hB10⟩

set_option maxRecDepth 10000 in
set_option maxHeartbeats 1000000 in
theorem forms_cn (A0 A1 : Option Addr) (m0 m1 c0 c1 : Nat) (k b : List UInt8) (w : World) (h0 : Sl w A0 m0 c0 (k.map vb)) (h1 : Sl w A1 m1 c1 (b.map vb)) (hn0 : m0 ≤ 100) (hn16 : m0 ≠ 16) (hn32 : m0 ≠ 32) (hm0 : m1 ≤ 100) (hm16 : m1 ≠ 16) :
    Calls Try.prog 5 #[.slice A0 m0 c0, .slice A1 m1 c1] w fun e w' => e = .returned (.bool true) ∧ Below w.heap.size w w' := by
  have H0 := Lib.hid h0
  have H1 := Lib.hid h1
  clear h0 h1
  have a0 : decide (100 < (m0 : Int)) = false := by simp; omega
  have a1 : ((m0 : Int) == 16) = false := by simp; omega
  have a2 : ((m0 : Int) == 32) = false := by simp; omega
  have b0 : decide (100 < (m1 : Int)) = false := by simp; omega
  have b1 : ((m1 : Int) == 16) = false := by simp; omega
  obtain ⟨Z16, hZ16⟩ : ∃ Z, (List.replicate 16 (vb 0)).toArray = Z := ⟨_, rfl⟩
  have m16 : ∀ w : World, (Instr.makeSlice 22 (.int .i64 16) (.int .i64 16)).run Try.prog w = .ok (.slice (some ⟨w.heap.size, 0, none⟩) 16 16) (w.alloc (.cells Z16 5)) := by rw [← hZ16]; exact makeB 16 (by omega)
  have HZ := Lib.hid hZ16
  clear hZ16
  go_enter Try.func5, Try.ntmps5
  go_wp2_with (first
    | (go_at_call 15; refine (lawLives05_any w).mono ?_; rintro e w1 ⟨rfl, hB1⟩)
    | (go_at_call 18; refine (fieldNew_any w1).mono ?_; rintro e w2 ⟨f, rfl, hf1, hf2, hf3⟩; have hB2 := below_then hB1 hf3 hB1.size)
    | (go_at_call_has 17 c0; refine (New_form f A0 m0 c0 w2 hn16 hn32).mono ?_; rintro e w3 ⟨rfl, hd3⟩; have hB3 := below_then hB2 hd3 hB2.size; have hF4 := (hf2.keep hd3).alloc (.cells Z16 5); have hB4 := hB3.alloc hB3.size (.cells Z16 5))
    | (go_at_call_has 17 w3; refine (New16 f _ 16 _ _ hF4 (zero16_sl w3 Z16 HZ.out)).mono ?_; rintro e w5 ⟨g, rfl, hg5, hk5, hd5⟩; have hB5 := below_then hB4 hd5 hB4.size)
    | (go_at_call_has 19 c1; refine (Encrypt_form g A1 m1 c1 w5 hm16).mono ?_; rintro e w6 ⟨rfl, hd6⟩; have hB6 := below_then hB5 hd6 hB5.size)
    | (go_at_call_has 20 c1; refine (Decrypt_form g A1 m1 c1 w6 hm16).mono ?_; rintro e w7 ⟨rfl, hd7⟩; have hB7 := below_then hB6 hd7 hB6.size)
    | (go_at_call 19; refine (Encrypt_nil _ _ _ (w7.alloc (.cells Z16 5))).mono ?_; rintro e w8 ⟨rfl, hd8⟩; have hB8 := below_then (hB7.alloc hB7.size (.cells Z16 5)) hd8 (hB7.alloc hB7.size (.cells Z16 5)).size)
    | (go_at_call 20; refine (Decrypt_nil _ _ _ (w8.alloc (.cells Z16 5))).mono ?_; rintro e w9 ⟨rfl, hd9⟩; have hB9 := below_then (hB8.alloc hB8.size (.cells Z16 5)) hd9 (hB8.alloc hB8.size (.cells Z16 5)).size)
    | (go_at_call 17; refine (New_nil _ _ _ (w9.alloc (.cells Z16 5))).mono ?_; rintro e w10 ⟨rfl, hd10⟩; have hB10 := below_then (hB9.alloc hB9.size (.cells Z16 5)) hd10 (hB9.alloc hB9.size (.cells Z16 5)).size)
    | (go_at_call 22; refine (Rounds_nil w10).mono ?_; rintro e w11 ⟨rfl, rfl⟩))
  go_ret
  exact ⟨rfl, hB10⟩

theorem cipherForms_any (A0 A1 : Option Addr) (m0 c0 m1 c1 : Nat) (k b : List UInt8) (w : World) (h0 : Sl w A0 m0 c0 (k.map vb)) (h1 : Sl w A1 m1 c1 (b.map vb)) :
    Calls Try.prog 5 #[.slice A0 m0 c0, .slice A1 m1 c1] w fun e w' => e = .returned (.bool true) ∧ Below w.heap.size w w' := by
  by_cases hb0 : 100 < m0
  · exact forms_big0 A0 A1 m0 m1 c0 c1 k b w h0 h1 hb0
  by_cases hb1 : 100 < m1
  · exact forms_big1 A0 A1 m0 m1 c0 c1 k b w h0 h1 (by omega) hb1
  by_cases e1 : m1 = 16
  · subst e1
    by_cases e16 : m0 = 16
    · subst e16; exact forms_ay A0 A1 c0 c1 k b w h0 h1
    by_cases e32 : m0 = 32
    · subst e32; exact forms_by A0 A1 c0 c1 k b w h0 h1
    exact forms_cy A0 A1 m0 c0 c1 k b w h0 h1 (by omega) e16 e32
  · by_cases e16 : m0 = 16
    · subst e16; exact forms_an A0 A1 m1 c0 c1 k b w h0 h1 (by omega) e1
    by_cases e32 : m0 = 32
    · subst e32; exact forms_bn A0 A1 m1 c0 c1 k b w h0 h1 (by omega) e1
    exact forms_cn A0 A1 m0 m1 c0 c1 k b w h0 h1 (by omega) e16 e32 (by omega) e1
end Lg
