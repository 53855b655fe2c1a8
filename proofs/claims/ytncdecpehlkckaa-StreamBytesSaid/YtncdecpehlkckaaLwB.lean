/-
What is decrypted is encrypted to what it was (the statement CipherBack): the walk. No condition.
-/
import Derived.Test.YtncdecpehlkckaaLwA
import Derived.Sort.AtCall
namespace Lg
open Go Go.RowKit Go.Proofs

theorem New_any (n f : Nat) (hn : n = 16 ∨ n = 32) (A : Option Addr) (c : Nat) (l : List UInt8) (w : World) (hF : Fl w f) (hs : Sl w A n c (l.map vb)) :
    Calls Try.prog 17 #[.pointer (some ⟨f, 0, none⟩), .slice A n c] w fun e w' => ∃ g, e = .returned (.tuple #[.pointer (some ⟨g, 0, none⟩), vi 0]) ∧ w.heap.size ≤ g ∧ CipOk w' g l ∧ Below w.heap.size w w' := by
  rcases hn with rfl | rfl
  · exact New16 f A c l w hF hs
  · exact New32 f A c l w hF hs

theorem lawKeyN (n : Nat) (A : Option Addr) (m c : Nat) (l : List UInt8) (long : Bool) (hn : (if long then 32 else 16) = n) (w : World) (hs : Sl w A m c (l.map vb)) :
    Calls Try.prog 16 #[.slice A m c, .bool long] w fun e w' => e = .returned (.slice (some ⟨w.heap.size, 0, none⟩) n n) ∧
      Sl w' (some ⟨w.heap.size, 0, none⟩) n n ((padTo n l).map vb) ∧ Blk w' w.heap.size 5 ((padTo n l).map vb) ∧ Below w.heap.size w w' :=
  (lawKey_any A m c l long w hs).mono fun e w' ⟨he, hb, hw⟩ => by
    subst hn
    have h := (Blk.own hb (Nat.le_refl _) (by rw [List.length_map, padTo_length]; cases long <;> simp [maxLen])).sl
    rw [List.length_map, padTo_length] at h
    exact ⟨he, h, hb, hw⟩
theorem lawKey16 (A : Option Addr) (m c : Nat) (l : List UInt8) (w : World) (hs : Sl w A m c (l.map vb)) :
    Calls Try.prog 16 #[.slice A m c, .bool false] w fun e w' => e = .returned (.slice (some ⟨w.heap.size, 0, none⟩) 16 16) ∧
      Sl w' (some ⟨w.heap.size, 0, none⟩) 16 16 ((padTo 16 l).map vb) ∧ Blk w' w.heap.size 5 ((padTo 16 l).map vb) ∧ Below w.heap.size w w' := lawKeyN 16 A m c l false rfl w hs

set_option maxRecDepth 10000 in
set_option maxHeartbeats 1000000 in
theorem cipherBack_any (A0 A2 A3 : Option Addr) (m0 c0 m2 c2 m3 c3 : Nat) (long : Bool) (k a b : List UInt8) (w : World) (h0 : Sl w A0 m0 c0 (k.map vb)) (h2 : Sl w A2 m2 c2 (a.map vb)) (h3 : Sl w A3 m3 c3 (b.map vb)) :
    Calls Try.prog 4 #[.slice A0 m0 c0, .bool long, .slice A2 m2 c2, .slice A3 m3 c3] w fun e w' => e = .returned (.bool true) ∧ Below w.heap.size w w' := by
  obtain ⟨n, hn⟩ : ∃ n, (if long then 32 else 16) = n := ⟨_, rfl⟩
  have hn' : n = 16 ∨ n = 32 := by subst hn; cases long <;> simp
  have H0 := Lib.hid h0
  have H2 := Lib.hid h2
  have H3 := Lib.hid h3
  obtain ⟨ky, hky⟩ : ∃ ky, padTo n k = ky := ⟨_, rfl⟩
  obtain ⟨x, hx⟩ : ∃ x, padTo 16 a = x := ⟨_, rfl⟩
  obtain ⟨y, hy⟩ : ∃ y, padTo 16 b = y := ⟨_, rfl⟩
  have hkl : ky.length = 4 * (n / 4) := by rw [← hky, padTo_length]; omega
  have hn4 : 0 < n / 4 ∧ n / 4 ≤ 8 := by omega
  have hxl : x.length = 16 := by rw [← hx, padTo_length]
  have hyl : y.length = 16 := by rw [← hy, padTo_length]
  have hk16 := aesWords_any ky (n / 4) hn4.1 hkl
  have q1 : aesEnc ky (aesDec ky x) = x := enc_dec hk16 hxl
  have q2 : (aesEnc ky x = aesEnc ky y) ↔ x = y := ⟨fun h => by rw [← dec_enc hk16 hxl, h, dec_enc hk16 hyl], fun h => by rw [h]⟩
  have Q1 := Lib.hid q1
  have Q2 := Lib.hid q2
  have HX := Lib.hid hx
  have HY := Lib.hid hy
  have HK := Lib.hid hky
  clear h0 h2 h3 q1 q2 hk16 hxl hyl hx hy hky
  go_enter Try.func4, Try.ntmps4
  go_wp2_with (first
    | (go_at_call 15; refine (lawLives05_any w).mono ?_; rintro e w1 ⟨rfl, hB1⟩)
    | (go_at_call 18; refine (fieldNew_any w1).mono ?_; rintro e w2 ⟨f, rfl, hf1, hf2, hf3⟩; have hB2 := below_then hB1 hf3 hB1.size)
    | (go_at_call 17; refine (New_any n f hn' _ n ky w3 (hf2.keep hd3) hs3).mono ?_; rintro e w4 ⟨g, rfl, hg1, hg2, hg3⟩; have hB4 := below_then hB3 hg3 hB3.size)
    | (go_at_call_has 16 c0; refine (lawKeyN n A0 m0 c0 k long hn w2 (H0.out.below hB2)).mono ?_; rintro e w3 ⟨rfl, hs3, hb3, hd3⟩; rw [HK.out] at hs3; have hB3 := below_then hB2 hd3 hB2.size)
    | (go_at_call_has 16 c2; refine (lawKey16 A2 m2 c2 a w4 (H2.out.below hB4)).mono ?_; rintro e w5 ⟨rfl, hs5, hb5, hd5⟩; rw [HX.out] at hs5; have hB5 := below_then hB4 hd5 hB4.size)
    | (go_at_call_has 16 c3; refine (lawKey16 A3 m3 c3 b w5 (H3.out.below hB5)).mono ?_; rintro e w6 ⟨rfl, hs6, hb6, hd6⟩; rw [HY.out] at hs6; have hB6 := below_then hB5 hd6 hB5.size; have hC6 := below_then hd5 hd6 hd5.size)
    | (go_at_call 20; refine (Decrypt_any g ky (n / 4) hn4 hkl _ 16 x w6 (hg2.keep hC6) (hs5.below hd6)).mono ?_; rintro e w7 ⟨A7, c7, rfl, ho7, hd7⟩; have hC7 := below_then hC6 hd7 hC6.size)
    | (go_at_call_has 19 c7; refine (Encrypt_any g ky (n / 4) hn4 hkl _ c7 (aesDec ky x) w7 (hg2.keep hC7) ho7.sl).mono ?_; rintro e w8 ⟨A8, c8, rfl, ho8, hd8⟩; rw [Q1.out] at ho8; have hC8 := below_then hC7 hd8 hC7.size)
    | (go_at_call_has 19 w4; refine (Encrypt_any g ky (n / 4) hn4 hkl _ 16 x w8 (hg2.keep hC8) (((hs5.below hd6).below hd7).below hd8)).mono ?_; rintro e w9 ⟨A9, c9, rfl, ho9, hd9⟩; have hC9 := below_then hC8 hd9 hC8.size)
    | (go_at_call_has 19 w5; refine (Encrypt_any g ky (n / 4) hn4 hkl _ 16 y w9 (hg2.keep hC9) (((hs6.below hd7).below hd8).below hd9)).mono ?_; rintro e w10 ⟨A10, c10, rfl, ho10, hd10⟩; have t1 := strB ((ho8.sl.below hd9).below hd10); have t2 := strB (((((hs5.below hd6).below hd7).below hd8).below hd9).below hd10); have t3 := strB (ho9.sl.below hd10); have t4 := strB ho10.sl; have t5 := strB ((((hs6.below hd7).below hd8).below hd9).below hd10)))
  have e : ((aesEnc ky x == aesEnc ky y) == (x == y)) = true := by
    have e1 : (aesEnc ky x == aesEnc ky y) = (x == y) := by
      rw [beq_dec, beq_dec]
      exact decide_eq_decide.2 Q2.out
    rw [e1, beq_self_eq_true]
  go_ret
  have hC10 := below_then hC9 hd10 hC9.size
  exact ⟨ret_bool e, below_then hB4 hC10 hB4.size⟩
end Lg
