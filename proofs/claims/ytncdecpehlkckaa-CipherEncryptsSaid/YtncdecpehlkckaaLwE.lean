/-
Any block under any key is the standard's, and is decrypted to what it was (the statement CipherEncrypts): the walk. No condition.
-/
import Derived.Test.YtncdecpehlkckaaEnc8
import Derived.Test.YtncdecpehlkckaaLwB
import Derived.Deep.RegionHeld
namespace Lg
open Go Go.RowKit Go.Proofs

theorem CipOk.far {w : World} {g o i : Nat} {key : List UInt8} {xs : List Value} (h : CipOk w g key) (hb : Blk w o 5 xs) (v : Value) : CipOk (w.setCell ⟨o, i, none⟩ v) g key := by
  obtain ⟨f, gk, cap, h1, h2, h3⟩ := h
  have n1 : g ≠ o := by
    rintro rfl
    unfold Cip Blk at h1
    unfold Blk at hb
    rw [h1] at hb
    injection hb with hb
    injection hb with _ hb
    exact absurd hb (by decide)
  have n2 : f ≠ o := by
    rintro rfl
    unfold Fl Blk at h2
    unfold Blk at hb
    rw [h2] at hb
    injection hb with hb
    injection hb with _ hb
    exact absurd hb (by decide)
  refine ⟨f, gk, cap, Blk.far h1 n1 v, Blk.far h2 n2 v, h3.kept (Gr.setCell (Gr.refl w (some o)) i v) (.inr (fun e => ?_))⟩
  obtain ⟨_, cs, hc⟩ := ownBlock_cells h3 o (by rw [e])
  unfold Blk at hb
  rw [hc] at hb
  injection hb with hb
  injection hb with _ hb
  exact absurd hb (by decide)
theorem xor_255 (v : UInt8) : bits .xor .u8 (v.toNat : Int) 255 = ((v ^^^ 255).toNat : Int) := xor_u8 v 255
theorem setCell_size (w : World) (p : Addr) (v : Value) : (w.setCell p v).heap.size = w.heap.size := by simp [World.setCell]

set_option maxRecDepth 10000 in
set_option maxHeartbeats 2000000 in
theorem cipherEncrypts16 (A0 A2 : Option Addr) (m0 c0 m2 c2 : Nat) (k b : List UInt8) (w : World) (h0 : Sl w A0 m0 c0 (k.map vb)) (h2 : Sl w A2 m2 c2 (b.map vb)) :
    Calls Try.prog 3 #[.slice A0 m0 c0, .bool false, .slice A2 m2 c2] w fun e w' => e = .returned (.bool true) ∧ Below w.heap.size w w' := by
  have H0 := Lib.hid h0
  have H2 := Lib.hid h2
  obtain ⟨ky, hky⟩ : ∃ ky, padTo 16 k = ky := ⟨_, rfl⟩
  obtain ⟨x, hx⟩ : ∃ x, padTo 16 b = x := ⟨_, rfl⟩
  have hkl : ky.length = 4 * 4 := by rw [← hky, padTo_length]
  have hn4 : 0 < 4 ∧ 4 ≤ 8 := by omega
  have hxl : x.length = 16 := by rw [← hx, padTo_length]
  have hR : aesRounds ky = 10 := by unfold aesRounds; rw [hkl]
  have hk16 := aesWords_any ky 4 hn4.1 hkl
  have Q1 := Lib.hid (show aesDec ky (aesEnc ky x) = x from dec_enc hk16 hxl)
  have HX := Lib.hid hx
  have HK := Lib.hid hky
  have HRR := Lib.hid hR
  have HKL := Lib.hid (show ky.length = 16 by omega)
  clear h0 h2 hk16 hxl hx hky hR
  go_enter Try.func3, Try.ntmps3
  go_wp2_with (first
    | (go_at_call 15; refine (lawLives05_any w).mono ?_; rintro e w1 ⟨rfl, hB1⟩)
    | (go_at_call_has 16 c0; refine (lawKeyN 16 A0 m0 c0 k false rfl w1 (H0.out.below hB1)).mono ?_; rintro e w2 ⟨rfl, hs2, hb2, hd2⟩; rw [HK.out] at hs2 hb2; have hB2 := below_then hB1 hd2 hB1.size)
    | (go_at_call_has 16 c2; refine (lawKey16 A2 m2 c2 b w2 (H2.out.below hB2)).mono ?_; rintro e w3 ⟨rfl, hs3, hb3, hd3⟩; rw [HX.out] at hs3; have hB3 := below_then hB2 hd3 hB2.size)
    | (go_at_call 18; refine (fieldNew_any w3).mono ?_; rintro e w4 ⟨f, rfl, hf1, hf2, hf3⟩; have hB4 := below_then hB3 hf3 hB3.size)
    | (go_at_call 17; refine (New_any 16 f (by omega) _ 16 ky w4 hf2 ((hs2.below hd3).below hf3)).mono ?_; rintro e w5 ⟨g, rfl, hg1, hg2, hg3⟩; have hB5 := below_then hB4 hg3 hB4.size))
  obtain ⟨o, ho⟩ : ∃ o, w1.heap.size = o := ⟨_, rfl⟩
  obtain ⟨o2, ho2⟩ : ∃ o, w2.heap.size = o := ⟨_, rfl⟩
  have hoo : o < o2 := by rw [← ho, ← ho2]; exact hb2.lt
  have hwo : w.heap.size ≤ o := by rw [← ho]; exact hB1.size
  have HSB := Lib.hid (show Sl w5 (some ⟨o2, 0, none⟩) 16 16 (x.map vb) by rw [← ho2]; exact (hs3.below hf3).below hg3)
  have HOB := Lib.hid (show Blk w5 o 5 (ky.map vb) by rw [← ho]; exact ((hb2.keep hd3).keep hf3).keep hg3)
  have HG := Lib.hid hg2
  have HB5 := Lib.hid hB5
  have HOO := Lib.hid ho
  rw [ho, ho2]
  clear hs2 hb2 hd2 hs3 hb3 hd3 hf2 hf3 hg1 hg2 hg3 hB1 hB2 hB3 hB4 hB5 ho ho2 hf1
  go_loopw [31] (fun s31 wr => ∃ (i : Nat) (l : List UInt8), i ≤ 16 ∧ s31 = vi i ∧ Hid (l.length = 16) ∧ Hid (Blk wr o 5 (l.map vb)) ∧ Hid (CipOk wr g ky) ∧ Hid (Sl wr (some ⟨o2, 0, none⟩) 16 16 (x.map vb)) ∧ Hid (Below w.heap.size w wr)) (fun s31 _ => 16 - (intOf s31).toNat)
  case atStart => exact ⟨0, ky, by omega, rfl, HKL, HOB, HG, HSB, HB5⟩
  case round =>
    obtain ⟨i, l, hi, rfl, HL, HO, HGi, HSi, HBi⟩ := hrel
    clear HOB HG HSB HB5
    by_cases hlt : i < 16
    · obtain ⟨xi, hxi⟩ : ∃ x, l.getD i 0 = x := ⟨_, rfl⟩
      have c1 : wr.cell? ⟨o, i, none⟩ = some (vb xi) := by
        rw [HO.out.cell, List.getElem?_map, ← hxi, List.getD_eq_getElem?_getD, List.getElem?_eq_getElem (by rw [HL.out]; exact hlt)]; rfl
      have f1 := HO.out.frozen i
      clear hxi
      go_wp2
      rw [xor_255]
      refine ⟨⟨i + 1, l.set i (xi ^^^ 255), by omega, by go_num, (by show _ = _; rw [List.length_set]; exact HL.out), ?_, HGi.out.far HO.out _, HSi.out.setCell (p := ⟨o, i, none⟩) (by simp; omega) _, HBi.out.setCell (p := ⟨o, i, none⟩) hwo _⟩, by simp [intOf]; omega⟩
      have h := HO.out.set_ i (vb (xi ^^^ 255))
      rw [map_set] at h
      exact h
    · obtain rfl : i = 16 := by omega
      obtain ⟨f, gk, cap, hc1, _, _⟩ := HGi.out
      rw [HRR.out] at hc1
      have HC := Lib.hid hc1
      have hcl := HGi
      clear hc1
      go_upto_region 13 with (first
        | (go_at_call 19; refine (Encrypt_any g ky 4 hn4 hkl _ 16 x wr HGi.out HSi.out).mono ?_; rintro e w6 ⟨A6, c6, rfl, ho6, hd6⟩)
        | (go_at_call 20; refine (Decrypt_any g ky 4 hn4 hkl _ c6 (aesEnc ky x) w6 (HGi.out.keep hd6) ho6.sl).mono ?_; rintro e w7 ⟨A7, c7, rfl, ho7, hd7⟩; rw [Q1.out] at ho7))
      have hB7 := below_then HBi.out (below_then hd6 hd7 hd6.size) HBi.out.size
      have SX := Lib.hid (ho6.sl.below hd7)
      have SY := Lib.hid ho7.sl
      have SB := Lib.hid ((HSi.out.below hd6).below hd7)
      have SK := Lib.hid (H0.out.below hB7)
      have HB7 := Lib.hid hB7
      have HC7 := Lib.hid (Blk.keep (Blk.keep HC.out hd6) hd7)
      have k1 := strB SX.out
      have k2 := strB SY.out
      have k3 := strB SB.out
      clear ho6 ho7 hd6 hd7 hB7 hcl
      go_region_held (fun W => (convert 22 9 (.slice A6 16 c6)).run Try.prog W = .ok (.string (bs (aesEnc ky x))) W ∧ (convert 22 9 (.slice A7 16 c7)).run Try.prog W = .ok (.string (bs x)) W ∧ (convert 22 9 (.slice (some ⟨o2, 0, none⟩) 16 16)).run Try.prog W = .ok (.string (bs x)) W) (first | exact ⟨strB SX.out.drew, strB SY.out.drew, strB SB.out.drew⟩ | exact ⟨strB (SX.out.drew.below hd8), strB (SY.out.drew.below hd8), strB (SB.out.drew.below hd8)⟩ | exact ⟨strB ((SX.out.drew.below hd8).below hd9), strB ((SY.out.drew.below hd8).below hd9), strB ((SB.out.drew.below hd8).below hd9)⟩) (first
        | (go_at_call 16; refine (lawKeyN 16 A0 m0 c0 k false rfl _ SK.out.drew).mono ?_; rintro e w8 ⟨rfl, hs8, hb8, hd8⟩; rw [HK.out] at hs8)
        | (go_at_call 21; refine (refEnc4 _ _ 16 16 ky x _ hs8 (SB.out.drew.below hd8)).mono ?_; rintro e w9 ⟨g9, rfl, hs9, hg9, hd9⟩; have k9 := strB hs9))
      rename_i hHd
      clear hHd
      have hd89 := below_then (show Below w7.heap.size w7 w8 from from_drew hd8) hd9 (from_drew hd8).size
      have HC9 := Blk.keep HC7.out hd89
      have HB9 := below_then HB7.out hd89 HB7.out.size
      go_wp2_with (go_at_call 22; refine (Rounds_any g (10 + 1) cap _ _ _ _ w9 HC9 (by omega)).mono ?_; rintro e w10 ⟨rfl, rfl⟩)
      go_ret
      exact ⟨rfl, HB9⟩

set_option maxRecDepth 10000 in
set_option maxHeartbeats 2000000 in
theorem cipherEncrypts32 (A0 A2 : Option Addr) (m0 c0 m2 c2 : Nat) (k b : List UInt8) (w : World) (h0 : Sl w A0 m0 c0 (k.map vb)) (h2 : Sl w A2 m2 c2 (b.map vb)) :
    Calls Try.prog 3 #[.slice A0 m0 c0, .bool true, .slice A2 m2 c2] w fun e w' => e = .returned (.bool true) ∧ Below w.heap.size w w' := by
  have H0 := Lib.hid h0
  have H2 := Lib.hid h2
  obtain ⟨ky, hky⟩ : ∃ ky, padTo 32 k = ky := ⟨_, rfl⟩
  obtain ⟨x, hx⟩ : ∃ x, padTo 16 b = x := ⟨_, rfl⟩
  have hkl : ky.length = 4 * 8 := by rw [← hky, padTo_length]
  have hn4 : 0 < 8 ∧ 8 ≤ 8 := by omega
  have hxl : x.length = 16 := by rw [← hx, padTo_length]
  have hR : aesRounds ky = 14 := by unfold aesRounds; rw [hkl]
  have hk16 := aesWords_any ky 8 hn4.1 hkl
  have Q1 := Lib.hid (show aesDec ky (aesEnc ky x) = x from dec_enc hk16 hxl)
  have HX := Lib.hid hx
  have HK := Lib.hid hky
  have HRR := Lib.hid hR
  have HKL := Lib.hid (show ky.length = 32 by omega)
  clear h0 h2 hk16 hxl hx hky hR
  go_enter Try.func3, Try.ntmps3
  go_wp2_with (first
    | (go_at_call 15; refine (lawLives05_any w).mono ?_; rintro e w1 ⟨rfl, hB1⟩)
    | (go_at_call_has 16 c0; refine (lawKeyN 32 A0 m0 c0 k true rfl w1 (H0.out.below hB1)).mono ?_; rintro e w2 ⟨rfl, hs2, hb2, hd2⟩; rw [HK.out] at hs2 hb2; have hB2 := below_then hB1 hd2 hB1.size)
    | (go_at_call_has 16 c2; refine (lawKey16 A2 m2 c2 b w2 (H2.out.below hB2)).mono ?_; rintro e w3 ⟨rfl, hs3, hb3, hd3⟩; rw [HX.out] at hs3; have hB3 := below_then hB2 hd3 hB2.size)
    | (go_at_call 18; refine (fieldNew_any w3).mono ?_; rintro e w4 ⟨f, rfl, hf1, hf2, hf3⟩; have hB4 := below_then hB3 hf3 hB3.size)
    | (go_at_call 17; refine (New_any 32 f (by omega) _ 32 ky w4 hf2 ((hs2.below hd3).below hf3)).mono ?_; rintro e w5 ⟨g, rfl, hg1, hg2, hg3⟩; have hB5 := below_then hB4 hg3 hB4.size))
  obtain ⟨o, ho⟩ : ∃ o, w1.heap.size = o := ⟨_, rfl⟩
  obtain ⟨o2, ho2⟩ : ∃ o, w2.heap.size = o := ⟨_, rfl⟩
  have hoo : o < o2 := by rw [← ho, ← ho2]; exact hb2.lt
  have hwo : w.heap.size ≤ o := by rw [← ho]; exact hB1.size
  have HSB := Lib.hid (show Sl w5 (some ⟨o2, 0, none⟩) 16 16 (x.map vb) by rw [← ho2]; exact (hs3.below hf3).below hg3)
  have HOB := Lib.hid (show Blk w5 o 5 (ky.map vb) by rw [← ho]; exact ((hb2.keep hd3).keep hf3).keep hg3)
  have HG := Lib.hid hg2
  have HB5 := Lib.hid hB5
  have HOO := Lib.hid ho
  rw [ho, ho2]
  clear hs2 hb2 hd2 hs3 hb3 hd3 hf2 hf3 hg1 hg2 hg3 hB1 hB2 hB3 hB4 hB5 ho ho2 hf1
  go_loopw [31] (fun s31 wr => ∃ (i : Nat) (l : List UInt8), i ≤ 32 ∧ s31 = vi i ∧ Hid (l.length = 32) ∧ Hid (Blk wr o 5 (l.map vb)) ∧ Hid (CipOk wr g ky) ∧ Hid (Sl wr (some ⟨o2, 0, none⟩) 16 16 (x.map vb)) ∧ Hid (Below w.heap.size w wr)) (fun s31 _ => 32 - (intOf s31).toNat)
  case atStart => exact ⟨0, ky, by omega, rfl, HKL, HOB, HG, HSB, HB5⟩
  case round =>
    obtain ⟨i, l, hi, rfl, HL, HO, HGi, HSi, HBi⟩ := hrel
    clear HOB HG HSB HB5
    by_cases hlt : i < 32
    · obtain ⟨xi, hxi⟩ : ∃ x, l.getD i 0 = x := ⟨_, rfl⟩
      have c1 : wr.cell? ⟨o, i, none⟩ = some (vb xi) := by
        rw [HO.out.cell, List.getElem?_map, ← hxi, List.getD_eq_getElem?_getD, List.getElem?_eq_getElem (by rw [HL.out]; exact hlt)]; rfl
      have f1 := HO.out.frozen i
      clear hxi
      go_wp2
      rw [xor_255]
      refine ⟨⟨i + 1, l.set i (xi ^^^ 255), by omega, by go_num, (by show _ = _; rw [List.length_set]; exact HL.out), ?_, HGi.out.far HO.out _, HSi.out.setCell (p := ⟨o, i, none⟩) (by simp; omega) _, HBi.out.setCell (p := ⟨o, i, none⟩) hwo _⟩, by simp [intOf]; omega⟩
      have h := HO.out.set_ i (vb (xi ^^^ 255))
      rw [map_set] at h
      exact h
    · obtain rfl : i = 32 := by omega
      obtain ⟨f, gk, cap, hc1, _, _⟩ := HGi.out
      rw [HRR.out] at hc1
      have HC := Lib.hid hc1
      have hcl := HGi
      clear hc1
      go_upto_region 13 with (first
        | (go_at_call 19; refine (Encrypt_any g ky 8 hn4 hkl _ 16 x wr HGi.out HSi.out).mono ?_; rintro e w6 ⟨A6, c6, rfl, ho6, hd6⟩)
        | (go_at_call 20; refine (Decrypt_any g ky 8 hn4 hkl _ c6 (aesEnc ky x) w6 (HGi.out.keep hd6) ho6.sl).mono ?_; rintro e w7 ⟨A7, c7, rfl, ho7, hd7⟩; rw [Q1.out] at ho7))
      have hB7 := below_then HBi.out (below_then hd6 hd7 hd6.size) HBi.out.size
      have SX := Lib.hid (ho6.sl.below hd7)
      have SY := Lib.hid ho7.sl
      have SB := Lib.hid ((HSi.out.below hd6).below hd7)
      have SK := Lib.hid (H0.out.below hB7)
      have HB7 := Lib.hid hB7
      have HC7 := Lib.hid (Blk.keep (Blk.keep HC.out hd6) hd7)
      have k1 := strB SX.out
      have k2 := strB SY.out
      have k3 := strB SB.out
      clear ho6 ho7 hd6 hd7 hB7 hcl
      go_region_held (fun W => (convert 22 9 (.slice A6 16 c6)).run Try.prog W = .ok (.string (bs (aesEnc ky x))) W ∧ (convert 22 9 (.slice A7 16 c7)).run Try.prog W = .ok (.string (bs x)) W ∧ (convert 22 9 (.slice (some ⟨o2, 0, none⟩) 16 16)).run Try.prog W = .ok (.string (bs x)) W) (first | exact ⟨strB SX.out.drew, strB SY.out.drew, strB SB.out.drew⟩ | exact ⟨strB (SX.out.drew.below hd8), strB (SY.out.drew.below hd8), strB (SB.out.drew.below hd8)⟩ | exact ⟨strB ((SX.out.drew.below hd8).below hd9), strB ((SY.out.drew.below hd8).below hd9), strB ((SB.out.drew.below hd8).below hd9)⟩) (first
        | (go_at_call 16; refine (lawKeyN 32 A0 m0 c0 k true rfl _ SK.out.drew).mono ?_; rintro e w8 ⟨rfl, hs8, hb8, hd8⟩; rw [HK.out] at hs8)
        | (go_at_call 21; refine (refEnc8 _ _ 32 16 ky x _ hs8 (SB.out.drew.below hd8)).mono ?_; rintro e w9 ⟨g9, rfl, hs9, hg9, hd9⟩; have k9 := strB hs9))
      rename_i hHd
      clear hHd
      have hd89 := below_then (show Below w7.heap.size w7 w8 from from_drew hd8) hd9 (from_drew hd8).size
      have HC9 := Blk.keep HC7.out hd89
      have HB9 := below_then HB7.out hd89 HB7.out.size
      go_wp2_with (go_at_call 22; refine (Rounds_any g (14 + 1) cap _ _ _ _ w9 HC9 (by omega)).mono ?_; rintro e w10 ⟨rfl, rfl⟩)
      go_ret
      exact ⟨rfl, HB9⟩

theorem cipherEncrypts_any (A0 A2 : Option Addr) (m0 c0 m2 c2 : Nat) (long : Bool) (k b : List UInt8) (w : World) (h0 : Sl w A0 m0 c0 (k.map vb)) (h2 : Sl w A2 m2 c2 (b.map vb)) :
    Calls Try.prog 3 #[.slice A0 m0 c0, .bool long, .slice A2 m2 c2] w fun e w' => e = .returned (.bool true) ∧ Below w.heap.size w w' := by
  cases long with
  | false => exact cipherEncrypts16 A0 A2 m0 c0 m2 c2 k b w h0 h2
  | true => exact cipherEncrypts32 A0 A2 m0 c0 m2 c2 k b w h0 h2
end Lg
