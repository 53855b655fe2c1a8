/-
Bytes, added to the stream twice, are what they were; what is added once are they and the stream (the statement StreamXors): the walk. No condition.
-/
import Derived.Test.YtncdecpehlkckaaLsA
import Derived.Deep.RegionHeld3
import Derived.Sort.AtCall
namespace Lg
open Go Go.RowKit Go.Proofs

theorem streamBytes_0n (g : Nat) (key : List UInt8) (hkl : key.length = 4 * 4) (A : Option Addr) (c : Nat) (l : List UInt8) (n : Nat) (hn : n ≤ 300) (w : World) (hC : CipOk w g key) (hs : Sl w A 8 c (l.map vb)) :
    Calls Try.prog 25 #[.pointer (some ⟨g, 0, none⟩), .slice A 8 c, .int .i64 0, vi n] w fun e w' => ∃ A' c', e = .returned (.tuple #[.slice A' n c', vi 0]) ∧ Sl w' A' n c' ((streamL key l 0 n).map vb) ∧ (∀ ad, A' = some ad → w.heap.size ≤ ad.block) ∧ Below w.heap.size w w' :=
  streamBytes_any g key 4 (by omega) hkl A c l 0 n (by omega) (by omega) w hC hs
theorem xor_twice : ∀ (s b : List UInt8), s.length = b.length → xorL s (xorL s b) = b
  | [], [], _ => rfl
  | x :: s, y :: b, h => by
    have ih := xor_twice s b (by simpa using h)
    unfold xorL at ih ⊢
    rw [List.zipWith_cons_cons, List.zipWith_cons_cons, ih, ← UInt8.xor_assoc, UInt8.xor_self, UInt8.zero_xor]
theorem xor_at {s b : List UInt8} {i : Nat} (hs : i < s.length) (hb : i < b.length) : (xorL s b).getD i 0 = b.getD i 0 ^^^ s.getD i 0 := by
  unfold xorL
  rw [List.getD_eq_getElem?_getD, List.getElem?_zipWith, List.getD_eq_getElem?_getD, List.getD_eq_getElem?_getD, List.getElem?_eq_getElem hs, List.getElem?_eq_getElem hb]
  exact UInt8.xor_comm _ _
theorem Sl.at_byte {w : World} {g o n c : Nat} {l : List UInt8} (h : Sl w (some ⟨g, o, none⟩) n c (l.map vb)) {i : Nat} (hi : i < n) : w.cell? ⟨g, o + i, none⟩ = some (vb (l.getD i 0)) := by
  have hl : l.length = n := by simpa using h.len
  obtain ⟨ad, e, _, hc⟩ := h.at_ (by omega)
  injection e with e; subst e
  have := hc i (vb (l.getD i 0)) (by rw [List.getElem?_map, List.getD_eq_getElem?_getD, List.getElem?_eq_getElem (by omega)]; rfl)
  rw [add_mk] at this
  exact this

set_option maxRecDepth 10000 in
set_option maxHeartbeats 1000000 in
theorem xors_big (A0 A1 A2 : Option Addr) (m0 c0 m1 c1 m2 c2 : Nat) (w : World) (hm : 300 < m2) :
    Calls Try.prog 9 #[.slice A0 m0 c0, .slice A1 m1 c1, .slice A2 m2 c2] w fun e w' => e = .returned (.bool true) ∧ Below w.heap.size w w' := by
  have b0 : decide (300 < (m2 : Int)) = true := by simp; omega
  go_enter Try.func9, Try.ntmps9
  go_wp2_with (first
    | (go_at_call 23; with_reducible refine (lawLives06_any w).mono ?_; rintro e w1 ⟨rfl, hd1⟩)
    | (go_at_call 23; with_reducible refine (lawLives06_any w1).mono ?_; rintro e w2 ⟨rfl, hd2⟩))
  go_ret
  exact ⟨rfl, below_then hd1 hd2 hd1.size⟩

set_option maxRecDepth 10000 in
set_option maxHeartbeats 2000000 in
theorem xors_small (A0 A1 A2 : Option Addr) (m0 c0 m1 c1 m2 c2 : Nat) (k n b : List UInt8) (w : World) (h0 : Sl w A0 m0 c0 (k.map vb)) (h1 : Sl w A1 m1 c1 (n.map vb)) (h2 : Sl w A2 m2 c2 (b.map vb)) (hm : m2 ≤ 300) :
    Calls Try.prog 9 #[.slice A0 m0 c0, .slice A1 m1 c1, .slice A2 m2 c2] w fun e w' => e = .returned (.bool true) ∧ Below w.heap.size w w' := by
  have b0 : decide (300 < (m2 : Int)) = false := by simp; omega
  have hbl : b.length = m2 := by simpa using h2.len
  have H0 := Lib.hid h0
  have H1 := Lib.hid h1
  have H2 := Lib.hid h2
  obtain ⟨ky, hky⟩ : ∃ ky, padTo 16 k = ky := ⟨_, rfl⟩
  obtain ⟨nn, hnn⟩ : ∃ nn, padTo 8 n = nn := ⟨_, rfl⟩
  have hkl : ky.length = 4 * 4 := by rw [← hky, padTo_length]
  obtain ⟨st, hst⟩ : ∃ st, streamL ky nn 0 m2 = st := ⟨_, rfl⟩
  have hsl : st.length = m2 := by rw [← hst, streamL_length]
  have HTW := Lib.hid (xor_twice st b (by omega))
  obtain ⟨xx, hxx⟩ : ∃ xx, xorL st b = xx := ⟨_, rfl⟩
  rw [hxx] at HTW
  have HK := Lib.hid hky
  have HN := Lib.hid hnn
  have HST := Lib.hid hst
  have HXX := Lib.hid hxx
  have HBL := Lib.hid hbl
  have HSL := Lib.hid hsl
  clear h0 h1 h2 hky hnn hst hxx hbl hsl
  go_enter Try.func9, Try.ntmps9
  go_upto_region 5 with (first
    | (go_at_call 23; refine (lawLives06_any w).mono ?_; rintro e w1 ⟨rfl, hd1⟩)
    | (go_at_call 24; refine (lawMade_any A0 m0 c0 k w1 (H0.out.below hd1)).mono ?_; rintro e w2 ⟨g, rfl, hg2, hs2, hd2⟩; rw [HK.out] at hg2; have hB2 := below_then hd1 hd2 hd1.size; have HSB2 := Lib.hid (H2.out.below hB2))
    | (at_builtin; refine appB rfl (.tmp 30) (.tmp 31) rfl w2.heap.size (some ⟨w2.heap.size, 0, none⟩) 0 0 [] rfl (Ow.nil _ _ _ _) A2 m2 c2 b rfl (HSB2.out.alloc _) (by omega) (by simp) ?_; intro A3 c3 w3 h31 h32 h33))
  simp only [List.nil_append, Nat.zero_add] at h31 ⊢
  have hd3 : Below w2.heap.size w2 w3 := ((Below.refl _ _).alloc (Nat.le_refl _) _).grown h32 (by simp) (by simp [rowOf])
  have HO3 := Lib.hid h31.sl
  have HG3 := Lib.hid (hg2.keep hd3)
  have HB3 := Lib.hid (below_then hB2 hd3 hB2.size)
  have H13 := Lib.hid (H1.out.below HB3.out)
  have H23 := Lib.hid (H2.out.below HB3.out)
  clear hd1 hd2 hd3 hB2 hg2 hs2 h31 h32 h33 HSB2
  go_upto_region 8 with (first
    | (go_at_call_has 26 c1; with_reducible refine (lawNonce_any A1 m1 c1 n w3 H13.out).mono ?_; rintro e w4 ⟨rfl, hb4, hs4, hd4⟩; rw [HN.out] at hs4)
    | (go_at_call_has 37 c3; with_reducible refine (streamXor_any g ky 4 (by omega) hkl _ 8 nn A3 m2 c3 b (by omega) w4 (HG3.out.keep hd4) hs4 (HO3.out.below hd4)).mono ?_; rintro e w5 ⟨A5, c5, rfl, hs5, hd5⟩; rw [HST.out, HXX.out] at hs5; have hB5 := Lib.hid (below_then hd4 hd5 hd4.size))
    | (go_at_call_has 26 c1; with_reducible refine (lawNonce_any A1 m1 c1 n w5 (H13.out.below hB5.out)).mono ?_; rintro e w6 ⟨rfl, hb6, hs6, hd6⟩; rw [HN.out] at hs6)
    | (go_at_call_has 37 c5; with_reducible refine (streamXor_any g ky 4 (by omega) hkl _ 8 nn A5 m2 c5 xx (by omega) w6 ((HG3.out.keep hB5.out).keep hd6) hs6 (hs5.below hd6)).mono ?_; rintro e w7 ⟨A7, c7, rfl, hs7, hd7⟩; rw [HST.out, HTW.out] at hs7; have hB7 := Lib.hid (below_then hB5.out (below_then hd6 hd7 hd6.size) hB5.out.size))
    | (go_at_call_has 26 c1; with_reducible refine (lawNonce_any A1 m1 c1 n w7 (H13.out.below hB7.out)).mono ?_; rintro e w8 ⟨rfl, hb8, hs8, hd8⟩; rw [HN.out] at hs8)
    | (go_at_call 25; with_reducible refine (streamBytes_0n g ky hkl _ 8 nn m2 hm w8 ((HG3.out.keep hB7.out).keep hd8) hs8).mono ?_; rintro e w9 ⟨A9, c9, rfl, hs9, ha9, hd9⟩; rw [HST.out] at hs9; have hB9 := Lib.hid (below_then hB7.out (below_then hd8 hd9 hd8.size) hB7.out.size)))
  have SX := Lib.hid ((((hs5.below hd6).below hd7).below hd8).below hd9)
  have SY := Lib.hid ((hs7.below hd8).below hd9)
  have SS := Lib.hid hs9
  have SO := Lib.hid (HO3.out.below hB9.out)
  have SB := Lib.hid (H23.out.below hB9.out)
  have HB9 := Lib.hid (below_then HB3.out hB9.out HB3.out.size)
  have k1 := strB SY.out
  have k2 := strB SB.out
  have k3 := strB SO.out
  clear hb4 hs4 hd4 hs5 hd5 hB5 hb6 hs6 hd6 hs7 hd7 hB7 hb8 hs8 hd8 hs9 ha9 hd9 hB9 HG3 HO3
  go_wp2
  clear k1 k2 k3
  go_loopw [98] (fun s98 wr => ∃ i : Nat, i ≤ m2 ∧ s98 = vi i ∧ Hid (Below w9.heap.size w9 wr)) (fun s98 _ => m2 - (intOf s98).toNat)
  case atStart => exact ⟨0, by omega, rfl, Below.refl _ _⟩
  case round =>
    obtain ⟨i, hi, rfl, HB⟩ := hrel
    by_cases hlt : i < m2
    · obtain ⟨g5, o5, rfl, _, _⟩ := SX.out.place (by omega)
      obtain ⟨g2, o2, rfl, _, _⟩ := SB.out.place (by omega)
      obtain ⟨g9, o9, rfl, _, _⟩ := SS.out.place (by omega)
      have hx : xx.getD i 0 = b.getD i 0 ^^^ st.getD i 0 := by rw [← HXX.out]; exact xor_at (by rw [HSL.out]; exact hlt) (by rw [HBL.out]; exact hlt)
      obtain ⟨bi, hbi⟩ : ∃ x, b.getD i 0 = x := ⟨_, rfl⟩
      obtain ⟨si, hsi⟩ : ∃ x, st.getD i 0 = x := ⟨_, rfl⟩
      have d1 := (SX.out.below HB.out).at_byte hlt
      have d2 := (SB.out.below HB.out).at_byte hlt
      have d3 := (SS.out.below HB.out).at_byte hlt
      rw [hx, hbi, hsi] at d1
      rw [hbi] at d2
      rw [hsi] at d3
      clear hx hbi hsi
      have hi64 : (i : Int) < (m2 : Int) := by omega
      go_wp2
      go_region_held3 (fun W => W.cell? ⟨g5, o5 + i, none⟩ = some (vb (bi ^^^ si)) ∧ W.cell? ⟨g2, o2 + i, none⟩ = some (vb bi) ∧ W.cell? ⟨g9, o9 + i, none⟩ = some (vb si)) (first | exact ⟨d1, d2, d3⟩) (first | fail)
      go_wp2_with fail
      exact ⟨⟨i + 1, by omega, by go_num, HB.out.drew⟩, by simp [intOf]; omega⟩
    · obtain rfl : i = m2 := by omega
      go_wp2
      go_ret
      exact ⟨rfl, below_then HB9.out HB.out HB9.out.size⟩

theorem streamXors_any (A0 A1 A2 : Option Addr) (m0 c0 m1 c1 m2 c2 : Nat) (k n b : List UInt8) (w : World) (h0 : Sl w A0 m0 c0 (k.map vb)) (h1 : Sl w A1 m1 c1 (n.map vb)) (h2 : Sl w A2 m2 c2 (b.map vb)) :
    Calls Try.prog 9 #[.slice A0 m0 c0, .slice A1 m1 c1, .slice A2 m2 c2] w fun e w' => e = .returned (.bool true) ∧ Below w.heap.size w w' := by
  by_cases hm : 300 < m2
  · exact xors_big A0 A1 A2 m0 c0 m1 c1 m2 c2 w hm
  · exact xors_small A0 A1 A2 m0 c0 m1 c1 m2 c2 k n b w h0 h1 h2 (by omega)
end Lg
