/-
Bytes from elsewhere on are those of the stream; what can't be asked for is refused (the statement StreamParts): the walk. No condition.
-/
import Derived.Test.YtncdecpehlkckaaLsA
import Derived.Deep.RegionHeld
import Derived.Sort.AtCall
namespace Lg
open Go Go.RowKit Go.Proofs

theorem streamBytes_300 (g : Nat) (key : List UInt8) (hkl : key.length = 4 * 4) (A : Option Addr) (c : Nat) (l : List UInt8) (w : World) (hC : CipOk w g key) (hs : Sl w A 8 c (l.map vb)) :
    Calls Try.prog 25 #[.pointer (some ⟨g, 0, none⟩), .slice A 8 c, .int .i64 0, .int .i64 300] w fun e w' => ∃ A' c', e = .returned (.tuple #[.slice A' 300 c', vi 0]) ∧ Sl w' A' 300 c' ((streamL key l 0 300).map vb) ∧ (∀ ad, A' = some ad → w.heap.size ≤ ad.block) ∧ Below w.heap.size w w' :=
  streamBytes_any g key 4 (by omega) hkl A c l 0 300 (by omega) (by omega) w hC hs
theorem streamL_drop (key l : List UInt8) (n r : Nat) (hr : r ≤ n) : ((streamL key l 0 n).drop r).take (n - r) = streamL key l r (n - r) := by
  apply List.ext_getElem?; intro i
  unfold streamL
  rw [List.getElem?_take, List.getElem?_drop, List.getElem?_map, List.getElem?_map]
  by_cases hi : i < n - r
  · rw [if_pos hi, List.getElem?_range hi, List.getElem?_range (by omega), Option.map_some, Option.map_some, Nat.zero_add]
  · rw [if_neg hi, List.getElem?_eq_none (by simp; omega)]; rfl
theorem from_300 (z : Int) : ∃ fr : Nat, wrap64 ((IntKind.u64.wrap z).tmod 300) = (fr : Int) ∧ fr < 300 := by
  have h0 : 0 ≤ IntKind.u64.wrap z := by rw [IntKind.wrap_u64]; omega
  have h1 : (IntKind.u64.wrap z).tmod 300 = IntKind.u64.wrap z % 300 := Int.tmod_eq_emod_of_nonneg h0
  refine ⟨(IntKind.u64.wrap z % 300).toNat, ?_, by omega⟩
  rw [h1]
  simp only [wrap64]
  omega

theorem streamBytes_a300 (g : Nat) (key : List UInt8) (hkl : key.length = 4 * 4) (A : Option Addr) (c : Nat) (l : List UInt8) (a : Nat) (ha : a ≤ 1073741824) (w : World) (hC : CipOk w g key) (hs : Sl w A 8 c (l.map vb)) :
    Calls Try.prog 25 #[.pointer (some ⟨g, 0, none⟩), .slice A 8 c, vi a, .int .i64 300] w fun e w' => ∃ A' c', e = .returned (.tuple #[.slice A' 300 c', vi 0]) ∧ Sl w' A' 300 c' ((streamL key l a 300).map vb) ∧ (∀ ad, A' = some ad → w.heap.size ≤ ad.block) ∧ Below w.heap.size w w' :=
  streamBytes_any g key 4 (by omega) hkl A c l a 300 ha (by omega) w hC hs
set_option maxRecDepth 10000 in
set_option maxHeartbeats 1000000 in
theorem parts_big (A0 A1 : Option Addr) (m0 c0 m1 c1 : Nat) (z2 z3 z4 : Int) (w : World) (hm : 100 < m1) :
    Calls Try.prog 10 #[.slice A0 m0 c0, .slice A1 m1 c1, vi z2, vi z3, vi z4] w fun e w' => e = .returned (.bool true) ∧ Below w.heap.size w w' := by
  have b0 : decide (100 < (m1 : Int)) = true := by simp; omega
  go_enter Try.func10, Try.ntmps10
  go_wp2_with (first
    | (go_at_call 23; with_reducible refine (lawLives06_any w).mono ?_; rintro e w1 ⟨rfl, hd1⟩)
    | (go_at_call 23; with_reducible refine (lawLives06_any w1).mono ?_; rintro e w2 ⟨rfl, hd2⟩))
  go_ret
  exact ⟨rfl, below_then hd1 hd2 hd1.size⟩

set_option maxRecDepth 10000 in
set_option maxHeartbeats 1000000 in
theorem parts_form (A0 A1 : Option Addr) (m0 c0 m1 c1 : Nat) (z2 z3 z4 : Int) (k n : List UInt8) (w : World) (h0 : Sl w A0 m0 c0 (k.map vb)) (h1 : Sl w A1 m1 c1 (n.map vb)) (hm : m1 ≤ 100) (hm8 : m1 ≠ 8) (h4 : -9223372036854775808 ≤ z4 ∧ z4 ≤ 9223372036854775807) :
    Calls Try.prog 10 #[.slice A0 m0 c0, .slice A1 m1 c1, vi z2, vi z3, vi z4] w fun e w' => e = .returned (.bool true) ∧ Below w.heap.size w w' := by
  have H0 := Lib.hid h0
  have H1 := Lib.hid h1
  have H4 := Lib.hid h4
  have b0 : decide (100 < (m1 : Int)) = false := by simp; omega
  have b1 : ((m1 : Int) != 8) = true := by simp; omega
  obtain ⟨ky, hky⟩ : ∃ ky, padTo 16 k = ky := ⟨_, rfl⟩
  obtain ⟨nn, hnn⟩ : ∃ nn, padTo 8 n = nn := ⟨_, rfl⟩
  have hkl : ky.length = 4 * 4 := by rw [← hky, padTo_length]
  have HK := Lib.hid hky
  have HN := Lib.hid hnn
  clear h0 h1 h4 hky hnn
  go_enter Try.func10, Try.ntmps10
  go_upto_region 10 with (first
    | (go_at_call 23; refine (lawLives06_any w).mono ?_; rintro e w1 ⟨rfl, hd1⟩)
    | (go_at_call 24; refine (lawMade_any A0 m0 c0 k w1 (H0.out.below hd1)).mono ?_; rintro e w2 ⟨g, rfl, hg2, hs2, hd2⟩; rw [HK.out] at hg2; have hB2 := below_then hd1 hd2 hd1.size)
    | (go_at_call 25; refine (streamBytes_form g A1 m1 c1 hm8 _ _ w2).mono ?_; rintro e w3 ⟨rfl, hd3⟩; have hB3 := below_then hB2 hd3 hB2.size))
  have HG3 := Lib.hid (hg2.keep hd3)
  have HB3 := Lib.hid hB3
  have H13 := Lib.hid (H1.out.below hB3)
  clear hd1 hd2 hd3 hB2 hB3 hg2 hs2
  go_upto_region 16 with (first
    | (go_at_call_has 26 c1; with_reducible refine (lawNonce_any A1 m1 c1 n w3 H13.out).mono ?_; rintro e w4 ⟨rfl, hb4, hs4, hd4⟩)
    | (go_at_call 25; with_reducible refine (streamBytes_range g _ 8 0 1048577 (by omega) w4).mono ?_; rintro e w5 ⟨rfl, hd5⟩; have hB5 := Lib.hid (below_then hd4 hd5 hd4.size))
    | (go_at_call_has 26 c1; with_reducible refine (lawNonce_any A1 m1 c1 n w5 (H13.out.below hB5.out)).mono ?_; rintro e w6 ⟨rfl, hb6, hs6, hd6⟩)
    | (go_at_call 25; with_reducible refine (streamBytes_nil _ 8 8 0 1 w6).mono ?_; rintro e w7 ⟨rfl, hd7⟩; have hB7 := Lib.hid (below_then hB5.out (below_then hd6 hd7 hd6.size) hB5.out.size))
    | (go_at_call_has 26 c1; with_reducible refine (lawNonce_any A1 m1 c1 n w7 (H13.out.below hB7.out)).mono ?_; rintro e w8 ⟨rfl, hb8, hs8, hd8⟩)
    | (go_at_call 37; with_reducible refine (streamXor_nil _ _ 8 8 0 0 w8).mono ?_; rintro e w9 ⟨rfl, hd9⟩; have hB9 := Lib.hid (below_then hB7.out (below_then hd8 hd9 hd8.size) hB7.out.size))
    | (go_at_call_has 26 c1; with_reducible refine (lawNonce_any A1 m1 c1 n w9 (H13.out.below hB9.out)).mono ?_; rintro e w10 ⟨rfl, hb10, hs10, hd10⟩; rw [HN.out] at hs10; have hB10 := Lib.hid (below_then hB9.out hd10 hB9.out.size))
    | (go_at_call 25; with_reducible refine (streamBytes_300 g ky hkl _ 8 nn w10 (HG3.out.keep hB10.out) hs10).mono ?_; rintro e w11 ⟨A11, c11, rfl, hs11, ha11, hd11⟩; have hB11 := Lib.hid (below_then hB10.out hd11 hB10.out.size)))
  obtain ⟨g9, o9, rfl, hg9, _⟩ := hs11.place (by omega)
  have HG11 := Lib.hid (HG3.out.keep hB11.out)
  have hle := hs11.le
  clear hs4 hd4 hb4 hd5 hB5 hs6 hd6 hb6 hd7 hB7 hs8 hd8 hb8 hd9 hB9 hs10 hd10 hb10 hB10 hd11 HG3 ha11
  obtain ⟨fr, hfr, hfrl⟩ := from_300 z4
  obtain ⟨n2, hn2⟩ : ∃ n2, 300 - fr = n2 := ⟨_, rfl⟩
  have hsub : (300 : Int) - (fr : Int) = (n2 : Int) := by omega
  have HN2 := Lib.hid hn2
  clear hn2
  go_upto_region 17 with fail
  rw [hfr]
  go_upto_region 18 with (first
    | (go_at_call_has 26 c1; with_reducible refine (lawNonce_any A1 m1 c1 n w11 (H13.out.below hB11.out)).mono ?_; rintro e w12 ⟨rfl, hb12, hs12, hd12⟩; rw [HN.out] at hs12)
    | (go_at_call 25; with_reducible refine (streamBytes_any g ky 4 (by omega) hkl _ 8 nn fr n2 (by omega) (by have := HN2.out; omega) w12 (HG11.out.keep hd12) hs12).mono ?_; rintro e w13 ⟨A13, c13, rfl, hs13, ha13, hd13⟩))
  have hB13 := Lib.hid (below_then hB11.out (below_then hd12 hd13 hd12.size) hB11.out.size)
  have k1 := strB hs13.drew
  have hcut := ((hs11.below hd12).below hd13).cut fr 300 c11 (by omega) (Nat.le_refl _) (by omega) (Nat.le_refl _)
  rw [if_neg (by omega), ← List.map_drop, ← List.map_take, streamL_drop ky nn 300 fr (by omega), Option.map_some, Nat.mul_one, add_mk, HN2.out] at hcut
  obtain ⟨c2, hc2⟩ : ∃ c2, c11 - fr = c2 := ⟨_, rfl⟩
  have hc2i : (c11 : Int) - (fr : Int) = (c2 : Int) := by omega
  rw [hc2] at hcut
  have k2 := strB hcut.drew
  have l1 : (fr : Int) ≤ 300 := by omega
  have hcf : ¬ c11 = fr := by omega
  have l2 : (fr : Int) ≤ (c11 : Int) := by omega
  have hsub2 : 300 - fr = n2 := HN2.out
  clear hcut hs13 hs12 hd12 hd13 hb12 hs11 ha13
  go_region_held (fun W => (convert 22 9 (.slice A13 n2 c13)).run Try.prog W = .ok (.string (bs (streamL ky nn fr n2))) W ∧ (convert 22 9 (.slice (some ⟨g9, o9 + fr, none⟩) n2 c2)).run Try.prog W = .ok (.string (bs (streamL ky nn fr n2))) W) (first | exact ⟨k1, k2⟩) (first | fail)
  all_goals go_wp2_with fail
  all_goals go_ret
  all_goals exact ⟨rfl, (below_then HB3.out hB13.out HB3.out.size).drew⟩

set_option maxRecDepth 10000 in
set_option maxHeartbeats 1000000 in
theorem parts_neg1 (A0 A1 : Option Addr) (m0 c0 c1 : Nat) (z2 z3 z4 : Int) (k n : List UInt8) (w : World) (h0 : Sl w A0 m0 c0 (k.map vb)) (h1 : Sl w A1 8 c1 (n.map vb)) (hz : z2 < 0) (h4 : -9223372036854775808 ≤ z4 ∧ z4 ≤ 9223372036854775807) :
    Calls Try.prog 10 #[.slice A0 m0 c0, .slice A1 8 c1, vi z2, vi z3, vi z4] w fun e w' => e = .returned (.bool true) ∧ Below w.heap.size w w' := by
  have H0 := Lib.hid h0
  have H1 := Lib.hid h1
  have H4 := Lib.hid h4
  have b1 : decide (z2 < 0) = true := decide_eq_true hz
  obtain ⟨ky, hky⟩ : ∃ ky, padTo 16 k = ky := ⟨_, rfl⟩
  obtain ⟨nn, hnn⟩ : ∃ nn, padTo 8 n = nn := ⟨_, rfl⟩
  have hkl : ky.length = 4 * 4 := by rw [← hky, padTo_length]
  have HK := Lib.hid hky
  have HN := Lib.hid hnn
  clear h0 h1 h4 hky hnn
  go_enter Try.func10, Try.ntmps10
  go_upto_region 10 with (first
    | (go_at_call 23; refine (lawLives06_any w).mono ?_; rintro e w1 ⟨rfl, hd1⟩)
    | (go_at_call 24; refine (lawMade_any A0 m0 c0 k w1 (H0.out.below hd1)).mono ?_; rintro e w2 ⟨g, rfl, hg2, hs2, hd2⟩; rw [HK.out] at hg2; have hB2 := below_then hd1 hd2 hd1.size)
    | (go_at_call 25; refine (streamBytes_range g A1 c1 z2 _ (by omega) w2).mono ?_; rintro e w3 ⟨rfl, hd3⟩; have hB3 := below_then hB2 hd3 hB2.size))
  have HG3 := Lib.hid (hg2.keep hd3)
  have HB3 := Lib.hid hB3
  have H13 := Lib.hid (H1.out.below hB3)
  clear hd1 hd2 hd3 hB2 hB3 hg2 hs2
  go_upto_region 16 with (first
    | (go_at_call_has 26 c1; with_reducible refine (lawNonce_any A1 8 c1 n w3 H13.out).mono ?_; rintro e w4 ⟨rfl, hb4, hs4, hd4⟩)
    | (go_at_call 25; with_reducible refine (streamBytes_range g _ 8 0 1048577 (by omega) w4).mono ?_; rintro e w5 ⟨rfl, hd5⟩; have hB5 := Lib.hid (below_then hd4 hd5 hd4.size))
    | (go_at_call_has 26 c1; with_reducible refine (lawNonce_any A1 8 c1 n w5 (H13.out.below hB5.out)).mono ?_; rintro e w6 ⟨rfl, hb6, hs6, hd6⟩)
    | (go_at_call 25; with_reducible refine (streamBytes_nil _ 8 8 0 1 w6).mono ?_; rintro e w7 ⟨rfl, hd7⟩; have hB7 := Lib.hid (below_then hB5.out (below_then hd6 hd7 hd6.size) hB5.out.size))
    | (go_at_call_has 26 c1; with_reducible refine (lawNonce_any A1 8 c1 n w7 (H13.out.below hB7.out)).mono ?_; rintro e w8 ⟨rfl, hb8, hs8, hd8⟩)
    | (go_at_call 37; with_reducible refine (streamXor_nil _ _ 8 8 0 0 w8).mono ?_; rintro e w9 ⟨rfl, hd9⟩; have hB9 := Lib.hid (below_then hB7.out (below_then hd8 hd9 hd8.size) hB7.out.size))
    | (go_at_call_has 26 c1; with_reducible refine (lawNonce_any A1 8 c1 n w9 (H13.out.below hB9.out)).mono ?_; rintro e w10 ⟨rfl, hb10, hs10, hd10⟩; rw [HN.out] at hs10; have hB10 := Lib.hid (below_then hB9.out hd10 hB9.out.size))
    | (go_at_call 25; with_reducible refine (streamBytes_300 g ky hkl _ 8 nn w10 (HG3.out.keep hB10.out) hs10).mono ?_; rintro e w11 ⟨A11, c11, rfl, hs11, ha11, hd11⟩; have hB11 := Lib.hid (below_then hB10.out hd11 hB10.out.size)))
  obtain ⟨g9, o9, rfl, hg9, _⟩ := hs11.place (by omega)
  have HG11 := Lib.hid (HG3.out.keep hB11.out)
  have hle := hs11.le
  clear hs4 hd4 hb4 hd5 hB5 hs6 hd6 hb6 hd7 hB7 hs8 hd8 hb8 hd9 hB9 hs10 hd10 hb10 hB10 hd11 HG3 ha11
  obtain ⟨fr, hfr, hfrl⟩ := from_300 z4
  obtain ⟨n2, hn2⟩ : ∃ n2, 300 - fr = n2 := ⟨_, rfl⟩
  have hsub : (300 : Int) - (fr : Int) = (n2 : Int) := by omega
  have HN2 := Lib.hid hn2
  clear hn2
  go_upto_region 17 with fail
  rw [hfr]
  go_upto_region 18 with (first
    | (go_at_call_has 26 c1; with_reducible refine (lawNonce_any A1 8 c1 n w11 (H13.out.below hB11.out)).mono ?_; rintro e w12 ⟨rfl, hb12, hs12, hd12⟩; rw [HN.out] at hs12)
    | (go_at_call 25; with_reducible refine (streamBytes_any g ky 4 (by omega) hkl _ 8 nn fr n2 (by omega) (by have := HN2.out; omega) w12 (HG11.out.keep hd12) hs12).mono ?_; rintro e w13 ⟨A13, c13, rfl, hs13, ha13, hd13⟩))
  have hB13 := Lib.hid (below_then hB11.out (below_then hd12 hd13 hd12.size) hB11.out.size)
  have k1 := strB hs13.drew
  have hcut := ((hs11.below hd12).below hd13).cut fr 300 c11 (by omega) (Nat.le_refl _) (by omega) (Nat.le_refl _)
  rw [if_neg (by omega), ← List.map_drop, ← List.map_take, streamL_drop ky nn 300 fr (by omega), Option.map_some, Nat.mul_one, add_mk, HN2.out] at hcut
  obtain ⟨c2, hc2⟩ : ∃ c2, c11 - fr = c2 := ⟨_, rfl⟩
  have hc2i : (c11 : Int) - (fr : Int) = (c2 : Int) := by omega
  rw [hc2] at hcut
  have k2 := strB hcut.drew
  have l1 : (fr : Int) ≤ 300 := by omega
  have hcf : ¬ c11 = fr := by omega
  have l2 : (fr : Int) ≤ (c11 : Int) := by omega
  have hsub2 : 300 - fr = n2 := HN2.out
  clear hcut hs13 hs12 hd12 hd13 hb12 hs11 ha13
  go_region_held (fun W => (convert 22 9 (.slice A13 n2 c13)).run Try.prog W = .ok (.string (bs (streamL ky nn fr n2))) W ∧ (convert 22 9 (.slice (some ⟨g9, o9 + fr, none⟩) n2 c2)).run Try.prog W = .ok (.string (bs (streamL ky nn fr n2))) W) (first | exact ⟨k1, k2⟩) (first | fail)
  all_goals go_wp2_with fail
  all_goals go_ret
  all_goals exact ⟨rfl, (below_then HB3.out hB13.out HB3.out.size).drew⟩

set_option maxRecDepth 10000 in
set_option maxHeartbeats 1000000 in
theorem parts_neg2 (A0 A1 : Option Addr) (m0 c0 c1 : Nat) (z2 z3 z4 : Int) (k n : List UInt8) (w : World) (h0 : Sl w A0 m0 c0 (k.map vb)) (h1 : Sl w A1 8 c1 (n.map vb)) (hz : ¬ z2 < 0) (hy : z3 < 0) (h4 : -9223372036854775808 ≤ z4 ∧ z4 ≤ 9223372036854775807) :
    Calls Try.prog 10 #[.slice A0 m0 c0, .slice A1 8 c1, vi z2, vi z3, vi z4] w fun e w' => e = .returned (.bool true) ∧ Below w.heap.size w w' := by
  have H0 := Lib.hid h0
  have H1 := Lib.hid h1
  have H4 := Lib.hid h4
  have b1 : decide (z2 < 0) = false := decide_eq_false hz
  have b2 : decide (z3 < 0) = true := decide_eq_true hy
  obtain ⟨ky, hky⟩ : ∃ ky, padTo 16 k = ky := ⟨_, rfl⟩
  obtain ⟨nn, hnn⟩ : ∃ nn, padTo 8 n = nn := ⟨_, rfl⟩
  have hkl : ky.length = 4 * 4 := by rw [← hky, padTo_length]
  have HK := Lib.hid hky
  have HN := Lib.hid hnn
  clear h0 h1 h4 hky hnn
  go_enter Try.func10, Try.ntmps10
  go_upto_region 10 with (first
    | (go_at_call 23; refine (lawLives06_any w).mono ?_; rintro e w1 ⟨rfl, hd1⟩)
    | (go_at_call 24; refine (lawMade_any A0 m0 c0 k w1 (H0.out.below hd1)).mono ?_; rintro e w2 ⟨g, rfl, hg2, hs2, hd2⟩; rw [HK.out] at hg2; have hB2 := below_then hd1 hd2 hd1.size)
    | (go_at_call 25; refine (streamBytes_range g A1 c1 z2 _ (by omega) w2).mono ?_; rintro e w3 ⟨rfl, hd3⟩; have hB3 := below_then hB2 hd3 hB2.size))
  have HG3 := Lib.hid (hg2.keep hd3)
  have HB3 := Lib.hid hB3
  have H13 := Lib.hid (H1.out.below hB3)
  clear hd1 hd2 hd3 hB2 hB3 hg2 hs2
  go_upto_region 16 with (first
    | (go_at_call_has 26 c1; with_reducible refine (lawNonce_any A1 8 c1 n w3 H13.out).mono ?_; rintro e w4 ⟨rfl, hb4, hs4, hd4⟩)
    | (go_at_call 25; with_reducible refine (streamBytes_range g _ 8 0 1048577 (by omega) w4).mono ?_; rintro e w5 ⟨rfl, hd5⟩; have hB5 := Lib.hid (below_then hd4 hd5 hd4.size))
    | (go_at_call_has 26 c1; with_reducible refine (lawNonce_any A1 8 c1 n w5 (H13.out.below hB5.out)).mono ?_; rintro e w6 ⟨rfl, hb6, hs6, hd6⟩)
    | (go_at_call 25; with_reducible refine (streamBytes_nil _ 8 8 0 1 w6).mono ?_; rintro e w7 ⟨rfl, hd7⟩; have hB7 := Lib.hid (below_then hB5.out (below_then hd6 hd7 hd6.size) hB5.out.size))
    | (go_at_call_has 26 c1; with_reducible refine (lawNonce_any A1 8 c1 n w7 (H13.out.below hB7.out)).mono ?_; rintro e w8 ⟨rfl, hb8, hs8, hd8⟩)
    | (go_at_call 37; with_reducible refine (streamXor_nil _ _ 8 8 0 0 w8).mono ?_; rintro e w9 ⟨rfl, hd9⟩; have hB9 := Lib.hid (below_then hB7.out (below_then hd8 hd9 hd8.size) hB7.out.size))
    | (go_at_call_has 26 c1; with_reducible refine (lawNonce_any A1 8 c1 n w9 (H13.out.below hB9.out)).mono ?_; rintro e w10 ⟨rfl, hb10, hs10, hd10⟩; rw [HN.out] at hs10; have hB10 := Lib.hid (below_then hB9.out hd10 hB9.out.size))
    | (go_at_call 25; with_reducible refine (streamBytes_300 g ky hkl _ 8 nn w10 (HG3.out.keep hB10.out) hs10).mono ?_; rintro e w11 ⟨A11, c11, rfl, hs11, ha11, hd11⟩; have hB11 := Lib.hid (below_then hB10.out hd11 hB10.out.size)))
  obtain ⟨g9, o9, rfl, hg9, _⟩ := hs11.place (by omega)
  have HG11 := Lib.hid (HG3.out.keep hB11.out)
  have hle := hs11.le
  clear hs4 hd4 hb4 hd5 hB5 hs6 hd6 hb6 hd7 hB7 hs8 hd8 hb8 hd9 hB9 hs10 hd10 hb10 hB10 hd11 HG3 ha11
  obtain ⟨fr, hfr, hfrl⟩ := from_300 z4
  obtain ⟨n2, hn2⟩ : ∃ n2, 300 - fr = n2 := ⟨_, rfl⟩
  have hsub : (300 : Int) - (fr : Int) = (n2 : Int) := by omega
  have HN2 := Lib.hid hn2
  clear hn2
  go_upto_region 17 with fail
  rw [hfr]
  go_upto_region 18 with (first
    | (go_at_call_has 26 c1; with_reducible refine (lawNonce_any A1 8 c1 n w11 (H13.out.below hB11.out)).mono ?_; rintro e w12 ⟨rfl, hb12, hs12, hd12⟩; rw [HN.out] at hs12)
    | (go_at_call 25; with_reducible refine (streamBytes_any g ky 4 (by omega) hkl _ 8 nn fr n2 (by omega) (by have := HN2.out; omega) w12 (HG11.out.keep hd12) hs12).mono ?_; rintro e w13 ⟨A13, c13, rfl, hs13, ha13, hd13⟩))
  have hB13 := Lib.hid (below_then hB11.out (below_then hd12 hd13 hd12.size) hB11.out.size)
  have k1 := strB hs13.drew
  have hcut := ((hs11.below hd12).below hd13).cut fr 300 c11 (by omega) (Nat.le_refl _) (by omega) (Nat.le_refl _)
  rw [if_neg (by omega), ← List.map_drop, ← List.map_take, streamL_drop ky nn 300 fr (by omega), Option.map_some, Nat.mul_one, add_mk, HN2.out] at hcut
  obtain ⟨c2, hc2⟩ : ∃ c2, c11 - fr = c2 := ⟨_, rfl⟩
  have hc2i : (c11 : Int) - (fr : Int) = (c2 : Int) := by omega
  rw [hc2] at hcut
  have k2 := strB hcut.drew
  have l1 : (fr : Int) ≤ 300 := by omega
  have hcf : ¬ c11 = fr := by omega
  have l2 : (fr : Int) ≤ (c11 : Int) := by omega
  have hsub2 : 300 - fr = n2 := HN2.out
  clear hcut hs13 hs12 hd12 hd13 hb12 hs11 ha13
  go_region_held (fun W => (convert 22 9 (.slice A13 n2 c13)).run Try.prog W = .ok (.string (bs (streamL ky nn fr n2))) W ∧ (convert 22 9 (.slice (some ⟨g9, o9 + fr, none⟩) n2 c2)).run Try.prog W = .ok (.string (bs (streamL ky nn fr n2))) W) (first | exact ⟨k1, k2⟩) (first | fail)
  all_goals go_wp2_with fail
  all_goals go_ret
  all_goals exact ⟨rfl, (below_then HB3.out hB13.out HB3.out.size).drew⟩

set_option maxRecDepth 10000 in
set_option maxHeartbeats 1000000 in
theorem parts_neg3 (A0 A1 : Option Addr) (m0 c0 c1 : Nat) (z2 z3 z4 : Int) (k n : List UInt8) (w : World) (h0 : Sl w A0 m0 c0 (k.map vb)) (h1 : Sl w A1 8 c1 (n.map vb)) (hz : ¬ z2 < 0) (hy : ¬ z3 < 0) (hx : 1073741824 < z2) (h4 : -9223372036854775808 ≤ z4 ∧ z4 ≤ 9223372036854775807) :
    Calls Try.prog 10 #[.slice A0 m0 c0, .slice A1 8 c1, vi z2, vi z3, vi z4] w fun e w' => e = .returned (.bool true) ∧ Below w.heap.size w w' := by
  have H0 := Lib.hid h0
  have H1 := Lib.hid h1
  have H4 := Lib.hid h4
  have b1 : decide (z2 < 0) = false := decide_eq_false hz
  have b2 : decide (z3 < 0) = false := decide_eq_false hy
  have b3 : decide (1073741824 < z2) = true := decide_eq_true hx
  obtain ⟨ky, hky⟩ : ∃ ky, padTo 16 k = ky := ⟨_, rfl⟩
  obtain ⟨nn, hnn⟩ : ∃ nn, padTo 8 n = nn := ⟨_, rfl⟩
  have hkl : ky.length = 4 * 4 := by rw [← hky, padTo_length]
  have HK := Lib.hid hky
  have HN := Lib.hid hnn
  clear h0 h1 h4 hky hnn
  go_enter Try.func10, Try.ntmps10
  go_upto_region 10 with (first
    | (go_at_call 23; refine (lawLives06_any w).mono ?_; rintro e w1 ⟨rfl, hd1⟩)
    | (go_at_call 24; refine (lawMade_any A0 m0 c0 k w1 (H0.out.below hd1)).mono ?_; rintro e w2 ⟨g, rfl, hg2, hs2, hd2⟩; rw [HK.out] at hg2; have hB2 := below_then hd1 hd2 hd1.size)
    | (go_at_call 25; refine (streamBytes_range g A1 c1 z2 _ (by omega) w2).mono ?_; rintro e w3 ⟨rfl, hd3⟩; have hB3 := below_then hB2 hd3 hB2.size))
  have HG3 := Lib.hid (hg2.keep hd3)
  have HB3 := Lib.hid hB3
  have H13 := Lib.hid (H1.out.below hB3)
  clear hd1 hd2 hd3 hB2 hB3 hg2 hs2
  go_upto_region 16 with (first
    | (go_at_call_has 26 c1; with_reducible refine (lawNonce_any A1 8 c1 n w3 H13.out).mono ?_; rintro e w4 ⟨rfl, hb4, hs4, hd4⟩)
    | (go_at_call 25; with_reducible refine (streamBytes_range g _ 8 0 1048577 (by omega) w4).mono ?_; rintro e w5 ⟨rfl, hd5⟩; have hB5 := Lib.hid (below_then hd4 hd5 hd4.size))
    | (go_at_call_has 26 c1; with_reducible refine (lawNonce_any A1 8 c1 n w5 (H13.out.below hB5.out)).mono ?_; rintro e w6 ⟨rfl, hb6, hs6, hd6⟩)
    | (go_at_call 25; with_reducible refine (streamBytes_nil _ 8 8 0 1 w6).mono ?_; rintro e w7 ⟨rfl, hd7⟩; have hB7 := Lib.hid (below_then hB5.out (below_then hd6 hd7 hd6.size) hB5.out.size))
    | (go_at_call_has 26 c1; with_reducible refine (lawNonce_any A1 8 c1 n w7 (H13.out.below hB7.out)).mono ?_; rintro e w8 ⟨rfl, hb8, hs8, hd8⟩)
    | (go_at_call 37; with_reducible refine (streamXor_nil _ _ 8 8 0 0 w8).mono ?_; rintro e w9 ⟨rfl, hd9⟩; have hB9 := Lib.hid (below_then hB7.out (below_then hd8 hd9 hd8.size) hB7.out.size))
    | (go_at_call_has 26 c1; with_reducible refine (lawNonce_any A1 8 c1 n w9 (H13.out.below hB9.out)).mono ?_; rintro e w10 ⟨rfl, hb10, hs10, hd10⟩; rw [HN.out] at hs10; have hB10 := Lib.hid (below_then hB9.out hd10 hB9.out.size))
    | (go_at_call 25; with_reducible refine (streamBytes_300 g ky hkl _ 8 nn w10 (HG3.out.keep hB10.out) hs10).mono ?_; rintro e w11 ⟨A11, c11, rfl, hs11, ha11, hd11⟩; have hB11 := Lib.hid (below_then hB10.out hd11 hB10.out.size)))
  obtain ⟨g9, o9, rfl, hg9, _⟩ := hs11.place (by omega)
  have HG11 := Lib.hid (HG3.out.keep hB11.out)
  have hle := hs11.le
  clear hs4 hd4 hb4 hd5 hB5 hs6 hd6 hb6 hd7 hB7 hs8 hd8 hb8 hd9 hB9 hs10 hd10 hb10 hB10 hd11 HG3 ha11
  obtain ⟨fr, hfr, hfrl⟩ := from_300 z4
  obtain ⟨n2, hn2⟩ : ∃ n2, 300 - fr = n2 := ⟨_, rfl⟩
  have hsub : (300 : Int) - (fr : Int) = (n2 : Int) := by omega
  have HN2 := Lib.hid hn2
  clear hn2
  go_upto_region 17 with fail
  rw [hfr]
  go_upto_region 18 with (first
    | (go_at_call_has 26 c1; with_reducible refine (lawNonce_any A1 8 c1 n w11 (H13.out.below hB11.out)).mono ?_; rintro e w12 ⟨rfl, hb12, hs12, hd12⟩; rw [HN.out] at hs12)
    | (go_at_call 25; with_reducible refine (streamBytes_any g ky 4 (by omega) hkl _ 8 nn fr n2 (by omega) (by have := HN2.out; omega) w12 (HG11.out.keep hd12) hs12).mono ?_; rintro e w13 ⟨A13, c13, rfl, hs13, ha13, hd13⟩))
  have hB13 := Lib.hid (below_then hB11.out (below_then hd12 hd13 hd12.size) hB11.out.size)
  have k1 := strB hs13.drew
  have hcut := ((hs11.below hd12).below hd13).cut fr 300 c11 (by omega) (Nat.le_refl _) (by omega) (Nat.le_refl _)
  rw [if_neg (by omega), ← List.map_drop, ← List.map_take, streamL_drop ky nn 300 fr (by omega), Option.map_some, Nat.mul_one, add_mk, HN2.out] at hcut
  obtain ⟨c2, hc2⟩ : ∃ c2, c11 - fr = c2 := ⟨_, rfl⟩
  have hc2i : (c11 : Int) - (fr : Int) = (c2 : Int) := by omega
  rw [hc2] at hcut
  have k2 := strB hcut.drew
  have l1 : (fr : Int) ≤ 300 := by omega
  have hcf : ¬ c11 = fr := by omega
  have l2 : (fr : Int) ≤ (c11 : Int) := by omega
  have hsub2 : 300 - fr = n2 := HN2.out
  clear hcut hs13 hs12 hd12 hd13 hb12 hs11 ha13
  go_region_held (fun W => (convert 22 9 (.slice A13 n2 c13)).run Try.prog W = .ok (.string (bs (streamL ky nn fr n2))) W ∧ (convert 22 9 (.slice (some ⟨g9, o9 + fr, none⟩) n2 c2)).run Try.prog W = .ok (.string (bs (streamL ky nn fr n2))) W) (first | exact ⟨k1, k2⟩) (first | fail)
  all_goals go_wp2_with fail
  all_goals go_ret
  all_goals exact ⟨rfl, (below_then HB3.out hB13.out HB3.out.size).drew⟩

set_option maxRecDepth 10000 in
set_option maxHeartbeats 1000000 in
theorem parts_okS (A0 A1 : Option Addr) (m0 c0 c1 : Nat) (z2 z3 z4 : Int) (k n : List UInt8) (w : World) (h0 : Sl w A0 m0 c0 (k.map vb)) (h1 : Sl w A1 8 c1 (n.map vb)) (hz : ¬ z2 < 0) (hx : ¬ 1073741824 < z2) (hy : ¬ z3 < 0) (hv : ¬ 300 < z3) (h4 : -9223372036854775808 ≤ z4 ∧ z4 ≤ 9223372036854775807) :
    Calls Try.prog 10 #[.slice A0 m0 c0, .slice A1 8 c1, vi z2, vi z3, vi z4] w fun e w' => e = .returned (.bool true) ∧ Below w.heap.size w w' := by
  have H0 := Lib.hid h0
  have H1 := Lib.hid h1
  have H4 := Lib.hid h4
  obtain ⟨a, rfl⟩ : ∃ a : Nat, z2 = a := ⟨z2.toNat, by omega⟩
  have b1 : decide ((a : Int) < 0) = false := by simp
  have b3 : decide (1073741824 < (a : Int)) = false := by simp; omega
  obtain ⟨s, rfl⟩ : ∃ s : Nat, z3 = s := ⟨z3.toNat, by omega⟩
  have b2 : decide ((s : Int) < 0) = false := by simp
  obtain ⟨ky, hky⟩ : ∃ ky, padTo 16 k = ky := ⟨_, rfl⟩
  obtain ⟨nn, hnn⟩ : ∃ nn, padTo 8 n = nn := ⟨_, rfl⟩
  have hkl : ky.length = 4 * 4 := by rw [← hky, padTo_length]
  have HK := Lib.hid hky
  have HN := Lib.hid hnn
  clear h0 h1 h4 hky hnn
  go_enter Try.func10, Try.ntmps10
  go_upto_region 10 with (first
    | (go_at_call 23; refine (lawLives06_any w).mono ?_; rintro e w1 ⟨rfl, hd1⟩)
    | (go_at_call 24; refine (lawMade_any A0 m0 c0 k w1 (H0.out.below hd1)).mono ?_; rintro e w2 ⟨g, rfl, hg2, hs2, hd2⟩; rw [HK.out] at hg2; have hB2 := below_then hd1 hd2 hd1.size)
    | (go_at_call 25; refine (streamBytes_any g ky 4 (by omega) hkl A1 c1 n a s (by omega) (by omega) w2 hg2 (H1.out.below hB2)).mono ?_; rintro e w3 ⟨A3, c3, rfl, _, _, hd3⟩; have hB3 := below_then hB2 hd3 hB2.size))
  have HG3 := Lib.hid (hg2.keep hd3)
  have HB3 := Lib.hid hB3
  have H13 := Lib.hid (H1.out.below hB3)
  clear hd1 hd2 hd3 hB2 hB3 hg2 hs2
  go_upto_region 16 with (first
    | (go_at_call_has 26 c1; with_reducible refine (lawNonce_any A1 8 c1 n w3 H13.out).mono ?_; rintro e w4 ⟨rfl, hb4, hs4, hd4⟩)
    | (go_at_call 25; with_reducible refine (streamBytes_range g _ 8 0 1048577 (by omega) w4).mono ?_; rintro e w5 ⟨rfl, hd5⟩; have hB5 := Lib.hid (below_then hd4 hd5 hd4.size))
    | (go_at_call_has 26 c1; with_reducible refine (lawNonce_any A1 8 c1 n w5 (H13.out.below hB5.out)).mono ?_; rintro e w6 ⟨rfl, hb6, hs6, hd6⟩)
    | (go_at_call 25; with_reducible refine (streamBytes_nil _ 8 8 0 1 w6).mono ?_; rintro e w7 ⟨rfl, hd7⟩; have hB7 := Lib.hid (below_then hB5.out (below_then hd6 hd7 hd6.size) hB5.out.size))
    | (go_at_call_has 26 c1; with_reducible refine (lawNonce_any A1 8 c1 n w7 (H13.out.below hB7.out)).mono ?_; rintro e w8 ⟨rfl, hb8, hs8, hd8⟩)
    | (go_at_call 37; with_reducible refine (streamXor_nil _ _ 8 8 0 0 w8).mono ?_; rintro e w9 ⟨rfl, hd9⟩; have hB9 := Lib.hid (below_then hB7.out (below_then hd8 hd9 hd8.size) hB7.out.size))
    | (go_at_call_has 26 c1; with_reducible refine (lawNonce_any A1 8 c1 n w9 (H13.out.below hB9.out)).mono ?_; rintro e w10 ⟨rfl, hb10, hs10, hd10⟩; rw [HN.out] at hs10; have hB10 := Lib.hid (below_then hB9.out hd10 hB9.out.size))
    | (go_at_call 25; with_reducible refine (streamBytes_300 g ky hkl _ 8 nn w10 (HG3.out.keep hB10.out) hs10).mono ?_; rintro e w11 ⟨A11, c11, rfl, hs11, ha11, hd11⟩; have hB11 := Lib.hid (below_then hB10.out hd11 hB10.out.size)))
  obtain ⟨g9, o9, rfl, hg9, _⟩ := hs11.place (by omega)
  have HG11 := Lib.hid (HG3.out.keep hB11.out)
  have hle := hs11.le
  clear hs4 hd4 hb4 hd5 hB5 hs6 hd6 hb6 hd7 hB7 hs8 hd8 hb8 hd9 hB9 hs10 hd10 hb10 hB10 hd11 HG3 ha11
  obtain ⟨fr, hfr, hfrl⟩ := from_300 z4
  obtain ⟨n2, hn2⟩ : ∃ n2, 300 - fr = n2 := ⟨_, rfl⟩
  have hsub : (300 : Int) - (fr : Int) = (n2 : Int) := by omega
  have HN2 := Lib.hid hn2
  clear hn2
  go_upto_region 17 with fail
  rw [hfr]
  go_upto_region 18 with (first
    | (go_at_call_has 26 c1; with_reducible refine (lawNonce_any A1 8 c1 n w11 (H13.out.below hB11.out)).mono ?_; rintro e w12 ⟨rfl, hb12, hs12, hd12⟩; rw [HN.out] at hs12)
    | (go_at_call 25; with_reducible refine (streamBytes_any g ky 4 (by omega) hkl _ 8 nn fr n2 (by omega) (by have := HN2.out; omega) w12 (HG11.out.keep hd12) hs12).mono ?_; rintro e w13 ⟨A13, c13, rfl, hs13, ha13, hd13⟩))
  have hB13 := Lib.hid (below_then hB11.out (below_then hd12 hd13 hd12.size) hB11.out.size)
  have k1 := strB hs13.drew
  have hcut := ((hs11.below hd12).below hd13).cut fr 300 c11 (by omega) (Nat.le_refl _) (by omega) (Nat.le_refl _)
  rw [if_neg (by omega), ← List.map_drop, ← List.map_take, streamL_drop ky nn 300 fr (by omega), Option.map_some, Nat.mul_one, add_mk, HN2.out] at hcut
  obtain ⟨c2, hc2⟩ : ∃ c2, c11 - fr = c2 := ⟨_, rfl⟩
  have hc2i : (c11 : Int) - (fr : Int) = (c2 : Int) := by omega
  rw [hc2] at hcut
  have k2 := strB hcut.drew
  have l1 : (fr : Int) ≤ 300 := by omega
  have hcf : ¬ c11 = fr := by omega
  have l2 : (fr : Int) ≤ (c11 : Int) := by omega
  have hsub2 : 300 - fr = n2 := HN2.out
  clear hcut hs13 hs12 hd12 hd13 hb12 hs11 ha13
  go_region_held (fun W => (convert 22 9 (.slice A13 n2 c13)).run Try.prog W = .ok (.string (bs (streamL ky nn fr n2))) W ∧ (convert 22 9 (.slice (some ⟨g9, o9 + fr, none⟩) n2 c2)).run Try.prog W = .ok (.string (bs (streamL ky nn fr n2))) W) (first | exact ⟨k1, k2⟩) (first | fail)
  all_goals go_wp2_with fail
  all_goals go_ret
  all_goals exact ⟨rfl, (below_then HB3.out hB13.out HB3.out.size).drew⟩

set_option maxRecDepth 10000 in
set_option maxHeartbeats 1000000 in
theorem parts_okL (A0 A1 : Option Addr) (m0 c0 c1 : Nat) (z2 z3 z4 : Int) (k n : List UInt8) (w : World) (h0 : Sl w A0 m0 c0 (k.map vb)) (h1 : Sl w A1 8 c1 (n.map vb)) (hz : ¬ z2 < 0) (hx : ¬ 1073741824 < z2) (hy : ¬ z3 < 0) (hv : 300 < z3) (h4 : -9223372036854775808 ≤ z4 ∧ z4 ≤ 9223372036854775807) :
    Calls Try.prog 10 #[.slice A0 m0 c0, .slice A1 8 c1, vi z2, vi z3, vi z4] w fun e w' => e = .returned (.bool true) ∧ Below w.heap.size w w' := by
  have H0 := Lib.hid h0
  have H1 := Lib.hid h1
  have H4 := Lib.hid h4
  obtain ⟨a, rfl⟩ : ∃ a : Nat, z2 = a := ⟨z2.toNat, by omega⟩
  have b1 : decide ((a : Int) < 0) = false := by simp
  have b3 : decide (1073741824 < (a : Int)) = false := by simp; omega
  have b2 : decide (z3 < 0) = false := decide_eq_false hy
  obtain ⟨ky, hky⟩ : ∃ ky, padTo 16 k = ky := ⟨_, rfl⟩
  obtain ⟨nn, hnn⟩ : ∃ nn, padTo 8 n = nn := ⟨_, rfl⟩
  have hkl : ky.length = 4 * 4 := by rw [← hky, padTo_length]
  have HK := Lib.hid hky
  have HN := Lib.hid hnn
  clear h0 h1 h4 hky hnn
  go_enter Try.func10, Try.ntmps10
  go_upto_region 10 with (first
    | (go_at_call 23; refine (lawLives06_any w).mono ?_; rintro e w1 ⟨rfl, hd1⟩)
    | (go_at_call 24; refine (lawMade_any A0 m0 c0 k w1 (H0.out.below hd1)).mono ?_; rintro e w2 ⟨g, rfl, hg2, hs2, hd2⟩; rw [HK.out] at hg2; have hB2 := below_then hd1 hd2 hd1.size)
    | (go_at_call 25; refine (streamBytes_a300 g ky hkl A1 c1 n a (by omega) w2 hg2 (H1.out.below hB2)).mono ?_; rintro e w3 ⟨A3, c3, rfl, _, _, hd3⟩; have hB3 := below_then hB2 hd3 hB2.size))
  have HG3 := Lib.hid (hg2.keep hd3)
  have HB3 := Lib.hid hB3
  have H13 := Lib.hid (H1.out.below hB3)
  clear hd1 hd2 hd3 hB2 hB3 hg2 hs2
  go_upto_region 16 with (first
    | (go_at_call_has 26 c1; with_reducible refine (lawNonce_any A1 8 c1 n w3 H13.out).mono ?_; rintro e w4 ⟨rfl, hb4, hs4, hd4⟩)
    | (go_at_call 25; with_reducible refine (streamBytes_range g _ 8 0 1048577 (by omega) w4).mono ?_; rintro e w5 ⟨rfl, hd5⟩; have hB5 := Lib.hid (below_then hd4 hd5 hd4.size))
    | (go_at_call_has 26 c1; with_reducible refine (lawNonce_any A1 8 c1 n w5 (H13.out.below hB5.out)).mono ?_; rintro e w6 ⟨rfl, hb6, hs6, hd6⟩)
    | (go_at_call 25; with_reducible refine (streamBytes_nil _ 8 8 0 1 w6).mono ?_; rintro e w7 ⟨rfl, hd7⟩; have hB7 := Lib.hid (below_then hB5.out (below_then hd6 hd7 hd6.size) hB5.out.size))
    | (go_at_call_has 26 c1; with_reducible refine (lawNonce_any A1 8 c1 n w7 (H13.out.below hB7.out)).mono ?_; rintro e w8 ⟨rfl, hb8, hs8, hd8⟩)
    | (go_at_call 37; with_reducible refine (streamXor_nil _ _ 8 8 0 0 w8).mono ?_; rintro e w9 ⟨rfl, hd9⟩; have hB9 := Lib.hid (below_then hB7.out (below_then hd8 hd9 hd8.size) hB7.out.size))
    | (go_at_call_has 26 c1; with_reducible refine (lawNonce_any A1 8 c1 n w9 (H13.out.below hB9.out)).mono ?_; rintro e w10 ⟨rfl, hb10, hs10, hd10⟩; rw [HN.out] at hs10; have hB10 := Lib.hid (below_then hB9.out hd10 hB9.out.size))
    | (go_at_call 25; with_reducible refine (streamBytes_300 g ky hkl _ 8 nn w10 (HG3.out.keep hB10.out) hs10).mono ?_; rintro e w11 ⟨A11, c11, rfl, hs11, ha11, hd11⟩; have hB11 := Lib.hid (below_then hB10.out hd11 hB10.out.size)))
  obtain ⟨g9, o9, rfl, hg9, _⟩ := hs11.place (by omega)
  have HG11 := Lib.hid (HG3.out.keep hB11.out)
  have hle := hs11.le
  clear hs4 hd4 hb4 hd5 hB5 hs6 hd6 hb6 hd7 hB7 hs8 hd8 hb8 hd9 hB9 hs10 hd10 hb10 hB10 hd11 HG3 ha11
  obtain ⟨fr, hfr, hfrl⟩ := from_300 z4
  obtain ⟨n2, hn2⟩ : ∃ n2, 300 - fr = n2 := ⟨_, rfl⟩
  have hsub : (300 : Int) - (fr : Int) = (n2 : Int) := by omega
  have HN2 := Lib.hid hn2
  clear hn2
  go_upto_region 17 with fail
  rw [hfr]
  go_upto_region 18 with (first
    | (go_at_call_has 26 c1; with_reducible refine (lawNonce_any A1 8 c1 n w11 (H13.out.below hB11.out)).mono ?_; rintro e w12 ⟨rfl, hb12, hs12, hd12⟩; rw [HN.out] at hs12)
    | (go_at_call 25; with_reducible refine (streamBytes_any g ky 4 (by omega) hkl _ 8 nn fr n2 (by omega) (by have := HN2.out; omega) w12 (HG11.out.keep hd12) hs12).mono ?_; rintro e w13 ⟨A13, c13, rfl, hs13, ha13, hd13⟩))
  have hB13 := Lib.hid (below_then hB11.out (below_then hd12 hd13 hd12.size) hB11.out.size)
  have k1 := strB hs13.drew
  have hcut := ((hs11.below hd12).below hd13).cut fr 300 c11 (by omega) (Nat.le_refl _) (by omega) (Nat.le_refl _)
  rw [if_neg (by omega), ← List.map_drop, ← List.map_take, streamL_drop ky nn 300 fr (by omega), Option.map_some, Nat.mul_one, add_mk, HN2.out] at hcut
  obtain ⟨c2, hc2⟩ : ∃ c2, c11 - fr = c2 := ⟨_, rfl⟩
  have hc2i : (c11 : Int) - (fr : Int) = (c2 : Int) := by omega
  rw [hc2] at hcut
  have k2 := strB hcut.drew
  have l1 : (fr : Int) ≤ 300 := by omega
  have hcf : ¬ c11 = fr := by omega
  have l2 : (fr : Int) ≤ (c11 : Int) := by omega
  have hsub2 : 300 - fr = n2 := HN2.out
  clear hcut hs13 hs12 hd12 hd13 hb12 hs11 ha13
  go_region_held (fun W => (convert 22 9 (.slice A13 n2 c13)).run Try.prog W = .ok (.string (bs (streamL ky nn fr n2))) W ∧ (convert 22 9 (.slice (some ⟨g9, o9 + fr, none⟩) n2 c2)).run Try.prog W = .ok (.string (bs (streamL ky nn fr n2))) W) (first | exact ⟨k1, k2⟩) (first | fail)
  all_goals go_wp2_with fail
  all_goals go_ret
  all_goals exact ⟨rfl, (below_then HB3.out hB13.out HB3.out.size).drew⟩

theorem streamParts_any (A0 A1 : Option Addr) (m0 c0 m1 c1 : Nat) (z2 z3 z4 : Int) (k n : List UInt8) (w : World) (h0 : Sl w A0 m0 c0 (k.map vb)) (h1 : Sl w A1 m1 c1 (n.map vb)) (_ : (Lit.int .i64 z2).wf = true) (_ : (Lit.int .i64 z3).wf = true) (h4 : (Lit.int .i64 z4).wf = true) :
    Calls Try.prog 10 #[.slice A0 m0 c0, .slice A1 m1 c1, vi z2, vi z3, vi z4] w fun e w' => e = .returned (.bool true) ∧ Below w.heap.size w w' := by
  have h4' : -9223372036854775808 ≤ z4 ∧ z4 ≤ 9223372036854775807 := by
    have : IntKind.i64.min ≤ z4 ∧ z4 ≤ IntKind.i64.max := by simpa [Lit.wf] using h4
    have e1 : IntKind.i64.min = -9223372036854775808 := by decide
    have e2 : IntKind.i64.max = 9223372036854775807 := by decide
    omega
  by_cases hb : 100 < m1
  · exact parts_big A0 A1 m0 c0 m1 c1 z2 z3 z4 w hb
  by_cases h8 : m1 = 8
  · subst h8
    by_cases hz : z2 < 0
    · exact parts_neg1 A0 A1 m0 c0 c1 z2 z3 z4 k n w h0 h1 hz h4'
    by_cases hy : z3 < 0
    · exact parts_neg2 A0 A1 m0 c0 c1 z2 z3 z4 k n w h0 h1 hz hy h4'
    by_cases hx : 1073741824 < z2
    · exact parts_neg3 A0 A1 m0 c0 c1 z2 z3 z4 k n w h0 h1 hz hy hx h4'
    by_cases hv : 300 < z3
    · exact parts_okL A0 A1 m0 c0 c1 z2 z3 z4 k n w h0 h1 hz hx hy hv h4'
    · exact parts_okS A0 A1 m0 c0 c1 z2 z3 z4 k n w h0 h1 hz hx hy hv h4'
  · exact parts_form A0 A1 m0 c0 m1 c1 z2 z3 z4 k n w h0 h1 (by omega) h8 h4'
end Lg
