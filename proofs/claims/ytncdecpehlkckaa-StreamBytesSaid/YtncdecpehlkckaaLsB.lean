/-
Any bytes of any stream are those of the encrypted counters (the statement StreamBytes): the walk. No condition.
-/
import Derived.Test.YtncdecpehlkckaaLsX
import Derived.Deep.CutRange
namespace Lg
open Go Go.RowKit Go.Proofs

theorem from_n (N : Nat) (hN : 0 < N) (hN2 : N ≤ 9223372036854775807) (z : Int) : ∃ fr : Nat, wrap64 ((IntKind.u64.wrap z).tmod (N : Int)) = (fr : Int) ∧ fr < N := by
  have h0 : 0 ≤ IntKind.u64.wrap z := by rw [IntKind.wrap_u64]; omega
  have h1 : (IntKind.u64.wrap z).tmod (N : Int) = IntKind.u64.wrap z % (N : Int) := Int.tmod_eq_emod_of_nonneg h0
  have h2 := Int.emod_nonneg (IntKind.u64.wrap z) (show (N : Int) ≠ 0 by omega)
  have h3 := Int.emod_lt_of_pos (IntKind.u64.wrap z) (show (0 : Int) < (N : Int) by omega)
  refine ⟨(IntKind.u64.wrap z % (N : Int)).toNat, ?_, by omega⟩
  rw [h1]
  simp only [wrap64]
  omega
theorem from_at (z : Int) : ∃ fr : Nat, wrap64 ((IntKind.u64.wrap z).tmod 1073741825) = (fr : Int) ∧ fr < 1073741825 := from_n 1073741825 (by omega) (by omega) z
theorem from_200 (z : Int) : ∃ fr : Nat, wrap64 ((IntKind.u64.wrap z).tmod 200) = (fr : Int) ∧ fr < 200 := from_n 200 (by omega) (by omega) z
theorem own8 {w : World} {g B : Nat} {l : List UInt8} (h : Blk w g 5 (l.map vb)) (hl : l.length = 8) (hB : B ≤ g) : Ow w B 5 (some ⟨g, 0, none⟩) 8 8 (l.map vb) := by
  have h' := Blk.own h hB (by rw [List.length_map, hl]; simp [maxLen])
  rw [List.length_map, hl] at h'
  exact h'
theorem row_ge {g c k : Nat} (h : rowOf (some ⟨g, 0, none⟩) c = some k) : g ≤ k := by
  unfold rowOf at h
  split at h
  · cases h
  · cases h; exact Nat.le_refl _
theorem prev_block {a i p q r : Nat} (h : a + i = p ∧ p / 16 = q ∧ p % 16 = r) (hr : r ≠ 0) : (a + i - 1) / 16 = q := by omega
theorem int_ne0 {i : Nat} (h : i ≠ 0) : ((i : Int) == 0) = false := by simp; omega
theorem stream_idx (a i : Nat) (ha : a < 1073741825) (hi : i < 200) : ∃ p q r : Nat, a + i = p ∧ p / 16 = q ∧ p % 16 = r ∧ r < 16 ∧ q < 4294967296 ∧ IntKind.i64.wrap ((a : Int) + (i : Int)) = (p : Int) ∧ (p : Int) % 16 = (r : Int) ∧ (p : Int).tmod 16 = (r : Int) ∧ (p : Int) / 16 = (q : Int) ∧ ((a : Int) + (i : Int)) % 16 = (r : Int) ∧ ((a : Int) + (i : Int)) / 16 = (q : Int) := by
  refine ⟨a + i, (a + i) / 16, (a + i) % 16, rfl, rfl, rfl, by omega, by omega, ?_, by omega, ?_, by omega, by omega, by omega⟩
  · rw [IntWalk.i64_in _ (by omega)]; omega
  · rw [Int.tmod_eq_emod_of_nonneg (by omega)]; omega

set_option maxRecDepth 10000 in
set_option maxHeartbeats 2000000 in
theorem streamBytesLaw_any (A0 A1 : Option Addr) (m0 c0 m1 c1 : Nat) (z2 z3 : Int) (k n : List UInt8) (w : World) (h0 : Sl w A0 m0 c0 (k.map vb)) (h1 : Sl w A1 m1 c1 (n.map vb)) (_ : (Lit.int .i64 z2).wf = true) (_ : (Lit.int .i64 z3).wf = true) :
    Calls Try.prog 6 #[.slice A0 m0 c0, .slice A1 m1 c1, vi z2, vi z3] w fun e w' => e = .returned (.bool true) ∧ Below w.heap.size w w' := by
  have H0 := Lib.hid h0
  have H1 := Lib.hid h1
  obtain ⟨ky, hky⟩ : ∃ ky, padTo 16 k = ky := ⟨_, rfl⟩
  obtain ⟨nn, hnn⟩ : ∃ nn, padTo 8 n = nn := ⟨_, rfl⟩
  have hkl : ky.length = 4 * 4 := by rw [← hky, padTo_length]
  have hnl : nn.length = 8 := by rw [← hnn, padTo_length]
  have hk16 := aesWords_any ky 4 (by omega) hkl
  have HBLK := Lib.hid (stBlock_length hk16 hnl)
  have HNL := Lib.hid hnl
  have HK := Lib.hid hky
  have HN := Lib.hid hnn
  clear h0 h1 hky hnn hnl hk16
  obtain ⟨a, ha, hal⟩ := from_at z2
  obtain ⟨sz, hsz, hszl⟩ := from_200 z3
  go_enter Try.func6, Try.ntmps6
  go_upto_region 5 with (first
    | (go_at_call 23; refine (lawLives06_any w).mono ?_; rintro e w1 ⟨rfl, hd1⟩)
    | (go_at_call 24; refine (lawMade_any A0 m0 c0 k w1 (H0.out.below hd1)).mono ?_; rintro e w2 ⟨g, rfl, hg2, hs2, hd2⟩; rw [HK.out] at hg2 hs2; have hB2 := below_then hd1 hd2 hd1.size))
  rw [ha, hsz]
  have HG2 := Lib.hid hg2
  have HS2 := Lib.hid hs2
  have HB2 := Lib.hid hB2
  have H12 := Lib.hid (H1.out.below hB2)
  obtain ⟨ok, hok⟩ : ∃ o, w1.heap.size = o := ⟨_, rfl⟩
  rw [hok] at HS2 ⊢
  clear ha hsz hg2 hs2 hB2 hd1 hd2 hok
  go_upto_region 9 with (first
    | (go_at_call 26; refine (lawNonce_any A1 m1 c1 n w2 H12.out).mono ?_; rintro e w3 ⟨rfl, hb3, hs3, hd3⟩; rw [HN.out] at hs3)
    | (go_at_call 25; refine (streamBytes_any g ky 4 (by omega) hkl _ 8 nn a sz (by omega) (by omega) w3 (HG2.out.keep hd3) hs3).mono ?_; rintro e w4 ⟨A4, c4, rfl, hs4, ha4, hd4⟩))
  have hd34 := below_then hd3 hd4 hd3.size
  have HS4 := Lib.hid hs4
  have HK4 := Lib.hid (HS2.out.below hd34)
  have H14 := Lib.hid (H12.out.below hd34)
  have HB4 := Lib.hid (below_then HB2.out hd34 HB2.out.size)
  clear hb3 hs3 hd3 hs4 ha4 hd4 hd34 HG2 HS2 HB2 H12
  go_wp2
  go_loopw [13, 49] (fun s13 s49 wr => ∃ i : Nat, i ≤ sz ∧ s49 = vi i ∧ Hid (Below w4.heap.size w4 wr) ∧ Hid (i = 0 ∨ ∃ gx, s13 = .slice (some ⟨gx, 0, none⟩) 16 16 ∧ Sl wr (some ⟨gx, 0, none⟩) 16 16 ((stBlock ky nn ((a + i - 1) / 16)).map vb))) (fun _ s49 _ => sz - (intOf s49).toNat)
  case atStart => exact ⟨0, by omega, rfl, Below.refl _ _, .inl rfl⟩
  case round =>
    obtain ⟨i, hi, rfl, HB, HX⟩ := hrel
    by_cases hlt : i < sz
    · obtain ⟨p, q, r, hp, hq, hr, hr16, hq64, v1, v2, v3, v4, v5, v6⟩ := stream_idx a i hal (by omega)
      have HP := Lib.hid (show a + i = p ∧ p / 16 = q ∧ p % 16 = r from ⟨hp, hq, hr⟩)
      have hbs := HB.out.size
      have hqq : q < 18446744073709551616 := Nat.lt_of_lt_of_le hq64 (by decide)
      clear hp hq hr
      obtain ⟨g4, o4, rfl, _, _⟩ := HS4.out.place (Nat.lt_of_le_of_lt (Nat.zero_le i) hlt)
      by_cases hi0 : i = 0
      · subst hi0
        have hap : a = p := HP.out.1
        subst hap
        clear v1 v5 v6
        have v7 : IntKind.i64.wrap (a : Int) = (a : Int) := IntWalk.i64_in _ (by omega)
        rw [show ((0 : Nat) : Int) = 0 from rfl]
        go_upto_region 14 with (first
          | (go_at_call 26; refine (lawNonce_any A1 m1 c1 n wr (H14.out.below HB.out)).mono ?_; rintro e w5 ⟨rfl, hb5, hs5, hd5⟩; rw [HN.out] at hb5)
          | (go_at_call 27; refine (refPut8_any q hqq w5).mono ?_; rintro e w6 ⟨rfl, hs6, hd6⟩; have how := Lib.hid (own8 (hb5.keep hd6) HNL.out (Nat.le_refl _)); have hd56 := Lib.hid (below_then hd5 hd6 hd5.size))
          | (at_builtin; refine appB rfl (.tmp 63) (.tmp 69) rfl wr.heap.size (some ⟨wr.heap.size, 0, none⟩) 8 8 nn rfl how.out _ 8 8 (be64 q) rfl hs6 (by decide) hd56.out.size ?_; intro A7 c7 w7 h71 h72 h73; have hd7 := Lib.hid (show Below wr.heap.size wr w7 from hd56.out.grown h72 hd56.out.size (fun k e => row_ge e)); have hs7 := h71.sl)
          | (go_at_call 21; refine (refEnc4 _ A7 16 c7 ky (nn ++ be64 q) w7 ((HK4.out.below HB.out).below hd7.out) hs7).mono ?_; rintro e w8 ⟨gx, rfl, hs8, hg8, hd8⟩))
        have HSX : Hid (Sl w8 (some ⟨gx, 0, none⟩) 16 16 ((stBlock ky nn q).map vb)) := hs8
        have HBX := Lib.hid (below_then hd7.out hd8 hd7.out.size)
        clear hb5 hs5 hd5 hs6 hd6 how hd56 h71 h72 h73 hd7 hs7 hs8 hg8 hd8
        have hq1 : (streamL ky nn a sz).getD 0 0 = (stBlock ky nn q).getD r 0 := by
          unfold streamL
          rw [List.getD_eq_getElem?_getD, List.getElem?_map, List.getElem?_range hlt, Option.map_some, Option.getD_some]
          unfold streamB
          rw [Nat.add_zero, HP.out.2.1, HP.out.2.2]
        have hBW := Lib.hid (below_then HB.out HBX.out hbs)
        have d1 := (HS4.out.below hBW.out).at_byte hlt
        have d2 := HSX.out.at_byte hr16
        obtain ⟨sv, hsv⟩ : ∃ x, (stBlock ky nn q).getD r 0 = x := ⟨_, rfl⟩
        rw [hq1, hsv, Nat.add_zero] at d1
        rw [hsv, Nat.zero_add] at d2
        clear hq1 hsv
        have l1 : (0 : Int) < (sz : Int) := Int.ofNat_lt.2 hlt
        have l2 : (r : Int) < 16 := Int.ofNat_lt.2 hr16
        go_region_held3 (fun W => W.cell? ⟨g4, o4, none⟩ = some (vb sv) ∧ W.cell? ⟨gx, r, none⟩ = some (vb sv)) (first | exact ⟨d1, d2⟩) (first | fail)
        go_wp2_with fail
        (try go_big_round)
        clear v2 v3 v4
        exact ⟨⟨1, hlt, by go_num, hBW.out.drew, .inr ⟨gx, rfl, by rw [show a + 1 - 1 = a from rfl, HP.out.2.1]; exact HSX.out.drew⟩⟩, by simp [intOf]; omega⟩
      · have hb : ((i : Int) == 0) = false := int_ne0 hi0
        rcases HX.out with h | ⟨gx, rfl, hold⟩
        · exact absurd h hi0
        by_cases hr0 : r = 0
        · clear hold
          subst hr0
          go_upto_region 14 with (first
            | (go_at_call 26; refine (lawNonce_any A1 m1 c1 n wr (H14.out.below HB.out)).mono ?_; rintro e w5 ⟨rfl, hb5, hs5, hd5⟩; rw [HN.out] at hb5)
            | (go_at_call 27; refine (refPut8_any q hqq w5).mono ?_; rintro e w6 ⟨rfl, hs6, hd6⟩; have how := Lib.hid (own8 (hb5.keep hd6) HNL.out (Nat.le_refl _)); have hd56 := Lib.hid (below_then hd5 hd6 hd5.size))
            | (at_builtin; refine appB rfl (.tmp 63) (.tmp 69) rfl wr.heap.size (some ⟨wr.heap.size, 0, none⟩) 8 8 nn rfl how.out _ 8 8 (be64 q) rfl hs6 (by decide) hd56.out.size ?_; intro A7 c7 w7 h71 h72 h73; have hd7 := Lib.hid (show Below wr.heap.size wr w7 from hd56.out.grown h72 hd56.out.size (fun k e => row_ge e)); have hs7 := h71.sl)
            | (go_at_call 21; refine (refEnc4 _ A7 16 c7 ky (nn ++ be64 q) w7 ((HK4.out.below HB.out).below hd7.out) hs7).mono ?_; rintro e w8 ⟨gx, rfl, hs8, hg8, hd8⟩))
          have HSX : Hid (Sl w8 (some ⟨gx, 0, none⟩) 16 16 ((stBlock ky nn q).map vb)) := hs8
          have HBX := Lib.hid (below_then hd7.out hd8 hd7.out.size)
          clear hb5 hs5 hd5 hs6 hd6 how hd56 h71 h72 h73 hd7 hs7 hs8 hg8 hd8
          have hq1 : (streamL ky nn a sz).getD i 0 = (stBlock ky nn q).getD 0 0 := by
            unfold streamL
            rw [List.getD_eq_getElem?_getD, List.getElem?_map, List.getElem?_range hlt, Option.map_some, Option.getD_some]
            unfold streamB
            rw [HP.out.1, HP.out.2.1, HP.out.2.2]
          have hBW := Lib.hid (below_then HB.out HBX.out hbs)
          have d1 := (HS4.out.below hBW.out).at_byte hlt
          have d2 := HSX.out.at_byte hr16
          obtain ⟨sv, hsv⟩ : ∃ x, (stBlock ky nn q).getD 0 0 = x := ⟨_, rfl⟩
          rw [hq1, hsv] at d1
          rw [hsv, Nat.zero_add] at d2
          clear hq1 hsv
          have l1 : (i : Int) < (sz : Int) := Int.ofNat_lt.2 hlt
          have l2 : (0 : Int) < 16 := by decide
          go_region_held3 (fun W => W.cell? ⟨g4, o4 + i, none⟩ = some (vb sv) ∧ W.cell? ⟨gx, 0, none⟩ = some (vb sv)) (first | exact ⟨d1, d2⟩) (first | fail)
          go_wp2_with fail
          (try go_big_round)
          clear v1 v2 v3 v4 v5 v6
          exact ⟨⟨i + 1, hlt, by go_num, hBW.out.drew, .inr ⟨gx, rfl, by rw [show a + (i + 1) - 1 = a + i from rfl, HP.out.1, HP.out.2.1]; exact HSX.out.drew⟩⟩, by simp [intOf]; omega⟩
        · have hb2 : ((r : Int) == 0) = false := int_ne0 hr0
          rw [prev_block HP.out hr0] at hold
          go_upto_region 14 with fail
          have HSX : Hid (Sl wr (some ⟨gx, 0, none⟩) 16 16 ((stBlock ky nn q).map vb)) := hold
          have HBX := Lib.hid (Below.refl wr.heap.size wr)
          clear hold
          have hq1 : (streamL ky nn a sz).getD i 0 = (stBlock ky nn q).getD r 0 := by
            unfold streamL
            rw [List.getD_eq_getElem?_getD, List.getElem?_map, List.getElem?_range hlt, Option.map_some, Option.getD_some]
            unfold streamB
            rw [HP.out.1, HP.out.2.1, HP.out.2.2]
          have hBW := Lib.hid (below_then HB.out HBX.out hbs)
          have d1 := (HS4.out.below hBW.out).at_byte hlt
          have d2 := HSX.out.at_byte hr16
          obtain ⟨sv, hsv⟩ : ∃ x, (stBlock ky nn q).getD r 0 = x := ⟨_, rfl⟩
          rw [hq1, hsv] at d1
          rw [hsv, Nat.zero_add] at d2
          clear hq1 hsv
          have l1 : (i : Int) < (sz : Int) := Int.ofNat_lt.2 hlt
          have l2 : (r : Int) < 16 := Int.ofNat_lt.2 hr16
          go_region_held3 (fun W => W.cell? ⟨g4, o4 + i, none⟩ = some (vb sv) ∧ W.cell? ⟨gx, r, none⟩ = some (vb sv)) (first | exact ⟨d1, d2⟩) (first | fail)
          go_wp2_with fail
          (try go_big_round)
          clear v1 v2 v3 v4 v5 v6
          exact ⟨⟨i + 1, hlt, by go_num, hBW.out.drew, .inr ⟨gx, rfl, by rw [show a + (i + 1) - 1 = a + i from rfl, HP.out.1, HP.out.2.1]; exact HSX.out.drew⟩⟩, by simp [intOf]; omega⟩
    · obtain rfl : i = sz := by omega
      go_wp2
      go_ret
      exact ⟨rfl, below_then HB4.out HB.out HB4.out.size⟩
end Lg
