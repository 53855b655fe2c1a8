/-
A block under a key, as the document says it (largesseref05.Encrypt), for keys of 16 bytes. No condition but the lengths.
-/
import Derived.Test.YtncdecpehlkckaaEnr
import Derived.Test.YtncdecpehlkckaaKys

import Derived.Sort.AtCall
namespace Lg
open Go Go.RowKit Go.Proofs
theorem below_drewNb {B : Nat} {w w1 : World} (h : Below B w w1) (n : Nat) : Below B w (w1.drewN n) := ⟨h.os, h.tape, h.output, h.size, h.block⟩
theorem xor4_cell (a b c d : UInt8) : Value.int .u8 (bits .xor .u8 (bits .xor .u8 ((a.toNat ^^^ b.toNat : Nat) : Int) (c.toNat : Int)) (d.toNat : Int)) = vb (a ^^^ b ^^^ c ^^^ d) := by rw [← UInt8.toNat_xor, xor_u8, xor_u8]
theorem refMul_l2 (x : UInt8) (w : World) : Calls Try.prog 64 #[.int .u8 2, vb x] w fun e w1 => e = .returned (vb (mul 2 x)) ∧ w = w1 := refMul_any 2 x w
theorem refMul_l3 (x : UInt8) (w : World) : Calls Try.prog 64 #[.int .u8 3, vb x] w fun e w1 => e = .returned (vb (mul 3 x)) ∧ w = w1 := refMul_any 3 x w
theorem drewN_cell2 (w : World) (n : Nat) (a : Addr) : (w.drewN n).cell? a = w.cell? a := rfl
theorem drewN_frozen2 (w : World) (n : Nat) (a : Addr) : (w.drewN n).frozen? a = w.frozen? a := rfl
attribute [local go_sem] drewN_cell2 drewN_frozen2

set_option maxRecDepth 10000 in
set_option maxHeartbeats 2000000 in
theorem refEnc4 (A0 A1 : Option Addr) (c0 c1 : Nat) (key b : List UInt8) (w : World) (hs0 : Sl w A0 16 c0 (key.map vb)) (hs1 : Sl w A1 16 c1 (b.map vb)) :
    Calls Try.prog 21 #[.slice A0 16 c0, .slice A1 16 c1] w fun e w' => ∃ g, e = .returned (.slice (some ⟨g, 0, none⟩) 16 16) ∧ Sl w' (some ⟨g, 0, none⟩) 16 16 ((aesEnc key b).map vb) ∧ w.heap.size ≤ g ∧ Below w.heap.size w w' := by
  have hkl : key.length = 16 := by simpa using hs0.len
  have hbl : b.length = 16 := by simpa using hs1.len
  obtain ⟨gb, ob, rfl, hgb, hb⟩ := hs1.place (by omega)
  have hR : aesRounds key = 10 := by unfold aesRounds; rw [hkl]
  have hk16 := aesWords_any key 4 (by omega) hkl
  rw [hR] at hk16
  have HS := Lib.hid hs0
  have HB1 := Lib.hid (show ∀ j, j < 16 → w.cell? ⟨gb, ob + j, none⟩ = some (vb (b.getD j 0)) from fun j hj => hb j _ (by rw [List.getElem?_map, List.getD_eq_getElem?_getD, List.getElem?_eq_getElem (by omega)]; rfl))
  have HBL := Lib.hid hbl
  have HRR := Lib.hid hR
  have HK16 := Lib.hid hk16
  have KB := Lib.hid (key_byte key 4 (by omega) hkl)
  clear hs0 hs1 hb hbl hR hk16 hkl
  go_enter Try.func21, Try.ntmps21
  go_upto_region 3 with (go_at_call 62; refine (refKeys4 A0 c0 key w HS.out).mono ?_; rintro e w1 ⟨A, c, rfl, ho1, hd1⟩)
  obtain ⟨gk, ok, rfl, hgk1, hgk2, hkrow, hkc, hkf⟩ := ho1.at_ (by omega)
  obtain ⟨B, hB⟩ : ∃ B, w1.heap.size = B := ⟨_, rfl⟩
  have hwB : w.heap.size ≤ B := by rw [← hB]; exact hd1.size
  have hgbB : gb < B := by omega
  have hgkB : gk < B := by omega
  have KC := Lib.hid (show ∀ r j, r < 11 → j < 16 → w1.cell? ⟨gk, ok + (16 * r + j), none⟩ = some (vb ((aesKey key r).getD j 0)) from fun r j hr hj => hkc (16 * r + j) _ (by rw [List.getElem?_map, KB.out r j hr hj]; rfl))
  have BC := Lib.hid (show ∀ j, j < 16 → w1.cell? ⟨gb, ob + j, none⟩ = some (vb (b.getD j 0)) from fun j hj => (hd1.cell (p := ⟨gb, ob + j, none⟩) hgb).trans (HB1.out j hj))
  have HD1f := Lib.hid hd1
  have HBB := Lib.hid hB
  obtain ⟨kk, hkk⟩ : ∃ kk, aesKey key = kk := ⟨_, rfl⟩
  rw [hkk] at KC HK16
  have HKK := Lib.hid hkk
  have Z0 := Lib.hid (show Sr (w1.alloc (.cells #[.int .u8 0, .int .u8 0, .int .u8 0, .int .u8 0, .int .u8 0, .int .u8 0, .int .u8 0, .int .u8 0, .int .u8 0, .int .u8 0, .int .u8 0, .int .u8 0, .int .u8 0, .int .u8 0, .int .u8 0, .int .u8 0] 83)) B (List.replicate 16 0) by rw [← hB]; exact Sr.new w1 (List.replicate 16 0) rfl)
  clear ho1 hkrow hkc hkf hd1 HB1 KB HS hkk hgk1 hgk2 hgb
  go_wp2_with (with_reducible refine storeSrL rfl (.tmp 7) (.tmp 23) rfl B (List.replicate 16 0) (List.replicate 16 0) rfl rfl Z0.out rfl ?_; intro w2 h1 h2)
  have hd2 : Below B w1 w2 := by rw [← hB] at h2 ⊢; exact fresh_row h2
  have H1 := Lib.hid h1
  have HD2 := Lib.hid hd2
  clear h1 h2 hd2 Z0 hB
  go_loopw [24] (fun s24 wr => ∃ i : Nat, i ≤ 16 ∧ s24 = vi i ∧ Hid (Sr wr B (fillOn (fun j => b.getD j 0 ^^^ (kk 0).getD j 0) (List.replicate 16 0) i)) ∧ Hid (Below B w1 wr)) (fun s24 _ => 16 - (intOf s24).toNat)
  case atStart => exact ⟨0, by omega, rfl, by rw [fillOn_zero _ rfl]; exact H1, HD2⟩
  case round =>
    obtain ⟨i, hi, rfl, HQ, HD⟩ := hrel
    clear H1 HD2
    by_cases hlt : i < 16
    · have cb := (HD.out.cell (p := ⟨gb, ob + i, none⟩) hgbB).trans (BC.out i hlt)
      have ck := (HD.out.cell (p := ⟨gk, ok + (16 * 0 + i), none⟩) hgkB).trans (KC.out 0 i (by omega) hlt)
      rw [Nat.mul_zero, Nat.zero_add] at ck
      obtain ⟨bi, hbi⟩ : ∃ x, b.getD i 0 = x := ⟨_, rfl⟩
      obtain ⟨ki, hki⟩ : ∃ x, (kk 0).getD i 0 = x := ⟨_, rfl⟩
      rw [hbi] at cb
      rw [hki] at ck
      obtain ⟨u1, d1⟩ : ∃ u, wr.cell? ⟨B, i, none⟩ = some u := ⟨_, HQ.out.cell hlt⟩
      have f1 := HQ.out.2.frozen i
      have l16 : (i : Int) < 16 := by omega
      have lLEN : (i : Int) < 176 := by omega
      have hst := fillOn_step (fun j => b.getD j 0 ^^^ (kk 0).getD j 0) (List.replicate 16 0) i
      simp only [hbi, hki] at hst
      have HST := Lib.hid hst
      clear hbi hki hst
      go_wp2
      go_region
      go_wp2_with fail
      refine ⟨⟨i + 1, by omega, by go_num, ?_, (HD.out.setCell (p := ⟨B, i, none⟩) (Nat.le_refl _) _).drew⟩, by simp [intOf]; omega⟩
      rw [u8_xor_cell]
      have h := HQ.out.set_ i (bi ^^^ ki)
      rw [HST.out] at h
      exact h
    · obtain rfl : i = 16 := by omega
      rw [show ((16 : Nat) : Int) = 16 from rfl]
      rw [fillOn_full, xor_fill HBL.out (HK16.out 0 (by omega)), ← HKK.out] at HQ
      go_wp2
      go_loopw [9] (fun s9 wr => ∃ m r : Nat, m ≤ 10 ∧ r = m + 1 ∧ s9 = vi r ∧ Hid (Sr wr B (aesUpto key b m)) ∧ Hid (Below B w1 wr)) (fun s9 _ => 11 - (intOf s9).toNat)
      case atStart => exact ⟨0, 1, by omega, rfl, rfl, HQ, HD⟩
      case round =>
        obtain ⟨m, r, hm, hr, rfl, HQ1, HD1⟩ := hrel
        obtain ⟨wo, rfl⟩ : ∃ wo, wo = wr := ⟨_, rfl⟩
        clear HQ HD
        obtain ⟨q, hq⟩ : ∃ q, aesUpto key b m = q := ⟨_, rfl⟩
        rw [hq] at HQ1
        have HQE := Lib.hid hq
        have HRE := Lib.hid hr
        clear hq hr
        by_cases hlt : r < 11
        · obtain ⟨bt, hbt⟩ : ∃ bt, wo.heap.size = bt := ⟨_, rfl⟩
          have hBbt : B < bt := by rw [← hbt]; exact HQ1.out.2.lt
          have Z1 := Lib.hid (show Sr (wo.alloc (.cells #[.int .u8 0, .int .u8 0, .int .u8 0, .int .u8 0, .int .u8 0, .int .u8 0, .int .u8 0, .int .u8 0, .int .u8 0, .int .u8 0, .int .u8 0, .int .u8 0, .int .u8 0, .int .u8 0, .int .u8 0, .int .u8 0] 83)) bt (List.replicate 16 0) by rw [← hbt]; exact Sr.new wo (List.replicate 16 0) rfl)
          go_wp2_with (with_reducible refine storeSrL rfl (.tmp 10) (.tmp 44) rfl bt (List.replicate 16 0) (List.replicate 16 0) rfl rfl Z1.out rfl ?_; intro w3 h1 h2)
          have hb3 : Below bt wo w3 := by rw [← hbt] at h2 ⊢; exact fresh_row h2
          have HT1 := Lib.hid h1
          have HB3 := Lib.hid hb3
          have HBT := Lib.hid hbt
          clear h1 h2 hb3 Z1 hbt
          obtain ⟨f1, hf1⟩ : ∃ f : Nat → UInt8, (fun j => sbox (q.getD (4 * ((j / 4 + j % 4) % 4) + j % 4) 0)) = f := ⟨_, rfl⟩
          have HF1 := Lib.hid hf1
          clear hf1
          go_loopw [11] (fun s11 wx => ∃ c : Nat, c ≤ 4 ∧ s11 = vi c ∧ Hid (Sr wx bt (fillOn f1 (List.replicate 16 0) (4 * c))) ∧ Hid (Below bt wo wx)) (fun s11 _ => 4 - (intOf s11).toNat)
          case atStart => exact ⟨0, by omega, rfl, by rw [fillOn_zero _ rfl]; exact HT1, HB3⟩
          case round =>
            obtain ⟨cc, hcc, rfl, HTc, HBc⟩ := hrel
            clear HT1 HB3
            by_cases hlc : cc < 4
            · go_wp2
              rw [show decide ((cc : Int) < 4) = true from decide_eq_true (by omega)]
              go_loopw [12] (fun s12 wx => ∃ i : Nat, i ≤ 4 ∧ s12 = vi i ∧ Hid (Sr wx bt (fillOn f1 (List.replicate 16 0) (4 * cc + i))) ∧ Hid (Below bt wo wx)) (fun s12 _ => 4 - (intOf s12).toNat)
              case atStart => exact ⟨0, by omega, rfl, HTc, HBc⟩
              case round =>
                obtain ⟨i, hi, rfl, HTi, HBi⟩ := hrel
                clear HTc HBc
                by_cases hli : i < 4
                · obtain ⟨q4, hq4⟩ : ∃ x, (cc + i) % 4 = x := ⟨_, rfl⟩
                  have hq4l : q4 < 4 := by omega
                  have hmod : ((cc : Int) + (i : Int)) % 4 = (q4 : Int) := by omega
                  have c1 := (HQ1.out.below HBi.out hBbt).cell (i := 4 * q4 + i) (by omega)
                  obtain ⟨sv, hsv⟩ : ∃ x, q.getD (4 * q4 + i) 0 = x := ⟨_, rfl⟩
                  rw [hsv] at c1
                  have f2 := HTi.out.2.frozen (4 * cc + i)
                  obtain ⟨u1, d1⟩ : ∃ u, wr.cell? ⟨bt, 4 * cc + i, none⟩ = some u := ⟨_, HTi.out.cell (by omega)⟩
                  have hst := fillOn_step f1 (List.replicate 16 0) (4 * cc + i)
                  have hfv : f1 (4 * cc + i) = sbox sv := by rw [← HF1.out, ← hsv, ← hq4]; show sbox _ = sbox _; rw [show (4 * cc + i) / 4 = cc by omega, show (4 * cc + i) % 4 = i by omega]
                  rw [hfv] at hst
                  have HST := Lib.hid hst
                  clear hst hfv hsv hq4
                  go_wp2_with (go_at_call 63; refine (refBox_any _ _).mono ?_; rintro e wz ⟨rfl, nz, rfl⟩)
                  refine ⟨⟨i + 1, by omega, by go_num, ?_, ((below_drewNb HBi.out nz).setCell (p := ⟨bt, 4 * cc + i, none⟩) (Nat.le_refl _) _)⟩, by simp [intOf]; omega⟩
                  have h := (HTi.out.drewN nz).set_ (4 * cc + i) (sbox sv)
                  rw [HST.out] at h
                  exact h
                · obtain rfl : i = 4 := by omega
                  rw [show 4 * cc + 4 = 4 * (cc + 1) by omega] at HTi
                  go_wp2
                  exact ⟨⟨cc + 1, by omega, by go_num, HTi, HBi⟩, by simp [intOf]; omega⟩
            · obtain rfl : cc = 4 := by omega
              rw [show ((4 : Nat) : Int) = 4 from rfl]
              have HT2 : Hid (Sr wr bt (aesRow 1 (q.map sbox))) := by
                have h := HTc.out
                rw [show 4 * 4 = 16 from rfl, fillOn_full, ← HF1.out, row_fill HQ1.out.1] at h
                exact h
              clear HTc
              obtain ⟨t1, ht1⟩ : ∃ t, aesRow 1 (q.map sbox) = t := ⟨_, rfl⟩
              rw [ht1] at HT2
              have HTE := Lib.hid ht1
              clear ht1
              obtain ⟨w4, rfl⟩ : ∃ w4, w4 = wr := ⟨_, rfl⟩
              go_upto_if 70 with fail
              go_cut [13, 14, 15] from 68 to 120 (fun s13 s14 s15 wq => Hid (Sr wq bt (if r < 10 then aesCol [2, 1, 1, 3] t1 else t1)) ∧ Hid (Below bt wo wq))
              case first =>
                by_cases hlr : r < 10
                · obtain ⟨bu, hbu⟩ : ∃ bu, w4.heap.size = bu := ⟨_, rfl⟩
                  have hbtu : bt < bu := by rw [← hbu]; exact HT2.out.2.lt
                  have Z2 := Lib.hid (show Sr (w4.alloc (.cells #[.int .u8 0, .int .u8 0, .int .u8 0, .int .u8 0, .int .u8 0, .int .u8 0, .int .u8 0, .int .u8 0, .int .u8 0, .int .u8 0, .int .u8 0, .int .u8 0, .int .u8 0, .int .u8 0, .int .u8 0, .int .u8 0] 83)) bu (List.replicate 16 0) by rw [← hbu]; exact Sr.new w4 (List.replicate 16 0) rfl)
                  go_wp2_with (with_reducible refine storeSrL rfl (.tmp 13) (.tmp 71) rfl bu (List.replicate 16 0) (List.replicate 16 0) rfl rfl Z2.out rfl ?_; intro w5 h1 h2)
                  have hb5 : Below bu w4 w5 := by rw [← hbu] at h2 ⊢; exact fresh_row h2
                  have HU1 := Lib.hid h1
                  have HB5 := Lib.hid hb5
                  have HBU := Lib.hid hbu
                  clear h1 h2 hb5 Z2 hbu
                  obtain ⟨f2, hf2⟩ : ∃ f : Nat → UInt8, (fun j => mul 2 (t1.getD (4 * (j / 4) + j % 4) 0) ^^^ mul 3 (t1.getD (4 * (j / 4) + (j % 4 + 1) % 4) 0) ^^^ t1.getD (4 * (j / 4) + (j % 4 + 2) % 4) 0 ^^^ t1.getD (4 * (j / 4) + (j % 4 + 3) % 4) 0) = f := ⟨_, rfl⟩
                  have HF2 := Lib.hid hf2
                  clear hf2
                  go_loopw [14] (fun s14 wx => ∃ c : Nat, c ≤ 4 ∧ s14 = vi c ∧ Hid (Sr wx bu (fillOn f2 (List.replicate 16 0) (4 * c))) ∧ Hid (Below bu w4 wx)) (fun s14 _ => 4 - (intOf s14).toNat)
                  case atStart => exact ⟨0, by omega, rfl, by rw [fillOn_zero _ rfl]; exact HU1, HB5⟩
                  case round =>
                    obtain ⟨cc, hcc, rfl, HUc, HCc⟩ := hrel
                    clear HU1 HB5
                    by_cases hlc : cc < 4
                    · go_wp2
                      rw [show decide ((cc : Int) < 4) = true from decide_eq_true (by omega)]
                      go_loopw [15] (fun s15 wx => ∃ i : Nat, i ≤ 4 ∧ s15 = vi i ∧ Hid (Sr wx bu (fillOn f2 (List.replicate 16 0) (4 * cc + i))) ∧ Hid (Below bu w4 wx)) (fun s15 _ => 4 - (intOf s15).toNat)
                      case atStart => exact ⟨0, by omega, rfl, HUc, HCc⟩
                      case round =>
                        obtain ⟨i, hi, rfl, HUi, HCi⟩ := hrel
                        clear HUc HCc
                        by_cases hli : i < 4
                        · obtain ⟨o0, ho0, v0, v1, l0, o0l, e0⟩ := enc_idx0 cc i hlc hli
                          obtain ⟨p1, o1, m1, n1, v2, v5, l1, o1l, e1⟩ := enc_idx1 cc i hlc hli
                          obtain ⟨p2, o2, m2, n2, v3, v6, l2, o2l, e2⟩ := enc_idx2 cc i hlc hli
                          obtain ⟨p3, o3, m3, n3, v4, v7, l3, o3l, e3⟩ := enc_idx3 cc i hlc hli
                          have hT := HT2.out.below HCi.out hbtu
                          have k0 := hT.cell (i := o0) o0l
                          have k1 := hT.cell (i := o1) o1l
                          have k2 := hT.cell (i := o2) o2l
                          have k3 := hT.cell (i := o3) o3l
                          obtain ⟨y0, hy0⟩ : ∃ x, t1.getD o0 0 = x := ⟨_, rfl⟩
                          obtain ⟨y1, hy1⟩ : ∃ x, t1.getD o1 0 = x := ⟨_, rfl⟩
                          obtain ⟨y2, hy2⟩ : ∃ x, t1.getD o2 0 = x := ⟨_, rfl⟩
                          obtain ⟨y3, hy3⟩ : ∃ x, t1.getD o3 0 = x := ⟨_, rfl⟩
                          rw [hy0] at k0
                          rw [hy1] at k1
                          rw [hy2] at k2
                          rw [hy3] at k3
                          rw [ho0] at HUi e0 e1 e2 e3
                          have f2u := HUi.out.2.frozen o0
                          obtain ⟨u1, d1⟩ : ∃ u, wr.cell? ⟨bu, o0, none⟩ = some u := ⟨_, HUi.out.cell o0l⟩
                          have hst := fillOn_step f2 (List.replicate 16 0) o0
                          have hfv : f2 o0 = mul 2 y0 ^^^ mul 3 y1 ^^^ y2 ^^^ y3 := by
                            rw [← HF2.out]
                            show mul 2 (t1.getD (4 * (o0 / 4) + o0 % 4) 0) ^^^ mul 3 (t1.getD (4 * (o0 / 4) + (o0 % 4 + 1) % 4) 0) ^^^ t1.getD (4 * (o0 / 4) + (o0 % 4 + 2) % 4) 0 ^^^ t1.getD (4 * (o0 / 4) + (o0 % 4 + 3) % 4) 0 = _
                            rw [e0, e1, e2, e3, hy0, hy1, hy2, hy3]
                          rw [hfv] at hst
                          have HST := Lib.hid hst
                          have HO0 := Lib.hid ho0
                          clear hst hfv hy0 hy1 hy2 hy3 ho0 e0 e1 e2 e3 o0l o1l o2l o3l hT
                          go_wp2
                          have hnbt : bt ≠ bu := by omega
                          go_region_held3 (fun W => W.cell? ⟨bt, o0, none⟩ = some (vb y0) ∧ W.cell? ⟨bt, o1, none⟩ = some (vb y1) ∧ W.cell? ⟨bt, o2, none⟩ = some (vb y2) ∧ W.cell? ⟨bt, o3, none⟩ = some (vb y3)) (first | exact ⟨k0, k1, k2, k3⟩ | exact ⟨(cell_far _ _ _ _ hnbt).trans k0, (cell_far _ _ _ _ hnbt).trans k1, (cell_far _ _ _ _ hnbt).trans k2, (cell_far _ _ _ _ hnbt).trans k3⟩) (first | (go_at_call_has 64 y0; refine (refMul_l2 _ _).mono ?_; rintro e wz ⟨rfl, rfl⟩) | (go_at_call_has 64 y1; refine (refMul_l3 _ _).mono ?_; rintro e wz ⟨rfl, rfl⟩))
                          rename_i hHd
                          clear hHd
                          go_wp2_with fail
                          rw [xor4_cell]
                          refine ⟨⟨i + 1, by omega, by go_num, ?_, ((HCi.out.setCell (p := ⟨bu, o0, none⟩) (Nat.le_refl _) _).drew)⟩, by simp [intOf]; omega⟩
                          have h := HUi.out.set_ o0 (mul 2 y0 ^^^ mul 3 y1 ^^^ y2 ^^^ y3)
                          rw [HST.out] at h
                          rw [show 4 * cc + (i + 1) = o0 + 1 by have := HO0.out; omega]
                          exact h
                        · obtain rfl : i = 4 := by omega
                          rw [show 4 * cc + 4 = 4 * (cc + 1) by omega] at HUi
                          go_wp2
                          exact ⟨⟨cc + 1, by omega, by go_num, HUi, HCi⟩, by simp [intOf]; omega⟩
                    · obtain rfl : cc = 4 := by omega
                      have HU2 : Hid (Sr wr bu (aesCol [2, 1, 1, 3] t1)) := by
                        have h := HUc.out
                        rw [show 4 * 4 = 16 from rfl, fillOn_full, ← HF2.out, col_fill] at h
                        exact h
                      clear HUc
                      have HT3 := Lib.hid (HT2.out.below HCc.out hbtu)
                      obtain ⟨t3, ht3⟩ : ∃ t, aesCol [2, 1, 1, 3] t1 = t := ⟨_, rfl⟩
                      rw [ht3] at HU2
                      have HT3E := Lib.hid ht3
                      have ht3l : t3.length = 16 := HU2.out.1
                      clear ht3
                      go_wp2_with (first | (with_reducible refine loadSrL rfl (.tmp 13) rfl bu t3 rfl HU2.out ?_) | (with_reducible refine storeSrL rfl (.tmp 10) (.tmp 120) rfl bt t3 t1 rfl rfl HT3.out ht3l ?_; intro w6 h61 h62))
                      go_meet
                      refine ⟨?_, ?_⟩
                      · show Sr _ _ _
                        rw [if_pos hlr, HT3E.out]; exact h61
                      · exact (below_then HBc.out (by have h := HCc.out; rw [← HBU.out] at h; exact h) (by have := HBc.out.size; have := HBT.out; omega)).grown h62 (by have := HBc.out.size; have := HCc.out.size; have := HBT.out; omega) (fun k e => by cases e; exact Nat.le_refl _)
                · go_wp2_with fail
                  go_meet
                  refine ⟨?_, HBc⟩
                  show Sr _ _ _
                  rw [if_neg hlr]; exact HT2
              case rest =>
                obtain ⟨HT4, HB4⟩ := hcut
                obtain ⟨t2, ht2⟩ : ∃ t, (if r < 10 then aesCol [2, 1, 1, 3] t1 else t1) = t := ⟨_, rfl⟩
                rw [ht2] at HT4
                have HQ4 := Lib.hid (HQ1.out.below HB4.out hBbt)
                have hnext : xorL t2 (kk r) = aesUpto key b (m + 1) := by
                  show _ = aesRound key (m + 1) (aesUpto key b m)
                  rw [HQE.out, ← HRE.out, ← ht2, ← HTE.out, ← HKK.out]
                  unfold aesRound
                  rw [HRR.out]
                have HNX := Lib.hid hnext
                have hbw : Below B w1 wc := below_then HD1.out ((HB4.out).mono (by have := HBT.out; omega)) (by have := HD1.out.size; rw [HBB.out] at this; omega)
                have HBW := Lib.hid hbw
                have hkr16 := HK16.out r (by omega)
                have HKR := Lib.hid hkr16
                obtain ⟨f3, hf3⟩ : ∃ f : Nat → UInt8, (fun j => t2.getD j 0 ^^^ (kk r).getD j 0) = f := ⟨_, rfl⟩
                have HF3 := Lib.hid hf3
                clear ht2 hnext hbw hkr16 hf3 HT2 HBc HB4
                go_wp2
                go_loopw [121] (fun s121 wx => ∃ i : Nat, i ≤ 16 ∧ s121 = vi i ∧ Hid (Sr wx B (fillOn f3 q i)) ∧ Hid (Sr wx bt t2) ∧ Hid (Below B w1 wx)) (fun s121 _ => 16 - (intOf s121).toNat)
                case atStart => exact ⟨0, by omega, rfl, by rw [fillOn_zero _ HQ1.out.1]; exact HQ4, HT4, HBW⟩
                case round =>
                  obtain ⟨i, hi, rfl, HQi, HTi, HDi⟩ := hrel
                  clear HQ4 HT4 HBW
                  by_cases hli : i < 16
                  · obtain ⟨r16, o, ve, vo, lo, eo⟩ := enc_key r i 10 hlt hli
                    have ct := HTi.out.cell hli
                    have ck := (HDi.out.cell (p := ⟨gk, ok + (16 * r + i), none⟩) hgkB).trans (KC.out r i (by omega) hli)
                    rw [eo] at ck
                    obtain ⟨ti, hti⟩ : ∃ x, t2.getD i 0 = x := ⟨_, rfl⟩
                    obtain ⟨ki, hki⟩ : ∃ x, (kk r).getD i 0 = x := ⟨_, rfl⟩
                    rw [hti] at ct
                    rw [hki] at ck
                    obtain ⟨u1, d1⟩ : ∃ u, wr.cell? ⟨B, i, none⟩ = some u := ⟨_, HQi.out.cell hli⟩
                    have fz := HQi.out.2.frozen i
                    have l16 : (i : Int) < 16 := by omega
                    have lLEN : (o : Int) < 176 := by omega
                    have hst := fillOn_step f3 q i
                    have hfv : f3 i = ti ^^^ ki := by rw [← HF3.out, ← hti, ← hki]
                    rw [hfv] at hst
                    have HST := Lib.hid hst
                    have hnB : bt ≠ B := by omega
                    clear hst hfv hti hki eo lo
                    go_wp2
                    go_region_held3 (fun W => W.cell? ⟨bt, i, none⟩ = some (vb ti) ∧ W.cell? ⟨gk, ok + o, none⟩ = some (vb ki)) (first | exact ⟨ct, ck⟩ | exact ⟨(cell_far _ _ _ _ hnB).trans ct, (cell_far _ _ _ _ (by show gk ≠ B; omega)).trans ck⟩) (first | fail)
                    rename_i hHd
                    clear hHd
                    go_wp2_with fail
                    (try go_big_round)
                    rw [u8_xor_cell]
                    refine ⟨⟨i + 1, by omega, by go_num, ?_, ((HTi.out.far (p := ⟨B, i, none⟩) hnB _)), ((HDi.out.setCell (p := ⟨B, i, none⟩) (Nat.le_refl _) _).drew)⟩, by simp [intOf]; omega⟩
                    have h := HQi.out.set_ i (ti ^^^ ki)
                    rw [HST.out] at h
                    exact h
                  · obtain rfl : i = 16 := by omega
                    have HQ5 : Hid (Sr wr B (aesUpto key b (m + 1))) := by
                      have h := HQi.out
                      rw [fillOn_full, ← HF3.out, xor_fill HTi.out.1 HKR.out, HNX.out] at h
                      exact h
                    clear HQi
                    go_wp2
                    (try go_big_round)
                    exact ⟨⟨m + 1, r + 1, by have := HRE.out; omega, by have := HRE.out; omega, by go_num, HQ5, HDi⟩, by simp [intOf]; omega⟩
        · obtain rfl : m = 10 := by have := HRE.out; omega
          have hfin : q = aesEnc key b := by rw [← HQE.out, aesEnc, HRR.out]
          go_wp2
          go_ret
          refine ⟨B, rfl, ?_, hwB, ?_⟩
          · rw [← hfin]; exact HQ1.out.sl
          · exact below_then HD1f.out (by have h := HD1.out; rw [← HBB.out] at h; exact h) HD1f.out.size
end Lg
