/-
A block through the cipher (cipher.Encrypt). No condition but the lengths and that the cipher is one that New made.
-/
import Derived.Test.YtncdecpehlkckaaFnN
namespace Lg
open Go Go.RowKit Go.Proofs

theorem aesWords_any (key : List UInt8) (n : Nat) (hn : 0 < n) (hl : key.length = 4 * n) : ∀ r, r < aesRounds key + 1 → (aesKey key r).length = 16 := by
  intro r hr
  have h4 : key.length / 4 = n := by omega
  have hw : ∀ x ∈ ((aesAll key).drop (4 * r)).take 4, x.length = 4 := fun x hx => by
    have := List.mem_of_mem_drop (List.mem_of_mem_take hx)
    unfold aesAll at this
    rw [h4] at this
    exact aesWords_word key n hn hl _ x this
  unfold aesKey
  rw [total_flatten, total_four hw, List.length_take, List.length_drop]
  unfold aesAll
  rw [h4, aesWords_length]
  unfold aesRounds at hr
  rw [h4] at hr
  omega

/-- the r-th round key's cells -/
theorem key_range {w : World} {B gk n cap : Nat} {ks : List (List UInt8)} (h : w.ownsRow B 84 16 (.slice (some ⟨gk, 0, none⟩) n cap) n (ks.flatten.map vb)) (hk : ∀ x ∈ ks, x.length = 16) {r : Nat} {x : List UInt8} (hr : ks[r]? = some x) :
    w.rangeAt gk (r * 16) (x.map vb) := by
  intro j v hv
  have hx := hk x (List.mem_of_getElem? hr)
  have hj : j < 16 := by have := (List.getElem?_eq_some_iff.1 hv).1; simp at this; omega
  have hc := h.cells (g := gk) rfl (r * 16 + j) v (by
    rw [List.getElem?_map] at hv ⊢
    have e : ks.flatten[r * 16 + j]? = x[j]? := by
      clear h hv
      induction ks generalizing r with
      | nil => simp at hr
      | cons a l ih =>
        have ha := hk a (by simp)
        cases r with
        | zero =>
          simp at hr; subst hr
          rw [List.flatten_cons, List.getElem?_append_left (by omega)]
          congr 1; omega
        | succ r =>
          rw [List.flatten_cons, List.getElem?_append_right (by omega)]
          have := ih (fun y hy => hk y (by simp [hy])) (r := r) (by simpa using hr)
          rw [← this]
          congr 1; omega
    rw [e]; exact hv)
  rw [add_mk, Nat.zero_add] at hc
  exact hc

theorem fresh_row {w w2 : World} {o : Obj} (h : (w.alloc o).grownBy w2 (some w.heap.size)) : Below w.heap.size w w2 :=
  ((Below.refl w.heap.size w).alloc (Nat.le_refl _) o).grown h (by simp) (fun k e => by cases e; exact Nat.le_refl _)
theorem range_below {w w' : World} {B b o : Nat} {cs : List Value} (h : w.rangeAt b o cs) (hb : Below B w w') (hg : b < B) : w'.rangeAt b o cs := fun j v hv => (hb.cell (p := ⟨b, o + j, none⟩) hg).trans (h j v hv)
theorem run_arrayAt16 (w : World) (p : Addr) (c : Nat) : (Instr.arrayAt 84 (.slice (some p) 16 c)).run Try.prog w = .ok (.pointer (some p)) w := by
  simp [Instr.arrayAt, run_underlying Try.underlying84]
attribute [go_sem] run_arrayAt16

theorem sqRows_one (s : Nat) (l : List UInt8) (w : World) (hS : Sq w s l) :
    Calls Try.prog 59 #[.pointer (some ⟨s, 0, none⟩), .int .i64 1] w fun e w' => (∃ v, e = .returned v) ∧ Sq w' s (aesRow 1 l) ∧ w.grownBy w' (some s) := sqRows_any s 1 (by omega) l w hS
theorem sqCols_enc (s f : Nat) (l : List UInt8) (w : World) (hS : Sq w s l) (hF : Fl w f) :
    Calls Try.prog 60 #[.pointer (some ⟨s, 0, none⟩), .pointer (some ⟨f, 0, none⟩), .agg #[.int .u8 2, .int .u8 1, .int .u8 1, .int .u8 3]] w fun e w' => (∃ v, e = .returned v) ∧ Sq w' s (aesCol [2, 1, 1, 3] l) ∧ w.grownBy w' (some s) :=
  sqCols_any s f [2, 1, 1, 3] l rfl w hS hF
theorem Sq.grown {w w' : World} {s t : Nat} {l : List UInt8} (h : Sq w s l) (hg : w.grownBy w' (some t)) (hne : t ≠ s) : Sq w' s l := ⟨h.1, h.2.grown hg (fun e => hne (by injection e))⟩
theorem below_sq {B s : Nat} {w0 w w' : World} (h : Below B w0 w) (hg : w.grownBy w' (some s)) (hB : B ≤ w0.heap.size) (hs : B ≤ s) : Below B w0 w' := h.grown hg (Nat.le_trans hB h.size) (fun k e => by cases e; exact hs)

set_option maxRecDepth 10000 in
set_option maxHeartbeats 1000000 in
theorem Encrypt_any (g : Nat) (key : List UInt8) (n4 : Nat) (hn4 : 0 < n4 ∧ n4 ≤ 8) (hkl : key.length = 4 * n4) (A : Option Addr) (c : Nat) (l : List UInt8) (w : World) (hC : CipOk w g key) (hs : Sl w A 16 c (l.map vb)) :
    Calls Try.prog 19 #[.pointer (some ⟨g, 0, none⟩), .slice A 16 c] w fun e w' => ∃ A' c', e = .returned (.tuple #[.slice A' 16 c', vi 0]) ∧ Ow w' w.heap.size 5 A' 16 c' ((aesEnc key l).map vb) ∧ Below w.heap.size w w' := by
  obtain ⟨R, hR⟩ : ∃ R, aesRounds key = R := ⟨_, rfl⟩
  have hkey16 := aesWords_any key n4 hn4.1 hkl
  have hR14 : R ≤ 14 ∧ 1 ≤ R := by rw [← hR]; unfold aesRounds; omega
  obtain ⟨f, gk, cap, hc1, hc2, hc3⟩ := hC
  rw [hR] at hc1 hc3 hkey16
  have hall : ∀ x ∈ (List.range (R + 1)).map (aesKey key), x.length = 16 := fun x hx => by
    obtain ⟨r, hr, rfl⟩ := List.mem_map.1 hx
    exact hkey16 r (List.mem_range.1 hr)
  have hkr : ∀ r, r < R + 1 → w.rangeAt gk (r * 16) ((aesKey key r).map vb) := fun r hr => key_range hc3 hall (by rw [List.getElem?_map, List.getElem?_range hr]; rfl)
  have hgk : gk < w.heap.size := (hc3.lt gk rfl).2
  have hcap : R + 1 ≤ cap ∧ cap ≤ maxLen := by
    rcases hc3.2 with ⟨h, _⟩ | ⟨g', cap', cur, h, _, _, h1, h2, _⟩
    · cases h
    · cases h; exact ⟨h1, h2⟩
  obtain ⟨ga, oa, rfl, hga, hla⟩ := hs.place (by omega)
  have hl16 : l.length = 16 := by simpa using hs.len
  have hra : w.rangeAt ga oa (l.map vb) := hla
  have hg := Blk.lt hc1
  have hf := Blk.lt hc2
  obtain ⟨kk, hkk⟩ : ∃ kk, aesKey key = kk := ⟨_, rfl⟩
  rw [hkk] at hkr hkey16
  have HKK := Lib.hid hkk
  clear hkk
  have HC1 := Lib.hid hc1
  have HC2 := Lib.hid hc2
  have HKR := Lib.hid hkr
  have HK16 := Lib.hid hkey16
  have HRA := Lib.hid hra
  have HRR := Lib.hid hR
  have HL := Lib.hid hl16
  have k1 : w.cell? ⟨g, 1, none⟩ = some (.slice (some ⟨gk, 0, none⟩) (R + 1) cap) := Blk.cell hc1 1
  have k0 : w.cell? ⟨g, 0, none⟩ = some (.pointer (some ⟨f, 0, none⟩)) := Blk.cell hc1 0
  unfold maxLen at hcap
  clear hc1 hc2 hc3 hkr hkey16 hra hR hs hla hall hl16
  have S0 := Lib.hid (show Sq (w.alloc (.cells #[.int .u8 0, .int .u8 0, .int .u8 0, .int .u8 0, .int .u8 0, .int .u8 0, .int .u8 0, .int .u8 0, .int .u8 0, .int .u8 0, .int .u8 0, .int .u8 0, .int .u8 0, .int .u8 0, .int .u8 0, .int .u8 0] 84)) w.heap.size (List.replicate 16 0) from Sq.new w (List.replicate 16 0) rfl)
  go_enter Try.func19, Try.ntmps19
  go_wp2_with (first | (with_reducible refine wpList_load_mid rfl 84 (.tmp 17) rfl ga oa rfl (l.map vb) _ HRA.out Try.underlying84 rfl (by rw [List.length_map, HL.out]; exact infoQ) ?_) | (with_reducible refine storeSqL rfl (.tmp 6) (.tmp 18) rfl w.heap.size l (List.replicate 16 0) rfl rfl S0.out HL.out ?_; intro w2 h1 h2; have hb2 := fresh_row h2; have k12 := (hb2.cell (p := ⟨g, 1, none⟩) hg).trans k1; have hr0 := range_below (HKR.out 0 (Nat.succ_pos R)) hb2 hgk; have hx0 := HK16.out 0 (Nat.succ_pos R)) | (with_reducible refine wpList_load_mid rfl 84 (.tmp 23) rfl gk 0 rfl ((kk 0).map vb) _ hr0 Try.underlying84 rfl (by rw [List.length_map, hx0]; exact infoQ) ?_) | (go_at_call 57; refine (sqAdd_any w.heap.size l (kk 0) hx0 w2 h1).mono ?_; rintro e w3 ⟨⟨v, rfl⟩, h3, h4⟩; have hb3 := Below.grown hb2 h4 hb2.size (fun k e => by cases e; exact Nat.le_refl _); have k13 := (hb3.cell (p := ⟨g, 1, none⟩) hg).trans k1))
  have H3 := Lib.hid (show Sq w3 w.heap.size (aesUpto key l 0) by rw [← HKK.out] at h3; exact h3)
  have HB3 := Lib.hid hb3
  clear h3 h4 hb3 hb2 h1 h2 hr0 k12 k13 S0 HRA
  go_loopw [32] (fun s32 wr => ∃ k : Nat, k ≤ R ∧ s32 = vi k ∧ Hid (Sq wr w.heap.size (aesUpto key l k)) ∧ Hid (Below w.heap.size w wr)) (fun s32 _ => R - (intOf s32).toNat)
  case atStart => exact ⟨0, by omega, rfl, H3, HB3⟩
  case round =>
    obtain ⟨k, hk, rfl, HQ, HB⟩ := hrel
    clear H3 HB3
    obtain ⟨q, hq⟩ : ∃ q, aesUpto key l k = q := ⟨_, rfl⟩
    rw [hq] at HQ
    have HQe := Lib.hid hq
    clear hq
    have e0 := (HB.out.cell (p := ⟨g, 0, none⟩) hg).trans k0
    have e1 := (HB.out.cell (p := ⟨g, 1, none⟩) hg).trans k1
    by_cases hlt : k < R
    · have hrk := range_below (HKR.out (k + 1) (by omega)) HB.out hgk
      have hxk := HK16.out (k + 1) (by omega)
      rw [show (k + 1) * 16 = 16 + k * 16 by omega] at hrk
      have S1 := Lib.hid (show Sq (wr.alloc (.cells #[.int .u8 0, .int .u8 0, .int .u8 0, .int .u8 0, .int .u8 0, .int .u8 0, .int .u8 0, .int .u8 0, .int .u8 0, .int .u8 0, .int .u8 0, .int .u8 0, .int .u8 0, .int .u8 0, .int .u8 0, .int .u8 0] 84)) wr.heap.size (List.replicate 16 0) from Sq.new wr (List.replicate 16 0) rfl)
      have HT := Lib.hid (tab_of_cip HC1.out).1
      have hlw : w.heap.size < wr.heap.size := HQ.out.2.lt
      have hne : w.heap.size ≠ wr.heap.size := by omega
      have hstep : aesUpto key l (k + 1) = xorL (if k + 1 < R then aesCol [2, 1, 1, 3] (aesRow 1 (q.map sbox)) else aesRow 1 (q.map sbox)) (kk (k + 1)) := by
        show aesRound key (k + 1) (aesUpto key l k) = _
        unfold aesRound
        rw [HQe.out, HRR.out, HKK.out]
      have Hst := Lib.hid hstep
      clear hstep
      by_cases h2 : k + 1 < R
      · go_wp2_with (first
        | (with_reducible refine wpList_load_mid rfl 84 (.tmp 35) rfl gk (16 + k * 16) rfl ((kk (k + 1)).map vb) _ hrk Try.underlying84 rfl (by rw [List.length_map, hxk]; exact infoQ) ?_)
        | (with_reducible refine storeSqL rfl (.tmp 8) (.tmp 36) rfl wr.heap.size (kk (k + 1)) (List.replicate 16 0) rfl rfl S1.out hxk ?_; intro w4 h41 h42; have hb4 : Below wr.heap.size wr w4 := fresh_row h42; have hq4 := HQ.out.below hb4 hlw; have hB4 := below_then HB.out hb4 HB.out.size; have ht4 := HT.out.below hB4 hg; have e04 := (hB4.cell (p := ⟨g, 0, none⟩) hg).trans k0; clear h42 hb4)
        | (go_at_call 58; refine (sqBox_any w.heap.size g 2 sbox q w4 hq4 ht4).mono ?_; rintro e w5 ⟨⟨v5, rfl⟩, h5, g5⟩; have hB5 := below_sq hB4 g5 (Nat.le_refl _) (Nat.le_refl _); have h51 := h41.grown g5 hne)
        | (go_at_call 59; refine (sqRows_one w.heap.size (q.map sbox) w5 h5).mono ?_; rintro e w6 ⟨⟨v6, rfl⟩, h6, g6⟩; have hB6 := below_sq hB5 g6 (Nat.le_refl _) (Nat.le_refl _); have h61 := h51.grown g6 hne; have hc6 := Blk.below HC1.out hB6 hg; have hf6 := Blk.below HC2.out hB6 hf; have e06 := (hB6.cell (p := ⟨g, 0, none⟩) hg).trans k0)
        | (go_at_call 22; refine (Rounds_any g (R + 1) cap _ _ _ _ w6 hc6 (by omega)).mono ?_; rintro e w7 ⟨rfl, rfl⟩)
        | (go_at_call 60; refine (sqCols_enc w.heap.size f _ w6 h6 hf6).mono ?_; rintro e w7 ⟨⟨v7, rfl⟩, h7, g7⟩; have hB7 := below_sq hB6 g7 (Nat.le_refl _) (Nat.le_refl _); have h71 := h61.grown g7 hne)
        | (with_reducible refine loadSqL rfl (.tmp 8) rfl wr.heap.size (kk (k + 1)) rfl h71 ?_)
        | (go_at_call 57; refine (sqAdd_any w.heap.size (aesCol [2, 1, 1, 3] (aesRow 1 (q.map sbox))) (kk (k + 1)) hxk w7 h7).mono ?_; rintro e w8 ⟨⟨v8, rfl⟩, h8, g8⟩))
        go_roundw
        case rel =>
          refine ⟨k + 1, by omega, by go_num, ?_, below_sq hB7 g8 (Nat.le_refl _) (Nat.le_refl _)⟩
          show Sq _ _ _
          rw [Hst.out, if_pos h2]
          exact h8
        case measure => simp [intOf]; omega
      · go_wp2_with (first
        | (with_reducible refine wpList_load_mid rfl 84 (.tmp 35) rfl gk (16 + k * 16) rfl ((kk (k + 1)).map vb) _ hrk Try.underlying84 rfl (by rw [List.length_map, hxk]; exact infoQ) ?_)
        | (with_reducible refine storeSqL rfl (.tmp 8) (.tmp 36) rfl wr.heap.size (kk (k + 1)) (List.replicate 16 0) rfl rfl S1.out hxk ?_; intro w4 h41 h42; have hb4 : Below wr.heap.size wr w4 := fresh_row h42; have hq4 := HQ.out.below hb4 hlw; have hB4 := below_then HB.out hb4 HB.out.size; have ht4 := HT.out.below hB4 hg; have e04 := (hB4.cell (p := ⟨g, 0, none⟩) hg).trans k0; clear h42 hb4)
        | (go_at_call 58; refine (sqBox_any w.heap.size g 2 sbox q w4 hq4 ht4).mono ?_; rintro e w5 ⟨⟨v5, rfl⟩, h5, g5⟩; have hB5 := below_sq hB4 g5 (Nat.le_refl _) (Nat.le_refl _); have h51 := h41.grown g5 hne)
        | (go_at_call 59; refine (sqRows_one w.heap.size (q.map sbox) w5 h5).mono ?_; rintro e w6 ⟨⟨v6, rfl⟩, h6, g6⟩; have hB6 := below_sq hB5 g6 (Nat.le_refl _) (Nat.le_refl _); have h61 := h51.grown g6 hne; have hc6 := Blk.below HC1.out hB6 hg; have hf6 := Blk.below HC2.out hB6 hf; have e06 := (hB6.cell (p := ⟨g, 0, none⟩) hg).trans k0)
        | (go_at_call 22; refine (Rounds_any g (R + 1) cap _ _ _ _ w6 hc6 (by omega)).mono ?_; rintro e w7 ⟨rfl, rfl⟩)
        | (go_at_call 60; refine (sqCols_enc w.heap.size f _ w6 h6 hf6).mono ?_; rintro e w7 ⟨⟨v7, rfl⟩, h7, g7⟩; have hB7 := below_sq hB6 g7 (Nat.le_refl _) (Nat.le_refl _); have h71 := h61.grown g7 hne)
        | (with_reducible refine loadSqL rfl (.tmp 8) rfl wr.heap.size (kk (k + 1)) rfl h61 ?_)
        | (go_at_call 57; refine (sqAdd_any w.heap.size (aesRow 1 (q.map sbox)) (kk (k + 1)) hxk w6 h6).mono ?_; rintro e w8 ⟨⟨v8, rfl⟩, h8, g8⟩))
        go_roundw
        case rel =>
          refine ⟨k + 1, by omega, by go_num, ?_, below_sq hB6 g8 (Nat.le_refl _) (Nat.le_refl _)⟩
          show Sq _ _ _
          rw [Hst.out, if_neg h2]
          exact h8
        case measure => simp [intOf]; omega
    · obtain rfl : k = R := by omega
      have hcl := Lib.hid (HQ.out.sl)
      go_wp2_with (go_at_call 50; refine (Clone_any _ 16 16 q wr hcl.out (by omega)).mono ?_; rintro e w9 ⟨A9, c9, rfl, ho9, hb9⟩)
      go_ret2
      have e : q = aesEnc key l := by rw [← HQe.out, aesEnc, HRR.out]
      rw [e] at ho9
      exact ⟨A9, c9, rfl, ho9.more HB.out.size, below_then HB.out hb9 HB.out.size⟩
end Lg
