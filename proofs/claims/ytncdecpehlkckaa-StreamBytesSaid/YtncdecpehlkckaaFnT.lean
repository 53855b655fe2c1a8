/-
A block back through the cipher (cipher.Decrypt). No condition but the lengths and that the cipher is one that New made.
-/
import Derived.Test.YtncdecpehlkckaaFnS
import Derived.RangeFuncNested
namespace Lg
open Go Go.RowKit Go.Proofs Go.Shelf
attribute [local go_sem] Oper.semAt_some

theorem wide_fn {n : Nat} {p : Prop} (h : p) : Fence.wide.fn n ∧ p := ⟨trivial, h⟩
theorem sqRows_three (s : Nat) (l : List UInt8) (w : World) (hS : Sq w s l) :
    Calls Try.prog 59 #[.pointer (some ⟨s, 0, none⟩), .int .i64 3] w fun e w' => (∃ v, e = .returned v) ∧ Sq w' s (aesRow 3 l) ∧ w.grownBy w' (some s) := sqRows_any s 3 (by omega) l w hS
theorem sqCols_dec (s f : Nat) (l : List UInt8) (w : World) (hS : Sq w s l) (hF : Fl w f) :
    Calls Try.prog 60 #[.pointer (some ⟨s, 0, none⟩), .pointer (some ⟨f, 0, none⟩), .agg #[.int .u8 14, .int .u8 9, .int .u8 13, .int .u8 11]] w fun e w' => (∃ v, e = .returned v) ∧ Sq w' s (aesCol [14, 9, 13, 11] l) ∧ w.grownBy w' (some s) :=
  sqCols_any s f [14, 9, 13, 11] l rfl w hS hF

set_option maxRecDepth 10000 in
set_option maxHeartbeats 1000000 in
theorem Decrypt_any (g : Nat) (key : List UInt8) (n4 : Nat) (hn4 : 0 < n4 ∧ n4 ≤ 8) (hkl : key.length = 4 * n4) (A : Option Addr) (c : Nat) (l : List UInt8) (w : World) (hC : CipOk w g key) (hs : Sl w A 16 c (l.map vb)) :
    Calls Try.prog 20 #[.pointer (some ⟨g, 0, none⟩), .slice A 16 c] w fun e w' => ∃ A' c', e = .returned (.tuple #[.slice A' 16 c', vi 0]) ∧ Ow w' w.heap.size 5 A' 16 c' ((aesDec key l).map vb) ∧ Below w.heap.size w w' := by
  obtain ⟨R, hR⟩ : ∃ R, aesRounds key = R := ⟨_, rfl⟩
  have hkey16 := aesWords_any key n4 hn4.1 hkl
  have hR14 : R ≤ 14 ∧ 1 ≤ R := by rw [← hR]; unfold aesRounds; omega
  obtain ⟨f, gk, cap, hc1, hc2, hc3⟩ := hC
  rw [hR] at hc1 hc3 hkey16
  have hall : ∀ x ∈ (List.range (R + 1)).map (aesKey key), x.length = 16 := fun x hx => by
    obtain ⟨r, hr, rfl⟩ := List.mem_map.1 hx
    exact hkey16 r (List.mem_range.1 hr)
  have hkr : ∀ r, r < R + 1 → w.rangeAt gk (r * 16) ((aesKey key r).map vb) := fun r hr => key_range hc3 hall (by rw [List.getElem?_map, List.getElem?_range hr]; rfl)
  have hgk : gk < w.heap.size := (hc3.lt gk rfl).2
  have hcap : R + 1 ≤ cap ∧ cap ≤ maxLen := by
    rcases hc3.2 with ⟨h, _⟩ | ⟨g', cap', cur, h, _, _, h1, h2, _⟩
    · cases h
    · cases h; exact ⟨h1, h2⟩
  obtain ⟨ga, oa, rfl, hga, hla⟩ := hs.place (by omega)
  have hl16 : l.length = 16 := by simpa using hs.len
  have hra : w.rangeAt ga oa (l.map vb) := hla
  have hg := Blk.lt hc1
  have hf := Blk.lt hc2
  obtain ⟨kk, hkk⟩ : ∃ kk, aesKey key = kk := ⟨_, rfl⟩
  rw [hkk] at hkr hkey16
  have HKK := Lib.hid hkk
  clear hkk
  have HC1 := Lib.hid hc1
  have HC2 := Lib.hid hc2
  have HKR := Lib.hid hkr
  have HK16 := Lib.hid hkey16
  have HRA := Lib.hid hra
  have HRR := Lib.hid hR
  have HL := Lib.hid hl16
  have k1 : w.cell? ⟨g, 1, none⟩ = some (.slice (some ⟨gk, 0, none⟩) (R + 1) cap) := Blk.cell hc1 1
  have k0 : w.cell? ⟨g, 0, none⟩ = some (.pointer (some ⟨f, 0, none⟩)) := Blk.cell hc1 0
  unfold maxLen at hcap
  clear hc1 hc2 hc3 hkr hkey16 hra hR hs hla hall hl16
  obtain ⟨W1, hW1⟩ : ∃ W1, w.alloc (.cells #[.pointer (some ⟨g, 0, none⟩)] 25) = W1 := ⟨_, rfl⟩
  refine calls_of_marks Try.func20 rfl ?_
  simp only [Try.ntmps20, List.size_toArray, List.length_cons, List.length_nil, Nat.reduceAdd, Nat.reduceSub, Array.replicate_succ, Array.replicate_zero, List.push_toArray, List.append_toArray, List.nil_append, List.cons_append]
  have hWs : W1.heap.size = w.heap.size + 1 := by rw [← hW1]; simp
  have hWb : Below w.heap.size w W1 := by rw [← hW1]; exact (Below.refl _ _).alloc (Nat.le_refl _) _
  have hWp : Blk W1 w.heap.size 25 [.pointer (some ⟨g, 0, none⟩)] := by rw [← hW1]; exact Blk.new w _ _
  have S0 := Lib.hid (show Sq (W1.alloc (.cells #[.int .u8 0, .int .u8 0, .int .u8 0, .int .u8 0, .int .u8 0, .int .u8 0, .int .u8 0, .int .u8 0, .int .u8 0, .int .u8 0, .int .u8 0, .int .u8 0, .int .u8 0, .int .u8 0, .int .u8 0, .int .u8 0] 84)) W1.heap.size (List.replicate 16 0) from Sq.new W1 (List.replicate 16 0) rfl)
  have r1 := range_below HRA.out hWb hga
  have p1 : W1.cell? ⟨w.heap.size, 0, none⟩ = some (.pointer (some ⟨g, 0, none⟩)) := hWp.cell 0
  have HWB := Lib.hid hWb
  have HWP := Lib.hid hWp
  have hlt := hWp.lt
  obtain ⟨sb, hsb⟩ : ∃ sb, W1.heap.size = sb := ⟨_, rfl⟩
  rw [hsb] at S0
  have HWs := Lib.hid hWs
  clear hWb hWp hWs
  go_wp2_with (first | (with_reducible refine wpList_load_mid rfl 84 (.tmp 17) rfl ga oa rfl (l.map vb) _ r1 Try.underlying84 rfl (by rw [List.length_map, HL.out]; exact infoQ) ?_) | (with_reducible refine storeSqL rfl (.tmp 6) (.tmp 18) rfl sb l (List.replicate 16 0) rfl rfl S0.out HL.out ?_; intro w2 h1 h2; have hb2 : Below W1.heap.size W1 w2 := fresh_row (by rw [hsb]; exact h2); have k12 := (hb2.cell (p := ⟨g, 1, none⟩) (Nat.lt_of_lt_of_le hg HWB.out.size)).trans ((HWB.out.cell (p := ⟨g, 1, none⟩) hg).trans k1); have p12 := (hb2.cell (p := ⟨w.heap.size, 0, none⟩) hlt).trans p1) | (go_at_call 61; refine (Backward_any _ _ _ _).mono ?_; rintro e w3 ⟨rfl, hw3⟩))
  have hs3 : w3.heap.size = w2.heap.size + 1 := by rw [← hw3]; simp
  have hb3 : Below w2.heap.size w2 w3 := by rw [← hw3]; exact (Below.refl _ _).alloc (Nat.le_refl _) _
  have hv3 : Blk w3 w2.heap.size 70 [.slice (some ⟨gk, 16, none⟩) R (cap - 1)] := by rw [← hw3]; exact Blk.new w2 _ _
  have hB2 : Below w.heap.size w w2 := below_then HWB.out hb2 HWB.out.size
  have hB3 : Below w.heap.size w w3 := below_then hB2 hb3 hB2.size
  have hq3 : Sq w3 sb l := h1.below hb3 h1.2.lt
  have hp3 : Blk w3 w.heap.size 25 [.pointer (some ⟨g, 0, none⟩)] := ((HWP.out.below hb2 hlt).keep hb3)
  obtain ⟨bv, hbv⟩ : ∃ bv, w2.heap.size = bv := ⟨_, rfl⟩
  obtain ⟨rb, hrb⟩ : ∃ rb : Nat → List UInt8 → List UInt8, (fun x s => aesRoundBack key (x + 1) s) = rb := ⟨_, rfl⟩
  have Hrb := Lib.hid hrb
  clear hrb
  rw [hbv] at hv3 hs3
  have hkk3 : ∀ r, r < R → w3.rangeAt gk (16 + r * 16) ((kk (r + 1)).map vb) := fun r hr => by
    have h := range_below (HKR.out (r + 1) (by omega)) hB3 hgk
    rwa [show (r + 1) * 16 = 16 + r * 16 by omega] at h
  have hsb2 : sb < bv := by rw [← hbv]; exact h1.2.lt
  have hws := HWs.out
  have hI0 : Sq w3 sb l ∧ Blk w3 w.heap.size 25 [.pointer (some ⟨g, 0, none⟩)] ∧ Below w.heap.size w w3 ∧ w3.heap.size ≤ w3.heap.size := ⟨hq3, hp3, hB3, Nat.le_refl _⟩
  rw [hbv]
  refine wp_rangeH (gf := 91) (lb := #[.pointer (some ⟨bv, 0, none⟩)]) rfl (enters_of Try.func91 (by kernel_rfl) rfl)
    (back_stops bv gk 16 R (cap - 1) (by omega) (fun r => kk (r + 1)) (fun r hr => HK16.out (r + 1) (by omega)) w3 (by omega) (by have := hB3.size; omega) hv3 hkk3) Two.trans (Two.putObj (by omega) (by have := hB3.size; omega)) (Below.refl _ _) (fun _ => rfl)
    (fun (pre : List {k : Nat // k < R}) W => Sq W sb (pre.foldl (fun (s : List UInt8) (x : {k : Nat // k < R}) => rb x.val s) l) ∧ Blk W w.heap.size 25 [.pointer (some ⟨g, 0, none⟩)] ∧ Below w.heap.size w W ∧ w3.heap.size ≤ W.heap.size)
    (fun s W W' row hs hg' hr => ⟨⟨hs.1.1, hs.1.2.turn hg' (fun r e => (hr r e).2)⟩, hs.2.1.turn hg' (fun r e => (hr r e).2), hs.2.2.1.grown hg' hs.2.2.1.size (fun k e => by have := (hr k e).1; omega), Nat.le_trans hs.2.2.2 hg'.size⟩)
    hI0 ?act (fun x sk W => Sq W sk (kk (x.1 + 1)) ∧ w3.heap.size ≤ sk) (fun x sk s W W' row hs hg' hr => ⟨⟨hs.1.1, hs.1.2.turn hg' (fun r e => (hr r e).2)⟩, hs.2⟩) ?assign ?body ?done
  case assign =>
    intro l0 pre x W K hI hK
    obtain ⟨sk, hsk⟩ : ∃ sk, W.heap.size = sk := ⟨_, rfl⟩
    have S1 := Lib.hid (show Sq (W.alloc (.cells #[.int .u8 0, .int .u8 0, .int .u8 0, .int .u8 0, .int .u8 0, .int .u8 0, .int .u8 0, .int .u8 0, .int .u8 0, .int .u8 0, .int .u8 0, .int .u8 0, .int .u8 0, .int .u8 0, .int .u8 0, .int .u8 0] 84)) sk (List.replicate 16 0) by rw [← hsk]; exact Sq.new W (List.replicate 16 0) rfl)
    have hx16 := HK16.out (x.1 + 1) (by have := x.2; omega)
    gi_wp2_with (with_reducible refine storeSqIn rfl (.tmp 8) (.tmp 26) rfl sk (kk (x.1 + 1)) (List.replicate 16 0) rfl rfl S1.out hx16 ?_; intro w4 h41 h42)
    have hb4 : Below W.heap.size W w4 := fresh_row (by rw [hsk]; exact h42)
    obtain ⟨hI1, hI2, hI3, hI4⟩ := hI
    have hs4 := hb4.size
    exact hK sk w4 (keeps_below hb4) (Two.below hb4 (by omega) (by have := hI3.size; omega)) ⟨hI1.below hb4 hI1.2.lt, hI2.keep hb4, below_then hI3 hb4 hI3.size, by omega⟩ ⟨h41, by omega⟩
  case body =>
    intro l0 pre x sk W hI hX hlt2
    obtain ⟨hI1, hI2, hI3, hI4⟩ := hI
    obtain ⟨hX1, hX2⟩ := hX
    obtain ⟨q, hq⟩ : ∃ q, pre.foldl (fun (s : List UInt8) (x : {k : Nat // k < R}) => rb x.val s) l = q := ⟨_, rfl⟩
    rw [hq] at hI1
    have Hq := Lib.hid hq
    clear hq
    have hx16 := HK16.out (x.1 + 1) (by have := x.2; omega)
    have hne : sb ≠ sk := by omega
    have hnw : sb ≠ w.heap.size := by omega
    have c1 := Blk.below HC1.out hI3 hg
    have c2 := Blk.below HC2.out hI3 hf
    have HT := Lib.hid (tab_of_cip c1).2
    have HI3 := Lib.hid hI3
    have HI2 := Lib.hid hI2
    have HX := Lib.hid hX1
    have hlt3 := hI1.2.lt
    have hstep : rb x.1 q = (aesRow 3 (if x.1 + 1 < R then aesCol [14, 9, 13, 11] (xorL q (kk (x.1 + 1))) else xorL q (kk (x.1 + 1)))).map isbox := by
      rw [← Hrb.out]
      show aesRoundBack key (x.1 + 1) q = _
      unfold aesRoundBack
      rw [HRR.out, HKK.out]
    have Hst := Lib.hid hstep
    have p0 : W.cell? ⟨w.heap.size, 0, none⟩ = some (.pointer (some ⟨g, 0, none⟩)) := HI2.out.cell 0
    clear hstep hI3 hI2 hX1
    have hwsb : w.heap.size ≤ sb := by omega
    by_cases h2 : x.1 + 1 < R
    · gi_wp2_with (first
      | (with_reducible refine wide_fn ?_)
      | (with_reducible refine wpListIn_load_mid rfl 84 (.tmp 8) rfl sk 0 rfl ((kk (x.1 + 1)).map vb) _ HX.out.range Try.underlying84 rfl (by rw [List.length_map, hx16]; exact infoQ) ?_)
      | (gi_at_call 57; refine (CallsIn.inRound l0 (callsIn_wide.2 (sqAdd_any sb q (kk (x.1 + 1)) hx16 W hI1))).mono ?_; rintro e w4 ⟨⟨v4, rfl⟩, h4, g4⟩; have p4 := g4.cell p0 (fun e => hnw (Option.some.inj e).symm); have hB4 := below_sq HI3.out g4 (Nat.le_refl _) hwsb; have hc4 := Blk.below HC1.out hB4 hg)
      | (gi_at_call 22; refine (CallsIn.inRound l0 (callsIn_wide.2 (Rounds_any g (R + 1) cap _ _ _ _ w4 hc4 (by omega)))).mono ?_; rintro e w5 ⟨rfl, rfl⟩; have e04 := (hB4.cell (p := ⟨g, 0, none⟩) hg).trans k0; have hf4 := Blk.below HC2.out hB4 hf)
      | (gi_at_call 60; refine (CallsIn.inRound l0 (callsIn_wide.2 (sqCols_dec sb f _ w4 h4 hf4))).mono ?_; rintro e w6 ⟨⟨v6, rfl⟩, h6, g6⟩; have p6 := g6.cell p4 (fun e => hnw (Option.some.inj e).symm); have hB6 := below_sq hB4 g6 (Nat.le_refl _) hwsb)
      | (gi_at_call 59; refine (CallsIn.inRound l0 (callsIn_wide.2 (sqRows_three sb _ w6 h6))).mono ?_; rintro e w7 ⟨⟨v7, rfl⟩, h7, g7⟩; have p7 := g7.cell p6 (fun e => hnw (Option.some.inj e).symm); have hB7 := below_sq hB6 g7 (Nat.le_refl _) hwsb; have ht7 := (tab_of_cip (Blk.below HC1.out hB7 hg)).2)
      | (gi_at_call 58; refine (CallsIn.inRound l0 (callsIn_wide.2 (sqBox_any sb g 258 isbox _ w7 h7 ht7))).mono ?_; rintro e w8 ⟨⟨v8, rfl⟩, h8, g8⟩))
      have gA := ((g4.trans g6).trans g7).trans g8
      have hW := HI3.out.size
      show KeepsFrom w3.heap.size W w8 ∧ Two bv gk W w8 ∧ _
      refine ⟨keeps_row gA (fun k e => by cases e; exact ⟨_, hI1.2⟩), two_row gA (by omega) (by omega) (fun e => by have := Option.some.inj e; omega) (fun e => by have := Option.some.inj e; omega), ?_, ?_, ?_, ?_⟩
      · rw [List.foldl_append, Hq.out]
        show Sq w8 sb (rb x.1 q)
        rw [Hst.out, if_pos h2]
        exact h8
      · exact HI2.out.grown gA (fun e => by have := Option.some.inj e; omega)
      · exact below_sq HI3.out gA (Nat.le_refl _) hwsb
      · exact Nat.le_trans hI4 gA.size
    · gi_wp2_with (first
      | (with_reducible refine wide_fn ?_)
      | (with_reducible refine wpListIn_load_mid rfl 84 (.tmp 8) rfl sk 0 rfl ((kk (x.1 + 1)).map vb) _ HX.out.range Try.underlying84 rfl (by rw [List.length_map, hx16]; exact infoQ) ?_)
      | (gi_at_call 57; refine (CallsIn.inRound l0 (callsIn_wide.2 (sqAdd_any sb q (kk (x.1 + 1)) hx16 W hI1))).mono ?_; rintro e w4 ⟨⟨v4, rfl⟩, h4, g4⟩; have p4 := g4.cell p0 (fun e => hnw (Option.some.inj e).symm); have hB4 := below_sq HI3.out g4 (Nat.le_refl _) hwsb; have hc4 := Blk.below HC1.out hB4 hg)
      | (gi_at_call 22; refine (CallsIn.inRound l0 (callsIn_wide.2 (Rounds_any g (R + 1) cap _ _ _ _ w4 hc4 (by omega)))).mono ?_; rintro e w5 ⟨rfl, rfl⟩; have e04 := (hB4.cell (p := ⟨g, 0, none⟩) hg).trans k0; have hf4 := Blk.below HC2.out hB4 hf)
      | (gi_at_call 59; refine (CallsIn.inRound l0 (callsIn_wide.2 (sqRows_three sb _ w4 h4))).mono ?_; rintro e w7 ⟨⟨v7, rfl⟩, h7, g7⟩; have p7 := g7.cell p4 (fun e => hnw (Option.some.inj e).symm); have hB7 := below_sq hB4 g7 (Nat.le_refl _) hwsb; have ht7 := (tab_of_cip (Blk.below HC1.out hB7 hg)).2)
      | (gi_at_call 58; refine (CallsIn.inRound l0 (callsIn_wide.2 (sqBox_any sb g 258 isbox _ w7 h7 ht7))).mono ?_; rintro e w8 ⟨⟨v8, rfl⟩, h8, g8⟩))
      have gA := (g4.trans g7).trans g8
      have hW := HI3.out.size
      show KeepsFrom w3.heap.size W w8 ∧ Two bv gk W w8 ∧ _
      refine ⟨keeps_row gA (fun k e => by cases e; exact ⟨_, hI1.2⟩), two_row gA (by omega) (by omega) (fun e => by have := Option.some.inj e; omega) (fun e => by have := Option.some.inj e; omega), ?_, ?_, ?_, ?_⟩
      · rw [List.foldl_append, Hq.out]
        show Sq w8 sb (rb x.1 q)
        rw [Hst.out, if_neg h2]
        exact h8
      · exact HI2.out.grown gA (fun e => by have := Option.some.inj e; omega)
      · exact below_sq HI3.out gA (Nat.le_refl _) hwsb
      · exact Nat.le_trans hI4 gA.size
  case done =>
    intro D xs W hD hS hI hDW
    obtain ⟨hI1, hI2, hI3, hI4⟩ := hI
    have p0 : W.cell? ⟨w.heap.size, 0, none⟩ = some (.pointer (some ⟨g, 0, none⟩)) := hI2.cell 0
    have e1 := (hI3.cell (p := ⟨g, 1, none⟩) hg).trans k1
    have hr0 := range_below (HKR.out 0 (Nat.succ_pos R)) hI3 hgk
    have hx0 := HK16.out 0 (Nat.succ_pos R)
    obtain ⟨q, hq⟩ : ∃ q, xs.foldl (fun (s : List UInt8) (x : {k : Nat // k < R}) => rb x.val s) l = q := ⟨_, rfl⟩
    rw [hq] at hI1
    have Hq := Lib.hid hq
    have HI3 := Lib.hid hI3
    clear hq hI3
    go_wp2_with (first
      | (with_reducible refine wpList_load_mid rfl 84 (.tmp 49) rfl gk 0 rfl ((kk 0).map vb) _ hr0 Try.underlying84 rfl (by rw [List.length_map, hx0]; exact infoQ) ?_)
      | (go_at_call 57; refine (sqAdd_any sb q (kk 0) hx0 W hI1).mono ?_; rintro e w9 ⟨⟨v9, rfl⟩, h9, g9⟩; have hB9 := below_sq HI3.out g9 (Nat.le_refl _) (by omega); have hcl := Lib.hid h9.sl)
      | (go_at_call 50; refine (Clone_any _ 16 16 _ w9 hcl.out (by omega)).mono ?_; rintro e w10 ⟨A9, c9, rfl, ho9, hb9⟩))
    have hDw : W.heap[D]? = some (.deferred (some [])) := hDW
    have hDl : D < W.heap.size := (Array.getElem?_eq_some_iff.1 hDw).1
    have hD9 : w9.heap[D]? = some (.deferred (some [])) := (g9.block D hDl (fun e => by have := Option.some.inj e; omega)).trans hDw
    have hD10 : w10.heap[D]? = some (.deferred (some [])) := (hb9.block D ((Array.getElem?_eq_some_iff.1 hD9).1)).trans hD9
    have gp := grownBy_putObj' w10 D (.deferred none)
    have cp : NoCells w10 (some D) := fun r e => by cases e; exact ⟨_, hD10, rfl⟩
    refine postM_ret (w' := w10.putObj D (.deferred none)) ⟨D, rfl, hD10, rfl⟩ (results_tmp2 rfl _ _ _) ?_
    have hB10 := below_then hB9 hb9 hB9.size
    have hm := ho9.more hB9.size
    have hfin : xorL q (kk 0) = aesDec key l := by
      rw [← Hq.out, ← HKK.out, ← Hrb.out, aesDec, HRR.out, down_fold, ← hS, List.foldl_map]
    rw [hfin] at hm
    refine ⟨A9, c9, rfl, ?_, ?_⟩
    · exact hm.turn gp cp
    · exact hB10.grown gp hB10.size (fun k e => by cases e; omega)
end Lg
