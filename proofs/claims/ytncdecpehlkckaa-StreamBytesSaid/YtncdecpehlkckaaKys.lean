/-
The document's round keys (largesseref05.Keys), of keys of 16 and of 32 bytes. No condition but the length.
-/
import Derived.Test.YtncdecpehlkckaaFnQ
import Derived.StillTailTactics
import Derived.Deep.RegionHeld3
import Derived.Deep.RegionLaw
import Derived.Deep.CutRange
import Derived.Deep.CutBlock
namespace Lg
open Go Go.RowKit Go.Proofs

theorem flat_get {ls : List (List UInt8)} (h4 : ∀ x ∈ ls, x.length = 4) {i j : Nat} {t : List UInt8} (ht : ls[i]? = some t) (hj : j < 4) : ls.flatten[4 * i + j]? = some (t.getD j 0) := by
  induction ls generalizing i with
  | nil => simp at ht
  | cons a l ih =>
    have ha := h4 a (by simp)
    cases i with
    | zero =>
      simp at ht; subst ht
      rw [List.flatten_cons, List.getElem?_append_left (by omega), List.getD_eq_getElem?_getD]
      rw [show 4 * 0 + j = j by omega, List.getElem?_eq_getElem (by omega)]; rfl
    | succ i =>
      rw [List.flatten_cons, List.getElem?_append_right (by omega), ← ih (fun y hy => h4 y (by simp [hy])) (by simpa using ht)]
      congr 1; omega
theorem tmod_yes (i m r : Nat) (h : i % m = r) : ((i : Int) % (m : Int) == (r : Int)) = true := by
  have e : (i : Int) % (m : Int) = ((i % m : Nat) : Int) := rfl
  rw [e, h]; simp
theorem tmod_no (i m r : Nat) (h : i % m ≠ r) : ((i : Int) % (m : Int) == (r : Int)) = false := by
  have e : (i : Int) % (m : Int) = ((i % m : Nat) : Int) := rfl
  rw [e]; simp; omega
theorem words_flat : ∀ (n : Nat) (l : List UInt8), l.length = 4 * n → ((List.range n).map fun i => (l.drop (4 * i)).take 4).flatten = l
  | 0, l, h => by
    have : l = [] := List.eq_nil_of_length_eq_zero (by omega)
    subst this; rfl
  | n + 1, l, h => by
    have ih := words_flat n (l.drop 4) (by rw [List.length_drop]; omega)
    rw [List.range_succ_eq_map, List.map_cons, List.map_map, List.flatten_cons]
    have e : (List.range n).map ((fun i => (l.drop (4 * i)).take 4) ∘ Nat.succ) = (List.range n).map fun i => ((l.drop 4).drop (4 * i)).take 4 := by
      apply List.map_congr_left
      intro i _
      simp only [Function.comp, List.drop_drop]
      congr 2; omega
    rw [e, ih]
    exact List.take_append_drop 4 l
theorem take_xor {y u : List UInt8} (hy : y.length = 4) (hu : u.length = 4) {j : Nat} (hj : j < 4) : (xorL y u).take (j + 1) = (xorL y u).take j ++ [u.getD j 0 ^^^ y.getD j 0] := by
  have e : (xorL y u)[j]? = some (u.getD j 0 ^^^ y.getD j 0) := by
    unfold xorL
    rw [List.getElem?_zipWith, List.getD_eq_getElem?_getD, List.getD_eq_getElem?_getD, List.getElem?_eq_getElem (by omega), List.getElem?_eq_getElem (by omega)]
    simp [UInt8.xor_comm]
  rw [List.take_add_one, e]; rfl
theorem list4 {t : List UInt8} (h : t.length = 4) : t = [t.getD 0 0, t.getD 1 0, t.getD 2 0, t.getD 3 0] := by
  match t, h with
  | [a, b, c, d], _ => rfl

theorem refMul_two (x : UInt8) (w : World) : Calls Try.prog 64 #[vb x, .int .u8 2] w fun e w' => e = .returned (vb (xt x)) ∧ w = w' := by
  have e : ∀ x, mul x 2 = xt x := all_bytes (by decide +kernel)
  have h := refMul_any x 2 w
  rw [e x] at h
  exact h
theorem u8_xor_cell (a b : UInt8) : Value.int .u8 ((a.toNat ^^^ b.toNat : Nat) : Int) = vb (a ^^^ b) := by rw [← UInt8.toNat_xor]
/-- append(x, b) in a region that draws its order -/
theorem step_appB1 {ops : Array Oper} {o : Oper} {a : Act} {w : World} {K : Act → World → Prop} {Q : Exit → Act → World → Prop} {X : Prop} (hgd : o.guard = none) (s x : Operand)
    (ho : o.op = .call { callee := .builtin .append, args := #[s, x], argTypes := #[22, 22] })
    (B : Nat) (A : Option Addr) (n c g : Nat) (xs : List UInt8) (hv : a.eval s = .slice A n c) (hx : a.eval x = .slice (some ⟨g, 0, none⟩) 1 1) (b : UInt8) (hown : Ow w B 5 A n c (xs.map vb))
    (hs : Sl w (some ⟨g, 0, none⟩) 1 1 [vb b]) (hnm : n + 1 ≤ 1099511627776) (hB : B ≤ w.heap.size)
    (h : ∀ A' c' w', Ow w' B 5 A' (n + 1) c' ((xs ++ [b]).map vb) → w.grownBy w' (rowOf A c) → (rowOf A' c' = rowOf A c ∨ rowOf A' c' = some w.heap.size) → K (a.put o.dst (.slice A' (n + 1) c')) w') :
    if Region.wanted o (yielded ops a.tmps) = true then Oper.wp Try.prog o a w K Q else X := by
  obtain ⟨i, hi, hz, hsz, hb⟩ := info_parts infoB
  refine step_append_sl w hgd s x _ ho 5 i _ 1 Try.underlying22 hi hz hsz hb rfl B A n c _ hv hown _ 1 1 _ hx hs (by simpa using vb_one (l := [b])) (by simp only [maxLen]; omega) (by omega) hB ?_
  intro A' c' w' h1 h2 h3
  rw [List.map_append] at h
  exact h A' c' w' h1 h2 h3

set_option maxRecDepth 10000 in
set_option maxHeartbeats 1000000 in
theorem refKeys4 (A0 : Option Addr) (c0 : Nat) (key : List UInt8) (w : World) (hs : Sl w A0 16 c0 (key.map vb)) :
    Calls Try.prog 62 #[.slice A0 16 c0] w fun e w' => ∃ A c, e = .returned (.slice A 176 c) ∧ Ow w' w.heap.size 5 A 176 c ((aesWords key 4 40).flatten.map vb) ∧ Below w.heap.size w w' := by
  have hkl : key.length = 16 := by simpa using hs.len
  have HS := Lib.hid hs
  have HK := Lib.hid hkl
  clear hs hkl
  go_enter Try.func62, Try.ntmps62
  go_wp2_with (at_builtin; refine appB rfl (.tmp 12) (.tmp 13) rfl w.heap.size (some ⟨w.heap.size, 0, none⟩) 0 0 [] rfl (Ow.nil _ _ _ _) A0 16 c0 key rfl (HS.out.alloc _) (by omega) (by simp) ?_; intro A1 c1 w1 h1 h2 h3)
  have hb1 : Below w.heap.size w w1 := ((Below.refl _ _).alloc (Nat.le_refl _) _).grown h2 (by simp) (by simp [rowOf])
  have e0 : (aesWords key 4 0).flatten = key := by
    exact words_flat 4 key HK.out
  simp only [List.nil_append] at h1
  rw [← e0] at h1
  have O1 := Lib.hid h1
  have B1 := Lib.hid hb1
  clear h1 h2 h3 hb1 HS
  go_loopw [4, 5, 6] (fun s4 s5 s6 wr => ∃ (k i L : Nat) (A : Option Addr) (c : Nat), k ≤ 40 ∧ i = 4 + k ∧ L = 4 * i ∧ s6 = vi i ∧ s4 = .slice A L c ∧ s5 = vb (rcon ((3 + k) / 4)) ∧ Hid (Ow wr w.heap.size 5 A L c ((aesWords key 4 k).flatten.map vb)) ∧ Hid (Below w.heap.size w wr)) (fun _ _ s6 _ => 44 - (intOf s6).toNat)
  case atStart => exact ⟨0, 4, 16, A1, c1, by omega, rfl, rfl, rfl, rfl, rfl, O1, B1⟩
  case round =>
    obtain ⟨k, i, L, A, c, hk, hi, hL, rfl, rfl, rfl, HO, HB⟩ := hrel
    clear O1 B1
    by_cases hlt : i < 44
    · have HI := Lib.hid hi
      have wl : (aesWords key 4 k).length = 4 + k := aesWords_length key 4 k
      have w4 := aesWords_word key 4 (by omega) HK.out k
      obtain ⟨t, ht⟩ : ∃ t, (aesWords key 4 k)[3 + k]? = some t := ⟨_, List.getElem?_eq_getElem (by omega)⟩
      obtain ⟨u, hu⟩ : ∃ u, (aesWords key 4 k)[k]? = some u := ⟨_, List.getElem?_eq_getElem (by omega)⟩
      have ht4 := w4 t (List.mem_of_getElem? ht)
      have hu4 := w4 u (List.mem_of_getElem? hu)
      have hst : aesWords key 4 (k + 1) = aesWords key 4 k ++ [aesNext 4 (aesWords key 4 k)] := rfl
      have hnx := aesNext_four wl ht hu
      obtain ⟨g, off, rfl, hBg, hgl, hrow, hcells, hfz⟩ := HO.out.at_ (by omega)
      have cell : ∀ j (x : UInt8), (aesWords key 4 k).flatten[j]? = some x → wr.cell? ⟨g, off + j, none⟩ = some (vb x) := fun j x hx => hcells j _ (by rw [List.getElem?_map, hx]; rfl)
      have t0 := cell _ _ (flat_get w4 ht (j := 0) (by omega))
      have t1 := cell _ _ (flat_get w4 ht (j := 1) (by omega))
      have t2 := cell _ _ (flat_get w4 ht (j := 2) (by omega))
      have t3 := cell _ _ (flat_get w4 ht (j := 3) (by omega))
      rw [show 4 * (3 + k) + 0 = 4 * i - 4 by omega] at t0
      rw [show 4 * (3 + k) + 1 = 4 * i - 3 by omega] at t1
      rw [show 4 * (3 + k) + 2 = 4 * i - 2 by omega] at t2
      rw [show 4 * (3 + k) + 3 = 4 * i - 1 by omega] at t3
      have U := Lib.hid (show ∀ j, j < 4 → wr.cell? ⟨g, off + (4 * k + j), none⟩ = some (vb (u.getD j 0)) from fun j hj => cell _ _ (flat_get w4 hu hj))
      have W4 := Lib.hid w4
      have W4f := Lib.hid (show (aesWords key 4 k).flatten.length = 4 * (4 + k) by rw [total_flatten, total_four w4, wl])
      have HUK := Lib.hid hu
      have WL := Lib.hid wl
      have HT := Lib.hid ht4
      have HU := Lib.hid hu4
      have HST := Lib.hid hst
      have HNX := Lib.hid hnx
      have HCT := Lib.hid (show t = [t.getD 0 0, t.getD 1 0, t.getD 2 0, t.getD 3 0] from list4 ht4)
      obtain ⟨x0, hx0⟩ : ∃ x, t.getD 0 0 = x := ⟨_, rfl⟩
      obtain ⟨x1, hx1⟩ : ∃ x, t.getD 1 0 = x := ⟨_, rfl⟩
      obtain ⟨x2, hx2⟩ : ∃ x, t.getD 2 0 = x := ⟨_, rfl⟩
      obtain ⟨x3, hx3⟩ : ∃ x, t.getD 3 0 = x := ⟨_, rfl⟩
      rw [hx0] at t0
      rw [hx1] at t1
      rw [hx2] at t2
      rw [hx3] at t3
      rw [hx0, hx1, hx2, hx3] at HCT
      have hnx2 := HNX.out
      rw [hx0, hx1, hx2, hx3, HCT.out] at hnx2
      have HNX2 := Lib.hid hnx2
      clear hnx2 HNX
      have HF := Lib.hid hfz
      clear hi w4 wl ht hu ht4 hu4 hst hnx hcells cell hx0 hx1 hx2 hx3 hfz hrow
      have hi4 : 4 ≤ i := by have := HI.out; omega
      have w0 : IntKind.i64.wrap (4 * (i : Int)) = 4 * (i : Int) := IntWalk.i64_in _ (by omega)
      obtain ⟨q0, hq0⟩ : ∃ q, 4 * i - 4 = q := ⟨_, rfl⟩
      obtain ⟨q1, hq1⟩ : ∃ q, 4 * i - 3 = q := ⟨_, rfl⟩
      obtain ⟨q2, hq2⟩ : ∃ q, 4 * i - 2 = q := ⟨_, rfl⟩
      obtain ⟨q3, hq3⟩ : ∃ q, 4 * i - 1 = q := ⟨_, rfl⟩
      have w4 : IntKind.i64.wrap (4 * (i : Int) - 4) = (q0 : Int) := by rw [IntWalk.i64_in _ (by omega)]; omega
      have w3 : IntKind.i64.wrap (4 * (i : Int) - 3) = (q1 : Int) := by rw [IntWalk.i64_in _ (by omega)]; omega
      have w2 : IntKind.i64.wrap (4 * (i : Int) - 2) = (q2 : Int) := by rw [IntWalk.i64_in _ (by omega)]; omega
      have w1 : IntKind.i64.wrap (4 * (i : Int) - 1) = (q3 : Int) := by rw [IntWalk.i64_in _ (by omega)]; omega
      have y0 : (q0 : Int) < (L : Int) := by omega
      have y1 : (q1 : Int) < (L : Int) := by omega
      have y2 : (q2 : Int) < (L : Int) := by omega
      have y3 : (q3 : Int) < (L : Int) := by omega
      rw [hq0] at t0
      rw [hq1] at t1
      rw [hq2] at t2
      rw [hq3] at t3
      clear hq0 hq1 hq2 hq3
      have HLI := Lib.hid hL
      clear hL
      go_upto_region 7 with fail
      go_region_held3 (fun W => W.cell? ⟨g, off + q0, none⟩ = some (vb x0) ∧ W.cell? ⟨g, off + q1, none⟩ = some (vb x1) ∧ W.cell? ⟨g, off + q2, none⟩ = some (vb x2) ∧ W.cell? ⟨g, off + q3, none⟩ = some (vb x3)) (first | exact ⟨t0, t1, t2, t3⟩ | exact ⟨(((Below.refl wr.heap.size wr).alloc (Nat.le_refl _) _).drew.cell (p := ⟨g, _, none⟩) hgl).trans t0, (((Below.refl wr.heap.size wr).alloc (Nat.le_refl _) _).drew.cell (p := ⟨g, _, none⟩) hgl).trans t1, (((Below.refl wr.heap.size wr).alloc (Nat.le_refl _) _).drew.cell (p := ⟨g, _, none⟩) hgl).trans t2, (((Below.refl wr.heap.size wr).alloc (Nat.le_refl _) _).drew.cell (p := ⟨g, _, none⟩) hgl).trans t3⟩) (first | fail)
      rename_i hHeld7
      obtain ⟨bt, hbt⟩ : ∃ b, wr.heap.size = b := ⟨_, rfl⟩
      obtain ⟨wa, hwa⟩ : ∃ wa, (wr.alloc (Obj.cells #[vb x0, vb x1, vb x2, vb x3] 5)).drew = wa := ⟨_, rfl⟩
      have ka : Below wr.heap.size wr wa := by rw [← hwa]; exact ((Below.refl _ _).alloc (Nat.le_refl _) _).drew
      have ba : Blk wa bt 5 [vb x0, vb x1, vb x2, vb x3] := by rw [← hwa, ← hbt]; exact Blk.new wr _ _
      have sa : wa.heap.size = bt + 1 := by rw [← hwa, ← hbt]; simp
      rw [hwa, hbt]
      clear hHeld7
      have KA := Lib.hid ka
      have BA := Lib.hid ba
      have SA := Lib.hid sa
      have HBT := Lib.hid hbt
      have a0 : wa.cell? ⟨bt, 0, none⟩ = some (vb x0) := ba.cell 0
      have a1 : wa.cell? ⟨bt, 1, none⟩ = some (vb x1) := ba.cell 1
      have a2 : wa.cell? ⟨bt, 2, none⟩ = some (vb x2) := ba.cell 2
      have a3 : wa.cell? ⟨bt, 3, none⟩ = some (vb x3) := ba.cell 3
      clear hwa hbt ka ba sa t0 t1 t2 t3 w1 w2 w3 w4 y0 y1 y2 y3
      have hbl : bt < wa.heap.size := by have := SA.out; omega
      go_upto_if 51 with fail
      go_cut [5, 7] from 48 to 96 (fun s5 s7 wq => ∃ (gu : Nat) (y : List UInt8), s7 = .slice (some ⟨gu, 0, none⟩) 4 4 ∧ s5 = vb (rcon ((4 + k) / 4)) ∧ Hid (y = if k % 4 = 0 then [sbox x1 ^^^ rcon (k / 4), sbox x2, sbox x3, sbox x0] else [x0, x1, x2, x3]) ∧ Hid (Blk wq gu 5 (y.map vb) ∧ wr.heap.size ≤ gu ∧ Below wa.heap.size wa wq))
      case first =>
        by_cases hm : k % 4 = 0
        · have hmb : ((i : Int) % 4 == 0) = true := tmod_yes i 4 0 (by have := HI.out; omega)
          have hme : (3 + k) / 4 = k / 4 := by omega
          rw [hme]
          go_wp2_with fail
          go_region_held3 (fun W => W.cell? ⟨bt, 0, none⟩ = some (vb x0) ∧ W.cell? ⟨bt, 1, none⟩ = some (vb x1) ∧ W.cell? ⟨bt, 2, none⟩ = some (vb x2) ∧ W.cell? ⟨bt, 3, none⟩ = some (vb x3)) (first | exact ⟨a0, a1, a2, a3⟩ | exact ⟨(((Below.refl _ _).alloc (Nat.le_refl _) _).drew.cell (p := ⟨bt, _, none⟩) hbl).trans a0, (((Below.refl _ _).alloc (Nat.le_refl _) _).drew.cell (p := ⟨bt, _, none⟩) hbl).trans a1, (((Below.refl _ _).alloc (Nat.le_refl _) _).drew.cell (p := ⟨bt, _, none⟩) hbl).trans a2, (((Below.refl _ _).alloc (Nat.le_refl _) _).drew.cell (p := ⟨bt, _, none⟩) hbl).trans a3⟩) (first | (go_at_call 63; refine (refBox_any _ _).mono ?_; rintro e wz ⟨rfl, nz, rfl⟩))
          all_goals (try clear hHeld)
          go_wp2_with (go_at_call 64; refine (refMul_two _ _).mono ?_; rintro e wz ⟨rfl, rfl⟩)
          go_meet
          refine ⟨wa.heap.size, [sbox x1 ^^^ rcon (k / 4), sbox x2, sbox x3, sbox x0], rfl, ?_, ?_, ?_, ?_, ?_⟩
          · rw [show (4 + k) / 4 = k / 4 + 1 by omega]; rfl
          · show _ = ite _ _ _
            rw [if_pos hm]
          · rw [u8_xor_cell]
            exact Blk.new (wa.drewN _) _ _
          · exact KA.out.size
          · exact (show Below wa.heap.size wa (wa.drewN _) from ⟨rfl, rfl, rfl, Nat.le_refl _, fun _ _ => rfl⟩).alloc (Nat.le_refl _) _
        · have hmb : ((i : Int) % 4 == 0) = false := tmod_no i 4 0 (by have := HI.out; omega)
          have hme : (3 + k) / 4 = (4 + k) / 4 := by omega
          rw [hme]
          go_wp2_with fail
          go_meet
          exact ⟨bt, [x0, x1, x2, x3], rfl, rfl, by show _ = ite _ _ _; rw [if_neg hm], BA.out, by rw [HBT.out]; exact Nat.le_refl _, Below.refl _ _⟩
      case rest =>
        obtain ⟨gu, y, rfl, rfl, HY, HQ⟩ := hcut
        obtain ⟨rc, hrc⟩ : ∃ rc, rcon ((4 + k) / 4) = rc := ⟨_, rfl⟩
        rw [hrc]
        have HRC := Lib.hid hrc
        clear hrc
        have hy4 : y.length = 4 := by rw [HY.out]; split <;> rfl
        have hbc := below_then KA.out HQ.out.2.2 KA.out.size
        have hwc := hbc.size
        have HOc := Lib.hid (show Ow wc w.heap.size 5 (some ⟨g, off, none⟩) L c (((aesWords key 4 k).flatten ++ (xorL y u).take 0).map vb) by rw [List.take_zero, List.append_nil]; exact HO.out.below hbc)
        have HYc := Lib.hid HQ.out.1
        have HBc := Lib.hid (below_then HB.out hbc HB.out.size)
        have hgug : (some g : Option Nat) ≠ some gu := fun e => by have := Option.some.inj e; have := HQ.out.2.1; omega
        have HR0 := Lib.hid (show rowOf (some ⟨g, off, none⟩) c ≠ some gu by
          unfold rowOf
          split
          · simp
          · exact hgug)
        have HY4 := Lib.hid hy4
        clear a0 a1 a2 a3 hbl HO HB HQ KA BA SA HBT hbc hwc hgug hy4 hgl
        go_wp2
        go_loopw [4, 8] (fun s4 s8 wx => ∃ (j M : Nat) (A' : Option Addr) (c' : Nat), j ≤ 4 ∧ M = L + j ∧ s8 = vi j ∧ s4 = .slice A' M c' ∧ Hid (Ow wx w.heap.size 5 A' M c' (((aesWords key 4 k).flatten ++ (xorL y u).take j).map vb)) ∧ Hid (Blk wx gu 5 (y.map vb)) ∧ Hid (rowOf A' c' ≠ some gu) ∧ Hid (Below w.heap.size w wx)) (fun _ s8 _ => 4 - (intOf s8).toNat)
        case atStart => exact ⟨0, L, _, c, by omega, rfl, rfl, rfl, HOc, HYc, HR0, HBc⟩
        case round =>
          obtain ⟨j, M, A2, c2, hj, hM, rfl, rfl, HO2, HY2, HR2, HB2⟩ := hrel
          clear HOc HYc HR0 HBc
          by_cases hlj : j < 4
          · have hLM := HLI.out
            obtain ⟨g2, off2, rfl, hBg2, hgl2, hrow2, hcells2, hf2⟩ := HO2.out.at_ (by omega)
            obtain ⟨e4, he4⟩ : ∃ e, 4 * k = e := ⟨_, rfl⟩
            obtain ⟨ee, hee⟩ : ∃ e, e4 + j = e := ⟨_, rfl⟩
            obtain ⟨ub, hub⟩ : ∃ x, u.getD j 0 = x := ⟨_, rfl⟩
            obtain ⟨yb, hyb⟩ : ∃ x, y.getD j 0 = x := ⟨_, rfl⟩
            have cu : wr.cell? ⟨g2, off2 + ee, none⟩ = some (vb ub) := hcells2 ee _ (by
              rw [List.getElem?_map, List.getElem?_append_left (by rw [W4f.out]; have := HLI.out; have := HI.out; omega), ← hee, ← he4, flat_get W4.out HUK.out hlj, hub]; rfl)
            have cy : wr.cell? ⟨gu, j, none⟩ = some (vb yb) := by
              rw [HY2.out.cell, List.getElem?_map, ← hyb, List.getD_eq_getElem?_getD, List.getElem?_eq_getElem (by rw [HY4.out]; exact hlj)]; rfl
            have hgul := HY2.out.lt
            have v1 : IntKind.i64.wrap ((i : Int) - 4) = (k : Int) := by rw [IntWalk.i64_in _ (by omega)]; have := HI.out; omega
            have v2 : IntKind.i64.wrap (4 * (k : Int)) = (e4 : Int) := by rw [IntWalk.i64_in _ (by omega)]; omega
            have v3 : IntKind.i64.wrap ((e4 : Int) + (j : Int)) = (ee : Int) := by rw [IntWalk.i64_in _ (by omega)]; omega
            have v4 : (ee : Int) < (M : Int) := by have := HI.out; omega
            have v5 : (j : Int) < 4 := by omega
            have hM1 : M + 1 ≤ 1099511627776 := by have := HI.out; omega
            have hBs := HB2.out.size
            have HMM := Lib.hid hM
            have HROW := Lib.hid hrow2
            have HUB := Lib.hid hub
            have HYB := Lib.hid hyb
            clear hcells2 hf2 he4 hee hM hrow2 hub hyb hLM
            go_wp2
            go_region_law (first | (refine step_appB1 rfl (.tmp 101) (.tmp 116) rfl w.heap.size (some ⟨g2, off2, none⟩) M c2 wr.heap.size ((aesWords key 4 k).flatten ++ (xorL y u).take j) rfl rfl (ub ^^^ yb) ((HO2.out.alloc _).drew) (by rw [← u8_xor_cell]; exact (Sl.one _ _ _).drew) hM1 (by simp; omega) ?_; intro A3 c3 w3 h1 h2 h3))
            all_goals
              have hY3 := Lib.hid (((HY2.out.alloc _).drew).grown h2 HR2.out)
              have hB3 := Lib.hid (((HB2.out.alloc hBs _).drew).grown h2 (by simp; omega) (fun q e => by rw [HROW.out] at e; cases e; exact hBg2))
              have hR3 := Lib.hid (show rowOf A3 c3 ≠ some gu from fun e => by
                rcases h3 with h | h
                · rw [h] at e; exact HR2.out e
                · rw [h] at e; have := Option.some.inj e; simp at this; omega)
              have hO3 := Lib.hid (show Ow w3 w.heap.size 5 A3 (M + 1) c3 (((aesWords key 4 k).flatten ++ (xorL y u).take (j + 1)).map vb) by
                rw [take_xor HY4.out HU.out hlj, HUB.out, HYB.out, ← List.append_assoc]; exact h1)
              clear h1 h2 h3 cu cy
              go_wp2_with fail
              (try go_big_round)
              refine ⟨⟨j + 1, M + 1, A3, c3, by omega, by have := HMM.out; omega, by go_num, rfl, hO3, hY3, hR3, hB3⟩, by simp [intOf]; omega⟩
          · obtain rfl : j = 4 := by omega
            have hx4 : (xorL y u).take 4 = xorL y u := List.take_of_length_le (by unfold xorL; rw [List.length_zipWith, HY4.out, HU.out]; omega)
            have hnew : (aesWords key 4 k).flatten ++ (xorL y u).take 4 = (aesWords key 4 (k + 1)).flatten := by
              rw [hx4, HST.out, HNX2.out, ← HY.out, List.flatten_append]; simp
            rw [hnew] at HO2
            have HMM := Lib.hid hM
            clear hx4 hnew hM
            go_wp2
            go_roundw
            case rel => exact ⟨k + 1, i + 1, M, A2, c2, by have := HI.out; omega, by have := HI.out; omega, by have := HMM.out; have := HLI.out; omega, by go_num, rfl, by rw [← HRC.out, show 3 + (k + 1) = 4 + k by omega], HO2, HB2⟩
            case measure => simp [intOf]; omega
    · have hkl : k = 40 := by omega
      subst hkl
      go_wp2
      go_ret
      obtain rfl : L = 176 := by omega
      exact ⟨A, c, rfl, HO, HB⟩
end Lg
