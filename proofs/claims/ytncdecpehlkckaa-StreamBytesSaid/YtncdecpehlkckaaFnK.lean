/-
The methods of a square of the package cipher, second part: a round key added, columns; the cipher's tables and its rounds' number. No condition.
-/
import Derived.Test.YtncdecpehlkckaaFnJ
import Derived.IntWalk
namespace Lg
open Go Go.RowKit Go.Proofs

set_option maxRecDepth 10000 in
set_option maxHeartbeats 400000 in
theorem sqAdd_any (s : Nat) (l k : List UInt8) (hk : k.length = 16) (w : World) (hS : Sq w s l) :
    Calls Try.prog 57 #[.pointer (some ⟨s, 0, none⟩), .agg (k.map vb).toArray] w fun e w' => (∃ v, e = .returned v) ∧ Sq w' s (xorL l k) ∧ w.grownBy w' (some s) := by
  have hlt := hS.2.lt
  have hb0 : Below w.heap.size w ((w.alloc (.cells (k.map vb).toArray 84)).drew) := ((Below.refl _ _).alloc (Nat.le_refl _) _).drew
  have HS := Lib.hid (hS.below hb0 hlt)
  have HK := Lib.hid (show Sq ((w.alloc (.cells (k.map vb).toArray 84)).drew) w.heap.size k from Sq.new w k hk)
  have Hb0 := Lib.hid hb0
  have HL := Lib.hid hk
  clear hS hb0 hk
  go_enter Try.func57, Try.ntmps57
  go_wp2
  go_region_held3 (fun _ => True) (trivial) (first | (go_at_call 53; refine (Xor_any _ _ 16 16 16 16 l k _ HS.out.sl HK.out.sl ⟨by omega, by omega⟩).mono ?_; rintro e w1 ⟨A1, c1, rfl, ho1, hb1⟩) | (refine step_copyB rfl (.tmp 6) (.tmp 11) rfl s 84 l (xorL l k) 16 16 A1 16 c1 rfl rfl (HS.out.2.below hb1 HS.out.2.lt) HS.out.1 ho1.sl ?_; intro w2 h1 h2))
  go_wp2
  go_end0
  have hx : (xorL l k).length = 16 := by rw [xorL_length, HS.out.1, HL.out]; rfl
  refine ⟨⟨_, rfl⟩, ⟨hx, ?_⟩, grown_below (below_then Hb0.out hb1 (by simp)) h2 trivial⟩
  rw [List.take_of_length_le (by omega), List.drop_eq_nil_of_le (by rw [HS.out.1]; omega), List.append_nil] at h1
  exact h1

/-- a column's sum, behind so many terms -/
def colAcc (p l : List UInt8) (k i : Nat) : Nat → UInt8
  | 0 => 0
  | n + 1 => colAcc p l k i n ^^^ mul (p.getD ((i + 4 - n) % 4) 0) (l.getD (4 * k + n) 0)
/-- the columns, behind so many steps -/
def colsAt (p l : List UInt8) (k i n : Nat) : List UInt8 := (List.range 16).map fun j => if j / 4 < k ∨ (j / 4 = k ∧ j % 4 < i) then colAcc p l (j / 4) (j % 4) 4 else if j = 4 * k + i then colAcc p l k i n else 0
theorem colsAt_length (p l : List UInt8) (k i n : Nat) : (colsAt p l k i n).length = 16 := by simp [colsAt]
theorem colsAt_zero (p l : List UInt8) : colsAt p l 0 0 0 = List.replicate 16 0 := by
  unfold colsAt; simp [colAcc]; rfl
theorem colsAt_next (p l : List UInt8) (k i : Nat) (hi : i < 4) : colsAt p l k i 4 = colsAt p l k (i + 1) 0 := by
  unfold colsAt
  apply List.map_congr_left
  intro j hj
  have := List.mem_range.1 hj
  by_cases h : j / 4 < k ∨ (j / 4 = k ∧ j % 4 < i)
  · rw [if_pos h, if_pos (by omega)]
  · rw [if_neg h]
    by_cases e : j = 4 * k + i
    · subst e
      rw [if_pos rfl, if_pos (by omega), show (4 * k + i) / 4 = k by omega, show (4 * k + i) % 4 = i by omega]
    · rw [if_neg e, if_neg (by omega)]
      by_cases e2 : j = 4 * k + (i + 1)
      · rw [if_pos e2]; rfl
      · rw [if_neg e2]
theorem colsAt_row (p l : List UInt8) (k : Nat) : colsAt p l k 4 0 = colsAt p l (k + 1) 0 0 := by
  unfold colsAt
  apply List.map_congr_left
  intro j hj
  have := List.mem_range.1 hj
  by_cases h : j / 4 < k + 1
  · rw [if_pos (by omega), if_pos (by omega)]
  · have e1 : colAcc p l k 4 0 = 0 := rfl
    have e2 : colAcc p l (k + 1) 0 0 = 0 := rfl
    have n1 : ¬ (j / 4 < k ∨ (j / 4 = k ∧ j % 4 < 4)) := by omega
    have n2 : ¬ (j / 4 < k + 1 ∨ (j / 4 = k + 1 ∧ j % 4 < 0)) := by omega
    rw [e1, e2, if_neg n1, if_neg n2, ite_self, ite_self]
theorem colsAt_end (p l : List UInt8) : colsAt p l 4 0 0 = aesCol p l := by
  unfold colsAt aesCol
  apply List.map_congr_left
  intro j hj
  rw [if_pos (by have := List.mem_range.1 hj; omega)]
  simp only [colAcc, zero_xor]
  have e1 : (j % 4 + 4 - 0) % 4 = j % 4 := by omega
  have e2 : (j % 4 + 4 - 1) % 4 = (j + 3) % 4 := by omega
  have e3 : (j % 4 + 4 - 2) % 4 = (j + 2) % 4 := by omega
  have e4 : (j % 4 + 4 - 3) % 4 = (j + 1) % 4 := by omega
  rw [e1, e2, e3, e4, Nat.add_zero]
theorem colsAt_get (p l : List UInt8) (k i n : Nat) (hk : k < 4) (hi : i < 4) : (colsAt p l k i n).getD (4 * k + i) 0 = colAcc p l k i n := by
  have hj : 4 * k + i < 16 := by omega
  unfold colsAt
  rw [List.getD_eq_getElem?_getD, List.getElem?_map, List.getElem?_range hj, Option.map_some, Option.getD_some, if_neg (by omega), if_pos rfl]
theorem colsAt_step (p l : List UInt8) (k i n : Nat) (hk : k < 4) (hi : i < 4) : (colsAt p l k i n).set (4 * k + i) (colAcc p l k i n ^^^ mul (p.getD ((i + 4 - n) % 4) 0) (l.getD (4 * k + n) 0)) = colsAt p l k i (n + 1) := by
  apply List.ext_getElem?
  intro j
  rw [List.getElem?_set]
  by_cases hj : j < 16
  · simp only [colsAt, List.length_map, List.length_range, List.getElem?_map, List.getElem?_range hj, Option.map_some]
    by_cases e : 4 * k + i = j
    · subst e
      rw [if_pos rfl, if_pos (by omega), if_neg (by omega), if_pos rfl]
      rfl
    · rw [if_neg e, if_neg (Ne.symm e), if_neg (Ne.symm e)]
  · rw [if_neg (by omega), List.getElem?_eq_none (by simp [colsAt]; omega), List.getElem?_eq_none (by simp [colsAt]; omega)]

theorem idx_i64 (i n : Nat) (hi : i < 4) (hn : n < 4) : bits .and .i64 ((i : Int) - (n : Int)) 3 = (((i + 4 - n) % 4 : Nat) : Int) := by
  have h1 : i = 0 ∨ i = 1 ∨ i = 2 ∨ i = 3 := by omega
  have h2 : n = 0 ∨ n = 1 ∨ n = 2 ∨ n = 3 := by omega
  rcases h1 with rfl | rfl | rfl | rfl <;> rcases h2 with rfl | rfl | rfl | rfl <;> decide +kernel
theorem drewN_cell (w : World) (n : Nat) (a : Addr) : (w.drewN n).cell? a = w.cell? a := rfl
theorem drewN_frozen (w : World) (n : Nat) (a : Addr) : (w.drewN n).frozen? a = w.frozen? a := rfl
attribute [local go_sem] drewN_cell drewN_frozen

set_option maxRecDepth 10000 in
set_option maxHeartbeats 1000000 in
theorem sqCols_any (s f : Nat) (p l : List UInt8) (hp : p.length = 4) (w : World) (hS : Sq w s l) (hF : Fl w f) :
    Calls Try.prog 60 #[.pointer (some ⟨s, 0, none⟩), .pointer (some ⟨f, 0, none⟩), .agg (p.map vb).toArray] w fun e w' => (∃ v, e = .returned v) ∧ Sq w' s (aesCol p l) ∧ w.grownBy w' (some s) := by
  have hlt := hS.2.lt
  have hfl := Blk.lt hF
  have HS := Lib.hid hS
  have HF := Lib.hid hF
  have HP := Lib.hid (Blk.new w 94 (p.map vb).toArray)
  have H0 := Lib.hid (Sq.new (w.alloc (.cells (p.map vb).toArray 94)) (List.replicate 16 0) rfl)
  have Hl := Lib.hid hp
  clear hS hF hp
  go_enter Try.func60, Try.ntmps60
  go_wp2
  have Hb := Lib.hid (show Below w.heap.size w ((w.alloc (.cells (p.map vb).toArray 94)).alloc (.cells ((List.replicate 16 (0 : UInt8)).map vb).toArray 84)) from ((Below.refl _ _).alloc (Nat.le_refl _) _).alloc (by simp) _)
  have hP1 := Lib.hid (HP.out.alloc (.cells ((List.replicate 16 (0 : UInt8)).map vb).toArray 84))
  have hH := Lib.hid (show Hid (Sq ((w.alloc (.cells (p.map vb).toArray 94)).alloc (.cells ((List.replicate 16 (0 : UInt8)).map vb).toArray 84)) (w.heap.size + 1) (List.replicate 16 0)) by have h := H0.out; show Sq _ _ _; simpa using h)
  go_loopw [10] (fun s10 wr => ∃ k : Nat, k ≤ 4 ∧ s10 = vi k ∧ Hid (Sq wr (w.heap.size + 1) (colsAt p l k 0 0)) ∧ Hid (Blk wr w.heap.size 94 (p.map vb)) ∧ Below w.heap.size w wr) (fun s10 _ => 4 - (intOf s10).toNat)
  case atStart => exact ⟨0, by omega, rfl, by rw [colsAt_zero]; exact hH.out, by have h := hP1.out; exact h, Hb.out⟩
  case round =>
    obtain ⟨k, hk, rfl, HB, HQ, hb⟩ := hrel
    clear hH hP1 Hb H0 HP
    by_cases hltk : k < 4
    · go_wp2
      rw [show decide ((k : Int) < 4) = true from decide_eq_true (by omega)]
      go_loopw [13] (fun s13 wr => ∃ i : Nat, i ≤ 4 ∧ s13 = vi i ∧ Hid (Sq wr (w.heap.size + 1) (colsAt p l k i 0)) ∧ Hid (Blk wr w.heap.size 94 (p.map vb)) ∧ Below w.heap.size w wr) (fun s13 _ => 4 - (intOf s13).toNat)
      case atStart => exact ⟨0, by omega, rfl, HB, HQ, hb⟩
      case round =>
        obtain ⟨i, hi, rfl, HB1, HQ1, hb1⟩ := hrel
        clear HB HQ hb
        by_cases hlti : i < 4
        · go_wp2
          rw [show decide ((i : Int) < 4) = true from decide_eq_true (by omega)]
          go_loopw [16] (fun s16 wr => ∃ n : Nat, n ≤ 4 ∧ s16 = vi n ∧ Hid (Sq wr (w.heap.size + 1) (colsAt p l k i n)) ∧ Hid (Blk wr w.heap.size 94 (p.map vb)) ∧ Below w.heap.size w wr) (fun s16 _ => 4 - (intOf s16).toNat)
          case atStart => exact ⟨0, by omega, rfl, HB1, HQ1, hb1⟩
          case round =>
            obtain ⟨n, hn, rfl, HB2, HQ2, hb2⟩ := hrel
            clear HB1 HQ1 hb1
            by_cases hltn : n < 4
            · have c1 := (HS.out.below hb2 hlt).cell (i := 4 * k + n) (by omega)
              have c2 := HB2.out.cell (i := 4 * k + i) (by omega)
              rw [colsAt_get p l k i n hltk hlti] at c2
              have f2 := HB2.out.2.frozen (4 * k + i)
              obtain ⟨q, hq⟩ : ∃ q, (i + 4 - n) % 4 = q := ⟨_, rfl⟩
              have hq4 : q < 4 := by omega
              have hidx := idx_i64 i n hlti hltn
              rw [hq] at hidx
              have c3 : wr.cell? ⟨w.heap.size, q, none⟩ = some (vb (p.getD q 0)) := by
                rw [HQ2.out.cell, List.getElem?_map, List.getD_eq_getElem?_getD, List.getElem?_eq_getElem (by rw [Hl.out]; exact hq4)]; rfl
              have HF2 := Lib.hid (Blk.below HF.out hb2 hfl)
              have hst := Lib.hid (colsAt_step p l k i n hltk hlti)
              rw [hq] at hst
              obtain ⟨pb, hpb⟩ : ∃ x, p.getD q 0 = x := ⟨_, rfl⟩
              obtain ⟨sb, hsb⟩ : ∃ x, l.getD (4 * k + n) 0 = x := ⟨_, rfl⟩
              obtain ⟨ob, hob⟩ : ∃ x, colAcc p l k i n = x := ⟨_, rfl⟩
              rw [hpb, hsb, hob] at hst
              rw [hpb] at c3
              rw [hsb] at c1
              rw [hob] at c2
              clear hq hpb hsb hob
              have q0 : (0 : Int) ≤ (q : Int) := Int.natCast_nonneg _
              have q1 : (q : Int) < 4 := by omega
              have s0 : (0 : Int) ≤ 4 * (k : Int) + (i : Int) := by omega
              have s1 : 4 * (k : Int) + (i : Int) < 16 := by omega
              have s2 : (4 * (k : Int) + (i : Int)).toNat = 4 * k + i := by omega
              have t0 : (0 : Int) ≤ 4 * (k : Int) + (n : Int) := by omega
              have t1 : 4 * (k : Int) + (n : Int) < 16 := by omega
              have t2 : (4 * (k : Int) + (n : Int)).toNat = 4 * k + n := by omega
              have w1 : IntKind.i64.wrap (4 * (k : Int)) = 4 * (k : Int) := IntWalk.i64_in _ (by omega)
              have w2 : IntKind.i64.wrap (4 * (k : Int) + (i : Int)) = 4 * (k : Int) + (i : Int) := IntWalk.i64_in _ (by omega)
              have w3 : IntKind.i64.wrap (4 * (k : Int) + (n : Int)) = 4 * (k : Int) + (n : Int) := IntWalk.i64_in _ (by omega)
              have w4 : IntKind.i64.wrap ((i : Int) - (n : Int)) = (i : Int) - (n : Int) := IntWalk.i64_in _ (by omega)
              go_wp2
              go_region_with ((go_at_call 52; refine (Mul_any f _ _ _ (by exact HF2.out)).mono ?_; rintro e w1 ⟨rfl, nq, rfl⟩))
              all_goals
                go_wp2
                go_roundw
                case rel =>
                  refine ⟨n + 1, by omega, by go_num, ?_, ?_, ?_⟩
                  · show Sq _ _ _
                    rw [vb_xor]
                    have h := HB2.out.set_ (4 * k + i) (ob ^^^ mul pb sb)
                    rw [hst.out] at h
                    exact h
                  · exact HQ2.out.far (p := ⟨w.heap.size + 1, 4 * k + i, none⟩) (by show w.heap.size ≠ w.heap.size + 1; omega) _
                  · exact (below_drewN hb2 _).setCell (p := ⟨w.heap.size + 1, 4 * k + i, none⟩) (Nat.le_succ _) _
                case measure => simp [intOf]; omega
            · obtain rfl : n = 4 := by omega
              go_wp2
              go_roundw
              case rel => exact ⟨i + 1, by omega, by go_num, by rw [← colsAt_next p l k i hlti]; exact HB2, HQ2, hb2⟩
              case measure => simp [intOf]; omega
        · obtain rfl : i = 4 := by omega
          go_wp2
          go_roundw
          case rel => exact ⟨k + 1, by omega, by go_num, by rw [← colsAt_row p l k]; exact HB1, HQ1, hb1⟩
          case measure => simp [intOf]; omega
    · obtain rfl : k = 4 := by omega
      go_wp2_with (first | (with_reducible refine loadSqL rfl (.tmp 6) rfl (w.heap.size + 1) (colsAt p l 4 0 0) rfl HB.out ?_) | (with_reducible refine storeSqL rfl (.tmp 48) (.tmp 47) rfl s (colsAt p l 4 0 0) l rfl rfl (HS.out.below hb hlt) (colsAt_length _ _ _ _ _) ?_; intro w2 h1 h2))
      go_end0
      rw [colsAt_end] at h1
      exact ⟨⟨_, rfl⟩, h1, grown_below hb h2 trivial⟩
end Lg
