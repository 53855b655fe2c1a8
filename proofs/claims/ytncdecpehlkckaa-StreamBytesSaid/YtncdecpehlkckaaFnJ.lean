/-
The methods of a square of the package cipher: rows, columns, a round key added; the rounds' number. No condition.
-/
import Derived.Test.YtncdecpehlkckaaFnI
import Derived.Deep.MidRow
namespace Lg
open Go Go.RowKit Go.Proofs

theorem and3_i64 (n : Nat) (h : n < 9223372036854775808) : bits .and .i64 (n : Int) 3 = ((n % 4 : Nat) : Int) := by
  have hx : n &&& 3 = n % 4 := Nat.and_two_pow_sub_one_eq_mod n 2
  show IntKind.i64.wrap ((BitVec.ofInt 64 (n : Int) &&& BitVec.ofInt 64 (3 : Int)).toNat : Int) = _
  rw [BitVec.toNat_and, ofInt_i64 n h, show (BitVec.ofInt 64 (3 : Int)).toNat = 3 by decide, hx, IntKind.wrap_i64]
  omega

theorem infoQ : (Try.prog.info? 84).map (·.size) = some 16 := by kernel_rfl
theorem Sq.range {w : World} {g : Nat} {l : List UInt8} (h : Sq w g l) : w.rangeAt g 0 (l.map vb) := fun j v hv => by
  rw [Nat.zero_add, h.2.cell]; exact hv
theorem Sq.there {w : World} {g : Nat} {l : List UInt8} (h : Sq w g l) : w.there g 0 16 := fun j hj => by
  refine ⟨?_, by rw [Nat.zero_add]; exact h.2.frozen j⟩
  rw [Nat.zero_add, h.2.cell, List.getElem?_eq_getElem (by rw [List.length_map, h.1]; exact hj)]
  rfl
theorem run_loadSq {w : World} {g : Nat} {l : List UInt8} (h : Sq w g l) : (Instr.loadAt 84 (.pointer (some ⟨g, 0, none⟩))).run Try.prog w = .ok (.agg (l.map vb).toArray) w :=
  run_loadAt_mid w g 0 _ _ _ h.range Try.underlying84 rfl (by rw [List.length_map, h.1]; exact infoQ)
theorem setCells_blk (w : World) (g : Nat) (t : TypeId) : ∀ (pre xs ys : List Value), Blk w g t (pre ++ xs) → xs.length = ys.length → Blk (w.setCells g pre.length ys) g t (pre ++ ys) ∧ w.grownBy (w.setCells g pre.length ys) (some g)
  | pre, [], [], h, _ => ⟨h, rfl, rfl, rfl, Nat.le_refl _, fun _ _ _ => rfl⟩
  | pre, x :: xs, y :: ys, h, e => by
    have h1 := h.set_ pre.length y
    rw [List.set_append_right _ _ (Nat.le_refl _), Nat.sub_self, List.set_cons_zero] at h1
    have h2 := setCells_blk (w.setCell ⟨g, pre.length, none⟩ y) g t (pre ++ [y]) xs ys (by rw [List.append_assoc]; exact h1) (by simpa using e)
    rw [List.length_append, List.append_assoc] at h2
    refine ⟨h2.1, h2.2.os, h2.2.tape, h2.2.output, ?_, fun k hk hne => (h2.2.block k (by simpa [World.setCell] using hk) hne).trans (Below.heap_setCell w ⟨g, pre.length, none⟩ y k (fun e' => hne (by rw [e'])))⟩
    have := h2.2.size
    have e2 : (w.setCell ⟨g, pre.length, none⟩ y).heap.size = w.heap.size := by simp [World.setCell]
    rw [e2] at this
    exact this
theorem run_storeSq {w : World} {g : Nat} {l : List UInt8} (h : Sq w g l) (l' : List UInt8) (hl : l'.length = 16) :
    ∃ w', (Instr.storeAt 84 (.pointer (some ⟨g, 0, none⟩)) (.agg (l'.map vb).toArray)).run Try.prog w = .ok () w' ∧ Sq w' g l' ∧ w.grownBy w' (some g) := by
  have hs : (l'.map vb).toArray.size = 16 := by simp [hl]
  have := setCells_blk w g 84 [] (l.map vb) (l'.map vb) h.2 (by simp [hl, h.1])
  exact ⟨_, run_storeAt_mid w g 0 _ _ (by rw [hs]; exact h.there) (by rw [hs]; exact infoQ) (all_oneCell_toArray vb_one), ⟨hl, this.1⟩, this.2⟩

theorem loadSqL {ops : Array Oper} {rest : List Oper} {o : Oper} {a : Act} {w : World} {Q : Exit → Act → World → Prop} (hgd : o.guard = none) (x : Operand) (ho : o.op = .load 84 x) (g : Nat) (l : List UInt8)
    (hx : a.eval x = .pointer (some ⟨g, 0, none⟩)) (h : Sq w g l) (k : wpList Try.prog ops Q rest (a.put o.dst (.agg (l.map vb).toArray)) w) : wpList Try.prog ops Q (o :: rest) a w :=
  wpList_load_mid hgd _ x ho g 0 hx _ _ h.range Try.underlying84 rfl (by rw [List.length_map, h.1]; exact infoQ) k
theorem storeSqL {ops : Array Oper} {rest : List Oper} {o : Oper} {a : Act} {w : World} {Q : Exit → Act → World → Prop} (hgd : o.guard = none) (x y : Operand) (ho : o.op = .store 84 x y) (g : Nat) (l' l : List UInt8)
    (hx : a.eval x = .pointer (some ⟨g, 0, none⟩)) (hy : a.eval y = .agg (l'.map vb).toArray) (h : Sq w g l) (hl : l'.length = 16)
    (k : ∀ w', Sq w' g l' → w.grownBy w' (some g) → wpList Try.prog ops Q rest (a.put o.dst undef) w') : wpList Try.prog ops Q (o :: rest) a w := by
  have hs : (l'.map vb).toArray.size = 16 := by simp [hl]
  have := setCells_blk w g 84 [] (l.map vb) (l'.map vb) h.2 (by simp [hl, h.1])
  refine wpList_store_mid hgd _ x y ho g 0 _ hx hy (by rw [hs]; exact h.there) (by rw [hs]; exact infoQ) (all_oneCell_toArray vb_one) ?_
  exact k _ ⟨hl, this.1⟩ this.2

/-- the rows, behind so many steps -/
def rowsAt (by' i k : Nat) (l : List UInt8) : List UInt8 := (List.range 16).map fun j => if j % 4 < i ∨ (j % 4 = i ∧ j / 4 < k) then l.getD (4 * ((j / 4 + by' * (j % 4)) % 4) + j % 4) 0 else 0
theorem rowsAt_zero (b : Nat) (l : List UInt8) : rowsAt b 0 0 l = List.replicate 16 0 := by
  unfold rowsAt; simp; rfl
theorem rowsAt_next (b i : Nat) (l : List UInt8) : rowsAt b i 4 l = rowsAt b (i + 1) 0 l := by
  unfold rowsAt
  apply List.map_congr_left
  intro j hj
  have := List.mem_range.1 hj
  by_cases h : j % 4 < i + 1
  · rw [if_pos (by omega), if_pos (by omega)]
  · rw [if_neg (by omega), if_neg (by omega)]
theorem rowsAt_end (b : Nat) (l : List UInt8) : rowsAt b 4 0 l = aesRow b l := by
  unfold rowsAt aesRow
  apply List.map_congr_left
  intro j hj
  rw [if_pos (by omega)]
theorem rowsAt_step (b i k : Nat) (l : List UInt8) (hi : i < 4) (hk : k < 4) : (rowsAt b i k l).set (4 * k + i) (l.getD (4 * ((k + b * i) % 4) + i) 0) = rowsAt b i (k + 1) l := by
  apply List.ext_getElem?
  intro j
  rw [List.getElem?_set]
  by_cases hj : j < 16
  · simp only [rowsAt, List.length_map, List.length_range, List.getElem?_map, List.getElem?_range hj, Option.map_some]
    by_cases e : 4 * k + i = j
    · subst e
      rw [if_pos rfl, if_pos (by omega), if_pos (by omega), show (4 * k + i) / 4 = k by omega, show (4 * k + i) % 4 = i by omega]
    · rw [if_neg e]
      by_cases h : j % 4 < i ∨ (j % 4 = i ∧ j / 4 < k)
      · rw [if_pos h, if_pos (by omega)]
      · rw [if_neg h, if_neg (by omega)]
  · rw [if_neg (by omega), List.getElem?_eq_none (by simp [rowsAt]; omega), List.getElem?_eq_none (by simp [rowsAt]; omega)]
theorem rowsAt_length (b i k : Nat) (l : List UInt8) : (rowsAt b i k l).length = 16 := by simp [rowsAt]

theorem Sq.cell {w : World} {g : Nat} {l : List UInt8} (h : Sq w g l) {i : Nat} (hi : i < 16) : w.cell? ⟨g, i, none⟩ = some (vb (l.getD i 0)) := by
  rw [h.2.cell, List.getElem?_map, List.getD_eq_getElem?_getD, List.getElem?_eq_getElem (by rw [h.1]; exact hi)]
  rfl
theorem Sq.below {w w' : World} {g B : Nat} {l : List UInt8} (h : Sq w g l) (hb : Below B w w') (hg : g < B) : Sq w' g l := ⟨h.1, h.2.below hb hg⟩
theorem Sq.set_ {w : World} {g : Nat} {l : List UInt8} (h : Sq w g l) (i : Nat) (x : UInt8) : Sq (w.setCell ⟨g, i, none⟩ (vb x)) g (l.set i x) := by
  refine ⟨by rw [List.length_set]; exact h.1, ?_⟩
  have := h.2.set_ i (vb x)
  rw [map_set] at this
  exact this
theorem Sq.new (w : World) (l : List UInt8) (hl : l.length = 16) : Sq (w.alloc (.cells (l.map vb).toArray 84)) w.heap.size l := ⟨hl, Blk.new w _ _⟩

set_option maxRecDepth 10000 in
set_option maxHeartbeats 400000 in
theorem sqRows_any (s b : Nat) (hb4 : b ≤ 3) (l : List UInt8) (w : World) (hS : Sq w s l) :
    Calls Try.prog 59 #[.pointer (some ⟨s, 0, none⟩), vi b] w fun e w' => (∃ v, e = .returned v) ∧ Sq w' s (aesRow b l) ∧ w.grownBy w' (some s) := by
  have hlt := hS.2.lt
  have HS := Lib.hid hS
  have H0 := Lib.hid (Sq.new w (List.replicate 16 0) rfl)
  clear hS
  go_enter Try.func59, Try.ntmps59
  go_wp2
  go_loopw [7] (fun s7 wr => ∃ i : Nat, i ≤ 4 ∧ s7 = vi i ∧ Hid (Sq wr w.heap.size (rowsAt b i 0 l)) ∧ Below w.heap.size w wr) (fun s7 _ => 4 - (intOf s7).toNat)
  case atStart => exact ⟨0, by omega, rfl, by rw [rowsAt_zero]; exact H0, (Below.refl _ _).alloc (Nat.le_refl _) _⟩
  case round =>
    obtain ⟨i, hi, rfl, HB, hb⟩ := hrel
    clear H0
    by_cases hlti : i < 4
    · go_wp2
      go_loopw [10] (fun s10 wr => ∃ k : Nat, k ≤ 4 ∧ s10 = vi k ∧ Hid (Sq wr w.heap.size (rowsAt b i k l)) ∧ Below w.heap.size w wr) (fun s10 _ => 4 - (intOf s10).toNat)
      case atStart => exact ⟨0, by omega, rfl, HB, hb⟩
      case round =>
        obtain ⟨k, hk, rfl, HB2, hb2⟩ := hrel
        clear HB hb
        by_cases hltk : k < 4
        · have hbi : b * i ≤ 9 := Nat.le_trans (Nat.mul_le_mul hb4 (show i ≤ 3 by omega)) (by omega)
          have c1 := (HS.out.below hb2 hlt).cell (i := 4 * ((k + b * i) % 4) + i) (by omega)
          have f1 := HB2.out.2.frozen (4 * k + i)
          obtain ⟨u1, d1⟩ : ∃ u, wr.cell? ⟨w.heap.size, 4 * k + i, none⟩ = some u := ⟨_, HB2.out.cell (by omega)⟩
          have hst := Lib.hid (rowsAt_step b i k l hlti hltk)
          have ha := and3_i64 (k + b * i) (by omega)
          obtain ⟨q, hq⟩ : ∃ q, (k + b * i) % 4 = q := ⟨_, rfl⟩
          have hq4 : q < 4 := by omega
          rw [hq] at ha c1 hst
          push_cast at ha
          have hbi' : (b : Int) * (i : Int) ≤ 9 := by exact_mod_cast hbi
          have hbi0 : 0 ≤ (b : Int) * (i : Int) := by exact_mod_cast Nat.zero_le (b * i)
          clear hq hbi
          go_wp2
          go_roundw
          case rel =>
            refine ⟨k + 1, by omega, by go_num, ?_, hb2.setCell (p := ⟨w.heap.size, 4 * k + i, none⟩) (Nat.le_refl _) _⟩
            have h := HB2.out.set_ (4 * k + i) (l.getD (4 * q + i) 0)
            rw [hst.out] at h
            exact h
          case measure => simp [intOf]; omega
        · obtain rfl : k = 4 := by omega
          go_wp2
          go_roundw
          case rel => exact ⟨i + 1, by omega, by go_num, by rw [← rowsAt_next]; exact HB2, hb2⟩
          case measure => simp [intOf]; omega
    · obtain rfl : i = 4 := by omega
      go_wp2_with (first | (with_reducible refine loadSqL rfl (.tmp 4) rfl w.heap.size (rowsAt b 4 0 l) rfl HB.out ?_) | (with_reducible refine storeSqL rfl (.tmp 35) (.tmp 34) rfl s (rowsAt b 4 0 l) l rfl rfl (HS.out.below hb hlt) (rowsAt_length _ _ _ _) ?_; intro w2 h1 h2))
      go_end0
      rw [rowsAt_end] at h1
      exact ⟨⟨_, rfl⟩, h1, grown_below hb h2 trivial⟩
end Lg
