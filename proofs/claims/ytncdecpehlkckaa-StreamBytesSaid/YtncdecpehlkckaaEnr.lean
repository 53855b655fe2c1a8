/-
Blocks of sixteen bytes as plain arrays ([16]byte), and what fills one byte by byte. No condition.
-/
import Derived.Test.YtncdecpehlkckaaLwA
namespace Lg
open Go Go.RowKit Go.Proofs

/-- A plain array of sixteen bytes. -/
def Sr (w : World) (g : Nat) (l : List UInt8) : Prop := l.length = 16 ∧ Blk w g 83 (l.map vb)
theorem infoR : (Try.prog.info? 83).map (·.size) = some 16 := by kernel_rfl
theorem Sr.range {w : World} {g : Nat} {l : List UInt8} (h : Sr w g l) : w.rangeAt g 0 (l.map vb) := fun j v hv => by
  rw [Nat.zero_add, h.2.cell]; exact hv
theorem Sr.there {w : World} {g : Nat} {l : List UInt8} (h : Sr w g l) : w.there g 0 16 := fun j hj => by
  refine ⟨?_, by rw [Nat.zero_add]; exact h.2.frozen j⟩
  rw [Nat.zero_add, h.2.cell, List.getElem?_eq_getElem (by rw [List.length_map, h.1]; exact hj)]
  rfl
theorem run_loadSr {w : World} {g : Nat} {l : List UInt8} (h : Sr w g l) : (Instr.loadAt 83 (.pointer (some ⟨g, 0, none⟩))).run Try.prog w = .ok (.agg (l.map vb).toArray) w :=
  run_loadAt_mid w g 0 _ _ _ h.range Try.underlying83 rfl (by rw [List.length_map, h.1]; exact infoR)
theorem run_storeSr {w : World} {g : Nat} {l : List UInt8} (h : Sr w g l) (l' : List UInt8) (hl : l'.length = 16) :
    ∃ w', (Instr.storeAt 83 (.pointer (some ⟨g, 0, none⟩)) (.agg (l'.map vb).toArray)).run Try.prog w = .ok () w' ∧ Sr w' g l' ∧ w.grownBy w' (some g) := by
  have hs : (l'.map vb).toArray.size = 16 := by simp [hl]
  have := setCells_blk w g 83 [] (l.map vb) (l'.map vb) h.2 (by simp [hl, h.1])
  exact ⟨_, run_storeAt_mid w g 0 _ _ (by rw [hs]; exact h.there) (by rw [hs]; exact infoR) (all_oneCell_toArray vb_one), ⟨hl, this.1⟩, this.2⟩
theorem loadSrL {ops : Array Oper} {rest : List Oper} {o : Oper} {a : Act} {w : World} {Q : Exit → Act → World → Prop} (hgd : o.guard = none) (x : Operand) (ho : o.op = .load 83 x) (g : Nat) (l : List UInt8)
    (hx : a.eval x = .pointer (some ⟨g, 0, none⟩)) (h : Sr w g l) (k : wpList Try.prog ops Q rest (a.put o.dst (.agg (l.map vb).toArray)) w) : wpList Try.prog ops Q (o :: rest) a w :=
  wpList_load_mid hgd _ x ho g 0 hx _ _ h.range Try.underlying83 rfl (by rw [List.length_map, h.1]; exact infoR) k
theorem storeSrL {ops : Array Oper} {rest : List Oper} {o : Oper} {a : Act} {w : World} {Q : Exit → Act → World → Prop} (hgd : o.guard = none) (x y : Operand) (ho : o.op = .store 83 x y) (g : Nat) (l' l : List UInt8)
    (hx : a.eval x = .pointer (some ⟨g, 0, none⟩)) (hy : a.eval y = .agg (l'.map vb).toArray) (h : Sr w g l) (hl : l'.length = 16)
    (k : ∀ w', Sr w' g l' → w.grownBy w' (some g) → wpList Try.prog ops Q rest (a.put o.dst undef) w') : wpList Try.prog ops Q (o :: rest) a w := by
  have hs : (l'.map vb).toArray.size = 16 := by simp [hl]
  have := setCells_blk w g 83 [] (l.map vb) (l'.map vb) h.2 (by simp [hl, h.1])
  refine wpList_store_mid hgd _ x y ho g 0 _ hx hy (by rw [hs]; exact h.there) (by rw [hs]; exact infoR) (all_oneCell_toArray vb_one) ?_
  exact k _ ⟨hl, this.1⟩ this.2
theorem Sr.cell {w : World} {g : Nat} {l : List UInt8} (h : Sr w g l) {i : Nat} (hi : i < 16) : w.cell? ⟨g, i, none⟩ = some (vb (l.getD i 0)) := by
  rw [h.2.cell, List.getElem?_map, List.getD_eq_getElem?_getD, List.getElem?_eq_getElem (by rw [h.1]; exact hi)]
  rfl
theorem Sr.below {w w' : World} {g B : Nat} {l : List UInt8} (h : Sr w g l) (hb : Below B w w') (hg : g < B) : Sr w' g l := ⟨h.1, h.2.below hb hg⟩
theorem Sr.set_ {w : World} {g : Nat} {l : List UInt8} (h : Sr w g l) (i : Nat) (x : UInt8) : Sr (w.setCell ⟨g, i, none⟩ (vb x)) g (l.set i x) := by
  refine ⟨by rw [List.length_set]; exact h.1, ?_⟩
  have := h.2.set_ i (vb x)
  rw [map_set] at this
  exact this
theorem Sr.new (w : World) (l : List UInt8) (hl : l.length = 16) : Sr (w.alloc (.cells (l.map vb).toArray 83)) w.heap.size l := ⟨hl, Blk.new w _ _⟩
theorem Sr.sl {w : World} {s : Nat} {l : List UInt8} (hS : Sr w s l) : Sl w (some ⟨s, 0, none⟩) 16 16 (l.map vb) := by
  have h := hS.2.own (B := 0) (Nat.zero_le _) (by simp [hS.1, maxLen])
  rw [List.length_map, hS.1] at h
  exact h.sl

theorem Sr.grown {w w' : World} {s t : Nat} {l : List UInt8} (h : Sr w s l) (hg : w.grownBy w' (some t)) (hne : t ≠ s) : Sr w' s l := ⟨h.1, h.2.grown hg (fun e => hne (by injection e))⟩
theorem Sr.far {w : World} {s : Nat} {l : List UInt8} (h : Sr w s l) {p : Addr} (hp : s ≠ p.block) (u : Value) : Sr (w.setCell p u) s l := ⟨h.1, h.2.far hp u⟩
theorem Sr.drewN {w : World} {s : Nat} {l : List UInt8} (h : Sr w s l) (n : Nat) : Sr (w.drewN n) s l := h

/-- the first i of n bytes by f, the others as they were -/
def fillOn (f : Nat → UInt8) (q : List UInt8) (i : Nat) : List UInt8 := (List.range 16).map fun j => if j < i then f j else q.getD j 0
theorem fillOn_length (f : Nat → UInt8) (q : List UInt8) (i : Nat) : (fillOn f q i).length = 16 := by simp [fillOn]
theorem fillOn_zero (f : Nat → UInt8) {q : List UInt8} (hq : q.length = 16) : fillOn f q 0 = q := by
  apply List.ext_getElem?; intro j
  simp only [fillOn, List.getElem?_map, Nat.not_lt_zero, if_false]
  by_cases h : j < 16
  · rw [List.getElem?_range h, Option.map_some, List.getD_eq_getElem?_getD, List.getElem?_eq_getElem (by omega)]; rfl
  · rw [List.getElem?_eq_none (by simp; omega), List.getElem?_eq_none (by omega)]; rfl
theorem fillOn_step (f : Nat → UInt8) (q : List UInt8) (i : Nat) : (fillOn f q i).set i (f i) = fillOn f q (i + 1) := by
  apply List.ext_getElem?; intro j
  rw [List.getElem?_set]
  by_cases hj : i = j
  · subst hj
    rw [if_pos rfl, fillOn_length]
    by_cases h : i < 16
    · simp [fillOn, h]
    · rw [if_neg h, List.getElem?_eq_none (by rw [fillOn_length]; omega)]
  · rw [if_neg hj]
    by_cases h : j < 16
    · simp only [fillOn, List.getElem?_map, List.getElem?_range h, Option.map_some]
      by_cases h2 : j < i
      · rw [if_pos h2, if_pos (by omega)]
      · rw [if_neg h2, if_neg (by omega)]
    · rw [List.getElem?_eq_none (by rw [fillOn_length]; omega), List.getElem?_eq_none (by rw [fillOn_length]; omega)]
theorem fillOn_full (f : Nat → UInt8) (q : List UInt8) : fillOn f q 16 = (List.range 16).map f := by
  apply List.map_congr_left; intro j hj
  simp [List.mem_range.1 hj]

theorem flat_drop : ∀ {ls : List (List UInt8)}, (∀ x ∈ ls, x.length = 4) → ∀ m, (ls.drop m).flatten = ls.flatten.drop (4 * m)
  | [], _, m => by simp
  | a :: l, h, 0 => by simp
  | a :: l, h, m + 1 => by
    have ha := h a (by simp)
    rw [List.drop_succ_cons, flat_drop (fun x hx => h x (by simp [hx])) m, List.flatten_cons, List.drop_append, ha, List.drop_of_length_le (l := a) (by omega), List.nil_append, show 4 * (m + 1) - 4 = 4 * m by omega]
theorem flat_take : ∀ {ls : List (List UInt8)}, (∀ x ∈ ls, x.length = 4) → ∀ m, (ls.take m).flatten = ls.flatten.take (4 * m)
  | [], _, m => by simp
  | a :: l, h, 0 => by simp
  | a :: l, h, m + 1 => by
    have ha := h a (by simp)
    rw [List.take_succ_cons, List.flatten_cons, flat_take (fun x hx => h x (by simp [hx])) m, List.flatten_cons, List.take_append, ha, List.take_of_length_le (l := a) (by omega), show 4 * (m + 1) - 4 = 4 * m by omega]
/-- a byte of a round key -/
theorem key_byte (key : List UInt8) (n : Nat) (hn : 0 < n) (hl : key.length = 4 * n) (r j : Nat) (hr : r < n + 7) (hj : j < 16) : (aesWords key n (3 * n + 28)).flatten[16 * r + j]? = some ((aesKey key r).getD j 0) := by
  have h4 : key.length / 4 = n := by omega
  have hw := aesWords_word key n hn hl (3 * n + 28)
  have hk : aesKey key r = ((aesWords key n (3 * n + 28)).flatten.drop (16 * r)).take 16 := by
    unfold aesKey aesAll
    rw [h4, flat_take (fun x hx => hw x (List.mem_of_mem_drop hx)), flat_drop hw]
    congr 2; omega
  have hlen : (aesWords key n (3 * n + 28)).flatten.length = 16 * (n + 7) := by
    rw [total_flatten, total_four hw, aesWords_length]; omega
  rw [hk, List.getD_eq_getElem?_getD, List.getElem?_take, if_pos hj, List.getElem?_drop, List.getElem?_eq_getElem (by omega)]
  rfl
theorem cell_far (w : World) (p q : Addr) (v : Value) (h : q.block ≠ p.block) : (w.setCell p v).cell? q = w.cell? q := by
  unfold World.cell?
  rw [Below.heap_setCell w p v q.block h]
theorem enc_key (r i R : Nat) (hr : r < R + 1) (hi : i < 16) (hR : R ≤ 14 := by omega) : ∃ r16 o : Nat, IntKind.i64.wrap (16 * (r : Int)) = (r16 : Int) ∧ IntKind.i64.wrap ((r16 : Int) + (i : Int)) = (o : Int) ∧ o < 16 * (R + 1) ∧ 16 * r + i = o := by
  refine ⟨16 * r, 16 * r + i, ?_, ?_, by omega, rfl⟩
  · rw [IntWalk.i64_in _ (by omega)]; omega
  · rw [IntWalk.i64_in _ (by omega)]; omega
theorem xor_fill {a b : List UInt8} (ha : a.length = 16) (hb : b.length = 16) : (List.range 16).map (fun j => a.getD j 0 ^^^ b.getD j 0) = xorL a b := by
  apply List.ext_getElem?; intro j
  unfold xorL
  rw [List.getElem?_map, List.getElem?_zipWith]
  by_cases h : j < 16
  · simp only [List.getElem?_range h, Option.map_some, List.getD_eq_getElem?_getD]
    rw [List.getElem?_eq_getElem (l := a) (by omega), List.getElem?_eq_getElem (l := b) (by omega)]; rfl
  · rw [List.getElem?_eq_none (by simp; omega), List.getElem?_eq_none (by omega)]; rfl
theorem col_fill (t : List UInt8) : (List.range 16).map (fun j => mul 2 (t.getD (4 * (j / 4) + j % 4) 0) ^^^ mul 3 (t.getD (4 * (j / 4) + (j % 4 + 1) % 4) 0) ^^^ t.getD (4 * (j / 4) + (j % 4 + 2) % 4) 0 ^^^ t.getD (4 * (j / 4) + (j % 4 + 3) % 4) 0) = aesCol [2, 1, 1, 3] t := by
  have m1 : ∀ x, mul 1 x = x := all_bytes (by decide +kernel)
  unfold aesCol
  apply List.map_congr_left
  intro j _
  have h4 : j % 4 = 0 ∨ j % 4 = 1 ∨ j % 4 = 2 ∨ j % 4 = 3 := by omega
  rcases h4 with h | h | h | h
  · rw [h, show (j + 3) % 4 = 3 by omega, show (j + 2) % 4 = 2 by omega, show (j + 1) % 4 = 1 by omega]
    simp [m1]
  · rw [h, show (j + 3) % 4 = 0 by omega, show (j + 2) % 4 = 3 by omega, show (j + 1) % 4 = 2 by omega]
    simp [m1]
    ac_rfl
  · rw [h, show (j + 3) % 4 = 1 by omega, show (j + 2) % 4 = 0 by omega, show (j + 1) % 4 = 3 by omega]
    simp [m1]
    ac_rfl
  · rw [h, show (j + 3) % 4 = 2 by omega, show (j + 2) % 4 = 1 by omega, show (j + 1) % 4 = 0 by omega]
    simp [m1]
    ac_rfl
theorem enc_idx1 (cc i : Nat) (hc : cc < 4) (hi : i < 4) : ∃ p o : Nat, ((i : Int) + 1) % 4 = (p : Int) ∧ ((i : Int) + 1).tmod 4 = (p : Int) ∧ IntKind.i64.wrap ((i : Int) + 1) = (i : Int) + 1 ∧ IntKind.i64.wrap (4 * (cc : Int) + (p : Int)) = (o : Int) ∧ (o : Int) < 16 ∧ o < 16 ∧ 4 * ((4 * cc + i) / 4) + ((4 * cc + i) % 4 + 1) % 4 = o := by
  refine ⟨(i + 1) % 4, 4 * cc + (i + 1) % 4, by omega, ?_, IntWalk.i64_in _ (by omega), ?_, by omega, by omega, by omega⟩
  · rw [Int.tmod_eq_emod_of_nonneg (by omega)]; omega
  · rw [IntWalk.i64_in _ (by omega)]; omega
theorem enc_idx2 (cc i : Nat) (hc : cc < 4) (hi : i < 4) : ∃ p o : Nat, ((i : Int) + 2) % 4 = (p : Int) ∧ ((i : Int) + 2).tmod 4 = (p : Int) ∧ IntKind.i64.wrap ((i : Int) + 2) = (i : Int) + 2 ∧ IntKind.i64.wrap (4 * (cc : Int) + (p : Int)) = (o : Int) ∧ (o : Int) < 16 ∧ o < 16 ∧ 4 * ((4 * cc + i) / 4) + ((4 * cc + i) % 4 + 2) % 4 = o := by
  refine ⟨(i + 2) % 4, 4 * cc + (i + 2) % 4, by omega, ?_, IntWalk.i64_in _ (by omega), ?_, by omega, by omega, by omega⟩
  · rw [Int.tmod_eq_emod_of_nonneg (by omega)]; omega
  · rw [IntWalk.i64_in _ (by omega)]; omega
theorem enc_idx3 (cc i : Nat) (hc : cc < 4) (hi : i < 4) : ∃ p o : Nat, ((i : Int) + 3) % 4 = (p : Int) ∧ ((i : Int) + 3).tmod 4 = (p : Int) ∧ IntKind.i64.wrap ((i : Int) + 3) = (i : Int) + 3 ∧ IntKind.i64.wrap (4 * (cc : Int) + (p : Int)) = (o : Int) ∧ (o : Int) < 16 ∧ o < 16 ∧ 4 * ((4 * cc + i) / 4) + ((4 * cc + i) % 4 + 3) % 4 = o := by
  refine ⟨(i + 3) % 4, 4 * cc + (i + 3) % 4, by omega, ?_, IntWalk.i64_in _ (by omega), ?_, by omega, by omega, by omega⟩
  · rw [Int.tmod_eq_emod_of_nonneg (by omega)]; omega
  · rw [IntWalk.i64_in _ (by omega)]; omega
theorem enc_idx0 (cc i : Nat) (hc : cc < 4) (hi : i < 4) : ∃ o : Nat, 4 * cc + i = o ∧ IntKind.i64.wrap (4 * (cc : Int)) = 4 * (cc : Int) ∧ IntKind.i64.wrap (4 * (cc : Int) + (i : Int)) = (o : Int) ∧ (o : Int) < 16 ∧ o < 16 ∧ 4 * ((4 * cc + i) / 4) + (4 * cc + i) % 4 = o := by
  refine ⟨4 * cc + i, rfl, IntWalk.i64_in _ (by omega), ?_, by omega, by omega, by omega⟩
  rw [IntWalk.i64_in _ (by omega)]; omega
theorem row_fill {q : List UInt8} (hq : q.length = 16) : (List.range 16).map (fun j => sbox (q.getD (4 * ((j / 4 + j % 4) % 4) + j % 4) 0)) = aesRow 1 (q.map sbox) := by
  unfold aesRow
  apply List.map_congr_left
  intro j hj
  have h := List.mem_range.1 hj
  rw [Nat.one_mul, List.getD_eq_getElem?_getD, List.getD_eq_getElem?_getD, List.getElem?_map, List.getElem?_eq_getElem (by omega)]
  rfl
end Lg
