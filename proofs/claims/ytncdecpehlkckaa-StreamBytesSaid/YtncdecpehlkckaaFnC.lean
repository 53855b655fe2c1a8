/-
What the functions on slices of bytes come to: a copy, the sum of two. Bounds: fewer than 2^40 bytes.
-/
import Derived.Test.YtncdecpehlkckaaFnB
namespace Lg
open Go Go.RowKit Go.Proofs

set_option maxRecDepth 10000 in
set_option maxHeartbeats 400000 in
theorem Clone_any (A : Option Addr) (n c : Nat) (l : List UInt8) (w : World) (hs : Sl w A n c (l.map vb)) (hn : n ≤ 1099511627776) :
    Calls Try.prog 50 #[.slice A n c] w fun e w' => ∃ A' c', e = .returned (.slice A' n c') ∧ Ow w' w.heap.size 5 A' n c' (l.map vb) ∧ Below w.heap.size w w' := by
  cases A with
  | none =>
    have h0 : n = 0 := by
      rcases Nat.eq_zero_or_pos n with h | h
      · exact h
      · obtain ⟨_, e, _⟩ := hs.at_ h; cases e
    subst h0
    obtain rfl : l = [] := by have := hs.len; simpa using this
    go_enter Try.func50, Try.ntmps50
    go_wp2
    go_ret
    exact ⟨none, 0, rfl, Ow.nil _ _ _ _, Below.refl _ _⟩
  | some a =>
    go_enter Try.func50, Try.ntmps50
    go_wp2_with (at_builtin; refine appB rfl (.tmp 5) (.tmp 6) rfl w.heap.size (some ⟨w.heap.size, 0, none⟩) 0 0 [] rfl (Ow.nil _ _ _ _) (some a) n c l rfl (hs.alloc _) (by omega) (by simp) ?_; intro A' c' w' h1 h2 h3)
    go_ret
    simp only [Nat.zero_add, List.nil_append] at h1
    exact ⟨A', c', by simp, h1, ((Below.refl _ _).alloc (Nat.le_refl _) _).grown h2 (by simp) (by simp [rowOf])⟩

/-- what fill in a loop has come to -/
def upto (l l' : List UInt8) (k : Nat) : List UInt8 := l.take k ++ l'.drop k

theorem upto_step {l l' : List UInt8} {k : Nat} {x : UInt8} (hl : l.length = l'.length) (hx : l[k]? = some x) : (upto l l' k).set k x = upto l l' (k + 1) := by
  have hk : k < l.length := (List.getElem?_eq_some_iff.1 hx).1
  apply List.ext_getElem?
  intro i
  simp only [upto, List.getElem?_set, List.getElem?_append, List.length_take, List.length_append, List.length_drop, List.getElem?_take, List.getElem?_drop]
  by_cases e : k = i
  · subst e
    rw [if_pos rfl, if_pos (by omega), if_pos (by omega), if_pos (by omega), hx]
  · rw [if_neg e]
    by_cases h : i < k
    · rw [if_pos (by omega), if_pos h, if_pos (by omega), if_pos (by omega)]
    · rw [if_neg (by omega), if_neg (by omega)]
      congr 1
      omega
theorem upto_zero (l l' : List UInt8) : upto l l' 0 = l' := by simp [upto]
theorem upto_end {l l' : List UInt8} (hl : l.length = l'.length) : upto l l' l.length = l := by rw [upto, List.take_length, List.drop_eq_nil_of_le (by omega), List.append_nil]
theorem upto_length {l l' : List UInt8} (hl : l.length = l'.length) (k : Nat) (hk : k ≤ l.length) : (upto l l' k).length = l.length := by simp [upto]; omega

theorem xorL_length (a b : List UInt8) : (xorL a b).length = min a.length b.length := by simp [xorL]
theorem xorL_get {a b : List UInt8} {k : Nat} {x y : UInt8} (hx : a[k]? = some x) (hy : b[k]? = some y) : (xorL a b)[k]? = some (x ^^^ y) := by rw [xorL, List.getElem?_zipWith_eq_some]; exact ⟨x, y, hx, hy, rfl⟩

theorem Sl.byte {w : World} {A : Option Addr} {n c : Nat} {l : List UInt8} (h : Sl w A n c (l.map vb)) {k : Nat} (hk : k < n) : ∃ ad x, A = some ad ∧ l[k]? = some x ∧ w.cell? (ad.add k) = some (vb x) := by
  obtain ⟨ad, u, e, hu, hc⟩ := h.cell hk
  rw [List.getElem?_map] at hu
  cases hx : l[k]? with
  | none => rw [hx] at hu; cases hu
  | some x => rw [hx] at hu; cases hu; exact ⟨ad, x, e, rfl, hc⟩

theorem vb_xor (x y : UInt8) : Value.int .u8 ((x.toNat ^^^ y.toNat : Nat) : Int) = vb (x ^^^ y) := by rw [vb, UInt8.toNat_xor]
theorem map_set (l : List UInt8) (k : Nat) (x : UInt8) : (l.map vb).set k (vb x) = (l.set k x).map vb := by rw [List.map_set]


set_option maxRecDepth 10000 in
set_option maxHeartbeats 400000 in
theorem Xor_any (A1 A2 : Option Addr) (n1 c1 n2 c2 : Nat) (l1 l2 : List UInt8) (w : World) (h1 : Sl w A1 n1 c1 (l1.map vb)) (h2 : Sl w A2 n2 c2 (l2.map vb)) (hn : n1 ≤ 1099511627776 ∧ n2 ≤ 1099511627776) :
    Calls Try.prog 53 #[.slice A1 n1 c1, .slice A2 n2 c2] w fun e w' => ∃ A' c', e = .returned (.slice A' (min n1 n2) c') ∧ Ow w' w.heap.size 5 A' (min n1 n2) c' ((xorL l1 l2).map vb) ∧ Below w.heap.size w w' := by
  have e1 : l1.length = n1 := by simpa using h1.len
  have e2 : l2.length = n2 := by simpa using h2.len
  have E1 := Lib.hid e1
  have E2 := Lib.hid e2
  clear e1 e2
  have hmm : ∃ m, min n1 n2 = m ∧ m ≤ n1 ∧ m ≤ n2 := ⟨_, rfl, by omega, by omega⟩
  obtain ⟨m, hm, hm1, hm2⟩ := hmm
  have hif1 : (if (n2 : Int) < (n1 : Int) then (n2 : Int) else (n1 : Int)) = (m : Int) := by split <;> omega
  have hif2 : (if n2 < n1 then (n2 : Int) else (n1 : Int)) = (m : Int) := by split <;> omega
  have EX : Hid ((xorL l1 l2).length = m) := by show _ = _; rw [xorL_length, E1.out, E2.out, hm]
  rw [hm]
  have mk := makeB m (by omega)
  have b1 : m ≤ maxLen := by simp only [maxLen]; omega
  unfold maxLen at b1
  clear hn hm
  have H1 := Lib.hid h1
  have H2 := Lib.hid h2
  clear h1 h2
  have hb0 : Blk (w.alloc (.cells (Array.replicate m (vb 0)) 5)) w.heap.size 5 ((upto (xorL l1 l2) (List.replicate m 0) 0).map vb) := by
    have h := Blk.new w 5 (Array.replicate m (vb 0))
    rw [upto_zero]
    simpa using h
  have HB0 := Lib.hid hb0
  clear hb0
  go_enter Try.func53, Try.ntmps53
  go_wp2
  go_loopw [15] (fun s15 wr => ∃ k : Nat, k ≤ m ∧ s15 = vi k ∧ Hid (Blk wr w.heap.size 5 ((upto (xorL l1 l2) (List.replicate m 0) k).map vb)) ∧ Below w.heap.size w wr) (fun s15 _ => m - (intOf s15).toNat)
  case atStart => exact ⟨0, by omega, rfl, HB0, (Below.refl _ _).alloc (Nat.le_refl _) _⟩
  case round =>
    obtain ⟨k, hk, rfl, HB, hb⟩ := hrel
    clear hif1 hif2 mk HB0
    by_cases hlt : k < m
    · obtain ⟨ad1, x, rfl, hx, cx⟩ := (H1.out.belowB hb).byte (k := k) (by omega)
      obtain ⟨ad2, y, rfl, hy, cy⟩ := (H2.out.belowB hb).byte (k := k) (by omega)
      have hxy := xorL_get hx hy
      have f1 := HB.out.frozen k
      obtain ⟨u1, c1⟩ : ∃ u, wr.cell? ⟨w.heap.size, k, none⟩ = some u := ⟨_, (HB.out.cell k).trans (List.getElem?_eq_getElem (by simp [upto, EX.out]; omega))⟩
      have HX := Lib.hid hxy
      clear hx hy hxy
      go_wp2
      go_region
      go_wp2
      go_roundw
      case rel =>
        refine ⟨k + 1, by omega, by go_num, ?_, (hb.setCell (p := ⟨w.heap.size, k, none⟩) (Nat.le_refl _) _).drew⟩
        rw [vb_xor]
        have h := HB.out.set_ k (vb (x ^^^ y))
        rw [map_set, upto_step (by rw [EX.out, List.length_replicate]) HX.out] at h
        exact h.drew
      case measure => simp [intOf]; omega
    · go_wp2
      go_ret
      obtain rfl : k = m := by omega
      have h := HB.out
      rw [show k = (xorL l1 l2).length from EX.out.symm, upto_end (by rw [EX.out, List.length_replicate])] at h
      have ho := h.own (B := w.heap.size) (Nat.le_refl _) (by rw [List.length_map, EX.out]; simp only [maxLen]; omega)
      rw [List.length_map, EX.out] at ho
      exact ⟨_, _, rfl, ho, hb⟩
end Lg
