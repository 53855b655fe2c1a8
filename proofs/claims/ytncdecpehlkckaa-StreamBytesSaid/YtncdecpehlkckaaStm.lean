/-
The stream of chapter 6 as plain functions of places (streamB), and what stream.Bytes and stream.Xor come to. Conditions: the document's bounds.
-/
import Derived.Test.YtncdecpehlkckaaLwC
namespace Lg
open Go Go.RowKit Go.Proofs

/-- the block of a counter -/
def stBlock (key nonce : List UInt8) (q : Nat) : List UInt8 := aesEnc key (nonce ++ be64 q)
/-- the byte of the stream at a place -/
def streamB (key nonce : List UInt8) (p : Nat) : UInt8 := (stBlock key nonce (p / 16)).getD (p % 16) 0
/-- so many bytes of the stream from a place on -/
def streamL (key nonce : List UInt8) (at' n : Nat) : List UInt8 := (List.range n).map fun i => streamB key nonce (at' + i)
theorem streamL_length (key nonce : List UInt8) (a n : Nat) : (streamL key nonce a n).length = n := by simp [streamL]
/-- blocks, one behind the other -/
def stBlocks (key nonce : List UInt8) (q : Nat) : Nat → List UInt8
  | 0 => []
  | j + 1 => stBlocks key nonce q j ++ stBlock key nonce (q + j)
section
variable {key nonce : List UInt8} (hk : ∀ r, r < aesRounds key + 1 → (aesKey key r).length = 16) (hn : nonce.length = 8)
include hk hn
theorem stBlock_length (q : Nat) : (stBlock key nonce q).length = 16 := enc_length hk (by rw [List.length_append, hn, be64_length])
theorem stBlocks_length (q : Nat) : ∀ j, (stBlocks key nonce q j).length = 16 * j
  | 0 => rfl
  | j + 1 => by rw [stBlocks, List.length_append, stBlocks_length q j, stBlock_length hk hn]; omega
theorem stBlocks_get (q : Nat) : ∀ j i, i < 16 * j → (stBlocks key nonce q j)[i]? = some (streamB key nonce (16 * q + i))
  | 0, i, h => by omega
  | j + 1, i, h => by
    have hl := stBlocks_length hk hn q j
    rw [stBlocks]
    by_cases hi : i < 16 * j
    · rw [List.getElem?_append_left (by omega), stBlocks_get q j i hi]
    · rw [List.getElem?_append_right (by omega), hl]
      unfold streamB
      rw [show (16 * q + i) / 16 = q + j by omega, show (16 * q + i) % 16 = i - 16 * j by omega, List.getD_eq_getElem?_getD, List.getElem?_eq_getElem (by rw [stBlock_length hk hn]; omega)]
      rfl
/-- a piece of the blocks -/
theorem stBlocks_cut (q r n j : Nat) (hj : r + n ≤ 16 * j) : ((stBlocks key nonce q j).drop r).take n = streamL key nonce (16 * q + r) n := by
  apply List.ext_getElem?; intro i
  unfold streamL
  rw [List.getElem?_take, List.getElem?_drop, List.getElem?_map]
  by_cases hi : i < n
  · rw [if_pos hi, stBlocks_get hk hn q j _ (by omega), List.getElem?_range hi, Option.map_some, Nat.add_assoc]
  · rw [if_neg hi, List.getElem?_eq_none (by simp; omega)]; rfl
end

set_option maxRecDepth 10000 in
set_option maxHeartbeats 1000000 in
theorem streamBytes_any (g : Nat) (key : List UInt8) (n4 : Nat) (hn4 : 0 < n4 ∧ n4 ≤ 8) (hkl : key.length = 4 * n4) (A : Option Addr) (c : Nat) (l : List UInt8) (a n : Nat) (ha : a ≤ 1073741824) (hnn : n ≤ 1048576) (w : World) (hC : CipOk w g key) (hs : Sl w A 8 c (l.map vb)) :
    Calls Try.prog 25 #[.pointer (some ⟨g, 0, none⟩), .slice A 8 c, vi a, vi n] w fun e w' => ∃ A' c', e = .returned (.tuple #[.slice A' n c', vi 0]) ∧ Sl w' A' n c' ((streamL key l a n).map vb) ∧ (∀ ad, A' = some ad → w.heap.size ≤ ad.block) ∧ Below w.heap.size w w' := by
  have hl8 : l.length = 8 := by simpa using hs.len
  have hk16 := aesWords_any key n4 hn4.1 hkl
  obtain ⟨q, hq⟩ : ∃ q, a / 16 = q := ⟨_, rfl⟩
  obtain ⟨r, hr⟩ : ∃ r, a % 16 = r := ⟨_, rfl⟩
  have hr16 : r < 16 := by omega
  have e1 : (a : Int) / 16 = (q : Int) := by omega
  have e2 : (a : Int) % 16 = (r : Int) := by omega
  have hq0 : q ≤ 67108864 := by omega
  have HA := Lib.hid (show 16 * q + r = a by omega)
  have hcut := Lib.hid (stBlocks_cut hk16 hl8 q r n)
  have HLEN := Lib.hid (stBlocks_length hk16 hl8 q)
  have HL8 := Lib.hid hl8
  have HC := Lib.hid hC
  have HS := Lib.hid hs
  have n1 : decide ((a : Int) < 0) = false := by simp
  have n2 : decide ((n : Int) < 0) = false := by simp
  have n3 : decide ((1073741824 : Int) < (a : Int)) = false := by simp; omega
  have n4' : decide ((1048576 : Int) < (n : Int)) = false := by simp; omega
  clear hl8 hk16 hq hr hC hs
  go_enter Try.func25, Try.ntmps25
  go_wp2
  go_loopw [10, 11] (fun s10 s11 wr => ∃ (j L z : Nat) (A' : Option Addr) (c' : Nat), 16 * j < r + n + 16 ∧ L = 16 * j ∧ z = q + j ∧ s10 = .slice A' L c' ∧ s11 = vi z ∧ Hid (Ow wr w.heap.size 5 A' L c' ((stBlocks key l q j).map vb)) ∧ Hid (Below w.heap.size w wr)) (fun _ s11 _ => q + n + 40 - (intOf s11).toNat)
  case atStart => exact ⟨0, 0, q, none, 0, by omega, rfl, rfl, rfl, rfl, Ow.nil _ _ _ _, Below.refl _ _⟩
  case round =>
    obtain ⟨j, L, z, A', c', hj, hL, hz, rfl, rfl, HO, HB⟩ := hrel
    by_cases hlt : L < r + n
    · have HZ := Lib.hid hz
      have HLL := Lib.hid hL
      have hzb : z < 1000000000 := by omega
      have hz64 : z < 18446744073709551616 := by omega
      have c1 : (L : Int) < (r : Int) + (n : Int) := by omega
      have hC2 := Lib.hid (HC.out.keep HB.out)
      have hS2 := Lib.hid (HS.out.below HB.out)
      have hBs := HB.out.size
      clear hz hL
      go_wp2_with (first
        | (go_at_call 65; refine (Put64_any A 8 c l z hz64 wr hS2.out (by omega)).mono ?_; rintro e w2 ⟨A2, c2, rfl, ho2, hd2⟩)
        | (go_at_call 19; refine (Encrypt_any g key n4 hn4 hkl A2 c2 (l ++ be64 z) w2 (hC2.out.keep hd2) ho2.sl).mono ?_; rintro e w3 ⟨A3, c3, rfl, ho3, hd3⟩; have hd23 := Lib.hid (below_then hd2 hd3 hd2.size); have ho3' := Lib.hid (show Sl w3 A3 16 c3 ((stBlock key l z).map vb) from ho3.sl))
        | (at_builtin; refine appB rfl (.tmp 59) (.tmp 60) rfl w.heap.size A' L c' (stBlocks key l q j) rfl (HO.out.below hd23.out) A3 16 c3 (stBlock key l z) rfl ho3'.out (by have := HLL.out; omega) (by have := hd23.out.size; omega) ?_; intro A4 c4 w4 h41 h42 h43))
      go_roundw
      case rel =>
        have hb3 := below_then HB.out hd23.out hBs
        refine ⟨j + 1, L + 16, z + 1, A4, c4, by have := HLL.out; omega, by have := HLL.out; omega, by have := HZ.out; omega, rfl, by go_num, ?_, ?_⟩
        · have e : stBlocks key l q (j + 1) = stBlocks key l q j ++ stBlock key l z := by rw [HZ.out]; rfl
          rw [e]; exact h41
        · refine hb3.grown h42 hb3.size (fun k e => ?_)
          rcases HO.out.room with h0 | ⟨g', off', cs', rfl, hB', _⟩
          · simp [rowOf, h0] at e
          · unfold rowOf at e
            split at e
            · cases e
            · cases e; exact hB'
      case measure => have := HZ.out; have := HLL.out; simp [intOf]; omega
    · have HLL := Lib.hid hL
      by_cases h0 : n = 0
      · subst h0
        clear hL
        go_wp2
        go_ret2
        exact ⟨none, 0, rfl, Sl.nil _, (fun _ e => by cases e), HB.out⟩
      · have hnp : ((n : Int) == 0) = false := by simp; omega
        obtain ⟨g', off', rfl, hgB, _, _, _, _⟩ := HO.out.at_ (by omega)
        have hLc := HO.out.le
        have b1 : (r : Int) ≤ (r : Int) + (n : Int) := by omega
        have b2 : (r : Int) + (n : Int) ≤ (c' : Int) := by omega
        have b3 : (0 : Int) ≤ (r : Int) + (n : Int) := by omega
        have b4 : ((r : Int) + (n : Int)).toNat = r + n := by omega
        clear hL
        go_wp2
        go_ret2
        have hsl := HO.out.sl.cut r (r + n) (r + n) (by omega) (by omega) (Nat.le_refl _) (by omega)
        rw [show r + n - r = n by omega, if_neg (by omega), ← List.map_drop, ← List.map_take, hcut.out j (by have := HLL.out; omega), HA.out, Option.map_some, Nat.mul_one, add_mk] at hsl
        exact ⟨some ⟨g', off' + r, none⟩, n, rfl, hsl, (fun _ e => by cases e; exact hgB), HB.out⟩

/-! what is refused -/
set_option maxRecDepth 10000 in
theorem streamBytes_nil (A : Option Addr) (m c : Nat) (a n : Int) (w : World) :
    Calls Try.prog 25 #[.pointer none, .slice A m c, vi a, vi n] w fun e w' => e = .returned (.tuple #[.slice none 0 0, vi 1]) ∧ Below w.heap.size w w' := by
  go_enter Try.func25, Try.ntmps25
  go_wp2
  go_ret2
  exact ⟨rfl, Below.refl _ _⟩
set_option maxRecDepth 10000 in
theorem streamBytes_form (g : Nat) (A : Option Addr) (m c : Nat) (hm : m ≠ 8) (a n : Int) (w : World) :
    Calls Try.prog 25 #[.pointer (some ⟨g, 0, none⟩), .slice A m c, vi a, vi n] w fun e w' => e = .returned (.tuple #[.slice none 0 0, vi 3]) ∧ Below w.heap.size w w' := by
  have b1 : ((m : Int) != 8) = true := by simp; omega
  go_enter Try.func25, Try.ntmps25
  go_wp2
  go_ret2
  exact ⟨rfl, Below.refl _ _⟩
set_option maxRecDepth 10000 in
theorem streamBytes_range (g : Nat) (A : Option Addr) (c : Nat) (a n : Int) (h : a < 0 ∨ n < 0 ∨ 1073741824 < a ∨ 1048576 < n) (w : World) :
    Calls Try.prog 25 #[.pointer (some ⟨g, 0, none⟩), .slice A 8 c, vi a, vi n] w fun e w' => e = .returned (.tuple #[.slice none 0 0, vi 2]) ∧ Below w.heap.size w w' := by
  by_cases h1 : a < 0
  · have b1 : decide (a < 0) = true := decide_eq_true h1
    go_enter Try.func25, Try.ntmps25
    go_wp2
    go_ret2
    exact ⟨rfl, Below.refl _ _⟩
  have b1 : decide (a < 0) = false := decide_eq_false h1
  by_cases h2 : n < 0
  · have b2 : decide (n < 0) = true := decide_eq_true h2
    go_enter Try.func25, Try.ntmps25
    go_wp2
    go_ret2
    exact ⟨rfl, Below.refl _ _⟩
  have b2 : decide (n < 0) = false := decide_eq_false h2
  by_cases h3 : 1073741824 < a
  · have b3 : decide (1073741824 < a) = true := decide_eq_true h3
    go_enter Try.func25, Try.ntmps25
    go_wp2
    go_ret2
    exact ⟨rfl, Below.refl _ _⟩
  have b3 : decide (1073741824 < a) = false := decide_eq_false h3
  have b4 : decide (1048576 < n) = true := decide_eq_true (by omega)
  go_enter Try.func25, Try.ntmps25
  go_wp2
  go_ret2
  exact ⟨rfl, Below.refl _ _⟩
set_option maxRecDepth 10000 in
theorem streamXor_nil (A B : Option Addr) (m c m2 c2 : Nat) (w : World) :
    Calls Try.prog 37 #[.pointer none, .slice A m c, .slice B m2 c2] w fun e w' => e = .returned (.tuple #[.slice none 0 0, vi 1]) ∧ Below w.heap.size w w' := by
  go_enter Try.func37, Try.ntmps37
  go_wp2_with (go_at_call 25; refine (streamBytes_nil A m c 0 m2 w).mono ?_; rintro e w2 ⟨rfl, hd2⟩)
  go_ret2
  exact ⟨rfl, hd2⟩
set_option maxRecDepth 10000 in
theorem streamXor_any (g : Nat) (key : List UInt8) (n4 : Nat) (hn4 : 0 < n4 ∧ n4 ≤ 8) (hkl : key.length = 4 * n4) (A : Option Addr) (c : Nat) (l : List UInt8) (A2 : Option Addr) (n c2 : Nat) (b : List UInt8) (hnn : n ≤ 1048576) (w : World) (hC : CipOk w g key) (hs : Sl w A 8 c (l.map vb)) (h2 : Sl w A2 n c2 (b.map vb)) :
    Calls Try.prog 37 #[.pointer (some ⟨g, 0, none⟩), .slice A 8 c, .slice A2 n c2] w fun e w' => ∃ A' c', e = .returned (.tuple #[.slice A' n c', vi 0]) ∧ Sl w' A' n c' ((xorL (streamL key l 0 n) b).map vb) ∧ Below w.heap.size w w' := by
  have H2 := Lib.hid h2
  have hst := Lib.hid (streamBytes_any g key n4 hn4 hkl A c l 0 n (by omega) hnn w hC hs)
  clear h2 hC hs
  go_enter Try.func37, Try.ntmps37
  go_wp2_with (first
    | (go_at_call 25; refine (hst.out).mono ?_; rintro e w2 ⟨A', c', rfl, hs2, _, hd2⟩)
    | (go_at_call 53; refine (Xor_any A' A2 n c' n c2 _ b w2 hs2 (H2.out.below hd2) ⟨by omega, by omega⟩).mono ?_; rintro e w3 ⟨A3, c3, rfl, ho3, hd3⟩))
  go_ret2
  have hsl := ho3.sl
  rw [Nat.min_self] at hsl
  exact ⟨A3, c3, rfl, hsl, below_then hd2 hd3 hd2.size⟩
end Lg
