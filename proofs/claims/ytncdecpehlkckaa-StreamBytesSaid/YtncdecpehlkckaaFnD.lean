/-
What the functions that write numbers as bytes come to, and those that read them. Bounds: fewer than 2^40 bytes.
-/
import Derived.Test.YtncdecpehlkckaaFnC
namespace Lg
open Go Go.RowKit Go.Proofs

/-- append(x, b), x the call's own -/
theorem appB1 {w : World} {ops : Array Oper} {rest : List Oper} {o : Oper} {a : Act} {Q : Exit → Act → World → Prop} (hgd : o.guard = none) (s x : Operand)
    (ho : o.op = .call { callee := .builtin .append, args := #[s, x], argTypes := #[22, 22] })
    (B : Nat) (A : Option Addr) (n c : Nat) (xs : List UInt8) (hv : a.eval s = .slice A n c) (z : Int) (hx : a.eval x = .slice (some ⟨w.heap.size, 0, none⟩) 1 1) (b : UInt8) (hown : Ow w B 5 A n c (xs.map vb))
    (hz : z = (b.toNat : Int)) (hnm : n + 1 ≤ 1099511627776) (hB : B ≤ w.heap.size)
    (h : ∀ A' c' w', Ow w' B 5 A' (n + 1) c' ((xs ++ [b]).map vb) → (w.alloc (.cells #[.int .u8 z] 5)).grownBy w' (rowOf A c) → (rowOf A' c' = rowOf A c ∨ rowOf A' c' = some (w.heap.size + 1)) → wpList Try.prog ops Q rest (a.put o.dst (.slice A' (n + 1) c')) w') :
    wpList Try.prog ops Q (o :: rest) a (w.alloc (.cells #[.int .u8 z] 5)) := by
  subst hz
  refine appB hgd s x ho B A n c xs hv (hown.alloc _) _ 1 1 [b] hx (Sl.one w _ _) hnm (by simp; omega) ?_
  intro A' c' w' h1 h2 h3
  exact h A' c' w' h1 h2 (by simpa using h3)

theorem be64_get (x : Nat) {k : Nat} (hk : k < 8) : (be64 x)[k]? = some (UInt8.ofNat (x >>> (56 - 8 * k))) := by
  have h : k = 0 ∨ k = 1 ∨ k = 2 ∨ k = 3 ∨ k = 4 ∨ k = 5 ∨ k = 6 ∨ k = 7 := by omega
  rcases h with rfl | rfl | rfl | rfl | rfl | rfl | rfl | rfl <;> rfl
theorem be32_get (x : UInt32) {k : Nat} (hk : k < 4) : (be32 x)[k]? = some (UInt8.ofNat (x.toNat >>> (24 - 8 * k))) := by
  have h : k = 0 ∨ k = 1 ∨ k = 2 ∨ k = 3 := by omega
  rcases h with rfl | rfl | rfl | rfl
  · show some _ = some _
    congr 1
  · show some _ = some _
    congr 1
  · show some _ = some _
    congr 1
  · show some _ = some _
    congr 1
theorem take_snoc {α : Type} {l : List α} {k : Nat} {x : α} (h : l[k]? = some x) : l.take (k + 1) = l.take k ++ [x] := by
  rw [List.take_add_one, h]; rfl
theorem put_byte (x s : Nat) : (x : Int) / 2 ^ s % 256 = ((UInt8.ofNat (x >>> s)).toNat : Int) := by
  rw [UInt8.toNat_ofNat', Nat.shiftRight_eq_div_pow]
  simp

set_option maxRecDepth 10000 in
set_option maxHeartbeats 400000 in
theorem Put64_any (A : Option Addr) (n c : Nat) (l : List UInt8) (x : Nat) (hx : x < 18446744073709551616) (w : World) (h1 : Sl w A n c (l.map vb)) (hn : n ≤ 1000000000000) :
    Calls Try.prog 65 #[.slice A n c, .int .u64 (x : Int)] w fun e w' => ∃ A' c', e = .returned (.slice A' (n + 8) c') ∧ Ow w' w.heap.size 5 A' (n + 8) c' ((l ++ be64 x).map vb) ∧ Below w.heap.size w w' := by
  have hcl := Clone_any A n c l w h1 (by omega)
  have Hcl := Lib.hid hcl
  have Hn := Lib.hid hn
  have Hx := Lib.hid hx
  clear h1 hn hcl hx
  go_enter Try.func65, Try.ntmps65
  go_wp2_with (first | (go_at_call 50; refine Hcl.out.mono ?_; rintro e w1 ⟨A1, c1, rfl, ho1, hb1⟩) | (go_at_call 93; refine (Bits64_any _).mono ?_; rintro e w' ⟨rfl, rfl⟩))
  go_loopw [5, 6] (fun s5 s6 wr => ∃ (k : Nat) (A' : Option Addr) (c' : Nat), k ≤ 8 ∧ s6 = vi (56 - 8 * (k : Int)) ∧ s5 = .slice A' (n + k) c' ∧ Hid (Ow wr w.heap.size 5 A' (n + k) c' ((l ++ (be64 x).take k).map vb)) ∧ Below w.heap.size w wr) (fun _ s6 _ => (intOf s6 + 8).toNat)
  case atStart => exact ⟨0, A1, c1, by omega, rfl, rfl, by simpa [Hid] using ho1, hb1⟩
  case round =>
    obtain ⟨k, A', c', hk, rfl, rfl, HO, hb⟩ := hrel
    by_cases hlt : k < 8
    · have hB := hb.size
      have hnk : n + k + 1 ≤ 1099511627776 := by have := Hn.out; omega
      have Hnk := Lib.hid hnk
      clear hnk
      have HZ := Lib.hid (put_byte x (56 - 8 * k))
      go_wp2_with (at_builtin; refine appB1 rfl (.tmp 15) (.tmp 20) rfl w.heap.size A' (n + k) c' (l ++ (be64 x).take k) rfl _ rfl _ HO.out HZ.out Hnk.out hB ?_; intro A2 c2 w2 h1 h2 h3)
      go_roundw
      case rel =>
        refine ⟨k + 1, A2, c2, by omega, by go_num, rfl, ?_, (hb.alloc hB _).grown h2 (by simp; omega) (fun j hj => (HO.out.row hj).1)⟩
        rw [List.append_assoc, ← take_snoc (be64_get x hlt)] at h1
        exact h1
      case measure => simp [intOf]; omega
    · go_wp2
      go_ret
      obtain rfl : k = 8 := by omega
      have h := HO.out
      rw [List.take_of_length_le (by rw [be64_length]; omega)] at h
      exact ⟨_, _, rfl, h, hb⟩

set_option maxRecDepth 10000 in
set_option maxHeartbeats 400000 in
theorem Put32_any (A : Option Addr) (n c : Nat) (l : List UInt8) (x : UInt32) (w : World) (h1 : Sl w A n c (l.map vb)) (hn : n ≤ 1000000000000) :
    Calls Try.prog 97 #[.slice A n c, .int .u32 (x.toNat : Int)] w fun e w' => ∃ A' c', e = .returned (.slice A' (n + 4) c') ∧ Ow w' w.heap.size 5 A' (n + 4) c' ((l ++ be32 x).map vb) ∧ Below w.heap.size w w' := by
  have hcl := Clone_any A n c l w h1 (by omega)
  have Hcl := Lib.hid hcl
  have Hn := Lib.hid hn
  clear h1 hn hcl
  go_enter Try.func97, Try.ntmps97
  go_wp2_with (first | (go_at_call 50; refine Hcl.out.mono ?_; rintro e w1 ⟨A1, c1, rfl, ho1, hb1⟩) | (go_at_call 105; refine (Bits32_any _).mono ?_; rintro e w' ⟨rfl, rfl⟩))
  go_loopw [5, 6] (fun s5 s6 wr => ∃ (k : Nat) (A' : Option Addr) (c' : Nat), k ≤ 4 ∧ s6 = vi (24 - 8 * (k : Int)) ∧ s5 = .slice A' (n + k) c' ∧ Hid (Ow wr w.heap.size 5 A' (n + k) c' ((l ++ (be32 x).take k).map vb)) ∧ Below w.heap.size w wr) (fun _ s6 _ => (intOf s6 + 8).toNat)
  case atStart => exact ⟨0, A1, c1, by omega, rfl, rfl, by simpa [Hid] using ho1, hb1⟩
  case round =>
    obtain ⟨k, A', c', hk, rfl, rfl, HO, hb⟩ := hrel
    by_cases hlt : k < 4
    · have hB := hb.size
      have hnk : n + k + 1 ≤ 1099511627776 := by have := Hn.out; omega
      have Hnk := Lib.hid hnk
      clear hnk
      have HZ := Lib.hid (put_byte x.toNat (24 - 8 * k))
      go_wp2_with (at_builtin; refine appB1 rfl (.tmp 15) (.tmp 20) rfl w.heap.size A' (n + k) c' (l ++ (be32 x).take k) rfl _ rfl _ HO.out HZ.out Hnk.out hB ?_; intro A2 c2 w2 h1 h2 h3)
      go_roundw
      case rel =>
        refine ⟨k + 1, A2, c2, by omega, by go_num, rfl, ?_, (hb.alloc hB _).grown h2 (by simp; omega) (fun j hj => (HO.out.row hj).1)⟩
        rw [List.append_assoc, ← take_snoc (be32_get x hlt)] at h1
        exact h1
      case measure => simp [intOf]; omega
    · go_wp2
      go_ret
      obtain rfl : k = 4 := by omega
      have h := HO.out
      rw [List.take_of_length_le (by rw [be32_length]; omega)] at h
      exact ⟨_, _, rfl, h, hb⟩


/-- the number that the first k of four bytes write -/
def acc4 (a b c d : UInt8) : Nat → Nat
  | 0 => 0
  | 1 => a.toNat
  | 2 => a.toNat * 256 + b.toNat
  | 3 => (a.toNat * 256 + b.toNat) * 256 + c.toNat
  | _ => ((a.toNat * 256 + b.toNat) * 256 + c.toNat) * 256 + d.toNat

theorem acc4_lt (a b c d : UInt8) (k : Nat) (hk : k ≤ 3) : acc4 a b c d k < 16777216 := by
  have ha := a.toNat_lt
  have hb := b.toNat_lt
  have hc := c.toNat_lt
  have h : k = 0 ∨ k = 1 ∨ k = 2 ∨ k = 3 := by omega
  rcases h with rfl | rfl | rfl | rfl <;> simp only [acc4] <;> omega
theorem ret2_u32 {a b : Int} {v : Value} (h : a = b) : Ending.returned (.tuple #[.int .u32 a, v]) = .returned (.tuple #[.int .u32 b, v]) := by rw [h]

theorem or_byte (a : Nat) (y : UInt8) (ha : a < 16777216) : bits .or .u64 (IntKind.u64.wrap ((a : Int) * 256)) (IntKind.u64.wrap (y.toNat : Int)) = ((a * 256 + y.toNat : Nat) : Int) := by
  have hy := y.toNat_lt
  have e : IntKind.u64.wrap ((a : Int) * 256) = ((a * 256 : Nat) : Int) := by rw [IntKind.wrap_u64]; omega
  have e2 : IntKind.u64.wrap (y.toNat : Int) = (y.toNat : Int) := by rw [IntKind.wrap_u64]; omega
  rw [e, e2, u64_or_nat _ _ (by omega) (by omega), nat_join 8 _ _ (by omega) (by omega)]

theorem w4_toNat (a b c d : UInt8) : (w4 a b c d).toNat = ((a.toNat * 256 + b.toNat) * 256 + c.toNat) * 256 + d.toNat := by
  have ha := a.toNat_lt
  have hb := b.toNat_lt
  have hc := c.toNat_lt
  have hd := d.toNat_lt
  unfold w4
  simp only [UInt32.toNat_or, UInt32.toNat_shiftLeft, UInt8.toNat_toUInt32, Nat.shiftLeft_eq]
  rw [show (24 : UInt32).toNat % 32 = 24 by decide, show (16 : UInt32).toNat % 32 = 16 by decide, show (8 : UInt32).toNat % 32 = 8 by decide,
    Nat.mod_eq_of_lt (show a.toNat * 2 ^ 24 < 2 ^ 32 by omega), Nat.mod_eq_of_lt (show b.toNat * 2 ^ 16 < 2 ^ 32 by omega), Nat.mod_eq_of_lt (show c.toNat * 2 ^ 8 < 2 ^ 32 by omega),
    nat_join 24 _ (b.toNat * 2 ^ 16) (by omega) (by omega), nat_join 16 _ (c.toNat * 2 ^ 8) (by omega) (by omega), nat_join 8 _ d.toNat (by omega) (by omega)]
  omega

set_option maxRecDepth 10000 in
set_option maxHeartbeats 400000 in
theorem Get32_any (A : Option Addr) (n c : Nat) (l : List UInt8) (w : World) (h1 : Sl w A n c (l.map vb)) (h4 : 4 ≤ n) :
    Calls Try.prog 111 #[.slice A n c] w fun e w' => e = .returned (.tuple #[.int .u32 ((wordAt l 0).toNat : Int), .bool true]) ∧ w = w' := by
  have hc := h1.le
  have hcm := h1.cap
  unfold maxLen at hcm
  obtain ⟨g, off, e0, _, hcell⟩ := h1.place (by omega)
  have hlen : l.length = n := by simpa using h1.len
  obtain ⟨x0, y0⟩ : ∃ x, l[0]? = some x := ⟨_, List.getElem?_eq_getElem (by omega)⟩
  obtain ⟨x1, y1⟩ : ∃ x, l[1]? = some x := ⟨_, List.getElem?_eq_getElem (by omega)⟩
  obtain ⟨x2, y2⟩ : ∃ x, l[2]? = some x := ⟨_, List.getElem?_eq_getElem (by omega)⟩
  obtain ⟨x3, y3⟩ : ∃ x, l[3]? = some x := ⟨_, List.getElem?_eq_getElem (by omega)⟩
  have z0 := hcell 0 (vb x0) (by simp [y0])
  have z1 := hcell 1 (vb x1) (by simp [y1])
  have z2 := hcell 2 (vb x2) (by simp [y2])
  have z3 := hcell 3 (vb x3) (by simp [y3])
  have e4 : wordAt l 0 = w4 x0 x1 x2 x3 := by simp [wordAt, List.getD_eq_getElem?_getD, y0, y1, y2, y3]
  rw [Nat.add_zero] at z0
  have E4 := Lib.hid e4
  have E0 := Lib.hid hlen
  subst e0
  clear e4 hlen y0 y1 y2 y3 hcell h1
  go_enter Try.func111, Try.ntmps111
  go_wp2_with (go_at_call 105; refine (Bits32_any _).mono ?_; rintro e w' ⟨rfl, rfl⟩)
  go_loop [5, 18] (fun s5 s18 => ∃ k : Nat, k ≤ 4 ∧ s18 = vi k ∧ s5 = .int .u64 (acc4 x0 x1 x2 x3 k : Nat)) (fun _ s18 => 4 - (intOf s18).toNat)
  case atStart => exact ⟨0, by omega, rfl, rfl⟩
  case round =>
    obtain ⟨k, hk, rfl, rfl⟩ := hrel
    have hk5 : k = 0 ∨ k = 1 ∨ k = 2 ∨ k = 3 ∨ k = 4 := by omega
    rcases hk5 with rfl | rfl | rfl | rfl | rfl
    · go_wp2
      go_round
      case rel => exact ⟨1, by omega, rfl, by rw [or_byte _ _ (acc4_lt x0 x1 x2 x3 0 (by omega))]; simp only [acc4, Nat.zero_mul, Nat.zero_add]⟩
      case measure => simp [intOf]
    · go_wp2
      go_round
      case rel => exact ⟨2, by omega, rfl, by rw [or_byte _ _ (acc4_lt x0 x1 x2 x3 1 (by omega))]; rfl⟩
      case measure => simp [intOf]
    · go_wp2
      go_round
      case rel => exact ⟨3, by omega, rfl, by rw [or_byte _ _ (acc4_lt x0 x1 x2 x3 2 (by omega))]; rfl⟩
      case measure => simp [intOf]
    · go_wp2
      go_round
      case rel => exact ⟨4, by omega, rfl, by rw [or_byte _ _ (acc4_lt x0 x1 x2 x3 3 (by omega))]; rfl⟩
      case measure => simp [intOf]
    · go_wp2
      go_ret2
      refine ⟨?_, rfl⟩
      rw [E4.out]
      have h := w4_toNat x0 x1 x2 x3
      have h' := (w4 x0 x1 x2 x3).toNat_lt
      have e : ((acc4 x0 x1 x2 x3 4 : Nat) : Int) % 4294967296 = ((w4 x0 x1 x2 x3).toNat : Int) := by
        rw [h]; rw [h] at h'; show ((((x0.toNat * 256 + x1.toNat) * 256 + x2.toNat) * 256 + x3.toNat : Nat) : Int) % _ = _; omega
      exact ret2_u32 e
end Lg
