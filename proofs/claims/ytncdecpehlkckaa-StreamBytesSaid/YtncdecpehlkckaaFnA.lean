/-
What the small functions of the packages field and word come to: the product, the inverse, a byte turned. No condition but that the field is one that New made.
-/
import Derived.Test.YtncdecpehlkckaaBase

import Derived.Test.YtncdecpehlkckaaAes
namespace Lg
open Go Go.RowKit Go.Proofs

theorem double_hi (a : UInt8) : ((a.toNat : Int) / 128 == 1) = true → bits .xor .u8 ((a.toNat : Int) * 2 % 256) 27 = ((xt a).toNat : Int) := by
  revert a; exact all_bytes (by decide +kernel)
theorem double_lo (a : UInt8) : ((a.toNat : Int) / 128 == 1) = false → (a.toNat : Int) * 2 % 256 = ((xt a).toNat : Int) := by
  revert a; exact all_bytes (by decide +kernel)
theorem vb_of {n : Int} {b : UInt8} (h : (b.toNat : Int) = n) : Value.int .u8 n = vb b := by rw [← h]
theorem ret_eq {a b : UInt8} (h : a = b) : Ending.returned (vb a) = .returned (vb b) := by rw [h]
theorem ret_vb {a : Int} {b : UInt8} (h : a = (b.toNat : Int)) : Ending.returned (.int .u8 a) = .returned (vb b) := by rw [h]

set_option maxHeartbeats 400000 in
theorem double_any (a : UInt8) (w : World) :
    Calls Try.prog 90 #[vb a] w fun e w' => e = .returned (vb (xt a)) ∧ w = w' := by
  go_enter Try.func90, Try.ntmps90
  go_wp2
  · go_ret
    exact ⟨ret_vb (double_hi a ‹_›), rfl⟩
  · go_ret
    exact ⟨ret_vb (double_lo a ‹_›), rfl⟩

theorem half_u8 (a : UInt8) : ((a >>> 1).toNat : Int) = (a.toNat : Int) / 2 := by
  revert a; exact all_bytes (by decide +kernel)

theorem pos_of_ne {y : UInt8} (h : ((y.toNat : Int) != 0) = true) : 0 < y.toNat := by
  simp at h; omega
theorem zero_of_eq {y : UInt8} (h : ((y.toNat : Int) != 0) = false) : y = 0 := by
  simp at h; rw [← UInt8.toNat_inj, h]; rfl
theorem mulGo_b0 (n : Nat) (a : B) : mulGo n a 0 = 0 := by
  induction n generalizing a with
  | zero => rfl
  | succ n ih =>
    unfold mulGo
    rw [show (0 : B) >>> 1 = 0 by decide, ih, show ((0 : B) &&& 1 == 1) = false by decide]
    simp
theorem and1_u8 (y : UInt8) : (bits .and .u8 (y.toNat : Int) 1 == 1) = (y &&& 1 == 1) := by
  revert y; exact all_bytes (by decide +kernel)
theorem half_lt {y : UInt8} {n : Nat} (h : y.toNat < 2 ^ (n + 1)) : (y >>> 1).toNat < 2 ^ n := by
  have h1 := half_u8 y
  rw [Nat.pow_succ] at h
  omega
theorem mul_step {x y o : UInt8} {n : Nat} (hy : y.toNat < 2 ^ n) (h : ((y.toNat : Int) != 0) = true) (hn : n ≤ 8) :
    ∃ n', n' < n ∧ (y >>> 1).toNat < 2 ^ n' ∧ o ^^^ mulGo n x y = o ^^^ ((if (bits .and .u8 (y.toNat : Int) 1 == 1) = true then x else 0) ^^^ mulGo n' (xt x) (y >>> 1)) := by
  have hp := pos_of_ne h
  cases n with
  | zero => simp at hy; omega
  | succ n => exact ⟨n, by omega, half_lt hy, by rw [and1_u8, mulGo]⟩

set_option maxHeartbeats 400000 in
theorem Slow_any (a b : UInt8) (w : World) :
    Calls Try.prog 56 #[vb a, vb b] w fun e w' => e = .returned (vb (mul a b)) ∧ w = w' := by
  go_enter Try.func56, Try.ntmps56
  go_wp2
  go_loop [0, 1, 5] (fun s0 s1 s5 => ∃ (x y o : UInt8) (n : Nat), s0 = vb x ∧ s1 = vb y ∧ s5 = vb o ∧ n ≤ 8 ∧ y.toNat < 2 ^ n ∧ Hid (o ^^^ mulGo n x y = mul a b)) (fun _ s1 _ => (intOf s1).toNat)
  case atStart => exact ⟨a, b, 0, 8, rfl, rfl, rfl, Nat.le_refl _, b.toNat_lt, by simp [Hid, mul]⟩
  case round =>
    obtain ⟨x, y, o, n, rfl, rfl, rfl, hn, hy, H⟩ := hrel
    go_wp2_with (go_at_call 90; refine (double_any _ _).mono ?_; rintro e w' ⟨rfl, rfl⟩)
    · go_round
      case rel =>
        obtain ⟨n', hn0, hn', h2⟩ := mul_step (o := o) (x := x) hy ‹_› hn
        exact ⟨_, y >>> 1, o ^^^ x, n', rfl, vb_of (half_u8 y), rfl, by omega, hn', by rw [Hid, ← H.out, h2, if_pos ‹_›, xor_assoc]⟩
      case measure => have := pos_of_ne ‹_›; simp [intOf]; omega
    · go_round
      case rel =>
        obtain ⟨n', hn0, hn', h2⟩ := mul_step (o := o) (x := x) hy ‹_› hn
        exact ⟨_, y >>> 1, o, n', rfl, vb_of (half_u8 y), rfl, by omega, hn', by rw [Hid, ← H.out, h2, if_neg (by simp [*]), zero_xor]⟩
      case measure => have := pos_of_ne ‹_›; simp [intOf]; omega
    · go_ret
      have hy0 := zero_of_eq ‹_›
      subst hy0
      exact ⟨ret_eq (by have hh := H.out; rwa [mulGo_b0, xor_zero] at hh), rfl⟩

/-! ## The field in memory -/

def logCells : List Value := (List.range 256).map fun n => vi (if n = 0 then 0 else lg (UInt8.ofNat n))
def powCells : List Value := (List.range 510).map fun n => vb (pw n)
/-- Block b is the field. -/
def Fl (w : World) (b : Nat) : Prop := Blk w b 89 (powCells ++ logCells)

theorem Fl.pow {w : World} {b : Nat} (h : Fl w b) {n : Nat} (hn : n < 510) : w.cell? ⟨b, n, none⟩ = some (vb (pw n)) := by
  rw [Blk.cell h]
  rw [List.getElem?_append_left (by simp [powCells]; omega)]
  simp [powCells, hn]
theorem Fl.log {w : World} {b : Nat} (h : Fl w b) {a : UInt8} (ha : a ≠ 0) : w.cell? ⟨b, 510 + a.toNat, none⟩ = some (vi (lg a)) := by
  rw [Blk.cell h]
  rw [List.getElem?_append_right (by simp [powCells])]
  have h1 := a.toNat_lt
  have h0 : ¬ a.toNat = 0 := by intro e; exact ha (by rw [← UInt8.toNat_inj, e]; rfl)
  simp [powCells, logCells, h1, h0]

set_option maxHeartbeats 400000 in
theorem Mul_any (b : Nat) (x y : UInt8) (w : World) (hF : Fl w b) :
    Calls Try.prog 52 #[.pointer (some ⟨b, 0, none⟩), vb x, vb y] w fun e w' => e = .returned (vb (mul x y)) ∧ ∃ n, w' = w.drewN n := by
  by_cases hx : x = 0
  · subst hx
    go_enter Try.func52, Try.ntmps52
    go_wp2
    go_ret
    exact ⟨ret_vb (by rw [zero_mul]; rfl), 0, rfl⟩
  · by_cases hy : y = 0
    · subst hy
      have hx0 : ((x.toNat : Int) == 0) = false := by simp; intro e; exact hx (by rw [← UInt8.toNat_inj, e]; rfl)
      go_enter Try.func52, Try.ntmps52
      go_wp2
      go_ret
      exact ⟨ret_vb (by rw [mul_zero]; rfl), 0, rfl⟩
    · have hx0 : ((x.toNat : Int) == 0) = false := by simp; intro e; exact hx (by rw [← UInt8.toNat_inj, e]; rfl)
      have hy0 : ((y.toNat : Int) == 0) = false := by simp; intro e; exact hy (by rw [← UInt8.toNat_inj, e]; rfl)
      have h1 := hF.log hx
      have h2 := hF.log hy
      have b1 := lg_lt hx
      have b2 := lg_lt hy
      have bx := x.toNat_lt
      have by' := y.toNat_lt
      have h3 := hF.pow (n := lg x + lg y) (by omega)
      go_enter Try.func52, Try.ntmps52
      go_wp2
      go_quiet (fail)
      go_wp2
      go_ret
      exact ⟨ret_eq (mul_pw hx hy).symm, _, rfl⟩

set_option maxHeartbeats 400000 in
theorem Inv_any (b : Nat) (x : UInt8) (w : World) (hF : Fl w b) :
    Calls Try.prog 85 #[.pointer (some ⟨b, 0, none⟩), vb x] w fun e w' => e = .returned (.tuple #[vb (inv x), vi (if x = 0 then 7 else 0)]) ∧ ∃ n, w' = w.drewN n := by
  by_cases hx : x = 0
  · subst hx
    go_enter Try.func85, Try.ntmps85
    go_wp2
    go_ret2
    exact ⟨rfl, 0, rfl⟩
  · have hx0 : ((x.toNat : Int) == 0) = false := by simp; intro e; exact hx (by rw [← UInt8.toNat_inj, e]; rfl)
    have h1 := hF.log hx
    have b1 := lg_lt hx
    have bx := x.toNat_lt
    have h3 := hF.pow (n := 255 - lg x) (by omega)
    have e3 : ((255 : Int) - (lg x : Int)) = ((255 - lg x : Nat) : Int) := by omega
    have fin : inv x = pw (255 - lg x) := by rw [inv, if_neg hx]
    have Fin := Lib.hid fin
    clear fin
    go_enter Try.func85, Try.ntmps85
    go_wp2
    go_quiet (fail)
    go_wp2
    go_ret2
    rw [Fin.out]
    exact ⟨rfl, _, rfl⟩

/-! ## field.New -/

/-- the field behind k rounds -/
def fieldAt (k : Nat) : List Value := (List.range 766).map fun n => if n < 510 then vb (if n % 255 < k then pw n else 0) else vi (if n - 510 ≠ 0 ∧ lg (UInt8.ofNat (n - 510)) < k then lg (UInt8.ofNat (n - 510)) else 0)

theorem fieldAt_length (k : Nat) : (fieldAt k).length = 766 := by simp [fieldAt]
theorem fieldAt_zero : Try.zeroCells89.toList = fieldAt 0 := by
  have h : Try.zeroCells89 = (fieldAt 0).toArray := by kernel_rfl
  rw [h]
theorem fieldAt_end : fieldAt 255 = powCells ++ logCells := by
  apply List.ext_getElem?
  intro i
  by_cases hi : i < 766
  · by_cases h5 : i < 510
    · rw [List.getElem?_append_left (by simp [powCells]; omega)]
      simp [fieldAt, powCells, hi, h5, Nat.mod_lt]
    · rw [List.getElem?_append_right (by simp [powCells]; omega)]
      have h6 : i - 510 < 256 := by omega
      simp only [fieldAt, powCells, logCells, List.getElem?_map, List.length_map, List.length_range, List.getElem?_range hi, List.getElem?_range h6, Option.map_some, if_neg h5]
      by_cases h0 : i - 510 = 0
      · simp [h0]
      · have hne : UInt8.ofNat (i - 510) ≠ 0 := by
          intro e
          have := congrArg UInt8.toNat e
          simp at this
          omega
        simp [h0, lg_lt hne]
  · rw [List.getElem?_eq_none (by rw [fieldAt_length]; omega), List.getElem?_eq_none (by simp [powCells, logCells]; omega)]

theorem pw_pos (k : Nat) : 0 < (pw k).toNat := by
  have := pw_ne k
  have h : (pw k).toNat ≠ 0 := by intro e; exact this (by rw [← UInt8.toNat_inj, e]; rfl)
  omega

/-- what one round stores -/
theorem fieldAt_step (k : Nat) (hk : k < 255) :
    (((fieldAt k).set k (vb (pw k))).set (k + 255) (vb (pw k))).set (510 + (pw k).toNat) (vi k) = fieldAt (k + 1) := by
  have hp := pw_pos k
  have hlt := (pw k).toNat_lt
  apply List.ext_getElem?
  intro i
  by_cases hi : i < 766
  · simp only [List.getElem?_set, List.length_set, fieldAt_length]
    by_cases h5 : i < 510
    · rw [if_neg (by omega)]
      simp only [fieldAt, List.getElem?_map, List.getElem?_range hi, Option.map_some, if_pos h5]
      by_cases e1 : k + 255 = i
      · subst e1
        rw [if_pos rfl, if_pos (by omega), if_pos (by omega)]
        rw [← pw_add_255 k]
      · rw [if_neg e1]
        by_cases e2 : k = i
        · subst e2
          rw [if_pos rfl, if_pos (by omega), if_pos (by omega)]
        · rw [if_neg e2]
          by_cases h : i % 255 < k
          · rw [if_pos h, if_pos (by omega)]
          · rw [if_neg h, if_neg (by omega)]
    · by_cases e : 510 + (pw k).toNat = i
      · subst e
        rw [if_pos rfl, if_pos (by omega)]
        simp only [fieldAt, List.getElem?_map, List.getElem?_range hi, Option.map_some, if_neg h5]
        rw [show 510 + (pw k).toNat - 510 = (pw k).toNat by omega, UInt8.ofNat_toNat, lg_pw_lt k hk, if_pos ⟨by omega, by omega⟩]
      · rw [if_neg e, if_neg (by omega), if_neg (by omega)]
        simp only [fieldAt, List.getElem?_map, List.getElem?_range hi, Option.map_some, if_neg h5]
        by_cases h0 : i - 510 = 0
        · simp [h0]
        · have hne : UInt8.ofNat (i - 510) ≠ 0 := by
            intro e'
            have := congrArg UInt8.toNat e'
            simp at this
            omega
          have hnk : lg (UInt8.ofNat (i - 510)) ≠ k := by
            intro e'
            have h1 := pw_lg hne
            rw [e'] at h1
            rw [h1] at e
            simp at e
            omega
          by_cases h : lg (UInt8.ofNat (i - 510)) < k
          · rw [if_pos ⟨h0, h⟩, if_pos ⟨h0, by omega⟩]
          · rw [if_neg (fun h' => h h'.2), if_neg (fun h' => by omega)]
  · rw [List.getElem?_eq_none (by simp [fieldAt_length]; omega), List.getElem?_eq_none (by rw [fieldAt_length]; omega)]

theorem m3_eq (a : UInt8) : mul a 3 = m3 a := by
  revert a; exact all_bytes (by decide +kernel)
theorem Slow_three (k : Nat) (w : World) : Calls Try.prog 56 #[vb (pw k), .int .u8 3] w fun e w' => e = .returned (vb (pw (k + 1))) ∧ w = w' := by
  have h := Slow_any (pw k) 3 w
  rw [m3_eq] at h
  exact h

set_option maxRecDepth 10000 in
set_option maxHeartbeats 400000 in
theorem fieldNew_any (w : World) :
    Calls Try.prog 18 #[] w fun e w' => ∃ b, e = .returned (.pointer (some ⟨b, 0, none⟩)) ∧ w.heap.size ≤ b ∧ Fl w' b ∧ Below w.heap.size w w' := by
  have h0 : Blk (w.alloc (.cells Try.zeroCells89 89)) w.heap.size 89 (fieldAt 0) := by rw [← fieldAt_zero]; exact Blk.new w _ _
  go_enter Try.func18, Try.ntmps18
  go_wp2
  go_loopw [2, 6] (fun s2 s6 wr => ∃ k : Nat, k ≤ 255 ∧ s6 = vi k ∧ s2 = vb (pw k) ∧ Hid (Blk wr w.heap.size 89 (fieldAt k)) ∧ Below w.heap.size w wr) (fun _ s6 _ => 255 - (intOf s6).toNat)
  case atStart => exact ⟨0, by omega, rfl, rfl, h0, (Below.refl _ _).alloc (Nat.le_refl _) _⟩
  case round =>
    obtain ⟨k, hk, rfl, rfl, hB, hb⟩ := hrel
    clear h0
    by_cases hlt : k < 255
    · have f1 := hB.out.frozen k
      have f2 := hB.out.frozen (k + 255)
      have f3 := hB.out.frozen (510 + (pw k).toNat)
      have plt := (pw k).toNat_lt
      obtain ⟨u1, c1⟩ : ∃ u, wr.cell? ⟨w.heap.size, k, none⟩ = some u := ⟨_, (hB.out.cell k).trans (List.getElem?_eq_getElem (by rw [fieldAt_length]; omega))⟩
      obtain ⟨u2, c2⟩ : ∃ u, wr.cell? ⟨w.heap.size, k + 255, none⟩ = some u := ⟨_, (hB.out.cell _).trans (List.getElem?_eq_getElem (by rw [fieldAt_length]; omega))⟩
      obtain ⟨u3, c3⟩ : ∃ u, wr.cell? ⟨w.heap.size, 510 + (pw k).toNat, none⟩ = some u := ⟨_, (hB.out.cell _).trans (List.getElem?_eq_getElem (by rw [fieldAt_length]; omega))⟩
      go_wp2
      go_region
      go_wp2_with (go_at_call 56; refine (Slow_three _ _).mono ?_; rintro e w' ⟨rfl, rfl⟩)
      go_roundw
      case rel =>
        refine ⟨k + 1, by omega, by go_num, rfl, ?_, ?_⟩
        · have h := ((hB.out.set_ k (vb (pw k))).set_ (k + 255) (vb (pw k))).set_ (510 + (pw k).toNat) (vi k)
          rw [fieldAt_step k hlt] at h
          exact h.drew
        · exact (((hb.setCell (p := ⟨w.heap.size, k, none⟩) (Nat.le_refl _) _).setCell (p := ⟨w.heap.size, k + 255, none⟩) (Nat.le_refl _) _).setCell (p := ⟨w.heap.size, _, none⟩) (Nat.le_refl _) _).drew
      case measure => simp [intOf]; omega
    · go_wp2
      go_ret
      have hk' : k = 255 := by omega
      subst hk'
      exact ⟨_, rfl, Nat.le_refl _, by rw [Fl, ← fieldAt_end]; exact hB.out, hb⟩
end Lg
