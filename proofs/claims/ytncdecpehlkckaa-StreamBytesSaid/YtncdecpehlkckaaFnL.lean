/-
The cipher's tables, and its rounds' number. No condition.
-/
import Derived.Test.YtncdecpehlkckaaFnK
namespace Lg
open Go Go.RowKit Go.Proofs

theorem Gr.refl (w : World) (r : Option Nat) : w.grownBy w r := ⟨rfl, rfl, rfl, Nat.le_refl _, fun _ _ _ => rfl⟩
theorem Gr.trans {w w' w'' : World} {r : Option Nat} (h : w.grownBy w' r) (k : w'.grownBy w'' r) : w.grownBy w'' r :=
  ⟨k.os.trans h.os, k.tape.trans h.tape, k.output.trans h.output, Nat.le_trans h.size k.size, fun i hi hne => (k.block i (Nat.lt_of_lt_of_le hi h.size) hne).trans (h.block i hi hne)⟩
theorem Gr.drewN {w w' : World} {r : Option Nat} (h : w.grownBy w' r) (n : Nat) : w.grownBy (w'.drewN n) r := ⟨h.os, h.tape, h.output, h.size, h.block⟩
theorem Gr.setCell {w w' : World} {g : Nat} (h : w.grownBy w' (some g)) (i : Nat) (u : Value) : w.grownBy (w'.setCell ⟨g, i, none⟩ u) (some g) :=
  Gr.trans h ⟨rfl, rfl, rfl, by simp [World.setCell], fun k hk hne => Below.heap_setCell w' ⟨g, i, none⟩ u k (fun e => hne (by rw [e]))⟩
theorem Gr.below {w w' w'' : World} {r : Option Nat} (h : w.grownBy w' r) (k : Below w'.heap.size w' w'') : w.grownBy w'' r := Gr.trans h (grownBy_of_below k)

/-- A cipher's cells. -/
def cipC (fv kv : Value) (box back : List UInt8) : List Value := fv :: kv :: (box ++ back).map vb
/-- A cipher lies in block g. -/
def Cip (w : World) (g : Nat) (fv kv : Value) (box back : List UInt8) : Prop := Blk w g 73 (cipC fv kv box back)

def boxAt (k : Nat) : List UInt8 := (List.range 256).map fun n => if n < k then sbox (UInt8.ofNat n) else 0
def backAt (k : Nat) : List UInt8 := (List.range 256).map fun n => if (isbox (UInt8.ofNat n)).toNat < k then isbox (UInt8.ofNat n) else 0
theorem boxAt_length (k : Nat) : (boxAt k).length = 256 := by simp [boxAt]
theorem backAt_length (k : Nat) : (backAt k).length = 256 := by simp [backAt]
theorem boxAt_step (k : Nat) (hk : k < 256) : (boxAt k).set k (sbox (UInt8.ofNat k)) = boxAt (k + 1) := by
  apply List.ext_getElem?
  intro j
  rw [List.getElem?_set, boxAt_length]
  by_cases hj : j < 256
  · simp only [boxAt, List.getElem?_map, List.getElem?_range hj, Option.map_some]
    by_cases e : k = j
    · subst e; rw [if_pos rfl, if_pos hk, if_pos (Nat.lt_succ_self _)]
    · rw [if_neg e]
      by_cases h : j < k
      · rw [if_pos h, if_pos (by omega)]
      · rw [if_neg h, if_neg (by omega)]
  · rw [if_neg (by omega), List.getElem?_eq_none (by rw [boxAt_length]; omega), List.getElem?_eq_none (by rw [boxAt_length]; omega)]
theorem backAt_step (k : Nat) (hk : k < 256) : (backAt k).set (sbox (UInt8.ofNat k)).toNat (UInt8.ofNat k) = backAt (k + 1) := by
  apply List.ext_getElem?
  intro j
  rw [List.getElem?_set, backAt_length]
  have hkk : (UInt8.ofNat k).toNat = k := by simp; omega
  by_cases hj : j < 256
  · simp only [backAt, List.getElem?_map, List.getElem?_range hj, Option.map_some]
    by_cases e : (sbox (UInt8.ofNat k)).toNat = j
    · have e1 : isbox (UInt8.ofNat j) = UInt8.ofNat k := by rw [← e, UInt8.ofNat_toNat, isbox_sbox]
      rw [if_pos e, if_pos (sbox (UInt8.ofNat k)).toNat_lt, e1, hkk, if_pos (Nat.lt_succ_self _)]
    · rw [if_neg e]
      have hne : (isbox (UInt8.ofNat j)).toNat ≠ k := by
        intro h
        apply e
        have h2 : isbox (UInt8.ofNat j) = UInt8.ofNat k := by rw [← UInt8.toNat_inj, h, hkk]
        rw [← h2, sbox_isbox]; simp; omega
      by_cases h : (isbox (UInt8.ofNat j)).toNat < k
      · rw [if_pos h, if_pos (by omega)]
      · rw [if_neg h, if_neg (by omega)]
  · rw [if_neg (by have := (sbox (UInt8.ofNat k)).toNat_lt; omega), List.getElem?_eq_none (by rw [backAt_length]; omega), List.getElem?_eq_none (by rw [backAt_length]; omega)]
theorem cip_set_box (fv kv : Value) (box back : List UInt8) (i : Nat) (x : UInt8) (hi : i < box.length) : (cipC fv kv box back).set (2 + i) (vb x) = cipC fv kv (box.set i x) back := by
  unfold cipC
  rw [show 2 + i = (i + 1) + 1 by omega, List.set_cons_succ, List.set_cons_succ, map_set, List.set_append_left _ _ hi]
theorem cip_set_back (fv kv : Value) (box back : List UInt8) (hb : box.length = 256) (i : Nat) (x : UInt8) : (cipC fv kv box back).set (258 + i) (vb x) = cipC fv kv box (back.set i x) := by
  unfold cipC
  rw [show 258 + i = (256 + i + 1) + 1 by omega, List.set_cons_succ, List.set_cons_succ, map_set, List.set_append_right _ _ (by omega), hb, show 256 + i - 256 = i by omega]
theorem cip_length (fv kv : Value) (box back : List UInt8) : (cipC fv kv box back).length = 2 + (box.length + back.length) := by simp [cipC]; omega

theorem sbox_part (x : UInt8) : inv x ^^^ 99 ^^^ tup (inv x) 1 ^^^ tup (inv x) 2 ^^^ tup (inv x) 3 ^^^ tup (inv x) 4 = sbox x := (sbox_eq x).symm
/-- the box of x, behind so many turns -/
def boxPart (v : UInt8) : Nat → UInt8
  | 0 => v ^^^ 99
  | n + 1 => boxPart v n ^^^ tup v (UInt8.ofNat (n + 1))
theorem boxPart_end (x : UInt8) : boxPart (inv x) 4 = sbox x := by
  rw [sbox_eq]; rfl

set_option maxRecDepth 10000 in
set_option maxHeartbeats 400000 in
theorem Rounds_any (g n c : Nat) (fv : Value) (a : Option Addr) (box back : List UInt8) (w : World) (hC : Cip w g fv (.slice a n c) box back) (hn : n < 1000) :
    Calls Try.prog 22 #[.pointer (some ⟨g, 0, none⟩)] w fun e w' => e = .returned (vi ((n : Int) - 1)) ∧ w = w' := by
  have c1 : w.cell? ⟨g, 1, none⟩ = some (.slice a n c) := Blk.cell hC 1
  clear hC
  go_enter Try.func22, Try.ntmps22
  go_wp2
  go_ret
  exact ⟨rfl, rfl⟩

set_option maxRecDepth 10000 in
set_option maxHeartbeats 400000 in
theorem Rounds_nil (w : World) : Calls Try.prog 22 #[.pointer none] w fun e w' => e = .returned (vi 0) ∧ w = w' := by
  go_enter Try.func22, Try.ntmps22
  go_wp2
  go_ret
  exact ⟨rfl, rfl⟩

theorem Inv_ex (b : Nat) (x : UInt8) (w : World) (hF : Fl w b) :
    Calls Try.prog 85 #[.pointer (some ⟨b, 0, none⟩), vb x] w fun e w' => ∃ z, e = .returned (.tuple #[vb (inv x), vi z]) ∧ ∃ n, w' = w.drewN n :=
  (Inv_any b x w hF).mono fun _ _ h => ⟨_, h⟩
theorem part0 (v : UInt8) : bits .xor .u8 (v.toNat : Int) 99 = ((boxPart v 0).toNat : Int) := xor_u8 v 99

set_option maxRecDepth 10000 in
set_option maxHeartbeats 1000000 in
theorem boxes_any (g f : Nat) (kv : Value) (w : World) (hC : Cip w g (.pointer (some ⟨f, 0, none⟩)) kv (boxAt 0) (backAt 0)) (hF : Fl w f) (hfg : f ≠ g) :
    Calls Try.prog 48 #[.pointer (some ⟨g, 0, none⟩)] w fun e w' => (∃ v, e = .returned v) ∧ Cip w' g (.pointer (some ⟨f, 0, none⟩)) kv (boxAt 256) (backAt 256) ∧ w.grownBy w' (some g) := by
  have HF := Lib.hid hF
  have HC := Lib.hid hC
  have hg := Blk.lt hC
  have hfl := Blk.lt hF
  clear hF hC
  go_enter Try.func48, Try.ntmps48
  go_wp2
  go_loopw [7] (fun s7 wr => ∃ k : Nat, k ≤ 256 ∧ s7 = vi k ∧ Hid (Cip wr g (.pointer (some ⟨f, 0, none⟩)) kv (boxAt k) (backAt k)) ∧ Hid (w.grownBy wr (some g))) (fun s7 _ => 256 - (intOf s7).toNat)
  case atStart => exact ⟨0, by omega, rfl, HC, ⟨rfl, rfl, rfl, Nat.le_refl _, fun _ _ _ => rfl⟩⟩
  case round =>
    obtain ⟨k, hk, rfl, HB, hb⟩ := hrel
    clear HC
    by_cases hlt : k < 256
    · obtain ⟨x, rfl⟩ : ∃ x : UInt8, k = x.toNat := ⟨UInt8.ofNat k, by simp; omega⟩
      have c0 : wr.cell? ⟨g, 0, none⟩ = some (.pointer (some ⟨f, 0, none⟩)) := Blk.cell HB.out 0
      have HF2 := Lib.hid (Blk.grown HF.out hb.out (fun e => hfg (by injection e with e; exact e.symm)))
      go_wp2_with (go_at_call 85; refine (Inv_ex f x _ (by exact HF2.out)).mono ?_; rintro e w1 ⟨zz, rfl, nq, rfl⟩)
      go_loopw [5, 6] (fun s5 s6 wq => ∃ m : Nat, m ≤ 4 ∧ s6 = vi ((m : Int) + 1) ∧ s5 = vb (boxPart (inv x) m) ∧ ∃ d, wq = wr.drewN d) (fun _ s6 _ => 5 - (intOf s6).toNat)
      case atStart => exact ⟨0, by omega, rfl, by rw [part0], nq, rfl⟩
      case round =>
        obtain ⟨m, hm, rfl, rfl, d, rfl⟩ := hrel
        by_cases hltm : m < 4
        · have hc := Lib.hid (Turn8_any (inv x) (m + 1) (by omega) (by omega))
          go_wp2_with (go_at_call 86; refine (hc.out _).mono ?_; rintro e w1 ⟨rfl, nq2, rfl⟩)
          go_roundw
          case rel => exact ⟨m + 1, by omega, by go_num, by rw [vb_xor]; simp [boxPart], _, rfl⟩
          case measure => simp [intOf]; omega
        · obtain rfl : m = 4 := by omega
          have f1 := Blk.frozen HB.out (2 + x.toNat)
          have f2 := Blk.frozen HB.out (258 + (boxPart (inv x) 4).toNat)
          have ylt := (boxPart (inv x) 4).toNat_lt
          have xlt := x.toNat_lt
          obtain ⟨u1, d1⟩ : ∃ u, wr.cell? ⟨g, 2 + x.toNat, none⟩ = some u := ⟨_, (Blk.cell HB.out _).trans (List.getElem?_eq_getElem (by rw [cip_length, boxAt_length, backAt_length]; omega))⟩
          obtain ⟨u2, d2⟩ : ∃ u, wr.cell? ⟨g, 258 + (boxPart (inv x) 4).toNat, none⟩ = some u := ⟨_, (Blk.cell HB.out _).trans (List.getElem?_eq_getElem (by rw [cip_length, boxAt_length, backAt_length]; omega))⟩
          obtain ⟨y, hy⟩ : ∃ y, boxPart (inv x) 4 = y := ⟨_, rfl⟩
          rw [hy] at f2 ylt d2 ⊢
          have HY := Lib.hid hy
          clear hy
          go_wp2
          go_region
          go_wp2
          go_roundw
          case rel =>
            have hy : y = sbox x := by rw [← HY.out, boxPart_end]
            refine ⟨x.toNat + 1, by omega, by go_num, ?_, ?_⟩
            · have e1 := boxAt_step x.toNat xlt
              have e2 := backAt_step x.toNat xlt
              rw [UInt8.ofNat_toNat, ← hy] at e1 e2
              have h := (Blk.set_ HB.out (2 + x.toNat) (vb y)).set_ (258 + y.toNat) (vb x)
              rw [cip_set_box _ _ _ _ _ _ (by rw [boxAt_length]; exact xlt), e1, cip_set_back _ _ _ _ (boxAt_length _), e2] at h
              exact h
            · exact Gr.setCell (Gr.setCell (Gr.drewN hb.out _) _ _) _ _
          case measure => simp [intOf]; omega
    · obtain rfl : k = 256 := by omega
      go_wp2
      go_end0
      exact ⟨⟨_, rfl⟩, HB.out, hb.out⟩
end Lg
