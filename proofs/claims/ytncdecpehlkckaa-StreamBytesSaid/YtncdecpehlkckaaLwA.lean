/-
The statements' own small functions of chapter 5: the chapter's example lives. No condition.
-/
import Derived.Test.YtncdecpehlkckaaFnT
import Derived.Test.YtncdecpehlkckaaFnO
import Derived.Test.YtncdecpehlkckaaFnP
import Derived.Test.YtncdecpehlkckaaFnR
import Derived.Test.YtncdecpehlkckaaAes2
import Derived.Deep.CutRange
import Derived.Deep.CutBlock
namespace Lg
open Go Go.RowKit Go.Proofs

/-- the first i of n bytes by f, the others nought -/
def fillTo (f : Nat → UInt8) (n i : Nat) : List UInt8 := (List.range n).map fun j => if j < i then f j else 0
theorem fillTo_length (f : Nat → UInt8) (n i : Nat) : (fillTo f n i).length = n := by simp [fillTo]
theorem fillTo_zero (f : Nat → UInt8) (n : Nat) : fillTo f n 0 = List.replicate n 0 := by
  apply List.ext_getElem? ; intro j
  simp [fillTo, List.getElem?_replicate]
  by_cases h : j < n <;> simp [h]
theorem fillTo_step (f : Nat → UInt8) (n i : Nat) : ((fillTo f n i).map vb).set i (vb (f i)) = (fillTo f n (i + 1)).map vb := by
  apply List.ext_getElem?; intro j
  simp only [fillTo, List.getElem?_set, List.getElem?_map, List.length_map, List.length_range]
  by_cases hj : i = j
  · subst hj
    by_cases h : i < n <;> simp [h]
  · rw [if_neg hj]
    by_cases h : j < n
    · simp [h]
      by_cases h2 : j < i
      · simp [h2, show j < i + 1 by omega]
      · simp [h2, show ¬ j < i + 1 by omega]
    · simp [h]
theorem fillTo_full (f : Nat → UInt8) (n : Nat) : fillTo f n n = (List.range n).map f := by
  apply List.map_congr_left; intro j hj
  simp [List.mem_range.1 hj]

def exKey : List UInt8 := [0,1,2,3,4,5,6,7,8,9,10,11,12,13,14,15]
def exBlock : List UInt8 := [0x00,0x11,0x22,0x33,0x44,0x55,0x66,0x77,0x88,0x99,0xaa,0xbb,0xcc,0xdd,0xee,0xff]
theorem ex_key : (List.range 16).map (fun i => UInt8.ofNat i) = exKey := by decide
theorem ex_block : (List.range 16).map (fun i => UInt8.ofNat (17 * i)) = exBlock := by decide
theorem ex_enc0 : (aesEnc exKey exBlock)[0]? = some 105 := by decide +kernel
theorem ex_enc1 : (aesEnc exKey exBlock)[1]? = some 196 := by decide +kernel

set_option maxRecDepth 10000 in
set_option maxHeartbeats 1000000 in
theorem lawLives05_any (w : World) :
    Calls Try.prog 15 #[] w fun e w' => e = .returned (.bool true) ∧ Below w.heap.size w w' := by
  obtain ⟨Z16, hZ16⟩ : ∃ Z, (List.replicate 16 (vb 0)).toArray = Z := ⟨_, rfl⟩
  have m16 : ∀ w : World, (Instr.makeSlice 22 (.int .i64 16) (.int .i64 16)).run Try.prog w = .ok (.slice (some ⟨w.heap.size, 0, none⟩) 16 16) (w.alloc (.cells Z16 5)) := by rw [← hZ16]; exact makeB 16 (by omega)
  have b16 : ∀ w : World, Blk (w.alloc (.cells Z16 5)) w.heap.size 5 ((List.replicate 16 (0 : UInt8)).map vb) := fun w => by
    rw [← hZ16]
    have h := Blk.new w 5 (List.replicate 16 (vb 0)).toArray
    simpa using h
  have B16 := Lib.hid b16
  clear hZ16 b16
  go_enter Try.func15, Try.ntmps15
  go_upto_region 1 with fail
  go_cut [1, 2] from 8 to 10 (fun s1 s2 wx => ∃ b1 b2, s1 = .slice (some ⟨b1, 0, none⟩) 16 16 ∧ s2 = .slice (some ⟨b2, 0, none⟩) 16 16 ∧ b1 ≠ b2 ∧ Hid (w.heap.size ≤ b1 ∧ w.heap.size ≤ b2 ∧ Blk wx b1 5 ((List.replicate 16 (0 : UInt8)).map vb) ∧ Blk wx b2 5 ((List.replicate 16 (0 : UInt8)).map vb) ∧ Below w.heap.size w wx))
  case first =>
    go_region
    all_goals go_wp2
    all_goals go_meet
    · exact ⟨_, _, rfl, rfl, by omega, Nat.le_refl _, by omega, (B16.out w).alloc _, by have h := B16.out (w.alloc (.cells Z16 5)); rw [show (w.alloc (.cells Z16 5)).heap.size = w.heap.size + 1 by simp] at h; exact h.drew, (((Below.refl _ _).alloc (Nat.le_refl _) _).alloc (by simp) _).drew⟩
    · exact ⟨_, _, rfl, rfl, by omega, by omega, Nat.le_refl _, by have h := B16.out (w.alloc (.cells Z16 5)); rw [show (w.alloc (.cells Z16 5)).heap.size = w.heap.size + 1 by simp] at h; exact h.drew, (B16.out w).alloc _, (((Below.refl _ _).alloc (Nat.le_refl _) _).alloc (by simp) _).drew⟩
  case rest =>
    obtain ⟨b1, b2, rfl, rfl, hne, hH⟩ := hcut
    clear B16 m16
    go_wp2
    go_loopw [12] (fun s12 wr => ∃ k : Nat, k ≤ 16 ∧ s12 = vi k ∧ Hid (Blk wr b1 5 ((fillTo (fun i => UInt8.ofNat i) 16 k).map vb) ∧ Blk wr b2 5 ((fillTo (fun i => UInt8.ofNat (17 * i)) 16 k).map vb) ∧ Below w.heap.size w wr)) (fun s12 _ => 16 - (intOf s12).toNat)
    case atStart => exact ⟨0, by omega, rfl, by rw [fillTo_zero, fillTo_zero]; exact ⟨hH.2.2.1, hH.2.2.2.1, hH.2.2.2.2⟩⟩
    case round =>
      obtain ⟨k, hk, rfl, H⟩ := hrel
      have HH := Lib.hid (show w.heap.size ≤ b1 ∧ w.heap.size ≤ b2 from ⟨hH.1, hH.2.1⟩)
      clear hH
      by_cases hlt : k < 16
      · have c1 : wr.cell? ⟨b1, k, none⟩ = some (vb ((fillTo (fun i => UInt8.ofNat i) 16 k).getD k 0)) := by
          rw [H.out.1.cell, List.getElem?_map, List.getD_eq_getElem?_getD, List.getElem?_eq_getElem (by rw [fillTo_length]; exact hlt)]; rfl
        have c2 : wr.cell? ⟨b2, k, none⟩ = some (vb ((fillTo (fun i => UInt8.ofNat (17 * i)) 16 k).getD k 0)) := by
          rw [H.out.2.1.cell, List.getElem?_map, List.getD_eq_getElem?_getD, List.getElem?_eq_getElem (by rw [fillTo_length]; exact hlt)]; rfl
        have z1 := H.out.1.frozen k
        have z2 := H.out.2.1.frozen k
        go_wp2
        have H1 := Lib.hid (((H.out.1.set_ k (vb (UInt8.ofNat k))).far (p := ⟨b2, k, none⟩) hne (vb (UInt8.ofNat (17 * k)))))
        have H2 := Lib.hid (((H.out.2.1.far (p := ⟨b1, k, none⟩) (Ne.symm hne) (vb (UInt8.ofNat k))).set_ k (vb (UInt8.ofNat (17 * k)))))
        have H3 := Lib.hid ((H.out.2.2.setCell (p := ⟨b1, k, none⟩) HH.out.1 (vb (UInt8.ofNat k))).setCell (p := ⟨b2, k, none⟩) HH.out.2 (vb (UInt8.ofNat (17 * k))))
        have e1 : Value.int .u8 (k : Int) = vb (UInt8.ofNat k) := by go_num
        have e2 : Value.int .u8 (17 * (k : Int)) = vb (UInt8.ofNat (17 * k)) := by go_num
        refine ⟨⟨k + 1, by omega, by go_num, ?_, ?_, ?_⟩, by simp [intOf]; omega⟩
        · rw [← fillTo_step, e1, e2]; exact H1.out
        · rw [← fillTo_step, e1, e2]; exact H2.out
        · rw [e1, e2]; exact H3.out
      · obtain rfl : k = 16 := by omega
        rw [fillTo_full, fillTo_full, ex_key, ex_block] at H
        have S1 := Lib.hid (show Sl wr (some ⟨b1, 0, none⟩) 16 16 (exKey.map vb) from (Blk.own H.out.1 (Nat.le_refl _) (by decide)).sl)
        have S2 := Lib.hid (show Sl wr (some ⟨b2, 0, none⟩) 16 16 (exBlock.map vb) from (Blk.own H.out.2.1 (Nat.le_refl _) (by decide)).sl)
        go_wp2_with (first
        | (go_at_call 18; refine (fieldNew_any wr).mono ?_; rintro e w1 ⟨f, rfl, hf1, hf2, hf3⟩)
        | (go_at_call 17; refine (New16 f _ 16 exKey w1 hf2 (S1.out.below hf3)).mono ?_; rintro e w2 ⟨g, rfl, hg1, hg2, hg3⟩; have hB2 := below_then hf3 hg3 hf3.size)
        | (go_at_call 19; refine (Encrypt_any g exKey 4 (by omega) (by rfl) _ 16 exBlock w2 hg2 (S2.out.below hB2)).mono ?_; rintro e w3 ⟨A3, c3, rfl, ho3, hb3⟩; obtain ⟨g3, o3, rfl, h31, h32⟩ := ho3.sl.place (by omega); have hB3 := below_then hB2 hb3 hB2.size; have x0 : w3.cell? ⟨g3, o3, none⟩ = some (.int .u8 105) := h32 0 _ (by rw [List.getElem?_map, ex_enc0]; rfl); have x1 : w3.cell? ⟨g3, o3 + 1, none⟩ = some (.int .u8 196) := h32 1 _ (by rw [List.getElem?_map, ex_enc1]; rfl); clear h32))
        go_ret
        exact ⟨rfl, below_then H.out.2.2 hB3 H.out.2.2.size⟩
end Lg
