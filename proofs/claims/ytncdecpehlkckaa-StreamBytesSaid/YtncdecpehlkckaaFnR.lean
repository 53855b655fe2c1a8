/-
The statements' own small functions of chapter 5: a key made of any bytes. Bounds: fewer than 2^40 bytes.
-/
import Derived.Test.YtncdecpehlkckaaFnQ
namespace Lg
open Go Go.RowKit Go.Proofs

/-- n bytes, made of any -/
def padTo (n : Nat) (l : List UInt8) : List UInt8 := l.take n ++ (List.replicate n (0 : UInt8)).drop l.length
theorem padTo_length (n : Nat) (l : List UInt8) : (padTo n l).length = n := by simp [padTo]; omega

set_option maxRecDepth 10000 in
set_option maxHeartbeats 400000 in
theorem lawKey_any (A : Option Addr) (m c : Nat) (l : List UInt8) (long : Bool) (w : World) (hs : Sl w A m c (l.map vb)) :
    Calls Try.prog 16 #[.slice A m c, .bool long] w fun e w' => e = .returned (.slice (some ⟨w.heap.size, 0, none⟩) (if long then 32 else 16) (if long then 32 else 16)) ∧
      Blk w' w.heap.size 5 ((padTo (if long then 32 else 16) l).map vb) ∧ Below w.heap.size w w' := by
  have hl : l.length = m := by simpa using hs.len
  have HS := Lib.hid hs
  have HL := Lib.hid hl
  obtain ⟨Z16, hZ16⟩ : ∃ Z, (List.replicate 16 (vb 0)).toArray = Z := ⟨_, rfl⟩
  have m16 : ∀ w : World, (Instr.makeSlice 22 (.int .i64 16) (.int .i64 16)).run Try.prog w = .ok (.slice (some ⟨w.heap.size, 0, none⟩) 16 16) (w.alloc (.cells Z16 5)) := by rw [← hZ16]; exact makeB 16 (by omega)
  have b16 := Lib.hid (show Blk (w.alloc (.cells Z16 5)) w.heap.size 5 ((List.replicate 16 (0 : UInt8)).map vb) by
    rw [← hZ16]
    have h := Blk.new w 5 (List.replicate 16 (vb 0)).toArray
    simpa using h)
  clear hZ16
  obtain ⟨Z32, hZ32⟩ : ∃ Z, (List.replicate 32 (vb 0)).toArray = Z := ⟨_, rfl⟩
  have m32 : ∀ w : World, (Instr.makeSlice 22 (.int .i64 32) (.int .i64 32)).run Try.prog w = .ok (.slice (some ⟨w.heap.size, 0, none⟩) 32 32) (w.alloc (.cells Z32 5)) := by rw [← hZ32]; exact makeB 32 (by omega)
  have b32 := Lib.hid (show Blk (w.alloc (.cells Z32 5)) w.heap.size 5 ((List.replicate 32 (0 : UInt8)).map vb) by
    rw [← hZ32]
    have h := Blk.new w 5 (List.replicate 32 (vb 0)).toArray
    simpa using h)
  clear hZ32
  clear hs hl
  cases long with
  | false =>
    go_enter Try.func16, Try.ntmps16
    go_wp2_with (with_reducible refine wpList_copyB rfl (.tmp 10) (.tmp 11) rfl w.heap.size 5 (List.replicate 16 0) l 16 16 A m c rfl rfl b16.out rfl (HS.out.alloc _) ?_; intro w2 h1 h2)
    go_ret
    refine ⟨rfl, ?_, fresh_row h2⟩
    rw [← HL.out] at h1
    exact h1
  | true =>
    go_enter Try.func16, Try.ntmps16
    go_wp2_with (with_reducible refine wpList_copyB rfl (.tmp 10) (.tmp 11) rfl w.heap.size 5 (List.replicate 32 0) l 32 32 A m c rfl rfl b32.out rfl (HS.out.alloc _) ?_; intro w2 h1 h2)
    go_ret
    refine ⟨rfl, ?_, fresh_row h2⟩
    rw [← HL.out] at h1
    exact h1
end Lg
