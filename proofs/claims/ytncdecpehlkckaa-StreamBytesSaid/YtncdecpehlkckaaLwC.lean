/-
What the cipher refuses: a nil field, a nil cipher, keys and blocks of other lengths. No condition.
-/
import Derived.Test.YtncdecpehlkckaaLwB
namespace Lg
open Go Go.RowKit Go.Proofs

set_option maxRecDepth 10000 in
theorem New_form (f : Nat) (A : Option Addr) (n c : Nat) (w : World) (h1 : n ≠ 16) (h2 : n ≠ 32) :
    Calls Try.prog 17 #[.pointer (some ⟨f, 0, none⟩), .slice A n c] w fun e w' => e = .returned (.tuple #[.pointer none, vi 3]) ∧ Below w.heap.size w w' := by
  have b1 : ((n : Int) != 16) = true := by simp; omega
  have b2 : ((n : Int) != 32) = true := by simp; omega
  refine calls_of_marks Try.func17 rfl ?_
  simp only [Try.ntmps17, List.size_toArray, List.length_cons, List.length_nil, Nat.reduceAdd, Nat.reduceSub, Array.replicate_succ, Array.replicate_zero, List.push_toArray, List.append_toArray, List.nil_append, List.cons_append]
  go_wp2
  refine postM_ret (w' := w) rfl (results_tmp2 rfl _ _ _) ?_
  exact ⟨rfl, Below.refl _ _⟩
set_option maxRecDepth 10000 in
theorem New_nil (A : Option Addr) (n c : Nat) (w : World) :
    Calls Try.prog 17 #[.pointer none, .slice A n c] w fun e w' => e = .returned (.tuple #[.pointer none, vi 1]) ∧ Below w.heap.size w w' := by
  refine calls_of_marks Try.func17 rfl ?_
  simp only [Try.ntmps17, List.size_toArray, List.length_cons, List.length_nil, Nat.reduceAdd, Nat.reduceSub, Array.replicate_succ, Array.replicate_zero, List.push_toArray, List.append_toArray, List.nil_append, List.cons_append]
  go_wp2
  refine postM_ret (w' := w) rfl (results_tmp2 rfl _ _ _) ?_
  exact ⟨rfl, Below.refl _ _⟩
set_option maxRecDepth 10000 in
theorem Encrypt_form (g : Nat) (A : Option Addr) (n c : Nat) (w : World) (h1 : n ≠ 16) :
    Calls Try.prog 19 #[.pointer (some ⟨g, 0, none⟩), .slice A n c] w fun e w' => e = .returned (.tuple #[.slice none 0 0, vi 3]) ∧ Below w.heap.size w w' := by
  have b1 : ((n : Int) != 16) = true := by simp; omega
  go_enter Try.func19, Try.ntmps19
  go_wp2
  go_ret2
  exact ⟨rfl, Below.refl _ _⟩
set_option maxRecDepth 10000 in
theorem Encrypt_nil (A : Option Addr) (n c : Nat) (w : World) :
    Calls Try.prog 19 #[.pointer none, .slice A n c] w fun e w' => e = .returned (.tuple #[.slice none 0 0, vi 1]) ∧ Below w.heap.size w w' := by
  go_enter Try.func19, Try.ntmps19
  go_wp2
  go_ret2
  exact ⟨rfl, Below.refl _ _⟩
set_option maxRecDepth 10000 in
theorem Decrypt_form (g : Nat) (A : Option Addr) (n c : Nat) (w : World) (h1 : n ≠ 16) :
    Calls Try.prog 20 #[.pointer (some ⟨g, 0, none⟩), .slice A n c] w fun e w' => e = .returned (.tuple #[.slice none 0 0, vi 3]) ∧ Below w.heap.size w w' := by
  have b1 : ((n : Int) != 16) = true := by simp; omega
  refine calls_of_marks Try.func20 rfl ?_
  simp only [Try.ntmps20, List.size_toArray, List.length_cons, List.length_nil, Nat.reduceAdd, Nat.reduceSub, Array.replicate_succ, Array.replicate_zero, List.push_toArray, List.append_toArray, List.nil_append, List.cons_append]
  go_wp2
  refine postM_ret (w' := (w.alloc (.cells #[.pointer (some ⟨g, 0, none⟩)] 25))) rfl (results_tmp2 rfl _ _ _) ?_
  exact ⟨rfl, (Below.refl _ _).alloc (Nat.le_refl _) _⟩
set_option maxRecDepth 10000 in
theorem Decrypt_nil (A : Option Addr) (n c : Nat) (w : World) :
    Calls Try.prog 20 #[.pointer none, .slice A n c] w fun e w' => e = .returned (.tuple #[.slice none 0 0, vi 1]) ∧ Below w.heap.size w w' := by
  refine calls_of_marks Try.func20 rfl ?_
  simp only [Try.ntmps20, List.size_toArray, List.length_cons, List.length_nil, Nat.reduceAdd, Nat.reduceSub, Array.replicate_succ, Array.replicate_zero, List.push_toArray, List.append_toArray, List.nil_append, List.cons_append]
  go_wp2
  refine postM_ret (w' := (w.alloc (.cells #[.pointer none] 25))) rfl (results_tmp2 rfl _ _ _) ?_
  exact ⟨rfl, (Below.refl _ _).alloc (Nat.le_refl _) _⟩
end Lg
