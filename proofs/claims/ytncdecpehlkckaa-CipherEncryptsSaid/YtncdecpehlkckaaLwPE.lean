/-
The statement CipherEncrypts: any block under any key is the standard's, and is decrypted to what it was. No condition: every input.
-/
import Derived.Test.YtncdecpehlkckaaLwP
import Derived.Test.YtncdecpehlkckaaLwE
namespace Go.Proofs.Ytncdecpehlkckaa
open Go.ChangeShapes Go.WideShapes Go.ChangeAt Go.RowKit Lg

set_option maxRecDepth 100000 in
set_option maxHeartbeats 1000000 in
theorem cipherEncrypts_lifted (os : Os) (started : os.Started) (H : Type) (enc : TypeId × Value → H) :
    ReturnsInHanded {} Try.checked os 3 .any (Rows.cipherEncryptsSpec.pre6 enc Try.prog Try.f3 Rows.cipherEncryptsRow.domain false) (Rows.cipherEncryptsSpec.post enc Try.prog Try.f3 false true false false) := by
  refine returnsInHanded_of_change (C := Try.checked) try_own started (by kernel_rfl) Try.func3
    (ChangeSpec.witness6 (enc := enc) (C := Try.checked) false ⟨#[], #[.slice none 0 0, .bool false, .slice none 0 0], []⟩ 8 (by kernel_rfl) (by kernel_rfl) (by kernel_rfl) (by kernel_rfl)) ?_
  intro W base args ds gs before hval0 hW _ _
  have hval : ∀ (j : Nat) t v, Try.f3.params[j]? = some t → args[j]? = some v → Value.okWide Try.prog W .any base t v := hval0
  have hW' := hW
  obtain ⟨p, q, hA0, hV, rfl, hfz, hnd⟩ := hW
  have hA : DataW.TrodAll enc Try.prog W 0 (fun _ => true) true Try.f3.params.toList args.toList ds p := hA0
  rw [Try.params3] at hA hval
  obtain ⟨v0, v1, v2, d0, d1, d2, p0, p1, p2, rfl, rfl, rfl, h0, h1, h2⟩ := trodAll_three hA
  obtain ⟨rfl, rfl⟩ := trodVars_none hV
  obtain ⟨A0, m0, c0, l0, rfl, s0⟩ := open_bytes (hval 0 _ v0 rfl rfl) h0
  obtain ⟨z1, rfl, rfl, rfl⟩ := open_bool Try.underlying4 (hval 1 _ v1 rfl rfl) h1
  obtain ⟨A2, m2, c2, l2, rfl, s2⟩ := open_bytes (hval 2 _ v2 rfl rfl) h2
  refine (cipherEncrypts_any A0 A2 m0 c0 m2 c2 z1 l0 l2 W s0 s2 ).mono fun e W' ⟨he, hB⟩ => ?_
  subst he
  have hlt := hW'.lt
  refine ⟨_, rfl, _, _, _, [], _, [], hW', trodAll_mk1 (shut_bool Try.underlying4 true), trodAll_below try_laidOut hB ?_ hA0 ?_, rfl, hB.frame _, fun h => by cases h⟩
  · kernel_rfl
  · intro x hx
    have := hlt x (by simpa using hx)
    simpa using this

theorem cipherEncrypts_holds : Rows.CipherEncryptsSaid :=
  OpenClaim.holds_of_wide 3 Try.f3 rfl rfl rfl rfl rfl rfl rfl ⟨rfl, rfl, rfl, rfl, rfl⟩ rfl rfl rfl rfl rfl (by kernel_rfl) Try.func3 (by kernel_rfl)
    (of_decide_eq_true (by kernel_rfl)) (by unfold Func.isWrapper; first | (rw [if_pos (by decide +kernel)]; kernel_rfl) | (rw [if_neg (by decide +kernel)]; exact ⟨rfl, rfl⟩))
    (fun os started H enc _ => cipherEncrypts_lifted os started H enc)

#print axioms cipherEncrypts_holds
end Go.Proofs.Ytncdecpehlkckaa
