/-
The statement StreamXors: bytes, added to the stream twice, are what they were; what is added once are they and the stream. No condition: every input.
-/
import Derived.Test.YtncdecpehlkckaaLwP
import Derived.Test.YtncdecpehlkckaaLsX
namespace Go.Proofs.Ytncdecpehlkckaa
open Go.ChangeShapes Go.WideShapes Go.ChangeAt Go.RowKit Lg

set_option maxRecDepth 100000 in
set_option maxHeartbeats 1000000 in
theorem streamXors_lifted (os : Os) (started : os.Started) (H : Type) (enc : TypeId × Value → H) :
    ReturnsInHanded {} Try.checked os 9 .any (Rows.streamXorsSpec.pre6 enc Try.prog Try.f9 Rows.streamXorsRow.domain false) (Rows.streamXorsSpec.post enc Try.prog Try.f9 false true false false) := by
  refine returnsInHanded_of_change (C := Try.checked) try_own started (by kernel_rfl) Try.func9
    (ChangeSpec.witness6 (enc := enc) (C := Try.checked) false ⟨#[], #[.slice none 0 0, .slice none 0 0, .slice none 0 0], []⟩ 8 (by kernel_rfl) (by kernel_rfl) (by kernel_rfl) (by kernel_rfl)) ?_
  intro W base args ds gs before hval0 hW _ _
  have hval : ∀ (j : Nat) t v, Try.f9.params[j]? = some t → args[j]? = some v → Value.okWide Try.prog W .any base t v := hval0
  have hW' := hW
  obtain ⟨p, q, hA0, hV, rfl, hfz, hnd⟩ := hW
  have hA : DataW.TrodAll enc Try.prog W 0 (fun _ => true) true Try.f9.params.toList args.toList ds p := hA0
  rw [Try.params9] at hA hval
  obtain ⟨v0, v1, v2, d0, d1, d2, p0, p1, p2, rfl, rfl, rfl, h0, h1, h2⟩ := trodAll_three hA
  obtain ⟨rfl, rfl⟩ := trodVars_none hV
  obtain ⟨A0, m0, c0, l0, rfl, s0⟩ := open_bytes (hval 0 _ v0 rfl rfl) h0
  obtain ⟨A1, m1, c1, l1, rfl, s1⟩ := open_bytes (hval 1 _ v1 rfl rfl) h1
  obtain ⟨A2, m2, c2, l2, rfl, s2⟩ := open_bytes (hval 2 _ v2 rfl rfl) h2
  refine (streamXors_any A0 A1 A2 m0 c0 m1 c1 m2 c2  l0 l1 l2 W s0 s1 s2 ).mono fun e W' ⟨he, hB⟩ => ?_
  subst he
  have hlt := hW'.lt
  refine ⟨_, rfl, _, _, _, [], _, [], hW', trodAll_mk1 (shut_bool Try.underlying4 true), trodAll_below try_laidOut hB ?_ hA0 ?_, rfl, hB.frame _, fun h => by cases h⟩
  · kernel_rfl
  · intro x hx
    have := hlt x (by simpa using hx)
    simpa using this

theorem streamXors_holds : Rows.StreamXorsSaid :=
  OpenClaim.holds_of_wide 9 Try.f9 rfl rfl rfl rfl rfl rfl rfl ⟨rfl, rfl, rfl, rfl, rfl⟩ rfl rfl rfl rfl rfl (by kernel_rfl) Try.func9 (by kernel_rfl)
    (of_decide_eq_true (by kernel_rfl)) (by unfold Func.isWrapper; first | (rw [if_pos (by decide +kernel)]; kernel_rfl) | (rw [if_neg (by decide +kernel)]; exact ⟨rfl, rfl⟩))
    (fun os started H enc _ => streamXors_lifted os started H enc)

#print axioms streamXors_holds
end Go.Proofs.Ytncdecpehlkckaa
