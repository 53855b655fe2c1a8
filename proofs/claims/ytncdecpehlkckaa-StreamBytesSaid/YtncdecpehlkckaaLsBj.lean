/-
The statement StreamBytes: any bytes of any stream are those of the encrypted counters. No condition: every input.
-/
import Derived.Test.YtncdecpehlkckaaLwP
import Derived.Test.YtncdecpehlkckaaLsB
namespace Go.Proofs.Ytncdecpehlkckaa
open Go.ChangeShapes Go.WideShapes Go.ChangeAt Go.RowKit Lg

set_option maxRecDepth 100000 in
set_option maxHeartbeats 1000000 in
theorem streamBytes_lifted (os : Os) (started : os.Started) (H : Type) (enc : TypeId × Value → H) :
    ReturnsInHanded {} Try.checked os 6 .any (Rows.streamBytesSpec.pre6 enc Try.prog Try.f6 Rows.streamBytesRow.domain false) (Rows.streamBytesSpec.post enc Try.prog Try.f6 false true false false) := by
  refine returnsInHanded_of_change (C := Try.checked) try_own started (by kernel_rfl) Try.func6
    (ChangeSpec.witness6 (enc := enc) (C := Try.checked) false ⟨#[], #[.slice none 0 0, .slice none 0 0, .int .i64 0, .int .i64 0], []⟩ 8 (by kernel_rfl) (by kernel_rfl) (by kernel_rfl) (by kernel_rfl)) ?_
  intro W base args ds gs before hval0 hW _ _
  have hval : ∀ (j : Nat) t v, Try.f6.params[j]? = some t → args[j]? = some v → Value.okWide Try.prog W .any base t v := hval0
  have hW' := hW
  obtain ⟨p, q, hA0, hV, rfl, hfz, hnd⟩ := hW
  have hA : DataW.TrodAll enc Try.prog W 0 (fun _ => true) true Try.f6.params.toList args.toList ds p := hA0
  rw [Try.params6] at hA hval
  obtain ⟨v0, v1, v2, v3, d0, d1, d2, d3, p0, p1, p2, p3, rfl, rfl, rfl, h0, h1, h2, h3⟩ := trodAll_four hA
  obtain ⟨rfl, rfl⟩ := trodVars_none hV
  obtain ⟨A0, m0, c0, l0, rfl, s0⟩ := open_bytes (hval 0 _ v0 rfl rfl) h0
  obtain ⟨A1, m1, c1, l1, rfl, s1⟩ := open_bytes (hval 1 _ v1 rfl rfl) h1
  obtain ⟨z2, rfl, rfl, rfl, wz2⟩ := open_int Try.underlying3 (hval 2 _ v2 rfl rfl) h2
  obtain ⟨z3, rfl, rfl, rfl, wz3⟩ := open_int Try.underlying3 (hval 3 _ v3 rfl rfl) h3
  refine (streamBytesLaw_any A0 A1 m0 c0 m1 c1 z2 z3 l0 l1 W s0 s1 wz2 wz3).mono fun e W' ⟨he, hB⟩ => ?_
  subst he
  have hlt := hW'.lt
  refine ⟨_, rfl, _, _, _, [], _, [], hW', trodAll_mk1 (shut_bool Try.underlying4 true), trodAll_below try_laidOut hB ?_ hA0 ?_, rfl, hB.frame _, fun h => by cases h⟩
  · kernel_rfl
  · intro x hx
    have := hlt x (by simpa using hx)
    simpa using this

theorem streamBytes_holds : Rows.StreamBytesSaid :=
  OpenClaim.holds_of_wide 6 Try.f6 rfl rfl rfl rfl rfl rfl rfl ⟨rfl, rfl, rfl, rfl, rfl⟩ rfl rfl rfl rfl rfl (by kernel_rfl) Try.func6 (by kernel_rfl)
    (of_decide_eq_true (by kernel_rfl)) (by unfold Func.isWrapper; first | (rw [if_pos (by decide +kernel)]; kernel_rfl) | (rw [if_neg (by decide +kernel)]; exact ⟨rfl, rfl⟩))
    (fun os started H enc _ => streamBytes_lifted os started H enc)

#print axioms streamBytes_holds
end Go.Proofs.Ytncdecpehlkckaa
