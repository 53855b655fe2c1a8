/-
What the joins of the statements share: a slice of bytes that came in is a list of bytes; arguments that lie below read as they did. No condition.
-/
import Derived.Test.YtncdecpehlkckaaMem
import Derived.Test.YtncdecpehlkckaaRows
import Derived.Test.YtncdecpehlkckaaChecked
import Derived.ProofKit
import Derived.Carry
namespace Lg
open Go Go.RowKit Go.Proofs Go.ChangeShapes Go.WideShapes Go.ChangeAt

theorem try_own : ownKnob Try.prog.godebug = none := by kernel_rfl
theorem try_laidOut : laidOutB Try.prog = true := by kernel_rfl

theorem wf_u8 {z : Int} (h : (Lit.int .u8 z).wf = true) : 0 ≤ z ∧ z < 256 := by
  have : IntKind.u8.min ≤ z ∧ z ≤ IntKind.u8.max := by simpa [Lit.wf] using h
  have e1 : IntKind.u8.min = 0 := by decide
  have e2 : IntKind.u8.max = 255 := by decide
  omega

/-- arguments that lie below read as they did -/
theorem trodAll_below {P : Program} {H : Type} {enc : TypeId × Value → H} {W W' : World} (hl : laidOutB P = true) (hb : Below W.heap.size W W') : ∀ {ts : List TypeId} {vs : List Value} {ds : List (DataW H)} {ps : List MemPlace}, (ts.all fun t => P.readableRec t && decide (t < P.types.size)) = true →
    DataW.TrodAll enc P W 0 (fun _ => true) true ts vs ds ps → (∀ x ∈ ps, x.block < W.heap.size) → DataW.TrodAll enc P W' 0 (fun b => decide (b < W.heap.size)) true ts vs ds ps
  | [], [], [], _, _, h, _ => h
  | t :: ts, v :: vs, d :: ds, ps, ha, h, hlt => by
    obtain ⟨p, q, h1, h2, rfl⟩ := h
    rw [List.all_cons, Bool.and_eq_true, Bool.and_eq_true, decide_eq_true_eq] at ha
    exact ⟨p, q, Below.trod hl ha.1.1 ha.1.2 h1 hb (fun x hx => hlt x (List.mem_append_left _ hx)), trodAll_below hl hb ha.2 h2 (fun x hx => hlt x (List.mem_append_right _ hx)), rfl⟩

section
variable {H : Type} {enc : TypeId × Value → H} {W : World}

set_option maxRecDepth 100000 in
/-- a slice of bytes that came in -/
theorem open_bytes {r : Reach} {b0 : Nat} {v : Value} {d : DataW H} {ps : List MemPlace} (hval : Value.okWide Try.prog W r b0 22 v) (h : DataW.Trod enc Try.prog W 0 (fun _ => true) true 22 v d ps) :
    ∃ (A : Option Addr) (n c : Nat) (l : List UInt8), v = .slice A n c ∧ Sl W A n c (l.map vb) := by
  obtain ⟨a0, n0, c0, rfl⟩ := okWide_slice Try.underlying22 hval
  obtain ⟨fuel, h⟩ := h
  rcases open_ints Try.underlying22 Try.underlying5 (by kernel_rfl) h with ⟨hc, _⟩ | ⟨a, len, cap, zs, hc, _, hle, hcap, hzs, _, hcell, hwf⟩
  · simp [Value.cells] at hc
    obtain ⟨rfl, rfl, rfl⟩ := hc
    exact ⟨none, 0, 0, [], rfl, Sl.nil W⟩
  · simp [Value.cells] at hc
    obtain ⟨rfl, rfl, rfl⟩ := hc
    refine ⟨some a, n0, c0, (zs.take n0).map (fun z => UInt8.ofNat z.toNat), rfl, ?_⟩
    rw [if_pos rfl] at hzs
    refine ⟨by simp; omega, hle, hcap, fun hn => ⟨a, rfl, ?_, fun j u hu => ?_⟩⟩
    · have hc0 := hcell 0 (by omega)
      unfold World.cell? at hc0
      rw [block_add] at hc0
      cases hh : W.heap[a.block]? with
      | none => rw [hh] at hc0; simp at hc0
      | some o => exact lt_of_heap hh
    · rw [List.map_map, List.getElem?_map, List.getElem?_take] at hu
      by_cases hj : j < n0
      · rw [if_pos hj] at hu
        have hjz : j < zs.length := by omega
        rw [List.getElem?_eq_getElem hjz] at hu
        have hw := wf_u8 (hwf zs[j] (List.getElem_mem hjz))
        have hc0 := hcell j (by omega)
        rw [List.getD_eq_getElem?_getD, List.getElem?_eq_getElem hjz] at hc0
        rw [hc0]
        simp only [Option.map_some, Function.comp, Option.some.injEq] at hu
        rw [← hu]
        simp only [Option.getD_some, Option.some.injEq, Value.int.injEq, true_and]
        rw [UInt8.toNat_ofNat']
        omega
      · rw [if_neg hj] at hu; simp at hu

end
end Lg
