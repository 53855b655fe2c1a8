/-
The small functions of the package cipher: bytes through a box, the tables, a square's methods. No condition.
-/
import Derived.Test.YtncdecpehlkckaaFnH
import Derived.Laws.CopyRow
import Derived.Laws.IdiomCopy
import Derived.Deep.RegionLaw
import Derived.Deep.RegionHeld3
namespace Lg
open Go Go.RowKit Go.Proofs

theorem Ow.at_ {w : World} {B n c : Nat} {E : TypeId} {A : Option Addr} {xs : List Value} (h : Ow w B E A n c xs) (hn : 0 < n) :
    ∃ g off, A = some ⟨g, off, none⟩ ∧ B ≤ g ∧ g < w.heap.size ∧ rowOf A c = some g ∧ (∀ i u, xs[i]? = some u → w.cell? ⟨g, off + i, none⟩ = some u) ∧ ∀ i, w.frozen? ⟨g, i, none⟩ = false := by
  have hc := h.le
  rcases h.room with h0 | ⟨g, off, cs, rfl, hB, hg, hf, hx⟩
  · omega
  · refine ⟨g, off, rfl, hB, lt_of_heap hg, ?_, fun i u hu => ?_, fun i => ?_⟩
    · have : c ≠ 0 := by omega
      simp [rowOf, this]
    · simp [World.cell?, hg, hx i u hu]
    · simp [World.frozen?, hg]

/-- a table of bytes lies at this place -/
def Tab (w : World) (g off : Nat) (T : UInt8 → UInt8) : Prop := g < w.heap.size ∧ ∀ x : UInt8, w.cell? ⟨g, off + x.toNat, none⟩ = some (vb (T x))
theorem Tab.below {w w' : World} {g off B : Nat} {T : UInt8 → UInt8} (h : Tab w g off T) (hb : Below B w w') (hg : g < B) : Tab w' g off T :=
  ⟨by have := hb.size; have := h.1; omega, fun x => (World.cell?_of_block (w := w) (hb.block _ hg)).trans (h.2 x)⟩

set_option maxRecDepth 10000 in
set_option maxHeartbeats 400000 in
theorem through_any (g off : Nat) (T : UInt8 → UInt8) (A : Option Addr) (n c : Nat) (l : List UInt8) (w : World) (hT : Tab w g off T) (hs : Sl w A n c (l.map vb)) (hn : n ≤ 1099511627776) :
    Calls Try.prog 51 #[.pointer (some ⟨g, off, none⟩), .slice A n c] w fun e w' => ∃ A' c', e = .returned (.slice A' n c') ∧ Ow w' w.heap.size 5 A' n c' ((l.map T).map vb) ∧ Below w.heap.size w w' := by
  have hl : l.length = n := by simpa using hs.len
  have HL := Lib.hid hl
  have HS := Lib.hid hs
  have HT := Lib.hid hT
  clear hl hs hT
  go_enter Try.func51, Try.ntmps51
  go_wp2_with (go_at_call 50; refine (Clone_any A n c l w HS.out hn).mono ?_; rintro e w1 ⟨A1, c1, rfl, ho1, hb1⟩)
  have HO := Lib.hid ho1
  clear ho1
  go_loopw [12] (fun s12 wr => ∃ k : Nat, k ≤ n ∧ s12 = vi k ∧ Hid (Ow wr w.heap.size 5 A1 n c1 ((upto (l.map T) l k).map vb)) ∧ Below w.heap.size w wr) (fun s12 _ => n - (intOf s12).toNat)
  case atStart => exact ⟨0, by omega, rfl, by rw [upto_zero]; exact HO, hb1⟩
  case round =>
    obtain ⟨k, hk, rfl, HB, hb⟩ := hrel
    by_cases hlt : k < n
    · obtain ⟨ad1, x, rfl, hx, cx⟩ := (HS.out.belowB hb).byte (k := k) (by omega)
      obtain ⟨g1, o1, hA1, hg1, hg2, hrow, hcell, hfr⟩ := HB.out.at_ (by omega)
      subst hA1
      have f1 := hfr (o1 + k)
      obtain ⟨u1, hu1⟩ : ∃ u, ((upto (l.map T) l k).map vb)[k]? = some u := ⟨_, List.getElem?_eq_getElem (by have := HB.out.len; omega)⟩
      have d1 := hcell k _ hu1
      have ct := (HT.out.below hb HT.out.1).2 x
      have HX : Hid ((l.map T)[k]? = some (T x)) := by show _ = _; rw [List.getElem?_map, hx]; rfl
      have HG := Lib.hid hg1
      have xlt := x.toNat_lt
      clear hcell hfr hu1 hx hrow hg2 hg1 HO
      go_wp2
      go_roundw
      case rel =>
        refine ⟨k + 1, by omega, by go_num, ?_, hb.setCell (p := ⟨g1, o1 + k, none⟩) HG.out _⟩
        have h := HB.out.set_ (i := k) hlt (vb (T x))
        rw [map_set, upto_step (by rw [List.length_map]) HX.out] at h
        exact h
      case measure => simp [intOf]; omega
    · obtain rfl : k = n := by omega
      go_wp2
      go_ret
      have h := HB.out
      have e : k = (l.map T).length := by rw [List.length_map]; exact HL.out.symm
      refine ⟨A1, c1, rfl, ?_, hb⟩
      rw [show upto (l.map T) l k = l.map T by rw [e]; exact upto_end (by rw [List.length_map])] at h
      exact h

/-- A block of sixteen bytes. -/
def Sq (w : World) (g : Nat) (l : List UInt8) : Prop := l.length = 16 ∧ Blk w g 84 (l.map vb)

theorem infoB1 : (Try.prog.info? 5).map (·.size) = some 1 := by kernel_rfl

/-- copy(d, s), d all of a block -/
theorem run_copyB (w : World) (ty g : Nat) (t : TypeId) (cur ys : List UInt8) (n dc : Nat) (hg : Blk w g t (cur.map vb)) (hn : cur.length = n) (A : Option Addr) (m c : Nat) (hs : Sl w A m c (ys.map vb)) :
    ∃ w', (Builtin.copy_ #[22, 22] ty #[.slice (some ⟨g, 0, none⟩) n dc, .slice A m c]).run Try.prog w = .ok (vi (min m n : Nat)) w' ∧ Blk w' g t ((ys.take n ++ cur.drop m).map vb) ∧ w.grownBy w' (some g) := by
  have hl : ys.length = m := by simpa using hs.len
  by_cases h0 : Nat.min m n = 0
  · refine ⟨w, ?_, ?_, ⟨rfl, rfl, rfl, Nat.le_refl _, fun _ _ _ => rfl⟩⟩
    · rw [run_copy_none w 22 22 ty 5 _ _ n dc m c Try.underlying22 infoB1 h0]
      have : (min m n) = 0 := h0
      rw [this]; rfl
    · have : m = 0 ∨ n = 0 := by have : min m n = 0 := h0; omega
      rcases this with h | h
      · have : ys = [] := List.eq_nil_of_length_eq_zero (by omega)
        subst this; rw [h]; simpa using hg
      · have : cur = [] := List.eq_nil_of_length_eq_zero (by omega)
        subst this; rw [h]; simpa using hg
  · have hmn : 0 < min m n := Nat.pos_of_ne_zero h0
    obtain ⟨ad, rfl, _, hc⟩ := hs.at_ (by omega)
    have hlen : ((ys.take n).map vb).length = Nat.min m n := by rw [List.length_map, List.length_take, hl]; exact Nat.min_comm _ _
    have hrun := run_copy_row (P := Try.prog) w 22 22 ty 5 g 0 n dc ad m c (cur.map vb).toArray t ((ys.take n).map vb) Try.underlying22 infoB1 hg hlen
      (fun j v hv => hc j v (by
        rw [List.getElem?_map, List.getElem?_take] at hv
        rw [List.getElem?_map]
        split at hv
        · exact hv
        · cases hv))
      (by simp [hn]; omega) (fun v hv => by obtain ⟨b, _, rfl⟩ := List.mem_map.1 hv; rfl)
    rw [hlen] at hrun
    refine ⟨_, hrun, ?_, ⟨rfl, rfl, rfl, by simp, fun k hk hne => setRow_other w g k _ (fun e => hne (by rw [e]))⟩⟩
    · unfold Blk
      rw [setRow_heap w g _ _ t _ hg]
      have e : List.take 0 (List.map vb cur).toArray.toList ++ List.map vb (List.take n ys) ++ List.drop (0 + Nat.min m n) (List.map vb cur).toArray.toList = (ys.take n ++ cur.drop m).map vb := by
        simp only [List.take_zero, List.nil_append, Nat.zero_add]
        rw [List.map_append, ← List.map_drop]
        have e1 : Nat.min m n = min m n := rfl
        by_cases hle : m ≤ n
        · rw [e1, Nat.min_eq_left hle]
        · rw [e1, Nat.min_eq_right (by omega), List.drop_eq_nil_of_le (by omega : cur.length ≤ n), List.drop_eq_nil_of_le (by omega : cur.length ≤ m)]
      rw [e]

theorem step_copyB {ops : Array Oper} {o : Oper} {a : Act} {w : World} {K : Act → World → Prop} {Q : Exit → Act → World → Prop} {E : Prop} (hgd : o.guard = none) (d s : Operand)
    (ho : o.op = .call { callee := .builtin .copy, args := #[d, s], argTypes := #[22, 22] }) (g : Nat) (t : TypeId) (cur ys : List UInt8) (n dc : Nat) (A : Option Addr) (m c : Nat)
    (hd : a.eval d = .slice (some ⟨g, 0, none⟩) n dc) (hs : a.eval s = .slice A m c) (hg : Blk w g t (cur.map vb)) (hn : cur.length = n) (hsl : Sl w A m c (ys.map vb))
    (h : ∀ w', Blk w' g t ((ys.take n ++ cur.drop m).map vb) → w.grownBy w' (some g) → K (a.put o.dst (vi (min m n : Nat))) w') :
    if Region.wanted o (yielded ops a.tmps) = true then Oper.wp Try.prog o a w K Q else E := by
  have hw : Region.wanted o (yielded ops a.tmps) = true := by simp [Region.wanted, hgd]
  rw [if_pos hw]
  obtain ⟨w', hrun, h1, h2⟩ := run_copyB w o.type g t cur ys n dc hg hn A m c hsl
  unfold Oper.wp
  simp [execOp, ho, resolve, invoke, builtin, hd, hs, hrun, Result.andThen]
  exact h _ h1 h2

theorem wpList_copyB {ops : Array Oper} {rest : List Oper} {o : Oper} {a : Act} {w : World} {Q : Exit → Act → World → Prop} (hgd : o.guard = none) (d s : Operand)
    (ho : o.op = .call { callee := .builtin .copy, args := #[d, s], argTypes := #[22, 22] }) (g : Nat) (t : TypeId) (cur ys : List UInt8) (n dc : Nat) (A : Option Addr) (m c : Nat)
    (hd : a.eval d = .slice (some ⟨g, 0, none⟩) n dc) (hs : a.eval s = .slice A m c) (hg : Blk w g t (cur.map vb)) (hn : cur.length = n) (hsl : Sl w A m c (ys.map vb))
    (h : ∀ w', Blk w' g t ((ys.take n ++ cur.drop m).map vb) → w.grownBy w' (some g) → wpList Try.prog ops Q rest (a.put o.dst (vi (min m n : Nat))) w') : wpList Try.prog ops Q (o :: rest) a w := by
  refine wpList_plain hgd fun K hK => ?_
  obtain ⟨w', hrun, h1, h2⟩ := run_copyB w o.type g t cur ys n dc hg hn A m c hsl
  unfold Oper.wp
  simp [execOp, ho, resolve, invoke, builtin, hd, hs, hrun, Result.andThen]
  exact hK _ _ (h _ h1 h2)

theorem Sq.sl {w : World} {s : Nat} {l : List UInt8} (hS : Sq w s l) : Sl w (some ⟨s, 0, none⟩) 16 16 (l.map vb) := by
  have h := hS.2.own (B := 0) (Nat.zero_le _) (by simp [hS.1, maxLen])
  rw [List.length_map, hS.1] at h
  exact h.sl
theorem from_drew {w w' : World} (h : Below w.drew.heap.size w.drew w') : Below w.heap.size w w' := ((Below.refl w.heap.size w).drew).trans h
theorem grown_below {w w' w'' : World} {r : Option Nat} (h1 : Below w.heap.size w w') (h2 : w'.grownBy w'' r) (_ : True) : w.grownBy w'' r :=
  ⟨h2.os.trans h1.os, h2.tape.trans h1.tape, h2.output.trans h1.output, Nat.le_trans h1.size h2.size, fun k hk hne => (h2.block k (by have := h1.size; omega) hne).trans (h1.block k hk)⟩

set_option maxRecDepth 10000 in
set_option maxHeartbeats 400000 in
theorem sqBox_any (s g off : Nat) (T : UInt8 → UInt8) (l : List UInt8) (w : World) (hS : Sq w s l) (hT : Tab w g off T) :
    Calls Try.prog 58 #[.pointer (some ⟨s, 0, none⟩), .pointer (some ⟨g, off, none⟩)] w fun e w' => (∃ v, e = .returned v) ∧ Sq w' s (l.map T) ∧ w.grownBy w' (some s) := by
  have HS := Lib.hid (show Sq w.drew s l from hS)
  have Hs := Lib.hid (Sq.sl (w := w.drew) hS)
  have HT := Lib.hid (show Tab w.drew g off T from hT)
  clear hS hT
  go_enter Try.func58, Try.ntmps58
  go_region_held3 (fun _ => True) (trivial) (first | (go_at_call 51; refine (through_any g off T _ 16 16 l _ HT.out Hs.out (by omega)).mono ?_; rintro e w1 ⟨A1, c1, rfl, ho1, hb1⟩) | (refine step_copyB rfl (.tmp 6) (.tmp 11) rfl s 84 l (l.map T) 16 16 A1 16 c1 rfl rfl (HS.out.2.below hb1 HS.out.2.lt) HS.out.1 ho1.sl ?_; intro w2 h1 h2))
  go_wp2
  go_end0
  refine ⟨⟨_, rfl⟩, ⟨by rw [List.length_map]; exact HS.out.1, ?_⟩, grown_below (from_drew hb1) h2 trivial⟩
  rw [List.take_of_length_le (by rw [List.length_map, HS.out.1]; omega), List.drop_eq_nil_of_le (by rw [HS.out.1]; omega), List.append_nil] at h1
  exact h1
end Lg
