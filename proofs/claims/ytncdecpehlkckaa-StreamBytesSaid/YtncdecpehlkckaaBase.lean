/-
What the program's tables say of its types, and the laws on memory at those types: bytes, rows of bytes. No condition.
-/
import Derived.Test.YtncdecpehlkckaaProg
import Derived.Test.YtncdecpehlkckaaMem
namespace Lg
open Go Go.RowKit Go.Proofs

theorem infoB : (Try.prog.info? 5).map (fun i => (i.zero, i.size, i.bytes)) = some (some (.int .u8 0), 1, 1) := by kernel_rfl
theorem infoS : (Try.prog.info? 22).map (fun i => (i.zero, i.size, i.bytes)) = some (some (.slice none 0 0), 1, 24) := by kernel_rfl

theorem vb_one {l : List UInt8} : ∀ u ∈ l.map vb, u.oneCell' = true := by
  intro u hu
  obtain ⟨b, _, rfl⟩ := List.mem_map.1 hu
  rfl

/-- 's == nil' -/
theorem eqlNilB (w : World) (a : Option Addr) (n c : Nat) : (binOp .eql 22 (.slice a n c) (.slice none 0 0)).run Try.prog w = .ok (.bool a.isNone) w :=
  Go.Lib.run_eql_slice_nil w _ _ a n c 0 0 Try.underlying22
attribute [go_sem] eqlNilB

theorem xor_u8 (a b : UInt8) : bits .xor .u8 (a.toNat : Int) (b.toNat : Int) = ((a ^^^ b).toNat : Int) := by
  rw [u8_xor_nat _ _ a.toNat_lt b.toNat_lt, UInt8.toNat_xor]
attribute [go_sem] xor_u8

/-- make([]byte, n) -/
theorem makeB (n : Nat) (hn : n ≤ 1099511627776) (w : World) :
    (Instr.makeSlice 22 (.int .i64 (n : Int)) (.int .i64 (n : Int))).run Try.prog w = .ok (.slice (some ⟨w.heap.size, 0, none⟩) n n) (w.alloc (.cells (List.replicate n (vb 0)).toArray 5)) := by
  obtain ⟨i, hi, hz, hs, hb⟩ := info_parts infoB
  exact run_make1 w 22 5 i _ 1 Try.underlying22 hi hz hs hb rfl (by omega) n hn

/-- append(x, y...) of bytes, x the call's own -/
theorem appB {w : World} {ops : Array Oper} {rest : List Oper} {o : Oper} {a : Act} {Q : Exit → Act → World → Prop} (hgd : o.guard = none) (s x : Operand)
    (ho : o.op = .call { callee := .builtin .append, args := #[s, x], argTypes := #[22, 22] })
    (B : Nat) (A : Option Addr) (n c : Nat) (xs : List UInt8) (hv : a.eval s = .slice A n c) (hown : Ow w B 5 A n c (xs.map vb))
    (A2 : Option Addr) (m c2 : Nat) (ys : List UInt8) (hx : a.eval x = .slice A2 m c2) (hs : Sl w A2 m c2 (ys.map vb))
    (hnm : n + m ≤ 1099511627776) (hB : B ≤ w.heap.size)
    (h : ∀ A' c' w', Ow w' B 5 A' (n + m) c' ((xs ++ ys).map vb) → w.grownBy w' (rowOf A c) → (rowOf A' c' = rowOf A c ∨ rowOf A' c' = some w.heap.size) → wpList Try.prog ops Q rest (a.put o.dst (.slice A' (n + m) c')) w') : wpList Try.prog ops Q (o :: rest) a w := by
  obtain ⟨i, hi, hz, hsz, hb⟩ := info_parts infoB
  refine wpList_append_sl w hgd s x _ ho 5 i _ 1 Try.underlying22 hi hz hsz hb rfl B A n c _ hv hown A2 m c2 _ hx hs vb_one (by simp only [maxLen]; omega) (by omega) hB ?_
  intro A' c' w' h1 h2 h3
  rw [← List.map_append] at h1
  exact h A' c' w' h1 h2 h3

/-- bytes as a string -/
def bs (l : List UInt8) : ByteArray := ⟨l.toArray⟩
theorem bs_inj {a b : List UInt8} (h : bs a = bs b) : a = b := by
  have := congrArg (fun x : ByteArray => x.data.toList) h
  simpa [bs] using this
theorem bs_toList (l : List UInt8) : (bs l).toList = l := by rw [ByteArray.toList_eq]; simp [bs]
attribute [go_sem] bs_toList
theorem beq_dec (a b : List UInt8) : (a == b) = decide (a = b) := by
  by_cases h : a = b
  · simp [h]
  · simp [h]
theorem bs_fold (l : List UInt8) (s : ByteArray) : ((l.map fun b => (b.toNat : Int)).foldl (fun r n => r.push (UInt8.ofNat n.toNat)) s) = ⟨s.data ++ l.toArray⟩ := by
  induction l generalizing s with
  | nil => simp
  | cons b l ih =>
    simp only [List.map_cons, List.foldl_cons]
    rw [ih]
    simp [ByteArray.push]

/-- string(b) -/
theorem strB {w : World} {A : Option Addr} {n c : Nat} {l : List UInt8} (h : Sl w A n c (l.map vb)) :
    (convert 22 9 (.slice A n c)).run Try.prog w = .ok (.string (bs l)) w := by
  rw [run_convert_bytes_string w _ _ 5 A n c Try.underlying22 Try.underlying5 Try.underlying9]
  have hl : l.length = n := by simpa using h.len
  have hm : l.map vb = (l.map fun b => (b.toNat : Int)).map (Value.int .u8) := by simp [List.map_map]
  cases A with
  | none =>
    have h0 : l = [] := by
      rcases Nat.eq_zero_or_pos n with h0 | h0
      · exact List.eq_nil_of_length_eq_zero (by rw [hl, h0])
      · obtain ⟨_, e, _⟩ := h.at_ h0; cases e
    subst h0
    rfl
  | some a =>
    have hload : (loadCells a n).run Try.prog w = .ok ((l.map fun b => (b.toNat : Int)).map (Value.int .u8)).toArray w := by
      rcases Nat.eq_zero_or_pos n with h0 | h0
      · subst h0
        have : l = [] := List.eq_nil_of_length_eq_zero hl
        subst this
        rfl
      · obtain ⟨ad, e, _, hc⟩ := h.at_ h0
        injection e with e; subst e
        rw [← hm]
        have := run_loadCells_list (P := Try.prog) w a (l.map vb) hc
        rw [List.length_map, hl] at this
        exact this
    rw [run_bytesToString w a n c _ hload, bs_fold]
    simp [bs]
end Lg
