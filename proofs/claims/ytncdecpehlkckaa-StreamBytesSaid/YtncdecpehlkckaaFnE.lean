/-
What the library's Grow, Concat and Equal come to at slices of bytes. Bounds: fewer than 2^40 bytes.
-/
import Derived.Test.YtncdecpehlkckaaFnD
namespace Lg
open Go Go.RowKit Go.Proofs

/-- append(x, make([]byte, m)...), x the call's own -/
theorem appZ {w : World} {ops : Array Oper} {rest : List Oper} {o : Oper} {a : Act} {Q : Exit → Act → World → Prop} (hgd : o.guard = none) (s x : Operand)
    (ho : o.op = .call { callee := .builtin .append, args := #[s, x], argTypes := #[22, 3] })
    (B : Nat) (A : Option Addr) (n c : Nat) (xs : List UInt8) (hv : a.eval s = .slice A n c) (hown : Ow w B 5 A n c (xs.map vb))
    (m : Nat) (hx : a.eval x = vi (m : Int)) (hnm : n + m ≤ 1099511627776) (hB : B ≤ w.heap.size)
    (h : ∀ A' c' w', Ow w' B 5 A' (n + m) c' ((xs ++ List.replicate m 0).map vb) → w.grownBy w' (rowOf A c) → (rowOf A' c' = rowOf A c ∨ rowOf A' c' = some w.heap.size) → wpList Try.prog ops Q rest (a.put o.dst (.slice A' (n + m) c')) w') : wpList Try.prog ops Q (o :: rest) a w := by
  obtain ⟨i, hi, hz, hsz, hb⟩ := info_parts infoB
  refine wpList_append_zs w hgd s x _ _ ho 5 i _ 1 .i64 Try.underlying22 Try.underlying3 hi hz hsz hb rfl rfl B A n c _ hv hown .i64 m hx (by omega) (by omega) hB ?_
  intro A' c' w' h1 h2 h3
  refine h A' c' w' ?_ h2 h3
  rw [List.map_append, List.map_replicate]
  exact h1

set_option maxRecDepth 10000 in
set_option maxHeartbeats 400000 in
theorem Grow_any (n : Nat) (hn : n ≤ 1099511627776) (w : World) :
    Calls Try.prog 89 #[.slice none 0 0, vi n] w fun e w' => ∃ A' c', e = .returned (.slice A' 0 c') ∧ Ow w' w.heap.size 5 A' 0 c' (([] : List UInt8).map vb) ∧ Below w.heap.size w w' := by
  have hnn : (n : Int) ≤ 9223372036854775807 := by omega
  have Hn := Lib.hid hn
  clear hn
  rcases Nat.eq_zero_or_pos n with h0 | h0
  · subst h0
    go_enter Try.func89, Try.ntmps89
    go_wp2
    go_ret
    exact ⟨none, 0, rfl, Ow.nil _ _ _ _, Below.refl _ _⟩
  · have hp : (0 : Int) < n := by omega
    go_enter Try.func89, Try.ntmps89
    go_wp2_with (at_builtin; refine appZ rfl (.tmp 20) (.tmp 21) rfl w.heap.size none 0 0 [] rfl (Ow.nil _ _ _ _) n rfl (by have := Hn.out; omega) (Nat.le_refl _) ?_; intro A' c' w' h1 h2 h3)
    go_ret
    exact ⟨A', c', rfl, h1.empty, (Below.refl _ _).grown h2 (Nat.le_refl _) (by simp [rowOf])⟩

def total (ls : List (List UInt8)) : Nat := (ls.map List.length).sum
theorem total_take_le (ls : List (List UInt8)) (k : Nat) : total (ls.take k) ≤ total ls := by
  have h : total ls = total (ls.take k) + total (ls.drop k) := by
    rw [total, total, total, ← List.sum_append, ← List.map_append, List.take_append_drop]
  omega
theorem total_step {ls : List (List UInt8)} {k : Nat} {l : List UInt8} (h : ls[k]? = some l) : total (ls.take (k + 1)) = total (ls.take k) + l.length := by
  rw [take_snoc h, total, total, List.map_append, List.sum_append]; simp
theorem total_flatten (ls : List (List UInt8)) : ls.flatten.length = total ls := by rw [List.length_flatten]; rfl

set_option maxRecDepth 10000 in
set_option maxHeartbeats 400000 in
theorem Concat_any (A : Option Addr) (n c : Nat) (ls : List (List UInt8)) (w : World) (h1 : Rows w A n c ls) (ht : total ls ≤ 1099511627776) (hnn : n ≤ 1099511627776) :
    Calls Try.prog 55 #[.slice A n c] w fun e w' => ∃ A' c', e = .returned (.slice A' (total ls) c') ∧ Ow w' w.heap.size 5 A' (total ls) c' (ls.flatten.map vb) ∧ Below w.heap.size w w' := by
  have HT := Lib.hid ht
  have H1 := Lib.hid h1
  have hlen := Lib.hid h1.len
  have hn63 : (n : Int) ≤ 9223372036854775807 := by omega
  clear ht h1 hnn
  go_enter Try.func55, Try.ntmps55
  go_wp2
  go_loop [3, 11] (fun s3 s11 => ∃ k : Nat, k ≤ n ∧ s11 = vi k ∧ s3 = vi (total (ls.take k))) (fun _ s11 => n - (intOf s11).toNat)
  case atStart => exact ⟨0, by omega, rfl, rfl⟩
  case round =>
    obtain ⟨k, hk, rfl, rfl⟩ := hrel
    by_cases hlt : k < n
    · obtain ⟨ad, a, l, c', rfl, hl, hc, _⟩ := H1.out.row hlt
      have hst := total_step hl
      have hle := total_take_le ls (k + 1)
      have b1 : ((total (ls.take k) : Nat) : Int) + (l.length : Int) ≤ 1099511627776 := by have := HT.out; omega
      have HS := Lib.hid hst
      clear hst hle hl
      go_wp2
      go_round
      case rel => exact ⟨k + 1, by omega, by go_num, by rw [HS.out]; go_num⟩
      case measure => simp [intOf]; omega
    · obtain rfl : k = n := by omega
      have e : ls.take k = ls := List.take_of_length_le (by have := hlen.out; omega)
      rw [e]
      clear e
      go_wp2_with (go_at_call 89; refine (Grow_any _ HT.out _).mono ?_; rintro e w1 ⟨A1, c1, rfl, ho1, hb1⟩)
      have HO1 := Lib.hid ho1
      clear ho1
      go_loopw [6, 27] (fun s6 s27 wr => ∃ (j : Nat) (A' : Option Addr) (c' : Nat), j ≤ k ∧ s27 = vi j ∧ s6 = .slice A' (total (ls.take j)) c' ∧ Hid (Ow wr w.heap.size 5 A' (total (ls.take j)) c' ((ls.take j).flatten.map vb)) ∧ Below w.heap.size w wr) (fun _ s27 _ => k - (intOf s27).toNat)
      case atStart => exact ⟨0, A1, c1, by omega, rfl, rfl, HO1, hb1⟩
      case round =>
        obtain ⟨j, A', c', hj, rfl, rfl, HO, hb⟩ := hrel
        clear hb1 HO1
        by_cases hlt : j < k
        · obtain ⟨ad, a, l, c2, rfl, hl, hc, hs⟩ := (H1.out.below hb).row hlt
          have hst := total_step hl
          have hle := total_take_le ls (j + 1)
          have hfl : (ls.take (j + 1)).flatten = (ls.take j).flatten ++ l := by rw [take_snoc hl]; simp
          have HB := Lib.hid (show total (ls.take j) + l.length ≤ 1099511627776 by have := HT.out; omega)
          have HS := Lib.hid hst
          have HF := Lib.hid hfl
          have HL := Lib.hid hs
          have hB := hb.size
          clear hst hle hl hfl hs
          go_wp2_with (at_builtin; refine appB rfl (.tmp 31) (.tmp 32) rfl w.heap.size A' _ c' _ rfl HO.out a l.length c2 l rfl HL.out HB.out hB ?_; intro A2 c3 w2 h1 h2 h3)
          go_roundw
          case rel =>
            refine ⟨j + 1, A2, c3, by omega, by go_num, ?_, ?_, hb.grown h2 hB (fun i hi => (HO.out.row hi).1)⟩
            · rw [HS.out]
            · rw [HS.out, HF.out]; exact h1
          case measure => simp [intOf]; omega
        · go_wp2
          go_ret
          obtain rfl : j = k := by omega
          have e : ls.take j = ls := List.take_of_length_le (by have := hlen.out; omega)
          have h := HO.out
          rw [e] at h ⊢
          exact ⟨_, _, rfl, h, hb⟩
end Lg
