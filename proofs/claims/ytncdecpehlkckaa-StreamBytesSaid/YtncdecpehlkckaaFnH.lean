/-
The library's iterators over a slice, as a range over a function meets them: Chunk of bytes and of rows. Bounds: fewer than 2^40 elements.
-/
import Derived.Test.YtncdecpehlkckaaFnG
import Derived.RangeFuncWrites
import Derived.RangeFuncNested
import Derived.RangeFuncBound
import Derived.RangeFuncCalls
import Derived.RangeFuncLeaves
import Derived.Shelf.Abstract
import Derived.OwnWalkIn
import Derived.TacticsInMore
import Derived.LoopNIn
import Derived.LoopIn
namespace Lg
open Go Go.RowKit Go.Proofs Go.Shelf
attribute [local go_sem] Oper.semAt_some

/-- the two boxes of the iterator lie as they lay -/
def Two (b1 b2 : Nat) (W W' : World) : Prop := W'.heap[b1]? = W.heap[b1]? ∧ W'.heap[b2]? = W.heap[b2]?

/-- the k-th of the chunks of m elements of a slice of n -/
def chunkV (A : Option Addr) (n m k : Nat) : Value := .slice (A.map (·.add (m * k))) (min m (n - m * k)) (min m (n - m * k))

/-- how many chunks -/
def chunks (n m : Nat) : Nat := (n + m - 1) / m

theorem chunks_lt {len m k : Nat} (hm : 1 ≤ m) : k < chunks len m ↔ m * k < len := by
  unfold chunks
  rw [Nat.lt_div_iff_mul_lt (by omega), Nat.mul_comm m k]
  omega


section
variable {W W' : World} {row : Option Nat}
/-- the block that was turned holds no cells -/
def NoCells (W : World) (row : Option Nat) : Prop := ∀ r, row = some r → ∃ o : Obj, W.heap[r]? = some o ∧ o.isCells = false

theorem Blk.turn {g : Nat} {t : TypeId} {xs : List Value} (h : Blk W g t xs) (hg : W.grownBy W' row) (hr : NoCells W row) : Blk W' g t xs :=
  h.grown hg (fun e => by
    obtain ⟨o, ho, hc⟩ := hr g e
    unfold Blk at h
    rw [h] at ho
    cases ho
    cases hc)
theorem Ow.turn {B n c : Nat} {E : TypeId} {A : Option Addr} {xs : List Value} (h : Ow W B E A n c xs) (hg : W.grownBy W' row) (hr : NoCells W row) : Ow W' B E A n c xs := by
  refine h.keep fun k _ hk hrow => hg.block k hk (fun e => ?_)
  obtain ⟨_, _, cs, hcs⟩ := h.row hrow
  obtain ⟨o, ho, hc⟩ := hr k e.symm
  rw [hcs] at ho
  cases ho
  cases hc
theorem Sl.turn {n c : Nat} {A : Option Addr} {xs : List Value} (h : Sl W A n c xs) (hg : W.grownBy W' row) (hr : NoCells W row) : Sl W' A n c xs :=
  ⟨h.len, h.le, h.cap, fun hn => by
    obtain ⟨ad, rfl, hb, hc⟩ := h.at_ hn
    have hne : row ≠ some ad.block := by
      intro e
      obtain ⟨o, ho, hoc⟩ := hr _ e
      have hl : 0 < xs.length := by rw [h.len]; exact hn
      have h0 := hc 0 _ (List.getElem?_eq_getElem hl)
      have : ad.add 0 = ad := by simp [Addr.add]
      rw [this] at h0
      unfold World.cell? at h0
      rw [ho] at h0
      cases o <;> simp [Obj.isCells] at hoc h0
    refine ⟨ad, rfl, by have := hg.size; omega, fun j u hu => (World.cell?_of_block (w := W) ?_).trans (hc j u hu)⟩
    rw [block_add]
    exact hg.block _ hb (Ne.symm hne)⟩
theorem Rows.turn {A : Option Addr} {n c : Nat} {ls : List (List UInt8)} (h : Rows W A n c ls) (hg : W.grownBy W' row) (hr : NoCells W row) : Rows W' A n c ls := by
  obtain ⟨vs, hs, he⟩ := h
  exact ⟨vs, hs.turn hg hr, he.keep fun _ _ _ _ h => h.turn hg hr⟩
end

/-! ### A function whose body holds a range over a function -/

section
variable {P : Program}

/-- The marks that such loops have left are taken off. -/
def Marks : List Deferred → World → World → Prop
  | [], w, w' => w = w'
  | d :: ds, w, w' => ∃ r, d.target = .collected r ∧ w.heap[r]? = some (.deferred (some [])) ∧ Marks ds (w.putObj r (.deferred none)) w'

theorem calls_of_marks {f : FuncId} {fn : Func} {c : Code} {args : Array Value} {w : World} {R : Ending → World → Prop} (hf : P.funcs[f]? = some fn) (hb : fn.body = some c)
    (h : c.wp P (bodyPostM Fence.wide 3 P fn R) { tmps := args ++ Array.replicate (fn.ntmps - args.size) undef, defers := [] } w) : Calls P f args w R :=
  (callsIn_wide (n := 3)).1 (callsIn_of_wp_marks hf hb trivial (wpIn_wide.2 h) rfl)

theorem leaves_of_marks {fn : Func} {tmps : Array Value} {R : Ending → World → Prop} {v : Value} : ∀ (ds : List Deferred) (w w' : World), Marks ds w w' →
    (results fn tmps).run P w' = .ok v w' → R (.returned v) w' → LeavesInM Fence.wide 3 P fn tmps R ds .returning w
  | [], w, w', h, hr, hR => by
    obtain rfl : w = w' := h
    exact ⟨v, hr, hR⟩
  | d :: ds, w, w', h, hr, hR => by
    obtain ⟨r, hd, hh, hm⟩ := h
    exact ⟨by simp, .inl ⟨r, _, hd, run_takeDeferred hh, leaves_of_marks ds _ w' hm hr hR⟩⟩

theorem postM_ret {fn : Func} {R : Ending → World → Prop} {a : Act} {w w' : World} {v : Value} (hm : Marks a.defers w w') (hr : (results fn a.tmps).run P w' = .ok v w') (hR : R (.returned v) w') :
    bodyPostM Fence.wide 3 P fn R .ret a w := leaves_of_marks _ _ _ hm hr hR
theorem postM_end {fn : Func} {R : Ending → World → Prop} {a : Act} {w w' : World} {v : Value} (hm : Marks a.defers w w') (hr : (results fn a.tmps).run P w' = .ok v w') (hR : R (.returned v) w') :
    bodyPostM Fence.wide 3 P fn R .normal a w := leaves_of_marks _ _ _ hm hr hR

/-- 'for .. := range g { .. }', the iterator by its contract. -/
theorem wp_range {α : Type} {g : Operand} {ps : Array Tmp} {assign body : Code} {Q : Exit → Act → World → Prop} {a : Act} {w : World}
    {gf : Nat} {lb : Array Value} (hg : a.eval g = .func (.func gf) #[] lb) (eg : ∀ args w, (callFunc gf args).run P w = .ok (.enter gf args) w)
    {encs : α → Array Value} {Kp : World → World → Prop} {S Sp : List α → Prop} {N : Nat} {w0 : World} (hseq : SeqStopsK Fence.wide 2 P gf lb encs Kp S Sp N w0)
    (hKt : ∀ {A B C : World}, Kp A B → Kp B C → Kp A C) (hKb : ∀ (W : World) (l : Nat) (o o' : Obj), w.heap.size ≤ l → W.heap[l]? = some o → o.isCells = false → o.isWalk = false → Kp W (W.putObj l o')) (hb0 : Below w0.heap.size w0 w) (hps : ∀ x, (encs x).size = ps.size)
    (I : List α → World → Prop) (Ix : Code → List α → World → Prop) (hI : OwnFrom w.heap.size I) (hIx : ∀ c, OwnFrom w.heap.size (Ix c)) (h0 : I [] w) (a₁ : α → Act)
    (hassign : ∀ (l : Nat) (x : α) (W : World) (K : Act → World → Prop), K (a₁ x) W →
      assign.wpIn (Fence.wide.inRound l) 1 P (Exit.then K (fun _ _ _ => False)) { tmps := (ps.zip (encs x)).foldl (fun t (p, v) => t.setIfInBounds p v) a.tmps, defers := [] } W)
    (hbody : ∀ (l : Nat) (pre : List α) (x : α) (W : World), I pre W → pre.length < N → body.wpIn (Fence.wide.inRound l) 1 P (ownPostG w.heap.size Kp I Ix (pre ++ [x]) W) (a₁ x) W)
    (hdone : ∀ (D : Nat) (xs : List α) (W : World), w.heap.size ≤ D → S xs → I xs W → W.heap[D]? = some (.deferred (some [])) → Q .normal { a with defers := { target := .collected D, args := #[] } :: a.defers } W)
    (hstop : ∀ (D : Nat) (c : Code) (pre : List α) (W : World), w.heap.size ≤ D → Sp pre → Ix c pre W → W.heap[D]? = some (.deferred (some [])) → c.wp P Q { a with defers := { target := .collected D, args := #[] } :: a.defers } W) :
    (Code.rangeFunc g ps assign body).wp P Q a w :=
  (wpIn_wide (n := 3)).1 (wpIn_rangeFunc_ownG rfl (by omega) hg trivial eg hseq hKt hKb hb0 hps I Ix hI hIx h0 a₁ hassign hbody hdone (fun D c pre W h1 h2 h3 h4 => wpIn_wide.2 (hstop D c pre W h1 h2 h3 h4)))
end

theorem Two.trans {b1 b2 : Nat} {A B C : World} (h : Two b1 b2 A B) (k : Two b1 b2 B C) : Two b1 b2 A C := ⟨k.1.trans h.1, k.2.trans h.2⟩
theorem Two.putObj {b1 b2 : Nat} {w : World} (h1 : b1 < w.heap.size) (h2 : b2 < w.heap.size) (W : World) (l : Nat) (o o' : Obj) (hl : w.heap.size ≤ l) (_ : W.heap[l]? = some o) (_ : o.isCells = false) (_ : o.isWalk = false) : Two b1 b2 W (W.putObj l o') :=
  ⟨World.putObj_heap_other (by omega), World.putObj_heap_other (by omega)⟩
theorem Two.below {b1 b2 B : Nat} {W W' : World} (h : Below B W W') (h1 : b1 < B) (h2 : b2 < B) : Two b1 b2 W W' := ⟨h.block _ h1, h.block _ h2⟩

set_option maxRecDepth 100000 in
set_option maxHeartbeats 1000000 in
theorem chunk1_in (n l b1 b2 : Nat) (A : Option Addr) (len cap m N : Nat) (hm : 1 ≤ m) (hm2 : m ≤ 4096) (hA : 0 < len → ∃ ad, A = some ad) (hlc : len ≤ cap) (hlen : len ≤ 1099511627776) (hN : N = chunks len m) (J Jx : List Nat → World → Prop) (hJd : ∀ pre W d, J pre W → J pre (W.drewN d))
    (hY : ∀ pre x W, J pre W → pre.length < N → x < N → YieldAt Fence.wide (n - 1) Try.prog l #[chunkV A len m x] W fun e W' =>
      (e = .returned (.bool true) ∧ J (pre ++ [x]) W' ∧ Two b1 b2 W W') ∨ (e = .returned (.bool false) ∧ Jx (pre ++ [x]) W'))
    (W : World) (hB1 : W.heap[b1]? = some (.cells #[.slice A len cap] 22 (0, 0))) (hB2 : W.heap[b2]? = some (.cells #[vi m] 3 (0, 0))) (h0 : J [] W) :
    CallsIn Fence.wide n Try.prog 87 #[.func (.yield l) #[] #[], .pointer (some ⟨b1, 0, none⟩), .pointer (some ⟨b2, 0, none⟩)] W fun e W' => (∃ v, e = .returned v) ∧
      ((∃ ys, ys = List.range N ∧ J ys W') ∨ (∃ pre, (∃ k, k ≤ N ∧ pre = List.range k) ∧ Jx pre W')) := by
  refine callsIn_of_wp Try.func87 rfl trivial ?_ rfl
  simp only [Try.ntmps87, List.size_toArray, List.length_cons, List.length_nil, Nat.reduceAdd, Nat.reduceSub, Array.replicate_succ, Array.replicate_zero, List.push_toArray, List.append_toArray, List.nil_append, List.cons_append]
  gi_wp2
  gi_loopw [4] (fun i wr => ∃ k : Nat, k ≤ N ∧ i = vi (m * k : Nat) ∧ J (List.range k) wr ∧ Hid (Two b1 b2 W wr)) (fun i _ => m * (N + 1) - (intOf i).toNat)
  case atStart => exact ⟨0, Nat.zero_le _, rfl, h0, rfl, rfl⟩
  case round =>
    obtain ⟨k, hk, rfl, hJs, hnx⟩ := hrel
    have c1 : wr.cell? ⟨b1, 0, none⟩ = some (.slice A len cap) := by
      have h := hnx.out.1.trans hB1
      simp [World.cell?, h]
    have c2 : wr.cell? ⟨b2, 0, none⟩ = some (vi m) := by
      have h := hnx.out.2.trans hB2
      simp [World.cell?, h]
    by_cases hlt : k < N
    · have hpos : m * k < len := (chunks_lt hm).1 (by rw [← hN]; exact hlt)
      obtain ⟨ad, rfl⟩ := hA (by omega)
      have hmk : m * (k + 1) = m * k + m := Nat.mul_succ m k
      have HMK := Lib.hid hmk
      have HN := Lib.hid hN
      have hY1 := fun nq => hY _ k (wr.drewN nq) (hJd _ _ nq hJs) (by rw [List.length_range]; exact hlt) hlt
      have hcv : chunkV (some ad) len m k = .slice (some (ad.add (m * k))) (min m (len - m * k)) (min m (len - m * k)) := rfl
      rw [hcv] at hY1
      clear hmk hN hY hB1 hB2 hcv
      generalize hq : m * k = q at *
      have HQ := Lib.hid hq
      clear hq
      obtain ⟨e, he⟩ : ∃ e, min m (len - q) = e := ⟨_, rfl⟩
      have he0 : 0 < e := by omega
      have he1 : q + e ≤ len := by omega
      have hif1 : (if ((len - q : Nat) : Int) < (m : Int) then ((len - q : Nat) : Int) else (m : Int)) = (e : Int) := by split <;> omega
      have hif2 : (if len - q < m then ((len - q : Nat) : Int) else (m : Int)) = (e : Int) := by split <;> omega
      rw [he] at hY1
      have HY1 := Lib.hid hY1
      clear hY1 he
      gi_wp2
      refine wpIn_wide.2 ?_
      go_quiet (fail)
      obtain ⟨fn, tmps, assign, body, hy, hR⟩ := HY1.out nq
      gi_wp2
      refine ⟨fun h => by simp [Fence.wide] at h, hR.mono ?_⟩
      rintro e' W3 (⟨rfl, hJ3, hk3⟩ | ⟨rfl, hJx3⟩)
      · have c3 : W3.cell? ⟨b2, 0, none⟩ = some (vi m) := (World.cell?_of_block (w := wr) (a := ⟨b2, 0, none⟩) hk3.2).trans c2
        have HK3 := Lib.hid hk3
        clear hy hR hk3
        gi_wp2
        go_roundw
        case rel => exact ⟨k + 1, by omega, by rw [HMK.out, ← HQ.out]; go_num, by rw [List.range_succ]; exact hJ3, HK3.out.1.trans hnx.out.1, HK3.out.2.trans hnx.out.2⟩
        case measure =>
          have h1 : m * (k + 1) ≤ m * N := Nat.mul_le_mul_left m (by omega)
          have h2 := HMK.out
          have h3 := HQ.out
          have h4 : m * (N + 1) = m * N + m := Nat.mul_succ m N
          simp [intOf]
          omega
      · clear hy hR
        gi_wp2
        refine bodyPost_ret (results_none rfl _ _ _) rfl ?_
        exact ⟨⟨_, rfl⟩, .inr ⟨_, ⟨k + 1, by omega, (List.range_succ).symm⟩, hJx3⟩⟩
    · obtain rfl : k = N := by omega
      have hge : len ≤ m * k := by
        have := (not_congr (chunks_lt (len := len) (k := k) hm)).1 (by omega)
        omega
      have hup : m * k ≤ len + m := by
        rcases Nat.eq_zero_or_pos k with h0 | h0
        · subst h0; omega
        · have h1 := (chunks_lt (len := len) (k := k - 1) hm).1 (by omega)
          have h2 : m * k = m * (k - 1) + m := by rw [← Nat.mul_succ]; congr 1; omega
          omega
      clear hY hB1 hB2 hN
      generalize hq : m * k = q at *
      have HQ := Lib.hid hq
      clear hq
      gi_wp2
      go_end0
      exact ⟨⟨_, rfl⟩, .inl ⟨_, rfl, hJs⟩⟩

/-- the contract of the value that Chunk hands back -/
theorem chunkB_stops (b1 b2 : Nat) (A : Option Addr) (len cap m : Nat) (hm : 1 ≤ m) (hm2 : m ≤ 4096) (hA : 0 < len → ∃ ad, A = some ad) (hlc : len ≤ cap) (hlen : len ≤ 1099511627776) (w : World)
    (h1 : b1 < w.heap.size) (h2 : b2 < w.heap.size) (hB1 : w.heap[b1]? = some (.cells #[.slice A len cap] 22 (0, 0))) (hB2 : w.heap[b2]? = some (.cells #[vi m] 3 (0, 0))) :
    SeqStopsK Fence.wide 2 Try.prog 87 #[.pointer (some ⟨b1, 0, none⟩), .pointer (some ⟨b2, 0, none⟩)] (fun k : {k : Nat // k < chunks len m} => #[chunkV A len m k.1]) (Two b1 b2)
      (fun ys => ys.map (·.1) = List.range (chunks len m)) (fun _ => True) (chunks len m) w := by
  intro l J Jx W hW hJ _ hY h0
  have hc := chunk1_in 2 l b1 b2 A len cap m (chunks len m) hm hm2 hA hlc hlen rfl (fun pre W => ∃ pre' : List {k : Nat // k < chunks len m}, pre'.map (·.1) = pre ∧ J pre' W) (fun pre W => ∃ pre' : List {k : Nat // k < chunks len m}, pre'.map (·.1) = pre ∧ Jx pre' W)
    (fun pre W d ⟨p, hp, hj⟩ => ⟨p, hp, hJ p W (W.drewN d) none hj ⟨rfl, rfl, rfl, Nat.le_refl _, fun _ _ _ => rfl⟩ (fun r e => by cases e)⟩)
    (fun pre x W1 ⟨p, hp, hj⟩ hl hx => (hY p ⟨x, hx⟩ W1 hj (by rw [← hp, List.length_map] at hl; exact hl)).mono (fun e w' h => by
      rcases h with ⟨he, hj', hk⟩ | ⟨he, hj'⟩
      · exact .inl ⟨he, ⟨p ++ [⟨x, hx⟩], by simp [hp], hj'⟩, hk⟩
      · exact .inr ⟨he, ⟨p ++ [⟨x, hx⟩], by simp [hp], hj'⟩⟩))
    W ((hW.block _ h1).trans hB1) ((hW.block _ h2).trans hB2) ⟨[], rfl, h0⟩
  refine hc.mono ?_
  rintro e W' ⟨hv, ⟨ys, rfl, p, hp, hj⟩ | ⟨pre, _, p, _, hj⟩⟩
  · exact ⟨hv, .inl ⟨p, hp, hj⟩⟩
  · exact ⟨hv, .inr ⟨p, trivial, hj⟩⟩

set_option maxHeartbeats 400000 in
theorem ChunkB_any (A : Option Addr) (n c m : Nat) (hm : 1 ≤ m) (w : World) :
    Calls Try.prog 49 #[.slice A n c, vi m] w fun e w' => e = .returned (.func (.func 87) #[] #[.pointer (some ⟨w.heap.size, 0, none⟩), .pointer (some ⟨w.heap.size + 1, 0, none⟩)]) ∧
      (w.alloc (.cells #[.slice A n c] 22)).alloc (.cells #[vi m] 3) = w' := by
  have h1 : ¬ ((m : Int) < 1) := by omega
  go_enter Try.func49, Try.ntmps49
  go_wp2
  go_ret
  exact ⟨rfl, rfl⟩

set_option maxRecDepth 100000 in
set_option maxHeartbeats 1000000 in
theorem chunk2_in (n l b1 b2 : Nat) (A : Option Addr) (len cap m N : Nat) (hm : 1 ≤ m) (hm2 : m ≤ 4096) (hA : 0 < len → ∃ ad, A = some ad) (hlc : len ≤ cap) (hlen : len ≤ 1099511627776) (hN : N = chunks len m) (J Jx : List Nat → World → Prop) (hJd : ∀ pre W d, J pre W → J pre (W.drewN d))
    (hY : ∀ pre x W, J pre W → pre.length < N → x < N → YieldAt Fence.wide (n - 1) Try.prog l #[chunkV A len m x] W fun e W' =>
      (e = .returned (.bool true) ∧ J (pre ++ [x]) W' ∧ Two b1 b2 W W') ∨ (e = .returned (.bool false) ∧ Jx (pre ++ [x]) W'))
    (W : World) (hB1 : W.heap[b1]? = some (.cells #[.slice A len cap] 49 (0, 0))) (hB2 : W.heap[b2]? = some (.cells #[vi m] 3 (0, 0))) (h0 : J [] W) :
    CallsIn Fence.wide n Try.prog 88 #[.func (.yield l) #[] #[], .pointer (some ⟨b1, 0, none⟩), .pointer (some ⟨b2, 0, none⟩)] W fun e W' => (∃ v, e = .returned v) ∧
      ((∃ ys, ys = List.range N ∧ J ys W') ∨ (∃ pre, (∃ k, k ≤ N ∧ pre = List.range k) ∧ Jx pre W')) := by
  refine callsIn_of_wp Try.func88 rfl trivial ?_ rfl
  simp only [Try.ntmps88, List.size_toArray, List.length_cons, List.length_nil, Nat.reduceAdd, Nat.reduceSub, Array.replicate_succ, Array.replicate_zero, List.push_toArray, List.append_toArray, List.nil_append, List.cons_append]
  gi_wp2
  gi_loopw [4] (fun i wr => ∃ k : Nat, k ≤ N ∧ i = vi (m * k : Nat) ∧ J (List.range k) wr ∧ Hid (Two b1 b2 W wr)) (fun i _ => m * (N + 1) - (intOf i).toNat)
  case atStart => exact ⟨0, Nat.zero_le _, rfl, h0, rfl, rfl⟩
  case round =>
    obtain ⟨k, hk, rfl, hJs, hnx⟩ := hrel
    have c1 : wr.cell? ⟨b1, 0, none⟩ = some (.slice A len cap) := by
      have h := hnx.out.1.trans hB1
      simp [World.cell?, h]
    have c2 : wr.cell? ⟨b2, 0, none⟩ = some (vi m) := by
      have h := hnx.out.2.trans hB2
      simp [World.cell?, h]
    by_cases hlt : k < N
    · have hpos : m * k < len := (chunks_lt hm).1 (by rw [← hN]; exact hlt)
      obtain ⟨ad, rfl⟩ := hA (by omega)
      have hmk : m * (k + 1) = m * k + m := Nat.mul_succ m k
      have HMK := Lib.hid hmk
      have HN := Lib.hid hN
      have hY1 := fun nq => hY _ k (wr.drewN nq) (hJd _ _ nq hJs) (by rw [List.length_range]; exact hlt) hlt
      have hcv : chunkV (some ad) len m k = .slice (some (ad.add (m * k))) (min m (len - m * k)) (min m (len - m * k)) := rfl
      rw [hcv] at hY1
      clear hmk hN hY hB1 hB2 hcv
      generalize hq : m * k = q at *
      have HQ := Lib.hid hq
      clear hq
      obtain ⟨e, he⟩ : ∃ e, min m (len - q) = e := ⟨_, rfl⟩
      have he0 : 0 < e := by omega
      have he1 : q + e ≤ len := by omega
      have hif1 : (if ((len - q : Nat) : Int) < (m : Int) then ((len - q : Nat) : Int) else (m : Int)) = (e : Int) := by split <;> omega
      have hif2 : (if len - q < m then ((len - q : Nat) : Int) else (m : Int)) = (e : Int) := by split <;> omega
      rw [he] at hY1
      have HY1 := Lib.hid hY1
      clear hY1 he
      gi_wp2
      refine wpIn_wide.2 ?_
      go_quiet (fail)
      obtain ⟨fn, tmps, assign, body, hy, hR⟩ := HY1.out nq
      gi_wp2
      refine ⟨fun h => by simp [Fence.wide] at h, hR.mono ?_⟩
      rintro e' W3 (⟨rfl, hJ3, hk3⟩ | ⟨rfl, hJx3⟩)
      · have c3 : W3.cell? ⟨b2, 0, none⟩ = some (vi m) := (World.cell?_of_block (w := wr) (a := ⟨b2, 0, none⟩) hk3.2).trans c2
        have HK3 := Lib.hid hk3
        clear hy hR hk3
        gi_wp2
        go_roundw
        case rel => exact ⟨k + 1, by omega, by rw [HMK.out, ← HQ.out]; go_num, by rw [List.range_succ]; exact hJ3, HK3.out.1.trans hnx.out.1, HK3.out.2.trans hnx.out.2⟩
        case measure =>
          have h1 : m * (k + 1) ≤ m * N := Nat.mul_le_mul_left m (by omega)
          have h2 := HMK.out
          have h3 := HQ.out
          have h4 : m * (N + 1) = m * N + m := Nat.mul_succ m N
          simp [intOf]
          omega
      · clear hy hR
        gi_wp2
        refine bodyPost_ret (results_none rfl _ _ _) rfl ?_
        exact ⟨⟨_, rfl⟩, .inr ⟨_, ⟨k + 1, by omega, (List.range_succ).symm⟩, hJx3⟩⟩
    · obtain rfl : k = N := by omega
      have hge : len ≤ m * k := by
        have := (not_congr (chunks_lt (len := len) (k := k) hm)).1 (by omega)
        omega
      have hup : m * k ≤ len + m := by
        rcases Nat.eq_zero_or_pos k with h0 | h0
        · subst h0; omega
        · have h1 := (chunks_lt (len := len) (k := k - 1) hm).1 (by omega)
          have h2 : m * k = m * (k - 1) + m := by rw [← Nat.mul_succ]; congr 1; omega
          omega
      clear hY hB1 hB2 hN
      generalize hq : m * k = q at *
      have HQ := Lib.hid hq
      clear hq
      gi_wp2
      go_end0
      exact ⟨⟨_, rfl⟩, .inl ⟨_, rfl, hJs⟩⟩

/-- the contract of the value that Chunk hands back -/
theorem chunkR_stops (b1 b2 : Nat) (A : Option Addr) (len cap m : Nat) (hm : 1 ≤ m) (hm2 : m ≤ 4096) (hA : 0 < len → ∃ ad, A = some ad) (hlc : len ≤ cap) (hlen : len ≤ 1099511627776) (w : World)
    (h1 : b1 < w.heap.size) (h2 : b2 < w.heap.size) (hB1 : w.heap[b1]? = some (.cells #[.slice A len cap] 49 (0, 0))) (hB2 : w.heap[b2]? = some (.cells #[vi m] 3 (0, 0))) :
    SeqStopsK Fence.wide 2 Try.prog 88 #[.pointer (some ⟨b1, 0, none⟩), .pointer (some ⟨b2, 0, none⟩)] (fun k : {k : Nat // k < chunks len m} => #[chunkV A len m k.1]) (Two b1 b2)
      (fun ys => ys.map (·.1) = List.range (chunks len m)) (fun _ => True) (chunks len m) w := by
  intro l J Jx W hW hJ _ hY h0
  have hc := chunk2_in 2 l b1 b2 A len cap m (chunks len m) hm hm2 hA hlc hlen rfl (fun pre W => ∃ pre' : List {k : Nat // k < chunks len m}, pre'.map (·.1) = pre ∧ J pre' W) (fun pre W => ∃ pre' : List {k : Nat // k < chunks len m}, pre'.map (·.1) = pre ∧ Jx pre' W)
    (fun pre W d ⟨p, hp, hj⟩ => ⟨p, hp, hJ p W (W.drewN d) none hj ⟨rfl, rfl, rfl, Nat.le_refl _, fun _ _ _ => rfl⟩ (fun r e => by cases e)⟩)
    (fun pre x W1 ⟨p, hp, hj⟩ hl hx => (hY p ⟨x, hx⟩ W1 hj (by rw [← hp, List.length_map] at hl; exact hl)).mono (fun e w' h => by
      rcases h with ⟨he, hj', hk⟩ | ⟨he, hj'⟩
      · exact .inl ⟨he, ⟨p ++ [⟨x, hx⟩], by simp [hp], hj'⟩, hk⟩
      · exact .inr ⟨he, ⟨p ++ [⟨x, hx⟩], by simp [hp], hj'⟩⟩))
    W ((hW.block _ h1).trans hB1) ((hW.block _ h2).trans hB2) ⟨[], rfl, h0⟩
  refine hc.mono ?_
  rintro e W' ⟨hv, ⟨ys, rfl, p, hp, hj⟩ | ⟨pre, _, p, _, hj⟩⟩
  · exact ⟨hv, .inl ⟨p, hp, hj⟩⟩
  · exact ⟨hv, .inr ⟨p, trivial, hj⟩⟩

set_option maxHeartbeats 400000 in
theorem ChunkR_any (A : Option Addr) (n c m : Nat) (hm : 1 ≤ m) (w : World) :
    Calls Try.prog 54 #[.slice A n c, vi m] w fun e w' => e = .returned (.func (.func 88) #[] #[.pointer (some ⟨w.heap.size, 0, none⟩), .pointer (some ⟨w.heap.size + 1, 0, none⟩)]) ∧
      (w.alloc (.cells #[.slice A n c] 49)).alloc (.cells #[vi m] 3) = w' := by
  have h1 : ¬ ((m : Int) < 1) := by omega
  go_enter Try.func54, Try.ntmps54
  go_wp2
  go_ret
  exact ⟨rfl, rfl⟩

end Lg
