/-
The library's iterator Backward over a slice of squares, as a range over a function meets it. Bounds: at most 100 elements.
-/
import Derived.Test.YtncdecpehlkckaaFnR
import Derived.RangeFuncNested
namespace Lg
open Go Go.RowKit Go.Proofs Go.Shelf
attribute [local go_sem] Oper.semAt_some

theorem wpListIn_load_mid {F : Fence} {n : Nat} {P : Program} {ops : Array Oper} {rest : List Oper} {o : Oper} {a : Act} {w : World} {Q : Exit → Act → World → Prop} (hgd : o.guard = none) (ty : TypeId) (x : Operand) (ho : o.op = .load ty x)
    (b off : Nat) (hx : a.eval x = .pointer (some ⟨b, off, none⟩)) (cs : List Value) (d : TypeDesc) (hc : w.rangeAt b off cs)
    (hu : P.underlying ty = some d) (hd : d.isRow = true) (hi : (P.info? ty).map (·.size) = some cs.length)
    (h : wpListIn F n P ops Q rest (a.put o.dst (.agg cs.toArray)) w) : wpListIn F n P ops Q (o :: rest) a w := by
  refine wpListIn_plain hgd fun K hK' => ?_
  unfold Oper.wpIn
  refine ⟨?_, ?_⟩
  · simp [Oper.about, ho]
  · rw [Oper.semAt_plain F _ _ (by rw [ho]; intro c hc'; cases hc')]
    simp [execOp, ho, hx, run_loadAt_mid w b off ty cs d hc hu hd hi, Result.andThen]
    exact hK' _ _ h

/-- the block of the variable and the block of the elements lie as they lay -/
def downs (N j : Nat) : List Nat := (List.range j).map fun i => N - 1 - i

set_option maxRecDepth 100000 in
set_option maxHeartbeats 1000000 in
theorem back_in (n l b1 gk off N cap : Nat) (hN : N ≤ 100) (kk : Nat → List UInt8) (hkk : ∀ r, r < N → (kk r).length = 16) (J Jx : List Nat → World → Prop)
    (hY : ∀ pre x W, J pre W → pre.length < N → x < N → YieldAt Fence.wide (n - 1) Try.prog l #[vi x, .agg ((kk x).map vb).toArray] W fun e W' =>
      (e = .returned (.bool true) ∧ J (pre ++ [x]) W' ∧ Two b1 gk W W') ∨ (e = .returned (.bool false) ∧ Jx (pre ++ [x]) W'))
    (W : World) (hB1 : W.heap[b1]? = some (.cells #[.slice (some ⟨gk, off, none⟩) N cap] 70 (0, 0))) (hr : ∀ r, r < N → W.rangeAt gk (off + r * 16) ((kk r).map vb)) (h0 : J [] W) :
    CallsIn Fence.wide n Try.prog 91 #[.func (.yield l) #[] #[], .pointer (some ⟨b1, 0, none⟩)] W fun e W' => (∃ v, e = .returned v) ∧
      ((∃ ys, ys = downs N N ∧ J ys W') ∨ (∃ pre, (∃ k, k ≤ N ∧ pre = downs N k) ∧ Jx pre W')) := by
  refine callsIn_of_wp Try.func91 rfl trivial ?_ rfl
  simp only [Try.ntmps91, List.size_toArray, List.length_cons, List.length_nil, Nat.reduceAdd, Nat.reduceSub, Array.replicate_succ, Array.replicate_zero, List.push_toArray, List.append_toArray, List.nil_append, List.cons_append]
  have c0 : W.cell? ⟨b1, 0, none⟩ = some (.slice (some ⟨gk, off, none⟩) N cap) := by simp [World.cell?, hB1]
  gi_wp2
  gi_loopw [3] (fun s3 wr => ∃ j : Nat, j ≤ N ∧ s3 = vi ((N : Int) - 1 - (j : Int)) ∧ J (downs N j) wr ∧ Hid (Two b1 gk W wr)) (fun s3 _ => (intOf s3 + 1).toNat)
  case atStart => exact ⟨0, Nat.zero_le _, by go_num, h0, rfl, rfl⟩
  case round =>
    obtain ⟨j, hj, rfl, hJs, hnx⟩ := hrel
    have c1 : wr.cell? ⟨b1, 0, none⟩ = some (.slice (some ⟨gk, off, none⟩) N cap) := (World.cell?_of_block (w := W) (a := ⟨b1, 0, none⟩) hnx.out.1).trans c0
    by_cases hlt : j < N
    · obtain ⟨x, hx⟩ : ∃ x, N - 1 - j = x := ⟨_, rfl⟩
      have hxN : x < N := by omega
      have ex : (N : Int) - 1 - (j : Int) = (x : Int) := by omega
      have hrx : wr.rangeAt gk (off + x * 16) ((kk x).map vb) := fun i v hv => (World.cell?_of_block (w := W) (a := ⟨gk, off + x * 16 + i, none⟩) hnx.out.2).trans (hr x hxN i v hv)
      have hlx := hkk x hxN
      obtain ⟨fn, tmps, assign, body, hy, hR⟩ := hY _ x wr hJs (by simp [downs]; omega) hxN
      rw [ex]
      gi_wp2_with (with_reducible refine wpListIn_load_mid rfl 84 (.tmp 15) rfl gk (off + x * 16) rfl ((kk x).map vb) _ hrx Try.underlying84 rfl (by rw [List.length_map, hlx]; exact infoQ) ?_)
      refine ⟨fun h => by simp [Fence.wide] at h, hR.mono ?_⟩
      have hsn : downs N (j + 1) = downs N j ++ [x] := by unfold downs; rw [List.range_succ, List.map_append, List.map_cons, List.map_nil, hx]
      have Hsn := Lib.hid hsn
      clear hsn hy hR hx
      rintro e' W3 (⟨rfl, hJ3, hk3⟩ | ⟨rfl, hJx3⟩)
      · have HK3 := Lib.hid hk3
        clear hk3
        gi_wp2
        go_roundw
        case rel => exact ⟨j + 1, by omega, (by go_num), (by rw [Hsn.out]; exact hJ3), HK3.out.1.trans hnx.out.1, HK3.out.2.trans hnx.out.2⟩
        case measure => (simp [intOf]; try omega)
      · gi_wp2
        refine bodyPost_ret (results_none rfl _ _ _) rfl ?_
        exact ⟨⟨_, rfl⟩, .inr ⟨_, ⟨j + 1, by omega, Hsn.out.symm⟩, hJx3⟩⟩
    · obtain rfl : j = N := by omega
      gi_wp2
      go_end0
      exact ⟨⟨_, rfl⟩, .inl ⟨_, rfl, hJs⟩⟩

/-- the contract of the value that Backward hands back -/
theorem back_stops (b1 gk off N cap : Nat) (hN : N ≤ 100) (kk : Nat → List UInt8) (hkk : ∀ r, r < N → (kk r).length = 16) (w : World) (h1 : b1 < w.heap.size) (h2 : gk < w.heap.size)
    (hB1 : w.heap[b1]? = some (.cells #[.slice (some ⟨gk, off, none⟩) N cap] 70 (0, 0))) (hr : ∀ r, r < N → w.rangeAt gk (off + r * 16) ((kk r).map vb)) :
    SeqStopsK Fence.wide 2 Try.prog 91 #[.pointer (some ⟨b1, 0, none⟩)] (fun k : {k : Nat // k < N} => #[vi k.1, .agg ((kk k.1).map vb).toArray]) (Two b1 gk)
      (fun ys => ys.map (·.1) = downs N N) (fun _ => True) N w := by
  intro l J Jx W hW _ _ hY h0
  have hc := back_in 2 l b1 gk off N cap hN kk hkk (fun pre W => ∃ pre' : List {k : Nat // k < N}, pre'.map (·.1) = pre ∧ J pre' W) (fun pre W => ∃ pre' : List {k : Nat // k < N}, pre'.map (·.1) = pre ∧ Jx pre' W)
    (fun pre x W1 ⟨p, hp, hj⟩ hl hx => (hY p ⟨x, hx⟩ W1 hj (by rw [← hp, List.length_map] at hl; exact hl)).mono (fun e w' h => by
      rcases h with ⟨he, hj', hk⟩ | ⟨he, hj'⟩
      · exact .inl ⟨he, ⟨p ++ [⟨x, hx⟩], by simp [hp], hj'⟩, hk⟩
      · exact .inr ⟨he, ⟨p ++ [⟨x, hx⟩], by simp [hp], hj'⟩⟩))
    W ((hW.block _ h1).trans hB1) (fun r hrN => range_below (hr r hrN) hW h2) ⟨[], rfl, h0⟩
  refine hc.mono ?_
  rintro e W' ⟨hv, ⟨ys, rfl, p, hp, hj⟩ | ⟨pre, _, p, _, hj⟩⟩
  · exact ⟨hv, .inl ⟨p, hp, hj⟩⟩
  · exact ⟨hv, .inr ⟨p, trivial, hj⟩⟩

set_option maxHeartbeats 400000 in
theorem Backward_any (A : Option Addr) (n c : Nat) (w : World) :
    Calls Try.prog 61 #[.slice A n c] w fun e w' => e = .returned (.func (.func 91) #[] #[.pointer (some ⟨w.heap.size, 0, none⟩)]) ∧
      w.alloc (.cells #[.slice A n c] 70) = w' := by
  go_enter Try.func61, Try.ntmps61
  go_wp2
  go_ret
  exact ⟨rfl, rfl⟩

/-- 'for .. := range g { .. }', the iterator by its contract; the round's variables may be given a block of their own. -/
theorem wp_rangeH {P : Program} {α : Type} {g : Operand} {ps : Array Tmp} {assign body : Code} {Q : Exit → Act → World → Prop} {a : Act} {w : World}
    {gf : Nat} {lb : Array Value} (hg : a.eval g = .func (.func gf) #[] lb) (eg : ∀ args w, (callFunc gf args).run P w = .ok (.enter gf args) w)
    {encs : α → Array Value} {Kp : World → World → Prop} {S Sp : List α → Prop} {N : Nat} {w0 : World} (hseq : SeqStopsK Fence.wide 2 P gf lb encs Kp S Sp N w0)
    (hKt : ∀ {A B C : World}, Kp A B → Kp B C → Kp A C) (hKb : ∀ (W : World) (l : Nat) (o o' : Obj), w.heap.size ≤ l → W.heap[l]? = some o → o.isCells = false → o.isWalk = false → Kp W (W.putObj l o')) (hb0 : Below w0.heap.size w0 w) (hps : ∀ x, (encs x).size = ps.size)
    (I : List α → World → Prop) (hI : OwnFrom w.heap.size I) (h0 : I [] w) (a₁ : α → Nat → Act) (X : α → Nat → World → Prop) (hX : ∀ x sk, OwnFrom w.heap.size (fun (_ : Unit) W => X x sk W))
    (hassign : ∀ (l : Nat) (pre : List α) (x : α) (W : World) (K : Act → World → Prop), I pre W → (∀ sk W', KeepsFrom w.heap.size W W' → Kp W W' → I pre W' → X x sk W' → K (a₁ x sk) W') →
      assign.wpIn (Fence.wide.inRound l) 1 P (Exit.then K (fun _ _ _ => False)) { tmps := (ps.zip (encs x)).foldl (fun t (p, v) => t.setIfInBounds p v) a.tmps, defers := [] } W)
    (hbody : ∀ (l : Nat) (pre : List α) (x : α) (sk : Nat) (W : World), I pre W → X x sk W → pre.length < N → body.wpIn (Fence.wide.inRound l) 1 P (ownPostG w.heap.size Kp I (fun _ _ _ => False) (pre ++ [x]) W) (a₁ x sk) W)
    (hdone : ∀ (D : Nat) (xs : List α) (W : World), w.heap.size ≤ D → S xs → I xs W → W.heap[D]? = some (.deferred (some [])) → Q .normal { a with defers := { target := .collected D, args := #[] } :: a.defers } W) :
    (Code.rangeFunc g ps assign body).wp P Q a w :=
  (wpIn_wide (n := 3)).1 (wpIn_rangeFunc_ownH rfl (by omega) hg trivial eg hseq hKt hKb hb0 hps I (fun _ _ _ => False) hI (fun _ _ _ _ _ hs _ _ => hs) h0 (fun x a' W => ∃ sk, a' = a₁ x sk ∧ X x sk W)
    (fun x a' s W W' row hs hg hr => by obtain ⟨sk, e, hx⟩ := hs; exact ⟨sk, e, hX x sk s W W' row hx hg hr⟩)
    (fun l pre x W K hi hK => hassign l pre x W K hi (fun sk W' h1 h2 h3 h4 => hK _ W' h1 h2 h3 ⟨sk, rfl, h4⟩))
    (fun l pre x a' W _ _ hi ha hl => by obtain ⟨sk, rfl, hx⟩ := ha; exact hbody l pre x sk W hi hx hl) hdone (fun _ _ _ _ _ _ h _ => h.elim))

theorem downs_succ (R : Nat) : downs (R + 1) (R + 1) = R :: downs R R := by
  unfold downs
  rw [List.range_succ_eq_map, List.map_cons, List.map_map]
  congr 1
  apply List.map_congr_left
  intro i _
  show R + 1 - 1 - (i + 1) = R - 1 - i
  omega
/-- back, round by round -/
theorem down_fold (key : List UInt8) : ∀ (R : Nat) (s : List UInt8), aesDown key R s = xorL ((downs R R).foldl (fun s x => aesRoundBack key (x + 1) s) s) (aesKey key 0)
  | 0, s => rfl
  | R + 1, s => by rw [aesDown, down_fold key R, downs_succ, List.foldl_cons]

theorem storeSqIn {F : Fence} {m : Nat} {ops : Array Oper} {rest : List Oper} {o : Oper} {a : Act} {w : World} {Q : Exit → Act → World → Prop} (hgd : o.guard = none) (x y : Operand) (ho : o.op = .store 84 x y) (g : Nat) (l' l : List UInt8)
    (hx : a.eval x = .pointer (some ⟨g, 0, none⟩)) (hy : a.eval y = .agg (l'.map vb).toArray) (h : Sq w g l) (hl : l'.length = 16)
    (k : ∀ w', Sq w' g l' → w.grownBy w' (some g) → wpListIn F m Try.prog ops Q rest (a.put o.dst undef) w') : wpListIn F m Try.prog ops Q (o :: rest) a w := by
  refine wpListIn_plain hgd fun K hK' => ?_
  obtain ⟨w', hrun, h1, h2⟩ := run_storeSq h l' hl
  unfold Oper.wpIn
  refine ⟨?_, ?_⟩
  · simp [Oper.about, ho]
  · rw [Oper.semAt_plain F _ _ (by rw [ho]; intro c hc'; cases hc')]
    simp [execOp, ho, hx, hy, hrun, Result.andThen]
    exact hK' _ _ (k w' h1 h2)
end Lg
