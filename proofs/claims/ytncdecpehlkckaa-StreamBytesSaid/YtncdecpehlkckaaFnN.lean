/-
The cipher of a key (cipher.New). No condition but the key's length and that the field is one that New made.
-/
import Derived.Test.YtncdecpehlkckaaFnM
import Derived.RangeFuncBox
import Derived.Great.BuildSlice
import Derived.Deep.CutRange
import Derived.Deep.CutBlock
namespace Lg
set_option linter.unusedSimpArgs false
open Go Go.RowKit Go.Proofs Go.Shelf
attribute [local go_sem] Oper.semAt_some

theorem zeroCip : Try.zeroCells73.toList = cipC (.pointer none) (.slice none 0 0) (boxAt 0) (backAt 0) := by
  have h : Try.zeroCells73 = (cipC (.pointer none) (.slice none 0 0) (boxAt 0) (backAt 0)).toArray := by kernel_rfl
  rw [h]

theorem infoSl : True := trivial
theorem infoT : (Try.prog.info? 84).map (fun i => (i.zero, i.size, i.bytes)) = some (some (.agg ((List.replicate 16 (0 : UInt8)).map vb).toArray), 16, 16) := by kernel_rfl

/-- Each of these values is a slice of one's own that reads as the list at its place. -/
def EachO (w : World) (B : Nat) (vs : List Value) (ls : List (List UInt8)) : Prop :=
  vs.length = ls.length ∧ ∀ (i : Nat) (v : Value) (l : List UInt8), vs[i]? = some v → ls[i]? = some l → ∃ a c, v = .slice a l.length c ∧ Ow w B 5 a l.length c (l.map vb)
theorem EachO.keep {w w' : World} {B : Nat} {vs : List Value} {ls : List (List UInt8)} (h : EachO w B vs ls) (hk : ∀ A n c xs, Ow w B 5 A n c xs → Ow w' B 5 A n c xs) : EachO w' B vs ls :=
  ⟨h.1, fun i v l hv hl => by
    obtain ⟨a, c, e, hs⟩ := h.2 i v l hv hl
    exact ⟨a, c, e, hk _ _ _ _ hs⟩⟩
theorem EachO.each {w : World} {B : Nat} {vs : List Value} {ls : List (List UInt8)} (h : EachO w B vs ls) : Each w vs ls :=
  ⟨h.1, fun i v l hv hl => by
    obtain ⟨a, c, e, hs⟩ := h.2 i v l hv hl
    exact ⟨a, c, e, hs.sl⟩⟩
theorem EachO.snoc {w : World} {B : Nat} {vs : List Value} {ls : List (List UInt8)} (h : EachO w B vs ls) {a : Option Addr} {c : Nat} {l : List UInt8} (ho : Ow w B 5 a l.length c (l.map vb)) :
    EachO w B (vs ++ [.slice a l.length c]) (ls ++ [l]) := by
  refine ⟨by simp [h.1], fun i v l' hv hl => ?_⟩
  rw [List.getElem?_append] at hv hl
  by_cases hi : i < ls.length
  · rw [if_pos (by rw [h.1]; exact hi)] at hv
    rw [if_pos hi] at hl
    exact h.2 i v l' hv hl
  · rw [if_neg (by rw [h.1]; exact hi)] at hv
    rw [if_neg hi] at hl
    rw [h.1] at hv
    cases hj : i - ls.length with
    | zero =>
      rw [hj] at hv hl
      simp at hv hl
      subst hv; subst hl
      exact ⟨a, c, rfl, ho⟩
    | succ j => rw [hj] at hv; simp at hv

/-- Slices whose elements are of unlike types lie in unlike blocks. -/
theorem ow_ne {w : World} {B B' n c n' c' : Nat} {E E' : TypeId} {A A' : Option Addr} {xs ys : List Value} (h : Ow w B E A n c xs) (k : Ow w B' E' A' n' c' ys) (hne : E ≠ E') : rowOf A c = none ∨ rowOf A c ≠ rowOf A' c' := by
  cases hr : rowOf A c with
  | none => exact .inl rfl
  | some g =>
    refine .inr (fun e => ?_)
    obtain ⟨_, _, cs, h1⟩ := h.row hr
    obtain ⟨_, _, cs', h2⟩ := k.row e.symm
    rw [h1] at h2
    injection h2 with h2
    injection h2 with _ ht
    exact hne ht

/-- The words so far: the variable in block b, its row and the words from B on. -/
structure Words (w : World) (b B : Nat) (A : Option Addr) (c : Nat) (ls : List (List UInt8)) : Prop where
  var : Blk w b 49 [.slice A ls.length c]
  row : ∃ vs, Ow w B 22 A ls.length c vs ∧ EachO w B vs ls

theorem Words.turn {w w' : World} {b B c : Nat} {A : Option Addr} {ls : List (List UInt8)} {row : Option Nat} (h : Words w b B A c ls) (hg : w.grownBy w' row) (hr : NoCells w row) : Words w' b B A c ls := by
  obtain ⟨vs, ho, he⟩ := h.row
  exact ⟨h.var.turn hg hr, vs, ho.turn hg hr, he.keep fun _ _ _ _ h => h.turn hg hr⟩
theorem Words.keep {w w' : World} {b B c : Nat} {A : Option Addr} {ls : List (List UInt8)} (h : Words w b B A c ls) (hb : Below w.heap.size w w') : Words w' b B A c ls := by
  obtain ⟨vs, ho, he⟩ := h.row
  exact ⟨h.var.keep hb, vs, ho.below hb, he.keep fun _ _ _ _ h => h.below hb⟩
theorem Words.drewN {w : World} {b B c : Nat} {A : Option Addr} {ls : List (List UInt8)} (h : Words w b B A c ls) (n : Nat) : Words (w.drewN n) b B A c ls := by
  obtain ⟨vs, ho, he⟩ := h.row
  exact ⟨h.var, vs, ho.drewN n, he.keep fun _ _ _ _ h => h.drewN n⟩

theorem Words.get {w : World} {b B c : Nat} {A : Option Addr} {ls : List (List UInt8)} (h : Words w b B A c ls) (hn : 0 < ls.length) :
    ∃ gr off, A = some ⟨gr, off, none⟩ ∧ ∀ i, i < ls.length → ∃ t a c', ls[i]? = some t ∧ w.cell? ⟨gr, off + i, none⟩ = some (.slice a t.length c') ∧ Ow w B 5 a t.length c' (t.map vb) := by
  obtain ⟨vs, ho, he⟩ := h.row
  obtain ⟨gr, off, e, _, _, _, hc, _⟩ := ho.at_ hn
  refine ⟨gr, off, e, fun i hi => ?_⟩
  have hv : i < vs.length := by rw [he.1]; exact hi
  obtain ⟨a, c', e', ho'⟩ := he.2 i vs[i] ls[i] (List.getElem?_eq_getElem hv) (List.getElem?_eq_getElem hi)
  exact ⟨ls[i], a, c', List.getElem?_eq_getElem hi, by rw [hc i _ (List.getElem?_eq_getElem hv), e'], ho'⟩

theorem aesWords_length (l : List UInt8) (n k : Nat) : (aesWords l n k).length = n + k := by
  induction k with
  | zero => simp [aesWords]
  | succ k ih => simp [aesWords, ih]; omega
theorem aesNext_length {n : Nat} {ws : List (List UInt8)} (hn : 0 < n) (hw : n ≤ ws.length) (h : ∀ x ∈ ws, x.length = 4) : (aesNext n ws).length = 4 := by
  have g : ∀ j, j < ws.length → (ws.getD j []).length = 4 := fun j hj => by
    rw [List.getD_eq_getElem?_getD, List.getElem?_eq_getElem hj]
    exact h _ (List.getElem_mem hj)
  have h1 := g (ws.length - 1) (by omega)
  have h2 := g (ws.length - n) (by omega)
  unfold aesNext
  simp only
  rw [xorL_length, h2]
  split
  · rfl
  · split
    · rw [List.length_map, h1]; rfl
    · rw [h1]; rfl
theorem aesWords_word (l : List UInt8) (n : Nat) (hn : 0 < n) (hl : l.length = 4 * n) : ∀ (k : Nat) (x : List UInt8), x ∈ aesWords l n k → x.length = 4
  | 0, x, hx => by
    obtain ⟨i, hi, rfl⟩ := List.mem_map.1 hx
    have := List.mem_range.1 hi
    rw [List.length_take, List.length_drop]; omega
  | k + 1, x, hx => by
    rcases List.mem_append.1 hx with h | h
    · exact aesWords_word l n hn hl k x h
    · simp at h
      subst h
      exact aesNext_length hn (by rw [aesWords_length]; omega) (aesWords_word l n hn hl k)

/-- words = append(words, x), and stored again -/
theorem Words.push {w : World} {b B c : Nat} {A : Option Addr} {ls : List (List UInt8)} (h : Words w b B A c ls) {a : Option Addr} {c2 : Nat} {x : List UInt8} (hx : Ow w B 5 a x.length c2 (x.map vb)) (ty : TypeId)
    {h0 : Nat} (hlit : Blk w h0 22 [.slice a x.length c2]) (hlen : ls.length + 1 ≤ 1099511627776) (hB : B ≤ w.heap.size) (hbB : b < B) :
    ∃ A' c' w', (Builtin.append_ #[49, 49] ty #[.slice A ls.length c, .slice (some ⟨h0, 0, none⟩) 1 1]).run Try.prog w = .ok (.slice A' (ls.length + 1) c') w' ∧
      Words (w'.setCell ⟨b, 0, none⟩ (.slice A' (ls.length + 1) c')) b B A' c' (ls ++ [x]) ∧ w.grownBy w' (rowOf A c) ∧ (∀ k, rowOf A c = some k → B ≤ k ∧ ∃ cs, w.heap[k]? = some (.cells cs 22 (0, 0))) ∧ Blk w' b 49 [.slice A ls.length c] := by
  obtain ⟨vs, ho, he⟩ := h.row
  obtain ⟨i, hi, hz, hsz, hb⟩ := info_parts infoS
  have hs1 : Sl w (some ⟨h0, 0, none⟩) 1 1 [.slice a x.length c2] := (hlit.own (B := 0) (Nat.zero_le _) (by simp [maxLen])).sl
  obtain ⟨A', c', w', hrun, h1, h2, h3⟩ := run_append_sl (P := Try.prog) w 49 ty 22 i _ 24 Try.underlying49 hi hz hsz hb rfl B A ls.length c vs ho (some ⟨h0, 0, none⟩) 1 1 _ hs1
    (by intro u hu; simp at hu; subst hu; rfl) (by simp only [maxLen]; omega) (by omega) hB
  have hrow : ∀ k, rowOf A c = some k → B ≤ k := fun k hk => (ho.row hk).1
  have hbb := Blk.lt h.var
  have hv' : Blk w' b 49 [.slice A ls.length c] := h.var.grown h2 (fun e => by have := hrow b e; omega)
  refine ⟨A', c', w', hrun, ?_, h2, fun k hk => ⟨(ho.row hk).1, (ho.row hk).2.2⟩, hv'⟩
  have hl : (ls ++ [x]).length = ls.length + 1 := by simp
  refine ⟨?_, vs ++ [.slice a x.length c2], ?_, ?_⟩
  · rw [hl]
    exact hv'.set_ 0 _
  · rw [hl]
    refine h1.far (fun e => ?_) _
    have := (h1.row e).1
    simp at this
    omega
  · refine ((he.snoc hx).keep fun A2 n2 c3 xs2 ho2 => ?_)
    have e1 := ho2.grown h2 (ow_ne ho2 ho (by decide))
    exact e1.far (fun e => by have := (e1.row e).1; simp at this; omega) _

theorem wp_of_append {o : Oper} {a : Act} {w w' : World} {K : Act → World → Prop} {Q : Exit → Act → World → Prop} (s x : Operand) (t : TypeId) (ho : o.op = .call { callee := .builtin .append, args := #[s, x], argTypes := #[t, t] })
    (v1 v2 v : Value) (hs : a.eval s = v1) (hx : a.eval x = v2) (hrun : (Builtin.append_ #[t, t] o.type #[v1, v2]).run Try.prog w = .ok v w') (h : K (a.put o.dst v) w') : o.wp Try.prog a w K Q := by
  unfold Oper.wp execOp
  simp only [ho, resolve, invoke, builtin, Sem.run_bind, Sem.run_pure, Result.andThen_ok, List.map_toArray, List.map_cons, List.map_nil, hs, hx, hrun]
  exact h

theorem keeps_below {B : Nat} {W W' : World} (h : Below W.heap.size W W') : KeepsFrom B W W' := KeepsFrom.of_cells (row := none) (grownBy_of_below h) (fun _ _ e => by cases e)
theorem keeps_setCell {B b : Nat} {W : World} {t : TypeId} {xs : List Value} (h : Blk W b t xs) (v : Value) : KeepsFrom B W (W.setCell ⟨b, 0, none⟩ v) :=
  KeepsFrom.of_cells (row := some b) (Gr.setCell (Gr.refl W (some b)) 0 v) (fun j o e ho => by cases e; unfold Blk at h; rw [h] at ho; cases ho; rfl)
theorem keeps_row {B : Nat} {W W' : World} {row : Option Nat} {t : TypeId} (h : W.grownBy W' row) (hr : ∀ k, row = some k → ∃ cs, W.heap[k]? = some (.cells cs t (0, 0))) : KeepsFrom B W W' :=
  KeepsFrom.of_cells h (fun j o e ho => by obtain ⟨cs, hc⟩ := hr j e; rw [hc] at ho; cases ho; rfl)

theorem tab_of_cip {w : World} {g : Nat} {fv kv : Value} (h : Cip w g fv kv (boxAt 256) (backAt 256)) : Tab w g 2 sbox ∧ Tab w g 258 isbox := by
  refine ⟨⟨Blk.lt h, fun x => ?_⟩, ⟨Blk.lt h, fun x => ?_⟩⟩
  · have hx := x.toNat_lt
    rw [Blk.cell h, cipC, show 2 + x.toNat = (x.toNat + 1) + 1 by omega, List.getElem?_cons_succ, List.getElem?_cons_succ, List.getElem?_map, List.getElem?_append_left (by rw [boxAt_length]; omega)]
    simp [boxAt, hx]
  · have hx := x.toNat_lt
    rw [Blk.cell h, cipC, show 258 + x.toNat = (256 + x.toNat + 1) + 1 by omega, List.getElem?_cons_succ, List.getElem?_cons_succ, List.getElem?_map, List.getElem?_append_right (by rw [boxAt_length]; omega), boxAt_length,
      show 256 + x.toNat - 256 = x.toNat by omega]
    have hi := (isbox x).toNat_lt
    simp [backAt, hx, hi]

theorem Mul_two (b : Nat) (x : UInt8) (w : World) (hF : Fl w b) :
    Calls Try.prog 52 #[.pointer (some ⟨b, 0, none⟩), vb x, .int .u8 2] w fun e w' => e = .returned (vb (xt x)) ∧ ∃ n, w' = w.drewN n := by
  have e : ∀ x, mul x 2 = xt x := all_bytes (by decide +kernel)
  have h := Mul_any b x 2 w hF
  rw [e] at h
  exact h

theorem Xor_four (A1 A2 : Option Addr) (c1 c2 : Nat) (l1 l2 : List UInt8) (w : World) (h1 : Sl w A1 4 c1 (l1.map vb)) (h2 : Sl w A2 4 c2 (l2.map vb)) :
    Calls Try.prog 53 #[.slice A1 4 c1, .slice A2 4 c2] w fun e w' => ∃ A' c', e = .returned (.slice A' 4 c') ∧ Ow w' w.heap.size 5 A' 4 c' ((xorL l1 l2).map vb) ∧ Below w.heap.size w w' :=
  Xor_any A1 A2 4 c1 4 c2 l1 l2 w h1 h2 (by omega)

theorem ChunkB_four (A : Option Addr) (n c : Nat) (w : World) :
    Calls Try.prog 49 #[.slice A n c, .int .i64 4] w fun e w' => e = .returned (.func (.func 87) #[] #[.pointer (some ⟨w.heap.size, 0, none⟩), .pointer (some ⟨w.heap.size + 1, 0, none⟩)]) ∧
      (w.alloc (.cells #[.slice A n c] 22)).alloc (.cells #[vi 4] 3) = w' := ChunkB_any A n c 4 (by omega) w
theorem ChunkR_four (A : Option Addr) (n c : Nat) (w : World) :
    Calls Try.prog 54 #[.slice A n c, .int .i64 4] w fun e w' => e = .returned (.func (.func 88) #[] #[.pointer (some ⟨w.heap.size, 0, none⟩), .pointer (some ⟨w.heap.size + 1, 0, none⟩)]) ∧
      (w.alloc (.cells #[.slice A n c] 49)).alloc (.cells #[vi 4] 3) = w' := ChunkR_any A n c 4 (by omega) w

/-- What stands while the words are made. -/
structure St (w0 : World) (g f b : Nat) (ls : List (List UInt8)) (W : World) : Prop where
  below : Below g w0 W
  cip : Cip W g (.pointer (some ⟨f, 0, none⟩)) (.slice none 0 0) (boxAt 256) (backAt 256)
  ptr : Blk W (g + 1) 25 [.pointer (some ⟨g, 0, none⟩)]
  fl : Fl W f
  words : ∃ A c, Words W b (b + 3) A c ls
  size : b + 3 ≤ W.heap.size
theorem St.turn {w0 : World} {g f b : Nat} {ls : List (List UInt8)} {W W' : World} {row : Option Nat} (h : St w0 g f b ls W) (hg0 : g ≤ w0.heap.size) (hg : W.grownBy W' row) (hr : NoCells W row) (hge : ∀ k, row = some k → g ≤ k) : St w0 g f b ls W' := by
  obtain ⟨A, c, hw⟩ := h.words
  exact ⟨h.below.grown hg (Nat.le_trans hg0 h.below.size) hge, Blk.turn h.cip hg hr, h.ptr.turn hg hr, Blk.turn h.fl hg hr, ⟨A, c, hw.turn hg hr⟩, Nat.le_trans h.size hg.size⟩
theorem St.keep {w0 : World} {g f b : Nat} {ls : List (List UInt8)} {W W' : World} (h : St w0 g f b ls W) (hg0 : g ≤ w0.heap.size) (hb : Below W.heap.size W W') : St w0 g f b ls W' := by
  obtain ⟨A, c, hw⟩ := h.words
  exact ⟨below_then h.below hb (Nat.le_trans hg0 h.below.size), Blk.keep h.cip hb, h.ptr.keep hb, Blk.keep h.fl hb, ⟨A, c, hw.keep hb⟩, Nat.le_trans h.size hb.size⟩

theorem St.push {w0 : World} {g f b : Nat} {ls ls' : List (List UInt8)} {W W' : World} {A A' : Option Addr} {c c' : Nat} {v : Value} (h : St w0 g f b ls W) (hg0 : g ≤ w0.heap.size) (hfg : f < g) (hgb : g + 2 ≤ b)
    (hg : W.grownBy W' (rowOf A c)) (hr : ∀ k, rowOf A c = some k → b + 3 ≤ k) (hw : Words (W'.setCell ⟨b, 0, none⟩ v) b (b + 3) A' c' ls') : St w0 g f b ls' (W'.setCell ⟨b, 0, none⟩ v) := by
  have hn : ∀ j, j < b → rowOf A c ≠ some j := fun j hj e => by have := hr j e; omega
  refine ⟨(h.below.grown hg (Nat.le_trans hg0 h.below.size) (fun k e => by have := hr k e; omega)).setCell (p := ⟨b, 0, none⟩) (by show g ≤ b; omega) _, ?_, ?_, ?_, ⟨A', c', hw⟩, ?_⟩
  · exact (Blk.grown h.cip hg (hn g (by omega))).far (p := ⟨b, 0, none⟩) (by show g ≠ b; omega) _
  · exact (h.ptr.grown hg (hn (g + 1) (by omega))).far (p := ⟨b, 0, none⟩) (by show g + 1 ≠ b; omega) _
  · exact (Blk.grown h.fl hg (hn f (by omega))).far (p := ⟨b, 0, none⟩) (by show f ≠ b; omega) _
  · have := h.size
    have := hg.size
    have e : (W'.setCell ⟨b, 0, none⟩ v).heap.size = W'.heap.size := by simp [World.setCell]
    omega
theorem two_row {b1 b2 : Nat} {W W' : World} {row : Option Nat} (h : W.grownBy W' row) (h1 : b1 < W.heap.size) (h2 : b2 < W.heap.size) (n1 : row ≠ some b1) (n2 : row ≠ some b2) : Two b1 b2 W W' :=
  ⟨h.block b1 h1 (Ne.symm n1), h.block b2 h2 (Ne.symm n2)⟩
theorem two_setCell {b1 b2 b : Nat} (W : World) (v : Value) (h1 : b1 ≠ b) (h2 : b2 ≠ b) : Two b1 b2 W (W.setCell ⟨b, 0, none⟩ v) :=
  ⟨Below.heap_setCell W ⟨b, 0, none⟩ v b1 h1, Below.heap_setCell W ⟨b, 0, none⟩ v b2 h2⟩

theorem aesNext_four {ls : List (List UInt8)} {k : Nat} {t u : List UInt8} (hll : ls.length = 4 + k) (ht : ls[3 + k]? = some t) (hu : ls[k]? = some u) :
    aesNext 4 ls = xorL (if k % 4 = 0 then [sbox (t.getD 1 0) ^^^ rcon (k / 4), sbox (t.getD 2 0), sbox (t.getD 3 0), sbox (t.getD 0 0)] else t) u := by
  unfold aesNext
  simp only
  have e1 : ls.getD (ls.length - 1) [] = t := by rw [hll, List.getD_eq_getElem?_getD, show 4 + k - 1 = 3 + k by omega, ht]; rfl
  have e2 : ls.getD (ls.length - 4) [] = u := by rw [hll, List.getD_eq_getElem?_getD, show 4 + k - 4 = k by omega, hu]; rfl
  rw [e1, e2, hll]
  by_cases hm : k % 4 = 0
  · rw [if_pos (by omega), if_pos hm, show (4 + k) / 4 - 1 = k / 4 by omega]
  · rw [if_neg (by omega), if_neg (by omega), if_neg hm]
theorem aesNext_eight {ls : List (List UInt8)} {k : Nat} {t u : List UInt8} (hll : ls.length = 8 + k) (ht : ls[7 + k]? = some t) (hu : ls[k]? = some u) :
    aesNext 8 ls = xorL (if k % 8 = 0 then [sbox (t.getD 1 0) ^^^ rcon (k / 8), sbox (t.getD 2 0), sbox (t.getD 3 0), sbox (t.getD 0 0)] else if k % 8 = 4 then t.map sbox else t) u := by
  unfold aesNext
  simp only
  have e1 : ls.getD (ls.length - 1) [] = t := by rw [hll, List.getD_eq_getElem?_getD, show 8 + k - 1 = 7 + k by omega, ht]; rfl
  have e2 : ls.getD (ls.length - 8) [] = u := by rw [hll, List.getD_eq_getElem?_getD, show 8 + k - 8 = k by omega, hu]; rfl
  rw [e1, e2, hll]
  by_cases hm : k % 8 = 0
  · rw [if_pos (by omega), if_pos hm, show (8 + k) / 8 - 1 = k / 8 by omega]
  · rw [if_neg (by omega), if_neg hm]
    by_cases hm4 : k % 8 = 4
    · rw [if_pos ⟨trivial, by omega⟩, if_pos hm4]
    · rw [if_neg (by omega), if_neg hm4]
theorem Rows.cut {w : World} {A : Option Addr} {n c : Nat} {ls : List (List UInt8)} (h : Rows w A n c ls) (i m : Nat) (hi : i + m ≤ n) (hm : 0 < m) : Rows w (A.map (·.add (i * 1))) m m ((ls.drop i).take m) := by
  obtain ⟨vs, hs, he⟩ := h
  have h1 := hs.cut i (i + m) (i + m) (by omega) hi (by omega) (by have := hs.le; omega)
  rw [if_neg (by omega), show i + m - i = m by omega] at h1
  refine ⟨(vs.drop i).take m, h1, by rw [List.length_take, List.length_drop, List.length_take, List.length_drop, he.1], fun j v l hv hl => ?_⟩
  rw [List.getElem?_take] at hv hl
  split at hv
  · rename_i hj
    rw [if_pos hj] at hl
    rw [List.getElem?_drop] at hv hl
    exact he.2 _ v l hv hl
  · cases hv
theorem Words.rows {w : World} {b B : Nat} {A : Option Addr} {c : Nat} {ls : List (List UInt8)} (h : Words w b B A c ls) : Rows w A ls.length c ls := by
  obtain ⟨vs, ho, he⟩ := h.row
  exact ⟨vs, ho.sl, he.each⟩
theorem total_four {ls : List (List UInt8)} (h : ∀ x ∈ ls, x.length = 4) : total ls = 4 * ls.length := by
  induction ls with
  | nil => rfl
  | cons a r ih =>
    have h1 := h a (by simp)
    have h2 := ih (fun x hx => h x (by simp [hx]))
    simp [total] at h2 ⊢
    omega

theorem wp_s2ap {o : Oper} {a : Act} {w : World} {K : Act → World → Prop} {Q : Exit → Act → World → Prop} (x : Operand) (ho : o.op = .sliceToArrayPointer 84 x) (p : Addr) (c : Nat) (hx : a.eval x = .slice (some p) 16 c)
    (h : K (a.put o.dst (.pointer (some p))) w) : o.wp Try.prog a w K Q := by
  unfold Oper.wp execOp
  simp [ho, hx, Instr.arrayAt, run_underlying Try.underlying84, Result.andThen]
  exact h
theorem fold_set : ∀ (xs : List Value) (k : Nat) (cs : Array Value), k + xs.length = cs.size → (xs.zipIdx k).foldl (fun cs p => cs.setIfInBounds (0 + p.2) p.1) cs = (cs.toList.take k ++ xs).toArray
  | [], k, cs, h => by
    have : cs.toList.take k = cs.toList := List.take_of_length_le (by simp at h ⊢; omega)
    simp [this]
  | x :: xs, k, cs, h => by
    have h' : k + 1 + xs.length = (cs.setIfInBounds (0 + k) x).size := by simp at h ⊢; omega
    rw [List.zipIdx_cons, List.foldl_cons, fold_set xs (k + 1) (cs.setIfInBounds (0 + k) x) h']
    have hk : k < cs.toList.length := by simp at h ⊢; omega
    congr 1
    rw [Array.toList_setIfInBounds, Nat.zero_add, List.take_add_one, List.getElem?_set, if_pos rfl, if_pos hk, List.take_set_of_le (Nat.le_refl _)]
    simp
theorem fill16 (zs : Array Value) (hz : zs.size = 16) (x : List Value) (hx : x.length = 16) : Instr.fill (fun i => some (i * 16, 16)) zs [(0, .agg x.toArray)] = some x.toArray := by
  have h := fold_set x 0 zs (by omega)
  simp [Instr.fill, Value.cells, hx, hz]
  simpa using h
theorem wp_build16 {o : Oper} {a : Act} {w : World} {K : Act → World → Prop} {Q : Exit → Act → World → Prop} (x : Operand) (ho : o.op = .buildSlice 70 1 #[(0, x)]) (l : List UInt8) (hl : l.length = 16) (hx : a.eval x = .agg (l.map vb).toArray)
    (h : K (a.put o.dst (.slice (some ⟨w.heap.size, 0, none⟩) 1 1)) (w.alloc (.cells (l.map vb).toArray 84))) : o.wp Try.prog a w K Q := by
  obtain ⟨i, hi, hz, hsz, hb⟩ := info_parts infoT
  refine wp_buildSlice 70 84 1 #[(0, x)] ho (l.map vb).toArray i _ Try.underlying70 hi hz (by rw [hsz]; decide) (by rw [hsz]; decide) ?_ h
  rw [hsz]
  simp only [List.map_toArray, List.map_cons, List.map_nil, hx]
  exact fill16 _ (by simp) _ (by rw [List.length_map, hl])

theorem Concat_16 (A : Option Addr) (c : Nat) (ls : List (List UInt8)) (w : World) (h1 : Rows w A 4 c ls) (h : ∀ x ∈ ls, x.length = 4) :
    Calls Try.prog 55 #[.slice A 4 c] w fun e w' => ∃ g off c', e = .returned (.slice (some ⟨g, off, none⟩) 16 c') ∧ Ow w' w.heap.size 5 (some ⟨g, off, none⟩) 16 c' (ls.flatten.map vb) ∧ Below w.heap.size w w' := by
  have ht : total ls = 16 := by rw [total_four h, h1.len]
  have q := Concat_any A 4 c ls w h1 (by omega) (by omega)
  rw [ht] at q
  refine q.mono ?_
  rintro e w' ⟨A', c', rfl, ho, hb⟩
  obtain ⟨g, off, rfl, _⟩ := ho.at_ (by omega)
  exact ⟨g, off, c', rfl, ho, hb⟩

/-- What stands while the round keys are made. -/
structure Kst (w0 : World) (g f b D : Nat) (Aw : Option Addr) (cw : Nat) (ls ks : List (List UInt8)) (kv : Value) (W : World) : Prop where
  below : Below g w0 W
  cip : Cip W g (.pointer (some ⟨f, 0, none⟩)) kv (boxAt 256) (backAt 256)
  ptr : Blk W (g + 1) 25 [.pointer (some ⟨g, 0, none⟩)]
  fl : Fl W f
  words : Words W b (b + 3) Aw cw ls
  own : W.ownsRow (b + 3) 84 16 kv ks.length (ks.flatten.map vb)
  mark : W.heap[D]? = some (.deferred (some []))
theorem ownBlock_cells {W : World} {B n : Nat} {E : TypeId} {s : Nat} {kv : Value} {xs : List Value} (h : W.ownsRow B E s kv n xs) : ∀ k, kv.ownBlock = some k → B ≤ k ∧ ∃ cs, W.heap[k]? = some (.cells cs E (0, 0)) := by
  intro k hk
  rcases h.2 with ⟨rfl, _⟩ | ⟨gg, cap, cur, rfl, hB, hg, _⟩
  · cases hk
  · cases hk
    exact ⟨hB, cur, hg⟩
theorem own_turn {W W' : World} {B n : Nat} {E : TypeId} {s : Nat} {kv : Value} {xs : List Value} {row : Option Nat} (h : W.ownsRow B E s kv n xs) (hg : W.grownBy W' row) (hr : NoCells W row) : W'.ownsRow B E s kv n xs := by
  refine h.kept hg ?_
  cases hk : kv.ownBlock with
  | none => exact .inl rfl
  | some k =>
    refine .inr (fun e => ?_)
    obtain ⟨_, cs, hc⟩ := ownBlock_cells h k hk
    obtain ⟨o, ho, hoc⟩ := hr k e.symm
    rw [hc] at ho
    cases ho
    cases hoc
theorem own_keep {W W' : World} {B n : Nat} {E : TypeId} {s : Nat} {kv : Value} {xs : List Value} (h : W.ownsRow B E s kv n xs) (hb : Below W.heap.size W W') : W'.ownsRow B E s kv n xs :=
  h.kept (row := none) (grownBy_of_below hb) (by cases hk : kv.ownBlock <;> simp)
theorem Kst.turn {w0 : World} {g f b D : Nat} {Aw : Option Addr} {cw : Nat} {ls ks : List (List UInt8)} {kv : Value} {W W' : World} {row : Option Nat} (h : Kst w0 g f b D Aw cw ls ks kv W) (hg0 : g ≤ w0.heap.size) (hg : W.grownBy W' row) (hr : NoCells W row) (hge : ∀ k, row = some k → g ≤ k) (hD : row ≠ some D) : Kst w0 g f b D Aw cw ls ks kv W' := by
  have hw := h.words
  exact ⟨h.below.grown hg (Nat.le_trans hg0 h.below.size) hge, Blk.turn h.cip hg hr, h.ptr.turn hg hr, Blk.turn h.fl hg hr, hw.turn hg hr, own_turn h.own hg hr, (hg.block D (lt_of_heap h.mark) (Ne.symm hD)).trans h.mark⟩
theorem Kst.keep {w0 : World} {g f b D : Nat} {Aw : Option Addr} {cw : Nat} {ls ks : List (List UInt8)} {kv : Value} {W W' : World} (h : Kst w0 g f b D Aw cw ls ks kv W) (hg0 : g ≤ w0.heap.size) (hb : Below W.heap.size W W') : Kst w0 g f b D Aw cw ls ks kv W' := by
  have hw := h.words
  exact ⟨below_then h.below hb (Nat.le_trans hg0 h.below.size), Blk.keep h.cip hb, h.ptr.keep hb, Blk.keep h.fl hb, hw.keep hb, own_keep h.own hb, (hb.block D (lt_of_heap h.mark)).trans h.mark⟩

/-- The cipher of a key lies in block g. -/
def CipOk (w : World) (g : Nat) (key : List UInt8) : Prop := ∃ f gk cap, Cip w g (.pointer (some ⟨f, 0, none⟩)) (.slice (some ⟨gk, 0, none⟩) (aesRounds key + 1) cap) (boxAt 256) (backAt 256) ∧ Fl w f ∧
  w.ownsRow 0 84 16 (.slice (some ⟨gk, 0, none⟩) (aesRounds key + 1) cap) (aesRounds key + 1) (((List.range (aesRounds key + 1)).map (aesKey key)).flatten.map vb)
theorem CipOk.turn {w w' : World} {g : Nat} {key : List UInt8} {row : Option Nat} (h : CipOk w g key) (hg : w.grownBy w' row) (hr : NoCells w row) : CipOk w' g key := by
  obtain ⟨f, gk, cap, h1, h2, h3⟩ := h
  exact ⟨f, gk, cap, Blk.turn h1 hg hr, Blk.turn h2 hg hr, own_turn h3 hg hr⟩
theorem CipOk.keep {w w' : World} {g : Nat} {key : List UInt8} (h : CipOk w g key) (hb : Below w.heap.size w w') : CipOk w' g key := by
  obtain ⟨f, gk, cap, h1, h2, h3⟩ := h
  exact ⟨f, gk, cap, Blk.keep h1 hb, Blk.keep h2 hb, own_keep h3 hb⟩
theorem Kst.ok {w0 : World} {g f b D : Nat} {Aw : Option Addr} {cw : Nat} {ls ks : List (List UInt8)} {kv : Value} {W : World} (h : Kst w0 g f b D Aw cw ls ks kv W) {key : List UInt8} (hk : ks = (List.range (aesRounds key + 1)).map (aesKey key)) : CipOk W g key := by
  have hl : ks.length = aesRounds key + 1 := by rw [hk]; simp
  have ho := h.own
  have hc := h.cip
  rcases ho.2 with ⟨_, h0⟩ | ⟨gk, cap, cur, rfl, hB, rest⟩
  · omega
  · rw [hl] at hc
    refine ⟨f, gk, cap, hc, h.fl, ?_⟩
    have q : W.ownsRow 0 84 16 (.slice (some ⟨gk, 0, none⟩) ks.length cap) ks.length (ks.flatten.map vb) := ⟨ho.1, .inr ⟨gk, cap, cur, rfl, Nat.zero_le _, rest⟩⟩
    rw [hl, hk] at q
    exact q

theorem cip_set_keys (fv kv kv' : Value) (box back : List UInt8) : (cipC fv kv box back).set 1 kv' = cipC fv kv' box back := rfl
/-- keys = append(keys, x), and stored again -/
theorem Kst.push {w0 : World} {g f b D : Nat} {Aw : Option Addr} {cw : Nat} {ls ks : List (List UInt8)} {kv : Value} {W : World} (h : Kst w0 g f b D Aw cw ls ks kv W) (hg0 : g ≤ w0.heap.size) (hfg : f < g) (hgb : g + 2 ≤ b) (hbW : b + 3 ≤ W.heap.size) (ty : TypeId) {h0 : Nat} {x : List UInt8} (hx : x.length = 16)
    (hlit : Blk W h0 84 (x.map vb)) (hlen : ks.length + 1 ≤ 1099511627776) :
    ∃ kv' W', (Builtin.append_ #[70, 70] ty #[kv, .slice (some ⟨h0, 0, none⟩) 1 1]).run Try.prog W = .ok kv' W' ∧ Kst w0 g f b D Aw cw ls (ks ++ [x]) kv' (W'.setCell ⟨g, 1, none⟩ kv') ∧
      W.grownBy W' kv.ownBlock ∧ (∀ k, kv.ownBlock = some k → b + 3 ≤ k ∧ ∃ cs, W.heap[k]? = some (.cells cs 84 (0, 0))) ∧ Kst w0 g f b D Aw cw ls ks kv { W with drawn := W.drawn } ∧ Cip W' g (.pointer (some ⟨f, 0, none⟩)) kv (boxAt 256) (backAt 256) ∧ Blk W' (g + 1) 25 [.pointer (some ⟨g, 0, none⟩)] := by
  obtain ⟨i, hi, hz, hsz, hb⟩ := info_parts infoT
  obtain ⟨kv', W', hrun, h1, h2, _⟩ := run_append_own (P := Try.prog) W (b + 3) 70 ty 84 i _ 16 16 Try.underlying70 hi hz hsz hb (by simp [Value.cells]) (by omega) kv ks.length _ h.own
    ⟨h0, 0, none⟩ 1 1 (x.map vb) (by simp [hx]) (fun j u hu => by rw [add_mk, Nat.zero_add, hlit.cell]; exact hu) vb_one (by simp only [maxLen]; omega) (by omega) hbW
  have hc := ownBlock_cells h.own
  have hn : ∀ j, j < b → kv.ownBlock ≠ some j := fun j hj e => by have := (hc j e).1; omega
  have hcip : Cip W' g (.pointer (some ⟨f, 0, none⟩)) kv (boxAt 256) (backAt 256) := Blk.grown h.cip h2 (hn g (by omega))
  have hptr : Blk W' (g + 1) 25 [.pointer (some ⟨g, 0, none⟩)] := h.ptr.grown h2 (hn (g + 1) (by omega))
  refine ⟨kv', W', hrun, ?_, h2, hc, h, hcip, hptr⟩
  have hw := h.words
  obtain ⟨vs, ho, he⟩ := hw.row
  have hbb := Blk.lt hw.var
  have hrowne : ∀ k, kv.ownBlock = some k → k ≠ b := fun k e => by have := (hc k e).1; omega
  have own_ne : ∀ {B' n' c' : Nat} {E' : TypeId} {A' : Option Addr} {ys : List Value}, Ow W B' E' A' n' c' ys → E' ≠ 84 → rowOf A' c' = none ∨ rowOf A' c' ≠ kv.ownBlock := fun ho' hne => by
    cases hr : rowOf _ _ with
    | none => exact .inl rfl
    | some k =>
      refine .inr (fun e => ?_)
      obtain ⟨_, _, cs, q1⟩ := ho'.row hr
      obtain ⟨_, cs', q2⟩ := hc k e.symm
      rw [q1] at q2
      injection q2 with q2
      injection q2 with _ ht
      exact hne ht
  have own_far : ∀ {B' n' c' : Nat} {E' : TypeId} {A' : Option Addr} {ys : List Value}, Ow W' B' E' A' n' c' ys → g < B' → ∀ u, Ow (W'.setCell ⟨g, 1, none⟩ u) B' E' A' n' c' ys := fun ho' hlt u =>
    ho'.far (fun e => by have := (ho'.row e).1; simp at this; omega) u
  refine ⟨?_, ?_, ?_, ?_, ⟨?_, vs, ?_, ?_⟩, ?_, ?_⟩
  · exact (h.below.grown h2 (Nat.le_trans hg0 h.below.size) (fun k e => by have := (hc k e).1; omega)).setCell (p := ⟨g, 1, none⟩) (Nat.le_refl g) _
  · have q := Blk.set_ hcip 1 kv'
    rw [cip_set_keys] at q
    exact q
  · exact hptr.far (p := ⟨g, 1, none⟩) (by show g + 1 ≠ g; omega) _
  · exact (Blk.grown h.fl h2 (hn f (by omega))).far (p := ⟨g, 1, none⟩) (by show f ≠ g; omega) _
  · exact (hw.var.grown h2 (fun e => hrowne b e rfl)).far (p := ⟨g, 1, none⟩) (by show b ≠ g; omega) _
  · exact own_far (ho.grown h2 (own_ne ho (by decide))) (by omega) _
  · exact he.keep fun A2 n2 c2 xs2 ho2 => own_far (ho2.grown h2 (own_ne ho2 (by decide))) (by omega) _
  · have q : (ks ++ [x]).flatten.map vb = ks.flatten.map vb ++ x.map vb := by simp
    rw [q, show (ks ++ [x]).length = ks.length + 1 by simp]
    refine h1.kept (row := some g) (Gr.setCell (Gr.refl W' (some g)) 1 kv') (.inr (fun e => ?_))
    have := (ownBlock_cells h1 g e).1
    omega
  · have q := (h2.block D (lt_of_heap h.mark) (fun e => by obtain ⟨_, cs, q⟩ := hc D e.symm; rw [h.mark] at q; cases q)).trans h.mark
    refine (Below.heap_setCell W' ⟨g, 1, none⟩ _ D (fun e => ?_)).trans q
    have e' : D = g := e
    have q1 := h.cip
    unfold Cip Blk at q1
    rw [← e', h.mark] at q1
    cases q1

end Lg
