/-
Words for memory: a slice of one-cell elements that reads as a list, or that the call made itself; what an append, a copy, a new row does to them. No condition; over any program.
-/
import Derived.WalkKit
import Derived.WalkSpells
import Derived.WalkLawsBesides
import Derived.Lib.Hide
import Derived.Deep.QuietTactic
import Derived.BigQuiet
namespace Lg
open Go Go.RowKit

abbrev vb (a : UInt8) : Value := .int .u8 (a.toNat : Int)
abbrev vi (a : Int) : Value := .int .i64 a

theorem block_add (a : Addr) (n : Nat) : (a.add n).block = a.block := by unfold Addr.add; split <;> rfl
theorem add_add (a : Addr) (i j : Nat) : (a.add i).add j = a.add (i + j) := by
  unfold Addr.add
  by_cases hi : i = 0 <;> by_cases hj : j = 0 <;> simp [hi, hj, Nat.add_assoc]
theorem add_mk (g o n : Nat) : (⟨g, o, none⟩ : Addr).add n = ⟨g, o + n, none⟩ := by unfold Addr.add; split <;> simp_all

/-- A slice that reads as the cells xs, nil let in. -/
structure Sl (w : World) (A : Option Addr) (n c : Nat) (xs : List Value) : Prop where
  len : xs.length = n
  le : n ≤ c
  cap : c ≤ maxLen
  at_ : 0 < n → ∃ ad, A = some ad ∧ ad.block < w.heap.size ∧ ∀ j u, xs[j]? = some u → w.cell? (ad.add j) = some u

/-- A slice that reads as the cells xs, all of whose room lies in a block from B on, which nobody has frozen. -/
structure Ow (w : World) (B : Nat) (E : TypeId) (A : Option Addr) (n c : Nat) (xs : List Value) : Prop where
  len : xs.length = n
  le : n ≤ c
  cap : c ≤ maxLen
  room : c = 0 ∨ ∃ (g off : Nat) (cs : Array Value), A = some ⟨g, off, none⟩ ∧ B ≤ g ∧ w.heap[g]? = some (.cells cs E (0, 0)) ∧ off + c ≤ cs.size ∧ ∀ j u, xs[j]? = some u → cs[off + j]? = some u

/-- The block in which such a slice has room. -/
def rowOf (A : Option Addr) (c : Nat) : Option Nat := if c = 0 then none else A.map (·.block)

/-- Block g is just the cells xs. -/
def Blk (w : World) (g : Nat) (t : TypeId) (xs : List Value) : Prop := w.heap[g]? = some (.cells xs.toArray t (0, 0))

section
variable {w w' : World} {B n c : Nat} {E : TypeId} {A : Option Addr} {xs : List Value}

theorem lt_of_heap {g : Nat} {o : Obj} (h : w.heap[g]? = some o) : g < w.heap.size := (Array.getElem?_eq_some_iff.1 h).1

theorem Sl.nil (w : World) : Sl w none 0 0 [] := ⟨rfl, Nat.le_refl _, by simp [maxLen], fun h => absurd h (by omega)⟩
theorem Sl.keep (h : Sl w A n c xs) (hk : ∀ k, k < w.heap.size → w'.heap[k]? = w.heap[k]?) : Sl w' A n c xs :=
  ⟨h.len, h.le, h.cap, fun hn => by
    obtain ⟨ad, e, hb, hc⟩ := h.at_ hn
    have hs : w.heap.size ≤ w'.heap.size := by
      rcases Nat.lt_or_ge w'.heap.size w.heap.size with hl | hl
      · have h1 := hk w'.heap.size hl
        rw [Array.getElem?_eq_none (Nat.le_refl _), Array.getElem?_eq_getElem hl] at h1
        cases h1
      · exact hl
    exact ⟨ad, e, by omega, fun j u hu => (World.cell?_of_block (by rw [block_add]; exact hk _ hb)).trans (hc j u hu)⟩⟩
theorem Sl.below (h : Sl w A n c xs) (hb : Below w.heap.size w w') : Sl w' A n c xs := h.keep hb.block
theorem Sl.drew (h : Sl w A n c xs) : Sl w.drew A n c xs := ⟨h.len, h.le, h.cap, h.at_⟩
theorem Sl.drewN (h : Sl w A n c xs) (k : Nat) : Sl (w.drewN k) A n c xs := ⟨h.len, h.le, h.cap, h.at_⟩
theorem Sl.alloc (h : Sl w A n c xs) (o : Obj) : Sl (w.alloc o) A n c xs := h.keep fun k hk => Below.heap_alloc w o k hk
theorem Sl.cell (h : Sl w A n c xs) {k : Nat} (hk : k < n) : ∃ ad u, A = some ad ∧ xs[k]? = some u ∧ w.cell? (ad.add k) = some u := by
  obtain ⟨ad, e, hb, hc⟩ := h.at_ (by omega)
  have hl : k < xs.length := by have := h.len; omega
  exact ⟨ad, xs[k], e, List.getElem?_eq_getElem hl, hc k _ (List.getElem?_eq_getElem hl)⟩

/-- with the address written out -/
theorem Sl.place (h : Sl w A n c xs) (hn : 0 < n) : ∃ g off, A = some ⟨g, off, none⟩ ∧ g < w.heap.size ∧ ∀ j u, xs[j]? = some u → w.cell? ⟨g, off + j, none⟩ = some u := by
  obtain ⟨ad, e, hb, hc⟩ := h.at_ hn
  have hs : ad.spot = none := by
    have hl : 0 < xs.length := by rw [h.len]; exact hn
    have h0 := hc 0 _ (List.getElem?_eq_getElem hl)
    have : ad.add 0 = ad := by simp [Addr.add]
    rw [this] at h0
    unfold World.cell? at h0
    split at h0
    · cases hs : ad.spot with
      | none => rfl
      | some s => simp [hs] at h0
    · cases h0
  obtain ⟨g, off, s⟩ := ad
  simp at hs
  subst hs
  exact ⟨g, off, e, hb, fun j u hu => by rw [← add_mk]; exact hc j u hu⟩

/-- s[i:j], s[i:j:k] -/
theorem Sl.cut (h : Sl w A n c xs) (i j m : Nat) (hij : i ≤ j) (hjn : j ≤ n) (hm : j ≤ m) (hmc : m ≤ c) :
    Sl w (if m = i then A else A.map (·.add (i * 1))) (j - i) (m - i) ((xs.drop i).take (j - i)) := by
  refine ⟨by rw [List.length_take, List.length_drop, h.len]; omega, by omega, by have := h.cap; omega, fun hn => ?_⟩
  obtain ⟨ad, rfl, hb, hc⟩ := h.at_ (by omega)
  rw [if_neg (by omega)]
  refine ⟨ad.add (i * 1), rfl, by rw [block_add]; exact hb, fun k u hu => ?_⟩
  rw [add_add]
  refine hc _ u ?_
  rw [List.getElem?_take] at hu
  split at hu
  · rw [List.getElem?_drop] at hu; rw [Nat.mul_one]; exact hu
  · cases hu

theorem Ow.nil (w : World) (B : Nat) (E : TypeId) (A : Option Addr) : Ow w B E A 0 0 [] := ⟨rfl, Nat.le_refl _, by simp [maxLen], .inl rfl⟩
theorem Ow.sl (h : Ow w B E A n c xs) : Sl w A n c xs := by
  refine ⟨h.len, h.le, h.cap, fun hn => ?_⟩
  rcases h.room with h0 | ⟨g, off, cs, rfl, hB, hg, hf, hx⟩
  · have := h.le; omega
  · refine ⟨_, rfl, lt_of_heap hg, fun j u hu => ?_⟩
    rw [add_mk]
    simp [World.cell?, hg, hx j u hu]
theorem Ow.keep (h : Ow w B E A n c xs) (hk : ∀ k, B ≤ k → k < w.heap.size → rowOf A c = some k → w'.heap[k]? = w.heap[k]?) : Ow w' B E A n c xs := by
  refine ⟨h.len, h.le, h.cap, ?_⟩
  rcases h.room with h0 | ⟨g, off, cs, rfl, hB, hg, r⟩
  · exact .inl h0
  · by_cases h0 : c = 0
    · exact .inl h0
    · exact .inr ⟨g, off, cs, rfl, hB, (hk g hB (lt_of_heap hg) (by simp [rowOf, h0])).trans hg, r⟩
theorem Ow.below (h : Ow w B E A n c xs) (hb : Below w.heap.size w w') : Ow w' B E A n c xs := h.keep fun k _ hk _ => hb.block k hk
theorem Ow.empty (h : Ow w B E A n c xs) : Ow w B E A 0 c [] := by
  refine ⟨rfl, Nat.zero_le _, h.cap, ?_⟩
  rcases h.room with h0 | ⟨g, off, cs, rfl, hB, hg, hf, _⟩
  · exact .inl h0
  · exact .inr ⟨g, off, cs, rfl, hB, hg, hf, fun j u hu => by simp at hu⟩
theorem Ow.drew (h : Ow w B E A n c xs) : Ow w.drew B E A n c xs := ⟨h.len, h.le, h.cap, h.room⟩
theorem Ow.drewN (h : Ow w B E A n c xs) (k : Nat) : Ow (w.drewN k) B E A n c xs := ⟨h.len, h.le, h.cap, h.room⟩
theorem Ow.alloc (h : Ow w B E A n c xs) (o : Obj) : Ow (w.alloc o) B E A n c xs := h.keep fun k _ hk _ => Below.heap_alloc w o k hk
theorem Ow.more (h : Ow w B E A n c xs) {B' : Nat} (hB : B' ≤ B) : Ow w B' E A n c xs := by
  refine ⟨h.len, h.le, h.cap, ?_⟩
  rcases h.room with h0 | ⟨g, off, cs, rfl, hg, r⟩
  · exact .inl h0
  · exact .inr ⟨g, off, cs, rfl, by omega, r⟩
theorem Ow.row (h : Ow w B E A n c xs) {k : Nat} (hk : rowOf A c = some k) : B ≤ k ∧ k < w.heap.size ∧ ∃ cs, w.heap[k]? = some (.cells cs E (0, 0)) := by
  rcases h.room with h0 | ⟨g, off, cs, rfl, hB, hg, _⟩
  · simp [rowOf, h0] at hk
  · unfold rowOf at hk
    split at hk
    · cases hk
    · simp at hk; subst hk; exact ⟨hB, lt_of_heap hg, cs, hg⟩
theorem Ow.cut (h : Ow w B E A n c xs) (i j m : Nat) (hij : i ≤ j) (hjn : j ≤ n) (hm : j ≤ m) (hmc : m ≤ c) :
    Ow w B E (if m = i then A else A.map (·.add (i * 1))) (j - i) (m - i) ((xs.drop i).take (j - i)) := by
  refine ⟨by rw [List.length_take, List.length_drop, h.len]; omega, by omega, by have := h.cap; omega, ?_⟩
  by_cases hmi : m = i
  · exact .inl (by omega)
  · rcases h.room with h0 | ⟨g, off, cs, rfl, hB, hg, hf, hx⟩
    · omega
    · refine .inr ⟨g, off + i, cs, by rw [if_neg hmi]; simp [add_mk], hB, hg, by omega, fun k u hu => ?_⟩
      rw [List.getElem?_take] at hu
      split at hu
      · rw [List.getElem?_drop] at hu
        rw [Nat.add_assoc]
        exact hx _ u hu
      · cases hu

theorem Blk.lt {g : Nat} {t : TypeId} {xs : List Value} (h : Blk w g t xs) : g < w.heap.size := lt_of_heap h
theorem Blk.cell {g : Nat} {t : TypeId} {xs : List Value} (h : Blk w g t xs) (i : Nat) : w.cell? ⟨g, i, none⟩ = xs[i]? := by
  unfold Blk at h; simp [World.cell?, h]
theorem Blk.frozen {g : Nat} {t : TypeId} {xs : List Value} (h : Blk w g t xs) (i : Nat) : w.frozen? ⟨g, i, none⟩ = false := by
  unfold Blk at h; simp [World.frozen?, h]
theorem Blk.new (w : World) (t : TypeId) (cs : Array Value) : Blk (w.alloc (.cells cs t)) w.heap.size t cs.toList := by
  unfold Blk; rw [Array.toArray_toList]; exact heap_alloc_new w _
theorem Blk.drew {g : Nat} {t : TypeId} {xs : List Value} (h : Blk w g t xs) : Blk w.drew g t xs := h
theorem Blk.drewN {g : Nat} {t : TypeId} {xs : List Value} (h : Blk w g t xs) (n : Nat) : Blk (w.drewN n) g t xs := h
theorem Blk.alloc {g : Nat} {t : TypeId} {xs : List Value} (h : Blk w g t xs) (o : Obj) : Blk (w.alloc o) g t xs := (Below.heap_alloc w o g h.lt).trans h
theorem Blk.set_ {g : Nat} {t : TypeId} {xs : List Value} (h : Blk w g t xs) (i : Nat) (u : Value) : Blk (w.setCell ⟨g, i, none⟩ u) g t (xs.set i u) := by
  unfold Blk at h ⊢
  simp [World.setCell, Array.getElem?_modify, h]
theorem Blk.far {g : Nat} {t : TypeId} {xs : List Value} (h : Blk w g t xs) {p : Addr} (hp : g ≠ p.block) (u : Value) : Blk (w.setCell p u) g t xs := (Below.heap_setCell w p u g hp).trans h
theorem Blk.below {g : Nat} {t : TypeId} {xs : List Value} {B : Nat} (h : Blk w g t xs) (hb : Below B w w') (hg : g < B) : Blk w' g t xs := (hb.block g hg).trans h
theorem Blk.keep {g : Nat} {t : TypeId} {xs : List Value} (h : Blk w g t xs) (hb : Below w.heap.size w w') : Blk w' g t xs := h.below hb h.lt
theorem Blk.grown {g : Nat} {t : TypeId} {xs : List Value} {row : Option Nat} (h : Blk w g t xs) (hb : w.grownBy w' row) (hg : row ≠ some g) : Blk w' g t xs := (hb.block g h.lt (Ne.symm hg)).trans h
/-- Blocks of unlike kinds are unlike. -/
theorem Blk.row_ne {g : Nat} {t : TypeId} {ys : List Value} (h : Blk w g t ys) (ho : Ow w B E A n c xs) (hne : E ≠ t) : rowOf A c ≠ some g := by
  intro e
  obtain ⟨_, _, cs, hg⟩ := ho.row e
  unfold Blk at h
  rw [h] at hg
  injection hg with hg
  injection hg with _ ht
  exact hne ht.symm
theorem Blk.own {g : Nat} {t : TypeId} {xs : List Value} (h : Blk w g t xs) (hB : B ≤ g) (hc : xs.length ≤ maxLen) : Ow w B t (some ⟨g, 0, none⟩) xs.length xs.length xs :=
  ⟨rfl, Nat.le_refl _, hc, .inr ⟨g, 0, xs.toArray, rfl, hB, h, by simp, fun j u hu => by simpa using hu⟩⟩

theorem grownBy_of_below {row : Option Nat} (h : Below w.heap.size w w') : w.grownBy w' row := ⟨h.os, h.tape, h.output, h.size, fun k hk _ => h.block k hk⟩
theorem below_of_grown {w0 : World} {row : Option Nat} (h : Below B w0 w) (hg : w.grownBy w' row) (hB : B ≤ w.heap.size) (hr : ∀ k, row = some k → B ≤ k) : Below B w0 w' := h.grown hg hB hr
theorem below_then {w0 : World} (h : Below B w0 w) (hg : Below w.heap.size w w') (hB : B ≤ w.heap.size) : Below B w0 w' := h.trans (hg.mono hB)
theorem below_drewN {w0 : World} (h : Below B w0 w) (n : Nat) : Below B w0 (w.drewN n) := ⟨h.os, h.tape, h.output, h.size, h.block⟩

/-- A store into a slice of one's own. -/
theorem Ow.set_ {g off : Nat} (h : Ow w B E (some ⟨g, off, none⟩) n c xs) {i : Nat} (hi : i < n) (u : Value) : Ow (w.setCell ⟨g, off + i, none⟩ u) B E (some ⟨g, off, none⟩) n c (xs.set i u) := by
  refine ⟨by simp [h.len], h.le, h.cap, ?_⟩
  rcases h.room with h0 | ⟨g', off', cs, e, hB, hg, hf, hx⟩
  · exact .inl h0
  · injection e with e; injection e with e1 e2; subst e1; subst e2
    refine .inr ⟨g, off, cs.setIfInBounds (off + i) u, rfl, hB, ?_, by simpa using hf, fun j v hv => ?_⟩
    · simp [World.setCell, Array.getElem?_modify, hg]
    · rw [List.getElem?_set] at hv
      rw [Array.getElem?_setIfInBounds]
      by_cases hij : i = j
      · subst hij
        rw [if_pos rfl] at hv
        rw [if_pos rfl, if_pos (by have := h.le; omega)]
        rw [if_pos (by rw [h.len]; exact hi)] at hv
        exact hv
      · rw [if_neg hij] at hv
        rw [if_neg (by omega)]
        exact hx j v hv
theorem Ow.far (h : Ow w B E A n c xs) {p : Addr} (hp : rowOf A c ≠ some p.block) (u : Value) : Ow (w.setCell p u) B E A n c xs :=
  h.keep fun k _ _ hk => Below.heap_setCell w p u k (fun e => hp (by rw [hk, e]))
theorem Ow.grown {row : Option Nat} (h : Ow w B E A n c xs) (hb : w.grownBy w' row) (hr : rowOf A c = none ∨ rowOf A c ≠ row) : Ow w' B E A n c xs :=
  h.keep fun k _ hk hrow => hb.block k hk (fun e => by
    rcases hr with hr | hr
    · rw [hrow] at hr; cases hr
    · exact hr (hrow.trans e))
theorem Sl.grown (h : Sl w A n c xs) {row : Option Nat} (hg : w.grownBy w' row) (hr : ∀ k, row = some k → A.map (·.block) ≠ some k) : Sl w' A n c xs :=
  ⟨h.len, h.le, h.cap, fun hn => by
    obtain ⟨ad, rfl, hb, hc⟩ := h.at_ hn
    refine ⟨ad, rfl, by have := hg.size; omega, fun j u hu => (World.cell?_of_block (w := w) ?_).trans (hc j u hu)⟩
    rw [block_add]
    exact hg.block _ hb (fun e => hr _ e.symm rfl)⟩
theorem Sl.setCell (h : Sl w A n c xs) {p : Addr} (hp : A.map (·.block) ≠ some p.block) (u : Value) : Sl (w.setCell p u) A n c xs :=
  ⟨h.len, h.le, h.cap, fun hn => by
    obtain ⟨ad, rfl, hb, hc⟩ := h.at_ hn
    refine ⟨ad, rfl, by simpa [World.setCell] using hb, fun j v hv => (World.cell?_of_block (w := w) ?_).trans (hc j v hv)⟩
    rw [block_add]
    exact Below.heap_setCell w p u _ (fun e => hp (by simp [e]))⟩
/-- A slice all of which lies below B. -/
theorem Sl.belowB {w0 : World} (h : Sl w0 A n c xs) (hb : Below w0.heap.size w0 w) : Sl w A n c xs := h.below hb
end

section append
variable {P : Program} (w : World)

theorem size_zeroCells1 (z : Array Value) (n : Nat) (h : z.size = 1) : (Builtin.zeroCells z n).size = n := by rw [size_zeroCells, h, Nat.mul_one]

theorem run_append_sl (t ty e : TypeId) (i : TypeInfo) (z : Value) (bytes : Nat) (ht : P.underlying t = some (.slice e)) (hi : P.info? e = some i) (hz : i.zero = some z)
    (hsize : i.size = 1) (hby : i.bytes = bytes) (hzs : z.cells.size = 1)
    (B : Nat) (A : Option Addr) (n c : Nat) (xs : List Value) (hown : Ow w B e A n c xs)
    (A2 : Option Addr) (m c2 : Nat) (ys : List Value) (hs : Sl w A2 m c2 ys) (h1 : ∀ u ∈ ys, u.oneCell' = true)
    (h63 : n + m ≤ maxLen) (hbytes : (n + m) * bytes ≤ 140737488355328) (hB : B ≤ w.heap.size) :
    ∃ A' c' w', (Builtin.append_ #[t, t] ty #[.slice A n c, .slice A2 m c2]).run P w = .ok (.slice A' (n + m) c') w' ∧ Ow w' B e A' (n + m) c' (xs ++ ys) ∧ w.grownBy w' (rowOf A c) ∧
      (rowOf A' c' = rowOf A c ∨ rowOf A' c' = some w.heap.size) := by
  by_cases hm : m = 0
  · -- nothing is appended
    subst hm
    have hy : ys = [] := List.eq_nil_of_length_eq_zero hs.len
    subst hy
    refine ⟨A, c, w, ?_, by simpa using hown, ⟨rfl, rfl, rfl, Nat.le_refl _, fun _ _ _ => rfl⟩, .inl rfl⟩
    have hle := hown.le
    cases A2 with
    | none => cases A with
      | none => simp [Builtin.append_, run_underlying ht, Go.sizeOf, typeInfo, hi, Builtin.lenOf, Builtin.firstCells, hle]
      | some a => simp [Builtin.append_, run_underlying ht, Go.sizeOf, typeInfo, hi, Builtin.lenOf, Builtin.firstCells, hle, storeCells]
    | some b => cases A with
      | none => simp [Builtin.append_, run_underlying ht, Go.sizeOf, typeInfo, hi, Builtin.lenOf, Builtin.firstCells, hle, loadCells, loadCellsFrom]
      | some a => simp [Builtin.append_, run_underlying ht, Go.sizeOf, typeInfo, hi, Builtin.lenOf, Builtin.firstCells, hle, storeCells, loadCells, loadCellsFrom]
  · obtain ⟨ad, rfl, _, hnews⟩ := hs.at_ (by omega)
    have hl : ys.length = m * i.size := by rw [hsize, Nat.mul_one]; exact hs.len
    by_cases hroom : n + m ≤ c
    · -- there is room
      rcases hown.room with h0 | ⟨g, off, cs, rfl, hg0, hg, hf, hx⟩
      · omega
      · have hrun := run_firstCells_some (P := P) w i.size m ad m c2 ys hl hnews
        have hst := run_storeCells_at P g (off + n) e ys 0 cs w hg (by rw [hs.len]; omega) h1
        simp only [Nat.add_zero] at hst
        refine ⟨some ⟨g, off, none⟩, c, w.setRow g (cs.toList.take (off + n) ++ ys ++ cs.toList.drop (off + n + ys.length)).toArray, ?_, ⟨by rw [List.length_append, hown.len, hs.len], hroom, hown.cap, ?_⟩, ⟨rfl, rfl, rfl, by simp, fun k _ hk => setRow_other w g k _ (fun e => hk (by
            have : c ≠ 0 := by omega
            simp [rowOf, this, e]))⟩, .inl rfl⟩
        · have : (⟨g, off, none⟩ : Addr).add (n * i.size) = ⟨g, off + n, none⟩ := by rw [add_mk, hsize, Nat.mul_one]
          simp [Builtin.append_, run_underlying ht, Go.sizeOf, typeInfo, hi, Builtin.lenOf, hroom, hrun, this, hst]
        · refine .inr ⟨g, off, _, rfl, hg0, setRow_heap w g cs _ e _ hg, ?_, fun j u hu => ?_⟩
          · simp only [List.size_toArray, List.length_append, List.length_take, List.length_drop, Array.length_toList]
            have := hs.len
            omega
          · rw [List.getElem?_toArray, List.append_assoc]
            rw [List.getElem?_append] at hu
            split at hu
            · rename_i hj
              rw [List.getElem?_append_left (by rw [List.length_take, Array.length_toList]; have := hown.len; omega), List.getElem?_take, if_pos (by have := hown.len; omega), Array.getElem?_toList]
              exact hx j u hu
            · rename_i hj
              have hjl : j - xs.length < ys.length := (List.getElem?_eq_some_iff.1 hu).1
              rw [List.getElem?_append_right (by rw [List.length_take, Array.length_toList]; have := hown.len; omega)]
              have e1 : off + j - (cs.toList.take (off + n)).length = j - xs.length := by rw [List.length_take, Array.length_toList]; have := hown.len; omega
              rw [e1, List.getElem?_append_left hjl]
              exact hu
    · -- there is none
      have hge := grownCap_ge w (n + m) c e
      have hcm : grownCap w (n + m) c e ≤ maxLen := grownCap_le_maxLen w (n + m) c e h63
      have hfit : Builtin.nextslicecap (n + m) c * i.bytes ≤ 281474976710656 := growslice_fits (by omega) (by rw [hby]; exact hbytes)
      have hsmall : ((n + m : Nat) : Int) ≤ 9223372036854775807 := by simp only [maxLen] at h63; omega
      refine ⟨some ⟨w.heap.size, 0, none⟩, grownCap w (n + m) c e, w.drew.alloc (.cells (xs.toArray ++ ys.toArray ++ Builtin.zeroCells z.cells (grownCap w (n + m) c e - (n + m))) e), ?_,
        ⟨by rw [List.length_append, hown.len, hs.len], hge, hcm, .inr ⟨w.heap.size, 0, _, rfl, hB, heap_alloc_new w.drew _, ?_, fun j u hu => ?_⟩⟩,
        ⟨rfl, rfl, rfl, by simp, fun k hk _ => Below.heap_alloc w.drew _ k hk⟩, .inr ?_⟩
      · cases A with
        | some a =>
          have holds := hown.sl.at_
          by_cases hn : 0 < n
          · obtain ⟨ad', e', _, hc⟩ := holds hn
            injection e' with e'; subst e'
            exact run_append_grow (P := P) w t ty e i z ht hi hz a n c xs (by rw [hsize, Nat.mul_one]; exact hown.len) hc ad m c2 ys hl hnews (by omega) hsmall hfit
          · have hn0 : n = 0 := by omega
            subst hn0
            have hxe : xs = [] := List.eq_nil_of_length_eq_zero hown.len
            subst hxe
            exact run_append_grow (P := P) w t ty e i z ht hi hz a 0 c [] (by simp) (by simp) ad m c2 ys hl hnews (by omega) hsmall hfit
        | none =>
          have hc0 : c = 0 := by
            rcases hown.room with h0 | ⟨g, off, cs, e', _⟩
            · exact h0
            · cases e'
          have hn0 : n = 0 := by have := hown.le; omega
          subst hn0
          subst hc0
          have hxe : xs = [] := List.eq_nil_of_length_eq_zero hown.len
          subst hxe
          have hr := run_append_nil (P := P) w t ty e i z ht hi hz ad m c2 ys hl hnews (by omega) (by omega) (by
            have hb := hbytes; rw [← hby] at hb; simp only [Nat.zero_add] at hb; omega)
          simpa using hr
      · simp only [Array.size_append, List.size_toArray, size_zeroCells1 z.cells _ hzs, hown.len, hs.len]
        omega
      · have hjl : j < (xs ++ ys).length := (List.getElem?_eq_some_iff.1 hu).1
        rw [Nat.zero_add, Array.getElem?_append_left (by simpa using hjl)]
        simpa using hu
      · have : grownCap w (n + m) c e ≠ 0 := by omega
        simp [rowOf, this]

theorem wp_append_sl {o : Oper} {a : Act} {K : Act → World → Prop} {Q : Exit → Act → World → Prop} (s x : Operand) (t : TypeId)
    (ho : o.op = .call { callee := .builtin .append, args := #[s, x], argTypes := #[t, t] })
    (e : TypeId) (i : TypeInfo) (z : Value) (bytes : Nat) (ht : P.underlying t = some (.slice e)) (hi : P.info? e = some i) (hz : i.zero = some z)
    (hsize : i.size = 1) (hby : i.bytes = bytes) (hzs : z.cells.size = 1)
    (B : Nat) (A : Option Addr) (n c : Nat) (xs : List Value) (hv : a.eval s = .slice A n c) (hown : Ow w B e A n c xs)
    (A2 : Option Addr) (m c2 : Nat) (ys : List Value) (hx : a.eval x = .slice A2 m c2) (hs : Sl w A2 m c2 ys) (h1 : ∀ u ∈ ys, u.oneCell' = true)
    (h63 : n + m ≤ maxLen) (hbytes : (n + m) * bytes ≤ 140737488355328) (hB : B ≤ w.heap.size)
    (h : ∀ A' c' w', Ow w' B e A' (n + m) c' (xs ++ ys) → w.grownBy w' (rowOf A c) → (rowOf A' c' = rowOf A c ∨ rowOf A' c' = some w.heap.size) → K (a.put o.dst (.slice A' (n + m) c')) w') : o.wp P a w K Q := by
  obtain ⟨A', c', w', hrun, h2, h3, h4⟩ := run_append_sl (P := P) w t o.type e i z bytes ht hi hz hsize hby hzs B A n c xs hown A2 m c2 ys hs h1 h63 hbytes hB
  unfold Oper.wp execOp
  simp only [ho, resolve, invoke, builtin, Sem.run_bind, Sem.run_pure, Result.andThen_ok, List.map_toArray, List.map_cons, List.map_nil, hv, hx, hrun]
  exact h A' c' w' h2 h3 h4

theorem wpList_append_sl {ops : Array Oper} {rest : List Oper} {o : Oper} {a : Act} {Q : Exit → Act → World → Prop} (hgd : o.guard = none) (s x : Operand) (t : TypeId)
    (ho : o.op = .call { callee := .builtin .append, args := #[s, x], argTypes := #[t, t] })
    (e : TypeId) (i : TypeInfo) (z : Value) (bytes : Nat) (ht : P.underlying t = some (.slice e)) (hi : P.info? e = some i) (hz : i.zero = some z)
    (hsize : i.size = 1) (hby : i.bytes = bytes) (hzs : z.cells.size = 1)
    (B : Nat) (A : Option Addr) (n c : Nat) (xs : List Value) (hv : a.eval s = .slice A n c) (hown : Ow w B e A n c xs)
    (A2 : Option Addr) (m c2 : Nat) (ys : List Value) (hx : a.eval x = .slice A2 m c2) (hs : Sl w A2 m c2 ys) (h1 : ∀ u ∈ ys, u.oneCell' = true)
    (h63 : n + m ≤ maxLen) (hbytes : (n + m) * bytes ≤ 140737488355328) (hB : B ≤ w.heap.size)
    (h : ∀ A' c' w', Ow w' B e A' (n + m) c' (xs ++ ys) → w.grownBy w' (rowOf A c) → (rowOf A' c' = rowOf A c ∨ rowOf A' c' = some w.heap.size) → wpList P ops Q rest (a.put o.dst (.slice A' (n + m) c')) w') : wpList P ops Q (o :: rest) a w :=
  wpList_plain hgd fun _ hK => wp_append_sl w s x t ho e i z bytes ht hi hz hsize hby hzs B A n c xs hv hown A2 m c2 ys hx hs h1 h63 hbytes hB fun A' c' w' h2 h3 h4 => hK _ _ (h A' c' w' h2 h3 h4)

theorem step_append_sl {ops : Array Oper} {o : Oper} {a : Act} {K : Act → World → Prop} {Q : Exit → Act → World → Prop} {X : Prop} (hgd : o.guard = none) (s x : Operand) (t : TypeId)
    (ho : o.op = .call { callee := .builtin .append, args := #[s, x], argTypes := #[t, t] })
    (e : TypeId) (i : TypeInfo) (z : Value) (bytes : Nat) (ht : P.underlying t = some (.slice e)) (hi : P.info? e = some i) (hz : i.zero = some z)
    (hsize : i.size = 1) (hby : i.bytes = bytes) (hzs : z.cells.size = 1)
    (B : Nat) (A : Option Addr) (n c : Nat) (xs : List Value) (hv : a.eval s = .slice A n c) (hown : Ow w B e A n c xs)
    (A2 : Option Addr) (m c2 : Nat) (ys : List Value) (hx : a.eval x = .slice A2 m c2) (hs : Sl w A2 m c2 ys) (h1 : ∀ u ∈ ys, u.oneCell' = true)
    (h63 : n + m ≤ maxLen) (hbytes : (n + m) * bytes ≤ 140737488355328) (hB : B ≤ w.heap.size)
    (h : ∀ A' c' w', Ow w' B e A' (n + m) c' (xs ++ ys) → w.grownBy w' (rowOf A c) → (rowOf A' c' = rowOf A c ∨ rowOf A' c' = some w.heap.size) → K (a.put o.dst (.slice A' (n + m) c')) w') :
    if Region.wanted o (yielded ops a.tmps) = true then Oper.wp P o a w K Q else X := by
  have hw : Region.wanted o (yielded ops a.tmps) = true := by simp [Region.wanted, hgd]
  rw [if_pos hw]
  exact wp_append_sl w s x t ho e i z bytes ht hi hz hsize hby hzs B A n c xs hv hown A2 m c2 ys hx hs h1 h63 hbytes hB h

theorem zeroCells_one (z : Value) (n : Nat) (hz : z.cells = #[z]) : Builtin.zeroCells z.cells n = (List.replicate n z).toArray := by
  rw [hz]
  apply Array.ext
  · simp [Builtin.zeroCells]
  · intro i h1 h2
    simp [Builtin.zeroCells]
    have : i % 1 = 0 := Nat.mod_one i
    simp [this]

/-- append(x, make([]T, m)...): noughts behind a slice of one's own -/
theorem run_append_zs (t tn ty e : TypeId) (i : TypeInfo) (z : Value) (bytes : Nat) (kn : IntKind) (ht : P.underlying t = some (.slice e)) (htn : P.underlying tn = some (.int kn)) (hi : P.info? e = some i) (hz : i.zero = some z)
    (hsize : i.size = 1) (hby : i.bytes = bytes) (hzc : z.cells = #[z]) (h1 : z.oneCell' = true)
    (B : Nat) (A : Option Addr) (n c : Nat) (xs : List Value) (hown : Ow w B e A n c xs) (k : IntKind) (m : Nat)
    (h63 : n + m ≤ 9223372036854775807) (hbytes : (n + m) * bytes ≤ 140737488355328) (hB : B ≤ w.heap.size) :
    ∃ A' c' w', (Builtin.append_ #[t, tn] ty #[.slice A n c, .int k (m : Int)]).run P w = .ok (.slice A' (n + m) c') w' ∧ Ow w' B e A' (n + m) c' (xs ++ List.replicate m z) ∧ w.grownBy w' (rowOf A c) ∧
      (rowOf A' c' = rowOf A c ∨ rowOf A' c' = some w.heap.size) := by
  have hw : IntKind.i64.wrap (m : Int) = m := by rw [IntKind.wrap_i64]; omega
  have hmb : m * bytes ≤ 140737488355328 := Nat.le_trans (Nat.mul_le_mul_right _ (Nat.le_add_left _ _)) hbytes
  have hmb' : ¬ (281474976710656 < (m : Int) * (i.bytes : Int)) := by rw [hby, ← Int.natCast_mul]; omega
  have hle := hown.le
  by_cases hm : m = 0
  · subst hm
    refine ⟨A, c, w, ?_, by simpa using hown, ⟨rfl, rfl, rfl, Nat.le_refl _, fun _ _ _ => rfl⟩, .inl rfl⟩
    have hw0 : IntKind.i64.wrap 0 = 0 := by decide
    cases A with
    | none => simp [Builtin.append_, run_underlying ht, run_underlying htn, Go.sizeOf, typeInfo, hi, asInt, asIntOf, hw0, hle]
    | some a => simp [Builtin.append_, run_underlying ht, run_underlying htn, Go.sizeOf, typeInfo, hi, asInt, asIntOf, hw0, hle, storeCells]
  by_cases hroom : n + m ≤ c
  · rcases hown.room with h0 | ⟨g, off, cs, rfl, hg0, hg, hf, hx⟩
    · omega
    · have h1' : ∀ u ∈ List.replicate m z, u.oneCell' = true := fun u hu => by rw [List.eq_of_mem_replicate hu]; exact h1
      have hst := run_storeCells_at P g (off + n) e (List.replicate m z) 0 cs w hg (by rw [List.length_replicate]; omega) h1'
      simp only [Nat.add_zero] at hst
      refine ⟨some ⟨g, off, none⟩, c, w.setRow g (cs.toList.take (off + n) ++ List.replicate m z ++ cs.toList.drop (off + n + (List.replicate m z).length)).toArray, ?_,
        ⟨by rw [List.length_append, hown.len, List.length_replicate], hroom, hown.cap, .inr ⟨g, off, _, rfl, hg0, setRow_heap w g cs _ e _ hg, ?_, fun j u hu => ?_⟩⟩,
        ⟨rfl, rfl, rfl, by simp, fun k' hk' hk => setRow_other w g k' _ (fun e' => ?_)⟩, .inl rfl⟩
      · have hm0 : ¬ ((m : Int) < 0) := by omega
        simp [Builtin.append_, run_underlying ht, run_underlying htn, Go.sizeOf, typeInfo, hi, asInt, asIntOf, hw, hroom, hmb', hsize, hm, zeroValue, hz, zeroCells_one z m hzc, add_mk, hst]
        exact fun h => absurd h hm0
      · simp only [List.size_toArray, List.length_append, List.length_take, List.length_drop, Array.length_toList, List.length_replicate]
        omega
      · rw [List.getElem?_toArray, List.append_assoc]
        rw [List.getElem?_append] at hu
        split at hu
        · rw [List.getElem?_append_left (by rw [List.length_take, Array.length_toList]; have := hown.len; omega), List.getElem?_take, if_pos (by have := hown.len; omega), Array.getElem?_toList]
          exact hx j u hu
        · have hjl : j - xs.length < (List.replicate m z).length := (List.getElem?_eq_some_iff.1 hu).1
          rw [List.getElem?_append_right (by rw [List.length_take, Array.length_toList]; have := hown.len; omega)]
          have e1 : off + j - (cs.toList.take (off + n)).length = j - xs.length := by rw [List.length_take, Array.length_toList]; have := hown.len; omega
          rw [e1, List.getElem?_append_left hjl]
          exact hu
      · have hc : c ≠ 0 := by omega
        exact hk (by simp [rowOf, hc, e'])
  · have hge := grownCap_ge w (n + m) c e
    have hcm : grownCap w (n + m) c e ≤ maxLen := grownCap_le_maxLen w (n + m) c e (by simp only [maxLen]; omega)
    have hfit : Builtin.nextslicecap (n + m) c * i.bytes ≤ 281474976710656 := growslice_fits (by omega) (by rw [hby]; exact hbytes)
    have hfit' : ¬ (281474976710656 < Builtin.nextslicecap (n + m) c * i.bytes) := by omega
    have hsmall : ¬ (9223372036854775807 < ((n : Int) + (m : Int))) := by omega
    refine ⟨some ⟨w.heap.size, 0, none⟩, grownCap w (n + m) c e, w.drew.alloc (.cells (xs.toArray ++ (List.replicate m z).toArray ++ Builtin.zeroCells z.cells (grownCap w (n + m) c e - (n + m))) e), ?_,
      ⟨by rw [List.length_append, hown.len, List.length_replicate], hge, hcm, .inr ⟨w.heap.size, 0, _, rfl, hB, heap_alloc_new w.drew _, ?_, fun j u hu => ?_⟩⟩,
      ⟨rfl, rfl, rfl, by simp, fun k hk _ => Below.heap_alloc w.drew _ k hk⟩, .inr ?_⟩
    · have hold : ∀ w1 : World, w1.heap = w.heap → (Builtin.firstCells 1 n (.slice A n c)).run P w1 = .ok xs.toArray w1 := by
        intro w1 hw1
        cases A with
        | none =>
          have hx0 : xs = [] := by
            rcases Nat.eq_zero_or_pos n with h0 | h0
            · exact List.eq_nil_of_length_eq_zero (by rw [hown.len, h0])
            · obtain ⟨_, e', _⟩ := hown.sl.at_ h0; cases e'
          subst hx0
          exact run_firstCells_none w1 1 n n c
        | some a =>
          refine run_firstCells_some (P := P) w1 1 n a n c xs (by rw [Nat.mul_one]; exact hown.len) ?_
          intro j v hv
          have hn : 0 < n := by rw [← hown.len]; exact Nat.lt_of_le_of_lt (Nat.zero_le _) (List.getElem?_eq_some_iff.1 hv).1
          obtain ⟨ad, e', _, hc⟩ := hown.sl.at_ hn
          injection e' with e'; subst e'
          have := hc j v hv
          unfold World.cell? at this ⊢
          rw [hw1]
          exact this
      have hm0 : ¬ ((m : Int) < 0) := by omega
      have hold' := hold w.drew rfl
      simp [Builtin.append_, run_underlying ht, run_underlying htn, Go.sizeOf, typeInfo, hi, asInt, asIntOf, hw, hroom, hmb', hsize, hm, zeroValue, hz, hfit', hsmall, Question.forced, hold', zeroCells_one z m hzc, newRow]
      rfl
    · simp only [Array.size_append, List.size_toArray, size_zeroCells1 z.cells _ (by rw [hzc]; rfl), hown.len, List.length_replicate]
      omega
    · have hjl : j < (xs ++ List.replicate m z).length := (List.getElem?_eq_some_iff.1 hu).1
      rw [Nat.zero_add, Array.getElem?_append_left (by simpa using hjl), List.append_toArray, List.getElem?_toArray]
      exact hu
    · have : grownCap w (n + m) c e ≠ 0 := by omega
      simp [rowOf, this]

theorem madeCells_one (z : Value) (n : Nat) (hz : z.cells = #[z]) : madeCells z.cells n = (List.replicate n z).toArray := by
  rw [hz]
  apply Array.ext
  · simp [madeCells]
  · intro i h1 h2
    simp [madeCells]
    have : i % 1 = 0 := Nat.mod_one i
    simp [this]

/-- make, of one-cell elements -/
theorem run_make1 (t e : TypeId) (i : TypeInfo) (z : Value) (bytes : Nat) (ht : P.underlying t = some (.slice e)) (hi : P.info? e = some i) (hz : i.zero = some z)
    (hsize : i.size = 1) (hby : i.bytes = bytes) (hzc : z.cells = #[z]) (hb64 : bytes ≤ 64) (n : Nat) (hn : n ≤ 1099511627776) :
    (Instr.makeSlice t (.int .i64 (n : Int)) (.int .i64 (n : Int))).run P w = .ok (.slice (some ⟨w.heap.size, 0, none⟩) n n) (w.alloc (.cells (List.replicate n z).toArray e)) := by
  have hbb : (i.bytes : Int) * (n : Int) ≤ 281474976710656 := by
    have h : i.bytes * n ≤ 64 * n := Nat.mul_le_mul_right _ (by omega)
    have h' : ((i.bytes * n : Nat) : Int) ≤ 281474976710656 := by omega
    rwa [Int.natCast_mul] at h'
  have hr := run_make (P := P) w t e i z ht hi hz .i64 .i64 n n (by omega) (by omega) hbb (by omega)
  simp only [Int.toNat_natCast, hsize, Nat.mul_one, madeCells_one z n hzc] at hr
  exact hr

/-- a literal of one element -/
theorem Sl.one (v : Value) (t : TypeId) : Sl (w.alloc (.cells #[v] t)) (some ⟨w.heap.size, 0, none⟩) 1 1 [v] := by
  refine ⟨rfl, Nat.le_refl _, by simp [maxLen], fun _ => ⟨_, rfl, by simp, fun j u hu => ?_⟩⟩
  rw [add_mk]
  have h := (Blk.new w t #[v]).cell (0 + j)
  rw [h]
  simpa using hu

theorem wpList_append_zs {ops : Array Oper} {rest : List Oper} {o : Oper} {a : Act} {Q : Exit → Act → World → Prop} (hgd : o.guard = none) (s x : Operand) (t tn : TypeId)
    (ho : o.op = .call { callee := .builtin .append, args := #[s, x], argTypes := #[t, tn] })
    (e : TypeId) (i : TypeInfo) (z : Value) (bytes : Nat) (kn : IntKind) (ht : P.underlying t = some (.slice e)) (htn : P.underlying tn = some (.int kn)) (hi : P.info? e = some i) (hz : i.zero = some z)
    (hsize : i.size = 1) (hby : i.bytes = bytes) (hzc : z.cells = #[z]) (h1 : z.oneCell' = true)
    (B : Nat) (A : Option Addr) (n c : Nat) (xs : List Value) (hv : a.eval s = .slice A n c) (hown : Ow w B e A n c xs) (k : IntKind) (m : Nat) (hx : a.eval x = .int k (m : Int))
    (h63 : n + m ≤ 9223372036854775807) (hbytes : (n + m) * bytes ≤ 140737488355328) (hB : B ≤ w.heap.size)
    (h : ∀ A' c' w', Ow w' B e A' (n + m) c' (xs ++ List.replicate m z) → w.grownBy w' (rowOf A c) → (rowOf A' c' = rowOf A c ∨ rowOf A' c' = some w.heap.size) → wpList P ops Q rest (a.put o.dst (.slice A' (n + m) c')) w') : wpList P ops Q (o :: rest) a w := by
  refine wpList_plain hgd fun _ hK => ?_
  obtain ⟨A', c', w', hrun, h2, h3, h4⟩ := run_append_zs (P := P) w t tn o.type e i z bytes kn ht htn hi hz hsize hby hzc h1 B A n c xs hown k m h63 hbytes hB
  unfold Oper.wp execOp
  simp only [ho, resolve, invoke, builtin, Sem.run_bind, Sem.run_pure, Result.andThen_ok, List.map_toArray, List.map_cons, List.map_nil, hv, hx, hrun]
  exact hK _ _ (h A' c' w' h2 h3 h4)
end append

/-- Each of these values is a slice that reads as the list at its place. -/
def Each (w : World) (vs : List Value) (ls : List (List UInt8)) : Prop :=
  vs.length = ls.length ∧ ∀ (i : Nat) (v : Value) (l : List UInt8), vs[i]? = some v → ls[i]? = some l → ∃ a c, v = .slice a l.length c ∧ Sl w a l.length c (l.map vb)

/-- A slice of slices that reads as a list of lists. -/
def Rows (w : World) (A : Option Addr) (n c : Nat) (ls : List (List UInt8)) : Prop := ∃ vs, Sl w A n c vs ∧ Each w vs ls

theorem Each.keep {w w' : World} {vs : List Value} {ls : List (List UInt8)} (h : Each w vs ls) (hk : ∀ A n c xs, Sl w A n c xs → Sl w' A n c xs) : Each w' vs ls :=
  ⟨h.1, fun i v l hv hl => by
    obtain ⟨a, c, e, hs⟩ := h.2 i v l hv hl
    exact ⟨a, c, e, hk _ _ _ _ hs⟩⟩
theorem Each.below {w w' : World} {vs : List Value} {ls : List (List UInt8)} (h : Each w vs ls) (hb : Below w.heap.size w w') : Each w' vs ls := h.keep fun _ _ _ _ hs => hs.below hb
theorem Rows.below {w w' : World} {A : Option Addr} {n c : Nat} {ls : List (List UInt8)} (h : Rows w A n c ls) (hb : Below w.heap.size w w') : Rows w' A n c ls := by
  obtain ⟨vs, hs, he⟩ := h
  exact ⟨vs, hs.below hb, he.below hb⟩
theorem Rows.len {w : World} {A : Option Addr} {n c : Nat} {ls : List (List UInt8)} (h : Rows w A n c ls) : ls.length = n := by
  obtain ⟨vs, hs, he⟩ := h
  rw [← he.1]; exact hs.len
theorem Rows.row {w : World} {A : Option Addr} {n c : Nat} {ls : List (List UInt8)} (h : Rows w A n c ls) {k : Nat} (hk : k < n) :
    ∃ ad a l c', A = some ad ∧ ls[k]? = some l ∧ w.cell? (ad.add k) = some (.slice a l.length c') ∧ Sl w a l.length c' (l.map vb) := by
  obtain ⟨vs, hs, he⟩ := h
  obtain ⟨ad, u, e, hu, hc⟩ := hs.cell hk
  have hl : k < ls.length := by rw [← he.1, hs.len]; exact hk
  obtain ⟨a, c', e', hs'⟩ := he.2 k u ls[k] hu (List.getElem?_eq_getElem hl)
  subst e'
  exact ⟨ad, a, _, c', e, List.getElem?_eq_getElem hl, hc, hs'⟩
theorem Rows.nil (w : World) : Rows w none 0 0 [] := ⟨[], Sl.nil w, rfl, fun i v l hv _ => by simp at hv⟩
end Lg
