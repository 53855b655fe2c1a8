/-
The cipher of a key of sixteen bytes: the walk of cipher.New. No condition but the key's length and that the field is one that New made.
-/
import Derived.Test.YtncdecpehlkckaaFnN
namespace Lg
set_option linter.unusedSimpArgs false
open Go Go.RowKit Go.Proofs Go.Shelf
attribute [local go_sem] Oper.semAt_some

set_option maxRecDepth 100000 in
set_option maxHeartbeats 1000000 in
theorem New16 (f : Nat) (A : Option Addr) (c : Nat) (l : List UInt8) (w : World) (hF : Fl w f) (hs : Sl w A 16 c (l.map vb)) :
    Calls Try.prog 17 #[.pointer (some ⟨f, 0, none⟩), .slice A 16 c] w fun e w' => ∃ g, e = .returned (.tuple #[.pointer (some ⟨g, 0, none⟩), vi 0]) ∧ w.heap.size ≤ g ∧ CipOk w' g l ∧ Below w.heap.size w w' := by
  have HF := Lib.hid hF
  have HS := Lib.hid hs
  have hfl := Blk.lt hF
  obtain ⟨g, hg⟩ : ∃ g, w.heap.size = g := ⟨_, rfl⟩
  obtain ⟨W1, hW1⟩ : ∃ W1, (w.alloc (.cells (Try.zeroCells73.setIfInBounds 0 (.pointer (some ⟨f, 0, none⟩))) 73)).alloc (.cells #[.pointer (some ⟨g, 0, none⟩)] 25) = W1 := ⟨_, rfl⟩
  have hbW : Below g w W1 := by rw [← hW1, ← hg]; exact ((Below.refl _ _).alloc (Nat.le_refl _) _).alloc (by simp) _
  have hC0 : Cip W1 g (.pointer (some ⟨f, 0, none⟩)) (.slice none 0 0) (boxAt 0) (backAt 0) := by
    have h := (Blk.new w 73 (Try.zeroCells73.setIfInBounds 0 (.pointer (some ⟨f, 0, none⟩)))).alloc (.cells #[.pointer (some ⟨g, 0, none⟩)] 25)
    rw [hW1, hg, Array.toList_setIfInBounds, zeroCip] at h
    exact h
  have hP0 : Blk W1 (g + 1) 25 [.pointer (some ⟨g, 0, none⟩)] := by
    have h := Blk.new (w.alloc (.cells (Try.zeroCells73.setIfInBounds 0 (.pointer (some ⟨f, 0, none⟩))) 73)) 25 #[.pointer (some ⟨g, 0, none⟩)]
    rw [hW1] at h
    simpa [hg] using h
  have hsz1 : W1.heap.size = g + 2 := by rw [← hW1, ← hg]; simp
  have hF1 : Fl W1 f := Blk.below HF.out hbW (by omega)
  have HC0 := Lib.hid hC0
  have HP0 := Lib.hid hP0
  have HF1 := Lib.hid hF1
  have HbW := Lib.hid hbW
  have HW1 := Lib.hid hW1
  have HG := Lib.hid hg
  clear hF hs hC0 hP0 hF1 hbW hW1
  rw [hg]
  refine calls_of_marks Try.func17 rfl ?_
  simp only [Try.ntmps17, List.size_toArray, List.length_cons, List.length_nil, Nat.reduceAdd, Nat.reduceSub, Array.replicate_succ, Array.replicate_zero, List.push_toArray, List.append_toArray, List.nil_append, List.cons_append]
  have hne : f ≠ g := by omega
  go_wp2_with (go_at_call 48; rw [HW1.out]; refine (boxes_any g f (.slice none 0 0) W1 HC0.out HF1.out hne).mono ?_; rintro e w1 ⟨⟨v, rfl⟩, hC1, hg1⟩)
  have hbb : Below g w w1 := HbW.out.grown hg1 (by omega) (fun k e => by injection e with e; omega)
  have hP1 : Blk w1 (g + 1) 25 [.pointer (some ⟨g, 0, none⟩)] := HP0.out.grown hg1 (by simp)
  have hF2 : Fl w1 f := Blk.grown HF1.out hg1 (by simp; omega)
  have hsz2 : g + 2 ≤ w1.heap.size := by have := hg1.size; omega
  obtain ⟨b, hb⟩ : ∃ b, w1.heap.size = b := ⟨_, rfl⟩
  have HC1 := Lib.hid hC1
  have Hbb := Lib.hid hbb
  have HP1 := Lib.hid hP1
  have HF2 := Lib.hid hF2
  have Hb := Lib.hid hb
  clear hC1 hg1 hbb hP1 hF2
  rw [hb]
  go_wp2_with (go_at_call 49; refine (ChunkB_four A 16 c _).mono ?_; rintro e w2 ⟨rfl, hw2⟩)
  have hsz3 : w2.heap.size = b + 3 := by rw [← hw2, ← hb]; simp
  have hB2 : w2.heap[b + 1]? = some (.cells #[.slice A 16 c] 22 (0, 0)) := by
    have h := (Blk.new (w1.alloc (.cells #[.slice none 0 0] 49)) 22 #[.slice A 16 c]).alloc (.cells #[vi 4] 3)
    simp only [World.size_alloc, hb] at h
    rw [← hw2]; exact h
  have hB3 : w2.heap[b + 2]? = some (.cells #[vi 4] 3 (0, 0)) := by
    have h := Blk.new ((w1.alloc (.cells #[.slice none 0 0] 49)).alloc (.cells #[.slice A 16 c] 22)) 3 #[vi 4]
    simp only [World.size_alloc, hb] at h
    rw [← hw2]; exact h
  have hst : St w g f b [] w2 := by
    have e1 : Below b w1 w2 := by rw [← hw2, ← hb]; exact (((Below.refl _ _).alloc (Nat.le_refl _) _).alloc (by simp) _).alloc (by simp; omega) _
    refine ⟨Hbb.out.trans (e1.mono (by omega)), Blk.below HC1.out e1 (by omega), HP1.out.below e1 (by omega), Blk.below HF2.out e1 (by omega), ⟨none, 0, ?_, [], Ow.nil _ _ _ _, rfl, fun i v l hv => by simp at hv⟩, by omega⟩
    have h := ((Blk.new w1 49 #[.slice none 0 0]).alloc (.cells #[.slice A 16 c] 22)).alloc (.cells #[vi 4] 3)
    rw [hw2, hb] at h
    exact h
  have hs2 : Sl w2 A 16 c (l.map vb) := HS.out.below (by rw [hg]; exact hst.below)
  have hA : 0 < 16 → ∃ ad, A = some ad := fun h => by obtain ⟨ad, e, _⟩ := hs2.at_ h; exact ⟨ad, e⟩
  clear hw2
  refine wp_range (gf := 87) (lb := #[.pointer (some ⟨b + 1, 0, none⟩), .pointer (some ⟨b + 1 + 1, 0, none⟩)]) rfl (enters_of Try.func87 (by kernel_rfl) rfl)
    (chunkB_stops (b + 1) (b + 1 + 1) A 16 c 4 (by omega) (by omega) hA hs2.le (by omega) w2 (by omega) (by omega) hB2 hB3) Two.trans (Two.putObj (by omega) (by omega)) (Below.refl _ _) (fun _ => rfl)
    (fun pre W => St w g f b (pre.map fun x => (l.drop (4 * x.1)).take 4) W) (fun _ _ _ => False)
    (fun s W W' row hs hg' hr => hs.turn (by omega) hg' (fun r e => (hr r e).2) (fun k e => by have := (hr k e).1; omega)) (fun _ _ _ _ _ hs _ _ => hs) hst ?act ?assign ?body ?done ?stop
  case assign =>
    intro l0 x W K hK
    gi_wp2
    exact hK
  case stop =>
    intro D cc pre W _ _ h _
    exact h.elim
  case body =>
    intro l0 pre x W hI hlt
    obtain ⟨A1, c1, hw⟩ := hI.words
    have hx4 : x.1 < 4 := x.2
    obtain ⟨ch, hch⟩ : ∃ ch, (l.drop (4 * x.1)).take 4 = ch := ⟨_, rfl⟩
    have hcut : Sl W.drew (A.map (·.add (4 * x.1))) 4 4 (ch.map vb) := by
      have h := (HS.out.below (by rw [hg]; exact hI.below)).cut (4 * x.1) (4 * x.1 + 4) (4 * x.1 + 4) (by omega) (by omega) (by omega) (by have := HS.out.le; omega)
      rw [if_neg (by omega), show 4 * x.1 + 4 - 4 * x.1 = 4 by omega, Nat.mul_one, ← List.map_drop, ← List.map_take, hch] at h
      exact h.drew
    have hcv : chunkV A 16 4 x.1 = .slice (A.map (·.add (4 * x.1))) 4 4 := by
      unfold chunkV
      rw [show min 4 (16 - 4 * x.1) = 4 by omega]
    rw [hcv]
    have hlen4 : ch.length = 4 := by simpa using hcut.len
    have hc8 : W.drew.cell? ⟨b, 0, none⟩ = some (.slice A1 (pre.map fun x => (l.drop (4 * x.1)).take 4).length c1) := hw.var.cell 0
    gi_wp2
    refine wpIn_round_held (x := 5) (S := fun W' => W'.cell? ⟨b, 0, none⟩ = some (.slice A1 (pre.map fun x => (l.drop (4 * x.1)).take 4).length c1)) (by kernel_rfl) (by kernel_rfl) (by rintro ⟨_, _, h⟩; exact h) ?_
    refine wpAnyX_take (i := 0) (v := ?v0) rfl (by kernel_rfl) (by kernel_rfl) (by kernel_rfl) (by kernel_rfl) (fun _ _ _ h => h) (.inl ⟨by rfl, ?y0⟩) hc8 ?r0
    case y0 =>
      intro w hw
      (try dsimp only at hw)
      go_simp
      with_reducible rfl
    simp only [Act.put, List.setIfInBounds_toArray, List.set_cons_zero, List.set_cons_succ]
    refine wpAnyX_take (i := 1) (v := ?v1) rfl (by kernel_rfl) (by kernel_rfl) (by kernel_rfl) (by kernel_rfl) (fun _ _ _ h => h) (.inl ⟨by rfl, ?y1⟩) hc8 ?r1
    case y1 =>
      intro w hw
      (try dsimp only at hw)
      go_simp
      with_reducible rfl
    simp only [Act.put, List.setIfInBounds_toArray, List.set_cons_zero, List.set_cons_succ]
    refine wpAnyX_one (i := 2) (by kernel_rfl) rfl (by rfl) ?_
    go_simp
    refine (Clone_any _ 4 _ ch _ hcut (by omega)).mono ?_
    rintro e w3 ⟨A3, c3, rfl, ho3, hb3⟩
    have hbl := Blk.lt hw.var
    have hw3 : Words w3 b (b + 3) A1 c1 (pre.map fun x => (l.drop (4 * x.1)).take 4) := by
      have h := (hw.drewN 1).keep (w' := w3) hb3
      exact h
    have hc83 : w3.cell? ⟨b, 0, none⟩ = some (.slice A1 pre.length c1) := by
      have h := hw3.var.cell 0
      rw [List.length_map] at h
      exact h
    refine ⟨hc83, ?_⟩
    refine wpAnyX_one (i := 3) (by kernel_rfl) rfl (by rfl) ?_
    go_simp
    refine ⟨(by rw [World.cell?_alloc_lt _ _ _ (Nat.lt_of_lt_of_le hbl hb3.size)]; exact hc83), ?_⟩
    refine wpAnyX_one (i := 4) (by kernel_rfl) rfl (by rfl) ?_
    have hb34 : Below w3.heap.size w3 (w3.alloc (.cells #[.slice A3 4 c3] 22)) := (Below.refl _ _).alloc (Nat.le_refl _) _
    have hpl : pre.length < 4 := hlt
    have hb3' : Below W.heap.size W w3 := from_drew hb3
    have hsw : b + 3 ≤ W.heap.size := hI.size
    have hsw3 := hb3'.size
    obtain ⟨A4, c4, w4, hrun, hw4, hg4, hr4, hv4⟩ := (hw3.keep hb34).push (a := A3) (c2 := c3) (x := ch) (by rw [hlen4]; exact (ho3.more (B' := b + 3) (by show b + 3 ≤ W.heap.size; omega)).below hb34) 49 (h0 := w3.heap.size) (by rw [hlen4]; exact Blk.new w3 _ _) (by rw [List.length_map]; omega) (by simp; omega) (by omega)
    refine wp_of_append (.tmp 37) (.tmp 40) 49 rfl _ _ _ rfl rfl (by rw [List.length_map] at hrun; exact hrun) ?_
    have hc84 : w4.cell? ⟨b, 0, none⟩ = some (.slice A1 pre.length c1) := by
      have h := hv4.cell 0
      rw [List.length_map] at h
      exact h
    have hf84 : w4.frozen? ⟨b, 0, none⟩ = false := hv4.frozen 0
    refine ⟨.inr hc84, ?_⟩
    refine wpAnyX_one (i := 5) (by kernel_rfl) rfl (by rfl) ?_
    go_simp
    refine wpAnyX_done (by kernel_rfl) ?_ _
    show KeepsFrom w2.heap.size W _ ∧ Two (b + 1) (b + 1 + 1) W _ ∧ St w g f b ((pre ++ [x]).map fun x => (l.drop (4 * x.1)).take 4) _
    have hst3 : St w g f b (pre.map fun x => (l.drop (4 * x.1)).take 4) (w3.alloc (.cells #[.slice A3 4 c3] 22)) := (hI.keep (by omega) hb3').keep (by omega) hb34
    have hsz3' : (w3.alloc (.cells #[.slice A3 4 c3] 22)).heap.size = w3.heap.size + 1 := by simp
    rw [List.length_map] at hw4
    refine ⟨(keeps_below hb3').trans ((keeps_below hb34).trans ((keeps_row hg4 (fun k e => (hr4 k e).2)).trans (keeps_setCell hv4 _))),
      (Two.below hb3' (by omega) (by omega)).trans ((Two.below hb34 (by omega) (by omega)).trans ((two_row hg4 (by omega) (by omega) (fun e => by have := (hr4 _ e).1; omega) (fun e => by have := (hr4 _ e).1; omega)).trans (two_setCell _ _ (by omega) (by omega)))), ?_⟩
    refine hst3.push (by omega) (by omega) (by omega) hg4 (fun k e => (hr4 k e).1) (A' := A4) (c' := c4) ?_
    rw [List.map_append, List.map_cons, List.map_nil, hch]
    exact hw4
  case done =>
    intro D xs W hD hxs hI hK
    have hls : (xs.map fun x => (l.drop (4 * x.1)).take 4) = aesWords l 4 0 := by
      have hxs' : xs.map (·.1) = List.range 4 := hxs
      show _ = (List.range 4).map fun i => (l.drop (4 * i)).take 4
      rw [← hxs', List.map_map]
      rfl
    rw [hls] at hI
    have HI := Lib.hid hI
    have HK := Lib.hid hK
    have hDb : b + 3 ≤ D := by omega
    have hl16 : l.length = 16 := by simpa using hs2.len
    have HL := Lib.hid hl16
    clear hI hK hls hB2 hB3 hA hst hs2 hxs hD hsz3 HC1 Hbb HP1 HF2 HC0 HP0 HF1 HbW HW1 hl16
    go_wp2
    go_loopw [10, 11] (fun s10 s11 wr => ∃ k : Nat, k ≤ 40 ∧ s11 = vi (4 + k : Nat) ∧ s10 = vb (rcon ((3 + k) / 4)) ∧ Hid (St w g f b (aesWords l 4 k) wr) ∧ Hid (wr.heap[D]? = some (.deferred (some [])))) (fun _ s11 _ => 44 - (intOf s11).toNat)
    case atStart => exact ⟨0, by omega, rfl, rfl, HI, HK⟩
    case round =>
      obtain ⟨k, hk, rfl, rfl, HS1, HD1⟩ := hrel
      clear HI HK
      obtain ⟨ls, hls⟩ : ∃ ls, aesWords l 4 k = ls := ⟨_, rfl⟩
      have hll : ls.length = 4 + k := by rw [← hls]; exact aesWords_length l 4 k
      rw [hls] at HS1
      have HLS := Lib.hid hls
      clear hls
      obtain ⟨A1, c1, hw⟩ := HS1.out.words
      have c8 : wr.cell? ⟨b, 0, none⟩ = some (.slice A1 (4 + k) c1) := by
        have h := hw.var.cell 0
        rw [hll] at h
        exact h
      by_cases hlt : k < 40
      · obtain ⟨gr, off, rfl, hget⟩ := hw.get (by omega)
        obtain ⟨t, a1, c2, ht, hc1, ho1⟩ := hget (3 + k) (by omega)
        obtain ⟨u, a2, c3, hu, hc2, ho2⟩ := hget k (by omega)
        have HW := Lib.hid hw
        have HO1 := Lib.hid ho1
        have HO2 := Lib.hid ho2
        have e1 : t.length = 4 := by have h := aesWords_word l 4 (by omega) HL.out k t; rw [HLS.out] at h; exact h (List.mem_of_getElem? ht)
        have e2 : u.length = 4 := by have h := aesWords_word l 4 (by omega) HL.out k u; rw [HLS.out] at h; exact h (List.mem_of_getElem? hu)
        have ht' := Lib.hid ht
        have hu' := Lib.hid hu
        rw [e1] at hc1 HO1
        rw [e2] at hc2 HO2
        clear hw ho1 ho2 ht hu hget
        go_upto_block 5 with (go_at_call 50; refine (Clone_any a1 4 c2 t wr HO1.out.sl (by omega)).mono ?_; rintro e w3 ⟨A3, c3', rfl, ho3, hb3⟩)
        have hnx := Lib.hid (aesNext_four hll ht'.out hu'.out)
        go_cut [10, 12] from 43 to 111 (fun s10 s12 wq => ∃ (A3 : Option Addr) (c3 : Nat) (y : List UInt8), s12 = .slice A3 4 c3 ∧ s10 = vb (rcon ((4 + k) / 4)) ∧ Hid (Ow wq wr.heap.size 5 A3 4 c3 (y.map vb)) ∧ Hid (y = if k % 4 = 0 then [sbox (t.getD 1 0) ^^^ rcon (k / 4), sbox (t.getD 2 0), sbox (t.getD 3 0), sbox (t.getD 0 0)] else t) ∧ Hid (Below wr.heap.size wr wq))
        case first =>
          have ho3a := ho3
          obtain ⟨g3, o3, rfl, hg3, hg3', hrow3, hc3, hf3⟩ := ho3.at_ (by omega)
          have hb3s := hb3.size
          by_cases hm : k % 4 = 0
          · have hmod : ((((4 + k : Nat) : Int)).tmod 4 == 0) = true := by rw [Int.tmod_eq_emod_of_nonneg (by omega)]; simp; omega
            obtain ⟨t0, t1, t2, t3, rfl⟩ : ∃ t0 t1 t2 t3, t = [t0, t1, t2, t3] := by
              match t, e1 with
              | [t0, t1, t2, t3], _ => exact ⟨t0, t1, t2, t3, rfl⟩
            have d0 := hc3 0 _ rfl
            have d1 := hc3 1 _ rfl
            have d2 := hc3 2 _ rfl
            have d3 := hc3 3 _ rfl
            have hcp : w3.cell? ⟨g + 1, 0, none⟩ = some (.pointer (some ⟨g, 0, none⟩)) := (HS1.out.ptr.keep hb3).cell 0
            go_wp2
            obtain ⟨S, hSd⟩ : ∃ S : World → Prop, S = fun w' => w'.cell? ⟨g + 1, 0, none⟩ = some (.pointer (some ⟨g, 0, none⟩)) ∧ w'.cell? ⟨g3, o3, none⟩ = some (vb t0) ∧ w'.cell? ⟨g3, o3 + 1, none⟩ = some (vb t1) ∧ w'.cell? ⟨g3, o3 + 2, none⟩ = some (vb t2) ∧ w'.cell? ⟨g3, o3 + 3, none⟩ = some (vb t3) := ⟨_, rfl⟩
            have hS0 : (fun w' : World => w'.cell? ⟨g + 1, 0, none⟩ = some (.pointer (some ⟨g, 0, none⟩)) ∧ w'.cell? ⟨g3, o3, none⟩ = some (vb t0) ∧ w'.cell? ⟨g3, o3 + 1, none⟩ = some (vb t1) ∧ w'.cell? ⟨g3, o3 + 2, none⟩ = some (vb t2) ∧ w'.cell? ⟨g3, o3 + 3, none⟩ = some (vb t3)) w3.drew := ⟨hcp, d0, d1, d2, d3⟩
            clear hSd S
            refine wp_region_noPanic ?_
            refine wp_region_held_drew' (S := fun w' => w'.cell? ⟨g + 1, 0, none⟩ = some (.pointer (some ⟨g, 0, none⟩)) ∧ w'.cell? ⟨g3, o3, none⟩ = some (vb t0) ∧ w'.cell? ⟨g3, o3 + 1, none⟩ = some (vb t1) ∧ w'.cell? ⟨g3, o3 + 2, none⟩ = some (vb t2) ∧ w'.cell? ⟨g3, o3 + 3, none⟩ = some (vb t3)) (by kernel_rfl) ?_
            refine wpAnyH_take (i := 0) (v := ?va0) rfl (by kernel_rfl) (by kernel_rfl) (by kernel_rfl) (fun _ _ _ h => h) (.inl ⟨by rfl, ?ya0⟩) hS0 ?ra0
            case ya0 =>
              intro w hw
              (try dsimp only at hw)
              (try go_split_ands)
              go_simp
              with_reducible rfl
            simp only [Act.put, List.setIfInBounds_toArray, List.set_cons_zero, List.set_cons_succ]
            refine wpAnyH_take (i := 1) (v := ?va1) rfl (by kernel_rfl) (by kernel_rfl) (by kernel_rfl) (fun _ _ _ h => h) (.inl ⟨by rfl, ?ya1⟩) hS0 ?ra1
            case ya1 =>
              intro w hw
              (try dsimp only at hw)
              (try go_split_ands)
              go_simp
              with_reducible rfl
            simp only [Act.put, List.setIfInBounds_toArray, List.set_cons_zero, List.set_cons_succ]
            refine wpAnyH_take (i := 2) (v := ?va2) rfl (by kernel_rfl) (by kernel_rfl) (by kernel_rfl) (fun _ _ _ h => h) (.inl ⟨by rfl, ?ya2⟩) hS0 ?ra2
            case ya2 =>
              intro w hw
              (try dsimp only at hw)
              (try go_split_ands)
              go_simp
              with_reducible rfl
            simp only [Act.put, List.setIfInBounds_toArray, List.set_cons_zero, List.set_cons_succ]
            refine wpAnyH_take (i := 3) (v := ?va3) rfl (by kernel_rfl) (by kernel_rfl) (by kernel_rfl) (fun _ _ _ h => h) (.inl ⟨by rfl, ?ya3⟩) hS0 ?ra3
            case ya3 =>
              intro w hw
              (try dsimp only at hw)
              (try go_split_ands)
              go_simp
              with_reducible rfl
            simp only [Act.put, List.setIfInBounds_toArray, List.set_cons_zero, List.set_cons_succ]
            refine wpAnyH_take (i := 4) (v := ?va4) rfl (by kernel_rfl) (by kernel_rfl) (by kernel_rfl) (fun _ _ _ h => h) (.inl ⟨by rfl, ?ya4⟩) hS0 ?ra4
            case ya4 =>
              intro w hw
              (try dsimp only at hw)
              (try go_split_ands)
              go_simp
              with_reducible rfl
            simp only [Act.put, List.setIfInBounds_toArray, List.set_cons_zero, List.set_cons_succ]
            refine wpAnyH_take (i := 5) (v := ?va5) rfl (by kernel_rfl) (by kernel_rfl) (by kernel_rfl) (fun _ _ _ h => h) (.inl ⟨by rfl, ?ya5⟩) hS0 ?ra5
            case ya5 =>
              intro w hw
              (try dsimp only at hw)
              (try go_split_ands)
              go_simp
              with_reducible rfl
            simp only [Act.put, List.setIfInBounds_toArray, List.set_cons_zero, List.set_cons_succ]
            refine wpAnyH_take (i := 6) (v := ?va6) rfl (by kernel_rfl) (by kernel_rfl) (by kernel_rfl) (fun _ _ _ h => h) (.inl ⟨by rfl, ?ya6⟩) hS0 ?ra6
            case ya6 =>
              intro w hw
              (try dsimp only at hw)
              (try go_split_ands)
              go_simp
              with_reducible rfl
            simp only [Act.put, List.setIfInBounds_toArray, List.set_cons_zero, List.set_cons_succ]
            refine wpAnyH_take (i := 7) (v := ?va7) rfl (by kernel_rfl) (by kernel_rfl) (by kernel_rfl) (fun _ _ _ h => h) (.inl ⟨by rfl, ?ya7⟩) hS0 ?ra7
            case ya7 =>
              intro w hw
              (try dsimp only at hw)
              (try go_split_ands)
              go_simp
              with_reducible rfl
            simp only [Act.put, List.setIfInBounds_toArray, List.set_cons_zero, List.set_cons_succ]
            refine wpAnyH_take (i := 8) (v := ?va8) rfl (by kernel_rfl) (by kernel_rfl) (by kernel_rfl) (fun _ _ _ h => h) (.inl ⟨by rfl, ?ya8⟩) hS0 ?ra8
            case ya8 =>
              intro w hw
              (try dsimp only at hw)
              (try go_split_ands)
              go_simp
              with_reducible rfl
            simp only [Act.put, List.setIfInBounds_toArray, List.set_cons_zero, List.set_cons_succ]
            refine wpAnyH_take (i := 9) (v := ?va9) rfl (by kernel_rfl) (by kernel_rfl) (by kernel_rfl) (fun _ _ _ h => h) (.inl ⟨by rfl, ?ya9⟩) hS0 ?ra9
            case ya9 =>
              intro w hw
              (try dsimp only at hw)
              (try go_split_ands)
              go_simp
              with_reducible rfl
            simp only [Act.put, List.setIfInBounds_toArray, List.set_cons_zero, List.set_cons_succ]
            refine wpAnyH_take (i := 10) (v := ?va10) rfl (by kernel_rfl) (by kernel_rfl) (by kernel_rfl) (fun _ _ _ h => h) (.inl ⟨by rfl, ?ya10⟩) hS0 ?ra10
            case ya10 =>
              intro w hw
              (try dsimp only at hw)
              (try go_split_ands)
              go_simp
              with_reducible rfl
            simp only [Act.put, List.setIfInBounds_toArray, List.set_cons_zero, List.set_cons_succ]
            refine wpAnyH_take (i := 11) (v := ?va11) rfl (by kernel_rfl) (by kernel_rfl) (by kernel_rfl) (fun _ _ _ h => h) (.inl ⟨by rfl, ?ya11⟩) hS0 ?ra11
            case ya11 =>
              intro w hw
              (try dsimp only at hw)
              (try go_split_ands)
              go_simp
              with_reducible rfl
            simp only [Act.put, List.setIfInBounds_toArray, List.set_cons_zero, List.set_cons_succ]
            refine wpAnyH_take (i := 12) (v := ?va12) rfl (by kernel_rfl) (by kernel_rfl) (by kernel_rfl) (fun _ _ _ h => h) (.inl ⟨by rfl, ?ya12⟩) hS0 ?ra12
            case ya12 =>
              intro w hw
              (try dsimp only at hw)
              (try go_split_ands)
              go_simp
              with_reducible rfl
            simp only [Act.put, List.setIfInBounds_toArray, List.set_cons_zero, List.set_cons_succ]
            refine wpAnyH_take (i := 13) (v := ?va13) rfl (by kernel_rfl) (by kernel_rfl) (by kernel_rfl) (fun _ _ _ h => h) (.inl ⟨by rfl, ?ya13⟩) hS0 ?ra13
            case ya13 =>
              intro w hw
              (try dsimp only at hw)
              (try go_split_ands)
              go_simp
              with_reducible rfl
            simp only [Act.put, List.setIfInBounds_toArray, List.set_cons_zero, List.set_cons_succ]
            refine wpAnyH_take (i := 14) (v := ?va14) rfl (by kernel_rfl) (by kernel_rfl) (by kernel_rfl) (fun _ _ _ h => h) (.inl ⟨by rfl, ?ya14⟩) hS0 ?ra14
            case ya14 =>
              intro w hw
              (try dsimp only at hw)
              (try go_split_ands)
              go_simp
              with_reducible rfl
            simp only [Act.put, List.setIfInBounds_toArray, List.set_cons_zero, List.set_cons_succ]
            refine wpAnyH_one (i := 15) (by kernel_rfl) rfl (by rfl) ?_
            go_simp
            have hgn : g + 1 < w3.heap.size := by have := HS1.out.size; omega
            have hal : ∀ p : Addr, p.block < w3.heap.size → ((w3.drew).alloc (.cells #[vb t1, vb t2, vb t3, vb t0] 5)).cell? p = w3.cell? p := fun p hp => World.cell?_alloc_lt _ _ _ hp
            refine ⟨⟨(hal _ hgn).trans hcp, d0⟩, ?_⟩
            refine wpAnyH_one (i := 16) (by kernel_rfl) rfl (by rfl) ?_
            go_simp
            have hba : Below wr.heap.size wr (w3.alloc (.cells #[vb t1, vb t2, vb t3, vb t0] 5)).drew := (hb3.alloc hb3s _).drew
            have htab : Tab (w3.alloc (.cells #[vb t1, vb t2, vb t3, vb t0] 5)).drew g 2 sbox := (tab_of_cip HS1.out.cip).1.below hba (Blk.lt HS1.out.cip)
            have hsl4 : Sl (w3.alloc (.cells #[vb t1, vb t2, vb t3, vb t0] 5)).drew (some ⟨w3.heap.size, 0, none⟩) 4 4 ([t1, t2, t3, t0].map vb) := (((Blk.new w3 5 #[vb t1, vb t2, vb t3, vb t0]).own (B := 0) (Nat.zero_le _) (by simp [maxLen])).sl).drew
            refine (through_any g 2 sbox (some ⟨w3.heap.size, 0, none⟩) 4 4 [t1, t2, t3, t0] _ htab hsl4 (by omega)).mono ?_
            rintro e w4 ⟨A4, c4, rfl, ho4, hb4⟩
            have hc4 : ∀ p : Addr, p.block < w3.heap.size → w4.cell? p = w3.cell? p := fun p hp => (hb4.cell (p := p) (by show p.block < (w3.alloc _).heap.size; rw [World.size_alloc]; omega)).trans (World.cell?_alloc_lt _ _ _ hp)
            have hbw4 : Below wr.heap.size wr w4 := below_then hba hb4 hba.size
            refine ⟨⟨(hc4 _ hgn).trans hcp, (hc4 _ hg3').trans d0, (hc4 _ hg3').trans d1, (hc4 _ hg3').trans d2, (hc4 _ hg3').trans d3⟩, ?_⟩
            refine wpAnyH_one (i := 17) (by kernel_rfl) rfl (by rfl) ?_
            go_simp
            refine ⟨d0, ?_⟩
            refine wpAnyH_done (by kernel_rfl) ?_ _
            refine NoPanic.normal ?_
            have ho4a := ho4
            obtain ⟨g4, o4, rfl, hg4, hg4', hrow4, hc40, hf4⟩ := ho4.at_ (by omega)
            have b0 : w4.cell? ⟨g4, o4, none⟩ = some (vb (sbox t1)) := hc40 0 _ rfl
            have f0 := hf4 o4
            have hg4w : w3.heap.size + 1 ≤ g4 := by
              have e : (w3.alloc (.cells #[vb t1, vb t2, vb t3, vb t0] 5)).drew.heap.size = w3.heap.size + 1 := World.size_alloc _ _
              rw [e] at hg4; exact hg4
            obtain ⟨pw0, hpw⟩ : ∃ x, rcon ((3 + k) / 4) = x := ⟨_, rfl⟩
            have hfl4 : ∀ v, Fl (w4.setCell ⟨g4, o4, none⟩ v) f := fun v => Blk.far (Blk.keep HS1.out.fl hbw4) (p := ⟨g4, o4, none⟩) (by show f ≠ g4; have := Blk.lt HS1.out.fl; omega) v
            rw [hpw]
            have HPW := Lib.hid hpw
            have Ho4 := Lib.hid ho4a
            have Hbw4 := Lib.hid hbw4
            have Hfl4 := Lib.hid hfl4
            have Hrow4 := Lib.hid hrow4
            clear hpw ho4a hbw4 hfl4 hc40 hc4 hb4 ho4 hrow4 hf4 htab hsl4 hba hal hS0 d0 d1 d2 d3 hcp
            go_wp2_with (go_at_call 52; refine (Mul_two f pw0 _ (Hfl4.out _)).mono ?_; rintro e w5 ⟨rfl, nq, rfl⟩)
            go_meet
            refine ⟨_, c4, [sbox t1 ^^^ pw0, sbox t2, sbox t3, sbox t0], rfl, by rw [show (4 + k) / 4 = (3 + k) / 4 + 1 by omega, rcon, HPW.out], ?_, ?_, ?_⟩
            · show Ow _ _ _ _ _ _ _
              rw [vb_xor]
              exact ((Ho4.out.set_ (i := 0) (by omega) (vb (sbox t1 ^^^ pw0))).more (by show wr.heap.size ≤ (w3.alloc _).heap.size; rw [World.size_alloc]; omega)).drewN nq
            · show _ = _
              rw [if_pos hm, ← HPW.out, show (3 + k) / 4 = k / 4 by omega]
              rfl
            · exact below_drewN (Hbw4.out.setCell (p := ⟨g4, o4, none⟩) (by show wr.heap.size ≤ g4; omega) _) nq
          · have hmod : ((((4 + k : Nat) : Int)).tmod 4 == 0) = false := by rw [Int.tmod_eq_emod_of_nonneg (by omega)]; simp; omega
            go_wp2
            go_meet
            exact ⟨_, _, t, rfl, by rw [show (4 + k) / 4 = (3 + k) / 4 by omega], ho3a, by show _ = _; rw [if_neg hm], hb3⟩
        case rest =>
          obtain ⟨Ay, cy, y, rfl, rfl, hy1, hy2, hbq⟩ := hcut
          have hwc : Words wc b (b + 3) (some ⟨gr, off, none⟩) c1 ls := HW.out.keep hbq.out
          have r1 : wc.cell? ⟨b, 0, none⟩ = some (.slice (some ⟨gr, off, none⟩) (4 + k) c1) := by
            have h := hwc.var.cell 0
            rw [hll] at h
            exact h
          have hgrl : gr < wr.heap.size := World.block_lt_of_cell? wr _ hc2
          have r2 : wc.cell? ⟨gr, off + k, none⟩ = some (.slice a2 4 c3) := (hbq.out.cell (p := ⟨gr, off + k, none⟩) hgrl).trans hc2
          have k0 : (0 : Int) ≤ (k : Int) := Int.natCast_nonneg _
          have k1 : (k : Int) < 4 + (k : Int) := by omega
          have w41 : IntKind.i64.wrap (4 + (k : Int) - 4) = (k : Int) := by rw [IntKind.wrap_i64]; omega
          have hS1 : wc.drew.cell? ⟨b, 0, none⟩ = some (.slice (some ⟨gr, off, none⟩) (4 + k) c1) := r1
          have HWC := Lib.hid hwc
          clear hwc
          go_wp2
          refine wp_region_noPanic ?_
          refine wp_region_X (x := 11) (S := fun w' => w'.cell? ⟨b, 0, none⟩ = some (.slice (some ⟨gr, off, none⟩) (4 + k) c1)) (by kernel_rfl) ?_
          refine wpAnyX_take (i := 0) (v := ?vb0) rfl (by kernel_rfl) (by kernel_rfl) (by kernel_rfl) (by kernel_rfl) (fun _ _ _ h => h) (.inl ⟨by rfl, ?yb0⟩) hS1 ?rb0
          case yb0 =>
            intro w hw
            (try dsimp only at hw)
            (try go_split_ands)
            go_simp
            with_reducible rfl
          simp only [Act.put, List.setIfInBounds_toArray, List.set_cons_zero, List.set_cons_succ]
          refine wpAnyX_take (i := 1) (v := ?vb1) rfl (by kernel_rfl) (by kernel_rfl) (by kernel_rfl) (by kernel_rfl) (fun _ _ _ h => h) (.inl ⟨by rfl, ?yb1⟩) hS1 ?rb1
          case yb1 =>
            intro w hw
            (try dsimp only at hw)
            (try go_split_ands)
            go_simp
            with_reducible rfl
          simp only [Act.put, List.setIfInBounds_toArray, List.set_cons_zero, List.set_cons_succ]
          refine wpAnyX_take (i := 2) (v := ?vb2) rfl (by kernel_rfl) (by kernel_rfl) (by kernel_rfl) (by kernel_rfl) (fun _ _ _ h => h) (.inl ⟨by rfl, ?yb2⟩) hS1 ?rb2
          case yb2 =>
            intro w hw
            (try dsimp only at hw)
            (try go_split_ands)
            go_simp
            with_reducible rfl
          simp only [Act.put, List.setIfInBounds_toArray, List.set_cons_zero, List.set_cons_succ]
          refine wpAnyX_take (i := 3) (v := ?vb3) rfl (by kernel_rfl) (by kernel_rfl) (by kernel_rfl) (by kernel_rfl) (fun _ _ _ h => h) (.inl ⟨by rfl, ?yb3⟩) hS1 ?rb3
          case yb3 =>
            intro w hw
            (try dsimp only at hw)
            (try go_split_ands)
            go_simp
            with_reducible rfl
          simp only [Act.put, List.setIfInBounds_toArray, List.set_cons_zero, List.set_cons_succ]
          refine wpAnyX_take (i := 4) (v := ?vb4) rfl (by kernel_rfl) (by kernel_rfl) (by kernel_rfl) (by kernel_rfl) (fun _ _ _ h => h) (.inl ⟨by rfl, ?yb4⟩) hS1 ?rb4
          case yb4 =>
            intro w hw
            (try dsimp only at hw)
            (try go_split_ands)
            go_simp
            with_reducible rfl
          simp only [Act.put, List.setIfInBounds_toArray, List.set_cons_zero, List.set_cons_succ]
          refine wpAnyX_take (i := 5) (v := ?vb5) rfl (by kernel_rfl) (by kernel_rfl) (by kernel_rfl) (by kernel_rfl) (fun _ _ _ h => h) (.inl ⟨by rfl, ?yb5⟩) hS1 ?rb5
          case yb5 =>
            intro w hw
            (try dsimp only at hw)
            (try go_split_ands)
            go_simp
            with_reducible rfl
          simp only [Act.put, List.setIfInBounds_toArray, List.set_cons_zero, List.set_cons_succ]
          refine wpAnyX_take (i := 6) (v := ?vb6) rfl (by kernel_rfl) (by kernel_rfl) (by kernel_rfl) (by kernel_rfl) (fun _ _ _ h => h) (.inl ⟨by rfl, ?yb6⟩) hS1 ?rb6
          case yb6 =>
            intro w hw
            (try dsimp only at hw)
            (try go_split_ands)
            go_simp
            with_reducible rfl
          simp only [Act.put, List.setIfInBounds_toArray, List.set_cons_zero, List.set_cons_succ]
          refine wpAnyX_one (i := 7) (by kernel_rfl) rfl (by rfl) ?_
          go_simp
          refine wpAnyX_one (i := 8) (by kernel_rfl) rfl (by rfl) ?_
          go_simp
          have hwd : Sl wc.drew Ay 4 cy (y.map vb) := hy1.out.sl.drew
          have hud : Sl wc.drew a2 4 c3 (u.map vb) := ((HO2.out.below hbq.out).sl).drew
          refine (Xor_four Ay a2 cy c3 y u wc.drew hwd hud).mono ?_
          rintro e w5 ⟨A5, c5, rfl, ho5, hb5⟩
          have hb5' : Below wc.heap.size wc w5 := from_drew hb5
          have hgrl5 : gr < wc.heap.size := Nat.lt_of_lt_of_le hgrl hbq.out.size
          have hblc := Blk.lt HWC.out.var
          have s1 : w5.cell? ⟨b, 0, none⟩ = some (.slice (some ⟨gr, off, none⟩) (4 + k) c1) := (hb5'.cell (p := ⟨b, 0, none⟩) hblc).trans r1
          have s2 : w5.cell? ⟨gr, off + k, none⟩ = some (.slice a2 4 c3) := (hb5'.cell (p := ⟨gr, off + k, none⟩) hgrl5).trans r2
          have hsz5 := hb5'.size
          refine ⟨s1, ?_⟩
          refine wpAnyX_one (i := 9) (by kernel_rfl) rfl (by rfl) ?_
          go_simp
          refine ⟨(World.cell?_alloc_lt _ _ _ (Nat.lt_of_lt_of_le hblc hsz5)).trans s1, ?_⟩
          have hba5 : Below w5.heap.size w5 (w5.alloc (.cells #[.slice A5 4 c5] 22)) := (Below.refl _ _).alloc (Nat.le_refl _) _
          have hxl : (xorL y u).length = 4 := by have h := ho5.len; simpa using h
          have hbs : b + 3 ≤ wr.heap.size := HS1.out.size
          have hbqs := hbq.out.size
          obtain ⟨A6, c6, w6, hrun, hw6, hg6, hr6, hv6⟩ := ((HWC.out.keep hb5').keep hba5).push (a := A5) (c2 := c5) (x := xorL y u) (by rw [hxl]; exact (ho5.more (B' := b + 3) (by show b + 3 ≤ wc.heap.size; omega)).below hba5) 49 (h0 := w5.heap.size) (by rw [hxl]; exact Blk.new w5 _ _) (by omega) (by simp; omega) (by omega)
          rw [hll] at hrun hw6 hv6
          have s6 : w6.cell? ⟨b, 0, none⟩ = some (.slice (some ⟨gr, off, none⟩) (4 + k) c1) := hv6.cell 0
          have f6 := hv6.frozen 0
          refine wpAnyX_one (i := 10) (by kernel_rfl) rfl (by rfl) ?_
          refine wp_of_append (.tmp 101) (.tmp 110) 49 rfl _ _ _ rfl rfl hrun ?_
          refine ⟨.inr s6, ?_⟩
          refine wpAnyX_one (i := 11) (by kernel_rfl) rfl (by rfl) ?_
          go_simp
          refine wpAnyX_done (by kernel_rfl) ?_ _
          refine NoPanic.normal ?_
          have hst6 : St w g f b (ls ++ [xorL y u]) (w6.setCell ⟨b, 0, none⟩ (.slice A6 (4 + k + 1) c6)) := (((HS1.out.keep (by omega) hbq.out).keep (by omega) hb5').keep (by omega) hba5).push (by omega) (by omega) (by omega) hg6 (fun k e => (hr6 k e).1) hw6
          have hDl : D < wr.heap.size := lt_of_heap HD1.out
          have hD6 : (w6.setCell ⟨b, 0, none⟩ (.slice A6 (4 + k + 1) c6)).heap[D]? = some (.deferred (some [])) := by
            have q1 := (hbq.out.block D hDl).trans HD1.out
            have q2 := (hb5'.block D (lt_of_heap q1)).trans q1
            have q3 := (hba5.block D (lt_of_heap q2)).trans q2
            have q4 := (hg6.block D (lt_of_heap q3) (fun e => by obtain ⟨_, cs, hc⟩ := hr6 D e.symm; rw [q3] at hc; cases hc)).trans q3
            exact (Below.heap_setCell w6 ⟨b, 0, none⟩ _ D (by show D ≠ b; omega)).trans q4
          have HST6 := Lib.hid hst6
          have HD6 := Lib.hid hD6
          clear hst6 hD6 hrun hw6 hg6 hr6 hv6 s6 f6 s1 s2 r1 r2
          go_wp2
          go_roundw
          case rel =>
            refine ⟨k + 1, by omega, by go_num, by rw [show (3 + (k + 1)) / 4 = k / 4 + 1 by omega], ?_, HD6⟩
            show St _ _ _ _ _ _
            have e : aesWords l 4 (k + 1) = ls ++ [xorL y u] := by
              show aesWords l 4 k ++ [aesNext 4 (aesWords l 4 k)] = _
              rw [HLS.out, hnx.out, hy2.out]
            rw [e]
            exact HST6.out
          case measure => simp [intOf]; omega
      · obtain rfl : k = 40 := by omega
        have hks : Kst w g f b D A1 c1 ls [] (.slice none 0 0) wr := ⟨HS1.out.below, HS1.out.cip, HS1.out.ptr, HS1.out.fl, hw, World.ownsRow_nil _ _ _ _, HD1.out⟩
        have hrw := hw.rows
        have hwo : ∀ x ∈ ls, x.length = 4 := fun x hx => by have h := aesWords_word l 4 (by omega) HL.out 40 x; rw [HLS.out] at h; exact h hx
        have hbs : b + 3 ≤ wr.heap.size := HS1.out.size
        rw [hll] at hrw
        have HKS := Lib.hid hks
        have HRW := Lib.hid hrw
        have HWO := Lib.hid hwo
        clear hks hrw hwo hw HS1 HD1
        obtain ⟨br, hbr⟩ : ∃ br, wr.heap.size = br := ⟨_, rfl⟩
        have Hbr := Lib.hid hbr
        go_wp2_with (go_at_call 54; refine (ChunkR_four A1 44 c1 _).mono ?_; rintro e wy ⟨rfl, hwy⟩)
        have hszy : wy.heap.size = br + 2 := by rw [← hwy, ← hbr]; simp
        have hBy1 : wy.heap[br]? = some (.cells #[.slice A1 44 c1] 49 (0, 0)) := by
          have h := (Blk.new wr 49 #[.slice A1 44 c1]).alloc (.cells #[vi 4] 3)
          rw [hbr] at h
          rw [← hwy]; exact h
        have hBy2 : wy.heap[br + 1]? = some (.cells #[vi 4] 3 (0, 0)) := by
          have h := Blk.new (wr.alloc (.cells #[.slice A1 44 c1] 49)) 3 #[vi 4]
          simp only [World.size_alloc, hbr] at h
          rw [← hwy]; exact h
        have hby : Below wr.heap.size wr wy := by rw [← hwy]; exact ((Below.refl _ _).alloc (Nat.le_refl _) _).alloc (by simp) _
        have hky := HKS.out.keep (by omega) hby
        have hDy : D < wy.heap.size := lt_of_heap hky.mark
        have hry : Rows wy A1 44 c1 ls := HRW.out.below hby
        have hlc : 44 ≤ c1 := by obtain ⟨vs, hs, _⟩ := hry; exact hs.le
        have hA1 : 0 < 44 → ∃ ad, A1 = some ad := fun h => by obtain ⟨vs, hs, _⟩ := hry; obtain ⟨ad, e, _⟩ := hs.at_ h; exact ⟨ad, e⟩
        have HRY := Lib.hid hry
        clear hwy hry
        refine wp_range (gf := 88) (lb := #[.pointer (some ⟨br, 0, none⟩), .pointer (some ⟨br + 1, 0, none⟩)]) rfl (enters_of Try.func88 (by kernel_rfl) rfl)
          (chunkR_stops br (br + 1) A1 44 c1 4 (by omega) (by omega) hA1 hlc (by omega) wy (by omega) (by omega) hBy1 hBy2) Two.trans (Two.putObj (by omega) (by omega)) (Below.refl _ _) (fun _ => rfl)
          (fun pre W => ∃ kv, Kst w g f b D A1 c1 ls (pre.map fun x => ((ls.drop (4 * x.1)).take 4).flatten) kv W ∧ (wy.heap.size ≤ W.heap.size ∧ W.heap[br]? = some (.cells #[.slice A1 44 c1] 49 (0, 0)) ∧ W.heap[br + 1]? = some (.cells #[vi 4] 3 (0, 0)))) (fun _ _ _ => False)
          (fun s W W' row hs hg' hr => by obtain ⟨kv, hk, h1, h2, h3⟩ := hs; exact ⟨kv, hk.turn (by omega) hg' (fun r e => (hr r e).2) (fun k e => by have := (hr k e).1; omega) (fun e => by have := (hr D e).1; omega), Nat.le_trans h1 hg'.size, (hg'.block _ (lt_of_heap h2) (fun e => by have := (hr _ e.symm).1; omega)).trans h2, (hg'.block _ (lt_of_heap h3) (fun e => by have := (hr _ e.symm).1; omega)).trans h3⟩)
          (fun _ _ _ _ _ hs _ _ => hs) ⟨_, hky, Nat.le_refl _, hBy1, hBy2⟩ ?act2 ?assign2 ?body2 ?done2 ?stop2
        case assign2 =>
          intro l0 x W K hK
          gi_wp2
          exact hK
        case stop2 =>
          intro D' cc pre W _ _ h _
          exact h.elim
        case body2 =>
          intro l0 pre x W hI hlt
          obtain ⟨kv, hk, hyW, hbr1, hbr2⟩ := hI
          have hx11 : x.1 < 11 := x.2
          have hp11 : pre.length < 11 := hlt
          obtain ⟨ch, hch⟩ : ∃ ch, (ls.drop (4 * x.1)).take 4 = ch := ⟨_, rfl⟩
          have hrows : Rows W.drew (A1.map (·.add (4 * x.1))) 4 4 ch := by
            have h0 := hk.words.rows
            rw [hll] at h0
            have h := (h0.cut (4 * x.1) 4 (by omega) (by omega)).below ((Below.refl _ _).drew)
            rw [Nat.mul_one, hch] at h
            exact h
          have hch4 : ∀ y ∈ ch, y.length = 4 := fun y hy => HWO.out y (by rw [← hch] at hy; exact List.mem_of_mem_drop (List.mem_of_mem_take hy))
          have hchl : ch.flatten.length = 16 := by rw [total_flatten, total_four hch4, hrows.len]
          have hcv : chunkV A1 44 4 x.1 = .slice (A1.map (·.add (4 * x.1))) 4 4 := by
            unfold chunkV
            rw [show min 4 (44 - 4 * x.1) = 4 by omega]
          rw [hcv]
          have q1 : W.drew.cell? ⟨g + 1, 0, none⟩ = some (.pointer (some ⟨g, 0, none⟩)) := hk.ptr.cell 0
          have q2 : W.drew.cell? ⟨g, 1, none⟩ = some kv := Blk.cell hk.cip 1
          have hS2 : W.drew.cell? ⟨g + 1, 0, none⟩ = some (.pointer (some ⟨g, 0, none⟩)) ∧ W.drew.cell? ⟨g, 1, none⟩ = some kv := ⟨q1, q2⟩
          have HK2 := Lib.hid hk
          have HRows := Lib.hid hrows
          have HCh4 := Lib.hid hch4
          have HChl := Lib.hid hchl
          have HCh := Lib.hid hch
          have hgW := Blk.lt hk.ptr
          clear hk hrows hch4 hchl hch hcv
          gi_wp2
          refine wpIn_round_held (x := 13) (S := fun W' => W'.cell? ⟨g + 1, 0, none⟩ = some (.pointer (some ⟨g, 0, none⟩)) ∧ W'.cell? ⟨g, 1, none⟩ = some kv) (by kernel_rfl) (by kernel_rfl) (by rintro ⟨_, _, h⟩; exact h) ?_
          refine wpAnyX_take (i := 0) (v := ?vc0) rfl (by kernel_rfl) (by kernel_rfl) (by kernel_rfl) (by kernel_rfl) (fun _ _ _ h => h) (.inl ⟨by rfl, ?yc0⟩) hS2 ?rc0
          case yc0 =>
            intro w hw
            (try dsimp only at hw)
            (try go_split_ands)
            go_simp
            with_reducible rfl
          simp only [Act.put, List.setIfInBounds_toArray, List.set_cons_zero, List.set_cons_succ]
          refine wpAnyX_take (i := 1) (v := ?vc1) rfl (by kernel_rfl) (by kernel_rfl) (by kernel_rfl) (by kernel_rfl) (fun _ _ _ h => h) (.inl ⟨by rfl, ?yc1⟩) hS2 ?rc1
          case yc1 =>
            intro w hw
            (try dsimp only at hw)
            (try go_split_ands)
            go_simp
            with_reducible rfl
          simp only [Act.put, List.setIfInBounds_toArray, List.set_cons_zero, List.set_cons_succ]
          refine wpAnyX_take (i := 2) (v := ?vc2) rfl (by kernel_rfl) (by kernel_rfl) (by kernel_rfl) (by kernel_rfl) (fun _ _ _ h => h) (.inl ⟨by rfl, ?yc2⟩) hS2 ?rc2
          case yc2 =>
            intro w hw
            (try dsimp only at hw)
            (try go_split_ands)
            go_simp
            with_reducible rfl
          simp only [Act.put, List.setIfInBounds_toArray, List.set_cons_zero, List.set_cons_succ]
          refine wpAnyX_take (i := 3) (v := ?vc3) rfl (by kernel_rfl) (by kernel_rfl) (by kernel_rfl) (by kernel_rfl) (fun _ _ _ h => h) (.inl ⟨by rfl, ?yc3⟩) hS2 ?rc3
          case yc3 =>
            intro w hw
            (try dsimp only at hw)
            (try go_split_ands)
            go_simp
            with_reducible rfl
          simp only [Act.put, List.setIfInBounds_toArray, List.set_cons_zero, List.set_cons_succ]
          refine wpAnyX_take (i := 4) (v := ?vc4) rfl (by kernel_rfl) (by kernel_rfl) (by kernel_rfl) (by kernel_rfl) (fun _ _ _ h => h) (.inl ⟨by rfl, ?yc4⟩) hS2 ?rc4
          case yc4 =>
            intro w hw
            (try dsimp only at hw)
            (try go_split_ands)
            go_simp
            with_reducible rfl
          simp only [Act.put, List.setIfInBounds_toArray, List.set_cons_zero, List.set_cons_succ]
          refine wpAnyX_take (i := 5) (v := ?vc5) rfl (by kernel_rfl) (by kernel_rfl) (by kernel_rfl) (by kernel_rfl) (fun _ _ _ h => h) (.inl ⟨by rfl, ?yc5⟩) hS2 ?rc5
          case yc5 =>
            intro w hw
            (try dsimp only at hw)
            (try go_split_ands)
            go_simp
            with_reducible rfl
          simp only [Act.put, List.setIfInBounds_toArray, List.set_cons_zero, List.set_cons_succ]
          refine wpAnyX_one (i := 6) (by kernel_rfl) rfl (by rfl) ?_
          go_simp
          refine (Concat_16 _ 4 ch _ HRows.out HCh4.out).mono ?_
          rintro e w5 ⟨gc, oc, c5, rfl, ho5, hb5⟩
          have hb5' : Below W.heap.size W w5 := from_drew hb5
          have s1 : w5.cell? ⟨g + 1, 0, none⟩ = some (.pointer (some ⟨g, 0, none⟩)) := (hb5'.cell (p := ⟨g + 1, 0, none⟩) hgW).trans q1
          have s2 : w5.cell? ⟨g, 1, none⟩ = some kv := (hb5'.cell (p := ⟨g, 1, none⟩) (Nat.lt_of_succ_lt hgW)).trans q2
          have hrange : w5.rangeAt gc oc (ch.flatten.map vb) := by
            obtain ⟨g', o', e', _, _, _, hc, _⟩ := ho5.at_ (by omega)
            cases e'
            exact hc
          have hsz5 := hb5'.size
          refine ⟨⟨s1, s2⟩, ?_⟩
          refine wpAnyX_one (i := 7) (by kernel_rfl) rfl (by rfl) ?_
          refine wp_s2ap (.tmp 121) rfl ⟨gc, oc, none⟩ c5 rfl ?_
          refine ⟨.inr ⟨s1, s2⟩, ?_⟩
          refine wpAnyX_one (i := 8) (by kernel_rfl) rfl (by rfl) ?_
          refine wp_load_mid 84 (.tmp 122) rfl gc oc rfl (ch.flatten.map vb) _ hrange Try.underlying84 rfl (by rw [List.length_map, HChl.out]; exact infoQ) ?_
          refine ⟨.inr ⟨s1, s2⟩, ?_⟩
          refine wpAnyX_one (i := 9) (by kernel_rfl) rfl (by rfl) ?_
          refine wp_build16 (.tmp 123) rfl ch.flatten HChl.out rfl ?_
          have hba5 : Below w5.heap.size w5 (w5.alloc (.cells (ch.flatten.map vb).toArray 84)) := (Below.refl _ _).alloc (Nat.le_refl _) _
          have hszb : (w5.alloc (.cells (ch.flatten.map vb).toArray 84)).heap.size = w5.heap.size + 1 := World.size_alloc _ _
          have s3 : (w5.alloc (.cells (ch.flatten.map vb).toArray 84)).cell? ⟨g + 1, 0, none⟩ = some (.pointer (some ⟨g, 0, none⟩)) := (hba5.cell (p := ⟨g + 1, 0, none⟩) (Nat.lt_of_lt_of_le hgW hsz5)).trans s1
          have s4 : (w5.alloc (.cells (ch.flatten.map vb).toArray 84)).cell? ⟨g, 1, none⟩ = some kv := (hba5.cell (p := ⟨g, 1, none⟩) (Nat.lt_of_lt_of_le (Nat.lt_of_succ_lt hgW) hsz5)).trans s2
          refine ⟨.inr ⟨s3, s4⟩, ?_⟩
          obtain ⟨kv6, w6, hrun6, hk6, hg6, hr6, _, hc6, hp6⟩ := ((HK2.out.keep (by omega) hb5').keep (by omega) hba5).push (by omega) (by omega) (by omega) (by have := hby.size; omega) 70 (h0 := w5.heap.size) HChl.out (Blk.new w5 _ _) (by rw [List.length_map]; omega)
          obtain ⟨nk, hnk⟩ : ∃ nk, ((pre.map fun x => ((ls.drop (4 * x.1)).take 4).flatten) ++ [ch.flatten]).length = nk := ⟨_, rfl⟩
          obtain ⟨gk, capk, rfl⟩ : ∃ gk capk, kv6 = .slice (some ⟨gk, 0, none⟩) nk capk := by
            rcases hk6.own.2 with ⟨_, h0⟩ | ⟨gk, capk, cur, hkv, _⟩
            · simp at h0
            · exact ⟨gk, capk, by rw [hkv, hnk]⟩
          clear hnk
          have s5 : w6.cell? ⟨g + 1, 0, none⟩ = some (.pointer (some ⟨g, 0, none⟩)) := hp6.cell 0
          have s6 : w6.cell? ⟨g, 1, none⟩ = some kv := Blk.cell hc6 1
          have f6 := Blk.frozen hc6 1
          refine wpAnyX_one (i := 10) (by kernel_rfl) rfl (by rfl) ?_
          refine wp_of_append (.tmp 119) (.tmp 124) 70 rfl _ _ _ rfl rfl hrun6 ?_
          refine ⟨.inr ⟨s5, s6⟩, ?_⟩
          refine wpAnyX_one (i := 11) (by kernel_rfl) rfl (by rfl) ?_
          go_simp
          refine wpAnyX_one (i := 12) (by kernel_rfl) rfl (by rfl) ?_
          go_simp
          refine wpAnyX_one (i := 13) (by kernel_rfl) rfl (by rfl) ?_
          go_simp
          refine wpAnyX_done (by kernel_rfl) ?_ _
          show KeepsFrom wy.heap.size W _ ∧ Two br (br + 1) W _ ∧ (∃ kv, Kst w g f b D A1 c1 ls ((pre ++ [x]).map fun x => ((ls.drop (4 * x.1)).take 4).flatten) kv _ ∧ (wy.heap.size ≤ _ ∧ _ ∧ _))
          have u1 := (hba5.block br (by omega)).trans ((hb5'.block br (by omega)).trans hbr1)
          have u2 := (hba5.block (br + 1) (by omega)).trans ((hb5'.block (br + 1) (by omega)).trans hbr2)
          have n1 : kv.ownBlock ≠ some br := fun e => by obtain ⟨_, cs, hc⟩ := hr6 br e; rw [u1] at hc; injection hc with hc; injection hc with _ ht; exact absurd ht (by decide)
          have n2 : kv.ownBlock ≠ some (br + 1) := fun e => by obtain ⟨_, cs, hc⟩ := hr6 (br + 1) e; rw [u2] at hc; injection hc with hc; injection hc with _ ht; exact absurd ht (by decide)
          have hszy6 := hg6.size
          have hbys := hby.size
          have two : Two br (br + 1) W (w6.setCell ⟨g, 1, none⟩ (.slice (some ⟨gk, 0, none⟩) nk capk)) := (Two.below hb5' (by omega) (by omega)).trans ((Two.below hba5 (by omega) (by omega)).trans ((two_row hg6 (by omega) (by omega) n1 n2).trans
            ⟨Below.heap_setCell w6 ⟨g, 1, none⟩ _ br (by show br ≠ g; omega), Below.heap_setCell w6 ⟨g, 1, none⟩ _ (br + 1) (by show br + 1 ≠ g; omega)⟩))
          refine ⟨(keeps_below hb5').trans ((keeps_below hba5).trans ((keeps_row hg6 (fun k e => (hr6 k e).2)).trans (KeepsFrom.of_cells (row := some g) (Gr.setCell (Gr.refl w6 (some g)) 1 _) (fun j o e ho => by cases e; have q := hc6; unfold Cip Blk at q; rw [q] at ho; cases ho; rfl)))), two, .slice (some ⟨gk, 0, none⟩) nk capk, ?_, ?_, two.1.trans hbr1, two.2.trans hbr2⟩
          · rw [List.map_append, List.map_cons, List.map_nil, HCh.out]
            exact hk6
          · have e : (w6.setCell ⟨g, 1, none⟩ (.slice (some ⟨gk, 0, none⟩) nk capk)).heap.size = w6.heap.size := by simp [World.setCell]
            rw [e]; omega
        case done2 =>
          intro D' xs W hD' hxs hI hK'
          obtain ⟨kv, hk, _, _, _⟩ := hI
          have hl16 := HL.out
          have hkk : (xs.map fun x => ((ls.drop (4 * x.1)).take 4).flatten) = (List.range (aesRounds l + 1)).map (aesKey l) := by
            have hr : aesRounds l + 1 = 11 := by unfold aesRounds; rw [hl16]
            have hxs' : xs.map (·.1) = List.range 11 := hxs
            have hall : aesAll l = ls := by unfold aesAll; rw [hl16]; exact HLS.out
            rw [hr, ← hxs', List.map_map]
            apply List.map_congr_left
            intro x _
            show _ = aesKey l x.1
            unfold aesKey
            rw [hall]
          have hok := hk.ok hkk
          have hcell : W.cell? ⟨g + 1, 0, none⟩ = some (.pointer (some ⟨g, 0, none⟩)) := hk.ptr.cell 0
          have e1 : (W.putObj D' (.deferred none)).heap[D]? = some (.deferred (some [])) := (World.putObj_heap_other (by omega)).trans hk.mark
          have g1 := grownBy_putObj' W D' (.deferred none)
          have g2 := grownBy_putObj' (W.putObj D' (.deferred none)) D (.deferred none)
          have c1' : NoCells W (some D') := fun r e => by cases e; exact ⟨_, hK', rfl⟩
          have c2' : NoCells (W.putObj D' (.deferred none)) (some D) := fun r e => by cases e; exact ⟨_, e1, rfl⟩
          have hok2 := Lib.hid ((hok.turn g1 c1').turn g2 c2')
          have hbel := Lib.hid ((hk.below.grown g1 (by rw [← hg]; exact hk.below.size) (fun k e => by cases e; omega)).grown g2 (by have := hk.below.size; have := g1.size; omega) (fun k e => by cases e; omega))
          have HK' := Lib.hid hK'
          have E1 := Lib.hid e1
          clear hok hk g1 g2 c1' c2' e1 hK' hkk hxs HKS HRW HRY hBy1 hBy2 hky
          go_wp2
          refine postM_ret (w' := (W.putObj D' (.deferred none)).putObj D (.deferred none)) ⟨D', rfl, HK'.out, D, rfl, E1.out, rfl⟩ (results_tmp2 rfl _ _ _) ?_
          exact ⟨g, rfl, Nat.le_refl _, hok2.out, hbel.out⟩
end Lg
