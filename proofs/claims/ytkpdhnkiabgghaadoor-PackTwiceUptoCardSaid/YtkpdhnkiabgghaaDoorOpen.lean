/- The law's argument, opened: a slice of blocks; how much of it there is. -/
import Derived.Test.YtkpdhnkiabgghaaDoorLaid
import Derived.Test.YtkpdhnkiabgghaaDoorTwice
import Derived.Deep.Slices
import Derived.Deep.Fields
import Derived.ChangeSame
namespace Go.Proofs.YtkpdhnkiabgghaaDoor
open Go.ChangeShapes Go.WideShapes Go.Deep Go.RowKit
section
variable {H : Type} {enc : TypeId × Value → H} {P : Program} {w : World} {base : Nat} {spare : Nat → Bool} {held : Bool}
theorem open_slice_fields {t e : TypeId} {fs : Array Field} {fuel : Nat} {cs : List Value} {x : DataW H × List MemPlace} (ht : P.underlying t = some (.slice e)) (he : P.underlying e = some (.struct fs))
    (hone : oneCellFields P fs = true) (hC : P.cellsOf e = fs.size) (h : DataW.trod enc P w base spare held fuel t cs = some x) :
    (cs = [.slice none 0 0] ∧ x = (.nil, [])) ∨
    ∃ (a : Addr) (len cap m : Nat) (D : Nat → DataW H) (Pl : Nat → List MemPlace), cs = [.slice (some a) len cap] ∧ base ≤ a.block ∧ len ≤ cap ∧ cap ≤ maxLen ∧ m = (if spare a.block then cap else len) ∧
      x = (.slice ((List.range len).map D) ((List.range (m - len)).map fun j => D (len + j)), MemPlace.row a (m * fs.size) ++ (List.range m).flatMap Pl) ∧
      ∀ i, i < m → ∃ (ys : List (DataW H × List MemPlace)) (n : Nat), D i = .agg (ys.map (·.1)) ∧ Pl i = ys.flatMap (·.2) ∧ ys.length = fs.size ∧
        ∀ (j : Nat) (f : Field), fs[j]? = some f → ∃ (v : Value) (y : DataW H × List MemPlace), w.cell? (a.add (i * fs.size + j)) = some v ∧ ys[j]? = some y ∧ DataW.trod enc P w base spare held n f.type [v] = some y := by
  rcases open_slice ht h with h0 | ⟨a, len, cap, m, n, D, Pl, hcs, hb, hl, hm, hmm, hx, hi⟩
  · exact .inl h0
  · refine .inr ⟨a, len, cap, m, D, Pl, hcs, hb, hl, hm, hmm, by rw [hC] at hx; exact hx, fun i him => ?_⟩
    obtain ⟨cs', hc, ht'⟩ := hi i him
    rw [hC] at hc
    obtain ⟨ys, n', hn', hy, hlen, hyl, hf⟩ := DataW.trod_struct he ht'
    obtain ⟨_, hcl, hat⟩ := World.cells?_some hc
    simp only [Prod.mk.injEq] at hy
    refine ⟨ys, n', hy.1, hy.2, hyl, fun j f hj => ?_⟩
    obtain ⟨ho, hk⟩ := hone_of hone j f hj
    have hjl : j < fs.size := (Array.getElem?_eq_some_iff.1 hj).1
    have hcell := hat j hjl
    have hv : cs'[j]? = some (cs'[j]'(by omega)) := List.getElem?_eq_getElem (by omega)
    have h1 := hf j f hj
    rw [ho, hk] at h1
    have hone' : (cs'.drop j).take 1 = [cs'[j]'(by omega)] := by
      rw [List.drop_eq_getElem_cons (by omega)]
      rfl
    rw [hone'] at h1
    have hys : ys[j]? = some (ys[j]'(by omega)) := List.getElem?_eq_getElem (by omega)
    refine ⟨_, _, ?_, hys, h1.trans hys⟩
    rw [← Go.Deep.add_add, hcell, hv]
end
theorem bulk_part {H : Type} {d : DataW H} {l : List (DataW H)} (h : d ∈ l) : Rows.uptoBulk d ≤ Rows.uptoBulkAll l := by
  induction l with
  | nil => cases h
  | cons x r ih =>
    simp only [Rows.uptoBulkAll]
    rcases List.mem_cons.1 h with e | e
    · subst e; omega
    · have := ih e; omega
open Pack Law05
section
variable {H : Type} {enc : TypeId × Value → H} {W : World}
theorem bulk_fields {D : Nat → DataW H} {F : Nat → Fld} : ∀ l : List Nat, (∀ i ∈ l, Rows.uptoBulk (D i) = (F i).n.size + (F i).v.size + 4) → bulkF (l.map F) = Rows.uptoBulkAll (l.map D)
  | [], _ => by simp [bulkF, Rows.uptoBulkAll]
  | i :: l, h => by
    have h1 := h i (by simp)
    have h2 := bulk_fields l (fun j hj => h j (by simp [hj]))
    simp only [bulkF, List.map_cons, List.sum_cons, Rows.uptoBulkAll] at h2 ⊢
    omega
theorem fldC_at (fs : List Fld) (j : Nat) (u : Value) (h : (fldC fs)[j]? = some u) : ∃ f, fs[j / 3]? = some f ∧ ((j % 3 = 0 ∧ u = .string f.n) ∨ (j % 3 = 1 ∧ u = .string f.v) ∨ (j % 3 = 2 ∧ u = .bool f.never)) := by
  have hl : j < (fldC fs).length := (List.getElem?_eq_some_iff.1 h).1
  rw [fldC_length] at hl
  have hk : j / 3 < fs.length := by omega
  refine ⟨fs[j / 3], List.getElem?_eq_getElem hk, ?_⟩
  obtain ⟨x0, x1, x2⟩ := fldC_get fs (j / 3) _ (List.getElem?_eq_getElem hk)
  have hr : j % 3 = 0 ∨ j % 3 = 1 ∨ j % 3 = 2 := by omega
  rcases hr with hr | hr | hr
  · rw [show j / 3 * 3 = j by omega, h] at x0; cases x0; exact .inl ⟨hr, rfl⟩
  · rw [show j / 3 * 3 + 1 = j by omega, h] at x1; cases x1; exact .inr (.inl ⟨hr, rfl⟩)
  · rw [show j / 3 * 3 + 2 = j by omega, h] at x2; cases x2; exact .inr (.inr ⟨hr, rfl⟩)
set_option maxRecDepth 100000 in
theorem open_fields {fuel : Nat} {v : Value} {y : DataW H × List MemPlace} (h : DataW.trod enc Tryd.prog W 0 (fun _ => true) true fuel 29 [v] = some y) :
    ∃ fs : List Fld, Rds W 3 v fs.length (fldC fs) ∧ (∀ k, 0 < fs.length → v.ownBlock = some k → k < W.heap.size) ∧ bulkF fs ≤ Rows.uptoBulk y.1 := by
  rcases open_slice_fields Tryd.underlying29 Tryd.underlying40 (by kernel_rfl) (by kernel_rfl) h with ⟨hcs, rfl⟩ | ⟨a, len, cap, m, D, Pl, hcs, _, hl, hm, hmm, hx, hi⟩
  · simp at hcs
    subst hcs
    exact ⟨[], ⟨rfl, .inl ⟨none, 0, rfl, rfl, by simp [maxLen]⟩⟩, fun k h0 => by simp at h0, by simp [bulkF]⟩
  · simp at hcs
    subst hcs hx
    simp only [if_true] at hmm
    subst hmm
    have each : ∀ i, ∃ f : Fld, i < len → W.cell? (a.add (i * 3)) = some (.string f.n) ∧ W.cell? (a.add (i * 3 + 1)) = some (.string f.v) ∧ W.cell? (a.add (i * 3 + 2)) = some (.bool f.never) ∧ Rows.uptoBulk (D i) = f.n.size + f.v.size + 4 := by
      intro i
      by_cases hil : i < len
      · obtain ⟨ys, n, hD, _, hyl, hf⟩ := hi i (by omega)
        obtain ⟨v0, y0, c0, e0, t0⟩ := hf 0 _ rfl
        obtain ⟨v1, y1, c1, e1, t1⟩ := hf 1 _ rfl
        obtain ⟨v2, y2, c2, e2, t2⟩ := hf 2 _ rfl
        obtain ⟨s0, hs0, rfl, _⟩ := DataW.trod_string Tryd.underlying9 t0
        obtain ⟨s1, hs1, rfl, _⟩ := DataW.trod_string Tryd.underlying9 t1
        obtain ⟨b2, hb2, rfl⟩ := DataW.trod_bool Tryd.underlying4 t2
        simp only [List.cons.injEq, and_true] at hs0 hs1 hb2
        subst hs0 hs1 hb2
        refine ⟨⟨s0, s1, b2⟩, fun _ => ⟨c0, c1, c2, ?_⟩⟩
        have hys : ys = [(.lit (.string s0.data.toList), []), (.lit (.string s1.data.toList), []), (.lit (.bool b2), [])] := by
          match ys, hyl with
          | [z0, z1, z2], _ =>
            simp at e0 e1 e2
            rw [e0, e1, e2]
        rw [hD, hys]
        have h0 : s0.data.toList.length = s0.size := by simp
        have h1 : s1.data.toList.length = s1.size := by simp
        simp only [List.map_cons, List.map_nil, Rows.uptoBulk, Rows.uptoBulkAll]
        omega
      · exact ⟨⟨⟨#[]⟩, ⟨#[]⟩, false⟩, fun h => absurd h hil⟩
    obtain ⟨F, hF⟩ := Classical.skolem.1 each
    refine ⟨(List.range len).map F, ⟨by rw [fldC_length], ?_⟩, fun k h0 hk => ?_, ?_⟩
    · simp only [List.length_map, List.length_range]
      by_cases h0 : len = 0
      · exact .inl ⟨some a, m, by rw [h0], h0, hm⟩
      · obtain ⟨g, off, spot⟩ := a
        have hspot : spot = none := by simpa [Addr.add] using World.cell?_spot (hF 0 (by omega)).1
        subst hspot
        have hc0 := (hF 0 (by omega)).1
        rw [add_off] at hc0
        refine .inr ⟨g, off, m, rfl, hl, hm, fun _ => World.block_lt_of_cell? W _ hc0, fun j u hu => ?_⟩
        obtain ⟨f, hf, hr⟩ := fldC_at _ j u hu
        have hjl := (List.getElem?_eq_some_iff.1 hf).1
        simp only [List.length_map, List.length_range] at hjl
        rw [List.getElem?_map, List.getElem?_range hjl] at hf
        simp only [Option.map_some, Option.some.injEq] at hf
        subst hf
        obtain ⟨c0, c1, c2, _⟩ := hF (j / 3) hjl
        rw [add_off] at c0 c1 c2
        rcases hr with ⟨hr, rfl⟩ | ⟨hr, rfl⟩ | ⟨hr, rfl⟩
        · rw [show off + j = off + j / 3 * 3 by omega]; exact c0
        · rw [show off + j = off + (j / 3 * 3 + 1) by omega]; exact c1
        · rw [show off + j = off + (j / 3 * 3 + 2) by omega]; exact c2
    · simp only [List.length_map, List.length_range] at h0
      obtain ⟨g, off, spot⟩ := a
      have hspot : spot = none := by simpa [Addr.add] using World.cell?_spot (hF 0 h0).1
      subst hspot
      have hc0 := (hF 0 h0).1
      rw [add_off] at hc0
      have := World.block_lt_of_cell? W _ hc0
      cases hk
      exact this
    · rw [bulk_fields (D := D) (List.range len) (fun i hi => (hF i (List.mem_range.1 hi)).2.2.2)]
      simp only [Rows.uptoBulk]
      omega
theorem open_set {fuel : Nat} {v : Value} {y : DataW H × List MemPlace} (h : DataW.trod enc Tryd.prog W 0 (fun _ => true) true fuel 28 [v] = some y) :
    ∃ zs : List Int, Rds W 1 v zs.length (zs.map (Value.int .i64)) := by
  rcases open_ints Tryd.underlying28 Tryd.underlying2 (by kernel_rfl) h with ⟨hcs, rfl⟩ | ⟨a, len, cap, zs, hcs, _, hl, hm, hz, _, hc, _⟩
  · simp at hcs
    subst hcs
    exact ⟨[], ⟨rfl, .inl ⟨none, 0, rfl, rfl, by simp [maxLen]⟩⟩⟩
  · simp at hcs
    subst hcs
    simp only [if_true] at hz
    have hlen : (zs.take len).length = len := by rw [List.length_take]; omega
    refine ⟨zs.take len, ⟨by simp, ?_⟩⟩
    rw [hlen]
    by_cases h0 : len = 0
    · exact .inl ⟨some a, cap, by rw [h0], h0, hm⟩
    · obtain ⟨g, off, spot⟩ := a
      have hspot : spot = none := by simpa [Addr.add] using World.cell?_spot (hc 0 (by omega))
      subst hspot
      have hc0 := hc 0 (by omega)
      rw [add_off] at hc0
      refine .inr ⟨g, off, cap, rfl, hl, hm, fun _ => World.block_lt_of_cell? W _ hc0, fun j u hu => ?_⟩
      rw [List.getElem?_map] at hu
      obtain ⟨z, hz1, rfl⟩ := Option.map_eq_some_iff.1 hu
      have hj := (List.getElem?_eq_some_iff.1 hz1).1
      rw [hlen] at hj
      rw [List.getElem?_take_of_lt hj] at hz1
      have := hc j (by omega)
      rw [add_off] at this
      rw [this]
      simp [List.getD, hz1]
set_option maxRecDepth 100000 in
theorem open_blocks {fuel : Nat} {v : Value} {y : DataW H × List MemPlace} (h : DataW.trod enc Tryd.prog W 0 (fun _ => true) true fuel 22 [v] = some y) :
    ∃ bs : List Blk, RdB W v bs ∧ ∀ b ∈ bs, bulkF b.l ≤ Rows.uptoBulk y.1 := by
  rcases open_slice_fields Tryd.underlying22 Tryd.underlying31 (by kernel_rfl) (by kernel_rfl) h with ⟨hcs, rfl⟩ | ⟨a, len, cap, m, D, Pl, hcs, _, hl, hm, hmm, hx, hi⟩
  · simp at hcs
    subst hcs
    exact ⟨[], ⟨none, 0, rfl, by simp, by simp [maxLen], fun h => by simp at h⟩, fun b hb => by simp at hb⟩
  · simp at hcs
    subst hcs hx
    simp only [if_true] at hmm
    subst hmm
    have each : ∀ i, ∃ b : Blk, i < len → ∃ sv lv, W.cell? (a.add (i * 3)) = some sv ∧ W.cell? (a.add (i * 3 + 1)) = some lv ∧ Rds W 1 sv b.set.length (b.set.map (Value.int .i64)) ∧ Rds W 3 lv b.l.length (fldC b.l) ∧ (∀ k, 0 < b.l.length → lv.ownBlock = some k → k < W.heap.size) ∧ bulkF b.l ≤ Rows.uptoBulk (D i) := by
      intro i
      by_cases hil : i < len
      · obtain ⟨ys, n, hD, _, hyl, hf⟩ := hi i (by omega)
        obtain ⟨v0, y0, c0, e0, t0⟩ := hf 0 _ rfl
        obtain ⟨v1, y1, c1, e1, t1⟩ := hf 1 _ rfl
        obtain ⟨zs, hzs⟩ := open_set t0
        obtain ⟨fs, hfs, hfl, hfb⟩ := open_fields t1
        refine ⟨⟨zs, fs, 0⟩, fun _ => ⟨v0, v1, c0, c1, hzs, hfs, hfl, ?_⟩⟩
        have hm1 : y1.1 ∈ ys.map (·.1) := List.mem_map.2 ⟨y1, List.mem_of_getElem? e1, rfl⟩
        have := bulk_part hm1
        rw [hD]
        simp only [Rows.uptoBulk]
        omega
      · exact ⟨⟨[], [], 0⟩, fun h => absurd h hil⟩
    obtain ⟨F, hF⟩ := Classical.skolem.1 each
    have hlen : ((List.range len).map F).length = len := by simp
    refine ⟨(List.range len).map F, ⟨some a, m, by rw [hlen], by rw [hlen]; exact hl, hm, fun h0 => ?_⟩, fun b hb => ?_⟩
    · rw [hlen] at h0
      obtain ⟨g, off, spot⟩ := a
      obtain ⟨sv, lv, c0, _⟩ := hF 0 h0
      have hspot : spot = none := by simpa [Addr.add] using World.cell?_spot c0
      subst hspot
      rw [add_off] at c0
      refine ⟨g, off, rfl, World.block_lt_of_cell? W _ c0, fun i b hb => ?_⟩
      have hil := (List.getElem?_eq_some_iff.1 hb).1
      rw [hlen] at hil
      rw [List.getElem?_map, List.getElem?_range hil] at hb
      simp only [Option.map_some, Option.some.injEq] at hb
      subst hb
      obtain ⟨sv, lv, c0, c1, r0, r1, r2, _⟩ := hF i hil
      rw [add_off] at c0 c1
      exact ⟨sv, lv, c0, c1, r0, r1, r2⟩
    · obtain ⟨i, hi, rfl⟩ := List.mem_map.1 hb
      obtain ⟨sv, lv, _, _, _, _, _, h5⟩ := hF i (List.mem_range.1 hi)
      have := bulk_part (List.mem_map.2 ⟨i, hi, rfl⟩ : D i ∈ (List.range len).map D)
      simp only [Rows.uptoBulk]
      omega
end
end Go.Proofs.YtkpdhnkiabgghaaDoor
