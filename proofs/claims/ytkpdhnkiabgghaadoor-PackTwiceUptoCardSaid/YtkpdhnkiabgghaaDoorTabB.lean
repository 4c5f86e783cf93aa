/- Layer 4, table: New, Resize, At, Size, Len, Max. -/
import Derived.Test.YtkpdhnkiabgghaaDoorTabP
namespace Go.Proofs.YtkpdhnkiabgghaaDoor
open Go.RowKit
namespace Table
theorem new_any (m : Nat) (w : World) (hm : m ≤ 65536) :
    Calls Tryd.prog 33 #[.int .i64 (m : Int)] w fun e w' => e = .returned (.tuple #[.pointer (some ⟨w.heap.size, 0, none⟩), .int .i64 0]) ∧ IsTab w' w.heap.size (.slice none 0 0) m [] ∧ Below w.heap.size w w' := by
  go_enter Tryd.func33, Tryd.ntmps33
  go_wp2_with fail
  refine (bad_any _ _).mono ?_
  rintro e w' ⟨rfl, rfl⟩
  have hd : (decide ((m : Int) < 0) || decide (65536 < (m : Int))) = false := by simp; omega
  rw [hd]
  go_wp2
  go_ret2
  exact ⟨rfl, ⟨heap_alloc_new _ _, Own.nil _ _ _, by simp [Value.ownBlock], by simp [tsize], hm⟩, (Below.refl _ _).alloc (Nat.le_refl _) _⟩
theorem size_any (g : Nat) (v : Value) (mx : Nat) (es : List Ent) (w : World) (h : IsTab w g v mx es) :
    Calls Tryd.prog 19 #[.pointer (some ⟨g, 0, none⟩)] w fun e w' => e = .returned (.int .i64 (tsize es : Nat)) ∧ w = w' := by
  obtain ⟨c0, c1, c2, f0, f1, f2⟩ := cell3 h.blk
  go_enter Tryd.func19, Tryd.ntmps19
  go_wp2
  go_ret
  exact ⟨rfl, rfl⟩
theorem max_any (g : Nat) (v : Value) (mx : Nat) (es : List Ent) (w : World) (h : IsTab w g v mx es) :
    Calls Tryd.prog 21 #[.pointer (some ⟨g, 0, none⟩)] w fun e w' => e = .returned (.int .i64 (mx : Int)) ∧ w = w' := by
  obtain ⟨c0, c1, c2, f0, f1, f2⟩ := cell3 h.blk
  go_enter Tryd.func21, Tryd.ntmps21
  go_wp2
  go_ret
  exact ⟨rfl, rfl⟩
theorem len_any (g : Nat) (v : Value) (mx : Nat) (es : List Ent) (w : World) (h : IsTab w g v mx es) :
    Calls Tryd.prog 18 #[.pointer (some ⟨g, 0, none⟩)] w fun e w' => e = .returned (.int .i64 (es.length : Nat)) ∧ w = w' := by
  obtain ⟨c0, c1, c2, f0, f1, f2⟩ := cell3 h.blk
  obtain ⟨A, cap, rfl, hc1, hc2⟩ := h.own.form'
  go_enter Tryd.func18, Tryd.ntmps18
  go_wp2
  go_ret
  exact ⟨rfl, rfl⟩
theorem resize_any (m : Nat) (g : Nat) (v : Value) (mx : Nat) (es : List Ent) (w : World) (h : IsTab w g v mx es) (hm : m ≤ 65536) :
    Calls Tryd.prog 16 #[.pointer (some ⟨g, 0, none⟩), .int .i64 (m : Int)] w fun e w' => e = .returned (.int .i64 0) ∧ ∃ v', IsTab w' g v' m (shrinkL m es) ∧ Mod (fun k => k = g) w w' ∧ v'.ownBlock = v.ownBlock := by
  obtain ⟨c0, c1, c2, f0, f1, f2⟩ := cell3 h.blk
  go_enter Tryd.func16, Tryd.ntmps16
  go_wp2_with fail
  refine (bad_any _ _).mono ?_
  rintro e w' ⟨rfl, rfl⟩
  have hd : (decide ((m : Int) < 0) || decide (65536 < (m : Int))) = false := by simp; omega
  rw [hd]
  go_wp2_with fail
  have hT : IsTab (w.setCell ⟨g, 0, none⟩ (.int .i64 (m : Int))) g v m es :=
    ⟨heap_setCell_same w g 0 _ _ _ h.blk, h.own.setFar _ _ h.ne, h.ne, h.le, hm⟩
  refine (shrink_any m g v m es _ hT (by omega)).mono ?_
  rintro e w2 ⟨rfl, v2, hT2, hM2, hv2⟩
  go_wp2
  go_ret
  exact ⟨rfl, v2, hT2, ((Mod.refl (fun k => k = g) w).setCell (p := ⟨g, 0, none⟩) (fun _ => rfl) _).trans hM2 (fun _ _ h => h), hv2⟩
/-- The entry with an index. -/
def atL (es : List Ent) (i : Int) : Option Ent :=
  if 1 ≤ i ∧ i ≤ 61 then fixedL[(i - 1).toNat]? else if 61 < i ∧ i - 61 ≤ es.length then es[es.length - (i - 61).toNat]? else none
def atV : Option Ent → Value
  | some e => .tuple #[.string e.1, .string e.2, .int .i64 0]
  | none => .tuple #[.string ⟨#[]⟩, .string ⟨#[]⟩, .int .i64 5]
theorem entC_get : ∀ (l : List Ent) (k : Nat) (e : Ent), l[k]? = some e → (entC l)[k * 2]? = some (.string e.1) ∧ (entC l)[k * 2 + 1]? = some (.string e.2)
  | [], k, e, h => by simp at h
  | d :: l, 0, e, h => by simp at h; subst h; simp [entC]
  | d :: l, k + 1, e, h => by
    have := entC_get l k e (by simpa using h)
    simp only [entC, List.flatMap_cons, List.cons_append, List.nil_append] at this ⊢
    rw [show (k + 1) * 2 = k * 2 + 1 + 1 from by omega]
    simpa using this
theorem fixC_get (k : Nat) (e : Ent) (h : fixedL[k]? = some e) : fixC.extract (k * 2) (k * 2 + 2) = #[.string e.1, .string e.2] := by
  obtain ⟨h1, h2⟩ := entC_get fixedL k e h
  have hk : k < fixedL.length := (List.getElem?_eq_some_iff.1 h).1
  apply Array.ext'
  unfold fixC
  simp only [Array.toList_extract, List.extract]
  have hlen : k * 2 + 1 < (entC fixedL).length := by rw [entC_length]; omega
  rw [show k * 2 + 2 - k * 2 = 2 from by omega, List.drop_eq_getElem_cons (by omega), List.drop_eq_getElem_cons hlen]
  rw [List.getElem?_eq_getElem (by omega)] at h1
  rw [List.getElem?_eq_getElem hlen] at h2
  simp at h1 h2
  simp [h1, h2]
set_option maxRecDepth 100000 in
theorem at_any (i : Int) (g : Nat) (v : Value) (mx : Nat) (es : List Ent) (w : World) (h : IsTab w g v mx es) (hi : -9223372036854775808 ≤ i ∧ i ≤ 9223372036854775807) :
    Calls Tryd.prog 32 #[.pointer (some ⟨g, 0, none⟩), .int .i64 i] w fun e w' => e = .returned (atV (atL es i)) ∧ Below w.heap.size w w' := by
  obtain ⟨c0, c1, c2, f0, f1, f2⟩ := cell3 h.blk
  have n2 := World.new_ne w _ c2
  have hgl := lt_of_blk h.blk
  by_cases h1 : 1 ≤ i ∧ i ≤ 61
  · obtain ⟨A, cap, rfl, hc1, hc2⟩ := h.own.form'
    have HE : Hid (atL es i = fixedL[(i - 1).toNat]?) := by show _ = _; unfold atL; rw [if_pos h1]
    obtain ⟨h1, h2⟩ := h1
    obtain ⟨k, rfl⟩ : ∃ k : Nat, i = (k : Int) + 1 := ⟨(i - 1).toNat, by omega⟩
    have hk : k < 61 := by omega
    obtain ⟨e, he⟩ : ∃ e, fixedL[k]? = some e := ⟨fixedL[k]'(by rw [fixedL_length]; exact hk), List.getElem?_eq_getElem _⟩
    have HF : Hid (atL es ((k : Int) + 1) = some e) := by show _ = _; rw [HE.out, ← he, show ((k : Int) + 1 - 1).toNat = k by omega]
    have hx := fixC_get k e he
    obtain ⟨e1, e2⟩ := e
    have d1 : decide (1 ≤ (k : Int) + 1) = true := by simpa using h1
    have d2 : decide ((k : Int) + 1 ≤ 61) = true := by simpa using h2
    have hw : IntKind.i64.wrap ((k : Int) + 1 - 1) = k := by rw [IntWalk.i64_in _ (by omega)]; omega
    have hix : ∀ W, (Instr.index 96 (.agg fixC) (.int .i64 (k : Int))).run Tryd.prog W = .ok (.agg #[.string e1, .string e2]) W := fun W =>
      run_index_agg 96 69 61 fixC .i64 k 2 Tryd.underlying96 _ Tryd.underlying69 rfl (by kernel_rfl) hk _ hx W
    clear HE he hx hi hc1 hc2
    have HT := Lib.hid h
    clear h
    go_enter Tryd.func32, Tryd.ntmps32
    go_wp2_with fail
    refine (fixed_any _).mono ?_
    rintro e w1 ⟨rfl, hb1⟩
    have hs1 := hb1.size
    simp only [World.size_alloc] at hs1
    have hbl : w1.heap[w.heap.size]? = some (.cells #[.string ⟨#[]⟩, .string ⟨#[]⟩] 69 (0, 0)) := (hb1.block _ (by simp)).trans (heap_alloc_new w _)
    have q0 := cell_of_row w1 w.heap.size 0 _ _ _ hbl
    have q1 := cell_of_row w1 w.heap.size 1 _ _ _ hbl
    have r0 := frozen_of_row w1 w.heap.size 0 _ _ hbl
    have r1 := frozen_of_row w1 w.heap.size 1 _ _ hbl
    go_wp2_with fail
    have hb8 := heap_setCell_same _ w.heap.size 1 _ _ (.string e2) (heap_setCell_same w1 w.heap.size 0 _ _ (.string e1) hbl)
    have hB8 : Below w.heap.size w ((w1.setCell ⟨w.heap.size, 0, none⟩ (.string e1)).setCell ⟨w.heap.size, 1, none⟩ (.string e2)) := ((((Below.refl _ _).alloc (Nat.le_refl _) _).trans (hb1.mono (by simp))).setCell (Nat.le_refl _) _).setCell (Nat.le_refl _) _
    generalize (w1.setCell ⟨w.heap.size, 0, none⟩ (.string e1)).setCell ⟨w.heap.size, 1, none⟩ (.string e2) = w8 at hb8 hB8
    have hs8 := lt_of_blk hb8
    have hd0 : Below w8.heap.size w8 w8.drew := (Below.refl _ _).drew
    obtain ⟨I, HI, hne⟩ := mkInv (fun W => Below w8.heap.size w8 W) hd0
    have q2 : ∀ x : InW I, x.w.cell? ⟨w.heap.size, 0, none⟩ = some (.string e1) := fun x => (((HI.out _).1 x.has).cell (p := ⟨w.heap.size, 0, none⟩) hs8).trans (cell_of_row _ _ _ _ _ _ hb8)
    have q3 : ∀ x : InW I, x.w.cell? ⟨w.heap.size, 1, none⟩ = some (.string e2) := fun x => (((HI.out _).1 x.has).cell (p := ⟨w.heap.size, 1, none⟩) hs8).trans (cell_of_row _ _ _ _ _ _ hb8)
    refine wp_region_inv_all I (by kernel_rfl) (by kernel_rfl) ((HI.out _).2 hd0) ?_
    repeat (go_big_quiet_step ((fail)))
    refine wpQuiet_nil ?_
    intro w9 hb9
    replace hb9 := (HI.out _).1 hb9
    clear hne HI
    go_wp2
    go_ret3
    refine ⟨by rw [HF.out]; rfl, hB8.trans (hb9.mono hB8.size)⟩
  · by_cases h2 : 61 < i ∧ i - 61 ≤ es.length
    · have HE : Hid (atL es i = es[es.length - (i - 61).toNat]?) := by show _ = _; unfold atL; rw [if_neg h1, if_pos h2]
      have hlen : es.length ≤ 2048 := by have := tsize_len es; have := h.le; omega
      obtain ⟨h2, h3⟩ := h2
      obtain ⟨m, hm, hml⟩ : ∃ m : Nat, (m : Int) = es.length - (i - 61) ∧ m < es.length := ⟨es.length - (i - 61).toNat, by omega, by omega⟩
      obtain ⟨e, he⟩ : ∃ e, es[m]? = some e := ⟨es[m], List.getElem?_eq_getElem _⟩
      have HF : Hid (atL es i = some e) := by show _ = _; rw [HE.out, ← he, show es.length - (i - 61).toNat = m by omega]
      obtain ⟨a, off, cap, rfl, hc1, hc2, ha⟩ := h.own.form (by omega)
      obtain ⟨x1, x2⟩ := entC_get es m e he
      have p0 := h.own.cellAt (m * 2) (off + m * 2) _ rfl x1
      have p1 := h.own.cellAt (m * 2 + 1) (off + m * 2 + 1) _ (by omega) x2
      have n3 := World.new_ne w _ p0
      obtain ⟨e1, e2⟩ := e
      have d1 : decide (1 ≤ i) = true := by simp; omega
      have d2 : decide (i ≤ 61) = false := by simp; omega
      have d3 : decide (61 < i) = true := by simpa using h2
      have d4 : decide (i - 61 ≤ (es.length : Int)) = true := by simpa using h3
      have hw : IntKind.i64.wrap (i - 61) = i - 61 := by rw [IntWalk.i64_in _ (by omega)]
      have hw2 : IntKind.i64.wrap ((es.length : Int) - (i - 61)) = m := by rw [IntWalk.i64_in _ (by omega)]; omega
      have HM := Lib.hid hm
      have HX1 := Lib.hid x1
      have HX2 := Lib.hid x2
      have HT := Lib.hid h
      have h4 : (m : Int) < (es.length : Int) := by omega
      have h5 : (0 : Int) ≤ (m : Int) := by omega
      clear HE he hi h h1 hm x1 x2
      go_enter Tryd.func32, Tryd.ntmps32
      go_wp2_with fail
      have hb8 := heap_alloc_new w (.cells #[.string e1, .string e2] 69 (0, 0))
      have hB8 : Below w.heap.size w (w.alloc (.cells #[.string e1, .string e2] 69 (0, 0))) := (Below.refl _ _).alloc (Nat.le_refl _) _
      generalize w.alloc (.cells #[.string e1, .string e2] 69 (0, 0)) = w8 at hb8 hB8
      have hs8 := lt_of_blk hb8
      have hd0 : Below w8.heap.size w8 w8.drew := (Below.refl _ _).drew
      obtain ⟨I, HI, hne⟩ := mkInv (fun W => Below w8.heap.size w8 W) hd0
      have q2 : ∀ x : InW I, x.w.cell? ⟨w.heap.size, 0, none⟩ = some (.string e1) := fun x => (((HI.out _).1 x.has).cell (p := ⟨w.heap.size, 0, none⟩) hs8).trans (cell_of_row _ _ _ _ _ _ hb8)
      have q3 : ∀ x : InW I, x.w.cell? ⟨w.heap.size, 1, none⟩ = some (.string e2) := fun x => (((HI.out _).1 x.has).cell (p := ⟨w.heap.size, 1, none⟩) hs8).trans (cell_of_row _ _ _ _ _ _ hb8)
      refine wp_region_inv_all I (by kernel_rfl) (by kernel_rfl) ((HI.out _).2 hd0) ?_
      repeat (go_big_quiet_step ((fail)))
      refine wpQuiet_nil ?_
      intro w9 hb9
      replace hb9 := (HI.out _).1 hb9
      clear hne HI
      go_wp2
      go_ret3
      refine ⟨by rw [HF.out]; rfl, hB8.trans (hb9.mono hB8.size)⟩
    · have HF : Hid (atL es i = none) := by show _ = _; unfold atL; rw [if_neg h1, if_neg h2]
      obtain ⟨A, cap, rfl, hc1, hc2⟩ := h.own.form'
      have hlen : es.length ≤ 2048 := by have := tsize_len es; have := h.le; omega
      have HT := Lib.hid h
      clear h hc1 hc2
      by_cases h3 : i < 1
      · have d1 : decide (1 ≤ i) = false := by simpa using h3
        have d3 : decide (61 < i) = false := by simp; omega
        clear h1 h2
        go_enter Tryd.func32, Tryd.ntmps32
        go_wp2
        go_ret3
        exact ⟨by rw [HF.out]; rfl, (Below.refl _ _).alloc (Nat.le_refl _) _⟩
      · have d1 : decide (1 ≤ i) = true := by simpa using h3
        have d2 : decide (i ≤ 61) = false := by simp; omega
        have d3 : decide (61 < i) = true := by simp; omega
        have d4 : decide (i - 61 ≤ (es.length : Int)) = false := by simp; omega
        have hw : IntKind.i64.wrap (i - 61) = i - 61 := by rw [IntWalk.i64_in _ (by omega)]
        clear h1 h2
        go_enter Tryd.func32, Tryd.ntmps32
        go_wp2
        go_ret3
        exact ⟨by rw [HF.out]; rfl, (Below.refl _ _).alloc (Nat.le_refl _) _⟩
end Table
end Go.Proofs.YtkpdhnkiabgghaaDoor
