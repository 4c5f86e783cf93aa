/- Layer 4, table: Add. -/
import Derived.Test.YtkpdhnkiabgghaaDoorTable
import Derived.Test.YtkpdhnkiabgghaaDoorQuiet
namespace Go.Proofs.YtkpdhnkiabgghaaDoor
open Go.RowKit
namespace Table
def addL (mx : Nat) (es : List Ent) (e : Ent) : List Ent :=
  if esz e ≤ mx then shrinkL ((mx : Int) - (esz e : Nat)) es ++ [e] else shrinkL ((mx : Int) - (esz e : Nat)) es
theorem shrinkL_tsize (most : Int) (es : List Ent) : tsize (shrinkL most es) ≤ tsize es ∧ (shrinkL most es = [] ∨ ((tsize (shrinkL most es) : Nat) : Int) ≤ most) := by
  induction es with
  | nil => simp [shrinkL]
  | cons e es ih =>
    rw [shrinkL]
    split
    · simp only [tsize]; exact ⟨by omega, ih.2⟩
    · exact ⟨Nat.le_refl _, .inr (by omega)⟩
set_option maxRecDepth 100000 in
set_option maxHeartbeats 2000000 in
theorem add_any (g : Nat) (v : Value) (mx : Nat) (es : List Ent) (n s : ByteArray) (w : World) (h : IsTab w g v mx es) (hn : n.size ≤ 65536) (hs : s.size ≤ 65536) :
    Calls Tryd.prog 15 #[.pointer (some ⟨g, 0, none⟩), .string n, .string s] w fun e w' => e = .returned (.tuple #[]) ∧ ∃ v', IsTab w' g v' mx (addL mx es (n, s)) ∧ Mod (fun k => k = g ∨ v.ownBlock = some k) w w' ∧ (∀ k, v'.ownBlock = some k → v.ownBlock = some k ∨ w.heap.size ≤ k) := by
  obtain ⟨c0, c1, c2, f0, f1, f2⟩ := cell3 h.blk
  have n0 := World.new_ne w _ c0
  have hml := h.mle
  have hgl := lt_of_blk h.blk
  go_enter Tryd.func15, Tryd.ntmps15
  go_wp2_with fail
  have hw1 : IntKind.i64.wrap ((mx : Int) - ((n.size : Int) + (s.size : Int) + 32)) = (mx : Int) - (esz (n, s) : Nat) := by rw [IntWalk.i64_in _ (by omega)]; unfold esz; simp
  obtain ⟨wE, hwE⟩ : ∃ wE, wE = (w.alloc (.cells #[.string n, .string s] 69)).drew := ⟨_, rfl⟩
  have hb0 : Below w.heap.size w wE := by rw [hwE]; exact ((Below.refl _ _).alloc (Nat.le_refl _) _).drew
  have hnb : wE.heap[w.heap.size]? = some (.cells #[.string n, .string s] 69 (0, 0)) := by rw [hwE]; exact heap_alloc_new w _
  have hsE := lt_of_blk hnb
  have hE0 : Below wE.heap.size wE (w.alloc (.cells #[.string n, .string s] 69)).drew := by rw [hwE]; exact Below.refl _ _
  clear hwE
  have hTE := h.below hb0
  obtain ⟨I, HI, hne⟩ := mkInv (fun W => Below wE.heap.size wE W) hE0
  have q0 : ∀ x : InW I, x.w.cell? ⟨g, 0, none⟩ = some (.int .i64 (mx : Int)) := fun x => (cell3 (hTE.below ((HI.out _).1 x.has)).blk).1
  have q1 : ∀ x : InW I, x.w.cell? ⟨w.heap.size, 0, none⟩ = some (.string n) := fun x => (((HI.out _).1 x.has).cell (p := ⟨w.heap.size, 0, none⟩) hsE).trans (cell_of_row _ _ _ _ _ _ hnb)
  have q2 : ∀ x : InW I, x.w.cell? ⟨w.heap.size, 1, none⟩ = some (.string s) := fun x => (((HI.out _).1 x.has).cell (p := ⟨w.heap.size, 1, none⟩) hsE).trans (cell_of_row _ _ _ _ _ _ hnb)
  refine wp_region_inv I 8 (by kernel_rfl) (by kernel_rfl) ((HI.out _).2 hE0) ?_
  simp only [List.take_succ_cons, List.take_zero, List.drop_succ_cons, List.drop_zero]
  repeat (go_big_quiet_step (((go_at_call 30; exact inv_call ((esize_any _ _ _ (by omega) (by omega)).mono (by rintro e w' ⟨rfl, rfl⟩; exact ⟨rfl, (HI.out _).2 (((HI.out _).1 (InW.has _)).alloc ((HI.out _).1 (InW.has _)).size _)⟩))))))
  refine wpQuiet_nil ?_
  intro wa ha
  replace ha := (HI.out _).1 ha
  clear hne HI
  clear q0 q1 q2
  go_wp2_with fail
  refine (shrink_any _ g v mx es _ (hTE.below ha) (by unfold esz; simp; omega)).mono ?_
  rintro e w1 ⟨rfl, v1, hT1, hM1, hob1⟩
  go_wp2_with fail
  have hM : Mod (fun k => k = g) w w1 := ((Mod.ofBelow hb0).below ha).trans hM1 (fun _ _ h => h)
  have hnb1 : w1.heap[w.heap.size]? = some (.cells #[.string n, .string s] 69 (0, 0)) := hM1.blk ((ha.block _ hsE).trans hnb) (by omega)
  have hst := shrinkL_tsize ((mx : Int) - (esz (n, s) : Nat)) es
  have HA : Hid (addL mx es (n, s) = if esz (n, s) ≤ mx then shrinkL ((mx : Int) - (esz (n, s) : Nat)) es ++ [(n, s)] else shrinkL ((mx : Int) - (esz (n, s) : Nat)) es) := rfl
  have hle1 : tsize (shrinkL ((mx : Int) - (esz (n, s) : Nat)) es) ≤ 65536 := Nat.le_trans hst.1 h.le
  have hlen1 : (shrinkL ((mx : Int) - (esz (n, s) : Nat)) es).length ≤ 2048 := by have := tsize_len (shrinkL ((mx : Int) - (esz (n, s) : Nat)) es); omega
  generalize shrinkL ((mx : Int) - (esz (n, s) : Nat)) es = es1 at hT1 HA hst hle1 hlen1
  clear hw1 hb0 hnb hE0 hTE ha hM1 hsE c0 c1 c2 f0 f1 f2 n0
  have hs1 := lt_of_blk hnb1
  have hee : esz (n, s) = n.size + s.size + 32 := rfl
  obtain ⟨B, hB⟩ : ∃ B, B = w.heap.size := ⟨_, rfl⟩
  rw [← hB] at hnb1 hs1
  rw [← hB]
  have HB := Lib.hid hB
  clear hB
  have hd0 : Below w1.heap.size w1 w1.drew := (Below.refl _ _).drew
  obtain ⟨I, HI, hne⟩ := mkInv (fun W => Below w1.heap.size w1 W) hd0
  have q0 : ∀ x : InW I, x.w.cell? ⟨g, 0, none⟩ = some (.int .i64 (mx : Int)) := fun x => (cell3 (hT1.below ((HI.out _).1 x.has)).blk).1
  have q1 : ∀ x : InW I, x.w.cell? ⟨B, 0, none⟩ = some (.string n) := fun x => (((HI.out _).1 x.has).cell (p := ⟨B, 0, none⟩) hs1).trans (cell_of_row _ _ _ _ _ _ hnb1)
  have q2 : ∀ x : InW I, x.w.cell? ⟨B, 1, none⟩ = some (.string s) := fun x => (((HI.out _).1 x.has).cell (p := ⟨B, 1, none⟩) hs1).trans (cell_of_row _ _ _ _ _ _ hnb1)
  by_cases hfit : esz (n, s) ≤ mx
  · have hdec : decide ((n.size : Int) + (s.size : Int) + 32 ≤ (mx : Int)) = true := by simp; omega
    have HA2 : Hid (addL mx es (n, s) = es1 ++ [(n, s)]) := by show _ = _; rw [HA.out, if_pos hfit]
    clear HA
    refine wp_region_inv_all I (by kernel_rfl) (by kernel_rfl) ((HI.out _).2 hd0) ?_
    repeat (go_big_quiet_step (((go_at_call 30; exact inv_call ((esize_any _ _ _ (by omega) (by omega)).mono (by rintro e w' ⟨rfl, rfl⟩; exact ⟨rfl, (HI.out _).2 (((HI.out _).1 (InW.has _)).alloc ((HI.out _).1 (InW.has _)).size _)⟩))))))
    refine wpQuiet_nil ?_
    intro w2 hb2
    replace hb2 := (HI.out _).1 hb2
    clear hne HI
    clear q0 q1 q2
    have hT2 := hT1.below hb2
    have hnb2 := (hb2.block _ hs1).trans hnb1
    have hs2 := lt_of_blk hnb2
    obtain ⟨c0, c1, c2, f0, f1, f2⟩ := cell3 hT2.blk
    have hgl2 := lt_of_blk hT2.blk
    have p1 := cell_of_row w2 B 0 _ _ _ hnb2
    have p2 := cell_of_row w2 B 1 _ _ _ hnb2
    simp only [List.getElem?_toArray, List.getElem?_cons_zero, List.getElem?_cons_succ] at p1 p2
    go_wp2_with fail
    go_region_law (first | (refine step_app (by rfl) _ _ 70 (by rfl) ti_ent (by decide) _ es1.length _ (by rfl) (hT2.own.drew.alloc _) ⟨w2.heap.size, 0, none⟩ 1 1 [.string n, .string s] (by rfl) (by rfl) (news_new w2.drew #[.string n, .string s] 69) (by simp [Value.oneCell']) (by decide) (by simp only [maxLen]; omega) (by omega) ?_; intro g1 off1 cap1 w3 hown3 hg3 hat3 hlt3; have hgb : w3.heap[g]? = w2.heap[g]? := (hg3.block g (show g < (w2.alloc _).heap.size by simp; omega) (fun e => hT2.ne e.symm)).trans (heap_alloc_old _ _ hgl2); have k2 := (World.cell?_of_block (a := ⟨g, 2, none⟩) (w := w2) hgb).trans c2; have k3 := (World.frozen?_of_block (a := ⟨g, 2, none⟩) (w := w2) hgb).trans f2))
    all_goals
      rename_i K hK
      refine hK _ _ ?_
      clear hK k2 k3 p1 p2 c0 c1 c2 f0 f1 f2
      have hg1 : g1 ≠ g := by
        rcases hat3 with h4 | h4
        · intro e; exact hT2.ne (by rw [h4, e])
        · have h5 : g1 = w2.heap.size + 1 := h4.trans (by show (w2.alloc _).heap.size = _; simp)
          omega
      have hBv : v1.ownBlock ≠ some B := by
        intro e; rw [hob1] at e; have := h.own.lt _ e; have := HB.out; omega
      have hnb3 : w3.heap[B]? = some (.cells #[.string n, .string s] 69 (0, 0)) := ((hg3.block B (show B < (w2.alloc _).heap.size by simp; omega) (fun e => hBv e.symm)).trans (heap_alloc_old _ _ hs2)).trans hnb2
      have hgB : g ≠ B := by have := HB.out; omega
      obtain ⟨w4, hw4⟩ : ∃ w4, w4 = w3.setCell ⟨g, 2, none⟩ (.slice (some ⟨g1, off1, none⟩) (es1.length + 1) cap1) := ⟨_, rfl⟩
      have hb4 : w4.heap[g]? = some (.cells #[.int .i64 (mx : Int), .int .i64 (tsize es1 : Nat), .slice (some ⟨g1, off1, none⟩) (es1.length + 1) cap1] 72 (0, 0)) := by
        rw [hw4]; exact heap_setCell_same w3 g 2 _ _ _ (hgb.trans hT2.blk)
      have hn4 : w4.heap[B]? = some (.cells #[.string n, .string s] 69 (0, 0)) := by rw [hw4]; exact (heap_setCell_other w3 ⟨g, 2, none⟩ B _ (fun e => hgB e.symm)).trans hnb3
      have hown4 := hown3.setFar ⟨g, 2, none⟩ (.slice (some ⟨g1, off1, none⟩) (es1.length + 1) cap1) (fun e => hg1 (Option.some.inj e))
      rw [← hw4] at hown4
      have hM4 : Mod (fun k => k = g ∨ v.ownBlock = some k) w w4 := by
        rw [hw4]
        exact ((((hM.below hb2).mono (T := fun k => k = g ∨ v.ownBlock = some k) (fun _ _ h => .inl h)).alloc _).drew.grown hg3 (fun k hk _ => .inr (by rw [← hob1]; exact hk))).setCell (fun _ => .inl rfl) _
      have hat4 : ∀ k, (Value.slice (some ⟨g1, off1, none⟩) (es1.length + 1) cap1).ownBlock = some k → v.ownBlock = some k ∨ w.heap.size ≤ k := by
        intro k hk
        have hk : g1 = k := Option.some.inj hk
        rcases hat3 with h4 | h4
        · exact .inl (by rw [← hob1, h4, ← hk])
        · have h5 : g1 = w2.heap.size + 1 := h4.trans (by show (w2.alloc _).heap.size = _; simp)
          refine .inr ?_; have := HB.out; omega
      rw [← hw4]
      clear hw4 hnb3 hBv hgb hlt3 hat3 hg3 hown3 hs2 hnb2 hT2 hb2 hgl2 hM hgl hnb1 hs1 hT1 hd0
      have hsg := lt_of_blk hb4
      have hsB := lt_of_blk hn4
      have hw5 : IntKind.i64.wrap (((tsize es1 : Nat) : Int) + ((n.size : Int) + (s.size : Int) + 32)) = (tsize (es1 ++ [(n, s)]) : Nat) := by
        rw [IntWalk.i64_in _ (by omega), tsize_append]; simp only [tsize]; omega
      have hle4 : tsize (es1 ++ [(n, s)]) ≤ 65536 := by
        rw [tsize_append]; simp only [tsize]
        rcases hst.2 with h5 | h5
        · rw [h5]; simp only [tsize]; omega
        · omega
      clear hst
      have hd0 : Below w4.heap.size w4 w4.drew := (Below.refl _ _).drew
      obtain ⟨I, HI, hne⟩ := mkInv (fun W => Below w4.heap.size w4 W) hd0
      have q0 : ∀ x : InW I, x.w.cell? ⟨g, 1, none⟩ = some (.int .i64 (tsize es1 : Nat)) := fun x => (cell3 ((((HI.out _).1 x.has).block _ hsg).trans hb4)).2.1
      have q1 : ∀ x : InW I, x.w.cell? ⟨B, 0, none⟩ = some (.string n) := fun x => (((HI.out _).1 x.has).cell (p := ⟨B, 0, none⟩) hsB).trans (cell_of_row _ _ _ _ _ _ hn4)
      have q2 : ∀ x : InW I, x.w.cell? ⟨B, 1, none⟩ = some (.string s) := fun x => (((HI.out _).1 x.has).cell (p := ⟨B, 1, none⟩) hsB).trans (cell_of_row _ _ _ _ _ _ hn4)
      refine wp_region_inv I 7 (by kernel_rfl) (by kernel_rfl) ((HI.out _).2 hd0) ?_
      simp only [List.take_succ_cons, List.take_zero, List.drop_succ_cons, List.drop_zero]
      repeat (go_big_quiet_step (((go_at_call 30; exact inv_call ((esize_any _ _ _ (by omega) (by omega)).mono (by rintro e w' ⟨rfl, rfl⟩; exact ⟨rfl, (HI.out _).2 (((HI.out _).1 (InW.has _)).alloc ((HI.out _).1 (InW.has _)).size _)⟩))))))
      refine wpQuiet_nil ?_
      intro w5 hb5
      replace hb5 := (HI.out _).1 hb5
      clear hne HI
      clear q0 q1 q2
      have hgb5 := (hb5.block _ hsg).trans hb4
      obtain ⟨c0, c1, c2, f0, f1, f2⟩ := cell3 hgb5
      go_wp2
      go_end0
      refine ⟨rfl, .slice (some ⟨g1, off1, none⟩) (es1.length + 1) cap1, ?_, (hM4.below hb5).setCell (fun _ => .inl rfl) _, hat4⟩
      rw [HA2.out]
      refine ⟨heap_setCell_same w5 g 1 _ _ _ hgb5, ?_, fun e => hg1 (Option.some.inj e), hle4, hml⟩
      rw [List.length_append, entC_append]
      exact ((Mod.ofBelow (S := fun _ => False) hb5).own hown4 (fun _ _ h => h)).setFar _ _ (fun e => hg1 (Option.some.inj e))
  · have hdec : decide ((n.size : Int) + (s.size : Int) + 32 ≤ (mx : Int)) = false := by simp; omega
    have HA2 : Hid (addL mx es (n, s) = es1) := by show _ = _; rw [HA.out, if_neg hfit]
    clear HA
    refine wp_region_inv_all I (by kernel_rfl) (by kernel_rfl) ((HI.out _).2 hd0) ?_
    repeat (go_big_quiet_step (((go_at_call 30; exact inv_call ((esize_any _ _ _ (by omega) (by omega)).mono (by rintro e w' ⟨rfl, rfl⟩; exact ⟨rfl, (HI.out _).2 (((HI.out _).1 (InW.has _)).alloc ((HI.out _).1 (InW.has _)).size _)⟩))))))
    refine wpQuiet_nil ?_
    intro w2 hb2
    replace hb2 := (HI.out _).1 hb2
    clear hne HI
    clear q0 q1 q2
    go_wp2
    go_end0
    exact ⟨rfl, v1, by rw [HA2.out]; exact hT1.below hb2, (hM.below hb2).mono (fun _ _ h => .inl h), fun k hk => .inl (by rw [← hob1]; exact hk)⟩
end Table
end Go.Proofs.YtkpdhnkiabgghaaDoor
