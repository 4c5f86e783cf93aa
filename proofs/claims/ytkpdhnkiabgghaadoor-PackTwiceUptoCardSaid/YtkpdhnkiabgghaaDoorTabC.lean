/- Layer 4, table: Copy. -/
import Derived.Test.YtkpdhnkiabgghaaDoorTabB
namespace Go.Proofs.YtkpdhnkiabgghaaDoor
open Go.RowKit
theorem cell_alloc {w : World} {a : Addr} {v : Value} (h : w.cell? a = some v) (o : Obj) : (w.alloc o).cell? a = some v :=
  (World.cell?_alloc_some w a o (by rw [h]; rfl)).trans h
namespace Table
theorem entC_one' (l : List Ent) : ∀ u ∈ entC l, u.oneCell' = true := List.all_eq_true.1 (entC_one l)
set_option maxRecDepth 100000 in
theorem clone_any (v : Value) (es : List Ent) (w : World) (h : Own w 69 2 v es.length (entC es)) (hl : es.length ≤ 2048) :
    Calls Tryd.prog 44 #[v] w fun e w' => ∃ v', e = .returned v' ∧ Own w' 69 2 v' es.length (entC es) ∧ Below w.heap.size w w' ∧ ∀ k, v'.ownBlock = some k → w.heap.size ≤ k := by
  have q : ∀ (W : World) (a : Option Addr) (n c : Nat), (binOp .eql 70 (.slice a n c) (.slice none 0 0)).run Tryd.prog W = .ok (.bool a.isNone) W := fun W a n c => Lib.run_eql_slice_nil W _ _ a n c 0 0 Tryd.underlying70
  rcases h.2 with ⟨rfl, h0⟩ | ⟨g, off, cap, cur, rfl, hg, h1, h2, h3⟩
  · have he : es = [] := List.eq_nil_of_length_eq_zero h0
    subst he
    go_enter Tryd.func44, Tryd.ntmps44
    go_wp2
    go_ret
    exact ⟨_, rfl, Own.nil _ _ _, Below.refl _ _, by simp [Value.ownBlock]⟩
  · cases es with
    | nil =>
      go_enter Tryd.func44, Tryd.ntmps44
      go_wp2_with fail
      go_ret
      exact ⟨_, rfl, Own.new w 69 2 0 #[] rfl (by simp [maxLen]), (Below.refl _ _).alloc (Nat.le_refl _) _, fun k hk => by cases hk; exact Nat.le_refl _⟩
    | cons e es =>
      have hN := Own.new w 69 2 0 #[] rfl (by simp [maxLen])
      have hA := h.alloc (.cells #[] 69)
      have hb : ((e :: es).length + 0) * 32 ≤ 140737488355328 := by omega
      go_enter Tryd.func44, Tryd.ntmps44
      go_wp2_with (refine wpList_app rfl _ _ 70 rfl ti_ent (by decide) _ 0 [] rfl hN ⟨g, off, none⟩ (e :: es).length cap (entC (e :: es)) rfl h.1 (fun j u hj => by rw [add_off]; exact hA.cells j u hj) (entC_one' _) (by simp) (by simp only [maxLen]; omega) (by omega) ?_; intro g1 off1 cap1 w1 hw1 hg1 ha1 hl1)
      go_ret
      refine ⟨_, rfl, by simpa using hw1, ((Below.refl _ _).alloc (Nat.le_refl _) _).grown hg1 (by simp) (fun k hk => by cases hk; exact Nat.le_refl _), fun k hk => ?_⟩
      cases hk
      rcases ha1 with h5 | h5
      · cases h5; exact Nat.le_refl _
      · rw [h5]; simp
set_option maxRecDepth 100000 in
theorem copy_any (g : Nat) (v : Value) (mx : Nat) (es : List Ent) (w : World) (h : IsTab w g v mx es) :
    Calls Tryd.prog 28 #[.pointer (some ⟨g, 0, none⟩)] w fun e w' => ∃ g' v', e = .returned (.pointer (some ⟨g', 0, none⟩)) ∧ IsTab w' g' v' mx es ∧ Below w.heap.size w w' ∧ w.heap.size ≤ g' ∧ ∀ k, v'.ownBlock = some k → w.heap.size ≤ k := by
  obtain ⟨c0, c1, c2, f0, f1, f2⟩ := cell3 h.blk
  have hlen : es.length ≤ 2048 := by have := tsize_len es; have := h.le; omega
  have hgl := lt_of_blk h.blk
  have HT := Lib.hid h
  clear h
  go_enter Tryd.func28, Tryd.ntmps28
  go_wp2_with fail
  have hd0 : Below w.heap.size w w.drew := (Below.refl _ _).drew
  go_region_held3 (fun w' => w'.cell? ⟨g, 0, none⟩ = some (.int .i64 (mx : Int)) ∧ w'.cell? ⟨g, 1, none⟩ = some (.int .i64 (tsize es : Nat)) ∧ w'.cell? ⟨g, 2, none⟩ = some v ∧ Below w.heap.size w w')
    (refine ⟨?_, ?_, ?_, ?_⟩ <;> (first | assumption | exact (Below.refl _ _).drew | exact Below.alloc (by assumption) (Below.size (B := w.heap.size) (by assumption)) _ | exact cell_alloc (by assumption) _)) (first | (go_at_call 44; refine (clone_any v es _ (IsTab.own (HT.out.below (by assumption))) hlen).mono ?_; rintro e w2 ⟨v2, rfl, ho2, hb2, hv2⟩; obtain ⟨A2, cap2, rfl, hcc1, hcc2⟩ := ho2.form'; have hB2 : Below w.heap.size w w2 := Below.trans (by assumption) (hb2.mono (Below.size (B := w.heap.size) (by assumption))); have k0 := (hB2.cell (p := ⟨g, 0, none⟩) hgl).trans c0; have k1 := (hB2.cell (p := ⟨g, 1, none⟩) hgl).trans c1; have k2 := (hB2.cell (p := ⟨g, 2, none⟩) hgl).trans c2))
  go_wp2
  go_ret
  have HI := HT.out
  exact ⟨_, _, rfl, ⟨heap_alloc_new _ _, ho2.alloc _, fun e => by have := ho2.lt _ e; omega, HI.le, HI.mle⟩, hB2.alloc hB2.size _, hB2.size, fun k hk => hv2 k hk⟩
end Table
end Go.Proofs.YtkpdhnkiabgghaaDoor
