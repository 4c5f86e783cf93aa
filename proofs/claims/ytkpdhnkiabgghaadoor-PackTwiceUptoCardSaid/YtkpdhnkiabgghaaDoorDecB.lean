/- Layer 5, pack: indexed, change, literal, formOf. -/
import Derived.Test.YtkpdhnkiabgghaaDoorDec
namespace Go.Proofs.YtkpdhnkiabgghaaDoor
open Go.RowKit
namespace Pack
theorem ti_fld : TI Tryd.prog 29 40 3 40 := TI.mk' Tryd.underlying29 (z := .agg #[.string ⟨#[]⟩, .string ⟨#[]⟩, .bool false]) (by kernel_rfl) rfl
theorem fldC_snoc (out : List Fld) (f : Fld) : fldC (out ++ [f]) = fldC out ++ [.string f.n, .string f.v, .bool f.never] := by simp [fldC]
theorem rd_app {w w2 w3 : World} {gr gd gt : Nat} {v lv : Value} {mx : Nat} {es : List Ent} {limit : Nat} {broken : Bool} {rest : List UInt8} {out : List Fld} {ch : Nat} {g1 off1 cap1 : Nat} {f : Fld} (h : IsRd w gr gd gt v lv mx es limit broken rest out ch)
    (hb : Below w.heap.size w w2) (hown : Own w3 40 3 (.slice (some ⟨g1, off1, none⟩) (out.length + 1) cap1) (out.length + 1) (fldC out ++ [.string f.n, .string f.v, .bool f.never])) (hg : w2.grownBy w3 lv.ownBlock)
    (hat : lv.ownBlock = some g1 ∨ g1 = w2.heap.size) :
    IsRd (w3.setCell ⟨gr, 2, none⟩ (.slice (some ⟨g1, off1, none⟩) (out.length + 1) cap1)) gr gd gt v (.slice (some ⟨g1, off1, none⟩) (out.length + 1) cap1) mx es limit broken rest (out ++ [f]) ch ∧
      Mod (fun k => k = gr ∨ lv.ownBlock = some k) w (w3.setCell ⟨gr, 2, none⟩ (.slice (some ⟨g1, off1, none⟩) (out.length + 1) cap1)) ∧ (g1 < w.heap.size → lv.ownBlock = some g1) := by
  have hM3 : Mod (fun k => lv.ownBlock = some k) w w3 := ((Mod.refl (fun k => lv.ownBlock = some k) w).below hb).grown hg (fun k hk _ => hk)
  have hne : ∀ k cur t, w.heap[k]? = some (.cells cur t (0, 0)) → t ≠ 40 → ¬ lv.ownBlock = some k := fun k cur t hk ht e => by
    obtain ⟨c2, hc2⟩ := h.out.row k e
    exact typ_ne hk hc2 ht rfl
  have hb3 := hM3.blk h.blk (hne _ _ _ h.blk (by decide))
  have hgr : g1 ≠ gr := by
    rcases hat with e | e
    · obtain ⟨c2, hc2⟩ := h.out.row g1 e
      exact typ_ne hc2 h.blk (by decide)
    · have := lt_of_blk h.blk; have := hb.size; omega
  have hM4 : Mod (fun k => k = gr ∨ lv.ownBlock = some k) w (w3.setCell ⟨gr, 2, none⟩ (.slice (some ⟨g1, off1, none⟩) (out.length + 1) cap1)) := (hM3.mono (fun _ _ h => .inr h)).setCell (p := ⟨gr, 2, none⟩) (fun _ => .inl rfl) _
  refine ⟨⟨heap_setCell_same w3 gr 2 _ _ _ hb3, ⟨hM4.blk h.dec.blk ?_, h.dec.tab.mod hM4 ?_ ?_⟩, ?_⟩, hM4, fun hlt => ?_⟩
  · rintro (e | e)
    · exact typ_ne h.dec.blk h.blk (by decide) e
    · exact hne _ _ _ h.dec.blk (by decide) e
  · rintro (e | e)
    · exact typ_ne h.dec.tab.blk h.blk (by decide) e
    · exact hne _ _ _ h.dec.tab.blk (by decide) e
  · intro k hk
    obtain ⟨cur, hc⟩ := h.dec.tab.own.row k hk
    rintro (e | e)
    · exact typ_ne hc h.blk (by decide) e
    · exact hne _ _ _ hc (by decide) e
  · rw [List.length_append, fldC_snoc]
    exact hown.setFar _ _ (fun e => hgr (Option.some.inj e))
  · rcases hat with e | e
    · exact e
    · have := hb.size; omega
set_option maxRecDepth 100000 in
set_option maxHeartbeats 1000000 in
theorem indexed_any (gr gd gt : Nat) (v lv : Value) (mx : Nat) (es : List Ent) (limit : Nat) (broken : Bool) (rest : List UInt8) (out : List Fld) (ch : Nat) (i : Nat) (w : World) (h : IsRd w gr gd gt v lv mx es limit broken rest out ch) (hi : i ≤ 2147483647) (ho : out.length ≤ 4194304) :
    Calls Tryd.prog 41 #[.pointer (some ⟨gr, 0, none⟩), .int .i64 (i : Int)] w fun e w' =>
      (∃ n s lv', Table.atL es i = some (n, s) ∧ e = .returned (.tuple #[]) ∧ IsRd w' gr gd gt v lv' mx es limit broken rest (out ++ [⟨n, s, false⟩]) ch ∧ Mod (fun k => k = gr ∨ lv.ownBlock = some k) w w' ∧ ∀ k, lv'.ownBlock = some k → k < w.heap.size → lv.ownBlock = some k) ∨
      (Table.atL es i = none ∧ e = fault ∧ Below w.heap.size w w') := by
  go_enter Tryd.func41, Tryd.ntmps41
  go_wp2_with fail
  refine (entry_any gr gd gt v lv mx es limit broken rest out ch i w h hi).mono ?_
  rintro e w1 (⟨n, s, ha, rfl, hb1⟩ | ⟨ha, rfl, hb1⟩)
  · have hbr := (hb1.block _ (lt_of_blk h.blk)).trans h.blk
    obtain ⟨c0, c1, c2, c3, f1, f2, f3⟩ := cell4 hbr
    have hlw := (Mod.ofBelow (S := fun _ => False) hb1).own h.out (fun _ _ h => h)
    have hA := hlw.alloc (.cells #[.string n, .string s, .bool false] 40)
    have n2 := World.new_ne w1 _ c2
    have hgr1 := lt_of_blk hbr
    have hne : lv.ownBlock ≠ some gr := fun e => by
      obtain ⟨c2, hc2⟩ := h.out.row gr e
      exact typ_ne h.blk hc2 (by decide) rfl
    go_wp2_with (refine wpList_app rfl _ _ 29 rfl ti_fld (by decide) _ out.length _ rfl hA ⟨w1.heap.size, 0, none⟩ 1 1 [.string n, .string s, .bool false] rfl rfl (news_new w1 #[.string n, .string s, .bool false] 40) (by simp [Value.oneCell']) (by decide) (by simp only [maxLen]; omega) (by omega) ?_; intro g1 off1 cap1 w3 hown3 hg3 hat3 hlt3; have hgb : w3.heap[gr]? = w1.heap[gr]? := (hg3.block gr (show gr < (w1.alloc _).heap.size by simp; omega) (fun e => hne e.symm)).trans (heap_alloc_old _ _ hgr1); have k2 := (World.cell?_of_block (a := ⟨gr, 2, none⟩) (w := w1) hgb).trans c2; have k3 := (World.frozen?_of_block (a := ⟨gr, 2, none⟩) (w := w1) hgb).trans f2)
    go_end0
    have hB : Below w.heap.size w (w1.alloc (.cells #[.string n, .string s, .bool false] 40)) := hb1.alloc hb1.size _
    obtain ⟨q1, q2, q3⟩ := rd_app (f := ⟨n, s, false⟩) h hB hown3 hg3 hat3
    exact .inl ⟨n, s, _, ha, rfl, q1, q2, fun k hk hlt => by cases hk; exact q3 hlt⟩
  · go_wp2_with fail
    exact ⟨rfl, .inr ⟨ha, rfl, hb1⟩⟩
set_option maxRecDepth 100000 in
set_option maxHeartbeats 1000000 in
theorem change_any (gr gd gt : Nat) (v lv : Value) (mx : Nat) (es : List Ent) (limit : Nat) (broken : Bool) (rest : List UInt8) (out : List Fld) (ch n : Nat) (w : World) (h : IsRd w gr gd gt v lv mx es limit broken rest out ch) (hn : n ≤ 2147483647) (hl : limit ≤ 65536) (ho : out.length ≤ 4194304) (hch : ch ≤ 4194304) :
    Calls Tryd.prog 42 #[.pointer (some ⟨gr, 0, none⟩), .int .i64 (n : Int)] w fun e w' =>
      ((out = [] ∧ ch + 1 ≤ 2 ∧ n ≤ limit) ∧ e = .returned (.tuple #[]) ∧ ∃ v', IsRd w' gr gd gt v' lv n (Table.shrinkL n es) limit broken rest out (ch + 1) ∧ Mod (fun k => k = gr ∨ k = gt) w w' ∧ v'.ownBlock = v.ownBlock) ∨
      (¬ (out = [] ∧ ch + 1 ≤ 2 ∧ n ≤ limit) ∧ e = fault ∧ IsDec w' gd gt v mx es limit broken ∧ Mod (fun k => k = gr) w w') := by
  obtain ⟨c0, c1, c2, c3, f1, f2, f3⟩ := cell4 h.blk
  obtain ⟨d0, d1, d2, g0, g1, g2⟩ := cell3 h.dec.blk
  have hgd := typ_ne h.dec.blk h.blk (by decide)
  have hgd2 : gr ≠ gd := fun e => hgd e.symm
  obtain ⟨A, cap, rfl, hcc1, hcc2⟩ := h.out.form'
  have hM : Mod (fun k => k = gr) w (w.setCell ⟨gr, 3, none⟩ (.int .i64 ((ch : Int) + 1))) := (Mod.refl (fun k => k = gr) w).setCell (p := ⟨gr, 3, none⟩) (fun _ => rfl) _
  have hR := rd_upd (ch' := ch + 1) h hM (heap_setCell_same w gr 3 _ _ _ h.blk)
  have hHR := Lib.hid hR
  have hHM := Lib.hid hM
  have HH := Lib.hid h
  clear hR hM h
  cases out with
  | cons f out =>
    have d : decide ((0 : Int) < (((f :: out).length : Nat) : Int)) = true := by simp
    go_enter Tryd.func42, Tryd.ntmps42
    go_wp2_with fail
    exact ⟨rfl, .inr ⟨by simp, rfl, hHR.out.dec, hHM.out⟩⟩
  | nil =>
    by_cases h2 : 2 < ch + 1
    · have d2 : decide ((2 : Int) < (ch : Int) + 1) = true := by simp; omega
      go_enter Tryd.func42, Tryd.ntmps42
      go_wp2_with fail
      exact ⟨rfl, .inr ⟨by omega, rfl, hHR.out.dec, hHM.out⟩⟩
    · have d2 : decide ((2 : Int) < (ch : Int) + 1) = false := by simp; omega
      by_cases h3 : limit < n
      · have d3 : decide ((limit : Int) < (n : Int)) = true := by simp; omega
        go_enter Tryd.func42, Tryd.ntmps42
        go_wp2_with fail
        exact ⟨rfl, .inr ⟨by omega, rfl, hHR.out.dec, hHM.out⟩⟩
      · have d3 : decide ((limit : Int) < (n : Int)) = false := by simp; omega
        go_enter Tryd.func42, Tryd.ntmps42
        go_wp2_with fail
        refine (Table.resize_any n gt v mx es _ hHR.out.dec.tab (by omega)).mono ?_
        rintro e w2 ⟨rfl, v2, hT2, hM2, hv2⟩
        go_wp2
        go_end0
        have hR1 := hHR.out
        have hM1 := hHM.out
        refine .inl ⟨⟨by simp, by omega, by omega⟩, rfl, v2, ⟨hM2.blk hR1.blk (typ_ne hR1.blk hR1.dec.tab.blk (by decide)), ⟨hM2.blk hR1.dec.blk (typ_ne hR1.dec.blk hR1.dec.tab.blk (by decide)), hT2⟩, hM2.own hR1.out (fun k hk e => ?_)⟩, ?_, hv2⟩
        · obtain ⟨cur, hc⟩ := hR1.out.row k hk
          exact typ_ne hc hR1.dec.tab.blk (by decide) e
        · exact (hM1.mono (fun _ _ h => .inl h)).trans (hM2.mono (T := fun k => k = gr ∨ k = gt) (fun _ _ h => .inr h)) (fun _ _ h => h)
end Pack
end Go.Proofs.YtkpdhnkiabgghaaDoor
