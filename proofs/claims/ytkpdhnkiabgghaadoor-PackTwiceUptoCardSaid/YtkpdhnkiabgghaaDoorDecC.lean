/- Layer 5, pack: literal, formOf. -/
import Derived.Test.YtkpdhnkiabgghaaDoorDecB
namespace Go.Proofs.YtkpdhnkiabgghaaDoor
open Go.RowKit
namespace Pack
def nameL (es : List Ent) (rest : List UInt8) (i : Nat) : Option (ByteArray × List UInt8) := if 0 < i then (Table.atL es i).map (fun e => (e.1, rest)) else (textL rest).map (fun x => (mk x.1, x.2))
def litL (es : List Ent) (rest : List UInt8) (i : Nat) : Option (ByteArray × ByteArray × List UInt8) := (nameL es rest i).bind fun x => (textL x.2).map fun y => (x.1, mk y.1, y.2)
def litT (add : Bool) (mx : Nat) (es : List Ent) (e : Ent) : List Ent := if add then Table.addL mx es e else es
theorem fixed_small : Table.fixedL.all (fun e => decide (e.1.size ≤ 65536)) = true := by decide
theorem tsize_mem : ∀ (es : List Ent) (e : Ent), e ∈ es → esz e ≤ tsize es
  | [], e, h => by simp at h
  | d :: es, e, h => by
    simp only [List.mem_cons] at h
    simp only [tsize]
    rcases h with rfl | h
    · omega
    · have := tsize_mem es e h; omega
theorem atL_size (es : List Ent) (i : Int) (e : Ent) (h : Table.atL es i = some e) (hs : tsize es ≤ 65536) : e.1.size ≤ 65536 := by
  unfold Table.atL at h
  split at h
  · have := List.all_eq_true.1 fixed_small e (List.mem_of_getElem? h)
    simpa using this
  · split at h
    · have := tsize_mem es e (List.mem_of_getElem? h)
      unfold esz at this; omega
    · cases h
theorem nameL_spec (es : List Ent) (rest : List UInt8) (i : Nat) (n : ByteArray) (r : List UInt8) (h : nameL es rest i = some (n, r)) (hs : tsize es ≤ 65536) : n.size ≤ 65536 ∧ r.length ≤ rest.length := by
  unfold nameL at h
  split at h
  · cases ha : Table.atL es i with
    | none => rw [ha] at h; cases h
    | some e =>
      rw [ha] at h
      cases h
      exact ⟨atL_size es i e ha hs, Nat.le_refl _⟩
  · cases ht : textL rest with
    | none => rw [ht] at h; cases h
    | some x =>
      rw [ht] at h
      cases h
      have := textL_spec rest x.1 x.2 ht
      exact ⟨by rw [mk_size]; exact this.1, by omega⟩
theorem rd_mod {w w' : World} {gr gd gt : Nat} {v lv : Value} {mx : Nat} {es : List Ent} {limit : Nat} {broken : Bool} {rest : List UInt8} {out : List Fld} {ch : Nat} {S : Nat → Prop} (h : IsRd w gr gd gt v lv mx es limit broken rest out ch) (hm : Mod S w w')
    (h1 : ¬ S gr) (h2 : ¬ S gd) (h3 : ¬ S gt) (h4 : ∀ k, v.ownBlock = some k → ¬ S k) (h5 : ∀ k, lv.ownBlock = some k → ¬ S k) : IsRd w' gr gd gt v lv mx es limit broken rest out ch :=
  ⟨hm.blk h.blk h1, ⟨hm.blk h.dec.blk h2, h.dec.tab.mod hm h3 h4⟩, hm.own h.out h5⟩
/-- A store into a field of the function's own is no part of a reader. -/
theorem rd_fld {w w' : World} {gr gd gt : Nat} {v lv : Value} {mx : Nat} {es : List Ent} {limit : Nat} {broken : Bool} {rest : List UInt8} {out : List Fld} {ch N : Nat} {cs : Array Value} (h : IsRd w gr gd gt v lv mx es limit broken rest out ch) (hN : w.heap[N]? = some (.cells cs 40 (0, 0))) (hlv : lv.ownBlock ≠ some N)
    (hm : Mod (fun k => k = N) w w') : IsRd w' gr gd gt v lv mx es limit broken rest out ch := by
  refine rd_mod h hm (fun e => typ_ne h.blk hN (by decide) e) (fun e => typ_ne h.dec.blk hN (by decide) e) (fun e => typ_ne h.dec.tab.blk hN (by decide) e) (fun k hk e => ?_) (fun k hk e => hlv (e ▸ hk))
  obtain ⟨cur, hc⟩ := h.dec.tab.own.row k hk
  exact typ_ne hc hN (by decide) e
/-- The table has changed. -/
theorem rd_turn {w w' : World} {gr gd gt : Nat} {v v' lv : Value} {mx mx' : Nat} {es es' : List Ent} {limit : Nat} {broken : Bool} {rest : List UInt8} {out : List Fld} {ch : Nat} (h : IsRd w gr gd gt v lv mx es limit broken rest out ch) (hT : IsTab w' gt v' mx' es') (hm : Mod (fun k => k = gt ∨ v.ownBlock = some k) w w') :
    IsRd w' gr gd gt v' lv mx' es' limit broken rest out ch := by
  have hv : ∀ k, v.ownBlock = some k → ∃ cur, w.heap[k]? = some (.cells cur 69 (0, 0)) := fun k hk => h.dec.tab.own.row k hk
  refine ⟨hm.blk h.blk ?_, ⟨hm.blk h.dec.blk ?_, hT⟩, hm.own h.out fun k hk => ?_⟩
  · rintro (e | e)
    · exact typ_ne h.blk h.dec.tab.blk (by decide) e
    · obtain ⟨cur, hc⟩ := hv _ e; exact typ_ne h.blk hc (by decide) rfl
  · rintro (e | e)
    · exact typ_ne h.dec.blk h.dec.tab.blk (by decide) e
    · obtain ⟨cur, hc⟩ := hv _ e; exact typ_ne h.dec.blk hc (by decide) rfl
  · obtain ⟨c2, hc2⟩ := h.out.row k hk
    rintro (e | e)
    · exact typ_ne hc2 h.dec.tab.blk (by decide) e
    · obtain ⟨cur, hc⟩ := hv _ e; exact typ_ne hc2 hc (by decide) rfl
set_option maxRecDepth 100000 in
set_option maxHeartbeats 4000000 in
theorem literal_any (gr gd gt : Nat) (v lv : Value) (mx : Nat) (es : List Ent) (limit : Nat) (broken : Bool) (rest : List UInt8) (out : List Fld) (ch i : Nat) (add never : Bool) (w : World) (hG : G w) (h : IsRd w gr gd gt v lv mx es limit broken rest out ch) (hi : i ≤ 2147483647) (ho : out.length ≤ 4194304) (hlen : rest.length ≤ 4194304) (hgr : 10 ≤ gr) :
    Calls Tryd.prog 43 #[.pointer (some ⟨gr, 0, none⟩), .int .i64 (i : Int), .bool add, .bool never] w fun e w' =>
      (∃ n s r v' lv', litL es rest i = some (n, s, r) ∧ e = .returned (.tuple #[]) ∧ IsRd w' gr gd gt v' lv' mx (litT add mx es (n, s)) limit broken r (out ++ [⟨n, s, never⟩]) ch ∧ Mod (fun k => k = gr ∨ lv.ownBlock = some k ∨ k = gt ∨ v.ownBlock = some k) w w' ∧
        (∀ k, lv'.ownBlock = some k → k < w.heap.size → lv.ownBlock = some k) ∧ (∀ k, v'.ownBlock = some k → k < w.heap.size → v.ownBlock = some k)) ∨
      (litL es rest i = none ∧ e = fault ∧ IsDec w' gd gt v mx es limit broken ∧ Mod (fun k => k = gr) w w') := by
  have HN : Hid (litL es rest i = (nameL es rest i).bind fun x => (textL x.2).map fun y => (x.1, mk y.1, y.2)) := rfl
  have HNM : Hid (nameL es rest i = if 0 < i then (Table.atL es i).map (fun e => (e.1, rest)) else (textL rest).map (fun x => (mk x.1, x.2))) := rfl
  obtain ⟨N, hN⟩ : ∃ N, N = w.heap.size := ⟨_, rfl⟩
  go_enter Tryd.func43, Tryd.ntmps43
  go_upto_if 10 with fail
  have hF0 := heap_alloc_new w (.cells #[.string ⟨#[]⟩, .string ⟨#[]⟩, .bool false] 40)
  have hbA : Below w.heap.size w (w.alloc (.cells #[.string ⟨#[]⟩, .string ⟨#[]⟩, .bool false] 40)) := (Below.refl _ _).alloc (Nat.le_refl _) _
  rw [← hN] at hF0
  rw [← hN]
  have HNN := Lib.hid hN
  clear hN
  generalize w.alloc (.cells #[.string ⟨#[]⟩, .string ⟨#[]⟩, .bool false] 40) = w0 at hF0 hbA
  have hR0 : IsRd w0 gr gd gt v lv mx es limit broken rest out ch := rd_upd h ((Mod.refl _ _).below hbA) ((hbA.block _ (lt_of_blk h.blk)).trans h.blk)
  have hG0 := hG.below hbA hG.size
  have hN0 := lt_of_blk hF0
  have hlv : lv.ownBlock ≠ some N := fun e => by have := h.out.lt _ e; have := HNN.out; omega
  have hNR : N ≠ gr := typ_ne hF0 hR0.blk (by decide)
  go_cut [] (fun wx => ∃ n r, nameL es rest i = some (n, r) ∧ wx.heap[N]? = some (.cells #[.string n, .string ⟨#[]⟩, .bool false] 40 (0, 0)) ∧ IsRd wx gr gd gt v lv mx es limit broken r out ch ∧ Mod (fun k => k = gr ∨ k = N) w0 wx)
  case first =>
    by_cases hi0 : 0 < i
    · have d : decide ((0 : Int) < (i : Int)) = true := by simp; omega
      rw [if_pos hi0] at HNM
      go_wp2_with fail
      refine (entry_any gr gd gt v lv mx es limit broken rest out ch i w0 hR0 hi).mono ?_
      rintro e w1 (⟨n, s, ha, rfl, hb1⟩ | ⟨ha, rfl, hb1⟩)
      · have hF1 := (hb1.block _ hN0).trans hF0
        have x0 := (cell_of_row w1 N 0 _ _ _ hF1).trans rfl
        have y0 := frozen_of_row w1 N 0 _ _ hF1
        go_wp2
        go_meet
        have hR1 : IsRd w1 gr gd gt v lv mx es limit broken rest out ch := rd_mod (S := fun _ => False) hR0 (Mod.ofBelow hb1) (fun h => h) (fun h => h) (fun h => h) (fun _ _ h => h) (fun _ _ h => h)
        have hM2 : Mod (fun k => k = N) w1 (w1.setCell ⟨N, 0, none⟩ (.string n)) := (Mod.refl (fun k => k = N) w1).setCell (p := ⟨N, 0, none⟩) (fun _ => rfl) _
        exact ⟨n, rest, by rw [HNM.out, ha]; rfl, heap_setCell_same w1 N 0 _ _ _ hF1, rd_fld hR1 hF1 hlv hM2, (Mod.ofBelow (S := fun k => k = gr ∨ k = N) hb1).trans hM2 (fun _ _ h => .inr h)⟩
      · go_wp2_with fail
        refine ⟨rfl, .inr ⟨by rw [HN.out, HNM.out, ha]; rfl, rfl, ?_, (Mod.ofBelow (S := fun k => k = gr) hbA).below hb1⟩⟩
        exact (rd_mod (S := fun _ => False) hR0 (Mod.ofBelow hb1) (fun h => h) (fun h => h) (fun h => h) (fun _ _ h => h) (fun _ _ h => h)).dec
    · have d : decide ((0 : Int) < (i : Int)) = false := by simp; omega
      rw [if_neg hi0] at HNM
      go_wp2_with fail
      refine (text_any gr gd gt v lv mx es limit broken rest out ch w0 hG0 hR0 hlen).mono ?_
      rintro e w1 (⟨s, r, ha, rfl, hR1, hM1⟩ | ⟨ha, rfl, hb1⟩)
      · have hF1 := hM1.blk hF0 hNR
        have x0 := (cell_of_row w1 N 0 _ _ _ hF1).trans rfl
        have y0 := frozen_of_row w1 N 0 _ _ hF1
        go_wp2
        go_meet
        have hM2 : Mod (fun k => k = N) w1 (w1.setCell ⟨N, 0, none⟩ (.string (mk s))) := (Mod.refl (fun k => k = N) w1).setCell (p := ⟨N, 0, none⟩) (fun _ => rfl) _
        exact ⟨mk s, r, by rw [HNM.out, ha]; rfl, heap_setCell_same w1 N 0 _ _ _ hF1, rd_fld hR1 hF1 hlv hM2, (hM1.mono (T := fun k => k = gr ∨ k = N) (fun _ _ h => .inl h)).trans hM2 (fun _ _ h => .inr h)⟩
      · go_wp2_with fail
        refine ⟨rfl, .inr ⟨by rw [HN.out, HNM.out, ha]; rfl, rfl, ?_, (Mod.ofBelow (S := fun k => k = gr) hbA).below hb1⟩⟩
        exact (rd_mod (S := fun _ => False) hR0 (Mod.ofBelow hb1) (fun h => h) (fun h => h) (fun h => h) (fun _ _ h => h) (fun _ _ h => h)).dec
  case rest =>
    obtain ⟨n, r, hnl, hFx, hRx, hMx⟩ := hcut
    obtain ⟨hn1, hn2⟩ := nameL_spec es rest i n r hnl h.dec.tab.le
    have HN2 : Hid (litL es rest i = (textL r).map fun y => (n, mk y.1, y.2)) := by show _ = _; rw [HN.out, hnl]; rfl
    have hGx := hG0.mod hMx (fun k hk => by
      rcases hk with hk | hk
      · omega
      · have := HNN.out; have := hG.size; omega)
    have hKx : Mod (fun k => k = gr) w _ := ((Mod.refl (fun k => k = gr) w).below hbA).trans hMx (fun k hk h => by
      rcases h with h | h
      · exact h
      · have := HNN.out; omega)
    clear HN HNM hnl hR0 hF0 hbA hMx hG0
    go_wp2_with fail
    refine (text_any gr gd gt v lv mx es limit broken r out ch _ hGx hRx (by omega)).mono ?_
    rintro e w1 (⟨s, r2, ha, rfl, hR1, hM1⟩ | ⟨ha, rfl, hb1⟩)
    · obtain ⟨hs1, hs2⟩ := textL_spec r s r2 ha
      have HN3 : Hid (litL es rest i = some (n, mk s, r2)) := by show _ = _; rw [HN2.out, ha]; rfl
      have hF1 := hM1.blk hFx hNR
      have hG1 := hGx.mod hM1 (fun k hk => by omega)
      have hK1 := hKx.trans hM1 (fun _ _ h => h)
      have x1 := (cell_of_row _ N 1 _ _ _ hF1).trans rfl
      have x2 := (cell_of_row _ N 2 _ _ _ hF1).trans rfl
      have y1 := frozen_of_row _ N 1 _ _ hF1
      have y2 := frozen_of_row _ N 2 _ _ hF1
      clear HN2 ha hGx hRx hFx hKx hM1
      go_upto_if 26 with fail
      have hM2 : Mod (fun k => k = N) w1 ((w1.setCell ⟨N, 1, none⟩ (.string (mk s))).setCell ⟨N, 2, none⟩ (.bool never)) := ((Mod.refl (fun k => k = N) w1).setCell (p := ⟨N, 1, none⟩) (fun _ => rfl) _).setCell (p := ⟨N, 2, none⟩) (fun _ => rfl) _
      have hF2 : ((w1.setCell ⟨N, 1, none⟩ (.string (mk s))).setCell ⟨N, 2, none⟩ (.bool never)).heap[N]? = some (.cells #[.string n, .string (mk s), .bool never] 40 (0, 0)) := heap_setCell_same _ N 2 _ _ (.bool never) (heap_setCell_same w1 N 1 _ _ (.string (mk s)) hF1)
      have hR2 := rd_fld hR1 hF1 hlv hM2
      have hG2 := hG1.mod hM2 (fun k hk => by have := HNN.out; have := hG.size; omega)
      have hK2 : Mod (fun k => k = gr) w _ := hK1.trans hM2 (fun k hk h => by have := HNN.out; omega)
      generalize (w1.setCell ⟨N, 1, none⟩ (.string (mk s))).setCell ⟨N, 2, none⟩ (.bool never) = w2 at hF2 hR2 hG2 hK2
      clear hM2 x1 x2 y1 y2 hF1 hR1 hG1 hK1
      go_cut [] (fun wx => ∃ v4, IsRd wx gr gd gt v4 lv mx (litT add mx es (n, mk s)) limit broken r2 out ch ∧ wx.heap[N]? = some (.cells #[.string n, .string (mk s), .bool never] 40 (0, 0)) ∧ Mod (fun k => k = gr ∨ k = gt ∨ v.ownBlock = some k) w wx ∧ (∀ k, v4.ownBlock = some k → k < w.heap.size → v.ownBlock = some k) ∧ N < wx.heap.size)
      case first =>
        cases add with
        | false =>
          go_wp2
          go_meet
          exact ⟨v, hR2, hF2, hK2.mono (fun _ _ h => .inl h), fun _ h _ => h, lt_of_blk hF2⟩
        | true =>
          go_wp2_with fail
          have hge := lt_of_blk hR2.blk
          have hgd := lt_of_blk hR2.dec.blk
          have hNr := lt_of_blk hF2
          have hd0 : Below w2.heap.size w2 w2.drew := (Below.refl _ _).drew
          obtain ⟨I, HI, hne⟩ := mkInv (fun W => Below w2.heap.size w2 W) hd0
          have q0 : ∀ x : InW I, x.w.cell? ⟨gr, 0, none⟩ = some (.pointer (some ⟨gd, 0, none⟩)) := fun x => (((HI.out _).1 x.has).cell (p := ⟨gr, 0, none⟩) hge).trans ((cell_of_row _ _ _ _ _ _ hR2.blk).trans rfl)
          have q3 : ∀ x : InW I, x.w.cell? ⟨gd, 0, none⟩ = some (.pointer (some ⟨gt, 0, none⟩)) := fun x => (((HI.out _).1 x.has).cell (p := ⟨gd, 0, none⟩) hgd).trans ((cell_of_row _ _ _ _ _ _ hR2.dec.blk).trans rfl)
          have q1 : ∀ x : InW I, x.w.cell? ⟨N, 0, none⟩ = some (.string n) := fun x => (((HI.out _).1 x.has).cell (p := ⟨N, 0, none⟩) hNr).trans (cell_of_row _ _ _ _ _ _ hF2)
          have q2 : ∀ x : InW I, x.w.cell? ⟨N, 1, none⟩ = some (.string (mk s)) := fun x => (((HI.out _).1 x.has).cell (p := ⟨N, 1, none⟩) hNr).trans (cell_of_row _ _ _ _ _ _ hF2)
          refine wp_region_inv I 11 (by kernel_rfl) (by kernel_rfl) ((HI.out _).2 hd0) ?_
          simp only [List.take_succ_cons, List.take_zero, List.drop_succ_cons, List.drop_zero]
          repeat (go_big_quiet_step ((fail)))
          refine wpQuiet_nil ?_
          intro w3 hb3
          replace hb3 := (HI.out _).1 hb3
          clear hne HI
          clear q0 q1 q2 q3
          go_wp2_with fail
          have hR3 : IsRd w3 gr gd gt v lv mx es limit broken r2 out ch := rd_mod (S := fun _ => False) hR2 (Mod.ofBelow hb3) (fun h => h) (fun h => h) (fun h => h) (fun _ _ h => h) (fun _ _ h => h)
          have hF3 := (hb3.block _ hNr).trans hF2
          refine (Table.add_any gt v mx es n (mk s) w3 hR3.dec.tab hn1 (by rw [mk_size]; exact hs1)).mono ?_
          rintro e w4 ⟨rfl, v4, hT4, hM4, hv4⟩
          go_wp2
          go_meet
          refine ⟨v4, rd_turn hR3 hT4 hM4, hM4.blk hF3 ?_, ((hK2.below hb3).mono (T := fun k => k = gr ∨ k = gt ∨ v.ownBlock = some k) (fun _ _ h => .inl h)).trans (hM4.mono (T := fun k => k = gr ∨ k = gt ∨ v.ownBlock = some k) (fun _ _ h => .inr h)) (fun _ _ h => h), fun k hk hlt => ?_, Nat.lt_of_lt_of_le (lt_of_blk hF3) hM4.size⟩
          · rintro (e | e)
            · exact typ_ne hF3 hR3.dec.tab.blk (by decide) e
            · obtain ⟨cur, hc⟩ := hR3.dec.tab.own.row _ e
              exact typ_ne hF3 hc (by decide) rfl
          · rcases hv4 k hk with e | e
            · exact e
            · have := hb3.size; have := hK2.size; omega
      case rest =>
        obtain ⟨v4, hR4, hF4, hK4, hv4, hN4⟩ := hcut
        have hc2 := (cell4 hR4.blk).2.2.1
        have hlw := hR4.out
        have x0 := (cell_of_row _ N 0 _ _ _ hF4).trans rfl
        have x1 := (cell_of_row _ N 1 _ _ _ hF4).trans rfl
        have x2 := (cell_of_row _ N 2 _ _ _ hF4).trans rfl
        have hgr4 := lt_of_blk hR4.blk
        have f2 := (cell4 hR4.blk).2.2.2.2.2.1
        have hneg : lv.ownBlock ≠ some gr := fun e => by
          obtain ⟨c2, hc2⟩ := hR4.out.row gr e
          exact typ_ne hR4.blk hc2 (by decide) rfl
        have hlt4 := hlw.lt
        have c2 := hc2
        clear hc2
        go_wp2_with fail
        go_region_law (first | (refine step_app (by rfl) _ _ 29 (by rfl) ti_fld (by decide) _ out.length _ (by rfl) (hlw.drew.alloc _) ⟨wc.heap.size, 0, none⟩ 1 1 [.string n, .string (mk s), .bool never] (by rfl) (by rfl) (news_new wc.drew #[.string n, .string (mk s), .bool never] 40) (by simp [Value.oneCell']) (by decide) (by simp only [maxLen]; omega) (by omega) ?_; intro g1 off1 cap1 w3 hown3 hg3 hat3 hlt3; have hgb : w3.heap[gr]? = wc.heap[gr]? := (hg3.block gr (show gr < (wc.alloc _).heap.size by simp; omega) (fun e => hneg e.symm)).trans (heap_alloc_old _ _ hgr4); have k2 := (World.cell?_of_block (a := ⟨gr, 2, none⟩) (w := wc) hgb).trans c2; have k3 := (World.frozen?_of_block (a := ⟨gr, 2, none⟩) (w := wc) hgb).trans f2))
        all_goals
          go_wp2
          go_end0
          obtain ⟨p1, p2, p3⟩ := rd_app (f := ⟨n, mk s, never⟩) hR4 (w2 := (wc.alloc (.cells #[.string n, .string (mk s), .bool never] 40)).drew) (((Below.refl _ _).alloc (Nat.le_refl _) _).drew) hown3 hg3 hat3
          have hsz := hK4.size
          refine .inl ⟨n, mk s, r2, v4, _, HN3.out, rfl, p1, ?_, fun k hk hlt => ?_, hv4⟩
          · refine (hK4.mono (T := fun k => k = gr ∨ lv.ownBlock = some k ∨ k = gt ∨ v.ownBlock = some k) (fun k _ h => ?_)).trans p2 (fun k _ h => ?_)
            · rcases h with h | h | h
              · exact .inl h
              · exact .inr (.inr (.inl h))
              · exact .inr (.inr (.inr h))
            · rcases h with h | h
              · exact .inl h
              · exact .inr (.inl h)
          · cases hk
            exact p3 (Nat.lt_of_lt_of_le hlt hsz)
    · go_wp2_with fail
      refine ⟨rfl, .inr ⟨by rw [HN2.out, ha]; rfl, rfl, ?_, hKx.below hb1⟩⟩
      exact (rd_mod (S := fun _ => False) hRx (Mod.ofBelow hb1) (fun h => h) (fun h => h) (fun h => h) (fun _ _ h => h) (fun _ _ h => h)).dec
end Pack
end Go.Proofs.YtkpdhnkiabgghaaDoor
