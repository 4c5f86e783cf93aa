/- Layer 5, pack: the decoder's small parts. -/
import Derived.Test.YtkpdhnkiabgghaaDoorEncE
namespace Go.Proofs.YtkpdhnkiabgghaaDoor
open Go.RowKit
namespace Pack
/-- A decoder in memory. -/
structure IsDec (w : World) (gd gt : Nat) (v : Value) (mx : Nat) (es : List Ent) (limit : Nat) (broken : Bool) : Prop where
  blk : w.heap[gd]? = some (.cells #[.pointer (some ⟨gt, 0, none⟩), .int .i64 (limit : Int), .bool broken] 53 (0, 0))
  tab : IsTab w gt v mx es
/-- A reader in memory. -/
structure IsRd (w : World) (gr gd gt : Nat) (v lv : Value) (mx : Nat) (es : List Ent) (limit : Nat) (broken : Bool) (rest : List UInt8) (out : List Fld) (ch : Nat) : Prop where
  blk : w.heap[gr]? = some (.cells #[.pointer (some ⟨gd, 0, none⟩), .string (mk rest), lv, .int .i64 (ch : Int)] 63 (0, 0))
  dec : IsDec w gd gt v mx es limit broken
  out : Own w 40 3 lv out.length (fldC out)
theorem newDec_any (w : World) : Calls Tryd.prog 7 #[] w fun e w' => ∃ gd gt v, e = .returned (.pointer (some ⟨gd, 0, none⟩)) ∧ IsDec w' gd gt v 4096 [] 4096 false ∧ Below w.heap.size w w' ∧ w.heap.size ≤ gd ∧ w.heap.size ≤ gt ∧ ∀ k, v.ownBlock = some k → w.heap.size ≤ k := by
  go_enter Tryd.func7, Tryd.ntmps7
  go_wp2_with fail
  refine (made_any w).mono ?_
  rintro e w1 ⟨rfl, hT, hb⟩
  go_wp2
  go_ret
  exact ⟨_, w.heap.size, .slice none 0 0, rfl, ⟨heap_alloc_new _ _, hT.below ((Below.refl _ _).alloc (Nat.le_refl _) _)⟩, hb.alloc hb.size _, hb.size, Nat.le_refl _, fun k hk => by cases hk⟩
theorem setMaxD_any (gd gt : Nat) (v : Value) (mx : Nat) (es : List Ent) (limit : Nat) (broken : Bool) (n : Int) (w : World) (h : IsDec w gd gt v mx es limit broken) :
    Calls Tryd.prog 9 #[.pointer (some ⟨gd, 0, none⟩), .int .i64 n] w fun e w' => e = .returned (.tuple #[]) ∧ IsDec w' gd gt v mx es (clampN n 65536) broken ∧ Mod (fun k => k = gd) w w' := by
  have hb := h.blk
  obtain ⟨c0, c1, c2, f0, f1, f2⟩ := cell3 hb
  obtain ⟨m, hm⟩ : ∃ m, m = clampN n 65536 := ⟨_, rfl⟩
  have hc : min (max n 0) 65536 = ((m : Nat) : Int) := by rw [hm]; exact clampN_eq n 65536
  rw [← hm]
  clear hm
  go_enter Tryd.func9, Tryd.ntmps9
  go_wp2
  go_end0
  have hM : Mod (fun k => k = gd) w (w.setCell ⟨gd, 1, none⟩ (.int .i64 (m : Int))) := (Mod.refl (fun k => k = gd) w).setCell (p := ⟨gd, 1, none⟩) (fun _ => rfl) _
  refine ⟨rfl, ⟨heap_setCell_same w gd 1 _ _ _ hb, h.tab.mod hM (fun e => typ_ne hb h.tab.blk (by decide) e.symm) (fun k hk e => ?_)⟩, hM⟩
  obtain ⟨cur, hc⟩ := h.tab.own.row k hk
  exact typ_ne hc hb (by decide) e
def numberL (p : Int) (rest : List UInt8) : Option (Nat × List UInt8) :=
  if (Pint.takeN p (mk rest)).2.2 = 0 then some ((Pint.takeN p (mk rest)).1.toNat, rest.drop (Pint.takeN p (mk rest)).2.1.toNat) else none
theorem rd_upd {w w' : World} {gr gd gt : Nat} {v lv : Value} {mx : Nat} {es : List Ent} {limit : Nat} {broken : Bool} {rest rest' : List UInt8} {out : List Fld} {ch ch' : Nat} (h : IsRd w gr gd gt v lv mx es limit broken rest out ch) (hM : Mod (fun k => k = gr) w w')
    (hb : w'.heap[gr]? = some (.cells #[.pointer (some ⟨gd, 0, none⟩), .string (mk rest'), lv, .int .i64 (ch' : Int)] 63 (0, 0))) : IsRd w' gr gd gt v lv mx es limit broken rest' out ch' := by
  refine ⟨hb, ⟨hM.blk h.dec.blk (typ_ne h.dec.blk h.blk (by decide)), h.dec.tab.mod hM (fun e => typ_ne h.dec.tab.blk h.blk (by decide) e) (fun k hk e => ?_)⟩, hM.own h.out (fun k hk e => ?_)⟩
  · obtain ⟨cur, hc⟩ := h.dec.tab.own.row k hk
    exact typ_ne hc h.blk (by decide) e
  · obtain ⟨cur, hc⟩ := h.out.row k hk
    exact typ_ne hc h.blk (by decide) e
theorem mk_extract (l : List UInt8) (k : Nat) : (mk l).extract k l.length = mk (l.drop k) := by
  have : ((mk l).extract k l.length).data.toList = l.drop k := by
    rw [Lib.extract_data]
    simp only [mk]
    exact List.take_of_length_le (by rw [List.length_drop]; exact Nat.le_refl _)
  rw [← this, mk_eta]
/-- What a broken block panics with. -/
abbrev fault : Ending := .panicked [{ v := .iface 65 (.agg #[]), recovered := false }]
theorem takeN_okp (p : Int) (b : ByteArray) (h1 : 1 ≤ p) (h2 : p ≤ 8) (h : (Pint.takeN p b).2.2 = 0) : 0 ≤ (Pint.takeN p b).1 ∧ (Pint.takeN p b).1 ≤ 2147483647 ∧ 1 ≤ (Pint.takeN p b).2.1 ∧ (Pint.takeN p b).2.1 ≤ b.size := by
  have hf : 1 ≤ Pint.fullN p ∧ Pint.fullN p ≤ 255 := by have := Pint.fullN_cases p h1 h2; omega
  have hr := bt_range b 0
  have hm : 0 ≤ bt b 0 % (Pint.fullN p + 1) := Int.emod_nonneg _ (by omega)
  have hm2 : bt b 0 % (Pint.fullN p + 1) < Pint.fullN p + 1 := Int.emod_lt_of_pos _ (by omega)
  unfold Pint.takeN at h ⊢
  by_cases hs : b.size = 0
  · rw [if_pos hs] at h; simp at h
  · rw [if_neg hs] at h ⊢
    by_cases hl : bt b 0 % (Pint.fullN p + 1) < Pint.fullN p
    · rw [if_pos hl]; simp only; omega
    · rw [if_neg hl] at h ⊢
      exact Text.takeL_ok b 5 0 _ hm (by omega) h
theorem numberL_spec (p : Int) (rest : List UInt8) (h1 : 1 ≤ p) (h2 : p ≤ 8) (n : Nat) (rest' : List UInt8) (h : numberL p rest = some (n, rest')) : n ≤ 2147483647 ∧ rest'.length < rest.length := by
  unfold numberL at h
  split at h
  · rename_i h0
    have := takeN_okp p (mk rest) h1 h2 h0
    rw [mk_size] at this
    cases h
    refine ⟨by omega, ?_⟩
    rw [List.length_drop]; omega
  · cases h
set_option maxRecDepth 100000 in
theorem number_any (p : Int) (gr gd gt : Nat) (v lv : Value) (mx : Nat) (es : List Ent) (limit : Nat) (broken : Bool) (rest : List UInt8) (out : List Fld) (ch : Nat) (w : World) (h : IsRd w gr gd gt v lv mx es limit broken rest out ch) (hp1 : 1 ≤ p) (hp2 : p ≤ 8) (hlen : rest.length ≤ 1073741824) :
    Calls Tryd.prog 40 #[.pointer (some ⟨gr, 0, none⟩), .int .i64 p] w fun e w' =>
      (∃ n rest', numberL p rest = some (n, rest') ∧ e = .returned (.int .i64 (n : Int)) ∧ IsRd w' gr gd gt v lv mx es limit broken rest' out ch ∧ Mod (fun k => k = gr) w w') ∨
      (numberL p rest = none ∧ e = fault ∧ Below w.heap.size w w') := by
  have hb := h.blk
  obtain ⟨c0, c1, c2, c3, f1, f2, f3⟩ := cell4 hb
  go_enter Tryd.func40, Tryd.ntmps40
  go_wp2_with fail
  refine (Pint.take_any p (mk rest) w hp1 hp2 (by rw [mk_size]; exact hlen)).mono ?_
  rintro e w' ⟨m, rfl, rfl⟩
  have HN : Hid (numberL p rest = if (Pint.takeN p (mk rest)).2.2 = 0 then some ((Pint.takeN p (mk rest)).1.toNat, rest.drop (Pint.takeN p (mk rest)).2.1.toNat) else none) := rfl
  by_cases hok : (Pint.takeN p (mk rest)).2.2 = 0
  · have hT := takeN_okp p (mk rest) hp1 hp2 hok
    rw [mk_size] at hT
    unfold Pint.tup
    rw [if_pos hok] at HN
    generalize Pint.takeN p (mk rest) = T at hok HN hT
    obtain ⟨a, b, c⟩ := T
    simp only at hok HN hT
    subst hok
    obtain ⟨t1, t2, t3, t4⟩ := hT
    obtain ⟨k, rfl⟩ := Int.eq_ofNat_of_zero_le (by omega : 0 ≤ b)
    have hsz : (mk rest).size = rest.length := rfl
    rw [← hsz] at t4
    go_wp2
    go_ret
    rw [mk_extract]
    have hM : Mod (fun k => k = gr) w ((w.drewN m).setCell ⟨gr, 1, none⟩ (.string (mk (rest.drop k)))) := ((Mod.refl (fun k => k = gr) w).drewN m).setCell (p := ⟨gr, 1, none⟩) (fun _ => rfl) _
    refine .inl ⟨a.toNat, rest.drop k, HN.out, ?_, rd_upd h hM (heap_setCell_same (w.drewN m) gr 1 _ _ _ hb), hM⟩
    rw [show ((a.toNat : Nat) : Int) = a by omega]
    rfl
  · unfold Pint.tup
    generalize Pint.takeN p (mk rest) = T at hok HN
    obtain ⟨a, b, c⟩ := T
    simp only at hok HN
    have d : ((c : Int) != 0) = true := by simpa using hok
    go_wp2_with fail
    refine ⟨rfl, .inr ⟨by rw [HN.out, if_neg hok], rfl, blw_drewN (Below.refl _ _) m⟩⟩
def textL (rest : List UInt8) : Option (List UInt8 × List UInt8) :=
  if (Text.textTake (mk rest) 65536).2.2 = 0 then some ((Text.textTake (mk rest) 65536).1, rest.drop (Text.textTake (mk rest) 65536).2.1.toNat) else none
theorem textTake_ok (rest : List UInt8) (h : (Text.textTake (mk rest) 65536).2.2 = 0) : (Text.textTake (mk rest) 65536).1.length ≤ 65536 ∧ 1 ≤ (Text.textTake (mk rest) 65536).2.1 ∧ (Text.textTake (mk rest) 65536).2.1 ≤ rest.length := by
  have hT := Text.takeN_ok (mk rest)
  rw [mk_size] at hT
  have hfin : ∀ (l : List UInt8) (n : Int), (Text.fin l n 65536).2.2 = 0 → (Text.fin l n 65536).1.length ≤ 65536 ∧ (Text.fin l n 65536).2.1 = n := by
    intro l n h
    unfold Text.fin at h ⊢
    split at h
    · simp at h
    · rename_i h1
      rw [if_neg h1]
      exact ⟨by simp only; omega, rfl⟩
  unfold Text.textTake at h ⊢
  generalize Pint.takeN 7 (mk rest) = T at h hT ⊢
  obtain ⟨a, b, c⟩ := T
  simp only at h hT ⊢
  by_cases h1 : c = 0
  · have h1' : ¬ c ≠ 0 := fun e => e h1
    rw [if_neg h1'] at h ⊢
    obtain ⟨t1, t2, t3, t4⟩ := hT h1
    by_cases h2 : ((mk rest).size : Int) - b < a
    · rw [if_pos h2] at h; simp at h
    · rw [if_neg h2] at h ⊢
      rw [mk_size] at h2
      by_cases h3 : 128 ≤ bt (mk rest) 0
      · rw [if_pos h3] at h ⊢
        split at h
        · simp at h
        · rename_i l hl
          obtain ⟨e1, e2⟩ := hfin _ _ h
          rw [e2]
          exact ⟨e1, by omega, by omega⟩
      · rw [if_neg h3] at h ⊢
        obtain ⟨e1, e2⟩ := hfin _ _ h
        rw [e2]
        exact ⟨e1, by omega, by omega⟩
  · rw [if_pos h1] at h; simp at h; exact absurd h h1
theorem textL_spec (rest : List UInt8) (s rest' : List UInt8) (h : textL rest = some (s, rest')) : s.length ≤ 65536 ∧ rest'.length < rest.length := by
  unfold textL at h
  split at h
  · rename_i h0
    have := textTake_ok rest h0
    cases h
    refine ⟨by omega, ?_⟩
    rw [List.length_drop]; omega
  · cases h
set_option maxRecDepth 100000 in
theorem text_any (gr gd gt : Nat) (v lv : Value) (mx : Nat) (es : List Ent) (limit : Nat) (broken : Bool) (rest : List UInt8) (out : List Fld) (ch : Nat) (w : World) (hG : G w) (h : IsRd w gr gd gt v lv mx es limit broken rest out ch) (hlen : rest.length ≤ 4194304) :
    Calls Tryd.prog 53 #[.pointer (some ⟨gr, 0, none⟩)] w fun e w' =>
      (∃ s rest', textL rest = some (s, rest') ∧ e = .returned (.string (mk s)) ∧ IsRd w' gr gd gt v lv mx es limit broken rest' out ch ∧ Mod (fun k => k = gr) w w') ∨
      (textL rest = none ∧ e = fault ∧ Below w.heap.size w w') := by
  have hb := h.blk
  obtain ⟨c0, c1, c2, c3, f1, f2, f3⟩ := cell4 hb
  go_enter Tryd.func53, Tryd.ntmps53
  go_wp2_with fail
  refine (Text.take_any (mk rest) 65536 w hG (by rw [mk_size]; exact hlen) (by omega) (by omega)).mono ?_
  rintro e w' ⟨rfl, hbw⟩
  have hb' := (hbw.block _ (lt_of_blk hb)).trans hb
  clear c0 c1 c2 c3 f1 f2 f3
  obtain ⟨c0, c1, c2, c3, f1, f2, f3⟩ := cell4 hb'
  have HN : Hid (textL rest = if (Text.textTake (mk rest) 65536).2.2 = 0 then some ((Text.textTake (mk rest) 65536).1, rest.drop (Text.textTake (mk rest) 65536).2.1.toNat) else none) := rfl
  by_cases hok : (Text.textTake (mk rest) 65536).2.2 = 0
  · have hT := textTake_ok rest hok
    unfold Text.tup3
    rw [if_pos hok] at HN
    generalize Text.textTake (mk rest) 65536 = T at hok HN hT
    obtain ⟨a, b, c⟩ := T
    simp only at hok HN hT
    subst hok
    obtain ⟨_, t3, t4⟩ := hT
    obtain ⟨k, rfl⟩ := Int.eq_ofNat_of_zero_le (by omega : 0 ≤ b)
    have hsz : (mk rest).size = rest.length := rfl
    rw [← hsz] at t4
    go_wp2
    go_ret
    rw [mk_extract]
    have hM : Mod (fun k => k = gr) w (w'.setCell ⟨gr, 1, none⟩ (.string (mk (rest.drop k)))) := ((Mod.refl (fun k => k = gr) w).below hbw).setCell (p := ⟨gr, 1, none⟩) (fun _ => rfl) _
    exact .inl ⟨a, rest.drop k, HN.out, rfl, rd_upd h hM (heap_setCell_same w' gr 1 _ _ _ hb'), hM⟩
  · unfold Text.tup3
    generalize Text.textTake (mk rest) 65536 = T at hok HN
    obtain ⟨a, b, c⟩ := T
    simp only at hok HN
    have d : ((c : Int) != 0) = true := by simpa using hok
    go_wp2_with fail
    refine ⟨rfl, .inr ⟨by rw [HN.out, if_neg hok], rfl, hbw⟩⟩
set_option maxRecDepth 100000 in
theorem entry_any (gr gd gt : Nat) (v lv : Value) (mx : Nat) (es : List Ent) (limit : Nat) (broken : Bool) (rest : List UInt8) (out : List Fld) (ch : Nat) (i : Nat) (w : World) (h : IsRd w gr gd gt v lv mx es limit broken rest out ch) (hi : i ≤ 2147483647) :
    Calls Tryd.prog 52 #[.pointer (some ⟨gr, 0, none⟩), .int .i64 (i : Int)] w fun e w' =>
      (∃ n s, Table.atL es i = some (n, s) ∧ e = .returned (.tuple #[.string n, .string s]) ∧ Below w.heap.size w w') ∨
      (Table.atL es i = none ∧ e = fault ∧ Below w.heap.size w w') := by
  obtain ⟨c0, c1, c2, c3, f1, f2, f3⟩ := cell4 h.blk
  obtain ⟨d0, d1, d2, g0, g1, g2⟩ := cell3 h.dec.blk
  go_enter Tryd.func52, Tryd.ntmps52
  go_wp2_with fail
  refine (Table.at_any i gt v mx es w h.dec.tab (by omega)).mono ?_
  rintro e w' ⟨rfl, hbw⟩
  cases ha : Table.atL es i with
  | none =>
    unfold Table.atV
    go_wp2_with fail
    exact ⟨rfl, .inr ⟨ha, rfl, hbw⟩⟩
  | some x =>
    obtain ⟨n, s⟩ := x
    unfold Table.atV
    go_wp2_with fail
    go_ret2
    exact .inl ⟨n, s, ha, rfl, hbw⟩
end Pack
end Go.Proofs.YtkpdhnkiabgghaaDoor
