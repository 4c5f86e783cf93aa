/- Layer 5, pack: Decode. -/
import Derived.Test.YtkpdhnkiabgghaaDoorDecA
import Derived.Test.YtkpdhnkiabgghaaDoorCatch
namespace Go.Proofs.YtkpdhnkiabgghaaDoor
open Go.RowKit
namespace Pack
/-- A decoder's state. -/
structure DS where
  mx : Nat
  es : List Ent
  limit : Nat
  broken : Bool
abbrev IsD (w : World) (gd gt : Nat) (v : Value) (st : DS) : Prop := IsDec w gd gt v st.mx st.es st.limit st.broken
def DS.new : DS := ⟨4096, [], 4096, false⟩
def DS.set (st : DS) (n : Int) : DS := { st with limit := clampN n 65536 }
def DS.read (st : DS) (block : List UInt8) : RS × Bool := readD st.limit ⟨st.mx, st.es, block, [], 0⟩
def DS.next (st : DS) (block : List UInt8) : DS := if st.broken then st else { st with mx := (st.read block).1.mx, es := (st.read block).1.es, broken := !(st.read block).2 }
def decO (st : DS) (block : List UInt8) (most : Int) : List Fld × Int :=
  if st.broken then ([], 50) else if (st.read block).2 = false then ([], 50) else if most < (sizeL (st.read block).1.out : Nat) then ([], 51) else ((st.read block).1.out, 0)
theorem hmf : ∀ (fn : Fn) (first cap : Array Value) (w : World), (Instr.makeFunc fn first cap).run Tryd.prog w = .ok (.func fn first cap) w := fun _ _ _ _ => rfl
theorem stepD_len (limit : Nat) (s s' : RS) (h : stepD limit s = some s') (hs : tsize s.es ≤ 65536) : s'.rest.length + s'.out.length ≤ s.rest.length + s.out.length := by
  unfold stepD at h
  cases hr : s.rest with
  | nil =>
    rw [hr] at h
    have : numberL (prefixN (firstN [])) [] = none := by
      unfold numberL
      have : (Pint.takeN (prefixN (firstN [])) (mk [])).2.2 = 2 := by unfold Pint.takeN; rfl
      rw [if_neg (by rw [this]; omega)]
    rw [this] at h
    cases h
  | cons c l =>
    have hw5 : firstN s.rest < 5 := by rw [hr]; exact formN_lt _
    obtain ⟨fb, fp, hf, hp1, hp2, hb1, hb2, hand⟩ := forms_ok (firstN s.rest) hw5
    have hpf : prefixN (firstN s.rest) = fp := by unfold prefixN; rw [List.getD_eq_getElem?_getD, hf]; rfl
    rw [hpf] at h
    cases hn : numberL fp s.rest with
    | none => rw [hn] at h; cases h
    | some x =>
      obtain ⟨n, r⟩ := x
      obtain ⟨h1, h2⟩ := numberL_spec fp s.rest hp1 hp2 n r hn
      rw [hn] at h
      simp only [Option.bind_some] at h
      rw [← hr]
      split at h
      · cases ha : Table.atL s.es n with
        | none => rw [ha] at h; cases h
        | some e => rw [ha] at h; cases h; simp only [List.length_append, List.length_cons, List.length_nil]; omega
      · split at h
        · split at h
          · cases h; simp only; omega
          · cases h
        · cases ha : litL s.es r n with
          | none => rw [ha] at h; cases h
          | some y =>
            obtain ⟨a, b, r3⟩ := y
            have := litL_spec s.es r n a b r3 ha hs
            rw [ha] at h; cases h; simp only [List.length_append, List.length_cons, List.length_nil]; omega
theorem stepD_ts (limit : Nat) (s s' : RS) (h : stepD limit s = some s') (hs : tsize s.es ≤ 65536) (hm : s.mx ≤ 65536) (hl : limit ≤ 65536) : tsize s'.es ≤ 65536 ∧ s'.mx ≤ 65536 := by
  have hadd : ∀ e, tsize (Table.addL s.mx s.es e) ≤ 65536 := fun e => by
    unfold Table.addL
    have hst := Table.shrinkL_tsize ((s.mx : Int) - (esz e : Nat)) s.es
    split
    · rename_i h1
      rw [tsize_append]; simp only [tsize]
      rcases hst.2 with h5 | h5
      · rw [h5]; simp only [tsize]; omega
      · omega
    · omega
  unfold stepD at h
  generalize numberL (prefixN (firstN s.rest)) s.rest = o at h
  cases o with
  | none => cases h
  | some x =>
    simp only [Option.bind_some] at h
    split at h
    · cases ha : Table.atL s.es x.1 with
      | none => rw [ha] at h; cases h
      | some e => rw [ha] at h; cases h; exact ⟨hs, hm⟩
    · split at h
      · split at h
        · rename_i h3
          cases h; exact ⟨by have := (Table.shrinkL_tsize (x.1 : Int) s.es).1; simp only; omega, by simp only; omega⟩
        · cases h
      · cases ha : litL s.es x.2 x.1 with
        | none => rw [ha] at h; cases h
        | some y =>
          rw [ha] at h; cases h
          refine ⟨?_, hm⟩
          simp only [litT]
          split
          · exact hadd _
          · exact hs
theorem allD_len (limit : Nat) (hl : limit ≤ 65536) : ∀ (k : Nat) (s : RS), tsize s.es ≤ 65536 → s.mx ≤ 65536 → (allD limit k s).1.rest.length + (allD limit k s).1.out.length ≤ s.rest.length + s.out.length := by
  intro k
  induction k with
  | zero => intro s _ _; exact Nat.le_refl _
  | succ k ih =>
    intro s hs hm
    rw [allD]
    split
    · exact Nat.le_refl _
    · split
      · exact Nat.le_refl _
      · rename_i s' h
        have h1 := stepD_len limit s s' h hs
        obtain ⟨h2, h3⟩ := stepD_ts limit s s' h hs hm hl
        have := ih s' h2 h3
        omega
theorem readD_len (limit : Nat) (hl : limit ≤ 65536) (s : RS) (hs : tsize s.es ≤ 65536) (hm : s.mx ≤ 65536) : (readD limit s).1.out.length ≤ s.rest.length + s.out.length := by
  unfold readD
  split
  · simp only; omega
  · have := allD_len limit hl s.rest.length s hs hm; omega
theorem dec_mod {w w' : World} {gd gt : Nat} {v : Value} {mx : Nat} {es : List Ent} {limit : Nat} {broken : Bool} {S : Nat → Prop} (h : IsDec w gd gt v mx es limit broken) (hm : Mod S w w') (h1 : ¬ S gd) (h2 : ¬ S gt) (h3 : ∀ k, v.ownBlock = some k → ¬ S k) : IsDec w' gd gt v mx es limit broken :=
  ⟨hm.blk h.blk h1, h.tab.mod hm h2 h3⟩
theorem old3 {w : World} {g o : Nat} {u : Value} (h : w.cell? ⟨g, o, none⟩ = some u) : ∀ o1 o2 o3, (((w.alloc o1).alloc o2).alloc o3).cell? ⟨g, o, none⟩ = some u := fun o1 o2 o3 => by
  have hl : g < w.heap.size := World.block_lt_of_cell? w ⟨g, o, none⟩ h
  refine (World.cell?_of_block (a := ⟨g, o, none⟩) (w := w) ?_).trans h
  exact (heap_alloc_old _ _ (by simp <;> omega)).trans ((heap_alloc_old _ _ (by simp <;> omega)).trans (heap_alloc_old _ _ hl))
theorem res_decode (tm : Array Value) (a1 a2 : Addr) (A : Option Addr) (n c : Nat) (m : Int) (W : World) (h6 : tm[6]?.getD undef = .pointer (some a1)) (h7 : tm[7]?.getD undef = .pointer (some a2)) (c1 : W.cell? a1 = some (.slice A n c)) (c2 : W.cell? a2 = some (.int .i64 m)) :
    (results Tryd.f11 tm).run Tryd.prog W = .ok (.tuple #[.slice A n c, .int .i64 m]) W := by
  simp [results, Tryd.results11, go_sem, h6, h7, c1, c2]
theorem set2_cells {w6 : World} {p q : Nat} {a b x y : Value} {t1 t2 : TypeId} (g1 : w6.heap[p]? = some (.cells #[a] t1 (0, 0))) (g2 : w6.heap[q]? = some (.cells #[b] t2 (0, 0))) (hne : p ≠ q) :
    ((w6.setCell ⟨p, 0, none⟩ x).setCell ⟨q, 0, none⟩ y).cell? ⟨p, 0, none⟩ = some x ∧ ((w6.setCell ⟨p, 0, none⟩ x).setCell ⟨q, 0, none⟩ y).cell? ⟨q, 0, none⟩ = some y := by
  have h1 := heap_setCell_same w6 p 0 _ _ x g1
  have h2 := (heap_setCell_other w6 ⟨p, 0, none⟩ q x (fun e => hne e.symm)).trans g2
  have h3 := heap_setCell_same _ q 0 _ _ y h2
  have h4 := (heap_setCell_other (w6.setCell ⟨p, 0, none⟩ x) ⟨q, 0, none⟩ p y hne).trans h1
  exact ⟨(cell_of_row _ p 0 _ _ _ h4).trans rfl, (cell_of_row _ q 0 _ _ _ h3).trans rfl⟩
set_option maxRecDepth 100000 in
set_option maxHeartbeats 1000000 in
theorem decode_broken (gd gt : Nat) (v : Value) (st : DS) (block : ByteArray) (most : Int) (w : World) (h : IsD w gd gt v st) (hb : st.broken = true) :
    Calls Tryd.prog 11 #[.pointer (some ⟨gd, 0, none⟩), .string block, .int .i64 most] w fun e w' => e = .returned (.tuple #[.slice none 0 0, .int .i64 50]) ∧ Below w.heap.size w w' := by
  have hmf := hmf
  have hbk := h.blk
  rw [hb] at hbk
  obtain ⟨c0, c1, c2, f0, f1, f2⟩ := cell3 hbk
  have k2 := old3 c2
  clear hbk c0 c1 c2 f0 f1 f2
  go_enter_defers Tryd.func11, Tryd.ntmps11
  go_wp2
  have hB : Below w.heap.size w (((w.alloc (.cells #[.pointer (some ⟨gd, 0, none⟩)] 26)).alloc (.cells #[.slice none 0 0] 29)).alloc (.cells #[.int .i64 50] 33)) :=
    (((Below.refl _ _).alloc (Nat.le_refl _) _).alloc (by simp) _).alloc (by simp <;> omega) _
  simp [bodyPostD, Leaves, results, Tryd.results11, go_sem]
  exact hB
set_option maxRecDepth 100000 in
set_option maxHeartbeats 1000000 in
theorem decode_any (gd gt : Nat) (v : Value) (st : DS) (block : List UInt8) (most : Int) (w : World) (hG : G w) (h : IsD w gd gt v st) (hb : st.broken = false) (hgt : 10 ≤ gt) (hv : ∀ k, v.ownBlock = some k → 10 ≤ k) (hl : st.limit ≤ 65536) (hlen : block.length ≤ 4194304) :
    Calls Tryd.prog 11 #[.pointer (some ⟨gd, 0, none⟩), .string (mk block), .int .i64 most] w fun e w' => ∃ lv v', e = .returned (.tuple #[lv, .int .i64 (decO st block most).2]) ∧
      Own w' 40 3 lv (decO st block most).1.length (fldC (decO st block most).1) ∧ IsD w' gd gt v' (st.next block) ∧
      Mod (fun k => k = gd ∨ k = gt ∨ v.ownBlock = some k) w w' ∧ (∀ k, v'.ownBlock = some k → v.ownBlock = some k ∨ w.heap.size ≤ k) ∧ (∀ k, lv.ownBlock = some k → w.heap.size ≤ k) := by
  have hmf := hmf
  obtain ⟨c0, c1, c2, f0, f1, f2⟩ := cell3 h.blk
  rw [hb] at c2
  have k2 := old3 c2
  have hgl := lt_of_blk h.blk
  have hgs := hG.size
  clear c0 c1 c2 f0 f1 f2
  go_enter_defers Tryd.func11, Tryd.ntmps11
  go_wp2_with fail
  obtain ⟨W, hW⟩ : ∃ W, W = (((w.alloc (.cells #[.pointer (some ⟨gd, 0, none⟩)] 26)).alloc (.cells #[.slice none 0 0] 29)).alloc (.cells #[.int .i64 0] 33)).alloc (.cells #[.pointer (some ⟨gd, 0, none⟩), .string (mk block), .slice none 0 0, .int .i64 0] 63) := ⟨_, rfl⟩
  rw [← hW]
  obtain ⟨H, hH⟩ : ∃ H, H = w.heap.size := ⟨_, rfl⟩
  have hbW : Below w.heap.size w W := by rw [hW]; exact ((((Below.refl _ _).alloc (Nat.le_refl _) _).alloc (by simp) _).alloc (by simp <;> omega) _).alloc (by simp <;> omega) _
  have b0 : W.heap[H]? = some (.cells #[.pointer (some ⟨gd, 0, none⟩)] 26 (0, 0)) := by
    rw [hW, hH]; exact (heap_alloc_old _ _ (by simp <;> omega)).trans ((heap_alloc_old _ _ (by simp <;> omega)).trans ((heap_alloc_old _ _ (by simp)).trans (heap_alloc_new w _)))
  have b1 : W.heap[H + 1]? = some (.cells #[.slice none 0 0] 29 (0, 0)) := by
    rw [hW, hH]; exact (heap_alloc_old _ _ (by simp <;> omega)).trans ((heap_alloc_old _ _ (by simp)).trans (by have := heap_alloc_new (w.alloc (.cells #[.pointer (some ⟨gd, 0, none⟩)] 26)) (.cells #[.slice none 0 0] 29); simpa using this))
  have b2 : W.heap[H + 1 + 1]? = some (.cells #[.int .i64 0] 33 (0, 0)) := by
    rw [hW, hH]; exact (heap_alloc_old _ _ (by simp)).trans (by have := heap_alloc_new ((w.alloc (.cells #[.pointer (some ⟨gd, 0, none⟩)] 26)).alloc (.cells #[.slice none 0 0] 29)) (.cells #[.int .i64 0] 33); simpa using this)
  have b3 : W.heap[H + 1 + 1 + 1]? = some (.cells #[.pointer (some ⟨gd, 0, none⟩), .string (mk block), .slice none 0 0, .int .i64 0] 63 (0, 0)) := by
    rw [hW, hH]
    have := heap_alloc_new (((w.alloc (.cells #[.pointer (some ⟨gd, 0, none⟩)] 26)).alloc (.cells #[.slice none 0 0] 29)).alloc (.cells #[.int .i64 0] 33)) (.cells #[.pointer (some ⟨gd, 0, none⟩), .string (mk block), .slice none 0 0, .int .i64 0] 63)
    simpa using this
  rw [← hH]
  have hs3 := lt_of_blk b3
  have hIsD := dec_mod (S := fun _ => False) h (Mod.ofBelow hbW) (fun h => h) (fun h => h) (fun _ _ h => h)
  rw [hb] at hIsD
  have hR : IsR W (H + 1 + 1 + 1) gd gt v (.slice none 0 0) st.limit ⟨st.mx, st.es, block, [], 0⟩ := ⟨b3, hIsD, Own.nil _ _ _⟩
  have hgtl : gt < H := by rw [hH]; exact lt_of_blk h.tab.blk
  have hvl : ∀ k, v.ownBlock = some k → k < H := fun k hk => by rw [hH]; exact h.tab.own.lt k hk
  have hgdl : gd < H := by rw [hH]; exact hgl
  have hGW := hG.below hbW hG.size
  have hmx := h.tab.mle
  have hts := h.tab.le
  have HW : Hid (Below H w W) := by rw [hH]; exact hbW
  have HN : Hid (st.next block = { st with mx := (st.read block).1.mx, es := (st.read block).1.es, broken := !(st.read block).2 }) := by show _ = _; unfold DS.next; rw [hb]; rfl
  have HO : Hid (decO st block most = if (st.read block).2 = false then ([], 50) else if most < (sizeL (st.read block).1.out : Nat) then ([], 51) else ((st.read block).1.out, 0)) := by show _ = _; unfold decO; rw [hb]; rfl
  have hlenO : (readD st.limit ⟨st.mx, st.es, block, [], 0⟩).1.out.length ≤ 4194304 := by
    have := readD_len st.limit hl ⟨st.mx, st.es, block, [], 0⟩ hts hmx
    simp at this
    omega
  have hH10 : 10 ≤ H + 1 + 1 + 1 := by omega
  have HH := Lib.hid hH
  have Hh := Lib.hid h
  have HGl : gd ≠ gt := typ_ne h.blk h.tab.blk (by decide)
  have HV : ∀ k, v.ownBlock = some k → k ≠ gd := fun k hk => by
    obtain ⟨cur, hc⟩ := h.tab.own.row k hk
    exact typ_ne hc h.blk (by decide)
  clear hW hbW hH h hIsD k2 hgl hG hb hgs
  refine (all_any (H + 1 + 1 + 1) (H + 1 + 1 + 1) gd gt v (.slice none 0 0) st.limit ⟨st.mx, st.es, block, [], 0⟩ W hGW hR (Nat.le_refl _) (fun k hk => by cases hk) hH10 hgt hv hl (by simp <;> omega) (by simp <;> omega) (by simp)).mono ?_
  rintro e w5 ⟨v', lv', (⟨hok, rfl, hR5, hsh⟩ | ⟨hno, rfl, hD5⟩), hM5, hv5, hlv5⟩
  · have e0 := hM5.blk b0 (by rintro (h | h | h); omega; omega; have := hvl _ h; omega)
    have e1 := hM5.blk b1 (by rintro (h | h | h); omega; omega; have := hvl _ h; omega)
    have e2 := hM5.blk b2 (by rintro (h | h | h); omega; omega; have := hvl _ h; omega)
    have r2 := (cell4 hR5.blk).2.2.1
    have hMw : Mod (fun k => k = gd ∨ k = gt ∨ v.ownBlock = some k) w w5 := (Mod.ofBelow (by have := HW.out; rw [HH.out] at this; exact this)).trans hM5 (fun k hk h => by
      have := HH.out
      rcases h with h | h | h
      · omega
      · exact .inr (.inl h)
      · exact .inr (.inr h))
    have HRD : Hid (st.read block = readD st.limit ⟨st.mx, st.es, block, [], 0⟩) := rfl
    generalize readD st.limit ⟨st.mx, st.es, block, [], 0⟩ = T at hok hR5 hsh hlenO HRD
    obtain ⟨t, tb⟩ := T
    simp only at hok hR5 hsh hlenO
    clear b0 b1 b2 b3 hR hM5 hGW
    obtain ⟨A, cap, rfl, hcp1, hcp2⟩ := hR5.out.form'
    go_wp2_with fail
    refine (size_any (.slice A t.out.length cap) t.out w5 hR5.out hlenO hsh).mono ?_
    rintro e w6 ⟨rfl, hb6⟩
    have hR6 : IsR w6 (H + 1 + 1 + 1) gd gt v' (.slice A t.out.length cap) st.limit t := rd_mod (S := fun _ => False) hR5 (Mod.ofBelow hb6) (fun h => h) (fun h => h) (fun h => h) (fun _ _ h => h) (fun _ _ h => h)
    have g0 := (hb6.block _ (lt_of_blk e0)).trans e0
    have g1 := (hb6.block _ (lt_of_blk e1)).trans e1
    have g2 := (hb6.block _ (lt_of_blk e2)).trans e2
    have hM6 := hMw.below hb6
    have x1 : w6.cell? ⟨H + 1, 0, none⟩ = some (.slice none 0 0) := (cell_of_row w6 (H + 1) 0 _ _ _ g1).trans rfl
    have x2 : w6.cell? ⟨H + 1 + 1, 0, none⟩ = some (.int .i64 0) := (cell_of_row w6 (H + 1 + 1) 0 _ _ _ g2).trans rfl
    have y1 := frozen_of_row w6 (H + 1) 0 _ _ g1
    have y2 := frozen_of_row w6 (H + 1 + 1) 0 _ _ g2
    have x3 := (cell4 hR6.blk).2.2.1
    clear r2 e0 e1 e2 hb6 hMw hR5
    by_cases hmo : most < (sizeL t.out : Nat)
    · have d1 : decide (most < ((sizeL t.out : Nat) : Int)) = true := by simpa using hmo
      go_wp2
      refine leaves_cons (f := 25) (args := #[.pointer (some ⟨H, 0, none⟩), .pointer (some ⟨H + 1, 0, none⟩), .pointer (some ⟨H + 1 + 1, 0, none⟩)]) (by simp) (by simp [go_sem]) ?_
      refine (catch_idle _ _ _ _).mono ?_
      rintro e u' w'' ⟨rfl, rfl, rfl⟩
      have hD6 := hR6.dec
      have HO2 : decO st block most = ([], 51) := by rw [HO.out, HRD.out, if_neg (by rw [hok]; simp), if_pos hmo]
      have HN2 : st.next block = { st with mx := t.mx, es := t.es, broken := false } := by rw [HN.out, HRD.out, hok]; rfl
      have hM7 : Mod (fun k => k = H + 1 ∨ k = H + 1 + 1) w6 ((w6.setCell ⟨H + 1, 0, none⟩ (.slice none 0 0)).setCell ⟨H + 1 + 1, 0, none⟩ (.int .i64 51)) :=
        ((Mod.refl (fun k => k = H + 1 ∨ k = H + 1 + 1) w6).setCell (p := ⟨H + 1, 0, none⟩) (fun _ => .inl rfl) _).setCell (p := ⟨H + 1 + 1, 0, none⟩) (fun _ => .inr rfl) _
      have hfin : (∃ lv v', (.returned (.tuple #[.slice none 0 0, .int .i64 51]) : Ending) = .returned (.tuple #[lv, .int .i64 (decO st block most).2]) ∧
          Own ((w6.setCell ⟨H + 1, 0, none⟩ (.slice none 0 0)).setCell ⟨H + 1 + 1, 0, none⟩ (.int .i64 51)) 40 3 lv (decO st block most).1.length (fldC (decO st block most).1) ∧ IsD ((w6.setCell ⟨H + 1, 0, none⟩ (.slice none 0 0)).setCell ⟨H + 1 + 1, 0, none⟩ (.int .i64 51)) gd gt v' (st.next block) ∧
          Mod (fun k => k = gd ∨ k = gt ∨ v.ownBlock = some k) w ((w6.setCell ⟨H + 1, 0, none⟩ (.slice none 0 0)).setCell ⟨H + 1 + 1, 0, none⟩ (.int .i64 51)) ∧ (∀ k, v'.ownBlock = some k → v.ownBlock = some k ∨ w.heap.size ≤ k) ∧ (∀ k, lv.ownBlock = some k → w.heap.size ≤ k)) := by
        rw [HO2, HN2]
        refine ⟨.slice none 0 0, v', rfl, Own.nil _ _ _, dec_mod hD6 hM7 (by omega) (by omega) (fun k hk => ?_), hM6.trans hM7 (fun k hk h => by have := HH.out; omega), fun k hk => ?_, fun k hk => by cases hk⟩
        · rcases hv5 k hk with h | h
          · have := hvl k h; omega
          · omega
        · rcases hv5 k hk with h | h
          · exact .inl h
          · have := HH.out; exact .inr (by omega)
      obtain ⟨k1, k2⟩ := set2_cells (x := .slice none 0 0) (y := .int .i64 51) g1 g2 (by omega)
      exact ⟨_, res_decode _ ⟨H + 1, 0, none⟩ ⟨H + 1 + 1, 0, none⟩ none 0 0 51 _ rfl rfl k1 k2, hfin⟩
    · have d1 : decide (most < ((sizeL t.out : Nat) : Int)) = false := by simpa using hmo
      go_wp2
      refine leaves_cons (f := 25) (args := #[.pointer (some ⟨H, 0, none⟩), .pointer (some ⟨H + 1, 0, none⟩), .pointer (some ⟨H + 1 + 1, 0, none⟩)]) (by simp) (by simp [go_sem]) ?_
      refine (catch_idle _ _ _ _).mono ?_
      rintro e u' w'' ⟨rfl, rfl, rfl⟩
      have hD6 := hR6.dec
      have HO2 : decO st block most = (t.out, 0) := by rw [HO.out, HRD.out, if_neg (by rw [hok]; simp), if_neg (show ¬ most < ((sizeL t.out : Nat) : Int) by omega)]
      have HN2 : st.next block = { st with mx := t.mx, es := t.es, broken := false } := by rw [HN.out, HRD.out, hok]; rfl
      have hM7 : Mod (fun k => k = H + 1 ∨ k = H + 1 + 1) w6 ((w6.setCell ⟨H + 1, 0, none⟩ (.slice A t.out.length cap)).setCell ⟨H + 1 + 1, 0, none⟩ (.int .i64 0)) :=
        ((Mod.refl (fun k => k = H + 1 ∨ k = H + 1 + 1) w6).setCell (p := ⟨H + 1, 0, none⟩) (fun _ => .inl rfl) _).setCell (p := ⟨H + 1 + 1, 0, none⟩) (fun _ => .inr rfl) _
      obtain ⟨k1, k2⟩ := set2_cells (x := .slice A t.out.length cap) (y := .int .i64 0) g1 g2 (by omega)
      refine ⟨_, res_decode _ ⟨H + 1, 0, none⟩ ⟨H + 1 + 1, 0, none⟩ A t.out.length cap 0 _ rfl rfl k1 k2, ?_⟩
      rw [HO2, HN2]
      refine ⟨.slice A t.out.length cap, v', rfl, hM7.own hR6.out (fun k hk => by have := hlv5 k hk; omega), dec_mod hD6 hM7 (by omega) (by omega) (fun k hk => ?_), hM6.trans hM7 (fun k hk h => by have := HH.out; omega), fun k hk => ?_, fun k hk => by have := hlv5 k hk; have := HH.out; omega⟩
      · rcases hv5 k hk with h | h
        · have := hvl k h; omega
        · omega
      · rcases hv5 k hk with h | h
        · exact .inl h
        · have := HH.out; exact .inr (by omega)
  · have e0 := hM5.blk b0 (by rintro (h | h | h); omega; omega; have := hvl _ h; omega)
    have e1 := hM5.blk b1 (by rintro (h | h | h); omega; omega; have := hvl _ h; omega)
    have e2 := hM5.blk b2 (by rintro (h | h | h); omega; omega; have := hvl _ h; omega)
    have hMw : Mod (fun k => k = gd ∨ k = gt ∨ v.ownBlock = some k) w w5 := (Mod.ofBelow (by have := HW.out; rw [HH.out] at this; exact this)).trans hM5 (fun k hk h => by
      have := HH.out
      rcases h with h | h | h
      · omega
      · exact .inr (.inl h)
      · exact .inr (.inr h))
    have HRD : Hid (st.read block = readD st.limit ⟨st.mx, st.es, block, [], 0⟩) := rfl
    generalize readD st.limit ⟨st.mx, st.es, block, [], 0⟩ = T at hno hD5 hlenO HRD
    obtain ⟨t, tb⟩ := T
    simp only at hno hD5 hlenO
    clear b0 b1 b2 b3 hR hM5 hGW
    go_wp2_with fail
    refine leaves_cons (f := 25) (args := #[.pointer (some ⟨H, 0, none⟩), .pointer (some ⟨H + 1, 0, none⟩), .pointer (some ⟨H + 1 + 1, 0, none⟩)]) (by simp) (by simp [go_sem]) ?_
    refine (catch_fault gd H (H + 1) (H + 1 + 1) _ _ _ _ _ _ _ w5 ((cell_of_row w5 H 0 _ _ _ e0).trans rfl) hD5.blk e1 e2 (by omega) (by omega) (by omega) []).mono ?_
    rintro e u' w'' ⟨rfl, rfl, rfl⟩
    have HO2 : decO st block most = ([], 50) := by rw [HO.out, HRD.out, if_pos hno]
    have HN2 : st.next block = { st with mx := t.mx, es := t.es, broken := true } := by rw [HN.out, HRD.out, hno]; rfl
    have hgd5 := heap_setCell_same w5 gd 2 _ _ (.bool true) hD5.blk
    have m1 : Mod (fun k => k = gd) w5 (w5.setCell ⟨gd, 2, none⟩ (.bool true)) := (Mod.refl (fun k => k = gd) w5).setCell (p := ⟨gd, 2, none⟩) (fun _ => rfl) _
    have hT1 := hD5.tab.mod m1 (fun e => HGl e.symm) (fun k hk => by
      rcases hv5 k hk with h | h
      · exact HV k h
      · omega)
    have hD1 : IsDec (w5.setCell ⟨gd, 2, none⟩ (.bool true)) gd gt v' t.mx t.es st.limit true := ⟨hgd5, hT1⟩
    have f1 := m1.blk e1 (by omega)
    have f2 := m1.blk e2 (by omega)
    obtain ⟨k1, k2⟩ := set2_cells (x := .slice none 0 0) (y := .int .i64 50) f1 f2 (by omega)
    have hM7 : Mod (fun k => k = H + 1 ∨ k = H + 1 + 1) (w5.setCell ⟨gd, 2, none⟩ (.bool true)) ((((w5.setCell ⟨gd, 2, none⟩ (.bool true)).setCell ⟨H + 1, 0, none⟩ (.slice none 0 0)).setCell ⟨H + 1 + 1, 0, none⟩ (.int .i64 50)).alloc (.cells #[] 65)) :=
      (((Mod.refl (fun k => k = H + 1 ∨ k = H + 1 + 1) _).setCell (p := ⟨H + 1, 0, none⟩) (fun _ => .inl rfl) _).setCell (p := ⟨H + 1 + 1, 0, none⟩) (fun _ => .inr rfl) _).alloc _
    refine ⟨_, res_decode _ ⟨H + 1, 0, none⟩ ⟨H + 1 + 1, 0, none⟩ none 0 0 50 _ rfl rfl ((World.cell?_alloc_lt _ _ _ (World.block_lt_of_cell? _ _ k1)).trans k1) ((World.cell?_alloc_lt _ _ _ (World.block_lt_of_cell? _ _ k2)).trans k2), ?_⟩
    rw [HO2, HN2]
    refine ⟨.slice none 0 0, v', rfl, Own.nil _ _ _, dec_mod hD1 hM7 (by omega) (by omega) (fun k hk => ?_), (hMw.trans m1 (fun k hk h => .inl h)).trans hM7 (fun k hk h => by have := HH.out; omega), fun k hk => ?_, fun k hk => by cases hk⟩
    · rcases hv5 k hk with h | h
      · have := hvl k h; omega
      · omega
    · rcases hv5 k hk with h | h
      · exact .inl h
      · have := HH.out; exact .inr (by omega)
end Pack
end Go.Proofs.YtkpdhnkiabgghaaDoor
