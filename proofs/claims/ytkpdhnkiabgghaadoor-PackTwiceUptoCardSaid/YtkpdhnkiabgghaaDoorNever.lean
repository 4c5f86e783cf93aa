/- Layer 5, the laws: PackNever's walk. -/
import Derived.Test.YtkpdhnkiabgghaaDoorFirst
namespace Go.Proofs.YtkpdhnkiabgghaaDoor
open Go.RowKit
namespace Table
theorem findGo_mem (n s : ByteArray) : ∀ (l : List Ent) (k nm : Nat), (n, s) ∈ l → (findGo n s (idx k l) nm).2 = true := by
  intro l
  induction l with
  | nil => intro k nm h; simp at h
  | cons e l ih =>
    intro k nm h
    obtain ⟨a, b⟩ := e
    simp only [idx, findGo]
    have hl : ¬ (a = n ∧ b = s) → (n, s) ∈ l := fun hne => by
      simp only [List.mem_cons, Prod.mk.injEq] at h
      rcases h with ⟨h1, h2⟩ | h
      · exact absurd ⟨h1.symm, h2.symm⟩ hne
      · exact h
    by_cases ha : a = n
    · rw [if_pos ha]
      by_cases hb : b = s
      · rw [if_pos hb]
      · rw [if_neg hb]
        split
        · exact ih _ _ (hl fun h => hb h.2)
        · exact ih _ _ (hl fun h => hb h.2)
    · rw [if_neg ha]; exact ih _ _ (hl fun h => ha h.1)
theorem findL_mem (es : List Ent) (n s : ByteArray) (h : (n, s) ∈ es) : (findL es n s).2 = true := findGo_mem n s _ 1 0 (by simp [h])
theorem findL_fixed (es : List Ent) (n s : ByteArray) (h : (findL [] n s).2 = true) : (findL es n s).2 = true := by
  obtain ⟨j, hj, _⟩ := (findGo_spec n s (fixedL ++ ([] : List Ent).reverse) 1 0 (by omega)).1 (findL [] n s).1 (by rw [← h]; rfl)
  have := List.mem_of_getElem? hj
  exact findGo_mem n s _ 1 0 (by simp at this; simp [this])
end Table
namespace Pack
theorem shrinkL_nil (m : Int) : Table.shrinkL m [] = [] := rfl
theorem preT_nil (st : ES) (h : st.es = []) : (preT st).2 = [] := by
  unfold preT
  rw [h]
  repeat' split
  all_goals rfl
theorem never_T (mx : Nat) (es : List Ent) (f : Fld) (h : f.never = true) : fieldT mx es f = es := by
  unfold fieldT
  rw [if_pos (.inr (by unfold whichL; rw [h]; simp))]
theorem twice_T (mx : Nat) (f : Fld) (h : f.never = false) : (fieldsT mx [] [f, f]).length ≤ 1 := by
  simp only [fieldsT]
  by_cases hw : (Table.findL [] f.n f.v).2 = true
  · have : fieldT mx [] f = [] := by unfold fieldT; rw [if_pos (.inl ⟨h, hw⟩)]
    rw [this, this]; simp
  · by_cases hm : mx < fsz f
    · have hw4 : whichL mx f = 4 := by unfold whichL; rw [h]; simp [hm]
      have : fieldT mx [] f = [] := by unfold fieldT; rw [if_pos (.inr (by rw [hw4]; omega))]
      rw [this, this]; simp
    · have hw1 : whichL mx f = 1 := by unfold whichL; rw [h]; simp [hm]
      have he : esz (f.n, f.v) ≤ mx := by unfold esz; unfold fsz at hm; simp only; omega
      have h1 : fieldT mx [] f = [(f.n, f.v)] := by
        unfold fieldT
        rw [if_neg (by rintro (h | h); exact hw h.2; exact h hw1)]
        unfold Table.addL
        rw [if_pos he]; rfl
      have h2 : fieldT mx [(f.n, f.v)] f = [(f.n, f.v)] := by
        unfold fieldT
        rw [if_pos (.inl ⟨h, Table.findL_mem _ _ _ (by simp)⟩)]
      rw [h1, h2]; simp
theorem encL_length (st : ES) (fs : List Fld) (h : ∀ f ∈ fs, short f) : (encL st fs).length ≤ 14 + fs.length * 131093 := by
  unfold encL
  rw [List.length_append]
  have := preL_length st
  have := fieldsL_length (preT st).1 fs (preT st).2 h
  omega
/-- What an encoder and a decoder that are in step tell of a list. -/
theorem both_ok (se : ES) (sd : DS) (fs : List Fld) (h : InStep se sd.mx sd.es sd.limit) (hb : sd.broken = false) (hs : ∀ f ∈ fs, short f) (hm : ((sizeL fs : Nat) : Int) ≤ 4611686018427387904) :
    decO sd (encL se fs) 4611686018427387904 = (fs, 0) ∧ (sd.next (encL se fs)).broken = false ∧ (sd.next (encL se fs)).limit = sd.limit ∧ (sd.next (encL se fs)).mx = (se.next fs).mx ∧ (sd.next (encL se fs)).es = (se.next fs).es ∧ InStep (se.next fs) (sd.next (encL se fs)).mx (sd.next (encL se fs)).es (sd.next (encL se fs)).limit := by
  obtain ⟨ch, hr⟩ := read_enc se sd.mx sd.es sd.limit fs h hs
  have hr2 : sd.read (encL se fs) = (⟨(preT se).1, fieldsT (preT se).1 (preT se).2 fs, [], fs, ch⟩, true) := hr
  have hn : sd.next (encL se fs) = { sd with mx := (preT se).1, es := fieldsT (preT se).1 (preT se).2 fs, broken := false } := by
    unfold DS.next; rw [hb, hr2]; rfl
  rw [hn]
  refine ⟨?_, rfl, rfl, rfl, rfl, h.next fs⟩
  unfold decO
  rw [hb, hr2, if_neg (by simp), if_neg (by simp), if_neg (by simp only; omega)]
end Pack
namespace Law05
open Pack
set_option maxRecDepth 100000 in
set_option maxHeartbeats 2000000 in
theorem never_any (name value : ByteArray) (n : Int) (w : World) (hG : G w) :
    Calls Tryd.prog 4 #[.string name, .string value, .int .i64 n] w fun e w' => e = .returned (.bool true) ∧ Below w.heap.size w w' := by
  have hgs := hG.size
  go_enter Tryd.func4, Tryd.ntmps4
  go_wp2_with fail
  refine (first_any w hG).mono ?_
  rintro e w0 ⟨rfl, hb0⟩
  go_wp2_with fail
  refine (newE w0).mono ?_
  rintro e w1 ⟨ge, Fe, rfl, hE, hb1, hFe⟩
  go_wp2_with fail
  refine (newD w1).mono ?_
  rintro e w2 ⟨gd, Fd, rfl, hD, hb2, hFd⟩
  have hs0 := hb0.size
  have hT : Two w w2 ge gd Fe Fd ES.new DS.new := ⟨hE.below hb2, hD, fun k h1 h2 => by have := hE.lt k h1; have := hFd k h2; omega, fun k h => by have := hFe k h; omega, fun k h => by have := hFd k h; have := hb1.size; omega, hb0.trans ((hb1.trans (hb2.mono hb1.size)).mono hb0.size)⟩
  clear hE hD hb1 hb2 hFe hFd hb0 hs0
  go_wp2_with fail
  refine (setE ge Fe ES.new n w2 hT.e).mono ?_
  rintro e w3 ⟨rfl, hE3, hM3⟩
  have hT3 := hT.enc hE3 hM3 (fun _ h => .inl h)
  clear hE3 hM3 hT
  go_wp2_with fail
  refine (setD gd Fd DS.new n w3 hT3.d).mono ?_
  rintro e w4 ⟨rfl, hD4, hM4⟩
  have hT4 := hT3.dec hD4 hM4 (fun _ h => .inl h)
  clear hD4 hM4 hT3
  go_wp2_with fail
  obtain ⟨W, hW⟩ : ∃ W, W = w4.alloc (.cells #[.string name, .string value, .bool true] 40) := ⟨_, rfl⟩
  obtain ⟨B, hB⟩ : ∃ B, B = w4.heap.size := ⟨_, rfl⟩
  have hBW : B + 1 = W.heap.size := by rw [hW, hB]; simp
  have hwB : w.heap.size ≤ B := by rw [hB]; exact hT4.bel.size
  have hbl : W.heap[B]? = some (.cells #[.string name, .string value, .bool true] 40 (0, 0)) := by rw [hW, hB]; exact heap_alloc_new _ _
  have hTW : Two w W ge gd Fe Fd (ES.new.set n) (DS.new.set n) := by rw [hW]; exact hT4.below ((Below.refl _ _).alloc (Nat.le_refl _) _)
  have hFB : ∀ k, Fe k ∨ Fd k → k < B := fun k h => by rw [hB]; rcases h with h | h; exact hT4.e.lt k h; exact hT4.d.lt k h
  rw [← hW, ← hB]
  clear hT4 hW hB
  have hbB := lt_of_blk hbl
  have hOW := Own.new W 40 3 2 #[.string name, .string value, .bool true, .string name, .string value, .bool true] rfl (by decide)
  have hTX := hTW.below ((Below.refl W.heap.size W).alloc (Nat.le_refl _) (.cells #[.string name, .string value, .bool true, .string name, .string value, .bool true] 40))
  have hblX := (heap_alloc_old W (.cells #[.string name, .string value, .bool true, .string name, .string value, .bool true] 40) hbB).trans hbl
  rw [← hBW] at hOW
  have hX : ∃ X, X = W.alloc (.cells #[.string name, .string value, .bool true, .string name, .string value, .bool true] 40) := ⟨_, rfl⟩
  obtain ⟨X, hX⟩ := hX
  rw [← hX] at hOW hTX hblX ⊢
  have hGX := hG.below hTX.bel hgs
  have hfsl : ([⟨name, value, true⟩, ⟨name, value, true⟩] : List Fld).length = 2 := rfl
  clear hX hbl hTW hbB hBW
  by_cases hs : name.size ≤ 65536 ∧ value.size ≤ 65536
  · have hsh : ∀ b, ∀ f ∈ ([⟨name, value, b⟩, ⟨name, value, b⟩] : List Fld), short f := fun b f hf => by simp at hf; subst hf; exact hs
    have hsz : ∀ b, (sizeL [⟨name, value, b⟩, ⟨name, value, b⟩] : Nat) ≤ 262272 := fun b => by have := sizeL_le _ (hsh b); simp at this ⊢; omega
    have hI : InStep (ES.new.set n) (DS.new.set n).mx (DS.new.set n).es (DS.new.set n).limit := instep_new.set n
    have hbr : (DS.new.set n).broken = false := rfl
    have hes0 : (ES.new.set n).es = [] := rfl
    obtain ⟨se, hse⟩ : ∃ se, se = ES.new.set n := ⟨_, rfl⟩
    obtain ⟨sd, hsd⟩ : ∃ sd, sd = DS.new.set n := ⟨_, rfl⟩
    rw [← hse] at hI hTX hes0
    rw [← hsd] at hI hTX hbr
    clear hse hsd
    obtain ⟨L1, hL1⟩ : ∃ L1, L1 = encL se [⟨name, value, true⟩, ⟨name, value, true⟩] := ⟨_, rfl⟩
    have hL1l : L1.length ≤ 4194304 := by rw [hL1]; have := encL_length se _ (hsh true); simp at this; omega
    obtain ⟨o1, o2, o3, o4, o5, o6⟩ := both_ok se sd [⟨name, value, true⟩, ⟨name, value, true⟩] hI hbr (hsh true) (by have := hsz true; omega)
    rw [← hL1] at o1 o2 o3 o4 o5 o6
    have HSH := Lib.hid hsh
    have HSZ := Lib.hid hsz
    have d1 : decide ((65536 : Int) < (name.size : Int)) = false := by simp; omega
    have d2 : decide ((65536 : Int) < (value.size : Int)) = false := by simp; omega
    have hnx : (se.next [⟨name, value, true⟩, ⟨name, value, true⟩]).es = [] := by
      show fieldsT (preT se).1 (preT se).2 _ = []
      rw [preT_nil se hes0]
      simp only [fieldsT]
      rw [never_T _ _ _ rfl, never_T _ _ _ rfl]
    clear hsh hsz hI hes0
    refine (encE ge Fe se (.slice (some ⟨B + 1, 0, none⟩) 2 2) [⟨name, value, true⟩, ⟨name, value, true⟩] X hGX hTX.e (fun k h => by have := hTX.be k h; omega) (Rds.of_own hOW) (fun _ k hk hF => by have h1 : B + 1 = k := Option.some.inj hk; have := hFB k (.inl hF); omega) (HSH.out true) (by simp)).mono ?_
    rintro e w6 ⟨rfl, Fe6, hE6, hM6, hF6⟩
    rw [← hL1]
    have hT6 := hTX.enc hE6 hM6 hF6
    have hbl6 := hM6.blk hblX (fun h => by have := hFB B (.inl h); omega)
    have hXB := lt_of_blk hblX
    have hFB6 : ∀ k, Fe6 k ∨ Fd k → k ≠ B := fun k h => by
      rcases h with h | h
      · rcases hF6 k h with h | h
        · have := hFB k (.inl h); omega
        · omega
      · have := hFB k (.inr h); omega
    have hG6 := hG.below hT6.bel hgs
    clear hE6 hM6 hF6 hTX hblX hXB hFB hOW hGX
    have HL1 := Lib.hid hL1
    have HO := Lib.hid o1
    have hbr6 := Lib.hid hbr
    have HX := Lib.hid hnx
    have H2 := Lib.hid o2
    have H3 := Lib.hid o3
    have H4 := Lib.hid o4
    have H5 := Lib.hid o5
    clear hL1 o1 hbr hnx o2 o3 o4 o5
    go_wp2_with fail
    refine (decD gd Fd sd L1 4611686018427387904 w6 hG6 hT6.d (fun k h => by have := hT6.bd k h; omega) hbr6.out hL1l).mono ?_
    rintro e w7 ⟨lv, Fd7, rfl, hO7, hD7, hM7, hF7, hlv7⟩
    rw [HO.out] at hO7 ⊢
    simp only at hO7 ⊢
    have hT7 := hT6.dec hD7 hM7 hF7
    have hbl7 := hM7.blk hbl6 (fun h => hFB6 B (.inr h) rfl)
    have hFB7 : ∀ k, Fe6 k ∨ Fd7 k → k ≠ B := fun k h => by
      have := lt_of_blk hbl6
      rcases h with h | h
      · exact hFB6 k (.inl h)
      · rcases hF7 k h with h | h
        · exact hFB6 k (.inr h)
        · omega
    have hG7 := hG.below hT7.bel hgs
    clear hD7 hM7 hF7 hT6 hbl6 hFB6 hG6
    obtain ⟨c0, c1, c2, f0, f1, f2⟩ := cell3 hbl7
    have hOn := Own.new w7 40 3 2 #[.string name, .string value, .bool true, .string name, .string value, .bool true] rfl (by decide)
    have hlvX := (hO7.alloc (.cells #[.string name, .string value, .bool true, .string name, .string value, .bool true] 40))
    have hbX : Below w7.heap.size w7 (w7.alloc (.cells #[.string name, .string value, .bool true, .string name, .string value, .bool true] 40)) := (Below.refl _ _).alloc (Nat.le_refl _) _
    go_wp2_with fail
    refine (same_any lv (.slice (some ⟨w7.heap.size, 0, none⟩) 2 2) [⟨name, value, true⟩, ⟨name, value, true⟩] _ (Rds.of_own hlvX) (Rds.of_own hOn)).mono ?_
    rintro e w8 ⟨rfl, hb8⟩
    have hb78 := hbX.trans (hb8.mono hbX.size)
    have hT8 := hT7.below hb78
    have hbl8 := (hb78.block _ (lt_of_blk hbl7)).trans hbl7
    clear hOn hlvX hbX hb8 hb78 hT7 hbl7 c0 c1 c2 f0 f1 f2 hO7 hlv7 hG7
    go_wp2_with fail
    refine (tabE ge Fe6 _ w8 hT8.e).mono ?_
    rintro e w9 ⟨g9, T9, rfl, hTab9, hb9, hF9⟩
    obtain ⟨v9, rfl, hTb9⟩ := hTab9
    have hT9 := hT8.below hb9
    have hbl9 := (hb9.block _ (lt_of_blk hbl8)).trans hbl8
    clear hb9 hT8 hbl8
    go_wp2_with fail
    refine (Table.len_any g9 v9 _ _ w9 hTb9).mono ?_
    rintro e w' ⟨rfl, rfl⟩
    have hz : (((se.next [⟨name, value, true⟩, ⟨name, value, true⟩]).es.length : Nat) : Int) = 0 := by rw [HX.out]; rfl
    rw [hz]
    clear hz hTb9 hF9
    go_wp2_with fail
    refine (tabD gd Fd7 _ w9 hT9.d).mono ?_
    rintro e w10 ⟨g10, T10, rfl, hTab10, hb10, hF10⟩
    obtain ⟨v10, rfl, hTb10⟩ := hTab10
    have hT10 := hT9.below hb10
    have hbl10 := (hb10.block _ (lt_of_blk hbl9)).trans hbl9
    clear hb10 hT9 hbl9
    go_wp2_with fail
    refine (Table.len_any g10 v10 _ _ w10 hTb10).mono ?_
    rintro e w' ⟨rfl, rfl⟩
    have hz : (((sd.next L1).es.length : Nat) : Int) = 0 := by rw [H5.out, HX.out]; rfl
    rw [hz]
    clear hz hTb10 hF10
    obtain ⟨c0, c1, c2, f0, f1, f2⟩ := cell3 hbl10
    go_wp2_with fail
    obtain ⟨W, hW⟩ : ∃ W, W = w10.setCell ⟨B, 2, none⟩ (.bool false) := ⟨_, rfl⟩
    have hM11 : Mod (fun k => k = B) w10 W := by rw [hW]; exact (Mod.refl (fun k => k = B) w10).setCell (p := ⟨B, 2, none⟩) (fun _ => rfl) _
    have hT11 := hT10.far hM11 (fun k h => by omega) (fun k h => by subst h; exact ⟨fun h => hFB7 _ (.inl h) rfl, fun h => hFB7 _ (.inr h) rfl⟩)
    have hbl11 : W.heap[B]? = some (.cells #[.string name, .string value, .bool false] 40 (0, 0)) := by rw [hW]; exact heap_setCell_same w10 B 2 _ _ _ hbl10
    have hsz11 : W.heap.size = w10.heap.size := by rw [hW]; simp [World.setCell]
    rw [← hW, ← hsz11]
    clear hW hM11 hT10 hbl10 hsz11 c0 c1 c2 f0 f1 f2
    have hOW := Own.new W 40 3 2 #[.string name, .string value, .bool false, .string name, .string value, .bool false] rfl (by decide)
    have hTX := hT11.below ((Below.refl W.heap.size W).alloc (Nat.le_refl _) (.cells #[.string name, .string value, .bool false, .string name, .string value, .bool false] 40))
    have hblX := (heap_alloc_old W (.cells #[.string name, .string value, .bool false, .string name, .string value, .bool false] 40) (lt_of_blk hbl11)).trans hbl11
    obtain ⟨X, hX⟩ : ∃ X, X = W.alloc (.cells #[.string name, .string value, .bool false, .string name, .string value, .bool false] 40) := ⟨_, rfl⟩
    rw [← hX] at hOW hTX hblX ⊢
    have hGX := hG.below hTX.bel hgs
    have hFW : ∀ k, Fe6 k → k < W.heap.size := hT11.e.lt
    clear hX hT11 hbl11
    have hE2 : (se.next [⟨name, value, true⟩, ⟨name, value, true⟩]).told = false := rfl
    obtain ⟨se2, hse2⟩ : ∃ se2, se2 = se.next [⟨name, value, true⟩, ⟨name, value, true⟩] := ⟨_, rfl⟩
    obtain ⟨sd2, hsd2⟩ : ∃ sd2, sd2 = sd.next L1 := ⟨_, rfl⟩
    have HI2 : Hid (InStep se2 sd2.mx sd2.es sd2.limit) := by rw [hse2, hsd2]; exact o6
    have HB2 : Hid (sd2.broken = false) := by show _ = _; rw [hsd2]; exact H2.out
    have HX2 : Hid (se2.es = []) := by show _ = _; rw [hse2]; exact HX.out
    rw [← hse2] at hTX hE2
    rw [← hsd2] at hTX
    have HE2 := Lib.hid hE2
    clear hse2 hsd2 o6 H2 H3 H4 H5 HX HO HL1 hE2 hL1l
    have hlong2 := encL_length se2 _ (HSH.out false)
    obtain ⟨L2, hL2⟩ : ∃ L2, L2 = encL se2 [⟨name, value, false⟩, ⟨name, value, false⟩] := ⟨_, rfl⟩
    have hL2l : L2.length ≤ 4194304 := by rw [hL2]; simp at hlong2; omega
    obtain ⟨o1, o2, o3, o4, o5, o6⟩ := both_ok se2 sd2 [⟨name, value, false⟩, ⟨name, value, false⟩] HI2.out HB2.out (HSH.out false) (by have := HSZ.out false; omega)
    rw [← hL2] at o1 o2 o3 o4 o5 o6
    have HL2 := Lib.hid hL2
    have HO := Lib.hid o1
    have H4 := Lib.hid o4
    have H5 := Lib.hid o5
    clear hL2 o1 o2 o3 o4 o5 o6 hlong2
    refine (encE ge Fe6 se2 (.slice (some ⟨W.heap.size, 0, none⟩) 2 2) [⟨name, value, false⟩, ⟨name, value, false⟩] X hGX hTX.e (fun k h => by have := hTX.be k h; omega) (Rds.of_own hOW) (fun _ k hk hF => by have h1 : W.heap.size = k := Option.some.inj hk; have := hFW k hF; omega) (HSH.out false) (by simp)).mono ?_
    rintro e w12 ⟨rfl, Fe12, hE12, hM12, hF12⟩
    rw [← HL2.out]
    have hT12 := hTX.enc hE12 hM12 hF12
    have hbl12 := hM12.blk hblX (fun h => hFB7 B (.inl h) rfl)
    have hFB12 : ∀ k, Fe12 k ∨ Fd7 k → k ≠ B := fun k h => by
      have := lt_of_blk hblX
      rcases h with h | h
      · rcases hF12 k h with h | h
        · exact hFB7 k (.inl h)
        · omega
      · exact hFB7 k (.inr h)
    have hG12 := hG.below hT12.bel hgs
    clear hE12 hM12 hF12 hTX hblX hFB7 hOW hGX
    go_wp2_with fail
    refine (decD gd Fd7 sd2 L2 4611686018427387904 w12 hG12 hT12.d (fun k h => by have := hT12.bd k h; omega) HB2.out hL2l).mono ?_
    rintro e w13 ⟨lv13, Fd13, rfl, hO13, hD13, hM13, hF13, hlv13⟩
    rw [HO.out] at hO13 ⊢
    simp only at hO13 ⊢
    have hT13 := hT12.dec hD13 hM13 hF13
    have hbl13 := hM13.blk hbl12 (fun h => hFB12 B (.inr h) rfl)
    clear hD13 hM13 hF13 hT12 hbl12 hFB12 hG12
    obtain ⟨c0, c1, c2, f0, f1, f2⟩ := cell3 hbl13
    have hOn := Own.new w13 40 3 2 #[.string name, .string value, .bool false, .string name, .string value, .bool false] rfl (by decide)
    have hlvX := (hO13.alloc (.cells #[.string name, .string value, .bool false, .string name, .string value, .bool false] 40))
    have hbX : Below w13.heap.size w13 (w13.alloc (.cells #[.string name, .string value, .bool false, .string name, .string value, .bool false] 40)) := (Below.refl _ _).alloc (Nat.le_refl _) _
    go_wp2_with fail
    refine (same_any lv13 (.slice (some ⟨w13.heap.size, 0, none⟩) 2 2) [⟨name, value, false⟩, ⟨name, value, false⟩] _ (Rds.of_own hlvX) (Rds.of_own hOn)).mono ?_
    rintro e w14 ⟨rfl, hb14⟩
    have hT14 := hT13.below (hbX.trans (hb14.mono hbX.size))
    clear hOn hlvX hbX hb14 hT13 hbl13 c0 c1 c2 f0 f1 f2 hO13 hlv13
    go_wp2_with fail
    refine (tabE ge Fe12 _ w14 hT14.e).mono ?_
    rintro e w15 ⟨g15, T15, rfl, hTab15, hb15, hF15⟩
    obtain ⟨v15, rfl, hTb15⟩ := hTab15
    have hT15 := hT14.below hb15
    clear hb15 hT14
    go_wp2_with fail
    refine (Table.len_any g15 v15 _ _ w15 hTb15).mono ?_
    rintro e w' ⟨rfl, rfl⟩
    have hle : decide ((((se2.next [⟨name, value, false⟩, ⟨name, value, false⟩]).es.length : Nat) : Int) ≤ 1) = true := by
      have h : (se2.next [⟨name, value, false⟩, ⟨name, value, false⟩]).es = fieldsT se2.mx [] [⟨name, value, false⟩, ⟨name, value, false⟩] := by
        show fieldsT (preT se2).1 (preT se2).2 _ = _
        have : preT se2 = (se2.mx, []) := by unfold preT; rw [HE2.out, HX2.out]; rfl
        rw [this]
      rw [h]
      have := twice_T se2.mx ⟨name, value, false⟩ rfl
      simp; omega
    clear hTb15 hF15
    go_wp2_with fail
    refine (tabE ge Fe12 _ w15 hT15.e).mono ?_
    rintro e w16 ⟨g16, T16, rfl, hTab16, hb16, hF16⟩
    have hT16 := hT15.below hb16
    clear hb16 hT15
    go_wp2_with fail
    refine (tabD gd Fd13 _ w16 hT16.d).mono ?_
    rintro e w17 ⟨g17, T17, rfl, hTab17, hb17, hF17⟩
    have hT17 := hT16.below hb17
    obtain ⟨v16, rfl, hTb16⟩ := hTab16.below hb17
    obtain ⟨v17, rfl, hTb17⟩ := hTab17
    rw [H4.out, H5.out] at hTb17
    clear hTab16 hb17 hT16 hF16 hF17
    go_wp2_with fail
    refine (alike_any g16 g17 v16 v17 _ _ w17 hTb16 hTb17).mono ?_
    rintro e w18 ⟨rfl, hb18⟩
    have hB18 := hT17.bel.trans (hb18.mono hT17.bel.size)
    go_wp2_with fail
    go_ret
    exact ⟨rfl, hB18⟩
  · refine (encode_long ge (.slice (some ⟨B + 1, 0, none⟩) 2 2) [⟨name, value, true⟩, ⟨name, value, true⟩] X (Rds.of_own hOW) (fun h => hs (h ⟨name, value, true⟩ (by simp))) (by simp)).mono ?_
    rintro e w6 ⟨rfl, hb6⟩
    have hB6 := hTX.bel.trans (hb6.mono hTX.bel.size)
    clear hTX hb6
    by_cases h1 : name.size ≤ 65536
    · have h2 : ¬ value.size ≤ 65536 := fun h => hs ⟨h1, h⟩
      have d1 : decide ((65536 : Int) < (name.size : Int)) = false := by simp; omega
      have d2 : decide ((65536 : Int) < (value.size : Int)) = true := by simp; omega
      go_wp2_with fail
      go_ret
      exact ⟨rfl, hB6⟩
    · have d1 : decide ((65536 : Int) < (name.size : Int)) = true := by simp; omega
      go_wp2_with fail
      go_ret
      exact ⟨rfl, hB6⟩
end Law05
end Go.Proofs.YtkpdhnkiabgghaaDoor
