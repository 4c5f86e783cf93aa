/- Layer 5, pack: all. -/
import Derived.Test.YtkpdhnkiabgghaaDoorDecS
namespace Go.Proofs.YtkpdhnkiabgghaaDoor
open Go.RowKit
namespace Pack
/-- A reading under way. -/
structure RS where
  mx : Nat
  es : List Ent
  rest : List UInt8
  out : List Fld
  ch : Nat
def prefixN (which : Nat) : Int := (forms.getD which (0, 0)).2
def firstN : List UInt8 → Nat
  | [] => 9
  | c :: _ => formN c.toNat
def stepD (limit : Nat) (s : RS) : Option RS :=
  (numberL (prefixN (firstN s.rest)) s.rest).bind fun x =>
    if firstN s.rest = 0 then (Table.atL s.es x.1).map fun e => { s with rest := x.2, out := s.out ++ [⟨e.1, e.2, false⟩] }
    else if firstN s.rest = 2 then (if s.out = [] ∧ s.ch + 1 ≤ 2 ∧ x.1 ≤ limit then some { s with rest := x.2, mx := x.1, es := Table.shrinkL x.1 s.es, ch := s.ch + 1 } else none)
    else (litL s.es x.2 x.1).map fun y => { s with rest := y.2.2, es := litT (firstN s.rest == 1) s.mx s.es (y.1, y.2.1), out := s.out ++ [⟨y.1, y.2.1, firstN s.rest == 3⟩] }
def allD (limit : Nat) : Nat → RS → RS × Bool
  | 0, s => (s, true)
  | k + 1, s => if s.rest = [] then (s, true) else match stepD limit s with
    | none => (s, false)
    | some s' => allD limit k s'
def readD (limit : Nat) (s : RS) : RS × Bool := if limit < s.mx ∧ firstN s.rest ≠ 2 then (s, false) else allD limit s.rest.length s
abbrev IsR (w : World) (gr gd gt : Nat) (v lv : Value) (limit : Nat) (s : RS) : Prop := IsRd w gr gd gt v lv s.mx s.es limit false s.rest s.out s.ch
theorem fixed_small2 : Table.fixedL.all (fun e => decide (e.2.size ≤ 65536)) = true := by decide
theorem atL_size2 (es : List Ent) (i : Int) (e : Ent) (h : Table.atL es i = some e) (hs : tsize es ≤ 65536) : e.2.size ≤ 65536 := by
  unfold Table.atL at h
  split at h
  · have := List.all_eq_true.1 fixed_small2 e (List.mem_of_getElem? h)
    simpa using this
  · split at h
    · have := tsize_mem es e (List.mem_of_getElem? h)
      unfold esz at this; omega
    · cases h
theorem litL_spec (es : List Ent) (rest : List UInt8) (i : Nat) (n s : ByteArray) (r : List UInt8) (h : litL es rest i = some (n, s, r)) (hs : tsize es ≤ 65536) : n.size ≤ 65536 ∧ s.size ≤ 65536 ∧ r.length < rest.length := by
  unfold litL at h
  cases hn : nameL es rest i with
  | none => rw [hn] at h; cases h
  | some x =>
    rw [hn] at h
    simp only [Option.bind_some] at h
    cases ht : textL x.2 with
    | none => rw [ht] at h; cases h
    | some y =>
      rw [ht] at h
      cases h
      have h1 := nameL_spec es rest i x.1 x.2 hn hs
      have h2 := textL_spec x.2 y.1 y.2 ht
      exact ⟨h1.1, by rw [mk_size]; exact h2.1, by omega⟩
theorem byte0 (c : UInt8) (l : List UInt8) : bt (mk (c :: l)) 0 = (c.toNat : Int) := rfl
set_option maxRecDepth 100000 in
set_option maxHeartbeats 4000000 in
theorem all_any (B gr gd gt : Nat) (v lv : Value) (limit : Nat) (s : RS) (w : World) (hG : G w) (h : IsR w gr gd gt v lv limit s) (hgr : B ≤ gr) (hlv : ∀ k, lv.ownBlock = some k → B ≤ k) (hB10 : 10 ≤ B) (hgt : 10 ≤ gt) (hv : ∀ k, v.ownBlock = some k → 10 ≤ k)
    (hl : limit ≤ 65536) (hlen : s.rest.length + s.out.length ≤ 4194304) (hch : s.ch + s.rest.length ≤ 4194304) (hsh : ∀ f ∈ s.out, short f) :
    Calls Tryd.prog 26 #[.pointer (some ⟨gr, 0, none⟩)] w fun e w' => ∃ v' lv',
      (((readD limit s).2 = true ∧ e = .returned (.tuple #[]) ∧ IsR w' gr gd gt v' lv' limit (readD limit s).1 ∧ ∀ f ∈ (readD limit s).1.out, short f) ∨
       ((readD limit s).2 = false ∧ e = fault ∧ IsDec w' gd gt v' (readD limit s).1.mx (readD limit s).1.es limit false)) ∧
      Mod (fun k => B ≤ k ∨ k = gt ∨ v.ownBlock = some k) w w' ∧ (∀ k, v'.ownBlock = some k → v.ownBlock = some k ∨ B ≤ k) ∧ (∀ k, lv'.ownBlock = some k → B ≤ k) := by
  have hgs := lt_of_blk h.blk
  have hds := lt_of_blk h.dec.blk
  have hRD : Hid (readD limit s = if limit < s.mx ∧ firstN s.rest ≠ 2 then (s, false) else allD limit s.rest.length s) := rfl
  go_enter Tryd.func26, Tryd.ntmps26
  go_upto_region 0 with fail
  go_cut [35] (fun s35 wx => s35 = .bool (decide (limit < s.mx ∧ firstN s.rest ≠ 2)) ∧ Below w.heap.size w wx)
  case first =>
    have hd0 : Below w.heap.size w w.drew := (Below.refl _ _).drew
    obtain ⟨I, HI, hne⟩ := mkInv (fun W => Below w.heap.size w W) hd0
    have q0 : ∀ x : InW I, x.w.cell? ⟨gr, 0, none⟩ = some (.pointer (some ⟨gd, 0, none⟩)) := fun x => (((HI.out _).1 x.has).cell (p := ⟨gr, 0, none⟩) hgs).trans ((cell_of_row _ _ _ _ _ _ h.blk).trans rfl)
    have q1 : ∀ x : InW I, x.w.cell? ⟨gr, 1, none⟩ = some (.string (mk s.rest)) := fun x => (((HI.out _).1 x.has).cell (p := ⟨gr, 1, none⟩) hgs).trans ((cell_of_row _ _ _ _ _ _ h.blk).trans rfl)
    have q2 : ∀ x : InW I, x.w.cell? ⟨gd, 0, none⟩ = some (.pointer (some ⟨gt, 0, none⟩)) := fun x => (((HI.out _).1 x.has).cell (p := ⟨gd, 0, none⟩) hds).trans ((cell_of_row _ _ _ _ _ _ h.dec.blk).trans rfl)
    have q3 : ∀ x : InW I, x.w.cell? ⟨gd, 1, none⟩ = some (.int .i64 (limit : Int)) := fun x => (((HI.out _).1 x.has).cell (p := ⟨gd, 1, none⟩) hds).trans ((cell_of_row _ _ _ _ _ _ h.dec.blk).trans rfl)
    by_cases h1 : limit < s.mx
    · have d1 : decide ((limit : Int) < (s.mx : Int)) = true := by simp; omega
      cases hr : s.rest with
      | nil =>
        rw [hr] at q1
        have e0 : (mk ([] : List UInt8)).toList.isEmpty = true := by rw [toList_data]; rfl
        refine wp_region_inv_all I (by kernel_rfl) (by kernel_rfl) ((HI.out _).2 hd0) ?_
        repeat (go_big_quiet_step ((first | (go_at_call 21; exact inv_call ((Table.max_any gt v s.mx s.es _ (h.dec.tab.below ((HI.out _).1 (InW.has _)))).mono (by rintro e w' ⟨rfl, rfl⟩; exact ⟨rfl, InW.has _⟩))))))
        refine wpQuiet_nil ?_
        intro w1 hb1
        replace hb1 := (HI.out _).1 hb1
        clear hne HI
        clear q0 q1 q2 q3
        go_wp2_with fail
        go_meet
        exact ⟨by simp [firstN, h1, hr], hb1⟩
      | cons c l =>
        rw [hr] at q1
        have e0 : (mk (c :: l)).toList.isEmpty = false := by rw [toList_data]; rfl
        have hpos : 0 < (mk (c :: l)).size := Nat.succ_pos _
        have hget : ((mk (c :: l))[0]'hpos).toNat = c.toNat := rfl
        refine wp_region_inv_all I (by kernel_rfl) (by kernel_rfl) ((HI.out _).2 hd0) ?_
        repeat (go_big_quiet_step ((first | (go_at_call 21; exact inv_call ((Table.max_any gt v s.mx s.es _ (h.dec.tab.below ((HI.out _).1 (InW.has _)))).mono (by rintro e w' ⟨rfl, rfl⟩; exact ⟨rfl, InW.has _⟩))) | (go_at_call 39; exact inv_call ((formOf_any c.toNat _ (hG.below ((HI.out _).1 (InW.has _)) hG.size) (UInt8.toNat_lt c)).mono (by rintro e w' ⟨rfl, hb⟩; exact ⟨rfl, (HI.out _).2 (((HI.out _).1 (InW.has _)).trans (hb.mono ((HI.out _).1 (InW.has _)).size))⟩))))))
        refine wpQuiet_nil ?_
        intro w1 hb1
        replace hb1 := (HI.out _).1 hb1
        clear hne HI
        clear q0 q1 q2 q3
        go_wp2_with fail
        go_meet
        refine ⟨?_, hb1⟩
        simp only [firstN, h1, hr, true_and]
        congr 1
        rw [Bool.eq_iff_iff]
        simp
        omega
    · have d1 : decide ((limit : Int) < (s.mx : Int)) = false := by simp; omega
      refine wp_region_inv_all I (by kernel_rfl) (by kernel_rfl) ((HI.out _).2 hd0) ?_
      repeat (go_big_quiet_step ((first | (go_at_call 21; exact inv_call ((Table.max_any gt v s.mx s.es _ (h.dec.tab.below ((HI.out _).1 (InW.has _)))).mono (by rintro e w' ⟨rfl, rfl⟩; exact ⟨rfl, InW.has _⟩))))))
      refine wpQuiet_nil ?_
      intro w1 hb1
      replace hb1 := (HI.out _).1 hb1
      clear hne HI
      clear q0 q1 q2 q3
      go_wp2_with fail
      go_meet
      exact ⟨by simp [h1], hb1⟩
  case rest =>
    obtain ⟨rfl, hbx⟩ := hcut
    have hRx : IsR wc gr gd gt v lv limit s := rd_mod (S := fun _ => False) h (Mod.ofBelow hbx) (fun h => h) (fun h => h) (fun h => h) (fun _ _ h => h) (fun _ _ h => h)
    have hGx := hG.below hbx hG.size
    by_cases hbad : limit < s.mx ∧ firstN s.rest ≠ 2
    · rw [if_pos hbad] at hRD
      rw [decide_eq_true hbad]
      go_wp2_with fail
      exact ⟨rfl, v, lv, .inr ⟨by rw [hRD.out], rfl, by rw [hRD.out]; exact hRx.dec⟩, Mod.ofBelow hbx, fun _ h => .inl h, hlv⟩
    · rw [if_neg hbad] at hRD
      rw [decide_eq_false hbad]
      clear hbad
      have hKx : Mod (fun k => B ≤ k ∨ k = gt ∨ v.ownBlock = some k) w wc := Mod.ofBelow hbx
      have hLX : Hid (readD limit s = allD limit s.rest.length s) := hRD.out
      clear hRD hbx h hG
      go_wp2_with fail
      go_loopg [] s.rest.length (fun k wr => ∃ (t : RS) (vk lk : Value), t.rest.length ≤ k ∧ IsR wr gr gd gt vk lk limit t ∧ G wr ∧ Hid (readD limit s = allD limit k t) ∧ Mod (fun k => B ≤ k ∨ k = gt ∨ v.ownBlock = some k) w wr ∧
        (∀ k, vk.ownBlock = some k → v.ownBlock = some k ∨ B ≤ k) ∧ (∀ k, lk.ownBlock = some k → B ≤ k) ∧ t.rest.length + t.out.length ≤ 4194304 ∧ t.ch + t.rest.length ≤ 4194304 ∧ (∀ f ∈ t.out, short f))
      case atStart => exact ⟨s, v, lv, Nat.le_refl _, hRx, hGx, hLX, hKx, fun _ h => .inl h, hlv, hlen, hch, hsh⟩
      case round =>
        obtain ⟨t, vk, lk, htk, hRt, hGt, hLt, hKt, hvk, hlk, hlt, hct, hst⟩ := hrel
        have c1 := (cell4 hRt.blk).2.1
        clear hRx hGx hLX hKx hlen hch hsh hlv
        have hsw := hKt.size
        cases hr : t.rest with
        | nil =>
          have hA : Hid (readD limit s = (t, true)) := by
            show _ = _; rw [hLt.out]
            cases gk with
            | zero => rfl
            | succ k => rw [allD, if_pos hr]
          have e0 : (mk ([] : List UInt8)).toList.isEmpty = true := by rw [toList_data]; rfl
          rw [hr] at c1
          clear hr
          go_wp2_with fail
          go_end0
          exact ⟨vk, lk, .inl ⟨by rw [hA.out], rfl, by rw [hA.out]; exact hRt, by rw [hA.out]; exact hst⟩, hKt, hvk, hlk⟩
        | cons c l =>
          obtain ⟨j, rfl⟩ : ∃ j, gk = j + 1 := ⟨gk - 1, by rw [hr] at htk; simp at htk; omega⟩
          have e0 : (mk (c :: l)).toList.isEmpty = false := by rw [toList_data]; rfl
          have hpos : 0 < (mk (c :: l)).size := Nat.succ_pos _
          have hget : ((mk (c :: l))[0]'hpos).toNat = c.toNat := rfl
          obtain ⟨wh, hwh⟩ : ∃ wh, wh = formN c.toNat := ⟨_, rfl⟩
          have hw5 : wh < 5 := by rw [hwh]; exact formN_lt _
          have hfn : firstN t.rest = wh := by rw [hr, hwh]; rfl
          have HA : Hid (readD limit s = match stepD limit t with | none => (t, false) | some t' => allD limit j t') := by
            show _ = _; rw [hLt.out, allD, if_neg (by rw [hr]; simp)]
          obtain ⟨fb, fp, hf, hp1, hp2, hb1, hb2, hand⟩ := forms_ok wh hw5
          have hpf : prefixN wh = fp := by unfold prefixN; rw [List.getD_eq_getElem?_getD, hf]; rfl
          have HS : Hid (stepD limit t = (numberL fp t.rest).bind fun x =>
              if wh = 0 then (Table.atL t.es x.1).map fun e => { t with rest := x.2, out := t.out ++ [⟨e.1, e.2, false⟩] }
              else if wh = 2 then (if t.out = [] ∧ t.ch + 1 ≤ 2 ∧ x.1 ≤ limit then some { t with rest := x.2, mx := x.1, es := Table.shrinkL x.1 t.es, ch := t.ch + 1 } else none)
              else (litL t.es x.2 x.1).map fun y => { t with rest := y.2.2, es := litT (wh == 1) t.mx t.es (y.1, y.2.1), out := t.out ++ [⟨y.1, y.2.1, wh == 3⟩] }) := by
            show _ = _; unfold stepD; rw [hfn, hpf]
          have hi0 : (0 : Int) ≤ (wh : Int) := by omega
          have hi1 : (wh : Int) < 5 := by omega
          have HR := Lib.hid hr
          rw [hr] at c1
          clear hr hfn hpf hLt
          go_wp2_with fail
          refine (formOf_any c.toNat wr hGt (UInt8.toNat_lt c)).mono ?_
          rintro e w1 ⟨rfl, hbf⟩
          rw [← hwh]
          clear hwh
          have hG1 := hGt.below hbf hGt.size
          have hR1 : IsR w1 gr gd gt vk lk limit t := rd_mod (S := fun _ => False) hRt (Mod.ofBelow hbf) (fun h => h) (fun h => h) (fun h => h) (fun _ _ h => h) (fun _ _ h => h)
          have hK1 := hKt.below hbf
          obtain ⟨p0, p1⟩ := hG1.forms wh fb fp hw5 hf
          rw [Nat.mul_comm 2 wh] at p0 p1
          clear hGt hRt hKt
          go_wp2_with fail
          have hrl : t.rest.length = l.length + 1 := by rw [HR.out]; rfl
          refine (number_any fp gr gd gt vk lk t.mx t.es limit false t.rest t.out t.ch w1 hR1 hp1 hp2 (by omega)).mono ?_
          rintro e w2 (⟨n, r, hn, rfl, hR2, hM2⟩ | ⟨hn, rfl, hb2⟩)
          · obtain ⟨hn1, hn2⟩ := numberL_spec fp t.rest hp1 hp2 n r hn
            have HS2 : Hid (stepD limit t = if wh = 0 then (Table.atL t.es n).map fun e => { t with rest := r, out := t.out ++ [⟨e.1, e.2, false⟩] }
              else if wh = 2 then (if t.out = [] ∧ t.ch + 1 ≤ 2 ∧ n ≤ limit then some { t with rest := r, mx := n, es := Table.shrinkL n t.es, ch := t.ch + 1 } else none)
              else (litL t.es r n).map fun y => { t with rest := y.2.2, es := litT (wh == 1) t.mx t.es (y.1, y.2.1), out := t.out ++ [⟨y.1, y.2.1, wh == 3⟩] }) := by
              show _ = _; rw [HS.out, hn]; rfl
            have hG2 := hG1.mod hM2 (fun k hk => by omega)
            have hK2 := hK1.trans (hM2.mono (T := fun k => B ≤ k ∨ k = gt ∨ v.ownBlock = some k) (fun k _ h => .inl (by omega))) (fun _ _ h => h)
            have hs2 := hK2.size
            clear HS hn hR1 hG1 hK1 hM2
            by_cases hw0 : wh = 0
            · rw [if_pos hw0] at HS2
              have d0 : (((wh : Nat) : Int) == 0) = true := by rw [hw0]; rfl
              go_wp2_with fail
              refine (indexed_any gr gd gt vk lk t.mx t.es limit false r t.out t.ch n w2 hR2 hn1 (by omega)).mono ?_
              rintro e w3 (⟨nn, ss, lv3, ha, rfl, hR3, hM3, hl3⟩ | ⟨ha, rfl, hb3⟩)
              · have hS : Hid (readD limit s = allD limit j { t with rest := r, out := t.out ++ [⟨nn, ss, false⟩] }) := by show _ = _; rw [HA.out, HS2.out, ha]; rfl
                go_wp2
                go_roundg j
                all_goals first
                  | omega
                  | (refine ⟨{ t with rest := r, out := t.out ++ [⟨nn, ss, false⟩] }, vk, lv3, ?_, hR3, hG2.mod hM3 (fun k h => ?_), hS, hK2.trans hM3 (fun k hk h => ?_), hvk, fun k hk => ?_, ?_, ?_, ?_⟩
                     · simp only; omega
                     · rcases h with h | h
                       · omega
                       · have := hlk k h; omega
                     · rcases h with h | h
                       · exact .inl (by omega)
                       · exact .inl (hlk k h)
                     · by_cases hlt : k < w2.heap.size
                       · exact hlk k (hl3 k hk hlt)
                       · omega
                     · simp only [List.length_append, List.length_cons, List.length_nil]; omega
                     · simp only; omega
                     · intro f hf
                       simp only [List.mem_append, List.mem_singleton] at hf
                       rcases hf with hf | rfl
                       · exact hst f hf
                       · exact ⟨atL_size t.es n (nn, ss) ha hR2.dec.tab.le, atL_size2 t.es n (nn, ss) ha hR2.dec.tab.le⟩)
              · have hF : Hid (readD limit s = (t, false)) := by show _ = _; rw [HA.out, HS2.out, ha]; rfl
                go_wp2_with fail
                refine ⟨rfl, vk, lk, .inr ⟨by rw [hF.out], rfl, by rw [hF.out]; exact (rd_mod (S := fun _ => False) hR2 (Mod.ofBelow hb3) (fun h => h) (fun h => h) (fun h => h) (fun _ _ h => h) (fun _ _ h => h)).dec⟩, hK2.below hb3, hvk, hlk⟩
            · rw [if_neg hw0] at HS2
              have d0 : (((wh : Nat) : Int) == 0) = false := by simp; omega
              by_cases hw2 : wh = 2
              · rw [if_pos hw2] at HS2
                have d2 : (((wh : Nat) : Int) == 2) = true := by rw [hw2]; rfl
                go_wp2_with fail
                refine (change_any gr gd gt vk lk t.mx t.es limit false r t.out t.ch n w2 hR2 hn1 hl (by omega) (by omega)).mono ?_
                rintro e w3 (⟨hok, rfl, v3, hR3, hM3, hv3⟩ | ⟨hno, rfl, hD3, hM3⟩)
                · have hS : Hid (readD limit s = allD limit j { t with rest := r, mx := n, es := Table.shrinkL n t.es, ch := t.ch + 1 }) := by show _ = _; rw [HA.out, HS2.out, if_pos hok]
                  clear hok
                  go_wp2
                  go_roundg j
                  all_goals first
                    | omega
                    | (refine ⟨{ t with rest := r, mx := n, es := Table.shrinkL n t.es, ch := t.ch + 1 }, v3, lk, ?_, hR3, hG2.mod hM3 (fun k h => ?_), hS, hK2.trans hM3 (fun k hk h => ?_), fun k hk => hvk k (by rw [← hv3]; exact hk), hlk, ?_, ?_, hst⟩
                       · simp only; omega
                       · rcases h with h | h
                         · omega
                         · omega
                       · rcases h with h | h
                         · exact .inl (by omega)
                         · exact .inr (.inl h)
                       · simp only; omega
                       · simp only; omega)
                · have hF : Hid (readD limit s = (t, false)) := by show _ = _; rw [HA.out, HS2.out, if_neg hno]
                  clear hno
                  go_wp2_with fail
                  refine ⟨rfl, vk, lk, .inr ⟨by rw [hF.out], rfl, by rw [hF.out]; exact hD3⟩, hK2.trans hM3 (fun k hk h => .inl (by omega)), hvk, hlk⟩
              · rw [if_neg hw2] at HS2
                have d2 : (((wh : Nat) : Int) == 2) = false := by simp; omega
                obtain ⟨ba, hba⟩ : ∃ ba, ba = (wh == 1) := ⟨_, rfl⟩
                obtain ⟨bn, hbn⟩ : ∃ bn, bn = (wh == 3) := ⟨_, rfl⟩
                have d3 : (((wh : Nat) : Int) == 1) = ba := by rw [hba, Bool.eq_iff_iff]; simp; omega
                have d4 : (((wh : Nat) : Int) == 3) = bn := by rw [hbn, Bool.eq_iff_iff]; simp; omega
                rw [← hba, ← hbn] at HS2
                clear hba hbn
                go_wp2_with fail
                refine (literal_any gr gd gt vk lk t.mx t.es limit false r t.out t.ch n ba bn w2 hG2 hR2 hn1 (by omega) (by omega) (by omega)).mono ?_
                rintro e w3 (⟨nn, ss, r3, v3, lv3, ha, rfl, hR3, hM3, hl3, hv3⟩ | ⟨ha, rfl, hD3, hM3⟩)
                · have hS : Hid (readD limit s = allD limit j { t with rest := r3, es := litT ba t.mx t.es (nn, ss), out := t.out ++ [⟨nn, ss, bn⟩] }) := by show _ = _; rw [HA.out, HS2.out, ha]; rfl
                  obtain ⟨z1, z2, z3⟩ := litL_spec t.es r n nn ss r3 ha hR2.dec.tab.le
                  go_wp2
                  go_roundg j
                  all_goals first
                    | omega
                    | (refine ⟨{ t with rest := r3, es := litT ba t.mx t.es (nn, ss), out := t.out ++ [⟨nn, ss, bn⟩] }, v3, lv3, ?_, hR3, hG2.mod hM3 (fun k h => ?_), hS, hK2.trans hM3 (fun k hk h => ?_), fun k hk => ?_, fun k hk => ?_, ?_, ?_, ?_⟩
                       · simp only; omega
                       · rcases h with h | h | h | h
                         · omega
                         · have := hlk k h; omega
                         · omega
                         · rcases hvk k h with h | h
                           · exact hv k h
                           · omega
                       · rcases h with h | h | h | h
                         · exact .inl (by omega)
                         · exact .inl (hlk k h)
                         · exact .inr (.inl h)
                         · rcases hvk k h with h | h
                           · exact .inr (.inr h)
                           · exact .inl h
                       · by_cases hlt : k < w2.heap.size
                         · exact hvk k (hv3 k hk hlt)
                         · exact .inr (by omega)
                       · by_cases hlt : k < w2.heap.size
                         · exact hlk k (hl3 k hk hlt)
                         · omega
                       · simp only [List.length_append, List.length_cons, List.length_nil]; omega
                       · simp only; omega
                       · intro f hf
                         simp only [List.mem_append, List.mem_singleton] at hf
                         rcases hf with hf | rfl
                         · exact hst f hf
                         · exact ⟨z1, z2⟩)
                · have hF : Hid (readD limit s = (t, false)) := by show _ = _; rw [HA.out, HS2.out, ha]; rfl
                  go_wp2_with fail
                  refine ⟨rfl, vk, lk, .inr ⟨by rw [hF.out], rfl, by rw [hF.out]; exact hD3⟩, hK2.trans hM3 (fun k hk h => .inl (by omega)), hvk, hlk⟩
          · have hS : stepD limit t = none := by rw [HS.out, hn]; rfl
            have hF : Hid (readD limit s = (t, false)) := by show _ = _; rw [HA.out, hS]
            go_wp2_with fail
            refine ⟨rfl, vk, lk, .inr ⟨by rw [hF.out], rfl, by rw [hF.out]; exact (rd_mod (S := fun _ => False) hR1 (Mod.ofBelow hb2) (fun h => h) (fun h => h) (fun h => h) (fun _ _ h => h) (fun _ _ h => h)).dec⟩, hK1.below hb2, hvk, hlk⟩
end Pack
end Go.Proofs.YtkpdhnkiabgghaaDoor
