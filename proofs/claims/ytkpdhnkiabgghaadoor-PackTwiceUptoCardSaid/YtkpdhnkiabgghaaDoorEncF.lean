/- Layer 5, pack: field. -/
import Derived.Test.YtkpdhnkiabgghaaDoorEnc
import Derived.Deep.DeepCutAuto
namespace Go.Proofs.YtkpdhnkiabgghaaDoor
open Go.RowKit
namespace Pack
structure Fld where
  n : ByteArray
  v : ByteArray
  never : Bool
def fsz (f : Fld) : Nat := f.n.size + f.v.size + 32
/-- Which form a field takes that is not found whole. -/
def whichL (mx : Nat) (f : Fld) : Nat := if f.never then 3 else if mx < fsz f then 4 else 1
def partsL (i : Nat) (f : Fld) : Nat → List UInt8
  | 0 => []
  | 1 => if 0 < i then [] else Text.textPut f.n.data.toList
  | _ => (if 0 < i then [] else Text.textPut f.n.data.toList) ++ Text.textPut f.v.data.toList
def fieldL (mx : Nat) (es : List Ent) (f : Fld) : List UInt8 :=
  if f.never = false ∧ (Table.findL es f.n f.v).2 = true then beginL 0 (Table.findL es f.n f.v).1
  else beginL (whichL mx f) (Table.findL es f.n f.v).1 ++ partsL (Table.findL es f.n f.v).1 f 2
def fieldT (mx : Nat) (es : List Ent) (f : Fld) : List Ent :=
  if (f.never = false ∧ (Table.findL es f.n f.v).2 = true) ∨ whichL mx f ≠ 1 then es else Table.addL mx es (f.n, f.v)
theorem textPut_length (s : List UInt8) : (Text.textPut s).length ≤ s.length + 7 := by
  have h : (Text.formL 0 s).length ≤ s.length + 7 := by
    have := putN_length 7 0 s.length
    unfold Text.formL bytesOf
    rw [List.length_append, List.length_map]; omega
  unfold Text.textPut
  split <;> omega
theorem idx_le : ∀ (l : List Ent) (k : Nat), ∀ x ∈ Table.idx k l, x.1 ≤ k + l.length
  | [], k, x, h => by simp [Table.idx] at h
  | e :: l, k, x, h => by
    simp only [Table.idx, List.mem_cons] at h
    rcases h with rfl | h
    · simp
    · have := idx_le l (k + 1) x h; simp; omega
theorem findGo_le (n s : ByteArray) (m : Nat) : ∀ (l : List (Nat × Ent)) (nm : Nat), nm ≤ m → (∀ x ∈ l, x.1 ≤ m) → (Table.findGo n s l nm).1 ≤ m
  | [], nm, h, _ => by simpa [Table.findGo] using h
  | x :: l, nm, h, hl => by
    have hx := hl x (by simp)
    have hl' : ∀ y ∈ l, y.1 ≤ m := fun y hy => hl y (by simp [hy])
    simp only [Table.findGo]
    split
    · split
      · exact hx
      · split
        · exact findGo_le n s m l _ hx hl'
        · exact findGo_le n s m l _ h hl'
    · exact findGo_le n s m l _ h hl'
theorem findL_le (es : List Ent) (n s : ByteArray) : (Table.findL es n s).1 ≤ 62 + es.length := by
  refine findGo_le n s _ _ _ (by omega) fun x hx => ?_
  have := idx_le _ _ x hx
  rw [List.length_append, Table.fixedL_length, List.length_reverse] at this
  omega
theorem _root_.Go.Proofs.YtkpdhnkiabgghaaDoor.Bld.ge' {B b : Nat} {v : Value} {l : List UInt8} {w w' : World} (h : Bld B b v l w) (hm : Mod (fun k => k = b ∨ v.ownBlock = some k) w w') : Mod (fun k => B ≤ k) w w' :=
  hm.mono fun k _ hk => by
    rcases hk with rfl | hk
    · exact h.le
    · exact h.ge k hk
theorem _root_.Go.Proofs.YtkpdhnkiabgghaaDoor.Bld.far {B b : Nat} {v : Value} {l : List UInt8} {w w' : World} (h : Bld B b v l w) (hm : Mod (fun k => k = b ∨ v.ownBlock = some k) w w') {k : Nat} {cs : Array Value} {t : TypeId} (hk : w.heap[k]? = some (.cells cs t (0, 0)))
    (h1 : t ≠ 5) (h2 : t ≠ 57) : w'.heap[k]? = some (.cells cs t (0, 0)) := by
  obtain ⟨p, _, hb⟩ := h.blk
  refine hm.blk hk ?_
  rintro (h3 | h3)
  · exact typ_ne hk hb h2 h3
  · exact h.apart hk h1 h3
set_option maxRecDepth 100000 in
set_option maxHeartbeats 4000000 in
theorem field_any (B b : Nat) (vb : Value) (l : List UInt8) (ge gt : Nat) (v : Value) (mx : Nat) (es : List Ent) (told : Bool) (least last : Nat) (f : Fld) (w : World) (hG : G w) (h : Bld B b vb l w) (hE : IsEnc w ge gt v mx es told least last)
    (hB : B ≤ w.heap.size) (hn : f.n.size ≤ 65536) (hv : f.v.size ≤ 65536) (hlen : l.length ≤ 140737400000000) (hb10 : 10 ≤ B) :
    Calls Tryd.prog 23 #[.pointer (some ⟨ge, 0, none⟩), .pointer (some ⟨b, 0, none⟩), .agg #[.string f.n, .string f.v, .bool f.never]] w fun e w' => e = .returned (.tuple #[]) ∧ ∃ vb' v', Bld B b vb' (l ++ fieldL mx es f) w' ∧
      IsEnc w' ge gt v' mx (fieldT mx es f) told least last ∧ Mod (fun k => B ≤ k ∨ (k = gt ∨ v.ownBlock = some k)) w w' ∧ (∀ k, v'.ownBlock = some k → v.ownBlock = some k ∨ w.heap.size ≤ k) := by
  obtain ⟨n, s, nv⟩ := f
  simp only at hn hv
  have HFL : Hid (fieldL mx es ⟨n, s, nv⟩ = if nv = false ∧ (Table.findL es n s).2 = true then beginL 0 (Table.findL es n s).1 else beginL (whichL mx ⟨n, s, nv⟩) (Table.findL es n s).1 ++ partsL (Table.findL es n s).1 ⟨n, s, nv⟩ 2) := rfl
  have HFT : Hid (fieldT mx es ⟨n, s, nv⟩ = if (nv = false ∧ (Table.findL es n s).2 = true) ∨ whichL mx ⟨n, s, nv⟩ ≠ 1 then es else Table.addL mx es (n, s)) := rfl
  have hil := findL_le es n s
  have hel : es.length ≤ 2048 := by have := tsize_len es; have := hE.tab.le; omega
  obtain ⟨N, hN⟩ : ∃ N, N = w.heap.size := ⟨_, rfl⟩
  go_enter Tryd.func23, Tryd.ntmps23
  go_wp2_with fail
  have hF0 := heap_alloc_new w (.cells #[.string n, .string s, .bool nv] 40)
  have hW0 : Below w.heap.size w (w.alloc (.cells #[.string n, .string s, .bool nv] 40)) := (Below.refl _ _).alloc (Nat.le_refl _) _
  rw [← hN] at hF0
  rw [← hN]
  have HN := Lib.hid hN
  clear hN
  generalize w.alloc (.cells #[.string n, .string s, .bool nv] 40) = w0 at hF0 hW0
  have hE0 := hE.below hW0
  have hB0 := h.below hW0
  have hs0 := hW0.size
  have hNs := lt_of_blk hF0
  have hgs := lt_of_blk hE0.blk
  have hd0 : Below w0.heap.size w0 w0.drew := (Below.refl _ _).drew
  obtain ⟨I, HI, hne⟩ := mkInv (fun W => Below w0.heap.size w0 W) hd0
  have q0 : ∀ x : InW I, x.w.cell? ⟨ge, 0, none⟩ = some (.pointer (some ⟨gt, 0, none⟩)) := fun x => (((HI.out _).1 x.has).cell (p := ⟨ge, 0, none⟩) hgs).trans ((cell_of_row _ _ _ _ _ _ hE0.blk).trans rfl)
  have q1 : ∀ x : InW I, x.w.cell? ⟨N, 0, none⟩ = some (.string n) := fun x => (((HI.out _).1 x.has).cell (p := ⟨N, 0, none⟩) hNs).trans (cell_of_row _ _ _ _ _ _ hF0)
  have q2 : ∀ x : InW I, x.w.cell? ⟨N, 1, none⟩ = some (.string s) := fun x => (((HI.out _).1 x.has).cell (p := ⟨N, 1, none⟩) hNs).trans (cell_of_row _ _ _ _ _ _ hF0)
  obtain ⟨r, hr⟩ : ∃ r, r = Table.findL es n s := ⟨_, rfl⟩
  rw [← hr] at HFL HFT hil
  have HR := Lib.hid hr
  clear hr
  obtain ⟨ri, rb⟩ := r
  simp only at HFL HFT hil
  refine wp_region_inv_all I (by kernel_rfl) (by kernel_rfl) ((HI.out _).2 hd0) ?_
  repeat (go_big_quiet_step (((go_at_call 35; exact inv_call ((Table.find_any gt v mx es n s _ (hE0.tab.below ((HI.out _).1 (InW.has _)))).mono (by rintro e w' ⟨rfl, hb⟩; exact ⟨by rw [← HR.out], (HI.out _).2 (((HI.out _).1 (InW.has _)).trans (hb.mono ((HI.out _).1 (InW.has _)).size))⟩))))))
  refine wpQuiet_nil ?_
  intro wa ha
  replace ha := (HI.out _).1 ha
  clear hne HI
  clear q0 q1 q2
  have hFa := (ha.block _ hNs).trans hF0
  have hsa := ha.size
  have hsN := lt_of_blk hFa
  have hEa := hE0.below ha
  have hBa := hB0.below ha
  have hGa : G wa := hG.below (hW0.trans (ha.mono hs0)) hG.size
  have hMa : Below w.heap.size w wa := hW0.trans (ha.mono hs0)
  have x0 : wa.cell? ⟨N, 0, none⟩ = some (.string n) := (cell_of_row _ _ _ _ _ _ hFa).trans rfl
  have x1 : wa.cell? ⟨N, 1, none⟩ = some (.string s) := (cell_of_row _ _ _ _ _ _ hFa).trans rfl
  have x2 : wa.cell? ⟨N, 2, none⟩ = some (.bool nv) := (cell_of_row _ _ _ _ _ _ hFa).trans rfl
  clear hd0 ha
  by_cases hwhole : nv = false ∧ rb = true
  · obtain ⟨rfl, rfl⟩ := hwhole
    go_wp2_with fail
    refine (begin_any B b vb l 0 ri wa hGa hBa (by omega) (by omega) (by omega) (by omega)).mono ?_
    rintro e w2 ⟨rfl, vb2, hB2, hM2⟩
    go_wp2
    refine bodyPost_ret (results_none rfl _ _ _) rfl ?_
    refine ⟨rfl, vb2, v, by rw [HFL.out, if_pos (by simp)]; exact hB2, by rw [HFT.out, if_pos (by simp)]; exact hEa.wrote hBa hM2, ?_, fun k hk => .inl hk⟩
    exact (Mod.ofBelow hMa).trans (hBa.ge' hM2) (fun _ _ h => .inl h)
  · go_upto_block 0 with fail
    go_cut [8] (fun t8 wx => t8 = .int .i64 (whichL mx ⟨n, s, nv⟩ : Nat) ∧ Below wa.heap.size wa wx)
    case first =>
      cases nv with
      | true =>
        go_wp2
        go_meet
        exact ⟨rfl, Below.refl _ _⟩
      | false =>
        have hrb : rb = false := by
          cases rb with
          | false => rfl
          | true => exact absurd ⟨rfl, rfl⟩ hwhole
        subst hrb
        clear hwhole
        go_wp2_with fail
        have hgsa := lt_of_blk hEa.blk
        have hd0 : Below wa.heap.size wa wa.drew := (Below.refl _ _).drew
        obtain ⟨I, HI, hne⟩ := mkInv (fun W => Below wa.heap.size wa W) hd0
        have q0 : ∀ x : InW I, x.w.cell? ⟨ge, 0, none⟩ = some (.pointer (some ⟨gt, 0, none⟩)) := fun x => (((HI.out _).1 x.has).cell (p := ⟨ge, 0, none⟩) hgsa).trans ((cell_of_row _ _ _ _ _ _ hEa.blk).trans rfl)
        have q1 : ∀ x : InW I, x.w.cell? ⟨N, 0, none⟩ = some (.string n) := fun x => (((HI.out _).1 x.has).cell (p := ⟨N, 0, none⟩) hsN).trans x0
        have q2 : ∀ x : InW I, x.w.cell? ⟨N, 1, none⟩ = some (.string s) := fun x => (((HI.out _).1 x.has).cell (p := ⟨N, 1, none⟩) hsN).trans x1
        have q3 : ∀ x : InW I, x.w.cell? ⟨N, 2, none⟩ = some (.bool false) := fun x => (((HI.out _).1 x.has).cell (p := ⟨N, 2, none⟩) hsN).trans x2
        refine wp_region_inv_all I (by kernel_rfl) (by kernel_rfl) ((HI.out _).2 hd0) ?_
        repeat (go_big_quiet_step ((first | (go_at_call 36; exact inv_call ((esize_any n s false _ (by omega) (by omega)).mono (by rintro e w' ⟨rfl, rfl⟩; exact ⟨rfl, (HI.out _).2 (((HI.out _).1 (InW.has _)).alloc ((HI.out _).1 (InW.has _)).size _)⟩))) | (go_at_call 21; exact inv_call ((Table.max_any gt v mx es _ (hEa.tab.below ((HI.out _).1 (InW.has _)))).mono (by rintro e w' ⟨rfl, rfl⟩; exact ⟨rfl, InW.has _⟩))))))
        refine wpQuiet_nil ?_
        intro wb hb
        replace hb := (HI.out _).1 hb
        clear hne HI
        clear q0 q1 q2 q3
        by_cases hbig : mx < fsz ⟨n, s, false⟩
        · have hdec : decide ((mx : Int) < (n.size : Int) + (s.size : Int) + 32) = true := by simp only [fsz] at hbig; simp; omega
          have hwh : whichL mx ⟨n, s, false⟩ = 4 := by unfold whichL; rw [if_neg (by simp), if_pos hbig]
          rw [hdec]
          go_wp2
          go_meet
          exact ⟨by rw [hwh]; rfl, hb⟩
        · have hdec : decide ((mx : Int) < (n.size : Int) + (s.size : Int) + 32) = false := by simp only [fsz] at hbig; simp; omega
          have hwh : whichL mx ⟨n, s, false⟩ = 1 := by unfold whichL; rw [if_neg (by simp), if_neg hbig]
          rw [hdec]
          go_wp2
          go_meet
          exact ⟨by rw [hwh]; rfl, hb⟩
    case rest =>
      obtain ⟨rfl, hbx⟩ := hcut
      obtain ⟨wh, hwh⟩ : ∃ wh, wh = whichL mx ⟨n, s, nv⟩ := ⟨_, rfl⟩
      have hw5 : wh < 5 := by rw [hwh]; unfold whichL; split <;> (try split) <;> omega
      rw [← hwh] at HFL HFT
      rw [← hwh]
      have HWH := Lib.hid hwh
      clear hwh x0 x1 x2
      have HFL2 : Hid (fieldL mx es ⟨n, s, nv⟩ = beginL wh ri ++ partsL ri ⟨n, s, nv⟩ 2) := by show _ = _; rw [HFL.out, if_neg hwhole]
      have HFT2 : Hid (fieldT mx es ⟨n, s, nv⟩ = if wh = 1 then Table.addL mx es (n, s) else es) := by
        show _ = _; rw [HFT.out]
        by_cases h1 : wh = 1
        · rw [if_pos h1, if_neg (by rintro (h2 | h2)
                                    · exact hwhole h2
                                    · exact h2 h1)]
        · rw [if_neg h1, if_pos (.inr h1)]
      clear HFL HFT hwhole
      have hsx := hbx.size
      have hFx := (hbx.block _ hsN).trans hFa
      have hEx := hEa.below hbx
      have hBx := hBa.below hbx
      have hGx := hGa.below hbx hGa.size
      have hMx := hMa.trans (hbx.mono (by omega))
      clear hbx hFa hEa hBa hGa hMa hE0 hB0 hF0
      go_wp2_with fail
      refine (begin_any B b vb l wh ri _ hGx hBx (by omega) hw5 (by omega) (by omega)).mono ?_
      rintro e w2 ⟨rfl, vb2, hB2, hM2⟩
      have hE2 := hEx.wrote hBx hM2
      have hF2 := hBx.far hM2 hFx (by decide) (by decide)
      have hG2 := hGx.mod (hBx.ge' hM2) (fun k hk => by omega)
      have hK2 : Mod (fun k => B ≤ k) w w2 := (Mod.ofBelow (S := fun k => B ≤ k) hMx).trans (hBx.ge' hM2) (fun _ _ h => h)
      clear hM2 hBx hEx hGx hMx hFx
      have x0 : w2.cell? ⟨N, 0, none⟩ = some (.string n) := (cell_of_row _ _ 0 _ _ _ hF2).trans rfl
      have x1 : w2.cell? ⟨N, 1, none⟩ = some (.string s) := (cell_of_row _ _ 1 _ _ _ hF2).trans rfl
      have hbl := beginL_length wh ri
      have htn := textPut_length n.data.toList
      have hts := textPut_length s.data.toList
      simp only [Array.length_toList] at htn hts
      have hnn : n.data.size = n.size := rfl
      have hss : s.data.size = s.size := rfl
      rw [hnn] at htn
      rw [hss] at hts
      have hlen2 : (l ++ beginL wh ri).length ≤ 140737400000007 := by rw [List.length_append]; omega
      generalize hl2 : l ++ beginL wh ri = l2 at hB2 hlen2
      have HL2 : Hid (l ++ beginL wh ri = l2) := hl2
      clear hl2
      go_wp2_with fail
      obtain ⟨SL, hSL⟩ : ∃ SL, SL = w2.heap.size := ⟨_, rfl⟩
      have hsl := heap_alloc_new w2 (.cells #[.string n, .string s] 9 (0, 0))
      have hbA : Below w2.heap.size w2 (w2.alloc (.cells #[.string n, .string s] 9 (0, 0))) := (Below.refl _ _).alloc (Nat.le_refl _) _
      rw [← hSL] at hsl
      rw [← hSL]
      clear hSL
      go_loopw [6, 52] (fun t6 t52 wr => ∃ (k i : Nat) (vbk : Value), t6 = .int .i64 i ∧ t52 = .int .i64 k ∧ k ≤ 2 ∧ i = (if k = 0 then ri else 0) ∧ wr.heap[SL]? = some (.cells #[.string n, .string s] 9 (0, 0)) ∧ wr.heap[N]? = some (.cells #[.string n, .string s, .bool nv] 40 (0, 0)) ∧
        Bld B b vbk (l2 ++ partsL ri ⟨n, s, nv⟩ k) wr ∧ IsEnc wr ge gt v mx es told least last ∧ G wr ∧ Mod (fun k => B ≤ k) w wr) (fun _ t _ => 2 - (intOf t).toNat)
      case atStart =>
        exact ⟨0, ri, vb2, rfl, rfl, by omega, rfl, hsl, (hbA.block _ (lt_of_blk hF2)).trans hF2, by rw [partsL, List.append_nil]; exact hB2.below hbA, hE2.below hbA, hG2.below hbA hG2.size, hK2.below hbA⟩
      case round =>
        obtain ⟨k, i, vbk, rfl, rfl, hk, hi, hsl, hFr, hBr, hEr, hGr, hKr⟩ := hrel
        have hs3 := hKr.size
        by_cases hk2 : k < 2
        · have c0 := (cell_of_row wr SL 0 _ _ _ hsl).trans rfl
          have c1 := (cell_of_row wr SL 1 _ _ _ hsl).trans rfl
          have hk01 : k = 0 ∨ k = 1 := by omega
          rcases hk01 with rfl | rfl
          · by_cases hr0 : 0 < ri
            · obtain rfl : i = ri := by rw [hi]; rfl
              have hdec : decide ((0 : Int) < (i : Int)) = true := by simp; omega
              clear hi
              go_wp2
              go_roundw
              case rel =>
                exact ⟨1, 0, vbk, rfl, rfl, by omega, rfl, hsl, hFr, by simpa [partsL, hr0] using hBr, hEr, hGr, hKr⟩
              case measure => decide
            · obtain rfl : i = 0 := by rw [hi]; simp; omega
              clear hi
              go_wp2_with fail
              refine (Text.put_any n wr hGr (by omega)).mono ?_
              rintro e w3 ⟨rfl, hb3⟩
              go_wp2_with fail
              have hs4 := hb3.size
              refine (write_any B b vbk _ (mk (Text.textPut n.data.toList)) w3 (hBr.below hb3) (by omega) (by rw [mk_size, partsL, List.append_nil]; omega)).mono ?_
              rintro e w4 ⟨rfl, vb4, hB4, hM4⟩
              go_wp2
              have hsl3 := (hb3.block _ (lt_of_blk hsl)).trans hsl
              have hF3 := (hb3.block _ (lt_of_blk hFr)).trans hFr
              have hB3 := hBr.below hb3
              go_roundw
              case rel =>
                refine ⟨1, 0, vb4, rfl, rfl, by omega, rfl, hB3.far hM4 hsl3 (by decide) (by decide), hB3.far hM4 hF3 (by decide) (by decide), ?_, (hEr.below hb3).wrote hB3 hM4, (hGr.below hb3 hGr.size).mod (hB3.ge' hM4) (fun k hk => by omega), (hKr.below hb3).trans (hB3.ge' hM4) (fun _ _ h => h)⟩
                simpa [partsL, hr0, mk_list] using hB4
              case measure => decide
          · obtain rfl : i = 0 := by rw [hi]; rfl
            clear hi
            go_wp2_with fail
            refine (Text.put_any s wr hGr (by omega)).mono ?_
            rintro e w3 ⟨rfl, hb3⟩
            go_wp2_with fail
            have hs4 := hb3.size
            have hpl : (partsL ri ⟨n, s, nv⟩ 1).length ≤ 65543 := by
              simp only [partsL]; split
              · simp
              · omega
            refine (write_any B b vbk _ (mk (Text.textPut s.data.toList)) w3 (hBr.below hb3) (by omega) (by rw [mk_size, List.length_append]; omega)).mono ?_
            rintro e w4 ⟨rfl, vb4, hB4, hM4⟩
            go_wp2
            have hsl3 := (hb3.block _ (lt_of_blk hsl)).trans hsl
            have hF3 := (hb3.block _ (lt_of_blk hFr)).trans hFr
            have hB3 := hBr.below hb3
            go_roundw
            case rel =>
              refine ⟨2, 0, vb4, rfl, rfl, by omega, rfl, hB3.far hM4 hsl3 (by decide) (by decide), hB3.far hM4 hF3 (by decide) (by decide), ?_, (hEr.below hb3).wrote hB3 hM4, (hGr.below hb3 hGr.size).mod (hB3.ge' hM4) (fun k hk => by omega), (hKr.below hb3).trans (hB3.ge' hM4) (fun _ _ h => h)⟩
              simpa [partsL, mk_list] using hB4
            case measure => decide
        · obtain rfl : k = 2 := by omega
          have HL3 : Hid (l ++ fieldL mx es ⟨n, s, nv⟩ = l2 ++ partsL ri ⟨n, s, nv⟩ 2) := by show _ = _; rw [HFL2.out, ← List.append_assoc, HL2.out]
          by_cases hw1 : wh = 1
          · have HT3 : Hid (fieldT mx es ⟨n, s, nv⟩ = Table.addL mx es (n, s)) := by show _ = _; rw [HFT2.out, if_pos hw1]
            have hdec : (((wh : Nat) : Int) == 1) = true := by rw [hw1]; rfl
            go_wp2_with fail
            have hge := lt_of_blk hEr.blk
            have hNr := lt_of_blk hFr
            have hd0 : Below wr.heap.size wr wr.drew := (Below.refl _ _).drew
            obtain ⟨I, HI, hne⟩ := mkInv (fun W => Below wr.heap.size wr W) hd0
            have q0 : ∀ x : InW I, x.w.cell? ⟨ge, 0, none⟩ = some (.pointer (some ⟨gt, 0, none⟩)) := fun x => (((HI.out _).1 x.has).cell (p := ⟨ge, 0, none⟩) hge).trans ((cell_of_row _ _ _ _ _ _ hEr.blk).trans rfl)
            have q1 : ∀ x : InW I, x.w.cell? ⟨N, 0, none⟩ = some (.string n) := fun x => (((HI.out _).1 x.has).cell (p := ⟨N, 0, none⟩) hNr).trans (cell_of_row _ _ _ _ _ _ hFr)
            have q2 : ∀ x : InW I, x.w.cell? ⟨N, 1, none⟩ = some (.string s) := fun x => (((HI.out _).1 x.has).cell (p := ⟨N, 1, none⟩) hNr).trans (cell_of_row _ _ _ _ _ _ hFr)
            refine wp_region_inv I 8 (by kernel_rfl) (by kernel_rfl) ((HI.out _).2 hd0) ?_
            simp only [List.take_succ_cons, List.take_zero, List.drop_succ_cons, List.drop_zero]
            repeat (go_big_quiet_step ((fail)))
            refine wpQuiet_nil ?_
            intro w3 hb3
            replace hb3 := (HI.out _).1 hb3
            clear hne HI
            clear q0 q1 q2
            go_wp2_with fail
            have hE3 := hEr.below hb3
            have hB3 := hBr.below hb3
            refine (Table.add_any gt v mx es n s w3 hE3.tab (by omega) (by omega)).mono ?_
            rintro e w4 ⟨rfl, v4, hT4, hM4, hv4⟩
            go_wp2
            go_end0
            refine ⟨rfl, vbk, v4, ?_, ?_, ?_, fun k hk => ?_⟩
            · rw [HL3.out]; exact hB3.turned hE3.tab hM4
            · rw [HT3.out]
              refine ⟨hM4.blk hE3.blk ?_, hT4⟩
              rintro (h1 | h1)
              · exact typ_ne hE3.blk hE3.tab.blk (by decide) h1
              · obtain ⟨cur, hc⟩ := hE3.tab.own.row _ h1
                exact typ_ne hE3.blk hc (by decide) rfl
            · exact (((hKr.below hb3).mono (T := fun k => B ≤ k ∨ k = gt ∨ v.ownBlock = some k) (fun _ _ h => .inl h)).trans (hM4.mono (T := fun k => B ≤ k ∨ k = gt ∨ v.ownBlock = some k) (fun _ _ h => .inr h)) (fun _ _ h => h))
            · rcases hv4 k hk with h1 | h1
              · exact .inl h1
              · have := hb3.size; exact .inr (by omega)
          · have HT3 : Hid (fieldT mx es ⟨n, s, nv⟩ = es) := by show _ = _; rw [HFT2.out, if_neg hw1]
            have hdec : (((wh : Nat) : Int) == 1) = false := by simp; omega
            go_wp2
            go_end0
            exact ⟨rfl, vbk, v, by rw [HL3.out]; exact hBr, by rw [HT3.out]; exact hEr, hKr.mono (fun _ _ h => .inl h), fun k hk => .inl hk⟩
end Pack
end Go.Proofs.YtkpdhnkiabgghaaDoor
