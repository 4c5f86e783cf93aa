/- Layer 5, pack: the encoder. -/
import Derived.Test.YtkpdhnkiabgghaaDoorEncF
import Derived.Test.YtkpdhnkiabgghaaDoorRds
namespace Go.Proofs.YtkpdhnkiabgghaaDoor
open Go.RowKit
namespace Pack
/-- What an encoder knows. -/
structure ES where
  mx : Nat
  es : List Ent
  told : Bool
  least : Nat
  last : Nat
def ES.new : ES := ⟨4096, [], false, 0, 0⟩
def clampN (n : Int) (m : Nat) : Nat := (min (max n 0) m).toNat
def ES.set (st : ES) (n : Int) : ES := { st with told := true, least := min (if st.told then st.least else clampN n 4096) (clampN n 4096), last := clampN n 4096 }
/-- The changes of the max ahead of the fields. -/
def preL (st : ES) : List UInt8 :=
  if st.told then (if st.least < st.mx ∧ st.least < st.last then beginL 2 st.least ++ beginL 2 st.last else if st.last ≠ st.mx then beginL 2 st.last else []) else []
def preT (st : ES) : Nat × List Ent :=
  if st.told then (if st.least < st.mx ∧ st.least < st.last then (st.last, Table.shrinkL st.last (Table.shrinkL st.least st.es)) else if st.last ≠ st.mx then (st.last, Table.shrinkL st.last st.es) else (st.mx, st.es)) else (st.mx, st.es)
def fieldsL (mx : Nat) : List Ent → List Fld → List UInt8
  | _, [] => []
  | es, f :: fs => fieldL mx es f ++ fieldsL mx (fieldT mx es f) fs
def fieldsT (mx : Nat) : List Ent → List Fld → List Ent
  | es, [] => es
  | es, f :: fs => fieldsT mx (fieldT mx es f) fs
def encL (st : ES) (fs : List Fld) : List UInt8 := preL st ++ fieldsL (preT st).1 (preT st).2 fs
def ES.next (st : ES) (fs : List Fld) : ES := { st with mx := (preT st).1, es := fieldsT (preT st).1 (preT st).2 fs, told := false }
abbrev IsE (w : World) (ge gt : Nat) (v : Value) (st : ES) : Prop := IsEnc w ge gt v st.mx st.es st.told st.least st.last
theorem clampN_eq (n : Int) (m : Nat) : min (max n 0) (m : Int) = ((clampN n m : Nat) : Int) := by unfold clampN; omega
theorem clampN_le (n : Int) (m : Nat) : clampN n m ≤ m := by unfold clampN; omega
theorem cell4 {w : World} {g : Nat} {a b c d : Value} {t : TypeId} (h : w.heap[g]? = some (.cells #[a, b, c, d] t (0, 0))) :
    w.cell? ⟨g, 0, none⟩ = some a ∧ w.cell? ⟨g, 1, none⟩ = some b ∧ w.cell? ⟨g, 2, none⟩ = some c ∧ w.cell? ⟨g, 3, none⟩ = some d ∧ w.frozen? ⟨g, 1, none⟩ = false ∧ w.frozen? ⟨g, 2, none⟩ = false ∧ w.frozen? ⟨g, 3, none⟩ = false :=
  ⟨(cell_of_row w g 0 _ t (0, 0) h).trans rfl, (cell_of_row w g 1 _ t (0, 0) h).trans rfl, (cell_of_row w g 2 _ t (0, 0) h).trans rfl, (cell_of_row w g 3 _ t (0, 0) h).trans rfl, frozen_of_row w g 1 _ t h, frozen_of_row w g 2 _ t h, frozen_of_row w g 3 _ t h⟩
theorem made_any (w : World) : Calls Tryd.prog 20 #[] w fun e w' => e = .returned (.pointer (some ⟨w.heap.size, 0, none⟩)) ∧ IsTab w' w.heap.size (.slice none 0 0) 4096 [] ∧ Below w.heap.size w w' := by
  go_enter Tryd.func20, Tryd.ntmps20
  go_wp2_with fail
  refine (Table.new_any 4096 w (by omega)).mono ?_
  rintro e w1 ⟨rfl, hT, hb⟩
  go_wp2
  go_ret
  exact ⟨rfl, hT, hb⟩
theorem newEnc_any (w : World) : Calls Tryd.prog 6 #[] w fun e w' => ∃ ge gt v, e = .returned (.pointer (some ⟨ge, 0, none⟩)) ∧ IsE w' ge gt v ES.new ∧ Below w.heap.size w w' ∧ w.heap.size ≤ ge ∧ w.heap.size ≤ gt ∧ ∀ k, v.ownBlock = some k → w.heap.size ≤ k := by
  go_enter Tryd.func6, Tryd.ntmps6
  go_wp2_with fail
  refine (made_any w).mono ?_
  rintro e w1 ⟨rfl, hT, hb⟩
  go_wp2
  go_ret
  exact ⟨_, w.heap.size, .slice none 0 0, rfl, ⟨heap_alloc_new _ _, hT.below ((Below.refl _ _).alloc (Nat.le_refl _) _)⟩, hb.alloc hb.size _, hb.size, Nat.le_refl _, fun k hk => by cases hk⟩
set_option maxRecDepth 100000 in
theorem setMaxE_any (ge gt : Nat) (v : Value) (st : ES) (n : Int) (w : World) (h : IsE w ge gt v st) :
    Calls Tryd.prog 8 #[.pointer (some ⟨ge, 0, none⟩), .int .i64 n] w fun e w' => e = .returned (.tuple #[]) ∧ IsE w' ge gt v (st.set n) ∧ Mod (fun k => k = ge) w w' := by
  obtain ⟨mx, es, told, least, last⟩ := st
  have hb := h.blk
  simp only at hb
  have hne := typ_ne h.blk h.tab.blk (by decide)
  have hT := h.tab
  simp only at hT
  obtain ⟨c0, c1, c2, c3, f1, f2, f3⟩ := cell4 hb
  obtain ⟨m, hm⟩ : ∃ m, m = clampN n 4096 := ⟨_, rfl⟩
  have hc : min (max n 0) 4096 = ((m : Nat) : Int) := by rw [hm]; exact clampN_eq n 4096
  have hm4 : m ≤ 4096 := by rw [hm]; exact clampN_le n 4096
  have HST : Hid (ES.set ⟨mx, es, told, least, last⟩ n = ⟨mx, es, true, min (if told then least else m) m, m⟩) := by show _ = _; rw [hm]; rfl
  clear hm
  have hfin : ∀ (w' : World) (a b : Nat), w'.heap[ge]? = some (.cells #[.pointer (some ⟨gt, 0, none⟩), .bool true, .int .i64 (a : Int), .int .i64 (b : Int)] 51 (0, 0)) → Mod (fun k => k = ge) w w' → IsE w' ge gt v ⟨mx, es, true, a, b⟩ := fun w' a b hb' hM =>
    ⟨hb', hT.mod hM (fun e => hne e.symm) (fun k hk e => by obtain ⟨cur, hc⟩ := hT.own.row k hk; subst e; rw [hb] at hc; cases hc)⟩
  have HF := Lib.hid hfin
  clear hfin h hT
  cases told with
  | true =>
    have hmin : min (least : Int) (m : Int) = ((min least m : Nat) : Int) := by omega
    go_enter Tryd.func8, Tryd.ntmps8
    go_wp2
    go_end0
    have hM : Mod (fun k => k = ge) w ((w.setCell ⟨ge, 2, none⟩ (.int .i64 ((min least m : Nat) : Int))).setCell ⟨ge, 3, none⟩ (.int .i64 (m : Int))) := ((Mod.refl (fun k => k = ge) w).setCell (p := ⟨ge, 2, none⟩) (fun _ => rfl) _).setCell (p := ⟨ge, 3, none⟩) (fun _ => rfl) _
    refine ⟨rfl, by rw [HST.out]; exact HF.out _ _ _ (heap_setCell_same _ ge 3 _ _ _ (heap_setCell_same w ge 2 _ _ _ hb)) hM, hM⟩
  | false =>
    have hmin : min (m : Int) (m : Int) = ((m : Nat) : Int) := by omega
    go_enter Tryd.func8, Tryd.ntmps8
    go_wp2
    go_end0
    have h4 := heap_setCell_same _ ge 3 _ _ (.int .i64 (m : Int)) (heap_setCell_same _ ge 2 _ _ (.int .i64 (m : Int)) (heap_setCell_same _ ge 2 _ _ (.int .i64 (m : Int)) (heap_setCell_same w ge 1 _ _ (.bool true) hb)))
    have hM : Mod (fun k => k = ge) w ((((w.setCell ⟨ge, 1, none⟩ (.bool true)).setCell ⟨ge, 2, none⟩ (.int .i64 (m : Int))).setCell ⟨ge, 2, none⟩ (.int .i64 (m : Int))).setCell ⟨ge, 3, none⟩ (.int .i64 (m : Int))) :=
      ((((Mod.refl (fun k => k = ge) w).setCell (p := ⟨ge, 1, none⟩) (fun _ => rfl) _).setCell (p := ⟨ge, 2, none⟩) (fun _ => rfl) _).setCell (p := ⟨ge, 2, none⟩) (fun _ => rfl) _).setCell (p := ⟨ge, 3, none⟩) (fun _ => rfl) _
    have hmm : min (if false = true then least else m) m = m := by simp
    rw [hmm] at HST
    exact ⟨rfl, by rw [HST.out]; exact HF.out _ _ _ h4 hM, hM⟩
def fldC (fs : List Fld) : List Value := fs.flatMap fun f => [Value.string f.n, Value.string f.v, Value.bool f.never]
theorem fldC_length (fs : List Fld) : (fldC fs).length = fs.length * 3 := by
  induction fs with
  | nil => rfl
  | cons c l ih => simp only [fldC, List.flatMap_cons, List.length_append] at ih ⊢; simp [ih]; omega
theorem fldC_get : ∀ (l : List Fld) (k : Nat) (f : Fld), l[k]? = some f → (fldC l)[k * 3]? = some (.string f.n) ∧ (fldC l)[k * 3 + 1]? = some (.string f.v) ∧ (fldC l)[k * 3 + 2]? = some (.bool f.never)
  | [], k, f, h => by simp at h
  | d :: l, 0, f, h => by simp at h; subst h; simp [fldC]
  | d :: l, k + 1, f, h => by
    have := fldC_get l k f (by simpa using h)
    simp only [fldC, List.flatMap_cons, List.cons_append, List.nil_append] at this ⊢
    rw [show (k + 1) * 3 = k * 3 + 1 + 1 + 1 from by omega]
    simpa using this
def short (f : Fld) : Prop := f.n.size ≤ 65536 ∧ f.v.size ≤ 65536
theorem fieldL_length (mx : Nat) (es : List Ent) (f : Fld) (h : short f) : (fieldL mx es f).length ≤ 131093 := by
  have h1 := textPut_length f.n.data.toList
  have h2 := textPut_length f.v.data.toList
  have h3 : f.n.data.toList.length = f.n.size := by simp
  have h4 : f.v.data.toList.length = f.v.size := by simp
  obtain ⟨h5, h6⟩ := h
  unfold fieldL
  split
  · have := beginL_length 0 (Table.findL es f.n f.v).1; omega
  · have := beginL_length (whichL mx f) (Table.findL es f.n f.v).1
    simp only [List.length_append, partsL]
    split <;> simp <;> omega
theorem preL_length (st : ES) : (preL st).length ≤ 14 := by
  have h1 := beginL_length 2 st.least
  have h2 := beginL_length 2 st.last
  unfold preL
  split
  · split
    · simp; omega
    · split <;> simp <;> omega
  · simp
theorem fieldsL_snoc (mx : Nat) (f : Fld) : ∀ (l : List Fld) (es : List Ent), fieldsL mx es (l ++ [f]) = fieldsL mx es l ++ fieldL mx (fieldsT mx es l) f
  | [], es => by simp [fieldsL, fieldsT]
  | d :: l, es => by simp only [List.cons_append, fieldsL, fieldsT]; rw [fieldsL_snoc mx f l, List.append_assoc]
theorem fieldsT_snoc (mx : Nat) (f : Fld) : ∀ (l : List Fld) (es : List Ent), fieldsT mx es (l ++ [f]) = fieldT mx (fieldsT mx es l) f
  | [], es => rfl
  | d :: l, es => by simp only [List.cons_append, fieldsT]; rw [fieldsT_snoc mx f l]
theorem fieldsL_length (mx : Nat) : ∀ (l : List Fld) (es : List Ent), (∀ f ∈ l, short f) → (fieldsL mx es l).length ≤ l.length * 131093
  | [], es, _ => by simp [fieldsL]
  | f :: l, es, h => by
    have h1 := fieldL_length mx es f (h f (by simp))
    have h2 := fieldsL_length mx l (fieldT mx es f) (fun g hg => h g (by simp [hg]))
    simp only [fieldsL, List.length_append, List.length_cons]
    omega
theorem IsEnc.apart {w : World} {ge gt : Nat} {v : Value} {mx : Nat} {es : List Ent} {told : Bool} {least last : Nat} (hE : IsEnc w ge gt v mx es told least last) {lv : Value} {n : Nat} {xs : List Value} (hl : Own w 40 3 lv n xs) :
    ∀ k, lv.ownBlock = some k → k ≠ ge ∧ k ≠ gt ∧ v.ownBlock ≠ some k := by
  intro k hk
  obtain ⟨cur, hc⟩ := hl.row k hk
  refine ⟨typ_ne hc hE.blk (by decide), typ_ne hc hE.tab.blk (by decide), fun h => ?_⟩
  obtain ⟨cur2, hc2⟩ := hE.tab.own.row k h
  exact typ_ne hc hc2 (by decide) rfl
set_option maxRecDepth 100000 in
theorem encode_long (ge : Nat) (lv : Value) (fs : List Fld) (w : World) (hl : Rds w 3 lv fs.length (fldC fs)) (hlong : ¬ ∀ f ∈ fs, short f) (hn : fs.length ≤ 1048576) :
    Calls Tryd.prog 10 #[.pointer (some ⟨ge, 0, none⟩), lv] w fun e w' => e = .returned (.tuple #[.string ⟨#[]⟩, .int .i64 3]) ∧ Below w.heap.size w w' := by
  obtain ⟨A, cap, rfl, hc1, hc2⟩ := hl.form'
  go_enter Tryd.func10, Tryd.ntmps10
  go_wp2_with fail
  go_loopw [14] (fun t wr => ∃ k : Nat, t = .int .i64 k ∧ k ≤ fs.length ∧ (∀ j f, j < k → fs[j]? = some f → short f) ∧ Below w.heap.size w wr) (fun t _ => fs.length - (intOf t).toNat)
  case atStart => exact ⟨0, rfl, by omega, fun j f hj => by omega, Below.refl _ _⟩
  case round =>
    obtain ⟨k, rfl, hk, hsh, hbr⟩ := hrel
    by_cases hlt : k < fs.length
    · obtain ⟨f, hf⟩ : ∃ f, fs[k]? = some f := ⟨fs[k], List.getElem?_eq_getElem _⟩
      obtain ⟨x0, x1, x2⟩ := fldC_get fs k f hf
      have hlr := (Mod.ofBelow (S := fun _ => False) hbr).rds hl (fun _ _ _ h => h)
      obtain ⟨a, off, cap', hv', hcc1, hcc2, ha⟩ := hlr.form (by omega)
      cases hv'
      have p0 := hlr.cellAt (k * 3) (off + k * 3) _ rfl x0
      have p1 := hlr.cellAt (k * 3 + 1) (off + k * 3 + 1) _ (by omega) x1
      have p2 := hlr.cellAt (k * 3 + 2) (off + k * 3 + 2) _ (by omega) x2
      have h4 : (k : Int) < (fs.length : Int) := by omega
      have h5 : (0 : Int) ≤ (k : Int) := by omega
      have hsr := hbr.size
      have HF := Lib.hid hf
      have HL := Lib.hid hl
      have HLR := Lib.hid hlr
      have HS := Lib.hid hsh
      clear hf hl hlr hsh x0 x1 x2
      obtain ⟨n, s, nv⟩ := f
      by_cases h1 : n.size ≤ 65536
      · have d1 : decide ((65536 : Int) < (n.size : Int)) = false := by simp; omega
        by_cases h2 : s.size ≤ 65536
        · have d2 : decide ((65536 : Int) < (s.size : Int)) = false := by simp; omega
          go_wp2
          go_roundw
          case rel =>
            refine ⟨k + 1, rfl, by omega, fun j f hj hjf => ?_, hbr.alloc hsr _⟩
            by_cases hjk : j = k
            · subst hjk; rw [HF.out] at hjf; cases hjf; exact ⟨h1, h2⟩
            · exact HS.out j f (by omega) hjf
          case measure => simp [intOf] <;> omega
        · have d2 : decide ((65536 : Int) < (s.size : Int)) = true := by simp; omega
          go_wp2
          go_ret2
          exact ⟨rfl, hbr.alloc hsr _⟩
      · have d1 : decide ((65536 : Int) < (n.size : Int)) = true := by simp; omega
        go_wp2
        go_ret2
        exact ⟨rfl, hbr.alloc hsr _⟩
    · exfalso
      refine hlong fun f hf => ?_
      obtain ⟨j, hj, hjf⟩ := List.getElem_of_mem hf
      exact hsh j f (by omega) (by rw [List.getElem?_eq_getElem hj, hjf])
set_option maxRecDepth 100000 in
set_option maxHeartbeats 4000000 in
theorem encode_ok (ge gt : Nat) (v : Value) (st : ES) (lv : Value) (fs : List Fld) (w : World) (hG : G w) (hE : IsE w ge gt v st) (hl : Rds w 3 lv fs.length (fldC fs)) (hap : 0 < fs.length → ∀ k, lv.ownBlock = some k → k ≠ ge ∧ k ≠ gt ∧ v.ownBlock ≠ some k) (hall : ∀ f ∈ fs, short f) (hn : fs.length ≤ 1048576) (hst : st.least ≤ 4096 ∧ st.last ≤ 4096) (hge10 : 10 ≤ ge) (hgt10 : 10 ≤ gt) (hv10 : ∀ k, v.ownBlock = some k → 10 ≤ k) :
    Calls Tryd.prog 10 #[.pointer (some ⟨ge, 0, none⟩), lv] w fun e w' => e = .returned (.tuple #[.string (mk (encL st fs)), .int .i64 0]) ∧ ∃ v', IsE w' ge gt v' (st.next fs) ∧ Mod (fun k => k = ge ∨ k = gt ∨ v.ownBlock = some k) w w' ∧
      ∀ k, v'.ownBlock = some k → v.ownBlock = some k ∨ w.heap.size ≤ k := by
  obtain ⟨A, cap, rfl, hc1, hc2⟩ := hl.form'
  obtain ⟨mx, es, told, least, last⟩ := st
  obtain ⟨hst1, hst2⟩ := hst
  simp only at hst1 hst2
  have HPL : Hid (preL ⟨mx, es, told, least, last⟩ = if told then (if least < mx ∧ least < last then beginL 2 least ++ beginL 2 last else if last ≠ mx then beginL 2 last else []) else []) := rfl
  have HPT : Hid (preT ⟨mx, es, told, least, last⟩ = if told then (if least < mx ∧ least < last then (last, Table.shrinkL last (Table.shrinkL least es)) else if last ≠ mx then (last, Table.shrinkL last es) else (mx, es)) else (mx, es)) := rfl
  go_enter Tryd.func10, Tryd.ntmps10
  go_wp2_with fail
  go_loopw [14] (fun t wr => ∃ k : Nat, t = .int .i64 k ∧ k ≤ fs.length ∧ Below w.heap.size w wr) (fun t _ => fs.length - (intOf t).toNat)
  case atStart => exact ⟨0, rfl, by omega, Below.refl _ _⟩
  case round =>
    obtain ⟨k, rfl, hk, hbr⟩ := hrel
    by_cases hlt : k < fs.length
    · obtain ⟨f, hf⟩ : ∃ f, fs[k]? = some f := ⟨fs[k], List.getElem?_eq_getElem _⟩
      obtain ⟨h1, h2⟩ := hall f (List.mem_of_getElem? hf)
      obtain ⟨x0, x1, x2⟩ := fldC_get fs k f hf
      have hlr := (Mod.ofBelow (S := fun _ => False) hbr).rds hl (fun _ _ _ h => h)
      obtain ⟨a, off, cap', hv', hcc1, hcc2, ha⟩ := hlr.form (by omega)
      cases hv'
      have p0 := hlr.cellAt (k * 3) (off + k * 3) _ rfl x0
      have p1 := hlr.cellAt (k * 3 + 1) (off + k * 3 + 1) _ (by omega) x1
      have p2 := hlr.cellAt (k * 3 + 2) (off + k * 3 + 2) _ (by omega) x2
      have h4 : (k : Int) < (fs.length : Int) := by omega
      have h5 : (0 : Int) ≤ (k : Int) := by omega
      have hsr := hbr.size
      have HF := Lib.hid hf
      have HL := Lib.hid hl
      have HLR := Lib.hid hlr
      clear hf hl hlr x0 x1 x2 hall
      obtain ⟨n, s, nv⟩ := f
      simp only at h1 h2
      have d1 : decide ((65536 : Int) < (n.size : Int)) = false := by simp; omega
      have d2 : decide ((65536 : Int) < (s.size : Int)) = false := by simp; omega
      go_wp2
      go_roundw
      case rel => exact ⟨k + 1, rfl, by omega, hbr.alloc hsr _⟩
      case measure => simp [intOf] <;> omega
    · obtain rfl : k = fs.length := by omega
      obtain ⟨w0, rfl⟩ : ∃ w0 : World, w0 = wr := ⟨_, rfl⟩
      have hE0 := hE.mod (S := fun _ => False) (Mod.ofBelow hbr) (fun h => h) (fun h => h) (fun _ _ h => h)
      have hG0 := hG.below hbr hG.size
      have hl0 := (Mod.ofBelow (S := fun _ => False) hbr).rds hl (fun _ _ _ h => h)
      have hgl0 := lt_of_blk hE0.blk
      have hB1 := Bld.new w0
      have hbA : Below w0.heap.size w0 (w0.alloc (.cells #[.pointer none, .slice none 0 0] 57)) := (Below.refl _ _).alloc (Nat.le_refl _) _
      have hE1 := hE0.below hbA
      have c1 := (cell4 hE0.blk).2.1
      have n1 := World.new_ne w0 _ c1
      go_upto_if 32 with fail
      obtain ⟨w2, hw2⟩ : ∃ w2, w2 = w0.alloc (.cells #[.pointer none, .slice none 0 0] 57) := ⟨_, rfl⟩
      rw [← hw2] at hB1 hbA hE1
      rw [← hw2]
      have hG2 := hG0.below hbA hG0.size
      have hK2 : Mod (fun k => k = ge ∨ k = gt ∨ v.ownBlock = some k) w0 w2 := Mod.ofBelow hbA
      have hs2 := hbA.size
      clear hw2 c1 n1
      go_cut [8] (fun s8 wx => s8 = .pointer (some ⟨w0.heap.size, 0, none⟩) ∧ ∃ vb v1, Bld w0.heap.size w0.heap.size vb (preL ⟨mx, es, told, least, last⟩) wx ∧ IsEnc wx ge gt v1 (preT ⟨mx, es, told, least, last⟩).1 (preT ⟨mx, es, told, least, last⟩).2 false least last ∧ G wx ∧
        Mod (fun k => k = ge ∨ k = gt ∨ v.ownBlock = some k) w0 wx ∧ v1.ownBlock = v.ownBlock)
      case first =>
        cases told with
        | false =>
          go_wp2
          go_meet
          exact ⟨rfl, _, v, by rw [HPL.out]; exact hB1, by rw [HPT.out]; exact hE1, hG2, hK2, rfl⟩
        | true =>
          obtain ⟨c0, c1, c2, c3, f1, f2, f3⟩ := cell4 hE1.blk
          go_wp2_with fail
          refine (Table.max_any gt v mx es w2 hE1.tab).mono ?_
          rintro e w' ⟨rfl, rfl⟩
          go_wp2_with fail
          by_cases h1 : least < mx
          · have d1 : decide ((least : Int) < (mx : Int)) = true := by simp; omega
            by_cases h2 : least < last
            · have d2 : decide ((least : Int) < (last : Int)) = true := by simp; omega
              have hcase : least < mx ∧ least < last := ⟨h1, h2⟩
              have hgx := lt_of_blk hE1.blk
              have hd0 : Below w2.heap.size w2 w2.drew := (Below.refl _ _).drew
              obtain ⟨I, HI, hne⟩ := mkInv (fun W => Below w2.heap.size w2 W) hd0
              have q2 : ∀ x : InW I, x.w.cell? ⟨ge, 2, none⟩ = some (.int .i64 (least : Int)) := fun x => (((HI.out _).1 x.has).cell (p := ⟨ge, 2, none⟩) hgx).trans ((cell_of_row _ _ _ _ _ _ hE1.blk).trans rfl)
              have q3 : ∀ x : InW I, x.w.cell? ⟨ge, 3, none⟩ = some (.int .i64 (last : Int)) := fun x => (((HI.out _).1 x.has).cell (p := ⟨ge, 3, none⟩) hgx).trans ((cell_of_row _ _ _ _ _ _ hE1.blk).trans rfl)
              refine wp_region_inv_all I (by kernel_rfl) (by kernel_rfl) ((HI.out _).2 hd0) ?_
              repeat (go_big_quiet_step ((fail)))
              refine wpQuiet_nil ?_
              intro w3 hb3
              replace hb3 := (HI.out _).1 hb3
              clear hne HI
              clear q2 q3 c0 c1 c2 c3 f1 f2 f3
              have hE3 := hE1.below hb3
              have hB3 := hB1.below hb3
              have hG3 := hG2.below hb3 hG2.size
              have hK3 := hK2.below hb3
              obtain ⟨c0, c1, c2, c3, f1, f2, f3⟩ := cell4 hE3.blk
              have hs3 := hb3.size
              clear hb3 hE1 hB1 hG2 hK2
              go_wp2_with fail
              refine (resize_any w0.heap.size w0.heap.size _ _ ge gt v mx es true least last least w3 hG3 hB3 hE3 (by omega) (by omega) (by simp)).mono ?_
              rintro e w4 ⟨rfl, vb4, v4, hB4, hE4, hM4, hv4⟩
              have hK4 : Mod (fun k => k = ge ∨ k = gt ∨ v.ownBlock = some k) w0 w4 := hK3.trans (T := fun k => (k = w0.heap.size ∨ _) ∨ k = gt) hM4 (fun k hk h => by
                rcases h with (h | h) | h
                · omega
                · have := hB3.ge k h; omega
                · exact .inr (.inl h))
              have hG4 := hG3.mod hM4 (fun k h => by
                rcases h with (h | h) | h
                · have := hG0.size; omega
                · have := hB3.ge k h; have := hG0.size; omega
                · exact h ▸ hgt10)
              obtain ⟨c0, c1, c2, c3, f1, f2, f3⟩ := cell4 hE4.blk
              go_wp2_with fail
              refine (resize_any w0.heap.size w0.heap.size _ _ ge gt v4 _ _ true least last last w4 hG4 hB4 hE4 (by have := hM4.size; omega) (by omega) (by have := beginL_length 2 least; simp; omega)).mono ?_
              rintro e w5 ⟨rfl, vb5, v5, hB5, hE5, hM5, hv5⟩
              have hK5 : Mod (fun k => k = ge ∨ k = gt ∨ v.ownBlock = some k) w0 w5 := hK4.trans (T := fun k => (k = w0.heap.size ∨ _) ∨ k = gt) hM5 (fun k hk h => by
                rcases h with (h | h) | h
                · omega
                · have := hB4.ge k h; omega
                · exact .inr (.inl h))
              have hG5 := hG4.mod hM5 (fun k h => by
                rcases h with (h | h) | h
                · have := hG0.size; omega
                · have := hB4.ge k h; have := hG0.size; omega
                · exact h ▸ hgt10)
              obtain ⟨c0, c1, c2, c3, f1, f2, f3⟩ := cell4 hE5.blk
              go_wp2
              go_meet
              have hM : Mod (fun k => k = ge) w5 (w5.setCell ⟨ge, 1, none⟩ (.bool false)) := (Mod.refl (fun k => k = ge) w5).setCell (p := ⟨ge, 1, none⟩) (fun _ => rfl) _
              have hne := typ_ne hE5.blk hE5.tab.blk (by decide)
              refine ⟨rfl, vb5, v5, ?_, ?_, hG5.mod hM (fun k h => h ▸ hge10), hK5.trans hM (fun k _ h => .inl h), hv5.trans hv4⟩
              · rw [HPL.out]
                simp only [if_true]
                rw [if_pos hcase, ← List.nil_append (beginL 2 least ++ beginL 2 last), ← List.append_assoc]
                refine hB5.mod hM (fun h => ?_) (fun k hk h => ?_)
                · obtain ⟨p, _, hb⟩ := hB5.blk; exact typ_ne hE5.blk hb (by decide) h.symm
                · subst h; exact hB5.apart hE5.blk (by decide) hk
              · rw [HPT.out]
                simp only [if_true]
                rw [if_pos hcase]
                exact ⟨heap_setCell_same _ ge 1 _ _ _ hE5.blk, hE5.tab.mod hM (fun h => hne h.symm) (fun k hk h => by obtain ⟨cur, hc⟩ := hE5.tab.own.row k hk; subst h; rw [hE5.blk] at hc; cases hc)⟩
            · have d2 : decide ((least : Int) < (last : Int)) = false := by simp; omega
              have hcase : ¬ (least < mx ∧ least < last) := fun h => h2 h.2
              have hgx := lt_of_blk hE1.blk
              have hd0 : Below w2.heap.size w2 w2.drew := (Below.refl _ _).drew
              obtain ⟨I, HI, hne⟩ := mkInv (fun W => Below w2.heap.size w2 W) hd0
              have q2 : ∀ x : InW I, x.w.cell? ⟨ge, 2, none⟩ = some (.int .i64 (least : Int)) := fun x => (((HI.out _).1 x.has).cell (p := ⟨ge, 2, none⟩) hgx).trans ((cell_of_row _ _ _ _ _ _ hE1.blk).trans rfl)
              have q3 : ∀ x : InW I, x.w.cell? ⟨ge, 3, none⟩ = some (.int .i64 (last : Int)) := fun x => (((HI.out _).1 x.has).cell (p := ⟨ge, 3, none⟩) hgx).trans ((cell_of_row _ _ _ _ _ _ hE1.blk).trans rfl)
              refine wp_region_inv_all I (by kernel_rfl) (by kernel_rfl) ((HI.out _).2 hd0) ?_
              repeat (go_big_quiet_step ((fail)))
              refine wpQuiet_nil ?_
              intro w3 hb3
              replace hb3 := (HI.out _).1 hb3
              clear hne HI
              clear q2 q3 c0 c1 c2 c3 f1 f2 f3
              have hE3 := hE1.below hb3
              have hB3 := hB1.below hb3
              have hG3 := hG2.below hb3 hG2.size
              have hK3 := hK2.below hb3
              obtain ⟨c0, c1, c2, c3, f1, f2, f3⟩ := cell4 hE3.blk
              have hs3 := hb3.size
              clear hb3 hE1 hB1 hG2 hK2
              by_cases h3 : last = mx
              · have d3 : (((last : Nat) : Int) != (mx : Int)) = false := by simp; omega
                have H3 := Lib.hid h3
                clear h3
                go_wp2
                go_meet
                have hM : Mod (fun k => k = ge) w3 (w3.setCell ⟨ge, 1, none⟩ (.bool false)) := (Mod.refl (fun k => k = ge) w3).setCell (p := ⟨ge, 1, none⟩) (fun _ => rfl) _
                have hne := typ_ne hE3.blk hE3.tab.blk (by decide)
                refine ⟨rfl, .slice none 0 0, v, ?_, ?_, hG3.mod hM (fun k h => h ▸ hge10), hK3.trans hM (fun k _ h => .inl h), rfl⟩
                · rw [HPL.out]
                  simp only [if_true]
                  rw [if_neg hcase, if_neg (by simpa using H3.out)]
                  refine hB3.mod hM (fun h => ?_) (fun k hk h => ?_)
                  · obtain ⟨p, _, hb⟩ := hB3.blk; exact typ_ne hE3.blk hb (by decide) h.symm
                  · subst h; exact hB3.apart hE3.blk (by decide) hk
                · rw [HPT.out]
                  simp only [if_true]
                  rw [if_neg hcase, if_neg (by simpa using H3.out)]
                  exact ⟨heap_setCell_same _ ge 1 _ _ _ hE3.blk, hE3.tab.mod hM (fun h => hne h.symm) (fun k hk h => by obtain ⟨cur, hc⟩ := hE3.tab.own.row k hk; subst h; rw [hE3.blk] at hc; cases hc)⟩
              · have d3 : (((last : Nat) : Int) != (mx : Int)) = true := by simp; omega
                go_wp2_with fail
                refine (resize_any w0.heap.size w0.heap.size _ _ ge gt v mx es true least last last w3 hG3 hB3 hE3 (by omega) (by omega) (by simp)).mono ?_
                rintro e w4 ⟨rfl, vb4, v4, hB4, hE4, hM4, hv4⟩
                have hK4 : Mod (fun k => k = ge ∨ k = gt ∨ v.ownBlock = some k) w0 w4 := hK3.trans (T := fun k => (k = w0.heap.size ∨ _) ∨ k = gt) hM4 (fun k hk h => by
                  rcases h with (h | h) | h
                  · omega
                  · have := hB3.ge k h; omega
                  · exact .inr (.inl h))
                have hG4 := hG3.mod hM4 (fun k h => by
                  rcases h with (h | h) | h
                  · have := hG0.size; omega
                  · have := hB3.ge k h; have := hG0.size; omega
                  · exact h ▸ hgt10)
                obtain ⟨c0, c1, c2, c3, f1, f2, f3⟩ := cell4 hE4.blk
                go_wp2
                go_meet
                have hM : Mod (fun k => k = ge) w4 (w4.setCell ⟨ge, 1, none⟩ (.bool false)) := (Mod.refl (fun k => k = ge) w4).setCell (p := ⟨ge, 1, none⟩) (fun _ => rfl) _
                have hne := typ_ne hE4.blk hE4.tab.blk (by decide)
                refine ⟨rfl, vb4, v4, ?_, ?_, hG4.mod hM (fun k h => h ▸ hge10), hK4.trans hM (fun k _ h => .inl h), hv4⟩
                · rw [HPL.out]
                  simp only [if_true]
                  rw [if_neg hcase, if_pos h3, ← List.nil_append (beginL 2 last)]
                  refine hB4.mod hM (fun h => ?_) (fun k hk h => ?_)
                  · obtain ⟨p, _, hb⟩ := hB4.blk; exact typ_ne hE4.blk hb (by decide) h.symm
                  · subst h; exact hB4.apart hE4.blk (by decide) hk
                · rw [HPT.out]
                  simp only [if_true]
                  rw [if_neg hcase, if_pos h3]
                  exact ⟨heap_setCell_same _ ge 1 _ _ _ hE4.blk, hE4.tab.mod hM (fun h => hne h.symm) (fun k hk h => by obtain ⟨cur, hc⟩ := hE4.tab.own.row k hk; subst h; rw [hE4.blk] at hc; cases hc)⟩
          · have d1 : decide ((least : Int) < (mx : Int)) = false := by simp; omega
            have hcase : ¬ (least < mx ∧ least < last) := fun h => h1 h.1
            have hgx := lt_of_blk hE1.blk
            have hd0 : Below w2.heap.size w2 w2.drew := (Below.refl _ _).drew
            obtain ⟨I, HI, hne⟩ := mkInv (fun W => Below w2.heap.size w2 W) hd0
            have q2 : ∀ x : InW I, x.w.cell? ⟨ge, 2, none⟩ = some (.int .i64 (least : Int)) := fun x => (((HI.out _).1 x.has).cell (p := ⟨ge, 2, none⟩) hgx).trans ((cell_of_row _ _ _ _ _ _ hE1.blk).trans rfl)
            have q3 : ∀ x : InW I, x.w.cell? ⟨ge, 3, none⟩ = some (.int .i64 (last : Int)) := fun x => (((HI.out _).1 x.has).cell (p := ⟨ge, 3, none⟩) hgx).trans ((cell_of_row _ _ _ _ _ _ hE1.blk).trans rfl)
            refine wp_region_inv_all I (by kernel_rfl) (by kernel_rfl) ((HI.out _).2 hd0) ?_
            repeat (go_big_quiet_step ((fail)))
            refine wpQuiet_nil ?_
            intro w3 hb3
            replace hb3 := (HI.out _).1 hb3
            clear hne HI
            clear q2 q3 c0 c1 c2 c3 f1 f2 f3
            have hE3 := hE1.below hb3
            have hB3 := hB1.below hb3
            have hG3 := hG2.below hb3 hG2.size
            have hK3 := hK2.below hb3
            obtain ⟨c0, c1, c2, c3, f1, f2, f3⟩ := cell4 hE3.blk
            have hs3 := hb3.size
            clear hb3 hE1 hB1 hG2 hK2
            by_cases h3 : last = mx
            · have d3 : (((last : Nat) : Int) != (mx : Int)) = false := by simp; omega
              have H3 := Lib.hid h3
              clear h3
              go_wp2
              go_meet
              have hM : Mod (fun k => k = ge) w3 (w3.setCell ⟨ge, 1, none⟩ (.bool false)) := (Mod.refl (fun k => k = ge) w3).setCell (p := ⟨ge, 1, none⟩) (fun _ => rfl) _
              have hne := typ_ne hE3.blk hE3.tab.blk (by decide)
              refine ⟨rfl, .slice none 0 0, v, ?_, ?_, hG3.mod hM (fun k h => h ▸ hge10), hK3.trans hM (fun k _ h => .inl h), rfl⟩
              · rw [HPL.out]
                simp only [if_true]
                rw [if_neg hcase, if_neg (by simpa using H3.out)]
                refine hB3.mod hM (fun h => ?_) (fun k hk h => ?_)
                · obtain ⟨p, _, hb⟩ := hB3.blk; exact typ_ne hE3.blk hb (by decide) h.symm
                · subst h; exact hB3.apart hE3.blk (by decide) hk
              · rw [HPT.out]
                simp only [if_true]
                rw [if_neg hcase, if_neg (by simpa using H3.out)]
                exact ⟨heap_setCell_same _ ge 1 _ _ _ hE3.blk, hE3.tab.mod hM (fun h => hne h.symm) (fun k hk h => by obtain ⟨cur, hc⟩ := hE3.tab.own.row k hk; subst h; rw [hE3.blk] at hc; cases hc)⟩
            · have d3 : (((last : Nat) : Int) != (mx : Int)) = true := by simp; omega
              go_wp2_with fail
              refine (resize_any w0.heap.size w0.heap.size _ _ ge gt v mx es true least last last w3 hG3 hB3 hE3 (by omega) (by omega) (by simp)).mono ?_
              rintro e w4 ⟨rfl, vb4, v4, hB4, hE4, hM4, hv4⟩
              have hK4 : Mod (fun k => k = ge ∨ k = gt ∨ v.ownBlock = some k) w0 w4 := hK3.trans (T := fun k => (k = w0.heap.size ∨ _) ∨ k = gt) hM4 (fun k hk h => by
                rcases h with (h | h) | h
                · omega
                · have := hB3.ge k h; omega
                · exact .inr (.inl h))
              have hG4 := hG3.mod hM4 (fun k h => by
                rcases h with (h | h) | h
                · have := hG0.size; omega
                · have := hB3.ge k h; have := hG0.size; omega
                · exact h ▸ hgt10)
              obtain ⟨c0, c1, c2, c3, f1, f2, f3⟩ := cell4 hE4.blk
              go_wp2
              go_meet
              have hM : Mod (fun k => k = ge) w4 (w4.setCell ⟨ge, 1, none⟩ (.bool false)) := (Mod.refl (fun k => k = ge) w4).setCell (p := ⟨ge, 1, none⟩) (fun _ => rfl) _
              have hne := typ_ne hE4.blk hE4.tab.blk (by decide)
              refine ⟨rfl, vb4, v4, ?_, ?_, hG4.mod hM (fun k h => h ▸ hge10), hK4.trans hM (fun k _ h => .inl h), hv4⟩
              · rw [HPL.out]
                simp only [if_true]
                rw [if_neg hcase, if_pos h3, ← List.nil_append (beginL 2 last)]
                refine hB4.mod hM (fun h => ?_) (fun k hk h => ?_)
                · obtain ⟨p, _, hb⟩ := hB4.blk; exact typ_ne hE4.blk hb (by decide) h.symm
                · subst h; exact hB4.apart hE4.blk (by decide) hk
              · rw [HPT.out]
                simp only [if_true]
                rw [if_neg hcase, if_pos h3]
                exact ⟨heap_setCell_same _ ge 1 _ _ _ hE4.blk, hE4.tab.mod hM (fun h => hne h.symm) (fun k hk h => by obtain ⟨cur, hc⟩ := hE4.tab.own.row k hk; subst h; rw [hE4.blk] at hc; cases hc)⟩
      case rest =>
        obtain ⟨rfl, vb1, v1, hB1, hE1, hG1, hK1, hv1⟩ := hcut
        have HN : Hid (encL ⟨mx, es, told, least, last⟩ fs = preL ⟨mx, es, told, least, last⟩ ++ fieldsL (preT ⟨mx, es, told, least, last⟩).1 (preT ⟨mx, es, told, least, last⟩).2 fs) := rfl
        have HX : Hid ((ES.next ⟨mx, es, told, least, last⟩ fs) = ⟨(preT ⟨mx, es, told, least, last⟩).1, fieldsT (preT ⟨mx, es, told, least, last⟩).1 (preT ⟨mx, es, told, least, last⟩).2 fs, false, least, last⟩) := rfl
        have hpl := preL_length ⟨mx, es, told, least, last⟩
        generalize preL ⟨mx, es, told, least, last⟩ = PL at hB1 HN hpl
        generalize preT ⟨mx, es, told, least, last⟩ = PT at hE1 HN HX
        obtain ⟨pm, pe⟩ := PT
        simp only at hE1 HN HX
        have hl1 := hK1.rds hl0 (fun h0 k hk h => by
          obtain ⟨a1, a2, a3⟩ := hap h0 k hk
          rcases h with h | h | h
          · exact a1 h
          · exact a2 h
          · exact a3 h)
        have hs1 := hK1.size
        have hg10 := hG0.size
        clear HPL HPT hE0 hG0 hE hbA hG hG2
        go_wp2_with fail
        go_loopw [84] (fun t wr => ∃ (k : Nat) (vbk vk : Value), t = .int .i64 k ∧ k ≤ fs.length ∧ Bld w0.heap.size w0.heap.size vbk (PL ++ fieldsL pm pe (fs.take k)) wr ∧ IsEnc wr ge gt vk pm (fieldsT pm pe (fs.take k)) false least last ∧ G wr ∧
          Mod (fun k => k = ge ∨ k = gt ∨ v.ownBlock = some k) w0 wr ∧ (∀ k, vk.ownBlock = some k → v.ownBlock = some k ∨ w0.heap.size ≤ k) ∧ Rds wr 3 (.slice A fs.length cap) fs.length (fldC fs)) (fun t _ => fs.length - (intOf t).toNat)
        case atStart => exact ⟨0, vb1, v1, rfl, by omega, by simpa [fieldsL] using hB1, hE1, hG1, hK1, fun k hk => .inl (by rw [← hv1]; exact hk), hl1⟩
        case round =>
          obtain ⟨k, vbk, vk, rfl, hk, hBk, hEk, hGk, hKk, hvk, hlk⟩ := hrel
          have hsk := hKk.size
          by_cases hlt : k < fs.length
          · obtain ⟨f, hf⟩ : ∃ f, fs[k]? = some f := ⟨fs[k], List.getElem?_eq_getElem _⟩
            obtain ⟨h1, h2⟩ := hall f (List.mem_of_getElem? hf)
            obtain ⟨x0, x1, x2⟩ := fldC_get fs k f hf
            have hlen : (PL ++ fieldsL pm pe (fs.take k)).length ≤ 140737400000000 := by
              have := fieldsL_length pm (fs.take k) pe (fun f hf => hall f (List.mem_of_mem_take hf))
              rw [List.length_append]
              rw [List.length_take] at this
              omega
            obtain ⟨a, off, cap', hv', hcc1, hcc2, ha⟩ := hlk.form (by omega)
            cases hv'
            have ha0 : a < w0.heap.size := hl0.ltAt (by omega)
            have hapk : a ≠ gt ∧ vk.ownBlock ≠ some a := ⟨(hap (by omega) a rfl).2.1, fun h => by
              rcases hvk a h with h | h
              · exact (hap (by omega) a rfl).2.2 h
              · omega⟩
            have p0 := hlk.cellAt (k * 3) (off + k * 3) _ rfl x0
            have p1 := hlk.cellAt (k * 3 + 1) (off + k * 3 + 1) _ (by omega) x1
            have p2 := hlk.cellAt (k * 3 + 2) (off + k * 3 + 2) _ (by omega) x2
            have h4 : (k : Int) < (fs.length : Int) := by omega
            have h5 : (0 : Int) ≤ (k : Int) := by omega
            have HFS : Hid (fieldsL pm pe (fs.take (k + 1)) = fieldsL pm pe (fs.take k) ++ fieldL pm (fieldsT pm pe (fs.take k)) f ∧ fieldsT pm pe (fs.take (k + 1)) = fieldT pm (fieldsT pm pe (fs.take k)) f) := by
              show _ ∧ _
              rw [← Table.take_snoc hf, fieldsL_snoc, fieldsT_snoc]
              exact ⟨rfl, rfl⟩
            have HL := Lib.hid hl
            have HL0 := Lib.hid hl0
            have HL1 := Lib.hid hl1
            have HLK := Lib.hid hlk
            have HAL := Lib.hid hall
            clear hf hl hl0 hl1 hlk x0 x1 x2 hall
            go_wp2_with fail
            have hbN : Below wr.heap.size wr (wr.alloc (.cells #[.string f.n, .string f.v, .bool f.never] 40)) := (Below.refl _ _).alloc (Nat.le_refl _) _
            refine (field_any w0.heap.size w0.heap.size vbk _ ge gt vk pm _ false least last f _ (hGk.below hbN hGk.size) (hBk.below hbN) (hEk.below hbN) (by have := hbN.size; omega) h1 h2 hlen (by omega)).mono ?_
            rintro e w5 ⟨rfl, vb5, v5, hB5, hE5, hM5, hv5⟩
            go_wp2
            have hM6 : Mod (fun k => w0.heap.size ≤ k ∨ k = gt ∨ vk.ownBlock = some k) wr w5 := (Mod.ofBelow hbN).trans hM5 (fun _ _ h => h)
            go_roundw
            case rel =>
              refine ⟨k + 1, vb5, v5, rfl, by omega, ?_, ?_, ?_, ?_, ?_, ?_⟩
              · rw [HFS.out.1, ← List.append_assoc]; exact hB5
              · rw [HFS.out.2]; exact hE5
              · refine hGk.mod hM6 (fun k h => ?_)
                rcases h with h | h | h
                · omega
                · omega
                · rcases hvk k h with h | h
                  · exact hv10 k h
                  · omega
              · refine hKk.trans hM6 (fun k hk h => ?_)
                rcases h with h | h | h
                · omega
                · exact .inr (.inl h)
                · rcases hvk k h with h | h
                  · exact .inr (.inr h)
                  · omega
              · intro k hk
                rcases hv5 k hk with h | h
                · exact hvk k h
                · have := hbN.size; exact .inr (by omega)
              · refine hM6.rds HLK.out (fun _ k hk h => ?_)
                cases hk
                obtain ⟨a2, a3⟩ := hapk
                rcases h with h | h | h
                · exact absurd (show w0.heap.size ≤ a from h) (by omega)
                · exact a2 h
                · exact a3 h
            case measure => simp [intOf] <;> omega
          · obtain rfl : k = fs.length := by omega
            rw [List.take_length] at hBk hEk
            go_wp2_with fail
            refine (string_any w0.heap.size w0.heap.size vbk _ wr hBk (by omega)).mono ?_
            rintro e w5 ⟨rfl, hb5, ho5⟩
            go_wp2
            go_ret2
            have hb7 := hbr.size
            obtain ⟨p, _, hbb⟩ := hBk.blk
            refine ⟨by rw [HN.out]; rfl, vk, ?_, ?_, fun k hk => ?_⟩
            · rw [HX.out]
              refine ⟨others_cells ho5 hEk.blk (typ_ne hEk.blk hbb (by decide)) (by decide), others_cells ho5 hEk.tab.blk (typ_ne hEk.tab.blk hbb (by decide)) (by decide), hEk.tab.own.kept (fun k hk => ?_), hEk.tab.ne, hEk.tab.le, hEk.tab.mle⟩
              obtain ⟨cur, hc⟩ := hEk.tab.own.row k hk
              rw [hc]
              exact others_cells ho5 hc (typ_ne hc hbb (by decide)) (by decide)
            · refine ((Mod.ofBelow (S := fun k => k = ge ∨ k = gt ∨ v.ownBlock = some k) hbr).trans hKk (fun _ _ h => h)).trans (T := fun k => w0.heap.size ≤ k) ⟨hb5.os, hb5.tape, hb5.output, hb5.size, fun k _ hn => hb5.block k (by omega)⟩ (fun k hk h => ?_)
              omega
            rcases hvk k hk with h | h
            · exact .inl h
            · exact .inr (by omega)
end Pack
end Go.Proofs.YtkpdhnkiabgghaaDoor
