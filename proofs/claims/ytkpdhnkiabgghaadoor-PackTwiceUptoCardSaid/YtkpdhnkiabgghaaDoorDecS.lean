/- Layer 5, pack: Size, Table. -/
import Derived.Test.YtkpdhnkiabgghaaDoorDecD
namespace Go.Proofs.YtkpdhnkiabgghaaDoor
open Go.RowKit
namespace Pack
def sizeL (fs : List Fld) : Nat := (fs.map fsz).sum
theorem sizeL_snoc (fs : List Fld) (f : Fld) : sizeL (fs ++ [f]) = sizeL fs + fsz f := by simp [sizeL]
theorem sizeL_le : ∀ (fs : List Fld), (∀ f ∈ fs, short f) → sizeL fs ≤ fs.length * 131104
  | [], _ => by simp [sizeL]
  | f :: fs, h => by
    have h1 := h f (by simp)
    have h2 := sizeL_le fs (fun g hg => h g (by simp [hg]))
    simp only [sizeL, List.map_cons, List.sum_cons, List.length_cons] at h2 ⊢
    unfold short at h1
    unfold fsz at h2 ⊢
    omega
set_option maxRecDepth 100000 in
theorem size_any (lv : Value) (fs : List Fld) (w : World) (hl : Own w 40 3 lv fs.length (fldC fs)) (hn : fs.length ≤ 4194304) (hall : ∀ f ∈ fs, short f) :
    Calls Tryd.prog 27 #[lv] w fun e w' => e = .returned (.int .i64 (sizeL fs : Nat)) ∧ Below w.heap.size w w' := by
  obtain ⟨A, cap, rfl, hc1, hc2⟩ := hl.form'
  go_enter Tryd.func27, Tryd.ntmps27
  go_wp2_with fail
  go_loopw [3, 8] (fun t3 t8 wr => ∃ k : Nat, t8 = .int .i64 k ∧ t3 = .int .i64 (sizeL (fs.take k) : Nat) ∧ k ≤ fs.length ∧ Below w.heap.size w wr) (fun _ t _ => fs.length - (intOf t).toNat)
  case atStart => exact ⟨0, rfl, rfl, by omega, Below.refl _ _⟩
  case round =>
    obtain ⟨k, rfl, rfl, hk, hbr⟩ := hrel
    by_cases hlt : k < fs.length
    · obtain ⟨f, hf⟩ : ∃ f, fs[k]? = some f := ⟨fs[k], List.getElem?_eq_getElem _⟩
      obtain ⟨x0, x1, x2⟩ := fldC_get fs k f hf
      obtain ⟨h1, h2⟩ := hall f (List.mem_of_getElem? hf)
      have hs1 := sizeL_le (fs.take k) (fun g hg => hall g (List.mem_of_mem_take hg))
      have hs2 := sizeL_snoc (fs.take k) f
      rw [Table.take_snoc hf] at hs2
      rw [List.length_take] at hs1
      have hlr := (Mod.ofBelow (S := fun _ => False) hbr).own hl (fun _ _ h => h)
      obtain ⟨a, off, cap', hv', hcc1, hcc2, ha⟩ := hlr.form (by omega)
      cases hv'
      have p0 := hlr.cellAt (k * 3) (off + k * 3) _ rfl x0
      have p1 := hlr.cellAt (k * 3 + 1) (off + k * 3 + 1) _ (by omega) x1
      have p2 := hlr.cellAt (k * 3 + 2) (off + k * 3 + 2) _ (by omega) x2
      have h4 : (k : Int) < (fs.length : Int) := by omega
      have h5 : (0 : Int) ≤ (k : Int) := by omega
      have hsr := hbr.size
      have HF := Lib.hid hf
      have HL := Lib.hid hl
      have HLR := Lib.hid hlr
      have HA := Lib.hid hall
      clear hf hl hlr hall x0 x1 x2
      obtain ⟨n, s, nv⟩ := f
      simp only at h1 h2
      unfold fsz at hs2
      simp only at hs2
      have hw : IntKind.i64.wrap (((sizeL (fs.take k) : Nat) : Int) + ((n.size : Int) + (s.size : Int) + 32)) = ((sizeL (fs.take (k + 1)) : Nat) : Int) := by
        rw [IntWalk.i64_in _ (by omega), hs2]; omega
      have HS := Lib.hid hs2
      clear hs2
      go_wp2_with fail
      refine (esize_any n s nv _ (by omega) (by omega)).mono ?_
      rintro e w1 ⟨rfl, rfl⟩
      go_wp2
      go_roundw
      case rel => exact ⟨k + 1, rfl, rfl, by omega, (hbr.alloc hsr _).alloc (by simp; omega) _⟩
      case measure => simp [intOf] <;> omega
    · obtain rfl : k = fs.length := by omega
      rw [List.take_length]
      go_wp2
      go_ret
      exact ⟨rfl, hbr⟩
theorem tableE_any (ge gt : Nat) (v : Value) (mx : Nat) (es : List Ent) (told : Bool) (least last : Nat) (w : World) (h : IsEnc w ge gt v mx es told least last) :
    Calls Tryd.prog 13 #[.pointer (some ⟨ge, 0, none⟩)] w fun e w' => ∃ g' v', e = .returned (.pointer (some ⟨g', 0, none⟩)) ∧ IsTab w' g' v' mx es ∧ Below w.heap.size w w' ∧ w.heap.size ≤ g' ∧ ∀ k, v'.ownBlock = some k → w.heap.size ≤ k := by
  obtain ⟨c0, c1, c2, c3, f1, f2, f3⟩ := cell4 h.blk
  go_enter Tryd.func13, Tryd.ntmps13
  go_wp2_with fail
  refine (Table.copy_any gt v mx es w h.tab).mono ?_
  rintro e w1 ⟨g', v', rfl, hT, hb, hg, hv⟩
  go_wp2
  go_ret
  exact ⟨g', v', rfl, hT, hb, hg, hv⟩
theorem tableD_any (gd gt : Nat) (v : Value) (mx : Nat) (es : List Ent) (limit : Nat) (broken : Bool) (w : World) (h : IsDec w gd gt v mx es limit broken) :
    Calls Tryd.prog 14 #[.pointer (some ⟨gd, 0, none⟩)] w fun e w' => ∃ g' v', e = .returned (.pointer (some ⟨g', 0, none⟩)) ∧ IsTab w' g' v' mx es ∧ Below w.heap.size w w' ∧ w.heap.size ≤ g' ∧ ∀ k, v'.ownBlock = some k → w.heap.size ≤ k := by
  obtain ⟨c0, c1, c2, f0, f1, f2⟩ := cell3 h.blk
  go_enter Tryd.func14, Tryd.ntmps14
  go_wp2_with fail
  refine (Table.copy_any gt v mx es w h.tab).mono ?_
  rintro e w1 ⟨g', v', rfl, hT, hb, hg, hv⟩
  go_wp2
  go_ret
  exact ⟨g', v', rfl, hT, hb, hg, hv⟩
end Pack
end Go.Proofs.YtkpdhnkiabgghaaDoor
