/- Layer 5, the laws: alike and same: of what is alike they answer true. -/
import Derived.Test.YtkpdhnkiabgghaaDoorDecS
import Derived.Test.YtkpdhnkiabgghaaDoorRds
import Derived.Laws.StructEq
namespace Go.Proofs.YtkpdhnkiabgghaaDoor
open Go.RowKit
namespace Law05
open Pack
theorem at_moving (es : List Ent) (k : Nat) (h : k < es.length) : ∃ n s, Table.atL es (62 + (k : Int)) = some (n, s) := by
  unfold Table.atL
  rw [if_neg (by omega), if_pos (by omega)]
  have : es.length - (62 + (k : Int) - 61).toNat < es.length := by omega
  exact ⟨_, _, List.getElem?_eq_getElem this⟩
set_option maxRecDepth 100000 in
set_option maxHeartbeats 1000000 in
theorem alike_any (g1 g2 : Nat) (v1 v2 : Value) (mx : Nat) (es : List Ent) (w : World) (h1 : IsTab w g1 v1 mx es) (h2 : IsTab w g2 v2 mx es) :
    Calls Tryd.prog 17 #[.pointer (some ⟨g1, 0, none⟩), .pointer (some ⟨g2, 0, none⟩)] w fun e w' => e = .returned (.bool true) ∧ Below w.heap.size w w' := by
  have hlen : es.length ≤ 2048 := by have := tsize_len es; have := h1.le; omega
  go_enter Tryd.func17, Tryd.ntmps17
  go_wp2_with fail
  refine (Table.max_any g1 v1 mx es _ h1).mono ?_
  rintro e w' ⟨rfl, rfl⟩
  go_wp2_with fail
  refine (Table.max_any g2 v2 mx es _ h2).mono ?_
  rintro e w' ⟨rfl, rfl⟩
  go_wp2_with fail
  refine (Table.size_any g1 v1 mx es _ h1).mono ?_
  rintro e w' ⟨rfl, rfl⟩
  go_wp2_with fail
  refine (Table.size_any g2 v2 mx es _ h2).mono ?_
  rintro e w' ⟨rfl, rfl⟩
  go_wp2_with fail
  refine (Table.len_any g1 v1 mx es _ h1).mono ?_
  rintro e w' ⟨rfl, rfl⟩
  go_wp2_with fail
  refine (Table.len_any g2 v2 mx es _ h2).mono ?_
  rintro e w' ⟨rfl, rfl⟩
  go_wp2_with fail
  go_loopw [5] (fun i wr => ∃ k : Nat, i = .int .i64 k ∧ k ≤ es.length ∧ Below w.heap.size w wr) (fun i _ => es.length - (intOf i).toNat)
  case atStart => exact ⟨0, rfl, by omega, Below.refl _ _⟩
  case round =>
    obtain ⟨k, rfl, hk, hbr⟩ := hrel
    have hr1 := h1.below hbr
    have hr2 := h2.below hbr
    go_wp2_with fail
    refine (Table.len_any g1 v1 mx es _ hr1).mono ?_
    rintro e w' ⟨rfl, rfl⟩
    by_cases hlt : k < es.length
    · obtain ⟨n, s, ha⟩ := at_moving es k hlt
      have HA := Lib.hid ha
      clear ha
      go_wp2_with fail
      refine (Table.at_any (62 + (k : Int)) g1 v1 mx es _ hr1 (by omega)).mono ?_
      rintro e wa ⟨rfl, hba⟩
      have hr3 := hr2.below hba
      have hb3 := hbr.trans (hba.mono hbr.size)
      rw [HA.out]
      unfold Table.atV
      go_wp2_with fail
      refine (Table.at_any (62 + (k : Int)) g2 v2 mx es _ hr3 (by omega)).mono ?_
      rintro e wb ⟨rfl, hbb⟩
      have hb4 := hb3.trans (hbb.mono hb3.size)
      rw [HA.out]
      unfold Table.atV
      go_wp2_with fail
      go_roundw
      case rel => exact ⟨k + 1, by go_num, by omega, hb4⟩
      case measure => simp [intOf] <;> omega
    · go_wp2_with fail
      go_ret
      exact ⟨rfl, hbr⟩
theorem fld_neq (a b : ByteArray) (c : Bool) (W : World) : (binOp .neq 40 (.agg #[.string a, .string b, .bool c]) (.agg #[.string a, .string b, .bool c])).run Tryd.prog W = .ok (.bool false) W := by
  simp [go_sem]
set_option maxRecDepth 100000 in
set_option maxHeartbeats 1000000 in
theorem same_any (va vb : Value) (fs : List Fld) (w : World) (ha : Rds w 3 va fs.length (fldC fs)) (hb : Rds w 3 vb fs.length (fldC fs)) :
    Calls Tryd.prog 12 #[va, vb] w fun e w' => e = .returned (.bool true) ∧ Below w.heap.size w w' := by
  have hq := fld_neq
  obtain ⟨A1, cap1, rfl, hc1, hc2⟩ := ha.form'
  obtain ⟨A2, cap2, rfl, hd1, hd2⟩ := hb.form'
  unfold maxLen at hc2 hd2
  go_enter Tryd.func12, Tryd.ntmps12
  go_wp2_with fail
  go_loopw [5] (fun i wr => ∃ k : Nat, i = .int .i64 k ∧ k ≤ fs.length ∧ Below w.heap.size w wr) (fun i _ => fs.length - (intOf i).toNat)
  case atStart => exact ⟨0, rfl, by omega, Below.refl _ _⟩
  case round =>
    obtain ⟨k, rfl, hk, hbr⟩ := hrel
    by_cases hlt : k < fs.length
    · obtain ⟨f, hf⟩ : ∃ f, fs[k]? = some f := ⟨fs[k], List.getElem?_eq_getElem _⟩
      obtain ⟨x0, x1, x2⟩ := fldC_get fs k f hf
      have har := ha.below hbr
      have hbr2 := hb.below hbr
      obtain ⟨a, off, cap', hv', _, _, hal⟩ := har.form (by omega)
      cases hv'
      obtain ⟨b, off2, cap2', hv2, _, _, hbl⟩ := hbr2.form (by omega)
      cases hv2
      have p0 := har.cellAt (k * 3) (off + k * 3) _ rfl x0
      have p1 := har.cellAt (k * 3 + 1) (off + k * 3 + 1) _ (by omega) x1
      have p2 := har.cellAt (k * 3 + 2) (off + k * 3 + 2) _ (by omega) x2
      have q0 := hbr2.cellAt (k * 3) (off2 + k * 3) _ rfl x0
      have q1 := hbr2.cellAt (k * 3 + 1) (off2 + k * 3 + 1) _ (by omega) x1
      have q2 := hbr2.cellAt (k * 3 + 2) (off2 + k * 3 + 2) _ (by omega) x2
      have h4 : (k : Int) < (fs.length : Int) := by omega
      have h5 : (0 : Int) ≤ (k : Int) := by omega
      have HF := Lib.hid hf
      clear hf ha hb har hbr2 x0 x1 x2
      obtain ⟨n, s, nv⟩ := f
      go_wp2_with fail
      go_quiet (fail)
      go_wp2_with fail
      go_roundw
      case rel => exact ⟨k + 1, by go_num, by omega, blw_drewN hbr _⟩
      case measure => simp [intOf] <;> omega
    · have hge : decide ((k : Int) < (fs.length : Int)) = false := by simp; omega
      go_wp2_with fail
      go_ret
      exact ⟨rfl, hbr⟩
end Law05
end Go.Proofs.YtkpdhnkiabgghaaDoor
