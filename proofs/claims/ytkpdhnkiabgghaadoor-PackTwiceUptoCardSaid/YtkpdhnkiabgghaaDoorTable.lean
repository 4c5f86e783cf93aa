/- Layer 4, table: the moving entries. -/
import Derived.Test.YtkpdhnkiabgghaaDoorText
import Derived.Deep.RegionHeld3
import Derived.Deep.LoopGhost
import Derived.Deep.RegionLaw
namespace Go.Proofs.YtkpdhnkiabgghaaDoor
open Go.RowKit
abbrev Ent := ByteArray × ByteArray
def esz (e : Ent) : Nat := e.1.size + e.2.size + 32
def tsize : List Ent → Nat
  | [] => 0
  | e :: es => esz e + tsize es
def entC (es : List Ent) : List Value := es.flatMap fun e => [Value.string e.1, Value.string e.2]
theorem entC_length (es : List Ent) : (entC es).length = es.length * 2 := by
  induction es with
  | nil => rfl
  | cons c l ih => simp only [entC, List.flatMap_cons, List.length_append] at ih ⊢; simp [ih]; omega
theorem entC_append (l m : List Ent) : entC (l ++ m) = entC l ++ entC m := by simp [entC]
theorem tsize_append (l m : List Ent) : tsize (l ++ m) = tsize l + tsize m := by
  induction l with
  | nil => simp [tsize]
  | cons c l ih => simp only [List.cons_append, tsize, ih]; omega
theorem tsize_len (l : List Ent) : 32 * l.length ≤ tsize l := by
  induction l with
  | nil => simp [tsize]
  | cons c l ih => simp only [tsize, List.length_cons, esz]; omega
/-- A table in memory: max, size, the moving entries (v: the slice's value), the oldest first. -/
structure IsTab (w : World) (g : Nat) (v : Value) (mx : Nat) (es : List Ent) : Prop where
  blk : w.heap[g]? = some (.cells #[.int .i64 (mx : Int), .int .i64 (tsize es : Nat), v] 72 (0, 0))
  own : Own w 69 2 v es.length (entC es)
  ne : v.ownBlock ≠ some g
  le : tsize es ≤ 65536
  mle : mx ≤ 65536
theorem IsTab.mod {w w' : World} {g : Nat} {v : Value} {mx : Nat} {es : List Ent} {S : Nat → Prop} (h : IsTab w g v mx es) (hm : Mod S w w') (hg : ¬ S g) (hv : ∀ k, v.ownBlock = some k → ¬ S k) : IsTab w' g v mx es :=
  ⟨hm.blk h.blk hg, hm.own h.own hv, h.ne, h.le, h.mle⟩
theorem IsTab.below {w w' : World} {g : Nat} {v : Value} {mx : Nat} {es : List Ent} (h : IsTab w g v mx es) (hb : Below w.heap.size w w') : IsTab w' g v mx es :=
  h.mod (S := fun _ => False) (Mod.ofBelow hb) (fun h => h) (fun _ _ h => h)
theorem cell3 {w : World} {g : Nat} {a b c : Value} {t : TypeId} (h : w.heap[g]? = some (.cells #[a, b, c] t (0, 0))) :
    w.cell? ⟨g, 0, none⟩ = some a ∧ w.cell? ⟨g, 1, none⟩ = some b ∧ w.cell? ⟨g, 2, none⟩ = some c ∧ w.frozen? ⟨g, 0, none⟩ = false ∧ w.frozen? ⟨g, 1, none⟩ = false ∧ w.frozen? ⟨g, 2, none⟩ = false :=
  ⟨(cell_of_row w g 0 _ t (0, 0) h).trans rfl, (cell_of_row w g 1 _ t (0, 0) h).trans rfl, (cell_of_row w g 2 _ t (0, 0) h).trans rfl, frozen_of_row w g 0 _ t h, frozen_of_row w g 1 _ t h, frozen_of_row w g 2 _ t h⟩
namespace Table
theorem ti_ent : TI Tryd.prog 70 69 2 32 := TI.mk' Tryd.underlying70 (z := .agg #[.string ⟨#[]⟩, .string ⟨#[]⟩]) (by kernel_rfl) rfl
theorem set2_block {wr : World} {g : Nat} {a b c x y : Value} {t : TypeId} {o : Obj} (h : wr.heap[g]? = some (.cells #[a, b, c] t (0, 0))) :
    (((wr.setCell ⟨g, 1, none⟩ x).setCell ⟨g, 2, none⟩ y).alloc o).drew.heap[g]? = some (.cells #[a, x, y] t (0, 0)) := by
  have h1 := heap_setCell_same wr g 1 _ t x h
  have h2 := heap_setCell_same _ g 2 _ t y h1
  rw [heap_drew]
  exact (heap_alloc_old _ _ (lt_of_blk h2)).trans h2
theorem shrunk {wr : World} {g a off cap mx : Nat} {e1 e2 : ByteArray} {gh : List Ent} {o : Obj} (h : IsTab wr g (.slice (some ⟨a, off, none⟩) (gh.length + 1) (cap + 1)) mx ((e1, e2) :: gh)) (v' : Value)
    (hv : ∀ w : World, Own w 69 2 (.slice (some ⟨a, off, none⟩) (gh.length + 1) (cap + 1)) (gh.length + 1) (entC ((e1, e2) :: gh)) → Own w 69 2 v' gh.length (entC gh)) (hb : v'.ownBlock = some a) :
    IsTab (((wr.setCell ⟨g, 1, none⟩ (.int .i64 (tsize gh : Nat))).setCell ⟨g, 2, none⟩ v').alloc o).drew g v' mx gh := by
  have hne : a ≠ g := fun e => h.ne (by rw [e]; rfl)
  refine ⟨set2_block h.blk, hv _ (((h.own.setFar _ _ ?_).setFar _ _ ?_).alloc _).drew, by rw [hb]; intro e; exact hne (Option.some.inj e), ?_, h.mle⟩
  · intro e; exact hne (Option.some.inj e)
  · intro e; exact hne (Option.some.inj e)
  · have := h.le
    simp only [tsize] at this
    omega
theorem esize_any (a b : ByteArray) (w : World) (ha : a.size ≤ 1073741824) (hb : b.size ≤ 1073741824) :
    Calls Tryd.prog 30 #[.agg #[.string a, .string b]] w fun e w' => e = .returned (.int .i64 ((a.size : Int) + (b.size : Int) + 32)) ∧ w.alloc (.cells #[.string a, .string b] 69) = w' := by
  go_enter Tryd.func30, Tryd.ntmps30
  go_wp2
  go_ret
  exact ⟨rfl, rfl⟩
theorem bad_any (m : Int) (w : World) :
    Calls Tryd.prog 31 #[.int .i64 m] w fun e w' => e = .returned (.bool (decide (m < 0) || decide (65536 < m))) ∧ w = w' := by
  by_cases h : m < 0
  · have hd : decide (m < 0) = true := by simpa using h
    go_enter Tryd.func31, Tryd.ntmps31
    go_wp2
    go_ret
    exact ⟨ret_bool (by simp [h]), rfl⟩
  · have hd : decide (m < 0) = false := by simpa using h
    go_enter Tryd.func31, Tryd.ntmps31
    go_wp2
    go_ret
    exact ⟨ret_bool (by simp), rfl⟩
def shrinkL (most : Int) : List Ent → List Ent
  | [] => []
  | e :: es => if most < (tsize (e :: es) : Nat) then shrinkL most es else e :: es
set_option maxRecDepth 100000 in
set_option maxHeartbeats 2000000 in
theorem shrink_any (most : Int) (g : Nat) (v : Value) (mx : Nat) (es : List Ent) (w : World) (h : IsTab w g v mx es) (_hm : -1073741824 ≤ most ∧ most ≤ 1073741824) :
    Calls Tryd.prog 29 #[.pointer (some ⟨g, 0, none⟩), .int .i64 most] w fun e w' => e = .returned (.tuple #[]) ∧ ∃ v', IsTab w' g v' mx (shrinkL most es) ∧ Mod (fun k => k = g) w w' ∧ v'.ownBlock = v.ownBlock := by
  go_enter Tryd.func29, Tryd.ntmps29
  go_wp2_with fail
  go_loopg [] es.length (fun k wr => ∃ (gh : List Ent) (v' : Value), gh.length = k ∧ IsTab wr g v' mx gh ∧ Mod (fun k => k = g) w wr ∧ v'.ownBlock = v.ownBlock ∧ Hid (shrinkL most gh = shrinkL most es))
  case atStart => exact ⟨es, v, rfl, h, Mod.refl _ _, rfl, rfl⟩
  case round =>
    obtain ⟨gh, v', hlen, hT, hM, hob, HS⟩ := hrel
    have HL := Lib.hid hlen
    clear hlen
    obtain ⟨c0, c1, c2, f0, f1, f2⟩ := cell3 hT.blk
    obtain ⟨A, cap, rfl, hcap1, hcap2⟩ := hT.own.form'
    cases gh with
    | nil =>
      have hz : decide ((0 : Int) < ((([] : List Ent).length : Nat) : Int)) = false := by simp
      have HT := Lib.hid hT
      have HSS : Hid (shrinkL most es = []) := by show _ = _; rw [← HS.out]; rfl
      clear hT HS
      go_wp2
      go_end0
      exact ⟨rfl, _, by rw [HSS.out]; exact HT.out, hM, hob⟩
    | cons e gh =>
      have hpos : decide ((0 : Int) < (((e :: gh).length : Nat) : Int)) = true := by simp
      obtain ⟨a, off, cap, hv, hga, hcp1, hcp2, hown2, hcells⟩ := hT.own.tail
      cases hv
      by_cases hbig : most < ((tsize (e :: gh) : Nat) : Int)
      · have hx0 := hcells 0 (.string e.1) rfl
        have hx1 := hcells 1 (.string e.2) rfl
        have hlen1 : (1 : Int) ≤ (((e :: gh).length : Nat) : Int) := by simp; omega
        have hle := hT.le
        obtain ⟨e1, e2⟩ := e
        simp only [Nat.add_zero] at hx0 hx1
        have hs1 : e1.size ≤ 65536 ∧ e2.size ≤ 65536 := by simp only [tsize, esz] at hle; omega
        obtain ⟨hs1, hs2⟩ := hs1
        have hgl := lt_of_blk hT.blk
        have hne : a ≠ g := fun e => hT.ne (by rw [e]; rfl)
        have HT := Lib.hid hT
        have n0 := World.new_ne wr _ c0
        have n1 := World.new_ne wr _ c1
        have n2 := World.new_ne wr _ c2
        have n3 := World.new_ne wr _ hx0
        have n4 := World.new_ne wr _ hx1
        clear hT hown2 hcells
        have hsz : tsize ((e1, e2) :: gh) = e1.size + e2.size + 32 + tsize gh := rfl
        have hw1 : IntKind.i64.wrap ((tsize ((e1, e2) :: gh) : Nat) - ((e1.size : Int) + (e2.size : Int) + 32)) = (tsize gh : Nat) := by
          rw [IntWalk.i64_in _ (by omega), hsz]; omega
        have HS2 : Hid (shrinkL most gh = shrinkL most es) := by show _ = _; rw [← HS.out, shrinkL, if_pos hbig]
        have HSZ := Lib.hid hsz
        clear hsz HS
        by_cases hc0 : cap = 0
        · have hg0 : gh = [] := List.eq_nil_of_length_eq_zero (by omega)
          subst hg0
          subst hc0
          go_wp2_with fail
          go_region_law (first | (go_simp; go_at_call 30; refine (esize_any _ _ _ (by omega) (by omega)).mono ?_; rintro e w' ⟨rfl, rfl⟩))
          all_goals go_wp2
          all_goals go_roundg 0
          all_goals first
            | (show ∃ _, _; exact ⟨[], _, rfl, shrunk HT.out _ (fun w ho => ho.tail0) rfl, ((hM.setCell (fun _ => rfl) _).setCell (fun _ => rfl) _).alloc _ |>.drew, hob, HS2⟩)
            | (have := HL.out; simp at this; omega)
        · have hc1 : 1 ≤ cap := by omega
          go_wp2_with fail
          go_region_law (first | (go_simp; go_at_call 30; refine (esize_any _ _ _ (by omega) (by omega)).mono ?_; rintro e w' ⟨rfl, rfl⟩))
          all_goals go_wp2
          all_goals go_roundg gh.length
          all_goals first
            | (show ∃ _, _; exact ⟨gh, _, rfl, shrunk HT.out _ (fun w ho => by obtain ⟨_, _, _, hv, _, _, _, h2, _⟩ := ho.tail; cases hv; exact h2) rfl, ((hM.setCell (fun _ => rfl) _).setCell (fun _ => rfl) _).alloc _ |>.drew, hob, HS2⟩)
            | (have := HL.out; simp at this; omega)
      · have HSS : Hid (shrinkL most es = e :: gh) := by show _ = _; rw [← HS.out, shrinkL, if_neg hbig]
        have HT := Lib.hid hT
        clear hT HS hown2 hcells
        go_wp2
        go_end0
        exact ⟨rfl, _, by rw [HSS.out]; exact HT.out, hM, hob⟩
end Table
end Go.Proofs.YtkpdhnkiabgghaaDoor
