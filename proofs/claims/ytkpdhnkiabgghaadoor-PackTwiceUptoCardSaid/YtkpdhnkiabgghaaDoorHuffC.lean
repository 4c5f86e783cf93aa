/- Layer 1, huff: the tables: codes. -/
import Derived.Test.YtkpdhnkiabgghaaDoorHuffT
namespace Go.Proofs.YtkpdhnkiabgghaaDoor
open Go.RowKit
namespace Huff
def flatC (l : List (Nat × Nat)) : List Value := l.flatMap fun c => [Value.int .u32 c.1, Value.int .i64 c.2]
theorem flatC_length (l : List (Nat × Nat)) : (flatC l).length = 2 * l.length := by
  induction l with
  | nil => rfl
  | cons c l ih => simp only [flatC, List.flatMap_cons, List.length_append] at ih ⊢; simp [ih]; omega
theorem flatC_set (l : List (Nat × Nat)) (k : Nat) (c : Nat × Nat) : ((flatC l).set (2 * k) (.int .u32 c.1)).set (2 * k + 1) (.int .i64 c.2) = flatC (l.set k c) := by
  induction l generalizing k with
  | nil => rfl
  | cons d l ih =>
    cases k with
    | zero => simp [flatC]
    | succ k =>
      have := ih k
      simp only [flatC, List.flatMap_cons, List.set_cons_succ, List.cons_append, List.nil_append] at this ⊢
      rw [show 2 * (k + 1) = 2 * k + 1 + 1 from by omega, List.set_cons_succ, List.set_cons_succ, List.set_cons_succ, List.set_cons_succ, this]
theorem flatC_get (l : List (Nat × Nat)) (k : Nat) (h : k < l.length) : (flatC l)[2 * k]? = some (.int .u32 (l[k].1 : Nat)) ∧ (flatC l)[2 * k + 1]? = some (.int .i64 (l[k].2 : Nat)) := by
  induction l generalizing k with
  | nil => simp at h
  | cons d l ih =>
    cases k with
    | zero => simp [flatC]
    | succ k =>
      have := ih k (by simpa using h)
      simp only [flatC, List.flatMap_cons, List.cons_append, List.nil_append] at this ⊢
      rw [show 2 * (k + 1) = 2 * k + 1 + 1 from by omega]
      simpa using this
def codeCells (k : Nat) : Array Value := (flatC (fillL codes (0, 0) k)).toArray
theorem codeCells_size (k : Nat) : (codeCells k).size = 514 := by simp [codeCells, flatC_length, fillL_length, codes_length]
theorem flatC_rep (n : Nat) : flatC (List.replicate n (0, 0)) = (List.replicate n [Value.int .u32 0, Value.int .i64 0]).flatten := by
  induction n with
  | zero => rfl
  | succ n ih => simp only [List.replicate_succ, flatC, List.flatMap_cons, List.flatten_cons] at ih ⊢; rw [ih]; rfl
theorem info_codes : (Tryd.prog.info? 113).map (fun i => (i.zero.map (·.cells), i.size)) = some (some ((List.replicate 257 [Value.int .u32 0, Value.int .i64 0]).flatten.toArray), 514) := by kernel_rfl
theorem info_codes_size : (Tryd.prog.info? 113).map (·.size) = some 514 := by kernel_rfl
theorem codeCells_zero : codeCells 0 = (List.replicate 257 [Value.int .u32 0, Value.int .i64 0]).flatten.toArray := by
  unfold codeCells; rw [fillL_zero, codes_length, flatC_rep]
theorem codeCells_set (k : Nat) (h : k < codes.length) : ((codeCells k).setIfInBounds (2 * k) (.int .u32 (codes[k].1 : Nat))).setIfInBounds (2 * k + 1) (.int .i64 (codes[k].2 : Nat)) = codeCells (k + 1) := by
  unfold codeCells
  rw [← fillL_set codes (0, 0) k h, ← flatC_set]
  simp
theorem codeCells_one (k : Nat) : (codeCells k).all (·.oneCell') = true := by
  unfold codeCells
  rw [Array.all_eq_true_iff_forall_mem]
  intro x hx
  simp only [List.mem_toArray, flatC, List.mem_flatMap] at hx
  obtain ⟨n, _, hn⟩ := hx
  simp at hn
  rcases hn with rfl | rfl <;> rfl
def nxCells (nx : List Nat) : Array Value := (nx.map fun (n : Nat) => Value.int .u32 n).toArray
theorem info_nx : (Tryd.prog.info? 119).map (fun i => (i.zero.map (·.cells), i.size)) = some (some (Array.replicate 31 (.int .u32 0)), 31) := by kernel_rfl
theorem nxCells_zero : nxCells (List.replicate 31 0) = Array.replicate 31 (.int .u32 0) := by
  unfold nxCells; rw [List.map_replicate, List.toArray_replicate]; rfl
theorem nxCells_set (nx : List Nat) (k v : Nat) : (nxCells nx).setIfInBounds k (.int .u32 v) = nxCells (nx.set k v) := by
  unfold nxCells; simp [List.map_set]
theorem nxCells_get (nx : List Nat) (k : Nat) (h : k < nx.length) : (nxCells nx)[k]? = some (.int .u32 (nx.getD k 0 : Nat)) := by
  simp [nxCells, h]
set_option maxRecDepth 100000 in
set_option maxHeartbeats 1000000 in
theorem codes_any (w : World) (hG : G w) :
    Calls Tryd.prog 56 #[] w fun e w' => e = .returned (.agg (codeCells 257)) ∧ Below w.heap.size w w' := by
  obtain ⟨i0, z0, hi0, hz0, hzc⟩ := info_zero info_codes
  rw [← codeCells_zero] at hzc
  obtain ⟨i1, z1, hi1, hz1, hzn⟩ := info_zero info_nx
  rw [← nxCells_zero] at hzn
  have hGs := hG.size
  obtain ⟨nx0, hnx0⟩ : ∃ nx0, nx0 = List.replicate 31 0 := ⟨_, rfl⟩
  rw [← hnx0] at hzn
  have HN0 := Lib.hid hnx0
  have hl0 : nx0.length = 31 := by rw [hnx0]; rfl
  clear hnx0
  go_enter Tryd.func56, Tryd.ntmps56
  go_wp2_with (first
    | (with_reducible refine wpList_alloc_abs rfl 113 rfl i0 z0 (codeCells 0) hi0 hz0 hzc ?_)
    | (with_reducible refine wpList_alloc_abs rfl 119 rfl i1 z1 (nxCells nx0) hi1 hz1 hzn ?_))
  go_loopw [3] (fun t wr => ∃ (m : Nat) (nx : List Nat), t = .int .i64 ((m : Int) + 1) ∧ m ≤ 30 ∧ nx.length = 31 ∧ wr.heap[w.heap.size]? = some (.cells (codeCells 0) 113 (0, 0)) ∧ wr.heap[w.heap.size + 1]? = some (.cells (codeCells 0) 113 (0, 0)) ∧
      wr.heap[w.heap.size + 1 + 1]? = some (.cells (nxCells nx) 119 (0, 0)) ∧ Hid (first (30 - m) (m + 1) nx = nexts) ∧ Hid (firstOk (30 - m) (m + 1) nx = true) ∧ Below w.heap.size w wr) (fun t _ => 31 - (intOf t).toNat)
  case atStart =>
    refine ⟨0, nx0, rfl, by omega, hl0, ?_, ?_, ?_, ?_, ?_, ?_⟩
    · rw [Below.heap_alloc _ _ _ (by simp; omega), Below.heap_alloc _ _ _ (by simp)]; exact heap_alloc_new w _
    · rw [Below.heap_alloc _ _ _ (by simp)]; have := heap_alloc_new (w.alloc (.cells (codeCells 0) 113)) (.cells (codeCells 0) 113); simpa using this
    · have := heap_alloc_new ((w.alloc (.cells (codeCells 0) 113)).alloc (.cells (codeCells 0) 113)) (.cells (nxCells nx0) 119); simpa using this
    · show _ = _; rw [HN0.out]; rfl
    · show _ = _; rw [HN0.out]; exact first_ok
    · exact (((Below.refl _ _).alloc (Nat.le_refl _) _).alloc (by simp) _).alloc (by simp; omega) _
  case round =>
    obtain ⟨m, nx, rfl, hm, hnl, hb0, hb1, hb2, HF, HO, hbel⟩ := hrel
    have hlt0 := lt_of_blk hb0
    have hlt1 := lt_of_blk hb1
    have hlt2 := lt_of_blk hb2
    by_cases hlt : m < 30
    · have hg1 := (hG.below hbel hGs).counts m (by omega)
      obtain ⟨x, hx⟩ : ∃ x, x = nx.getD m 0 := ⟨_, rfl⟩
      obtain ⟨y, hy⟩ : ∃ y, y = counts.getD m 0 := ⟨_, rfl⟩
      have hc1 : wr.cell? ⟨w.heap.size + 1 + 1, m, none⟩ = some (.int .u32 (x : Nat)) := by rw [cell_of_row wr _ m _ _ _ hb2, nxCells_get _ _ (by omega), hx]
      have hc2 : wr.cell? ⟨w.heap.size + 1 + 1, m + 1, none⟩ = some (.int .u32 (nx.getD (m + 1) 0 : Nat)) := by rw [cell_of_row wr _ (m + 1) _ _ _ hb2, nxCells_get _ _ (by omega)]
      obtain ⟨old, hold⟩ : ∃ v, v = nx.getD (m + 1) 0 := ⟨_, rfl⟩
      rw [← hold] at hc2
      have hf2 := frozen_of_row wr _ (m + 1) _ _ hb2
      rw [← hy] at hg1
      have hbnd : (x + y) * 2 < 2147483648 ∧ firstOk (30 - (m + 1)) (m + 1 + 1) (nx.set (m + 1) ((x + y) * 2)) = true := by
        have := HO.out
        rw [show 30 - m = (30 - (m + 1)) + 1 from by omega, firstOk] at this
        simp only [Bool.and_eq_true, decide_eq_true_eq, Nat.add_sub_cancel, ← hx, ← hy] at this
        exact this
      have HF2 : Hid (first (30 - (m + 1)) (m + 1 + 1) (nx.set (m + 1) ((x + y) * 2)) = nexts) := by
        have := HF.out
        rw [show 30 - m = (30 - (m + 1)) + 1 from by omega, first] at this
        simp only [Nat.add_sub_cancel, ← hx, ← hy] at this
        exact this
      have HO2 := Lib.hid hbnd.2
      have hb' := hbnd.1
      clear hold hx hy HF HO hbnd hG
      have HB0 := Lib.hid hb0
      have HB1 := Lib.hid hb1
      have HB2 := Lib.hid hb2
      clear hb0 hb1 hb2
      go_wp2
      go_region
      all_goals go_wp2
      go_roundw
      case rel =>
        refine ⟨m + 1, nx.set (m + 1) ((x + y) * 2), by go_num, by omega, by simpa using hnl, ?_, ?_, ?_, HF2, HO2, ?_⟩
        · rw [heap_drew, heap_setCell_other _ _ _ _ (by simp; omega)]; exact HB0.out
        · rw [heap_drew, heap_setCell_other _ _ _ _ (by simp)]; exact HB1.out
        · rw [heap_drew, heap_setCell_same _ _ _ _ _ _ HB2.out, ← nxCells_set]; rfl
        · exact (hbel.setCell (by simp; omega) _).drew
      case measure => simp [intOf]; omega
    · obtain rfl : m = 30 := by omega
      have hnx : nx = nexts := HF.out
      have HNX := Lib.hid hnx
      clear hnx HF HO
      have hG2 := hG.below hbel hGs
      have hGs2 := hG2.size
      go_wp2_with (go_at_call 59; refine (listed_any _ hG2).mono ?_; rintro e w1 ⟨rfl, hbe1⟩)
      have hB0 := (hbe1.block _ hlt0).trans hb0
      have hB1 := (hbe1.block _ hlt1).trans hb1
      have hB2 := (hbe1.block _ hlt2).trans hb2
      have hbel1 := hbel.trans (hbe1.mono hbel.size)
      have HOk : Hid (fromOk nx lens = true) := by show _ = _; rw [HNX.out]; exact from_ok
      have HFr : Hid (from_ nx lens = codes) := by show _ = _; rw [HNX.out]; exact codes_from
      clear hb0 hb1 hb2 hlt0 hlt1 hlt2 HNX
      go_loopw [23] (fun t wr => ∃ (k : Nat) (nx : List Nat), t = .int .i64 k ∧ k ≤ 257 ∧ nx.length = 31 ∧ wr.heap[w.heap.size]? = some (.cells (codeCells 0) 113 (0, 0)) ∧ wr.heap[w.heap.size + 1]? = some (.cells (codeCells k) 113 (0, 0)) ∧
          wr.heap[w.heap.size + 1 + 1]? = some (.cells (nxCells nx) 119 (0, 0)) ∧ Hid (from_ nx (lens.drop k) = codes.drop k) ∧ Hid (fromOk nx (lens.drop k) = true) ∧ Below w.heap.size w wr) (fun t _ => 257 - (intOf t).toNat)
      case atStart => exact ⟨0, nx, rfl, by omega, hnl, hB0, hB1, hB2, HFr, HOk, hbel1⟩
      case round =>
        obtain ⟨k, nx, rfl, hk, hnl, hb0, hb1, hb2, HF, HO, hbel⟩ := hrel
        clear hB0 hB1 hB2 HFr HOk hbe1 hG2 hGs2
        have hlt0 := lt_of_blk hb0
        have hlt1 := lt_of_blk hb1
        have hlt2 := lt_of_blk hb2
        by_cases hlt : k < 257
        · have hl : k < lens.length := by rw [lens_length]; exact hlt
          have hl2 : k < codes.length := by rw [codes_length]; exact hlt
          obtain ⟨n, hn⟩ : ∃ n, n = lens[k] := ⟨_, rfl⟩
          have hr := lens_range n (by rw [hn]; exact List.getElem_mem hl)
          obtain ⟨hr1, hr2⟩ := hr
          have hd : lens.drop k = n :: lens.drop (k + 1) := by rw [hn]; exact List.drop_eq_getElem_cons hl
          have hcd : codes.drop k = codes[k] :: codes.drop (k + 1) := List.drop_eq_getElem_cons hl2
          obtain ⟨c, hc⟩ : ∃ c, c = nx.getD n 0 := ⟨_, rfl⟩
          have hF := HF.out
          rw [hd, hcd, from_, ← hc] at hF
          injection hF with hF1 hF2
          have hO := HO.out
          rw [hd, fromOk, ← hc] at hO
          simp only [Bool.and_eq_true, decide_eq_true_eq] at hO
          have hcb := hO.1
          have HF2 := Lib.hid hF2
          have HO2 := Lib.hid hO.2
          have HC := Lib.hid hF1
          have hix : ∀ W, (Instr.index 120 (.agg (lenCells 257)) (.int .i64 (k : Int))).run Tryd.prog W = .ok (.int .i64 (n : Nat)) W :=
            fun W => run_index_one 120 3 257 (lenCells 257) .i64 k _ Tryd.underlying120 _ Tryd.underlying3 rfl (by kernel_rfl) hlt (by
              have e : lenCells 257 = (lens.map fun (n : Nat) => Value.int .i64 n).toArray := by unfold lenCells; rw [show (257 : Nat) = lens.length from lens_length.symm, fillL_all]
              rw [e]; simp [hl, hn]; rfl) W
          have hc1 : wr.cell? ⟨w.heap.size + 1 + 1, n, none⟩ = some (.int .u32 (c : Nat)) := by rw [cell_of_row wr _ n _ _ _ hb2, nxCells_get _ _ (by omega), hc]
          have hf2 := frozen_of_row wr _ n _ _ hb2
          have hs : (codeCells k).size = 514 := codeCells_size k
          have hq1 : (codeCells k)[2 * k]? = some ((codeCells k)[2 * k]'(by omega)) := by simp
          have hq2 : (codeCells k)[2 * k + 1]? = some ((codeCells k)[2 * k + 1]'(by omega)) := by simp
          have hd1 := cell_of_row wr _ (k * 2) _ _ _ hb1
          have hd2 := cell_of_row wr _ (k * 2 + 1) _ _ _ hb1
          rw [Nat.mul_comm k 2, hq1] at hd1
          rw [Nat.mul_comm k 2, hq2] at hd2
          have hf3 := frozen_of_row wr _ (k * 2) _ _ hb1
          have hf4 := frozen_of_row wr _ (k * 2 + 1) _ _ hb1
          generalize (codeCells k)[2 * k]'(by omega) = o1 at hd1
          generalize (codeCells k)[2 * k + 1]'(by omega) = o2 at hd2
          rw [Nat.mul_comm 2 k] at hd1 hd2
          have HB0 := Lib.hid hb0
          have HB1 := Lib.hid hb1
          have HB2 := Lib.hid hb2
          clear hb0 hb1 hb2 hq1 hq2 hs hO hF1 hF2 hd hcd hn hc HF HO
          go_wp2
          go_roundw
          case rel =>
            refine ⟨k + 1, nx.set n (c + 1), by go_num, by omega, by simpa using hnl, ?_, ?_, ?_, HF2, HO2, ?_⟩
            · rw [heap_setCell_other _ _ _ _ (by simp; omega), heap_setCell_other _ _ _ _ (by simp), heap_setCell_other _ _ _ _ (by simp)]; exact HB0.out
            · rw [heap_setCell_other _ _ _ _ (by simp), heap_setCell_same _ _ _ _ _ _ (heap_setCell_same _ _ _ _ _ _ HB1.out), Nat.mul_comm k 2, ← codeCells_set k hl2, ← HC.out]
            · rw [heap_setCell_same _ _ _ _ _ _ ((heap_setCell_other _ _ _ _ (by simp)).trans ((heap_setCell_other _ _ _ _ (by simp)).trans HB2.out)), ← nxCells_set]; rfl
            · exact ((hbel.setCell (by simp) _).setCell (by simp) _).setCell (by simp; omega) _
          case measure => simp [intOf]; omega
        · obtain rfl : k = 257 := by omega
          go_wp2_with (first
            | (with_reducible refine wpList_load_row rfl 113 _ rfl (w.heap.size + 1) rfl 113 (codeCells 257) (0, 0) _ hb1 Tryd.underlying113 rfl (by rw [codeCells_size]; kernel_rfl) ?_)
            | (with_reducible refine wpList_store_all rfl 113 _ _ rfl w.heap.size (codeCells 0) (codeCells 257) 113 rfl rfl hb0 (by rw [codeCells_size, codeCells_size]) (by rw [codeCells_size]; kernel_rfl) (codeCells_one 257) ?_; intro w2 hw2 hg2 hs2))
          refine bodyPost_ret (results_cell_row rfl _ _ w.heap.size 113 (codeCells 257) (0, 0) _ rfl hw2 Tryd.underlying113 rfl (by rw [codeCells_size]; kernel_rfl)) rfl ?_
          exact ⟨rfl, hbel.grown hg2 (by omega) (fun k hk => by cases hk; omega)⟩
end Huff
end Go.Proofs.YtkpdhnkiabgghaaDoor
