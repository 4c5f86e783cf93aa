/- Layer 1, huff: the tables: listed. -/
import Derived.Test.YtkpdhnkiabgghaaDoorPint
import Derived.Test.YtkpdhnkiabgghaaDoorTake
import Derived.Test.YtkpdhnkiabgghaaDoorHuffP
import Derived.Test.YtkpdhnkiabgghaaDoorShelf
import Derived.Lib.LaidTab
namespace Go.Proofs.YtkpdhnkiabgghaaDoor
open Go.RowKit
/-- What the walks know of the package-level variables. -/
structure G (w : World) : Prop where
  space : Lib.TabIs Tryd.prog w "strings.asciiSpace" .u8 Lib.asciiSpaceTab
  counts : ∀ i, i < 31 → w.cell? ⟨1, i, none⟩ = some (.int .u32 (Huff.counts.getD i 0 : Nat))
  forms : ∀ i b p, i < 5 → ([(128, 7), (64, 6), (32, 5), (16, 4), (0, 4)] : List (Int × Int))[i]? = some (b, p) → w.cell? ⟨0, 2 * i, none⟩ = some (.int .i64 b) ∧ w.cell? ⟨0, 2 * i + 1, none⟩ = some (.int .i64 p)
  size : 10 ≤ w.heap.size
theorem G.kept {w w' : World} (h : G w) (hs : w.heap.size ≤ w'.heap.size) (hk : ∀ k, k < 10 → w'.heap[k]? = w.heap[k]?) : G w' := by
  have hc : ∀ b o, b < 10 → w'.cell? ⟨b, o, none⟩ = w.cell? ⟨b, o, none⟩ := fun b o hb => World.cell?_of_block (hk b hb)
  refine ⟨?_, fun i hi => (hc _ _ (by decide)).trans (h.counts i hi), fun i b p hi hf => ?_, Nat.le_trans h.size hs⟩
  · have h1 := h.space
    have hg : Tryd.prog.globalNamed "strings.asciiSpace" = some 2 := by kernel_rfl
    unfold Lib.TabIs World.var? at h1 ⊢
    simp only [hg, Option.bind_some] at h1 ⊢
    rw [hk _ (by decide)]
    exact h1
  · obtain ⟨h1, h2⟩ := h.forms i b p hi hf
    exact ⟨(hc _ _ (by decide)).trans h1, (hc _ _ (by decide)).trans h2⟩
theorem G.below {B : Nat} {w w' : World} (h : G w) (hb : Below B w w') (hB : 10 ≤ B) : G w' := h.kept hb.size fun k hk => hb.block k (by omega)
theorem G.drewN {w : World} (h : G w) (n : Nat) : G (w.drewN n) := h.kept (Nat.le_refl _) fun _ _ => rfl
theorem G.alloc {w : World} (h : G w) (o : Obj) : G (w.alloc o) := h.below ((Below.refl w.heap.size w).alloc (Nat.le_refl _) o) h.size
namespace Huff
def wordCells : Array Value := (words.map fun l => Value.string ⟨l.toArray⟩).toArray
theorem fields_any (s : ByteArray) (w : World) (hG : G w) (h : Lib.fields s.data.toList = words) (hs : s.size < 4294967281) (ha : s.data.toList.all (fun b => b.toNat < 128) = true) :
    Calls Tryd.prog 61 #[.string s] w fun e w' => e = .returned (.slice (some ⟨w.heap.size, 0, none⟩) 257 257) ∧ w.alloc (.cells wordCells 9) = w' := by
  refine (Tryd.strings_Fields s w hs (fun j b hb => ?_) hG.space).mono ?_
  · have := List.all_eq_true.1 ha b (List.mem_of_getElem? hb)
    simpa using this
  · rintro e w' ⟨rfl, rfl⟩
    rw [h]
    have hl : words.length = 257 := by simp [words, lens_length]
    rw [hl]
    exact ⟨rfl, rfl⟩
theorem atoi_any (n : Nat) (hn : n ∈ lens) (w : World) :
    Calls Tryd.prog 62 #[.string ⟨(word n).toArray⟩] w fun e w' => e = .returned (.tuple #[.int .i64 n, .nilIface]) ∧ Below w.heap.size w w' := by
  obtain ⟨h1, h2⟩ := words_atoi n hn
  refine (Tryd.strconv_Atoi ⟨(word n).toArray⟩ n (by simp [ByteArray.size]; omega) (by simpa using h2) w).mono ?_
  rintro e w' ⟨rfl, t, rfl⟩
  exact ⟨rfl, rfl, rfl, rfl, by rw [Lib.bytesWorld_size]; omega, fun k hk => Lib.bytesWorld_at_old w _ _ k hk⟩
theorem info_arr : (Tryd.prog.info? 120).map (fun i => (i.zero.map (·.cells), i.size)) = some (some (Array.replicate 257 (.int .i64 0)), 257) := by kernel_rfl
theorem info_arr_size : (Tryd.prog.info? 120).map (·.size) = some 257 := by kernel_rfl
theorem info_zero {P : Program} {t : TypeId} {zs : Array Value} {n : Nat} (h : (P.info? t).map (fun i => (i.zero.map (·.cells), i.size)) = some (some zs, n)) : ∃ i z, P.info? t = some i ∧ i.zero = some z ∧ z.cells = zs := by
  cases hi : P.info? t with
  | none => rw [hi] at h; cases h
  | some i =>
    rw [hi] at h
    simp only [Option.map_some, Option.some.injEq, Prod.mk.injEq] at h
    cases hz : i.zero with
    | none => rw [hz] at h; simp at h
    | some z => rw [hz] at h; exact ⟨i, z, rfl, hz, by simpa using h.1⟩
def lenCells (k : Nat) : Array Value := ((fillL lens 0 k).map fun (n : Nat) => Value.int .i64 n).toArray
theorem lenCells_zero : lenCells 0 = Array.replicate 257 (.int .i64 0) := by unfold lenCells; rw [fillL_zero, lens_length, List.map_replicate, List.toArray_replicate]; rfl
theorem lenCells_set (k : Nat) (h : k < lens.length) : (lenCells k).setIfInBounds k (.int .i64 (lens[k] : Nat)) = lenCells (k + 1) := by
  unfold lenCells
  rw [← fillL_set lens 0 k h, List.map_set]
  simp
theorem lenCells_one (k : Nat) : (lenCells k).all (·.oneCell') = true := by
  unfold lenCells
  rw [Array.all_eq_true_iff_forall_mem]
  intro x hx
  simp only [List.mem_toArray, List.mem_map] at hx
  obtain ⟨n, _, rfl⟩ := hx
  rfl
theorem lenCells_size (k : Nat) : (lenCells k).size = 257 := by simp [lenCells, fillL_length, lens_length]
set_option maxRecDepth 100000 in
set_option maxHeartbeats 1000000 in
theorem listed_any (w : World) (hG : G w) :
    Calls Tryd.prog 59 #[] w fun e w' => e = .returned (.agg (lenCells 257)) ∧ Below w.heap.size w w' := by
  obtain ⟨i0, z0, hi0, hz0, hzc⟩ := info_zero info_arr
  rw [← lenCells_zero] at hzc
  obtain ⟨B, hB⟩ : ∃ B, B = w.heap.size := ⟨_, rfl⟩
  have HB := Lib.hid hB
  have hGs := hG.size
  go_enter Tryd.func59, Tryd.ntmps59
  go_wp2_with (first
    | (with_reducible refine wpList_alloc_abs rfl 120 rfl i0 z0 (lenCells 0) hi0 hz0 hzc ?_)
    | (go_at_call 61; refine (fields_any _ _ ((hG.alloc _).alloc _) (by kernel_rfl) (by decide +kernel) (by decide +kernel)).mono ?_; rintro e w1 ⟨rfl, rfl⟩))
  go_loopw [6] (fun t wr => ∃ k : Nat, t = .int .i64 k ∧ k ≤ 257 ∧ wr.heap[w.heap.size]? = some (.cells (lenCells 0) 120 (0, 0)) ∧ wr.heap[w.heap.size + 1]? = some (.cells (lenCells k) 120 (0, 0)) ∧
      wr.heap[w.heap.size + 1 + 1]? = some (.cells wordCells 9 (0, 0)) ∧ Below w.heap.size w wr) (fun t _ => 257 - (intOf t).toNat)
  case atStart =>
    refine ⟨0, rfl, by omega, ?_, ?_, ?_, ?_⟩
    · rw [Below.heap_alloc _ _ _ (by simp; omega), Below.heap_alloc _ _ _ (by simp)]; exact heap_alloc_new w _
    · rw [Below.heap_alloc _ _ _ (by simp)]; have := heap_alloc_new (w.alloc (.cells (lenCells 0) 120)) (.cells (lenCells 0) 120); simpa using this
    · have := heap_alloc_new ((w.alloc (.cells (lenCells 0) 120)).alloc (.cells (lenCells 0) 120)) (.cells wordCells 9); simpa using this
    · exact (((Below.refl _ _).alloc (Nat.le_refl _) _).alloc (by simp) _).alloc (by simp; omega) _
  case round =>
    obtain ⟨k, rfl, hk, hb0, hb1, hb2, hbel⟩ := hrel
    by_cases hlt : k < 257
    · have hl : k < lens.length := by rw [lens_length]; exact hlt
      obtain ⟨n, hn⟩ : ∃ n, n = lens[k] := ⟨_, rfl⟩
      have hmem : n ∈ lens := by rw [hn]; exact List.getElem_mem hl
      have hcw : wr.cell? ⟨w.heap.size + 1 + 1, k, none⟩ = some (.string ⟨(word n).toArray⟩) := by
        rw [cell_of_row wr _ k _ _ _ hb2]
        simp [wordCells, words, hn, hl]
      have HN := Lib.hid hn
      clear hn
      have hc1 := cell_of_row wr _ k _ _ _ hb1
      have hc2 : (lenCells k)[k]? = some ((lenCells k)[k]'(by rw [lenCells_size]; omega)) := by simp [lenCells_size, hlt]
      rw [hc2] at hc1
      obtain ⟨old, hold⟩ : ∃ v, v = (lenCells k)[k]'(by rw [lenCells_size]; omega) := ⟨_, rfl⟩
      rw [← hold] at hc1
      clear hold hc2
      have hf1 := frozen_of_row wr _ k _ _ hb1
      have hlt0 := lt_of_block hb0
      have hlt1 := lt_of_block hb1
      have hlt2 := lt_of_block hb2
      have HB0 := Lib.hid hb0
      have HB1 := Lib.hid hb1
      have HB2 := Lib.hid hb2
      clear hb0 hb1 hb2
      go_wp2_with (go_at_call 62; refine (atoi_any n hmem _).mono ?_; rintro e w1 ⟨rfl, hbe1⟩; have hc3 := (hbe1.cell (p := ⟨w.heap.size + 1, k, none⟩) hlt1).trans hc1; have hf3 := (hbe1.frozen (p := ⟨w.heap.size + 1, k, none⟩) hlt1).trans hf1)
      go_roundw
      case rel =>
        refine ⟨k + 1, by go_num, by omega, ?_, ?_, ?_, ?_⟩
        · rw [heap_setCell_other _ _ _ _ (by simp)]; exact (hbe1.block _ hlt0).trans HB0.out
        · rw [heap_setCell_same _ _ _ _ _ _ ((hbe1.block _ hlt1).trans HB1.out)]
          rw [HN.out, lenCells_set k hl]
        · rw [heap_setCell_other _ _ _ _ (by simp)]; exact (hbe1.block _ hlt2).trans HB2.out
        · exact (hbel.trans (hbe1.mono (by omega))).setCell (by simp) _
      case measure => simp [intOf]; omega
    · obtain rfl : k = 257 := by omega
      have hlt0 := lt_of_block hb0
      go_wp2_with (first
        | (with_reducible refine wpList_load_row rfl 120 _ rfl (w.heap.size + 1) rfl 120 (lenCells 257) (0, 0) _ hb1 Tryd.underlying120 rfl (by rw [lenCells_size]; kernel_rfl) ?_)
        | (with_reducible refine wpList_store_all rfl 120 _ _ rfl w.heap.size (lenCells 0) (lenCells 257) 120 rfl rfl hb0 (by rw [lenCells_size, lenCells_size]) (by rw [lenCells_size]; kernel_rfl) (lenCells_one 257) ?_; intro w2 hw2 hg2 hs2))
      refine bodyPost_ret (results_cell_row rfl _ _ w.heap.size 120 (lenCells 257) (0, 0) _ rfl hw2 Tryd.underlying120 rfl (by rw [lenCells_size]; kernel_rfl)) rfl ?_
      exact ⟨rfl, hbel.grown hg2 (by omega) (fun k hk => by cases hk; omega)⟩
end Huff
end Go.Proofs.YtkpdhnkiabgghaaDoor
