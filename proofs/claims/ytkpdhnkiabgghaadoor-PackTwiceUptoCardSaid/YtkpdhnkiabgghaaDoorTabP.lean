/- Layer 4, table: the fixed entries. -/
import Derived.Test.YtkpdhnkiabgghaaDoorTabA
namespace Go.Proofs.YtkpdhnkiabgghaaDoor
open Go.RowKit
section
variable {P : Program} {Q : Exit → Act → World → Prop} {ops : Array Oper}
/-- A run of operations that lay constants and what was laid before together. -/
def lays (P : Program) : List Oper → Act → Option Act
  | [], a => some a
  | o :: l, a => match o.guard, o.op with
    | none, .build t parts => match P.built t (parts.map fun p => (p.1, a.eval p.2)).toList with
      | some c => lays P l (a.put o.dst (.agg c))
      | none => none
    | _, _ => none
theorem wpList_lays {w : World} : ∀ (l : List Oper) (a a' : Act) (rest : List Oper), lays P l a = some a' → wpList P ops Q rest a' w → wpList P ops Q (l ++ rest) a w
  | [], a, a', rest, h, k => by simp only [lays] at h; cases h; exact k
  | o :: l, a, a', rest, h, k => by
    unfold lays at h
    split at h
    · rename_i t parts hgd ho
      split at h
      · rename_i c hc
        exact wpList_plain hgd fun _ hK => wp_build t parts ho (by rw [hc]; rfl) (by rw [hc]; exact hK _ _ (wpList_lays l _ a' rest h k))
      · cases h
    · cases h
theorem lays_defers : ∀ (l : List Oper) (a a' : Act), lays P l a = some a' → a'.defers = a.defers
  | [], a, a', h => by simp only [lays] at h; cases h; rfl
  | o :: l, a, a', h => by
    unfold lays at h
    split at h
    · split at h
      · exact (lays_defers l _ a' h).trans (by unfold Act.put; split <;> rfl)
      · cases h
    · cases h
theorem wpList_lays_take {w : World} {l : List Oper} {a : Act} (n : Nat) (rest : List Oper) (x y : Operand) (vx vy : Value) (hl : l.drop n = rest)
    (h : ((lays P (l.take n) a).map fun a' => (a'.eval x, a'.eval y)) = some (vx, vy)) (k : ∀ a', a'.eval x = vx → a'.eval y = vy → a'.defers = a.defers → wpList P ops Q rest a' w) : wpList P ops Q l a w := by
  cases h' : lays P (l.take n) a with
  | none => rw [h'] at h; cases h
  | some a' =>
    rw [h'] at h
    have := wpList_lays (ops := ops) (Q := Q) (w := w) _ _ _ rest h' (k a' (by cases h; rfl) (by cases h; rfl) (lays_defers _ _ _ h'))
    rwa [← hl, List.take_append_drop] at this
end
namespace Table
/-- The entries 1 to 61. -/
def fixedL : List Ent := [
  (⟨#[58, 97, 117, 116, 104, 111, 114, 105, 116, 121]⟩, ⟨#[]⟩),
  (⟨#[58, 109, 101, 116, 104, 111, 100]⟩, ⟨#[71, 69, 84]⟩),
  (⟨#[58, 109, 101, 116, 104, 111, 100]⟩, ⟨#[80, 79, 83, 84]⟩),
  (⟨#[58, 112, 97, 116, 104]⟩, ⟨#[47]⟩),
  (⟨#[58, 112, 97, 116, 104]⟩, ⟨#[47, 105, 110, 100, 101, 120, 46, 104, 116, 109, 108]⟩),
  (⟨#[58, 115, 99, 104, 101, 109, 101]⟩, ⟨#[104, 116, 116, 112]⟩),
  (⟨#[58, 115, 99, 104, 101, 109, 101]⟩, ⟨#[104, 116, 116, 112, 115]⟩),
  (⟨#[58, 115, 116, 97, 116, 117, 115]⟩, ⟨#[50, 48, 48]⟩),
  (⟨#[58, 115, 116, 97, 116, 117, 115]⟩, ⟨#[50, 48, 52]⟩),
  (⟨#[58, 115, 116, 97, 116, 117, 115]⟩, ⟨#[50, 48, 54]⟩),
  (⟨#[58, 115, 116, 97, 116, 117, 115]⟩, ⟨#[51, 48, 52]⟩),
  (⟨#[58, 115, 116, 97, 116, 117, 115]⟩, ⟨#[52, 48, 48]⟩),
  (⟨#[58, 115, 116, 97, 116, 117, 115]⟩, ⟨#[52, 48, 52]⟩),
  (⟨#[58, 115, 116, 97, 116, 117, 115]⟩, ⟨#[53, 48, 48]⟩),
  (⟨#[97, 99, 99, 101, 112, 116, 45, 99, 104, 97, 114, 115, 101, 116]⟩, ⟨#[]⟩),
  (⟨#[97, 99, 99, 101, 112, 116, 45, 101, 110, 99, 111, 100, 105, 110, 103]⟩, ⟨#[103, 122, 105, 112, 44, 32, 100, 101, 102, 108, 97, 116, 101]⟩),
  (⟨#[97, 99, 99, 101, 112, 116, 45, 108, 97, 110, 103, 117, 97, 103, 101]⟩, ⟨#[]⟩),
  (⟨#[97, 99, 99, 101, 112, 116, 45, 114, 97, 110, 103, 101, 115]⟩, ⟨#[]⟩),
  (⟨#[97, 99, 99, 101, 112, 116]⟩, ⟨#[]⟩),
  (⟨#[97, 99, 99, 101, 115, 115, 45, 99, 111, 110, 116, 114, 111, 108, 45, 97, 108, 108, 111, 119, 45, 111, 114, 105, 103, 105, 110]⟩, ⟨#[]⟩),
  (⟨#[97, 103, 101]⟩, ⟨#[]⟩),
  (⟨#[97, 108, 108, 111, 119]⟩, ⟨#[]⟩),
  (⟨#[97, 117, 116, 104, 111, 114, 105, 122, 97, 116, 105, 111, 110]⟩, ⟨#[]⟩),
  (⟨#[99, 97, 99, 104, 101, 45, 99, 111, 110, 116, 114, 111, 108]⟩, ⟨#[]⟩),
  (⟨#[99, 111, 110, 116, 101, 110, 116, 45, 100, 105, 115, 112, 111, 115, 105, 116, 105, 111, 110]⟩, ⟨#[]⟩),
  (⟨#[99, 111, 110, 116, 101, 110, 116, 45, 101, 110, 99, 111, 100, 105, 110, 103]⟩, ⟨#[]⟩),
  (⟨#[99, 111, 110, 116, 101, 110, 116, 45, 108, 97, 110, 103, 117, 97, 103, 101]⟩, ⟨#[]⟩),
  (⟨#[99, 111, 110, 116, 101, 110, 116, 45, 108, 101, 110, 103, 116, 104]⟩, ⟨#[]⟩),
  (⟨#[99, 111, 110, 116, 101, 110, 116, 45, 108, 111, 99, 97, 116, 105, 111, 110]⟩, ⟨#[]⟩),
  (⟨#[99, 111, 110, 116, 101, 110, 116, 45, 114, 97, 110, 103, 101]⟩, ⟨#[]⟩),
  (⟨#[99, 111, 110, 116, 101, 110, 116, 45, 116, 121, 112, 101]⟩, ⟨#[]⟩),
  (⟨#[99, 111, 111, 107, 105, 101]⟩, ⟨#[]⟩),
  (⟨#[100, 97, 116, 101]⟩, ⟨#[]⟩),
  (⟨#[101, 116, 97, 103]⟩, ⟨#[]⟩),
  (⟨#[101, 120, 112, 101, 99, 116]⟩, ⟨#[]⟩),
  (⟨#[101, 120, 112, 105, 114, 101, 115]⟩, ⟨#[]⟩),
  (⟨#[102, 114, 111, 109]⟩, ⟨#[]⟩),
  (⟨#[104, 111, 115, 116]⟩, ⟨#[]⟩),
  (⟨#[105, 102, 45, 109, 97, 116, 99, 104]⟩, ⟨#[]⟩),
  (⟨#[105, 102, 45, 109, 111, 100, 105, 102, 105, 101, 100, 45, 115, 105, 110, 99, 101]⟩, ⟨#[]⟩),
  (⟨#[105, 102, 45, 110, 111, 110, 101, 45, 109, 97, 116, 99, 104]⟩, ⟨#[]⟩),
  (⟨#[105, 102, 45, 114, 97, 110, 103, 101]⟩, ⟨#[]⟩),
  (⟨#[105, 102, 45, 117, 110, 109, 111, 100, 105, 102, 105, 101, 100, 45, 115, 105, 110, 99, 101]⟩, ⟨#[]⟩),
  (⟨#[108, 97, 115, 116, 45, 109, 111, 100, 105, 102, 105, 101, 100]⟩, ⟨#[]⟩),
  (⟨#[108, 105, 110, 107]⟩, ⟨#[]⟩),
  (⟨#[108, 111, 99, 97, 116, 105, 111, 110]⟩, ⟨#[]⟩),
  (⟨#[109, 97, 120, 45, 102, 111, 114, 119, 97, 114, 100, 115]⟩, ⟨#[]⟩),
  (⟨#[112, 114, 111, 120, 121, 45, 97, 117, 116, 104, 101, 110, 116, 105, 99, 97, 116, 101]⟩, ⟨#[]⟩),
  (⟨#[112, 114, 111, 120, 121, 45, 97, 117, 116, 104, 111, 114, 105, 122, 97, 116, 105, 111, 110]⟩, ⟨#[]⟩),
  (⟨#[114, 97, 110, 103, 101]⟩, ⟨#[]⟩),
  (⟨#[114, 101, 102, 101, 114, 101, 114]⟩, ⟨#[]⟩),
  (⟨#[114, 101, 102, 114, 101, 115, 104]⟩, ⟨#[]⟩),
  (⟨#[114, 101, 116, 114, 121, 45, 97, 102, 116, 101, 114]⟩, ⟨#[]⟩),
  (⟨#[115, 101, 114, 118, 101, 114]⟩, ⟨#[]⟩),
  (⟨#[115, 101, 116, 45, 99, 111, 111, 107, 105, 101]⟩, ⟨#[]⟩),
  (⟨#[115, 116, 114, 105, 99, 116, 45, 116, 114, 97, 110, 115, 112, 111, 114, 116, 45, 115, 101, 99, 117, 114, 105, 116, 121]⟩, ⟨#[]⟩),
  (⟨#[116, 114, 97, 110, 115, 102, 101, 114, 45, 101, 110, 99, 111, 100, 105, 110, 103]⟩, ⟨#[]⟩),
  (⟨#[117, 115, 101, 114, 45, 97, 103, 101, 110, 116]⟩, ⟨#[]⟩),
  (⟨#[118, 97, 114, 121]⟩, ⟨#[]⟩),
  (⟨#[118, 105, 97]⟩, ⟨#[]⟩),
  (⟨#[119, 119, 119, 45, 97, 117, 116, 104, 101, 110, 116, 105, 99, 97, 116, 101]⟩, ⟨#[]⟩)]
theorem fixedL_length : fixedL.length = 61 := by kernel_rfl
def fixC : Array Value := (entC fixedL).toArray
theorem fixC_size : fixC.size = 122 := by simp [fixC, entC_length, fixedL_length]
theorem entC_one (l : List Ent) : (entC l).all (·.oneCell') = true := by
  rw [List.all_eq_true]
  intro x hx
  simp only [entC, List.mem_flatMap] at hx
  obtain ⟨n, _, hn⟩ := hx
  simp at hn
  rcases hn with rfl | rfl <;> rfl
theorem info_fixed : (Tryd.prog.info? 96).map (·.size) = some 122 := by kernel_rfl
theorem info_fixed0 : (Tryd.prog.info? 96).map (fun i => (i.zero.map (·.cells), i.size)) = some (some (Array.replicate 122 (.string ⟨#[]⟩)), 122) := by kernel_rfl
set_option maxRecDepth 100000 in
set_option maxHeartbeats 4000000 in
theorem fixed_any (w : World) : Calls Tryd.prog 45 #[] w fun e w' => e = .returned (.agg fixC) ∧ Below w.heap.size w w' := by
  obtain ⟨i0, z0, hi0, hz0, hzc⟩ := Huff.info_zero info_fixed0
  obtain ⟨zc, hzc2⟩ : ∃ zc, zc = z0.cells := ⟨_, rfl⟩
  have hzs : zc.size = 122 := by rw [hzc2, hzc]; simp
  clear hzc
  go_enter Tryd.func45, Tryd.ntmps45
  go_wp2_with (first
    | (with_reducible refine wpList_alloc_abs rfl 96 rfl i0 z0 zc hi0 hz0 hzc2.symm ?_)
    | (refine wpList_lays_take 62 _ (.tmp 0) (.tmp 62) (.pointer (some ⟨w.heap.size, 0, none⟩)) (.agg fixC) (by rfl) (by kernel_rfl) ?_; intro a hx hy hd; refine wpList_store_all rfl _ _ _ rfl w.heap.size zc fixC _ hx hy (heap_alloc_new w _) (by rw [hzs, fixC_size]) (by rw [info_fixed, fixC_size]) (by unfold fixC; rw [List.all_toArray]; exact entC_one _) ?_; intro w1 hb1 hg1 hs1)
    | fail)
  refine bodyPost_ret (results_cell_row rfl _ _ w.heap.size 96 fixC (0, 0) _ hx hb1 Tryd.underlying96 rfl (by rw [fixC_size]; kernel_rfl)) hd ?_
  exact ⟨rfl, ((Below.refl _ _).alloc (Nat.le_refl _) _).grown hg1 (by simp) (fun k hk => by cases hk; omega)⟩
end Table
end Go.Proofs.YtkpdhnkiabgghaaDoor
