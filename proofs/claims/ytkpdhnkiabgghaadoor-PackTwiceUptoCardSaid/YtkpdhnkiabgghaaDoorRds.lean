/- A slice that is read: its cells, wherever they lie. Nothing of the program. -/
import Derived.Test.YtkpdhnkiabgghaaDoorMem
namespace Go.Proofs.YtkpdhnkiabgghaaDoor
open Go.RowKit
/-- A slice value of n elements (sz cells each) reads as the cells xs. -/
def Rds (w : World) (sz : Nat) (v : Value) (n : Nat) (xs : List Value) : Prop :=
  xs.length = n * sz ∧ ((∃ A cap, v = .slice A n cap ∧ n = 0 ∧ cap ≤ maxLen) ∨
    ∃ g off cap, v = .slice (some ⟨g, off, none⟩) n cap ∧ n ≤ cap ∧ cap ≤ maxLen ∧ (0 < n → g < w.heap.size) ∧ ∀ j u, xs[j]? = some u → w.cell? ⟨g, off + j, none⟩ = some u)
section
variable {w : World} {e : TypeId} {sz n : Nat} {v : Value} {xs : List Value}
theorem Rds.of_own (h : Own w e sz v n xs) : Rds w sz v n xs := by
  refine ⟨h.1, ?_⟩
  rcases h.2 with ⟨rfl, rfl⟩ | ⟨g, off, cap, cur, rfl, hg, h1, h2, _⟩
  · exact .inl ⟨none, 0, rfl, rfl, by simp [maxLen]⟩
  · exact .inr ⟨g, off, cap, rfl, h1, h2, fun _ => (Array.getElem?_eq_some_iff.1 hg).1, Own.cells h⟩
theorem Rds.len (h : Rds w sz v n xs) : xs.length = n * sz := h.1
theorem Rds.form (h : Rds w sz v n xs) (hn : 0 < n) : ∃ g off cap, v = .slice (some ⟨g, off, none⟩) n cap ∧ n ≤ cap ∧ cap ≤ maxLen ∧ g < w.heap.size := by
  rcases h.2 with ⟨_, _, _, h0, _⟩ | ⟨g, off, cap, rfl, h1, h2, h3, _⟩
  · omega
  · exact ⟨g, off, cap, rfl, h1, h2, h3 hn⟩
theorem Rds.form' (h : Rds w sz v n xs) : ∃ A cap, v = .slice A n cap ∧ n ≤ cap ∧ cap ≤ maxLen := by
  rcases h.2 with ⟨A, cap, rfl, rfl, hc⟩ | ⟨g, off, cap, rfl, h1, h2, _⟩
  · exact ⟨A, cap, rfl, by omega, hc⟩
  · exact ⟨_, cap, rfl, h1, h2⟩
theorem Rds.cellAt {g off cap : Nat} (h : Rds w sz (.slice (some ⟨g, off, none⟩) n cap) n xs) (j o : Nat) (u : Value) (ho : o = off + j) (hu : xs[j]? = some u) : w.cell? ⟨g, o, none⟩ = some u := by
  subst ho
  rcases h.2 with ⟨_, _, hv, h0, _⟩ | ⟨g', off', cap', hv, _, _, _, hc⟩
  · have h1 := h.1
    rw [h0, Nat.zero_mul] at h1
    rw [List.eq_nil_of_length_eq_zero h1] at hu
    cases hu
  · cases hv; exact hc j u hu
theorem Rds.ltAt {g off cap : Nat} (h : Rds w sz (.slice (some ⟨g, off, none⟩) n cap) n xs) (hn : 0 < n) : g < w.heap.size := by
  obtain ⟨g', off', cap', hv, _, _, hl⟩ := h.form hn
  cases hv; exact hl
theorem Rds.kept {w' : World} (h : Rds w sz v n xs) (hs : w.heap.size ≤ w'.heap.size) (hk : 0 < n → ∀ k, k < w.heap.size → v.ownBlock = some k → w'.heap[k]? = w.heap[k]?) : Rds w' sz v n xs := by
  refine ⟨h.1, ?_⟩
  rcases h.2 with hn | ⟨g, off, cap, rfl, h1, h2, h3, hc⟩
  · exact .inl hn
  · refine .inr ⟨g, off, cap, rfl, h1, h2, fun hn => Nat.lt_of_lt_of_le (h3 hn) hs, fun j u hu => ?_⟩
    have hlt : g < w.heap.size := World.block_lt_of_cell? w ⟨g, off + j, none⟩ (hc j u hu)
    have hn : 0 < n := by
      rcases Nat.eq_zero_or_pos n with h0 | h0
      · have := h.1
        rw [h0, Nat.zero_mul] at this
        rw [List.eq_nil_of_length_eq_zero this] at hu
        cases hu
      · exact h0
    exact (World.cell?_of_block (a := ⟨g, off + j, none⟩) (hk hn g hlt rfl)).trans (hc j u hu)
theorem Rds.below {w' : World} (h : Rds w sz v n xs) (hb : Below w.heap.size w w') : Rds w' sz v n xs := h.kept hb.size fun _ k hk _ => hb.block k hk
theorem Mod.rds {S : Nat → Prop} {a b : World} (h : Mod S a b) (ho : Rds a sz v n xs) (hs : 0 < n → ∀ k, v.ownBlock = some k → ¬ S k) : Rds b sz v n xs :=
  ho.kept h.size fun hn k hk hv => h.block k hk (hs hn k hv)
end
end Go.Proofs.YtkpdhnkiabgghaaDoor
