/- Layer 1, huff: what Encode and Decode tell, as functions. Nothing of the program. -/
import Derived.Test.YtkpdhnkiabgghaaDoorHuffP
namespace Go.Proofs.YtkpdhnkiabgghaaDoor
namespace Huff
def drain (held : Nat) : Nat → List Int → Nat → List Int × Nat
  | 0, out, n => (out, n)
  | f + 1, out, n => if 8 ≤ n then drain held f (out ++ [((held / 2 ^ (n - 8) % 256 : Nat) : Int)]) (n - 8) else (out, n)
def nextHeld (held : Nat) (c : Nat × Nat) : Nat := held * 2 ^ c.2 % 18446744073709551616 + c.1
def encGo : List Nat → List Int → Nat → Nat → List Int × Nat × Nat
  | [], out, held, n => (out, held, n)
  | b :: bs, out, held, n => encGo bs (drain (nextHeld held (codes.getD b (0, 0))) 5 out (n + (codes.getD b (0, 0)).2)).1 (nextHeld held (codes.getD b (0, 0))) (drain (nextHeld held (codes.getD b (0, 0))) 5 out (n + (codes.getD b (0, 0)).2)).2
def lastByte (held n : Nat) : Nat := held * 2 ^ (8 - n) % 256 + (2 ^ (8 - n) - 1)
def finish (r : List Int × Nat × Nat) : List Int := if 0 < r.2.2 then r.1 ++ [((lastByte r.2.1 r.2.2 : Nat) : Int)] else r.1
def encN (s : List UInt8) : List Int := finish (encGo (s.map (·.toNat)) [] 0 0)
theorem drain_done (held f n : Nat) (out : List Int) (h : n < 8) : drain held f out n = (out, n) := by cases f <;> simp [drain]; omega
theorem drain_step (held f n : Nat) (out : List Int) (h : 8 ≤ n) : drain held (f + 1) out n = drain held f (out ++ [((held / 2 ^ (n - 8) % 256 : Nat) : Int)]) (n - 8) := by simp [drain, h]
theorem code_at (b : Nat) (h : b < 256) : ∃ c, codes.getD b (0, 0) = c ∧ 5 ≤ c.2 ∧ c.2 ≤ 30 ∧ c.1 < 2 ^ c.2 ∧ codes[b]? = some c := by
  have hl : b < codes.length := by rw [codes_length]; omega
  refine ⟨codes[b], ?_, ?_⟩
  · simp [hl]
  · obtain ⟨h1, h2, h3⟩ := codes_range _ (List.getElem_mem hl)
    exact ⟨h1, h2, h3, by simp [hl]⟩
theorem nextHeld_lt (held : Nat) (c : Nat × Nat) (h2 : c.2 ≤ 30) (h3 : c.1 < 2 ^ c.2) : nextHeld held c < 18446744073709551616 := by
  unfold nextHeld
  have e : (18446744073709551616 : Nat) = 2 ^ (64 - c.2) * 2 ^ c.2 := by rw [← Nat.pow_add, show 64 - c.2 + c.2 = 64 from by omega]
  rw [e, Nat.mul_mod_mul_right]
  have h4 : held % 2 ^ (64 - c.2) + 1 ≤ 2 ^ (64 - c.2) := Nat.mod_lt _ (Nat.pow_pos (by omega))
  have h5 := Nat.mul_le_mul_right (2 ^ c.2) h4
  rw [Nat.add_mul] at h5
  omega
theorem shifted_or (held : Nat) (c : Nat × Nat) (h2 : c.2 ≤ 30) : held * 2 ^ c.2 % 18446744073709551616 % 2 ^ c.2 = 0 := by
  have e : (18446744073709551616 : Nat) = 2 ^ (64 - c.2) * 2 ^ c.2 := by rw [← Nat.pow_add, show 64 - c.2 + c.2 = 64 from by omega]
  rw [e, Nat.mul_mod_mul_right]
  exact Nat.mul_mod_left _ _
theorem last_mod (held m : Nat) (h : m ≤ 7) : held * 2 ^ m % 256 % 2 ^ m = 0 := by
  have e : (256 : Nat) = 2 ^ (8 - m) * 2 ^ m := by rw [← Nat.pow_add, show 8 - m + m = 8 from by omega]
  rw [e, Nat.mul_mod_mul_right]
  exact Nat.mul_mod_left _ _
/-! ### Decode -/
def bitsOf (s : List UInt8) : List Nat := s.flatMap fun c => [c.toNat / 128 % 2, c.toNat / 64 % 2, c.toNat / 32 % 2, c.toNat / 16 % 2, c.toNat / 8 % 2, c.toNat / 4 % 2, c.toNat / 2 % 2, c.toNat % 2]
def decL : List Nat → Nat → Nat → Bool → List Int → Option (List Int)
  | [], _, depth, ones, out => if 7 < depth ∨ ones = false then none else some out
  | bit :: bs, at_, depth, ones, out =>
    if child nodes at_ bit = -257 then none
    else if child nodes at_ bit < 0 then decL bs 0 0 true (out ++ [(-child nodes at_ bit - 1) % 256])
    else decL bs (child nodes at_ bit).toNat (depth + 1) (ones && bit == 1) out
def decN (s : List UInt8) : Option (List Int) := decL (bitsOf s) 0 0 true []
theorem nodes_range : nodes.all (fun c => decide (-257 ≤ c.1) && decide (c.1 < 256) && decide (-257 ≤ c.2) && decide (c.2 < 256)) = true := by decide +kernel
theorem child_range (a b : Nat) (h : a < 256) : -257 ≤ child nodes a b ∧ child nodes a b < 256 := by
  have hl : a < nodes.length := by rw [nodes_length]; exact h
  have := List.all_eq_true.1 nodes_range _ (List.getElem_mem hl)
  simp only [Bool.and_eq_true, decide_eq_true_eq] at this
  unfold child
  rw [List.getD_eq_getElem?_getD, List.getElem?_eq_getElem hl]
  simp only [Option.getD_some]
  split
  · exact ⟨this.1.1.1, this.1.1.2⟩
  · exact ⟨this.1.2, this.2⟩
theorem bitsOf_length (s : List UInt8) : (bitsOf s).length = 8 * s.length := by
  induction s with
  | nil => rfl
  | cons c s ih => simp only [bitsOf, List.flatMap_cons, List.length_append] at ih ⊢; rw [ih]; simp; omega
theorem bitsOf_get (s : List UInt8) (i : Nat) (h : i / 8 < s.length) : (bitsOf s)[i]? = some ((s[i / 8]'h).toNat / 2 ^ (7 - i % 8) % 2) := by
  induction s generalizing i with
  | nil => simp at h
  | cons c s ih =>
    by_cases h8 : i < 8
    · have : i = 0 ∨ i = 1 ∨ i = 2 ∨ i = 3 ∨ i = 4 ∨ i = 5 ∨ i = 6 ∨ i = 7 := by omega
      rcases this with rfl | rfl | rfl | rfl | rfl | rfl | rfl | rfl <;> simp [bitsOf]
    · have ih' := ih (i - 8) (by simp at h; omega)
      simp only [bitsOf, List.flatMap_cons] at ih' ⊢
      rw [List.getElem?_append_right (by simp; omega)]
      have e1 : (i - 8) / 8 = i / 8 - 1 := by omega
      have e2 : (i - 8) % 8 = i % 8 := by omega
      simp only [List.length_cons, List.length_nil]
      rw [show i - (0 + 1 + 1 + 1 + 1 + 1 + 1 + 1 + 1) = i - 8 from by omega, ih', e2]
      congr 3
      obtain ⟨k, hk⟩ : ∃ k, i / 8 = k + 1 := ⟨i / 8 - 1, by omega⟩
      simp only [e1, hk, Nat.add_sub_cancel, List.getElem_cons_succ]
theorem drain_length (held f n : Nat) (out : List Int) (h : n < 8 * f + 8) : (drain held f out n).1.length * 8 + (drain held f out n).2 = out.length * 8 + n ∧ (drain held f out n).2 < 8 := by
  induction f generalizing out n with
  | zero => simp [drain]; omega
  | succ f ih =>
    by_cases h8 : 8 ≤ n
    · rw [drain_step _ _ _ _ h8]
      have := ih (n - 8) (out ++ [((held / 2 ^ (n - 8) % 256 : Nat) : Int)]) (by omega)
      simp at this ⊢
      omega
    · rw [drain_done _ _ _ _ (by omega)]; simp; omega
theorem encGo_length (l : List Nat) (hl : ∀ b ∈ l, b < 256) (out : List Int) (held n : Nat) (h : n < 8) : (encGo l out held n).1.length * 8 + (encGo l out held n).2.2 ≤ out.length * 8 + n + 30 * l.length ∧ (encGo l out held n).2.2 < 8 := by
  induction l generalizing out held n with
  | nil => simp [encGo, h]
  | cons b l ih =>
    obtain ⟨c, hc, h1, h2, _, _⟩ := code_at b (hl b (by simp))
    rw [encGo, hc]
    have hd := drain_length (nextHeld held c) 5 (n + c.2) out (by omega)
    have := ih (fun x hx => hl x (by simp [hx])) (drain (nextHeld held c) 5 out (n + c.2)).1 (nextHeld held c) (drain (nextHeld held c) 5 out (n + c.2)).2 hd.2
    simp only [List.length_cons]
    omega
theorem encN_length (s : List UInt8) : (encN s).length ≤ 4 * s.length + 1 := by
  have := encGo_length (s.map (·.toNat)) (fun b hb => by obtain ⟨c, _, rfl⟩ := List.mem_map.1 hb; exact c.toNat_lt) [] 0 0 (by omega)
  unfold encN finish
  simp only [List.length_nil, List.length_map] at this
  split
  · simp; omega
  · omega
end Huff
end Go.Proofs.YtkpdhnkiabgghaaDoor
