/- The plain law of Huffman's code: what is encoded is decoded. Nothing of the program. -/
import Derived.Test.YtkpdhnkiabgghaaDoorHuffQ
namespace Go.Proofs.YtkpdhnkiabgghaaDoor
namespace Huff
/-- The lower n bits, the greatest first. -/
def bl : Nat → Nat → List Nat
  | 0, _ => []
  | n + 1, x => x / 2 ^ n % 2 :: bl n x
theorem bl_add (a b x : Nat) : bl (a + b) x = bl a (x / 2 ^ b) ++ bl b x := by
  induction a with
  | zero => simp [bl]
  | succ a ih => rw [Nat.add_right_comm, bl, bl, ih, List.cons_append, Nat.div_div_eq_div_mul, ← Nat.pow_add, Nat.add_comm b a]
theorem bl_mod (n : Nat) : ∀ (m x : Nat), n ≤ m → bl n (x % 2 ^ m) = bl n x := by
  induction n with
  | zero => intro m x h; rfl
  | succ n ih =>
    intro m x h
    rw [bl, bl, ih m x (by omega)]
    congr 1
    obtain ⟨k, rfl⟩ : ∃ k, m = n + (k + 1) := ⟨m - (n + 1), by omega⟩
    rw [Nat.pow_add, Nat.mod_mul_right_div_self, Nat.pow_succ, Nat.mod_mul_left_mod]
theorem bl_ones (n : Nat) : bl n (2 ^ n - 1) = List.replicate n 1 := by
  induction n with
  | zero => rfl
  | succ n ih =>
    have h : (2 ^ (n + 1) - 1) / 2 ^ n = 1 := by
      have h1 : 0 < 2 ^ n := Nat.pow_pos (by omega)
      rw [Nat.pow_succ]
      have : 2 ^ n * 2 - 1 = (2 ^ n - 1) + 2 ^ n * 1 := by omega
      rw [this, Nat.add_mul_div_left _ _ h1, Nat.div_eq_of_lt (by omega)]
    have h2 : bl n (2 ^ (n + 1) - 1) = bl n (2 ^ n - 1) := by
      rw [← bl_mod n n (2 ^ (n + 1) - 1) (Nat.le_refl _), ← bl_mod n n (2 ^ n - 1) (Nat.le_refl _)]
      congr 1
      have h1 : 0 < 2 ^ n := Nat.pow_pos (by omega)
      have : 2 ^ (n + 1) - 1 = (2 ^ n - 1) + 2 ^ n := by rw [Nat.pow_succ]; omega
      rw [this, Nat.add_mod_right]
    rw [bl, h, h2, ih, List.replicate_succ]
def bitsI (xs : List Int) : List Nat := xs.flatMap fun n => bl 8 n.toNat
theorem bitsI_append (a b : List Int) : bitsI (a ++ b) = bitsI a ++ bitsI b := by simp [bitsI]
theorem bl8 (x : Nat) : bl 8 x = [x / 128 % 2, x / 64 % 2, x / 32 % 2, x / 16 % 2, x / 8 % 2, x / 4 % 2, x / 2 % 2, x % 2] := by simp [bl]
theorem bits_bytes (xs : List Int) : bitsOf (xs.map fun n => UInt8.ofNat n.toNat) = bitsI xs := by
  induction xs with
  | nil => rfl
  | cons n xs ih =>
    simp only [bitsOf, bitsI, List.map_cons, List.flatMap_cons] at ih ⊢
    rw [ih]
    congr 1
    have h1 := bl8 ((UInt8.ofNat n.toNat).toNat)
    rw [← h1, show (UInt8.ofNat n.toNat).toNat = n.toNat % 2 ^ 8 from by simp [UInt8.toNat_ofNat']]
    exact bl_mod 8 8 _ (Nat.le_refl _)
/-- What has been encoded: the bytes, and the bits that are held. -/
def said (r : List Int × Nat × Nat) : List Nat := bitsI r.1 ++ bl r.2.2 r.2.1
theorem drain_said (held : Nat) : ∀ (f : Nat) (out : List Int) (n : Nat), bitsI (drain held f out n).1 ++ bl (drain held f out n).2 held = bitsI out ++ bl n held := by
  intro f
  induction f with
  | zero => intro out n; rfl
  | succ f ih =>
    intro out n
    unfold drain
    split
    · rename_i h
      rw [ih, bitsI_append, List.append_assoc]
      congr 1
      obtain ⟨m, rfl⟩ : ∃ m, n = 8 + m := ⟨n - 8, by omega⟩
      rw [Nat.add_sub_cancel_left, bl_add]
      congr 1
      simp only [bitsI, List.flatMap_cons, List.flatMap_nil, List.append_nil, Int.toNat_natCast]
      exact bl_mod 8 8 _ (Nat.le_refl _)
    · rfl
theorem drain_lt (held : Nat) : ∀ (f : Nat) (out : List Int) (n : Nat), n < 8 * (f + 1) → (drain held f out n).2 < 8 := by
  intro f
  induction f with
  | zero => intro out n h; simp only [drain]; omega
  | succ f ih =>
    intro out n h
    unfold drain
    split
    · exact ih _ _ (by omega)
    · simp only; omega
theorem next_said (held n : Nat) (c : Nat × Nat) (hn : n < 8) (h2 : c.2 ≤ 30) (h3 : c.1 < 2 ^ c.2) : bl (n + c.2) (nextHeld held c) = bl n held ++ bl c.2 c.1 := by
  have e : (18446744073709551616 : Nat) = 2 ^ (64 - c.2) * 2 ^ c.2 := by rw [← Nat.pow_add, show 64 - c.2 + c.2 = 64 from by omega]
  have hp : 0 < 2 ^ c.2 := Nat.pow_pos (by omega)
  rw [bl_add]
  unfold nextHeld
  rw [e, Nat.mul_mod_mul_right]
  congr 1
  · rw [Nat.add_comm, Nat.add_mul_div_right _ _ hp, Nat.div_eq_of_lt h3, Nat.zero_add]
    exact bl_mod n _ _ (by omega)
  · rw [← bl_mod c.2 c.2 _ (Nat.le_refl _), Nat.mul_add_mod_self_right, Nat.mod_eq_of_lt h3]
def codeBits (b : Nat) : List Nat := bl (codes.getD b (0, 0)).2 (codes.getD b (0, 0)).1
theorem encGo_said : ∀ (bs : List Nat) (out : List Int) (held n : Nat), (∀ b ∈ bs, b < 256) → n < 8 → said (encGo bs out held n) = bitsI out ++ bl n held ++ bs.flatMap codeBits ∧ (encGo bs out held n).2.2 < 8 := by
  intro bs
  induction bs with
  | nil => intro out held n _ hn; exact ⟨by simp [said, encGo], hn⟩
  | cons b bs ih =>
    intro out held n hb hn
    obtain ⟨c, hc, h1, h2, h3, _⟩ := code_at b (hb b (by simp))
    have hl := drain_lt (nextHeld held c) 5 out (n + c.2) (by omega)
    have hs := drain_said (nextHeld held c) 5 out (n + c.2)
    rw [encGo, hc]
    obtain ⟨i1, i2⟩ := ih (drain (nextHeld held c) 5 out (n + c.2)).1 (nextHeld held c) (drain (nextHeld held c) 5 out (n + c.2)).2 (fun x hx => hb x (by simp [hx])) hl
    refine ⟨?_, i2⟩
    rw [i1, hs, next_said held n c hn h2 h3, List.flatMap_cons]
    have : codeBits b = bl c.2 c.1 := by unfold codeBits; rw [hc]
    rw [this]
    simp only [List.append_assoc]
theorem finish_said (r : List Int × Nat × Nat) (h : r.2.2 < 8) : ∃ k, k < 8 ∧ bitsI (finish r) = said r ++ List.replicate k 1 := by
  unfold finish
  split
  · rename_i h0
    obtain ⟨k, hk⟩ : ∃ k, 8 = r.2.2 + k := ⟨8 - r.2.2, by omega⟩
    refine ⟨k, by omega, ?_⟩
    rw [bitsI_append, said, List.append_assoc]
    congr 1
    simp only [bitsI, List.flatMap_cons, List.flatMap_nil, List.append_nil, Int.toNat_natCast]
    have hp : 0 < 2 ^ k := Nat.pow_pos (by omega)
    have e : (256 : Nat) = 2 ^ (8 - k) * 2 ^ k := by rw [← Nat.pow_add, show 8 - k + k = 8 from by omega]
    unfold lastByte
    rw [show 8 - r.2.2 = k from by omega, e, Nat.mul_mod_mul_right]
    rw [hk, bl_add]
    congr 1
    · rw [Nat.add_comm, Nat.add_mul_div_right _ _ hp, Nat.div_eq_of_lt (by omega), Nat.zero_add]
      exact bl_mod _ _ _ (by omega)
    · rw [← bl_mod k k _ (Nat.le_refl _), Nat.mul_add_mod_self_right, bl_mod k k _ (Nat.le_refl _)]
      exact bl_ones k
  · rename_i h0
    refine ⟨0, by omega, ?_⟩
    have : r.2.2 = 0 := by omega
    simp [said, this, bl]
theorem encN_said (s : List UInt8) : ∃ k, k < 8 ∧ bitsI (encN s) = (s.map (·.toNat)).flatMap codeBits ++ List.replicate k 1 := by
  obtain ⟨h1, h2⟩ := encGo_said (s.map (·.toNat)) [] 0 0 (fun b hb => by
    obtain ⟨c, _, rfl⟩ := List.mem_map.1 hb
    exact UInt8.toNat_lt c) (by omega)
  obtain ⟨k, hk, he⟩ := finish_said _ h2
  exact ⟨k, hk, by rw [encN, he, h1]; simp [bitsI, bl]⟩
/-- The leaf at the end of just these bits. -/
def leaf : List Nat → Nat → Option Int
  | [], _ => none
  | bit :: bs, at_ => if child nodes at_ bit = -257 then none else if child nodes at_ bit < 0 then (if bs = [] then some ((-child nodes at_ bit - 1) % 256) else none) else leaf bs (child nodes at_ bit).toNat
theorem leaf_dec (rest : List Nat) : ∀ (bs : List Nat) (at_ depth : Nat) (ones : Bool) (out : List Int) (v : Int), leaf bs at_ = some v → decL (bs ++ rest) at_ depth ones out = decL rest 0 0 true (out ++ [v]) := by
  intro bs
  induction bs with
  | nil => intro at_ depth ones out v h; simp [leaf] at h
  | cons bit bs ih =>
    intro at_ depth ones out v h
    rw [leaf] at h
    rw [List.cons_append, decL]
    split at h
    · cases h
    · rename_i h1
      rw [if_neg h1]
      split at h
      · rename_i h2
        rw [if_pos h2]
        split at h
        · rename_i h3
          subst h3
          cases h
          rfl
        · cases h
      · rename_i h2
        rw [if_neg h2]
        exact ih _ _ _ _ _ h
theorem leaves : (List.range 256).all (fun b => leaf (codeBits b) 0 == some (b : Int)) = true := by decide +kernel
theorem leaf_of (b : Nat) (h : b < 256) : leaf (codeBits b) 0 = some (b : Int) := by
  have := List.all_eq_true.1 leaves b (List.mem_range.2 h)
  simpa using this
theorem ones_end (k : Nat) (hk : k < 8) (out : List Int) : decL (List.replicate k 1) 0 0 true out = some out := by
  have h : k = 0 ∨ k = 1 ∨ k = 2 ∨ k = 3 ∨ k = 4 ∨ k = 5 ∨ k = 6 ∨ k = 7 := by omega
  have h0 : ∀ a ∈ [(0, 119), (119, 120), (120, 125), (125, 126), (126, 12), (12, 102)], True := fun _ _ => trivial
  rcases h with rfl | rfl | rfl | rfl | rfl | rfl | rfl | rfl <;> rfl
theorem dec_codes (k : Nat) (hk : k < 8) : ∀ (bs : List Nat) (out : List Int), (∀ b ∈ bs, b < 256) → decL (bs.flatMap codeBits ++ List.replicate k 1) 0 0 true out = some (out ++ bs.map fun (b : Nat) => (b : Int)) := by
  intro bs
  induction bs with
  | nil => intro out _; simp [ones_end k hk]
  | cons b bs ih =>
    intro out hb
    rw [List.flatMap_cons, List.append_assoc, leaf_dec _ _ _ _ _ _ _ (leaf_of b (hb b (by simp))), ih _ (fun x hx => hb x (by simp [hx]))]
    simp
theorem round_trip (s : List UInt8) : decN ((encN s).map fun n => UInt8.ofNat n.toNat) = some (s.map fun c => (c.toNat : Int)) := by
  obtain ⟨k, hk, he⟩ := encN_said s
  rw [decN, bits_bytes, he, dec_codes k hk _ _ (fun b hb => by
    obtain ⟨c, _, rfl⟩ := List.mem_map.1 hb
    exact UInt8.toNat_lt c)]
  simp [List.map_map, Function.comp_def]
end Huff
end Go.Proofs.YtkpdhnkiabgghaaDoor
