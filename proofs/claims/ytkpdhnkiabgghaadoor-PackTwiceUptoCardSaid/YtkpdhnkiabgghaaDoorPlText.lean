/- The plain laws of numbers and texts: what is put is taken. Nothing of the program is walked. -/
import Derived.Test.YtkpdhnkiabgghaaDoorPlHuff
import Derived.Test.YtkpdhnkiabgghaaDoorText
namespace Go.Proofs.YtkpdhnkiabgghaaDoor
open Go.RowKit
theorem bt_drop (b : ByteArray) (i : Nat) (c : UInt8) (l : List UInt8) (h : b.data.toList.drop i = c :: l) : bt b i = (c.toNat : Int) ∧ i < b.size ∧ b.data.toList.drop (i + 1) = l := by
  have hi : b.data.toList[i]? = some c := by
    have := List.getElem?_drop (xs := b.data.toList) (i := i) (j := 0)
    rw [h] at this; simpa using this.symm
  refine ⟨?_, ?_, ?_⟩
  · unfold bt; rw [List.getD_eq_getElem?_getD, hi]; rfl
  · have := (List.getElem?_eq_some_iff.1 hi).1; simpa using this
  · rw [← List.drop_drop, h]; rfl
theorem byte_of (n : Int) (h0 : 0 ≤ n) (h1 : n < 256) : ((UInt8.ofNat n.toNat).toNat : Int) = n := by
  rw [UInt8.toNat_ofNat']; omega
theorem bytesOf_cons (n : Int) (xs : List Int) : bytesOf (n :: xs) = UInt8.ofNat n.toNat :: bytesOf xs := rfl
theorem bytesOf_length (xs : List Int) : (bytesOf xs).length = xs.length := by simp [bytesOf]
namespace Pint
theorem takeL_tail (rest : List UInt8) (b : ByteArray) : ∀ (k j i : Nat) (x v : Int), 0 ≤ x → x < 128 ^ (k + 1) → k ≤ j → b.data.toList.drop (1 + i) = bytesOf (tailF j x) ++ rest → v + x * 2 ^ (7 * i) ≤ 2147483647 →
    takeL b (k + 1) i v = (v + x * 2 ^ (7 * i), (i : Int) + 1 + (tailF j x).length, 0) := by
  intro k
  induction k with
  | zero =>
    intro j i x v h0 h1 _ hb hv
    have hx : x < 128 := by simpa using h1
    have ht : tailF j x = [x] := by cases j with
      | zero => rfl
      | succ j => rw [tailF, if_neg (by omega)]
    rw [ht] at hb ⊢
    obtain ⟨e1, e2, e3⟩ := bt_drop b (1 + i) _ _ hb
    rw [byte_of x h0 (by omega)] at e1
    rw [takeL, if_neg (by omega), e1, if_pos hx, Int.emod_eq_of_lt h0 hx, if_neg (by omega)]
    simp
    omega
  | succ k ih =>
    intro j i x v h0 h1 hj hb hv
    by_cases hx : x < 128
    · have ht : tailF j x = [x] := by cases j with
        | zero => rfl
        | succ j => rw [tailF, if_neg (by omega)]
      rw [ht] at hb ⊢
      obtain ⟨e1, e2, e3⟩ := bt_drop b (1 + i) _ _ hb
      rw [byte_of x h0 (by omega)] at e1
      rw [takeL, if_neg (by omega), e1, if_pos hx, Int.emod_eq_of_lt h0 hx, if_neg (by omega)]
      simp
      omega
    · obtain ⟨j, rfl⟩ : ∃ m, j = m + 1 := ⟨j - 1, by omega⟩
      have ht : tailF (j + 1) x = (x % 128 + 128) :: tailF j (x / 128) := by rw [tailF, if_pos (by omega)]
      rw [ht] at hb ⊢
      have hm0 : 0 ≤ x % 128 := Int.emod_nonneg _ (by omega)
      have hm1 : x % 128 < 128 := Int.emod_lt_of_pos _ (by omega)
      obtain ⟨e1, e2, e3⟩ := bt_drop b (1 + i) _ _ hb
      rw [byte_of _ (by omega) (by omega)] at e1
      have hq : x / 128 < 128 ^ (k + 1) := by
        have : (128 : Int) ^ (k + 1 + 1) = 128 ^ (k + 1) * 128 := Int.pow_succ _ _
        omega
      have hpow : (2 : Int) ^ (7 * (i + 1)) = 128 * 2 ^ (7 * i) := by
        rw [show 7 * (i + 1) = 7 * i + 7 from by omega, Int.pow_add, Int.mul_comm]; rfl
      have hval : v + x % 128 * 2 ^ (7 * i) + x / 128 * 2 ^ (7 * (i + 1)) = v + x * 2 ^ (7 * i) := by
        rw [hpow, Int.add_assoc, ← Int.mul_assoc, ← Int.add_mul]
        congr 2
        omega
      have := ih j (i + 1) (x / 128) (v + x % 128 * 2 ^ (7 * i)) (by omega) hq (by omega) e3 (by rw [hval]; exact hv)
      rw [takeL, if_neg (by omega), e1, if_neg (by omega), show (x % 128 + 128) % 128 = x % 128 from by omega, this, hval]
      simp only [List.length_cons]
      congr 2
      omega
theorem takeN_putN (p f v : Int) (rest : List UInt8) (h1 : 1 ≤ p) (h2 : p ≤ 8) (hf0 : 0 ≤ f) (hf1 : f + fullN p ≤ 255) (hf : f % (fullN p + 1) = 0) (hv : 0 ≤ v) (hv2 : v ≤ 2147483647) :
    takeN p (mk (bytesOf (putN p f v) ++ rest)) = (v, ((putN p f v).length : Int), 0) := by
  have hF : 1 ≤ fullN p ∧ fullN p ≤ 255 := by have := fullN_cases p h1 h2; omega
  obtain ⟨c, hc⟩ : ∃ c, f = (fullN p + 1) * c := Int.dvd_of_emod_eq_zero hf
  unfold putN
  by_cases hs : v < fullN p
  · rw [if_pos hs]
    have hd : (mk (bytesOf [f + v] ++ rest)).data.toList.drop 0 = UInt8.ofNat (f + v).toNat :: rest := rfl
    obtain ⟨e1, e2, e3⟩ := bt_drop _ _ _ _ hd
    rw [byte_of _ (by omega) (by omega)] at e1
    have hm : (f + v) % (fullN p + 1) = v := by rw [hc, Int.add_comm, Int.add_mul_emod_self_left, Int.emod_eq_of_lt hv (by omega)]
    unfold takeN
    rw [if_neg (by omega), e1, hm, if_pos hs]
    rfl
  · rw [if_neg hs]
    have hd : (mk (bytesOf ((f + fullN p) :: tailF 5 (v - fullN p)) ++ rest)).data.toList.drop 0 = UInt8.ofNat (f + fullN p).toNat :: (bytesOf (tailF 5 (v - fullN p)) ++ rest) := rfl
    obtain ⟨e1, e2, e3⟩ := bt_drop _ _ _ _ hd
    rw [byte_of _ (by omega) (by omega)] at e1
    have hm : (f + fullN p) % (fullN p + 1) = fullN p := by rw [hc, Int.add_comm, Int.add_mul_emod_self_left, Int.emod_eq_of_lt (by omega) (by omega)]
    have ht := takeL_tail rest (mk (bytesOf ((f + fullN p) :: tailF 5 (v - fullN p)) ++ rest)) 4 5 0 (v - fullN p) (fullN p) (by omega) (by omega) (by omega) e3 (by simp; omega)
    unfold takeN
    rw [if_neg (by omega), e1, hm, if_neg (by omega), ht]
    simp
    omega
theorem putN_pos (p f v : Int) : 1 ≤ (putN p f v).length := by
  unfold putN; split <;> simp
theorem putN_first (p f v : Int) : ∃ l, putN p f v = (f + min v (fullN p)) :: l := by
  unfold putN
  split
  · exact ⟨[], by rw [show min v (fullN p) = v from by omega]⟩
  · exact ⟨tailF 5 (v - fullN p), by rw [show min v (fullN p) = fullN p from by omega]⟩
end Pint
namespace Text
theorem bytes_back (s : List UInt8) : bytesOf (s.map fun c => (c.toNat : Int)) = s := by
  simp [bytesOf, List.map_map, Function.comp_def]
theorem take_form (up : Int) (l rest : List UInt8) (hu : up = 0 ∨ up = 128) (hl : l.length ≤ 2147483647) :
    Pint.takeN 7 (mk (formL up l ++ rest)) = ((l.length : Int), ((Pint.putN 7 up l.length).length : Int), 0) ∧ (128 ≤ bt (mk (formL up l ++ rest)) 0 ↔ up = 128) ∧
      ((mk (formL up l ++ rest)).data.toList.drop (Pint.putN 7 up l.length).length).take l.length = l ∧ (mk (formL up l ++ rest)).size = (Pint.putN 7 up l.length).length + l.length + rest.length := by
  have hF : Pint.fullN 7 = 127 := by decide
  have e : formL up l ++ rest = bytesOf (Pint.putN 7 up l.length) ++ (l ++ rest) := by unfold formL; rw [List.append_assoc]
  rw [e]
  have hlen : (bytesOf (Pint.putN 7 up l.length)).length = (Pint.putN 7 up l.length).length := bytesOf_length _
  refine ⟨?_, ?_, ?_, ?_⟩
  · exact Pint.takeN_putN 7 up l.length (l ++ rest) (by omega) (by omega) (by omega) (by omega) (by rcases hu with rfl | rfl <;> rw [hF] <;> rfl) (by omega) (by omega)
  · obtain ⟨t, ht⟩ := Pint.putN_first 7 up l.length
    have hd : (mk (bytesOf (Pint.putN 7 up l.length) ++ (l ++ rest))).data.toList.drop 0 = UInt8.ofNat (up + min (l.length : Int) (Pint.fullN 7)).toNat :: (bytesOf t ++ (l ++ rest)) := by rw [ht]; rfl
    obtain ⟨e1, _, _⟩ := bt_drop _ _ _ _ hd
    rw [byte_of _ (by omega) (by omega)] at e1
    rw [e1]
    omega
  · show ((bytesOf (Pint.putN 7 up l.length) ++ (l ++ rest)).drop _).take l.length = l
    rw [← hlen, List.drop_left, List.take_left]
  · rw [mk_size]; simp only [List.length_append, hlen]; omega
theorem take_put (s rest : List UInt8) (hs : s.length ≤ 65536) : textTake (mk (textPut s ++ rest)) 65536 = (s, ((textPut s).length : Int), 0) := by
  have he := Huff.encN_length s
  unfold textPut
  split
  · obtain ⟨h1, h2, h3, h4⟩ := take_form 0 s rest (.inl rfl) (by omega)
    unfold textTake
    rw [h1]
    simp only [Int.toNat_natCast]
    rw [if_neg (by omega), h4, if_neg (by omega), if_neg (by rw [h2]; omega), h3]
    unfold fin
    rw [if_neg (by omega)]
    simp [formL, bytesOf_length]
  · have hb : (bytesOf (Huff.encN s)).length = (Huff.encN s).length := bytesOf_length _
    obtain ⟨h1, h2, h3, h4⟩ := take_form 128 (bytesOf (Huff.encN s)) rest (.inr rfl) (by omega)
    have hr : Huff.decN (bytesOf (Huff.encN s)) = some (s.map fun c => (c.toNat : Int)) := Huff.round_trip s
    unfold textTake
    rw [h1]
    simp only [Int.toNat_natCast]
    rw [if_neg (by omega), h4, if_neg (by omega), if_pos (h2.2 rfl), h3, hr]
    simp only
    unfold fin
    rw [bytes_back, if_neg (by omega)]
    simp [formL, bytesOf_length]
end Text
end Go.Proofs.YtkpdhnkiabgghaaDoor
