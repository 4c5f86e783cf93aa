/- Layer 3, text: Put and Take. -/
import Derived.Test.YtkpdhnkiabgghaaDoorHuffF
namespace Go.Proofs.YtkpdhnkiabgghaaDoor
open Go.RowKit
def mk (l : List UInt8) : ByteArray := ⟨l.toArray⟩
theorem mk_list (l : List UInt8) : (mk l).data.toList = l := rfl
theorem mk_size (l : List UInt8) : (mk l).size = l.length := rfl
theorem mk_eta (b : ByteArray) : mk b.data.toList = b := by cases b; rfl
def bytesOf (xs : List Int) : List UInt8 := xs.map fun n => UInt8.ofNat n.toNat
theorem strOfNums_mk (xs : List Int) : strOfNums xs = mk (bytesOf xs) := rfl
namespace Text
def formL (up : Int) (l : List UInt8) : List UInt8 := bytesOf (Pint.putN 7 up l.length) ++ l
def textPut (s : List UInt8) : List UInt8 :=
  if (formL 0 s).length ≤ (formL 128 (bytesOf (Huff.encN s))).length then formL 0 s else formL 128 (bytesOf (Huff.encN s))
set_option maxRecDepth 100000 in
set_option maxHeartbeats 1000000 in
theorem form_any (up : Int) (s : ByteArray) (w : World) (hu : up = 0 ∨ up = 128) (hs : s.size ≤ 1073741824) :
    Calls Tryd.prog 48 #[.int .i64 up, .string s] w fun e w' => e = .returned (.string (mk (formL up s.data.toList))) ∧ Below w.heap.size w w' := by
  have hup : 0 ≤ up ∧ up + Pint.fullN 7 ≤ 255 ∧ (bits .and .i64 up (Pint.fullN 7) != 0) = false := by
    rcases hu with rfl | rfl <;> decide
  go_enter Tryd.func48, Tryd.ntmps48
  go_wp2_with fail
  refine (Pint.put_any 7 up s.size _ (by omega) (by omega) hup.1 hup.2.1 hup.2.2 (by omega) (by omega)).mono ?_
  rintro e w1 ⟨rfl, hb⟩
  have hsz : (strOfNums (Pint.putN 7 up (s.size : Int))).size ≤ 7 := by rw [strOfNums_size]; exact Pint.putN_length _ _ _
  go_wp2
  go_ret
  refine ⟨ret_str ?_, hb⟩
  show strOfNums _ ++ s = _
  have e := ByteArray.mk_append_mk (bytesOf (Pint.putN 7 up (s.size : Int))) s.data.toList
  rw [show s = mk s.data.toList from (mk_eta s).symm]
  have e2 : s.data.toList.length = s.size := by simp
  unfold formL
  rw [mk_list, e2]
  exact e
set_option maxRecDepth 100000 in
set_option maxHeartbeats 1000000 in
theorem put_any (s : ByteArray) (w : World) (hG : G w) (hs : s.size ≤ 65536) :
    Calls Tryd.prog 37 #[.string s, .int .i64 2] w fun e w' => e = .returned (.tuple #[.string (mk (textPut s.data.toList)), .int .i64 0]) ∧ Below w.heap.size w w' := by
  have he := Huff.encN_length s.data.toList
  have hsl : s.data.toList.length = s.size := by simp
  rw [hsl] at he
  have HSL := Lib.hid hsl
  clear hsl
  go_enter Tryd.func37, Tryd.ntmps37
  go_wp2_with fail
  refine (Huff.encode_any s _ hG (by omega)).mono ?_
  rintro e w1 ⟨rfl, hb1⟩
  go_wp2_with fail
  refine (form_any 128 _ _ (.inr rfl) (by rw [strOfNums_size]; omega)).mono ?_
  rintro e w2 ⟨rfl, hb2⟩
  go_wp2_with fail
  refine (form_any 0 _ _ (.inl rfl) (by omega)).mono ?_
  rintro e w3 ⟨rfl, hb3⟩
  have hbel : Below w.heap.size w w3 := hb1.trans ((hb2.mono hb1.size).trans (hb3.mono (Nat.le_trans hb1.size hb2.size)))
  have HC : Hid ((strOfNums (Huff.encN s.data.toList)).data.toList = bytesOf (Huff.encN s.data.toList)) := rfl
  obtain ⟨A, hA⟩ : ∃ A, A = formL 128 (strOfNums (Huff.encN s.data.toList)).data.toList := ⟨_, rfl⟩
  obtain ⟨B, hB⟩ : ∃ B, B = formL 0 s.data.toList := ⟨_, rfl⟩
  rw [← hA, ← hB]
  have HT : Hid (textPut s.data.toList = if B.length ≤ A.length then B else A) := by
    show _ = _
    unfold textPut
    rw [hA, hB, HC.out]
  have hsa := mk_size A
  have hsb := mk_size B
  clear hA hB
  by_cases hle : B.length ≤ A.length
  · have HT2 : Hid (textPut s.data.toList = B) := by show _ = _; rw [HT.out, if_pos hle]
    clear HT
    go_wp2
    go_ret2
    exact ⟨by rw [HT2.out]; rfl, hbel⟩
  · have HT2 : Hid (textPut s.data.toList = A) := by show _ = _; rw [HT.out, if_neg hle]
    clear HT
    go_wp2
    go_ret2
    exact ⟨by rw [HT2.out]; rfl, hbel⟩
def fin (x : List UInt8) (end_ : Int) (most : Int) : List UInt8 × Int × Int := if most < x.length then ([], 0, 3) else (x, end_, 0)
def textTake (b : ByteArray) (most : Int) : List UInt8 × Int × Int :=
  if (Pint.takeN 7 b).2.2 ≠ 0 then ([], 0, (Pint.takeN 7 b).2.2)
  else if (b.size : Int) - (Pint.takeN 7 b).2.1 < (Pint.takeN 7 b).1 then ([], 0, 2)
  else if 128 ≤ bt b 0 then
    match Huff.decN ((b.data.toList.drop (Pint.takeN 7 b).2.1.toNat).take (Pint.takeN 7 b).1.toNat) with
    | none => ([], 0, 10)
    | some l => fin (bytesOf l) ((Pint.takeN 7 b).2.1 + (Pint.takeN 7 b).1) most
  else fin ((b.data.toList.drop (Pint.takeN 7 b).2.1.toNat).take (Pint.takeN 7 b).1.toNat) ((Pint.takeN 7 b).2.1 + (Pint.takeN 7 b).1) most
def tup3 (r : List UInt8 × Int × Int) : Value := .tuple #[.string (mk r.1), .int .i64 r.2.1, .int .i64 r.2.2]
theorem takeL_ok (b : ByteArray) : ∀ (k i : Nat) (v : Int), 0 ≤ v → 1 + i ≤ b.size → (Pint.takeL b k i v).2.2 = 0 → 0 ≤ (Pint.takeL b k i v).1 ∧ (Pint.takeL b k i v).1 ≤ 2147483647 ∧ 1 ≤ (Pint.takeL b k i v).2.1 ∧ (Pint.takeL b k i v).2.1 ≤ b.size := by
  intro k
  induction k with
  | zero => intro i v _ _ h; simp [Pint.takeL] at h
  | succ k ih =>
    intro i v hv hi h
    have hr := bt_range b (1 + i)
    have hp : (0 : Int) ≤ bt b (1 + i) % 128 * 2 ^ (7 * i) := Int.mul_nonneg (by omega) (Int.pow_nonneg (by omega))
    rw [Pint.takeL] at h ⊢
    by_cases hs : b.size = 1 + i
    · rw [if_pos hs] at h; simp at h
    · rw [if_neg hs] at h ⊢
      by_cases hc : bt b (1 + i) < 128
      · rw [if_pos hc] at h ⊢
        by_cases hb : 2147483647 < v + bt b (1 + i) % 128 * 2 ^ (7 * i)
        · rw [if_pos hb] at h; simp at h
        · rw [if_neg hb]
          simp only
          omega
      · rw [if_neg hc] at h ⊢
        exact ih (i + 1) _ (by omega) (by omega) h
theorem takeN_ok (b : ByteArray) (h : (Pint.takeN 7 b).2.2 = 0) : 0 ≤ (Pint.takeN 7 b).1 ∧ (Pint.takeN 7 b).1 ≤ 2147483647 ∧ 1 ≤ (Pint.takeN 7 b).2.1 ∧ (Pint.takeN 7 b).2.1 ≤ b.size := by
  have hf : Pint.fullN 7 = 127 := rfl
  have hr := bt_range b 0
  unfold Pint.takeN at h ⊢
  rw [hf] at h ⊢
  by_cases hs : b.size = 0
  · rw [if_pos hs] at h; simp at h
  · rw [if_neg hs] at h ⊢
    by_cases hl : bt b 0 % (127 + 1) < 127
    · rw [if_pos hl]
      simp only
      omega
    · rw [if_neg hl] at h ⊢
      exact takeL_ok b 5 0 _ (by omega) (by omega) h
set_option maxRecDepth 100000 in
set_option maxHeartbeats 1000000 in
theorem take_any (b : ByteArray) (most : Int) (w : World) (hG : G w) (hs : b.size ≤ 4194304) (hm : 0 ≤ most) (hm2 : most ≤ 65536) :
    Calls Tryd.prog 58 #[.string b, .int .i64 most] w fun e w' => e = .returned (tup3 (textTake b most)) ∧ Below w.heap.size w w' := by
  have hok := takeN_ok b
  obtain ⟨T, hT⟩ : ∃ T, T = textTake b most := ⟨_, rfl⟩
  rw [← hT]
  have HTT := Lib.hid hT
  clear hT
  go_enter Tryd.func58, Tryd.ntmps58
  go_wp2_with fail
  refine (Pint.take_any 7 b _ (by omega) (by omega) (by omega)).mono ?_
  rintro e w1 ⟨nd, rfl, rfl⟩
  have hT := HTT.out
  clear HTT
  unfold Pint.tup
  unfold textTake at hT
  revert hok hT
  generalize Pint.takeN 7 b = r
  obtain ⟨cnt, n, e⟩ := r
  intro hok hT
  simp only at hok hT ⊢
  by_cases he : e = 0
  · subst he
    obtain ⟨h1, h2, h3, h4⟩ := hok rfl
    clear hok
    obtain ⟨n, rfl⟩ := Int.eq_ofNat_of_zero_le (show 0 ≤ n by omega)
    obtain ⟨cnt, rfl⟩ := Int.eq_ofNat_of_zero_le h1
    simp only [ne_eq, not_true_eq_false, if_false, Int.toNat_natCast] at hT
    by_cases hsh : (b.size : Int) - (n : Int) < (cnt : Int)
    · rw [if_pos hsh] at hT
      have HT := Lib.hid hT
      clear hT
      go_wp2
      go_ret3
      exact ⟨by rw [HT.out]; rfl, blw_drewN (Below.refl _ _) _⟩
    · rw [if_neg hsh] at hT
      obtain ⟨S, hS⟩ : ∃ S, S = b.extract n (n + cnt) := ⟨_, rfl⟩
      have hSl : S.data.toList = (b.data.toList.drop n).take cnt := by
        rw [hS, Lib.extract_data]
        simp
      have hSs : S.size = cnt := by
        have : S.data.toList.length = S.size := by simp
        rw [← this, hSl, List.length_take, List.length_drop]
        have : b.data.toList.length = b.size := by simp
        omega
      rw [← hSl] at hT
      have hext : b.extract n (n + cnt) = S := hS.symm
      clear hSl hS
      have hpos : 0 < b.size := by omega
      obtain ⟨c0, hc0⟩ : ∃ c0, c0 = bt b 0 := ⟨_, rfl⟩
      have hr0 := bt_range b 0
      have g0 : ((b[0]'hpos).toNat : Int) = c0 := by rw [hc0]; exact bt_get b 0 hpos
      rw [← hc0] at hT hr0
      clear hc0
      by_cases hc : 128 ≤ c0
      · rw [if_pos hc] at hT
        have HSS := Lib.hid hSs
        go_wp2_with fail
        refine (Huff.decode_any S _ (hG.drewN _) (by omega)).mono ?_
        rintro e w2 ⟨rfl, hb2⟩
        have hbel : Below w.heap.size w w2 := (blw_drewN (Below.refl _ _) _).trans hb2
        cases hd : Huff.decN S.data.toList with
        | none =>
          rw [hd] at hT
          have HT := Lib.hid hT
          clear hT hd
          unfold decV
          go_wp2
          go_ret3
          exact ⟨by rw [HT.out]; rfl, hbel⟩
        | some l =>
          rw [hd] at hT
          simp only [fin] at hT
          have hll : (strOfNums l).size = (bytesOf l).length := by rw [strOfNums_size]; simp [bytesOf]
          clear hd
          unfold decV
          by_cases hbig : most < ((bytesOf l).length : Int)
          · rw [if_pos hbig] at hT
            have HT := Lib.hid hT
            clear hT
            go_wp2
            go_ret3
            exact ⟨by rw [HT.out]; rfl, hbel⟩
          · rw [if_neg hbig] at hT
            have HT := Lib.hid hT
            clear hT
            go_wp2
            go_ret3
            exact ⟨by rw [HT.out]; rfl, hbel⟩
      · rw [if_neg hc] at hT
        have hcl : S.data.toList.length = cnt := by rw [← hSs]; simp
        simp only [fin, hcl] at hT
        by_cases hbig : most < (cnt : Int)
        · rw [if_pos hbig] at hT
          have HT := Lib.hid hT
          clear hT hcl
          go_wp2
          go_ret3
          exact ⟨by rw [HT.out]; rfl, blw_drewN (Below.refl _ _) _⟩
        · rw [if_neg hbig] at hT
          have HT := Lib.hid hT
          clear hT hcl
          go_wp2
          go_ret3
          exact ⟨by rw [HT.out]; rfl, blw_drewN (Below.refl _ _) _⟩
  · have hne : (e != 0) = true := by rw [bne_iff_ne]; exact he
    rw [if_pos he] at hT
    have HT := Lib.hid hT
    clear hT hok
    go_wp2
    go_ret3
    exact ⟨by rw [HT.out]; rfl, blw_drewN (Below.refl _ _) _⟩
end Text
end Go.Proofs.YtkpdhnkiabgghaaDoor
