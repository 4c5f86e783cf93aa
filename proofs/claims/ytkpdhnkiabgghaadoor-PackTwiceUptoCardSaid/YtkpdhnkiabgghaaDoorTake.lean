/- Layer 2, pint: what Take comes to. -/
import Derived.Test.YtkpdhnkiabgghaaDoorPint
namespace Go.Proofs.YtkpdhnkiabgghaaDoor
open Go.RowKit
/-- A text's byte. -/
def bt (b : ByteArray) (i : Nat) : Int := ((b.data.toList.getD i 0).toNat : Int)
theorem bt_get (b : ByteArray) (i : Nat) (h : i < b.size) : ((b[i]'h).toNat : Int) = bt b i := by
  have h' : i < b.data.toList.length := by simpa using h
  unfold bt
  rw [List.getD_eq_getElem?_getD, List.getElem?_eq_getElem h']
  rfl
theorem bt_range (b : ByteArray) (i : Nat) : 0 ≤ bt b i ∧ bt b i ≤ 255 := by
  unfold bt
  have := (b.data.toList.getD i 0).toNat_lt
  omega
theorem toList_data (b : ByteArray) : b.toList = b.data.toList := ByteArray.toList_eq b
theorem toList_ne (b : ByteArray) (h : 0 < b.size) : b.toList.isEmpty = false := by
  rw [toList_data]
  have : b.data.toList.length = b.size := by simp
  cases hl : b.data.toList with
  | nil => rw [hl] at this; simp at this; omega
  | cons x l => rfl
namespace Pint
theorem and_full (p c : Int) (h1 : 1 ≤ p) (h2 : p ≤ 8) (h3 : 0 ≤ c) (h4 : c ≤ 255) : bits .and .i64 c (fullN p) = c % (fullN p + 1) := by
  have h : ∀ n : Fin 256, ∀ q : Fin 8, bits .and .i64 ((n.val : Nat) : Int) (fullN ((q.val : Nat) + 1)) = ((n.val : Nat) : Int) % (fullN ((q.val : Nat) + 1) + 1) := by decide +kernel
  obtain ⟨n, rfl⟩ := Int.eq_ofNat_of_zero_le h3
  obtain ⟨q, rfl⟩ := Int.eq_ofNat_of_zero_le (show 0 ≤ p by omega)
  obtain ⟨q, rfl⟩ : ∃ k, q = k + 1 := ⟨q - 1, by omega⟩
  exact h ⟨n, by omega⟩ ⟨q, by omega⟩
theorem andNot_128 (c : Int) (h3 : 0 ≤ c) (h4 : c ≤ 255) : bits .andNot .u8 c 128 = c % 128 := by
  have h : ∀ n : Fin 256, bits .andNot .u8 ((n.val : Nat) : Int) 128 = ((n.val : Nat) : Int) % 128 := by decide +kernel
  obtain ⟨n, rfl⟩ := Int.eq_ofNat_of_zero_le h3
  exact h ⟨n, by omega⟩
theorem pow_le (i : Nat) (h : i ≤ 4) : (2 : Int) ^ (7 * i) ≤ 268435456 := by
  have : i = 0 ∨ i = 1 ∨ i = 2 ∨ i = 3 ∨ i = 4 := by omega
  rcases this with rfl | rfl | rfl | rfl | rfl <;> decide
def takeL (b : ByteArray) : Nat → Nat → Int → Int × Int × Int
  | 0, _, _ => (0, 0, 20)
  | k + 1, i, v => if b.size = 1 + i then (0, 0, 2) else
      if bt b (1 + i) < 128 then (if 2147483647 < v + bt b (1 + i) % 128 * 2 ^ (7 * i) then (0, 0, 20) else (v + bt b (1 + i) % 128 * 2 ^ (7 * i), (i : Int) + 2, 0))
      else takeL b k (i + 1) (v + bt b (1 + i) % 128 * 2 ^ (7 * i))
def takeN (p : Int) (b : ByteArray) : Int × Int × Int :=
  if b.size = 0 then (0, 0, 2) else if bt b 0 % (fullN p + 1) < fullN p then (bt b 0 % (fullN p + 1), 1, 0) else takeL b 5 0 (bt b 0 % (fullN p + 1))
def tup (x : Int × Int × Int) : Value := .tuple #[.int .i64 x.1, .int .i64 x.2.1, .int .i64 x.2.2]
set_option maxRecDepth 100000 in
set_option maxHeartbeats 1000000 in
theorem take_pos (p : Int) (b : ByteArray) (w : World) (h1 : 1 ≤ p) (h2 : p ≤ 8) (hb : b.size ≤ 1073741824) (hpos : 0 < b.size) :
    Calls Tryd.prog 51 #[.int .i64 p, .string b] w fun e w' => ∃ n, e = .returned (tup (takeN p b)) ∧ w' = w.drewN n := by
  have hbb : 0 ≤ fullN p := by have := fullN_cases p h1 h2; omega
  have hb2 : fullN p ≤ 255 := by have := fullN_cases p h1 h2; omega
  have hne : b.toList.isEmpty = false := toList_ne b hpos
  obtain ⟨c0, hc0⟩ : ∃ c0, c0 = bt b 0 := ⟨_, rfl⟩
  have hr0 := bt_range b 0
  rw [← hc0] at hr0
  have g0 : ((b[0]'hpos).toNat : Int) = c0 := by rw [hc0]; exact bt_get b 0 hpos
  have ha0 := and_full p c0 h1 h2 (by omega) (by omega)
  have hw0 : wrap64 c0 = c0 := by unfold wrap64; omega
  have hm0 : 0 ≤ c0 % (fullN p + 1) := Int.emod_nonneg _ (by omega)
  have hm1 : c0 % (fullN p + 1) < fullN p + 1 := Int.emod_lt_of_pos _ (by omega)
  have HT : Hid (takeN p b = if c0 % (fullN p + 1) < fullN p then (c0 % (fullN p + 1), 1, 0) else takeL b 5 0 (c0 % (fullN p + 1))) := by
    show _ = _
    rw [takeN, if_neg (by omega), ← hc0]
  clear hc0
  obtain ⟨v0, hv0⟩ : ∃ v0, v0 = c0 % (fullN p + 1) := ⟨_, rfl⟩
  rw [← hv0] at ha0 hm0 hm1 HT
  clear hv0
  by_cases hlt : v0 < fullN p
  · go_enter Tryd.func51, Tryd.ntmps51
    go_wp2_with (first
      | (go_at_call 54; refine (right_ok _ _ (by omega) (by omega)).mono ?_; rintro e w' ⟨rfl, rfl⟩))
    go_quiet ((go_at_call 55; exact quiet_left (full_any _ _ (by omega) (by omega))))
    go_wp2_with (first
      | (go_at_call 55; refine (full_any _ _ (by omega) (by omega)).mono ?_; rintro e w' ⟨rfl, rfl⟩))
    go_ret3
    exact ⟨_, by rw [HT.out, if_pos hlt]; rfl, rfl⟩
  · go_enter Tryd.func51, Tryd.ntmps51
    go_wp2_with (first
      | (go_at_call 54; refine (right_ok _ _ (by omega) (by omega)).mono ?_; rintro e w' ⟨rfl, rfl⟩))
    go_quiet ((go_at_call 55; exact quiet_left (full_any _ _ (by omega) (by omega))))
    go_wp2_with (first
      | (go_at_call 55; refine (full_any _ _ (by omega) (by omega)).mono ?_; rintro e w' ⟨rfl, rfl⟩))
    clear g0 ha0 hw0 hne
    have HT2 : Hid (takeN p b = takeL b 5 0 v0) := by show _ = _; rw [HT.out, if_neg (by omega)]
    clear HT
    go_loop [7, 26] (fun x t => ∃ (i : Nat) (v : Int), t = .int .i64 i ∧ x = .int .i64 v ∧ i ≤ 5 ∧ 0 ≤ v ∧ v < 256 * 2 ^ (7 * i) ∧ 1 + i ≤ b.size ∧ Hid (takeN p b = takeL b (5 - i) i v)) (fun _ t => 5 - (intOf t).toNat)
    case atStart => exact ⟨0, v0, rfl, rfl, by omega, by omega, by omega, by omega, HT2⟩
    case round =>
      obtain ⟨i, v, rfl, rfl, hi, hv, hv2, hsz, HT3⟩ := hrel
      clear HT2 hlt hm0 hm1 hr0
      by_cases hi5 : i < 5
      · by_cases hs : b.size = 1 + i
        · have hsb : ((1 : Int) + (i : Int) == (b.size : Int)) = true := beq_iff_eq.2 (by omega)
          go_wp2
          go_ret3
          refine ⟨?_, _, rfl⟩
          rw [HT3.out, show 5 - i = (4 - i) + 1 from by omega, takeL, if_pos hs]; rfl
        · have hsb : ((1 : Int) + (i : Int) == (b.size : Int)) = false := beq_eq_false_iff_ne.2 (by omega)
          have hlt1 : 1 + i < b.size := by omega
          obtain ⟨c, hc⟩ : ∃ c, c = bt b (1 + i) := ⟨_, rfl⟩
          have hr := bt_range b (1 + i)
          rw [← hc] at hr
          have g1 : ((b[1 + i]'hlt1).toNat : Int) = c := by rw [hc]; exact bt_get b (1 + i) hlt1
          have han := andNot_128 c hr.1 hr.2
          obtain ⟨q, hq⟩ : ∃ q, c % 128 * 2 ^ (7 * i) = q := ⟨_, rfl⟩
          have hq0 : 0 ≤ q := by rw [← hq]; exact Int.mul_nonneg (by omega) (Int.pow_nonneg (by omega))
          have hpw : (2 : Int) ^ (7 * i) ≤ 268435456 := pow_le i (by omega)
          have hpp : (0 : Int) < 2 ^ (7 * i) := Int.pow_pos (by omega)
          have hq1 : q ≤ 127 * 2 ^ (7 * i) := by rw [← hq]; exact Int.mul_le_mul_of_nonneg_right (by omega) (by omega)
          have hnx : (256 : Int) * 2 ^ (7 * (i + 1)) = 32768 * 2 ^ (7 * i) := by rw [show 7 * (i + 1) = 7 * i + 7 from by omega, Int.pow_add]; omega
          have hv' : v + q < 256 * 2 ^ (7 * (i + 1)) := by omega
          have HT4 : Hid (takeN p b = if c < 128 then (if 2147483647 < v + q then (0, 0, 20) else (v + q, (i : Int) + 2, 0)) else takeL b (5 - (i + 1)) (i + 1) (v + q)) := by
            show _ = _
            rw [HT3.out, show 5 - i = (5 - (i + 1)) + 1 from by omega, takeL, if_neg hs, ← hc, hq]
          have hq2 : q ≤ 34091302912 := by omega
          have hv3 : v ≤ 68719476736 := by omega
          clear hc HT3 hnx hv2
          have HQ := Lib.hid hq1
          have HP := Lib.hid hpw
          clear hq1 hpw hpp
          by_cases hc1 : c < 128
          · by_cases hbig : 2147483647 < v + q
            · go_wp2
              go_ret3
              refine ⟨_, ?_, rfl⟩
              rw [HT4.out, if_pos (by omega), if_pos (by omega)]; rfl
            · go_wp2
              go_ret3
              refine ⟨_, ?_, rfl⟩
              rw [HT4.out, if_pos (by omega), if_neg (by omega), Int.add_comm (i : Int)]; rfl
          · have HV := Lib.hid hv'
            clear hv'
            go_wp2
            go_round
            case rel => exact ⟨i + 1, v + q, by go_num, rfl, by omega, by omega, HV.out, by omega, by show _ = _; rw [HT4.out, if_neg (by omega)]⟩
            case measure => simp [intOf]; omega
      · obtain rfl : i = 5 := by omega
        go_wp2
        go_ret3
        refine ⟨?_, _, rfl⟩
        rw [HT3.out]; rfl
theorem take_any (p : Int) (b : ByteArray) (w : World) (h1 : 1 ≤ p) (h2 : p ≤ 8) (hb : b.size ≤ 1073741824) :
    Calls Tryd.prog 51 #[.int .i64 p, .string b] w fun e w' => ∃ n, e = .returned (tup (takeN p b)) ∧ w' = w.drewN n := by
  by_cases hpos : 0 < b.size
  · exact take_pos p b w h1 h2 hb hpos
  · have hz : b.toList.isEmpty = true := by
      have : b.data.toList = [] := List.eq_nil_of_length_eq_zero (by have : b.data.toList.length = b.size := by simp
                                                                     omega)
      rw [toList_data, this]; rfl
    have HT : Hid (takeN p b = (0, 0, 2)) := by show _ = _; rw [takeN, if_pos (by omega)]
    go_enter Tryd.func51, Tryd.ntmps51
    go_wp2_with (first
      | (go_at_call 54; refine (right_ok _ _ (by omega) (by omega)).mono ?_; rintro e w' ⟨rfl, rfl⟩))
    go_ret3
    exact ⟨0, by rw [HT.out]; rfl, rfl⟩
end Pint
end Go.Proofs.YtkpdhnkiabgghaaDoor
