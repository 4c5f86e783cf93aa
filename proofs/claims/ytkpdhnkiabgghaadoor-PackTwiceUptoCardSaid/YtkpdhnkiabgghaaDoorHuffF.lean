/- Layer 1, huff: Decode. -/
import Derived.Test.YtkpdhnkiabgghaaDoorHuffE
namespace Go.Proofs.YtkpdhnkiabgghaaDoor
open Go.RowKit
def decV (r : Option (List Int)) : Value := match r with
  | some l => .tuple #[.string (strOfNums l), .int .i64 0]
  | none => .tuple #[.string ⟨#[]⟩, .int .i64 10]
namespace Huff
set_option maxRecDepth 100000 in
set_option maxHeartbeats 2000000 in
theorem decode_any (b : ByteArray) (w : World) (hG : G w) (hs : b.size ≤ 4194304) :
    Calls Tryd.prog 60 #[.string b] w fun e w' => e = .returned (decV (decN b.data.toList)) ∧ Below w.heap.size w w' := by
  have hGs := hG.size
  go_enter Tryd.func60, Tryd.ntmps60
  go_wp2_with fail
  refine (tree_any _ hG).mono ?_
  rintro e w1 ⟨gt, offt, capt, rfl, hown, hbe1⟩
  go_wp2_with fail
  go_loopw [4, 6, 7, 8, 15] (fun o a d on t wr => ∃ (i at_ depth : Nat) (ones : Bool) (xs : List Int), t = .int .i64 i ∧ a = .int .i64 at_ ∧ d = .int .i64 depth ∧ on = .bool ones ∧ i ≤ 8 * b.size ∧ at_ < 256 ∧ depth ≤ i ∧ xs.length ≤ i ∧
      Own wr 5 1 o xs.length (xs.map (Value.int .u8)) ∧ (∀ k, o.ownBlock = some k → w.heap.size ≤ k ∧ k ≠ gt) ∧ Hid (decL ((bitsOf b.data.toList).drop i) at_ depth ones xs = decN b.data.toList) ∧
      Own wr 127 2 (.slice (some ⟨gt, offt, none⟩) 256 capt) 256 (flatN nodes) ∧ Below w.heap.size w wr) (fun _ _ _ _ t _ => 8 * b.size - (intOf t).toNat)
  case atStart =>
    exact ⟨0, 0, 0, true, [], rfl, rfl, rfl, rfl, by omega, by omega, by omega, by simp, Own.nil _ _ _, (fun b hb => by cases hb), rfl, hown, hbe1⟩
  case round =>
    obtain ⟨i, at_, depth, ones, xs, rfl, rfl, rfl, rfl, hi, hat, hdep, hxl, hown, hob, HD, htree, hbel⟩ := hrel
    by_cases hlt : i < 8 * b.size
    · have hlt8 : i / 8 < b.size := by omega
      obtain ⟨x, hx⟩ : ∃ x, x = (b[i / 8]'hlt8).toNat := ⟨_, rfl⟩
      have hx256 : x < 256 := by rw [hx]; exact (b[i / 8]'hlt8).toNat_lt
      have hg0 : (b[i / 8]'hlt8).toNat = x := hx.symm
      obtain ⟨bit, hbit⟩ : ∃ bit, bit = x / 2 ^ (7 - i % 8) % 2 := ⟨_, rfl⟩
      have hb2 : bit < 2 := by omega
      have hand : bits .and .u8 ((x : Int) / 2 ^ (7 - i % 8)) 1 = (bit : Int) := by
        have e : (x : Int) / 2 ^ (7 - i % 8) = ((x / 2 ^ (7 - i % 8) : Nat) : Int) := by simp
        have h2 := Nat.div_le_self x (2 ^ (7 - i % 8))
        rw [e, hbit]
        generalize x / 2 ^ (7 - i % 8) = q at h2
        have := u8_and_nat q 1 (by omega) (by omega)
        rw [show ((1 : Nat) : Int) = 1 from rfl] at this
        rw [this, Nat.and_one_is_mod]
      have hD := HD.out
      have hlen : i < (bitsOf b.data.toList).length := by rw [bitsOf_length]; simpa using hlt
      have hd : (bitsOf b.data.toList).drop i = bit :: (bitsOf b.data.toList).drop (i + 1) := by
        rw [List.drop_eq_getElem_cons hlen]
        have := bitsOf_get b.data.toList i (by simpa using hlt8)
        rw [List.getElem?_eq_getElem hlen] at this
        rw [Option.some.inj this, hbit, hx]
        rfl
      rw [hd, decL] at hD
      obtain ⟨ch, hch⟩ : ∃ ch, ch = child nodes at_ bit := ⟨_, rfl⟩
      have hcr := child_range at_ bit hat
      have hcell := htree.cellAt (at_ * 2 + bit) (offt + at_ * 2 + bit) _ (by omega) (flatN_get nodes at_ bit (by rw [nodes_length]; exact hat) hb2)
      rw [← hch] at hD hcr hcell
      obtain ⟨hcr1, hcr2⟩ := hcr
      obtain ⟨bv, hbv⟩ : ∃ bv : Bool, bv = ((bit : Int) == 1) := ⟨_, rfl⟩
      have hb1 : ((bit : Int) == 1) = bv := hbv.symm
      have hbn : (bit == 1) = bv := by
        rw [hbv]
        have : bit = 0 ∨ bit = 1 := by omega
        rcases this with rfl | rfl <;> rfl
      rw [hbn] at hD
      have hdec : decide ((i : Int) < 8 * (b.size : Int)) = true := by simp; omega
      have HH := Lib.hid hbn
      have hxor := not_i64 ch (by omega) (by omega)
      have HXOR := Lib.hid hxor
      clear hd hbit hx HD hlen hbv hbn hch hxor
      cases ones
      all_goals
        by_cases h257 : ch = -257
        · have hq : (ch == -257) = true := beq_iff_eq.2 h257
          rw [if_pos h257] at hD
          have HE : Hid (decV (decN b.data.toList) = decV none) := by show _ = _; rw [← hD]
          clear hD hxl hdep hown hob
          have H257 := Lib.hid h257
          clear h257
          go_wp2
          go_ret2
          exact ⟨by rw [HE.out]; rfl, hbel⟩
        · have hq : (ch == -257) = false := beq_eq_false_iff_ne.2 h257
          rw [if_neg h257] at hD
          by_cases hneg : ch < 0
          · rw [if_pos hneg] at hD
            have HD2 := Lib.hid hD
            clear hD
            go_wp2_with (at_builtin; refine wpList_app rfl _ _ 55 rfl Pint.ti_u8 (by decide) _ xs.length _ rfl (hown.alloc _) ⟨wr.heap.size, 0, none⟩ 1 1 [_] rfl rfl (news_new wr #[_] 5) (by simp [Value.oneCell']) (by decide) (by simp only [maxLen]; omega) (by omega) ?_; intro g1 off1 cap1 w1 hown1 hg1 hat1 hlt1)
            go_roundw
            case rel =>
              have hgs := htree.lt gt rfl
              refine ⟨i + 1, 0, 0, true, xs ++ [(-ch - 1) % 256], by go_num, rfl, rfl, rfl, by omega, by omega, by omega, by simp; omega, ?_, own_cond hat1 hob ⟨by simp; have := hbel.size; omega, by simp; omega⟩, HD2, ?_, ?_⟩
              · rw [HXOR.out] at hown1; simpa using hown1
              · exact (htree.alloc _).grown hg1 (fun k hk e => by cases hk; exact (hob gt e.symm).2 rfl)
              · exact (hbel.alloc hbel.size _).grown hg1 (by simp; have := hbel.size; omega) (fun b hb => (hob b hb).1)
            case measure => simp [intOf] <;> omega
          · rw [if_neg hneg] at hD
            have HD2 := Lib.hid hD
            clear hD
            obtain ⟨cn, rfl⟩ := Int.eq_ofNat_of_zero_le (show 0 ≤ ch by omega)
            go_wp2
            go_roundw
            case rel =>
              exact ⟨i + 1, cn, depth + 1, _, xs, by go_num, rfl, by go_num, rfl, by omega, by omega, by omega, by omega, hown, hob, by simpa using HD2, htree, hbel⟩
            case measure => simp [intOf] <;> omega
    · obtain rfl : i = 8 * b.size := by omega
      have hD := HD.out
      rw [List.drop_of_length_le (by rw [bitsOf_length]; simp), decL] at hD
      have hfin : decide (((8 * b.size : Nat) : Int) < 8 * (b.size : Int)) = false := by simp
      by_cases h7 : 7 < depth
      · have h7b : decide (7 < (depth : Int)) = true := by simp; omega
        rw [if_pos (.inl h7)] at hD
        have HE : Hid (decV (decN b.data.toList) = decV none) := by show _ = _; rw [← hD]
        clear hD
        go_wp2
        go_ret2
        exact ⟨by rw [HE.out]; rfl, hbel⟩
      · have h7b : decide (7 < (depth : Int)) = false := by simp; omega
        cases ones
        · rw [if_pos (.inr rfl)] at hD
          have HE : Hid (decV (decN b.data.toList) = decV none) := by show _ = _; rw [← hD]
          clear hD
          go_wp2
          go_ret2
          exact ⟨by rw [HE.out]; rfl, hbel⟩
        · rw [if_neg (by simp; omega)] at hD
          have HE : Hid (decV (decN b.data.toList) = decV (some xs)) := by show _ = _; rw [← hD]
          have hcv := conv_any hown
          clear hD
          go_wp2
          go_ret2
          exact ⟨by rw [HE.out]; rfl, hbel⟩
end Huff
end Go.Proofs.YtkpdhnkiabgghaaDoor
