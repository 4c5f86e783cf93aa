/- Layer 1, huff: Encode. -/
import Derived.Test.YtkpdhnkiabgghaaDoorHuffD
import Derived.Test.YtkpdhnkiabgghaaDoorHuffQ
import Derived.Deep.RegionHeld3
import Derived.Deep.RegionLaw
namespace Go.Proofs.YtkpdhnkiabgghaaDoor
open Go.RowKit
theorem conv_any {w : World} {n : Nat} {v : Value} {xs : List Int} (h : Own w 5 1 v n (xs.map (Value.int .u8))) :
    (convert 55 9 v).run Tryd.prog w = .ok (.string (strOfNums xs)) w := by
  rcases h.2 with ⟨rfl, rfl⟩ | ⟨g, off, cap, cur, rfl, _⟩
  · have hx : xs = [] := by have := h.1; simpa using this
    subst hx
    exact run_convert_bytes_nil w 55 5 Tryd.underlying55 Tryd.underlying5 0 0 9 Tryd.underlying9
  · exact Pint.conv_own h
namespace Huff
theorem lastByte_eq (held n m : Nat) (hm : m = 8 - n) (h1 : 1 ≤ m) (h2 : m ≤ 7) :
    bits .or .u8 (IntKind.u8.wrap (IntKind.u64.wrap ((held : Int) * 2 ^ m))) (IntKind.u8.wrap (IntKind.u8.wrap (2 ^ m) - 1)) = ((lastByte held n : Nat) : Int) := by
  have hp : m = 1 ∨ m = 2 ∨ m = 3 ∨ m = 4 ∨ m = 5 ∨ m = 6 ∨ m = 7 := by omega
  have e2 : IntKind.u8.wrap (IntKind.u8.wrap (2 ^ m) - 1) = ((2 ^ m - 1 : Nat) : Int) := by
    rcases hp with rfl | rfl | rfl | rfl | rfl | rfl | rfl <;> decide
  have e1 : IntKind.u8.wrap (IntKind.u64.wrap ((held : Int) * 2 ^ m)) = ((held * 2 ^ m % 256 : Nat) : Int) := by
    have e0 : (held : Int) * 2 ^ m = ((held * 2 ^ m : Nat) : Int) := by simp
    rw [IntKind.wrap_u8', IntKind.wrap_u64, e0]
    omega
  have hlt : 2 ^ m - 1 < 256 := by rcases hp with rfl | rfl | rfl | rfl | rfl | rfl | rfl <;> decide
  have hlt2 : 2 ^ m - 1 < 2 ^ m := by have := Nat.pow_pos (n := m) (show 0 < 2 by omega); omega
  rw [e1, e2, u8_or_nat _ _ (Nat.mod_lt _ (by omega)) hlt, nat_join m _ _ (last_mod held m h2) hlt2]
  unfold lastByte
  rw [← hm]
set_option maxRecDepth 100000 in
set_option maxHeartbeats 2000000 in
theorem encode_any (s : ByteArray) (w : World) (hG : G w) (hs : s.size ≤ 1048576) :
    Calls Tryd.prog 49 #[.string s] w fun e w' => e = .returned (.string (strOfNums (encN s.data.toList))) ∧ Below w.heap.size w w' := by
  have hGs := hG.size
  obtain ⟨i0, z0, hi0, hz0, hzc⟩ := info_zero info_codes
  rw [← codeCells_zero] at hzc
  go_enter Tryd.func49, Tryd.ntmps49
  go_wp2_with fail
  refine (codes_any _ hG).mono ?_
  rintro e w1 ⟨rfl, hbe1⟩
  have hw1 := hbe1.size
  have hnew := heap_alloc_new w1 (.cells (codeCells 0) 113)
  have HNW := Lib.hid hnew
  clear hnew
  go_wp2_with (first
    | (with_reducible refine wpList_alloc_abs rfl 113 rfl i0 z0 (codeCells 0) hi0 hz0 hzc ?_)
    | (with_reducible refine wpList_store_all rfl 113 _ _ rfl w1.heap.size (codeCells 0) (codeCells 257) 113 rfl rfl HNW.out (by rw [codeCells_size, codeCells_size]) (by rw [codeCells_size]; kernel_rfl) (codeCells_one 257) ?_; intro w2 hw2 hg2 hs2))
  have hb2 : Below w.heap.size w w2 := (hbe1.alloc hw1 _).grown hg2 (by simp; omega) (fun k hk => by cases hk; exact hw1)
  have hw2s : w1.heap.size < w2.heap.size := by rw [hs2]; simp
  clear hg2 hs2 HNW hi0 hz0 hzc hbe1 hG
  obtain ⟨bl, hbl⟩ : ∃ bl, bl = w1.heap.size := ⟨_, rfl⟩
  rw [← hbl] at hw1 hw2 hw2s
  have HBL := Lib.hid hbl
  rw [← hbl]
  clear hbl
  go_loopw [3, 4, 5, 12] (fun o hh nn t wr => ∃ (k held n : Nat) (xs : List Int), t = .int .i64 k ∧ hh = .int .u64 held ∧ nn = .int .i64 n ∧ k ≤ s.size ∧ n < 8 ∧ held < 18446744073709551616 ∧ xs.length * 8 + n ≤ 30 * k ∧
      Own wr 5 1 o xs.length (xs.map (Value.int .u8)) ∧ (∀ b, o.ownBlock = some b → w.heap.size ≤ b ∧ b ≠ bl) ∧ Hid (finish (encGo ((s.data.toList.drop k).map (·.toNat)) xs held n) = encN s.data.toList) ∧
      wr.heap[bl]? = some (.cells (codeCells 257) 113 (0, 0)) ∧ Below w.heap.size w wr) (fun _ _ _ t _ => s.size - (intOf t).toNat)
  case atStart =>
    exact ⟨0, 0, 0, [], rfl, rfl, rfl, by omega, by omega, by omega, by simp, Own.nil _ _ _, (fun b hb => by cases hb), rfl, hw2, hb2⟩
  case round =>
    obtain ⟨k, held, n, xs, rfl, rfl, rfl, hk, hn, hheld, hxs, hown, hob, HE, hbl, hbel⟩ := hrel
    obtain ⟨wo, rfl⟩ : ∃ wo : World, wo = wr := ⟨_, rfl⟩
    by_cases hlt : k < s.size
    · obtain ⟨b, hb⟩ : ∃ b, b = ((s[k]'hlt).toNat) := ⟨_, rfl⟩
      have hb256 : b < 256 := by rw [hb]; exact (s[k]'hlt).toNat_lt
      have hg0 : ((s[k]'hlt).toNat) = b := hb.symm
      obtain ⟨c, hc, hc1, hc2, hc3, hcg⟩ := code_at b hb256
      obtain ⟨bs, cn⟩ := c
      simp only at hc1 hc2 hc3
      have hE := HE.out
      have hd : (s.data.toList.drop k).map (·.toNat) = b :: (s.data.toList.drop (k + 1)).map (·.toNat) := by
        rw [List.drop_eq_getElem_cons (by simpa using hlt), List.map_cons, hb]; rfl
      rw [hd, encGo, hc] at hE
      obtain ⟨h2, hh2⟩ : ∃ h2, h2 = nextHeld held (bs, cn) := ⟨_, rfl⟩
      rw [← hh2] at hE
      have hh2b : h2 < 18446744073709551616 := by rw [hh2]; exact nextHeld_lt held (bs, cn) hc2 hc3
      have e257 : codeCells 257 = (flatC codes).toArray := by unfold codeCells; rw [show (257 : Nat) = codes.length from codes_length.symm, fillL_all]
      have hget := flatC_get codes b (by rw [codes_length]; omega)
      have hcb : codes[b]'(by rw [codes_length]; omega) = (bs, cn) := by
        rw [List.getElem?_eq_getElem (by rw [codes_length]; omega)] at hcg; exact Option.some.inj hcg
      rw [hcb] at hget
      have hcell1 : wo.cell? ⟨bl, b * 2, none⟩ = some (.int .u32 (bs : Nat)) := by rw [cell_of_row wo _ _ _ _ _ hbl, e257, Nat.mul_comm]; simpa using hget.1
      have hcell2 : wo.cell? ⟨bl, b * 2 + 1, none⟩ = some (.int .i64 (cn : Nat)) := by rw [cell_of_row wo _ _ _ _ _ hbl, e257, Nat.mul_comm]; simpa using hget.2
      have hor : bits .or .u64 (IntKind.u64.wrap ((held : Int) * 2 ^ cn)) (bs : Int) = (h2 : Nat) := by
        have e1 : IntKind.u64.wrap ((held : Int) * 2 ^ cn) = ((held * 2 ^ cn % 18446744073709551616 : Nat) : Int) := by
          rw [IntKind.wrap_u64]; simp
        rw [e1, u64_or_nat _ _ (Nat.mod_lt _ (by omega)) (by have := Nat.lt_of_lt_of_le hc3 (Nat.pow_le_pow_right (by omega : 0 < 2) hc2); omega), nat_join cn _ _ (shifted_or held (bs, cn) hc2) hc3, hh2]
        rfl
      have HOR := Lib.hid hor
      have HE2 := Lib.hid hE
      have HH2 := Lib.hid hh2
      have hbsb : bs < 1073741824 := Nat.lt_of_lt_of_le hc3 (Nat.pow_le_pow_right (by omega) hc2)
      have HC3 := Lib.hid hc3
      have HBL2 := Lib.hid hbl
      have hdec : decide ((k : Int) < (s.size : Int)) = true := by simp; omega
      clear hE hh2 hd hc hcg hget hcb e257 hb HE hbl hc3
      go_wp2_with fail
      go_quiet (fail)
      go_wp2_with fail
      obtain ⟨R, hR⟩ : ∃ R, R = drain h2 5 xs (n + cn) := ⟨_, rfl⟩
      have HE3 : Hid (finish (encGo ((s.data.toList.drop (k + 1)).map (·.toNat)) R.1 h2 R.2) = encN s.data.toList) := by show _ = _; rw [hR]; exact HE2.out
      have HR : Hid (drain h2 5 xs (n + cn) = R) := hR.symm
      clear HE2 hR HOR
      go_loopw [3, 5] (fun o nn wr => ∃ (f n : Nat) (xs : List Int), nn = .int .i64 n ∧ f ≤ 5 ∧ n < 8 * f + 8 ∧ xs.length * 8 + n ≤ 30 * (k + 1) ∧
          Own wr 5 1 o xs.length (xs.map (Value.int .u8)) ∧ (∀ b, o.ownBlock = some b → w.heap.size ≤ b ∧ b ≠ bl) ∧ Hid (drain h2 f xs n = R) ∧
          wr.heap[bl]? = some (.cells (codeCells 257) 113 (0, 0)) ∧ Below w.heap.size w wr) (fun _ nn _ => (intOf nn).toNat)
      case atStart =>
        exact ⟨5, n + cn, xs, by go_num, by omega, by omega, by omega, (hown.alloc _).drewN _, hob, HR, (heap_alloc_old wo _ (lt_of_blk HBL2.out)).trans HBL2.out, (hbel.alloc hbel.size _).trans ⟨rfl, rfl, rfl, Nat.le_refl _, fun _ _ => rfl⟩⟩
      case round =>
        clear hown hob hcell1 hcell2
        obtain ⟨f, n, xs, rfl, hf, hn, hxs, hown, hob, HR, hbl, hbel⟩ := hrel
        by_cases h8 : 8 ≤ n
        · obtain ⟨f, rfl⟩ : ∃ f', f = f' + 1 := ⟨f - 1, by omega⟩
          obtain ⟨byte, hby⟩ : ∃ byte, byte = h2 / 2 ^ (n - 8) % 256 := ⟨_, rfl⟩
          have HR2 : Hid (drain h2 f (xs ++ [(byte : Int)]) (n - 8) = R) := by show _ = _; rw [hby, ← drain_step _ _ _ _ h8]; exact HR.out
          have hshr : (h2 : Int) / 2 ^ (n - 8) % 256 = (byte : Int) := by rw [hby]; simp
          clear hby HR
          go_wp2_with (at_builtin; refine wpList_app rfl _ _ 55 rfl Pint.ti_u8 (by decide) _ xs.length _ rfl (hown.alloc _) ⟨wr.heap.size, 0, none⟩ 1 1 [.int .u8 (byte : Int)] rfl rfl (news_new wr #[.int .u8 (byte : Int)] 5) (by simp [Value.oneCell']) (by decide) (by simp only [maxLen]; omega) (by omega) ?_; intro g1 off1 cap1 w1 hown1 hg1 hat1 hlt1)
          go_roundw
          case rel =>
            have hbls := lt_of_blk hbl
            refine ⟨f, n - 8, xs ++ [(byte : Int)], by go_num, by omega, by omega, by simp; omega, by simpa using hown1, own_cond hat1 hob ⟨by simp; have := hbel.size; omega, by simp; omega⟩, HR2, ?_, ?_⟩
            · rw [hg1.block _ (by simp; omega) (fun e => (hob bl e.symm).2 rfl), heap_alloc_old wr _ hbls]; exact hbl
            · exact (hbel.alloc hbel.size _).grown hg1 (by simp; have := hbel.size; omega) (fun b hb => (hob b hb).1)
          case measure => simp [intOf] <;> omega
        · have hR := HR.out
          rw [drain_done _ _ _ _ (by omega)] at hR
          have hE3 := HE3.out
          rw [← hR] at hE3
          simp only at hE3
          have HE4 := Lib.hid hE3
          clear hE3 hR HR HE3
          go_wp2
          go_roundw
          case rel =>
            exact ⟨k + 1, h2, n, xs, by go_num, rfl, rfl, by omega, by omega, hh2b, by omega, hown, hob, HE4, hbl, hbel⟩
          case measure => simp [intOf] <;> omega
    · obtain rfl : k = s.size := by omega
      have hE := HE.out
      rw [List.drop_of_length_le (by simp), List.map_nil, encGo, finish] at hE
      simp only at hE
      have hfin : decide ((s.size : Int) < (s.size : Int)) = false := by simp
      by_cases hn0 : 0 < n
      · rw [if_pos hn0] at hE
        have HE2 := Lib.hid hE
        obtain ⟨lb, hlb⟩ : ∃ lb, lb = lastByte held n := ⟨_, rfl⟩
        rw [← hlb] at hE
        have HE3 : Hid (strOfNums (encN s.data.toList) = strOfNums (xs ++ [(lb : Int)])) := by show _ = _; rw [hE]
        clear hE HE
        obtain ⟨m, hm⟩ : ∃ m, m = 8 - n := ⟨_, rfl⟩
        have hm1 : 1 ≤ m ∧ m ≤ 7 := by omega
        have hs1 : IntKind.i64.wrap (8 - (n : Int)) = (m : Int) := by rw [IntWalk.i64_in _ (by omega)]; omega
        have hs2 : (0 : Int) ≤ (m : Int) := by omega
        have hs3 : ¬ ((m : Int) < 0) := by omega
        have hs4 : (m : Int) < 64 := by omega
        have hs5 : (m : Int) < 8 := by omega
        have HLB : Hid (bits .or .u8 (IntKind.u8.wrap (IntKind.u64.wrap ((held : Int) * 2 ^ m))) (IntKind.u8.wrap (IntKind.u8.wrap (2 ^ m) - 1)) = (lb : Int)) := by show _ = _; rw [hlb]; exact lastByte_eq held n m hm hm1.1 hm1.2
        have HM := Lib.hid hm
        clear hlb
        clear hm
        go_wp2_with fail
        go_region_law (first | (refine step_app (by rfl) _ _ 55 (by rfl) Pint.ti_u8 (by decide) _ xs.length _ (by rfl) (hown.drew.alloc _) ⟨wo.heap.size, 0, none⟩ 1 1 [_] (by rfl) (by rfl) (news_new wo.drew #[_] 5) (by simp [Value.oneCell']) (by decide) (by simp only [maxLen]; omega) (by omega) ?_; intro g1 off1 cap1 w1 hown1 hg1 hat1 hlt1))
        rw [HLB.out] at hown1
        have hcv := conv_any (xs := xs ++ [(lb : Int)]) (by simpa using hown1)
        go_wp2
        go_ret
        refine ⟨by rw [HE3.out]; rfl, ?_⟩
        exact (hbel.trans ((((Below.refl _ wo).drew).alloc (Nat.le_refl _) _).mono hbel.size)).grown hg1 (by simp; have := hbel.size; omega) (fun b hb => (hob b hb).1)
      · rw [if_neg hn0] at hE
        have HE2 : Hid (strOfNums (encN s.data.toList) = strOfNums xs) := by show _ = _; rw [hE]
        clear hE HE
        have hcv := conv_any hown
        go_wp2
        go_ret
        exact ⟨by rw [HE2.out]; rfl, hbel⟩
end Huff
end Go.Proofs.YtkpdhnkiabgghaaDoor
