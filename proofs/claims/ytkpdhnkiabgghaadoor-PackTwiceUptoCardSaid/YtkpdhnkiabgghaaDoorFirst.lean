/- Layer 5, the laws: first: the answers that the document fixes. -/
import Derived.Test.YtkpdhnkiabgghaaDoorObj
import Derived.Outline
import Derived.Test.YtkpdhnkiabgghaaDoorAlike
import Derived.Test.YtkpdhnkiabgghaaDoorPlPack
namespace Go.Proofs.YtkpdhnkiabgghaaDoor
open Go.RowKit
namespace Law05
open Pack
def firstFs : List Fld := [⟨mk [58, 109, 101, 116, 104, 111, 100], mk [71, 69, 84], false⟩, ⟨mk [58, 97, 117, 116, 104, 111, 114, 105, 116, 121], mk [119, 119, 119, 46, 101, 120, 97, 109, 112, 108, 101, 46, 99, 111, 109], false⟩]
def firstB : List UInt8 := [130, 65, 140, 241, 227, 194, 229, 242, 58, 107, 160, 171, 144, 244, 255]
def firstT : List Ent := [(mk [58, 97, 117, 116, 104, 111, 114, 105, 116, 121], mk [119, 119, 119, 46, 101, 120, 97, 109, 112, 108, 101, 46, 99, 111, 109])]
theorem first_enc : encL ES.new firstFs = firstB := by decide +kernel
theorem first_next : (ES.new.next firstFs).mx = 4096 ∧ (ES.new.next firstFs).es = firstT := by decide +kernel
theorem first_short : ∀ f ∈ firstFs, short f := by
  intro f hf
  simp only [firstFs, List.mem_cons, List.not_mem_nil, or_false] at hf
  rcases hf with rfl | rfl <;> exact ⟨by decide, by decide⟩
theorem first_bad : (readD 4096 ⟨4096, firstT, [128], [], 0⟩).2 = false ∧ (readD 4096 ⟨4096, firstT, [128], [], 0⟩).1.es = firstT ∧ (readD 4096 ⟨4096, firstT, [128], [], 0⟩).1.mx = 4096 := by decide +kernel
theorem first_read : ∃ ch, DS.new.read firstB = (⟨4096, firstT, [], firstFs, ch⟩, true) := by
  obtain ⟨ch, h⟩ := read_enc ES.new 4096 [] 4096 firstFs instep_new first_short
  obtain ⟨h1, h2⟩ := first_next
  rw [first_enc] at h
  exact ⟨ch, by unfold DS.read; refine h.trans ?_; rw [← h2, ← h1]; rfl⟩
theorem first_dec : decO DS.new firstB 1000 = (firstFs, 0) ∧ DS.new.next firstB = ⟨4096, firstT, 4096, false⟩ := by
  obtain ⟨ch, h⟩ := first_read
  have hs : ((sizeL firstFs : Nat) : Int) = 99 := by decide
  refine ⟨?_, ?_⟩
  · unfold decO
    rw [h, if_neg (by simp [DS.new]), if_neg (by simp), if_neg (by rw [hs]; omega)]
  · unfold DS.next
    rw [h]; rfl
theorem first_dec2 : decO ⟨4096, firstT, 4096, false⟩ [128] 1000 = ([], 50) ∧ DS.next ⟨4096, firstT, 4096, false⟩ [128] = ⟨4096, firstT, 4096, true⟩ := by
  obtain ⟨h1, h2, h3⟩ := first_bad
  have h : DS.read ⟨4096, firstT, 4096, false⟩ [128] = readD 4096 ⟨4096, firstT, [128], [], 0⟩ := rfl
  refine ⟨?_, ?_⟩
  · unfold decO
    rw [h, if_neg (by simp), if_pos h1]
  · unfold DS.next
    rw [h, h1, h2, h3]; rfl
theorem first_eq (W : World) : (binOp .eql 40 (.agg #[.string (mk [58, 97, 117, 116, 104, 111, 114, 105, 116, 121]), .string (mk [119, 119, 119, 46, 101, 120, 97, 109, 112, 108, 101, 46, 99, 111, 109]), .bool false]) (.agg #[.string (mk [58, 97, 117, 116, 104, 111, 114, 105, 116, 121]), .string (mk [119, 119, 119, 46, 101, 120, 97, 109, 112, 108, 101, 46, 99, 111, 109]), .bool false])).run Tryd.prog W = .ok (.bool true) W := by
  simp [go_sem]
set_option maxRecDepth 100000 in
set_option maxHeartbeats 2000000 in
theorem first_any (w : World) (hG : G w) : Calls Tryd.prog 5 #[] w fun e w' => e = .returned (.bool true) ∧ Below w.heap.size w w' := by
  have hgs := hG.size
  go_enter Tryd.func5, Tryd.ntmps5
  go_wp2_with fail
  refine (newE w).mono ?_
  rintro e w1 ⟨ge, Fe, rfl, hE, hb1, hFe⟩
  go_wp2_with fail
  refine (newD w1).mono ?_
  rintro e w2 ⟨gd, Fd, rfl, hD, hb2, hFd⟩
  have hT : Two w w2 ge gd Fe Fd ES.new DS.new := ⟨hE.below hb2, hD, fun k h1 h2 => by have := hE.lt k h1; have := hFd k h2; omega, hFe, fun k h => by have := hFd k h; have := hb1.size; omega, hb1.trans (hb2.mono hb1.size)⟩
  clear hE hD hb1 hb2 hFe hFd
  have hfe := first_eq
  have hs2 := hT.bel.size
  have hA := (Below.refl w2.heap.size w2).alloc (Nat.le_refl _) (.cells (fldC firstFs).toArray 40)
  have hO := Own.new w2 40 3 2 (fldC firstFs).toArray rfl (by decide)
  have hT3 := hT.below hA
  have hG3 := (hG.below hT.bel hgs).below hA (by omega)
  go_wp2_with fail
  refine (encE ge Fe ES.new (.slice (some ⟨w2.heap.size, 0, none⟩) 2 2) firstFs _ hG3 hT3.e (fun k h => by have := hT3.be k h; omega) (Rds.of_own hO) (fun _ k hk hF => by have h1 : w2.heap.size = k := Option.some.inj hk; have := hT.e.lt k hF; omega) first_short (by decide)).mono ?_
  rintro e w4 ⟨rfl, Fe4, hE4, hM4, hF4⟩
  have hT4 := hT3.enc hE4 hM4 hF4
  have hG4 := hG.below hT4.bel hgs
  rw [show mk (encL ES.new firstFs) = ⟨#[130, 65, 140, 241, 227, 194, 229, 242, 58, 107, 160, 171, 144, 244, 255]⟩ from by rw [first_enc]; rfl]
  clear hA hO hT3 hG3 hE4 hM4 hF4 hT
  go_wp2_with fail
  refine (decD gd Fd DS.new firstB 1000 w4 hG4 hT4.d (fun k h => by have := hT4.bd k h; omega) rfl (by decide)).mono ?_
  rintro e w5 ⟨lv, Fd5, rfl, hO5, hD5, hM5, hF5, hlv5⟩
  have hT5 := hT4.dec hD5 hM5 hF5
  rw [first_dec.1] at hO5 ⊢
  rw [first_dec.2] at hT5
  simp only at hO5 ⊢
  have hG5 := hG.below hT5.bel hgs
  have hlvd : ∀ k, lv.ownBlock = some k → ¬ Fd5 k := fun k h1 h2 => by
    obtain ⟨gt, v, rfl, hD, _⟩ := hT5.d
    obtain ⟨cur, hc⟩ := hO5.row k h1
    rcases h2 with rfl | rfl | h2
    · exact typ_ne hc hD.blk (by decide) rfl
    · exact typ_ne hc hD.tab.blk (by decide) rfl
    · obtain ⟨cur2, hc2⟩ := hD.tab.own.row k h2
      exact typ_ne hc hc2 (by decide) rfl
  clear hD5 hM5 hF5 hT4 hG4
  go_wp2_with fail
  refine (decD gd Fd5 ⟨4096, firstT, 4096, false⟩ [128] 1000 w5 hG5 hT5.d (fun k h => by have := hT5.bd k h; omega) rfl (by decide)).mono ?_
  rintro e w6 ⟨lv6, Fd6, rfl, hO6, hD6, hM6, hF6, hlv6⟩
  have hT6 := hT5.dec hD6 hM6 hF6
  have hO56 := hM6.own hO5 hlvd
  rw [first_dec2.1]
  rw [first_dec2.2] at hT6
  simp only
  clear hD6 hM6 hF6 hO6 hT5 hO5 hG5 hlvd
  go_wp2_with fail
  refine (tabD gd Fd6 _ w6 hT6.d).mono ?_
  rintro e w7 ⟨gT, T, rfl, hTab, hb7, hFT⟩
  have hO7 := (Mod.ofBelow (S := fun _ => False) hb7).own hO56 (fun _ _ h => h)
  have hT7 := hT6.below hb7
  obtain ⟨vT, rfl, hTb⟩ := hTab
  obtain ⟨g, off, cap, rfl, hc1, hc2, hgl⟩ := hO7.form (by decide)
  clear hO56 hT6 hb7
  have hlen : firstFs.length = 2 := rfl
  rw [hlen] at hc1 hO7 ⊢
  have p0 := hO7.cellAt 3 (off + 3) _ rfl rfl
  have p1 := hO7.cellAt 4 (off + 3 + 1) _ rfl rfl
  have p2 := hO7.cellAt 5 (off + 3 + 2) _ rfl rfl
  have HO7 := Lib.hid hO7
  clear hO7
  have m1 : (mk [58, 97, 117, 116, 104, 111, 114, 105, 116, 121]).toList = [58, 97, 117, 116, 104, 111, 114, 105, 116, 121] := by rw [toList_data]; rfl
  have m2 : (mk [119, 119, 119, 46, 101, 120, 97, 109, 112, 108, 101, 46, 99, 111, 109]).toList = [119, 119, 119, 46, 101, 120, 97, 109, 112, 108, 101, 46, 99, 111, 109] := by rw [toList_data]; rfl
  go_wp2_with fail
  refine (Table.size_any gT vT _ _ _ hTb).mono ?_
  rintro e w8 ⟨rfl, rfl⟩
  have hts : ((tsize firstT : Nat) : Int) = 57 := by decide
  rw [hts]
  clear hts
  go_wp2_with fail
  go_ret
  exact ⟨rfl, hT7.bel⟩
end Law05
end Go.Proofs.YtkpdhnkiabgghaaDoor
