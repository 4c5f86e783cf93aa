/- Layer 1, huff: the tree of the codes. -/
import Derived.Test.YtkpdhnkiabgghaaDoorHuffC
namespace Go.Proofs.YtkpdhnkiabgghaaDoor
open Go.RowKit
namespace Huff
def flatN (l : List (Int × Int)) : List Value := l.flatMap fun c => [Value.int .i64 c.1, Value.int .i64 c.2]
theorem flatN_length (l : List (Int × Int)) : (flatN l).length = l.length * 2 := by
  induction l with
  | nil => rfl
  | cons c l ih => simp only [flatN, List.flatMap_cons, List.length_append] at ih ⊢; simp [ih]; omega
theorem flatN_append (l m : List (Int × Int)) : flatN (l ++ m) = flatN l ++ flatN m := by simp [flatN]
theorem flatN_get (l : List (Int × Int)) (k bit : Nat) (h : k < l.length) (hb : bit < 2) : (flatN l)[k * 2 + bit]? = some (.int .i64 (child l k bit)) := by
  induction l generalizing k with
  | nil => simp at h
  | cons d l ih =>
    cases k with
    | zero =>
      have : bit = 0 ∨ bit = 1 := by omega
      rcases this with rfl | rfl <;> simp [flatN, child]
    | succ k =>
      have := ih k (by simpa using h)
      simp only [flatN, List.flatMap_cons, List.cons_append, List.nil_append] at this ⊢
      rw [show (k + 1) * 2 + bit = k * 2 + bit + 1 + 1 from by omega]
      simp only [List.getElem?_cons_succ]
      rw [this]
      simp [child]
theorem flatN_set (l : List (Int × Int)) (k bit : Nat) (v : Int) (h : k < l.length) (hb : bit < 2) : (flatN l).set (k * 2 + bit) (.int .i64 v) = flatN (setChild l k bit v) := by
  induction l generalizing k with
  | nil => simp at h
  | cons d l ih =>
    cases k with
    | zero =>
      have : bit = 0 ∨ bit = 1 := by omega
      rcases this with rfl | rfl <;> simp [flatN, setChild]
    | succ k =>
      have := ih k (by simpa using h)
      simp only [flatN, setChild, List.flatMap_cons, List.cons_append, List.nil_append, List.set_cons_succ] at this ⊢
      rw [show (k + 1) * 2 + bit = k * 2 + bit + 1 + 1 from by omega, List.set_cons_succ, List.set_cons_succ, this]
      simp
theorem ti_node : TI Tryd.prog 124 127 2 16 := TI.mk' Tryd.underlying124 (z := .agg #[.int .i64 0, .int .i64 0]) (by kernel_rfl) rfl
set_option maxRecDepth 100000 in
set_option maxHeartbeats 1000000 in
theorem tree_any (w : World) (hG : G w) :
    Calls Tryd.prog 63 #[] w fun e w' => ∃ g off cap, e = .returned (.slice (some ⟨g, off, none⟩) 256 cap) ∧ Own w' 127 2 (.slice (some ⟨g, off, none⟩) 256 cap) 256 (flatN nodes) ∧ Below w.heap.size w w' := by
  have hGs := hG.size
  go_enter Tryd.func63, Tryd.ntmps63
  go_wp2_with fail
  refine (codes_any _ (hG.alloc _)).mono ?_
  rintro e w1 ⟨rfl, hbe1⟩
  go_wp2_with fail
  go_loopw [1, 10] (fun o t wr => ∃ (s : Nat) (l : List (Int × Int)) (g off cap : Nat), t = .int .i64 s ∧ o = .slice (some ⟨g, off, none⟩) l.length cap ∧ s ≤ 257 ∧ Own wr 127 2 o l.length (flatN l) ∧ w.heap.size ≤ g ∧ Hid (outer s (codes.drop s) l = some nodes) ∧ Below w.heap.size w wr) (fun _ t _ => 257 - (intOf t).toNat)
  case atStart =>
    refine ⟨0, [(0, 0)], w.heap.size, 0, 1, rfl, rfl, by omega, ?_, Nat.le_refl _, nodes_ok, ((Below.refl _ _).alloc (Nat.le_refl _) _).trans (hbe1.mono (by simp))⟩
    exact (Own.new w 127 2 1 #[.int .i64 0, .int .i64 0] rfl (by simp [maxLen])).kept fun k hk => hbe1.block k (by cases hk; simp)
  case round =>
    obtain ⟨s, l, g, off, cap, rfl, rfl, hs, hown, hge, HO, hbel⟩ := hrel
    obtain ⟨wo, rfl⟩ : ∃ wo : World, wo = wr := ⟨_, rfl⟩
    by_cases hlt : s < 257
    · have hl : s < codes.length := by rw [codes_length]; exact hlt
      obtain ⟨c, hc⟩ : ∃ c, c = codes[s] := ⟨_, rfl⟩
      obtain ⟨hr1, hr2, hr3⟩ := codes_range c (by rw [hc]; exact List.getElem_mem hl)
      obtain ⟨bs, n⟩ := c
      simp only at hr1 hr2 hr3
      have hix : ∀ W, (Instr.index 113 (.agg (codeCells 257)) (.int .i64 (s : Int))).run Tryd.prog W = .ok (.agg #[.int .u32 (bs : Nat), .int .i64 (n : Nat)]) W := fun W => by
        refine run_index_agg 113 112 257 (codeCells 257) .i64 s 2 Tryd.underlying113 _ Tryd.underlying112 rfl (by kernel_rfl) hlt _ ?_ W
        have e : codeCells 257 = (flatC codes).toArray := by unfold codeCells; rw [show (257 : Nat) = codes.length from codes_length.symm, fillL_all]
        obtain ⟨h1, h2⟩ := flatC_get codes s hl
        rw [← hc] at h1 h2
        simp only at h1 h2
        rw [e]
        apply Array.ext'
        simp only [Array.toList_extract, List.extract]
        have hlen : s * 2 + 1 < (flatC codes).length := by rw [flatC_length]; omega
        rw [Nat.mul_comm 2 s] at h1 h2
        rw [show s * 2 + 2 - s * 2 = 2 from by omega, List.drop_eq_getElem_cons (by omega), List.drop_eq_getElem_cons hlen]
        rw [List.getElem?_eq_getElem (by omega)] at h1
        rw [List.getElem?_eq_getElem hlen] at h2
        simp at h1 h2
        simp [h1, h2]
      have hd : codes.drop s = (bs, n) :: codes.drop (s + 1) := by rw [hc]; exact List.drop_eq_getElem_cons hl
      have hO := HO.out
      rw [hd, outer] at hO
      simp only at hO
      cases hin : inner (n - 1) bs 0 l with
      | none => rw [hin] at hO; cases hO
      | some r =>
        obtain ⟨A, L⟩ := r
        rw [hin] at hO
        simp only at hO
        have HI := Lib.hid hin
        have HO2 := Lib.hid hO
        have HC := Lib.hid hc
        have hb8 : bs < 1073741824 := Nat.lt_of_lt_of_le hr3 (Nat.pow_le_pow_right (by omega) (by omega : n ≤ 30))
        clear hd hO hc hin HO hbe1
        have hdec : decide ((s : Int) < 257) = true := by simp; omega
        go_wp2_with fail
        go_loopw [1, 4, 5] (fun o a t wr => ∃ (k at_ : Nat) (l : List (Int × Int)) (g off cap : Nat), t = .int .i64 k ∧ a = .int .i64 at_ ∧ o = .slice (some ⟨g, off, none⟩) l.length cap ∧ k ≤ 29 ∧ Own wr 127 2 o l.length (flatN l) ∧ w.heap.size ≤ g ∧ g ≠ wo.heap.size ∧ Hid (inner k bs at_ l = some (A, L)) ∧
            wr.heap[wo.heap.size]? = some (.cells #[.int .u32 (bs : Nat), .int .i64 (n : Nat)] 112 (0, 0)) ∧ Below w.heap.size w wr) (fun _ _ t _ => (intOf t).toNat)
        case atStart =>
          exact ⟨n - 1, 0, l, g, off, cap, by go_num, rfl, rfl, by omega, hown.alloc _, hge, by have := hown.lt g rfl; omega, HI, heap_alloc_new wo _, hbel.alloc hbel.size _⟩
        case round =>
          obtain ⟨k, at_, l, g, off, cap, rfl, rfl, rfl, hk, hown, hge, hgne, HI, hb3, hbel⟩ := hrel
          have hc0 : wr.cell? ⟨wo.heap.size, 0, none⟩ = some (.int .u32 (bs : Nat)) := by rw [cell_of_row wr _ 0 _ _ _ hb3]; rfl
          cases k with
          | zero =>
            have hI := HI.out
            rw [inner] at hI
            simp only [Option.some.injEq, Prod.mk.injEq] at hI
            obtain ⟨rfl, rfl⟩ := hI
            have hO := HO2.out
            split at hO
            case isFalse => cases hO
            case isTrue hat =>
            obtain ⟨hat1, hat2⟩ := hat
            obtain ⟨bit, hbit⟩ : ∃ bit, bit = bs % 2 := ⟨_, rfl⟩
            have hb2 : bit < 2 := by omega
            rw [← hbit] at hO
            have HO3 := Lib.hid hO
            have hand : bits .and .u32 (bs : Int) 1 = (bit : Int) := by rw [u32_and_one _ (by omega) (by omega), hbit]; omega
            have hcell := hown.cellAt (at_ * 2 + bit) (off + at_ * 2 + bit) _ (by omega) (flatN_get l at_ bit hat1 hb2)
            have hfree := hown.free (off + at_ * 2 + bit)
            have hoset := hown.set (at_ * 2 + bit) (off + at_ * 2 + bit) (by omega) (.int .i64 (-(s : Int) - 1))
            rw [flatN_set l at_ bit _ hat1 hb2] at hoset
            generalize child l at_ bit = old at hcell
            have hi1 : (0 : Int) ≤ (at_ : Int) := by omega
            have hi2 : (at_ : Int) < (l.length : Int) := by omega
            have hi3 : (0 : Int) ≤ (bit : Int) := by omega
            have hi4 : (bit : Int) < 2 := by omega
            have HH := Lib.hid hb3
            clear hO hbit hb3 HO2 HI
            go_wp2
            go_region
            all_goals go_wp2
            go_roundw
            case rel =>
              exact ⟨s + 1, setChild l at_ bit (-(s : Int) - 1), g, off, cap, by go_num, by rw [setChild_length], by omega, by rw [setChild_length, not_i64 _ (by omega) (by omega)]; exact hoset.drew, hge, HO3.out, (hbel.setCell (by simpa using hge) _).drew⟩
            case measure => simp [intOf] <;> omega
          | succ k =>
            obtain ⟨bit, hbit⟩ : ∃ bit, bit = bs / 2 ^ (k + 1) % 2 := ⟨_, rfl⟩
            have hb2 : bit < 2 := by omega
            have hI := HI.out
            rw [inner, ← hbit] at hI
            split at hI
            case isFalse => cases hI
            case isTrue hat =>
            obtain ⟨hat1, hat2⟩ := hat
            have hx : (0 : Int) ≤ (bs : Int) / 2 ^ (k + 1) ∧ (bs : Int) / 2 ^ (k + 1) < 4294967296 := by
              have e : (bs : Int) / 2 ^ (k + 1) = ((bs / 2 ^ (k + 1) : Nat) : Int) := by simp
              have h2 := Nat.div_le_self bs (2 ^ (k + 1))
              rw [e]
              generalize bs / 2 ^ (k + 1) = q at h2
              omega
            have hand : bits .and .u32 ((bs : Int) / 2 ^ (k + 1)) 1 = (bit : Int) := by
              rw [u32_and_one _ hx.1 hx.2, hbit]; simp
            have hj : at_ * 2 + bit < (flatN l).length := by rw [flatN_length]; omega
            have hcell := hown.cellAt (at_ * 2 + bit) (off + at_ * 2 + bit) _ (by omega) (flatN_get l at_ bit hat1 hb2)
            have hfree := hown.free (off + at_ * 2 + bit)
            have hltg := hown.lt g rfl
            have hb3l := lt_of_blk hb3
            have HH := Lib.hid hb3
            clear hbit hx hb3 HI
            by_cases hch : child l at_ bit = 0
            · rw [hch] at hcell
              rw [if_pos hch] at hI
              have HI2 := Lib.hid hI
              have hoset := hown.set (at_ * 2 + bit) (off + at_ * 2 + bit) (by omega) (.int .i64 (l.length : Nat))
              rw [flatN_set l at_ bit _ hat1 hb2] at hoset
              clear hI hch
              have hpre : (flatN (setChild l at_ bit (l.length : Nat)))[at_ * 2 + bit]? = some (.int .i64 (l.length : Nat)) := by
                have := flatN_get (setChild l at_ bit (l.length : Nat)) at_ bit (by rw [setChild_length]; exact hat1) hb2
                rw [child_setChild _ _ _ _ hat1] at this
                exact this
              have hpre2 : ∀ m, (flatN (setChild l at_ bit (l.length : Nat)) ++ m)[at_ * 2 + bit]? = some (.int .i64 (l.length : Nat)) := fun m => by
                rw [List.getElem?_append_left (by rw [flatN_length, setChild_length]; omega)]; exact hpre
              have HP := Lib.hid hpre2
              clear hpre hpre2 hj
              go_wp2_with (at_builtin; refine wpList_app rfl _ _ 124 rfl ti_node (by decide) _ l.length _ rfl (hoset.alloc _) ⟨wr.heap.size, 0, none⟩ 1 1 [.int .i64 0, .int .i64 0] rfl rfl (by have := news_new (wr.setCell ⟨g, off + at_ * 2 + bit, none⟩ (.int .i64 (l.length : Nat))) #[.int .i64 0, .int .i64 0] 127; simpa using this) (by simp [Value.oneCell']) (by decide) (by simp only [maxLen]; omega) (by omega) ?_; intro g1 off1 cap1 w1 hown1 hg1 hat3 hlt1; have hcell1 := hown1.cellAt (at_ * 2 + bit) (off1 + at_ * 2 + bit) (.int .i64 (l.length : Nat)) (by omega) (HP.out _))
              go_roundw
              case rel =>
                have hne : g1 ≠ wo.heap.size := by
                  rcases hat3 with h | h
                  · cases h; exact hgne
                  · simp at h; omega
                have hlen : (setChild l at_ bit (l.length : Nat) ++ [(0, 0)]).length = l.length + 1 := by simp [setChild_length]
                refine ⟨k, l.length, setChild l at_ bit (l.length : Nat) ++ [(0, 0)], g1, off1, cap1, by go_num, rfl, by rw [hlen], by omega, ?_, at_ge hat3 hge (by simp; omega), hne, HI2, ?_, ?_⟩
                · rw [hlen, flatN_append]; exact hown1
                · rw [hg1.block _ (by simp; omega) (own_ne (Ne.symm hgne)), Below.heap_alloc _ _ _ (by simp; omega), heap_setCell_other _ _ _ _ (by simp; omega)]; exact HH.out
                · exact ((hbel.setCell (by simpa using hge) _).alloc (by simp; exact hbel.size) _).grown hg1 (by simp; have := hbel.size; omega) (own_ge hge)
              case measure => simp [intOf] <;> omega
            · rw [if_neg hch] at hI
              split at hI
              case isFalse => cases hI
              case isTrue hpos =>
              obtain ⟨cn, hcn⟩ := Int.eq_ofNat_of_zero_le (show 0 ≤ child l at_ bit by omega)
              rw [hcn] at hcell hI hch
              have hne0 : ((cn : Int) == 0) = false := by simpa using hch
              have HI2 : Hid (inner k bs cn l = some (A, L)) := by show _ = _; simpa using hI
              clear hI hch hpos hcn hj hfree
              go_wp2
              go_roundw
              case rel => exact ⟨k, cn, l, g, off, cap, by go_num, rfl, rfl, by omega, hown, hge, hgne, HI2, HH.out, hbel⟩
              case measure => simp [intOf] <;> omega
    · obtain rfl : s = 257 := by omega
      have hO := HO.out
      rw [List.drop_of_length_le (by rw [codes_length]; omega), outer] at hO
      simp only [Option.some.injEq] at hO
      subst hO
      rw [nodes_length] at hown
      have hlen := Lib.hid nodes_length
      go_wp2
      rw [hlen.out]
      go_ret
      exact ⟨g, off, cap, rfl, hown, hbel⟩
end Huff
end Go.Proofs.YtkpdhnkiabgghaaDoor
