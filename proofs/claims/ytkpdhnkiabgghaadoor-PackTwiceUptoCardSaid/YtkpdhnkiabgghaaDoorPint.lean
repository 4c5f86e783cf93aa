/- Layer 2, pint: what Put and Take come to. -/
import Derived.Test.YtkpdhnkiabgghaaDoorProg
import Derived.Test.YtkpdhnkiabgghaaDoorMem
namespace Go.Proofs.YtkpdhnkiabgghaaDoor
open Go.RowKit
namespace Pint
theorem right_ok (p : Int) (w : World) (h1 : 1 ≤ p) (h2 : p ≤ 8) :
    Calls Tryd.prog 54 #[.int .i64 p] w fun e w' => e = .returned (.bool true) ∧ w = w' := by
  have hd : decide (1 ≤ p) = true := by simpa using h1
  have hd2 : decide (p ≤ 8) = true := by simpa using h2
  go_enter Tryd.func54, Tryd.ntmps54
  go_wp2
  go_ret
  exact ⟨rfl, rfl⟩
def fullN (p : Int) : Int := 2 ^ p.toNat - 1
theorem fullN_cases (p : Int) (h1 : 1 ≤ p) (h2 : p ≤ 8) : (p = 1 ∧ fullN p = 1) ∨ (p = 2 ∧ fullN p = 3) ∨ (p = 3 ∧ fullN p = 7) ∨ (p = 4 ∧ fullN p = 15) ∨ (p = 5 ∧ fullN p = 31) ∨ (p = 6 ∧ fullN p = 63) ∨ (p = 7 ∧ fullN p = 127) ∨ (p = 8 ∧ fullN p = 255) := by
  have h : p = 1 ∨ p = 2 ∨ p = 3 ∨ p = 4 ∨ p = 5 ∨ p = 6 ∨ p = 7 ∨ p = 8 := by omega
  rcases h with rfl | rfl | rfl | rfl | rfl | rfl | rfl | rfl <;> simp [fullN]
theorem full_any (p : Int) (w : World) (h1 : 1 ≤ p) (h2 : p ≤ 8) :
    Calls Tryd.prog 55 #[.int .i64 p] w fun e w' => e = .returned (.int .i64 (fullN p)) ∧ w = w' := by
  have h : p = 1 ∨ p = 2 ∨ p = 3 ∨ p = 4 ∨ p = 5 ∨ p = 6 ∨ p = 7 ∨ p = 8 := by omega
  go_enter Tryd.func55, Tryd.ntmps55
  go_wp2
  go_ret
  refine ⟨ret_int ?_, rfl⟩
  clear h1 h2
  rcases h with rfl | rfl | rfl | rfl | rfl | rfl | rfl | rfl <;> simp [fullN, wrap64]
/-- The bytes behind the first. -/
def tailF : Nat → Int → List Int
  | 0, v => [v]
  | k + 1, v => if 128 ≤ v then (v % 128 + 128) :: tailF k (v / 128) else [v]
/-- What Put answers. -/
def putN (p f v : Int) : List Int := if v < fullN p then [f + v] else (f + fullN p) :: tailF 5 (v - fullN p)
theorem conv_own {w : World} {g off n cap : Nat} {xs : List Int} (h : Own w 5 1 (.slice (some ⟨g, off, none⟩) n cap) n (xs.map (Value.int .u8))) :
    (convert 55 9 (.slice (some ⟨g, off, none⟩) n cap)).run Tryd.prog w = .ok (.string (strOfNums xs)) w := by
  have hl : xs.length = n := by simpa using h.1
  refine run_convert_bytes_arg _ 55 5 Tryd.underlying55 Tryd.underlying5 g off n cap xs hl (fun i hi => ?_) 9 Tryd.underlying9
  have := h.cells i (.int .u8 (xs.getD i 0)) (by
    have hi' : i < xs.length := by omega
    simp [hi'])
  simpa using this
theorem own_one (w : World) (x : Int) : Own (w.alloc (.cells #[.int .u8 x] 5)) 5 1 (.slice (some ⟨w.heap.size, 0, none⟩) 1 1) 1 ([x].map (Value.int .u8)) :=
  Own.new w 5 1 1 #[.int .u8 x] rfl (by simp [maxLen])
theorem ti_u8 : TI Tryd.prog 55 5 1 1 := TI.mk' Tryd.underlying55 (z := .int .u8 0) (by kernel_rfl) rfl
set_option maxRecDepth 100000 in
set_option maxHeartbeats 400000 in
theorem put_small (p f v : Int) (w : World) (h1 : 1 ≤ p) (h2 : p ≤ 8) (hf0 : 0 ≤ f) (hf1 : f + fullN p ≤ 255) (hand : (bits .and .i64 f (fullN p) != 0) = false) (hv : 0 ≤ v) (hv2 : v ≤ 2147483647) (hlt : v < fullN p) :
    Calls Tryd.prog 46 #[.int .i64 p, .int .i64 f, .int .i64 v] w fun e w' => e = .returned (.tuple #[.string (strOfNums [f + v]), .int .i64 0]) ∧ Below w.heap.size w w' := by
  have hb : 0 ≤ fullN p := by have := fullN_cases p h1 h2; omega
  have hcv : ∀ x, (convert 55 9 (.slice (some ⟨w.heap.size, 0, none⟩) 1 1)).run Tryd.prog (w.alloc (.cells #[.int .u8 x] 5)) = .ok (.string (strOfNums [x])) (w.alloc (.cells #[.int .u8 x] 5)) := fun x => conv_own (own_one w x)
  go_enter Tryd.func46, Tryd.ntmps46
  go_wp2_with (first
    | (go_at_call 54; refine (right_ok _ _ (by omega) (by omega)).mono ?_; rintro e w' ⟨rfl, rfl⟩)
    | (go_at_call 55; refine (full_any _ _ (by omega) (by omega)).mono ?_; rintro e w' ⟨rfl, rfl⟩))
  go_ret2
  exact ⟨rfl, (Below.refl _ _).alloc (Nat.le_refl _) _⟩
theorem or_128 (x : Int) (h0 : 0 ≤ x) (h1 : x < 256) : bits .or .u8 x 128 = x % 128 + 128 := by
  have h : ∀ n : Fin 256, bits .or .u8 ((n.val : Nat) : Int) 128 = ((n.val : Nat) : Int) % 128 + 128 := by decide +kernel
  obtain ⟨n, rfl⟩ := Int.eq_ofNat_of_zero_le h0
  exact h ⟨n, by omega⟩
theorem tailF_step (k : Nat) (v : Int) (h : 128 ≤ v) : tailF (k + 1) v = (v % 128 + 128) :: tailF k (v / 128) := by simp [tailF, h]
theorem tailF_end (k : Nat) (v : Int) (h : v < 128) : tailF k v = [v] := by cases k <;> simp [tailF]; omega
set_option maxRecDepth 100000 in
set_option maxHeartbeats 1000000 in
theorem put_big (p f v : Int) (w : World) (h1 : 1 ≤ p) (h2 : p ≤ 8) (hf0 : 0 ≤ f) (hf1 : f + fullN p ≤ 255) (hand : (bits .and .i64 f (fullN p) != 0) = false) (hv : 0 ≤ v) (hv2 : v ≤ 2147483647) (hlt : fullN p ≤ v) :
    Calls Tryd.prog 46 #[.int .i64 p, .int .i64 f, .int .i64 v] w fun e w' => e = .returned (.tuple #[.string (strOfNums ((f + fullN p) :: tailF 5 (v - fullN p))), .int .i64 0]) ∧ Below w.heap.size w w' := by
  have hb : 0 ≤ fullN p := by have := fullN_cases p h1 h2; omega
  have hb2 : fullN p ≤ 255 := by have := fullN_cases p h1 h2; omega
  go_enter Tryd.func46, Tryd.ntmps46
  go_wp2_with (first
    | (go_at_call 54; refine (right_ok _ _ (by omega) (by omega)).mono ?_; rintro e w' ⟨rfl, rfl⟩)
    | (go_at_call 55; refine (full_any _ _ (by omega) (by omega)).mono ?_; rintro e w' ⟨rfl, rfl⟩))
  go_loopw [2, 8] (fun t o wr => ∃ (x : Int) (k g off n cap : Nat) (xs : List Int), t = .int .i64 x ∧ o = .slice (some ⟨g, off, none⟩) n cap ∧ 0 ≤ x ∧ x < 128 ^ (k + 1) ∧ k ≤ 5 ∧ n ≤ 10 ∧ n + k = 6 ∧
      Own wr 5 1 o n (xs.map (Value.int .u8)) ∧ Hid (xs ++ tailF k x = (f + fullN p) :: tailF 5 (v - fullN p)) ∧ Below w.heap.size w wr ∧ w.heap.size ≤ g) (fun t _ _ => (intOf t).toNat)
  case atStart =>
    exact ⟨v - fullN p, 5, w.heap.size, 0, 1, 1, [f + fullN p], rfl, rfl, by omega, by omega, by omega, by omega, by omega, own_one w (f + fullN p), rfl, (Below.refl _ _).alloc (Nat.le_refl _) _, Nat.le_refl _⟩
  case round =>
    obtain ⟨x, k, g, off, n, cap, xs, rfl, rfl, hx0, hx1, hk, hn, hnk, hown, HX, hbel, hge⟩ := hrel
    have hsz := hbel.size
    clear hlt hv hv2 hand
    by_cases hx : 128 ≤ x
    · obtain ⟨k, rfl⟩ : ∃ k', k = k' + 1 := ⟨k - 1, by
        have : k ≠ 0 := by rintro rfl; omega
        omega⟩
      have hx2 : x / 128 < 128 ^ (k + 1) := by rw [Int.pow_succ] at hx1; omega
      have hor := or_128 (x % 256) (by omega) (by omega)
      have hmm : x % 256 % 128 = x % 128 := by omega
      have HO : Hid (bits .or .u8 (x % 256) 128 = x % 128 + 128) := by rw [hor, hmm]; rfl
      have HX2 : Hid ((xs ++ [x % 128 + 128]) ++ tailF k (x / 128) = (f + fullN p) :: tailF 5 (v - fullN p)) := by
        have := HX.out; rw [tailF_step _ _ hx] at this; show _ = _; rw [← this]; simp
      clear hor hmm HX
      go_wp2_with (at_builtin; refine wpList_app rfl _ _ 55 rfl ti_u8 (by decide) _ n _ rfl (hown.alloc _) ⟨wr.heap.size, 0, none⟩ 1 1 [.int .u8 (bits .or .u8 (x % 256) 128)] rfl rfl (news_new wr #[.int .u8 (bits .or .u8 (x % 256) 128)] 5) (by simp [Value.oneCell']) (by decide) (by simp only [maxLen]; omega) (by omega) ?_; intro g1 off1 cap1 w1 hown1 hg1 hat1 hlt1)
      go_roundw
      case rel =>
        refine ⟨x / 128, k, g1, off1, n + 1, cap1, xs ++ [x % 128 + 128], rfl, rfl, by omega, hx2, by omega, by omega, by omega, ?_, HX2, (hbel.alloc (by omega) _).grown hg1 (by simp; omega) (own_ge hge), at_ge hat1 hge (by simp; omega)⟩
        rw [HO.out] at hown1; simpa using hown1
      case measure => simp [intOf]; omega
    · have HX2 : Hid (xs ++ [x] = (f + fullN p) :: tailF 5 (v - fullN p)) := by
        have := HX.out; rw [tailF_end _ _ (by omega)] at this; exact this
      clear HX
      go_wp2_with (at_builtin; refine wpList_app rfl _ _ 55 rfl ti_u8 (by decide) _ n _ rfl (hown.alloc _) ⟨wr.heap.size, 0, none⟩ 1 1 [.int .u8 x] rfl rfl (news_new wr #[.int .u8 x] 5) (by simp [Value.oneCell']) (by decide) (by simp only [maxLen]; omega) (by omega) ?_; intro g1 off1 cap1 w1 hown1 hg1 hat1 hlt1; have hcv := conv_own (xs := xs ++ [x]) (by simpa using hown1))
      go_ret2
      refine ⟨by rw [HX2.out]; rfl, (hbel.alloc (by omega) _).grown hg1 (by simp; omega) (own_ge hge)⟩
theorem putN_length (p f v : Int) : (putN p f v).length ≤ 7 := by
  have h : ∀ k v, (tailF k v).length ≤ k + 1 := by
    intro k
    induction k with
    | zero => intro v; simp [tailF]
    | succ k ih => intro v; simp only [tailF]; split <;> simp; exact ih _
  unfold putN
  split
  · simp
  · have := h 5 (v - fullN p); simp; omega
/-- Put, at whatever numbers are right. -/
theorem put_any (p f v : Int) (w : World) (h1 : 1 ≤ p) (h2 : p ≤ 8) (hf0 : 0 ≤ f) (hf1 : f + fullN p ≤ 255) (hand : (bits .and .i64 f (fullN p) != 0) = false) (hv : 0 ≤ v) (hv2 : v ≤ 2147483647) :
    Calls Tryd.prog 46 #[.int .i64 p, .int .i64 f, .int .i64 v] w fun e w' => e = .returned (.tuple #[.string (strOfNums (putN p f v)), .int .i64 0]) ∧ Below w.heap.size w w' := by
  unfold putN
  by_cases h : v < fullN p
  · rw [if_pos h]; exact put_small p f v w h1 h2 hf0 hf1 hand hv hv2 h
  · rw [if_neg h]; exact put_big p f v w h1 h2 hf0 hf1 hand hv hv2 (by omega)
end Pint
end Go.Proofs.YtkpdhnkiabgghaaDoor
