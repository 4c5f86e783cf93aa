/- Layer 5, pack: formOf, Size. -/
import Derived.Test.YtkpdhnkiabgghaaDoorDecC
namespace Go.Proofs.YtkpdhnkiabgghaaDoor
open Go.RowKit
namespace Pack
def formN (c : Nat) : Nat := if 128 ≤ c then 0 else if 64 ≤ c then 1 else if 32 ≤ c then 2 else if 16 ≤ c then 3 else 4
theorem formN_lt (c : Nat) : formN c < 5 := by unfold formN; repeat' split
                                               all_goals omega
theorem bits_tab : ((List.range 256).all fun c => ((bits .and .i64 (c : Nat) 128 != 0) == decide (128 ≤ c)) && ((decide (128 ≤ c)) || ((bits .and .i64 (c : Nat) 64 != 0) == decide (64 ≤ c))) && ((decide (64 ≤ c)) || ((bits .and .i64 (c : Nat) 32 != 0) == decide (32 ≤ c))) &&
    ((decide (32 ≤ c)) || ((bits .and .i64 (c : Nat) 16 != 0) == decide (16 ≤ c))) && ((bits .and .i64 (c : Nat) 0 != 0) == false)) = true := by kernel_rfl
theorem bits_c (c : Nat) (h : c < 256) : (bits .and .i64 (c : Int) 128 != 0) = decide (128 ≤ c) ∧ (c < 128 → (bits .and .i64 (c : Int) 64 != 0) = decide (64 ≤ c)) ∧ (c < 64 → (bits .and .i64 (c : Int) 32 != 0) = decide (32 ≤ c)) ∧ (c < 32 → (bits .and .i64 (c : Int) 16 != 0) = decide (16 ≤ c)) ∧ (bits .and .i64 (c : Int) 0 != 0) = false := by
  have := List.all_eq_true.1 bits_tab c (List.mem_range.2 h)
  simp only [Bool.and_eq_true, Bool.or_eq_true, beq_iff_eq, decide_eq_true_eq] at this
  obtain ⟨⟨⟨⟨h1, h2⟩, h3⟩, h4⟩, h5⟩ := this
  exact ⟨h1, fun k => h2.resolve_left (by omega), fun k => h3.resolve_left (by omega), fun k => h4.resolve_left (by omega), h5⟩
set_option maxRecDepth 100000 in
set_option maxHeartbeats 4000000 in
theorem formOf_any (c : Nat) (w : World) (hG : G w) (hc : c < 256) :
    Calls Tryd.prog 39 #[.int .u8 (c : Int)] w fun e w' => e = .returned (.int .i64 (formN c : Nat)) ∧ Below w.heap.size w w' := by
  obtain ⟨b1, b2, b3, b4, b5⟩ := bits_c c hc
  have a0 := hG.forms 0 128 7 (by omega) rfl
  have a1 := hG.forms 1 64 6 (by omega) rfl
  have a2 := hG.forms 2 32 5 (by omega) rfl
  have a3 := hG.forms 3 16 4 (by omega) rfl
  have a4 := hG.forms 4 0 4 (by omega) rfl
  simp only [Nat.reduceMul, Nat.reduceAdd] at a0 a1 a2 a3 a4
  obtain ⟨p0, q0⟩ := a0
  obtain ⟨p1, q1⟩ := a1
  obtain ⟨p2, q2⟩ := a2
  obtain ⟨p3, q3⟩ := a3
  obtain ⟨p4, q4⟩ := a4
  have hFN : Hid (formN c = if 128 ≤ c then 0 else if 64 ≤ c then 1 else if 32 ≤ c then 2 else if 16 ≤ c then 3 else 4) := rfl
  have hix0 : ∀ W, (Instr.index 93 (.agg #[.int .i64 128, .int .i64 7, .int .i64 64, .int .i64 6, .int .i64 32, .int .i64 5, .int .i64 16, .int .i64 4, .int .i64 0, .int .i64 4]) (.int .i64 0)).run Tryd.prog W = .ok (.agg #[.int .i64 128, .int .i64 7]) W := fun W => run_index_agg 93 92 5 _ .i64 0 2 Tryd.underlying93 _ Tryd.underlying92 rfl (by kernel_rfl) (by omega) _ rfl W
  have hix1 : ∀ W, (Instr.index 93 (.agg #[.int .i64 128, .int .i64 7, .int .i64 64, .int .i64 6, .int .i64 32, .int .i64 5, .int .i64 16, .int .i64 4, .int .i64 0, .int .i64 4]) (.int .i64 1)).run Tryd.prog W = .ok (.agg #[.int .i64 64, .int .i64 6]) W := fun W => run_index_agg 93 92 5 _ .i64 1 2 Tryd.underlying93 _ Tryd.underlying92 rfl (by kernel_rfl) (by omega) _ rfl W
  have hix2 : ∀ W, (Instr.index 93 (.agg #[.int .i64 128, .int .i64 7, .int .i64 64, .int .i64 6, .int .i64 32, .int .i64 5, .int .i64 16, .int .i64 4, .int .i64 0, .int .i64 4]) (.int .i64 2)).run Tryd.prog W = .ok (.agg #[.int .i64 32, .int .i64 5]) W := fun W => run_index_agg 93 92 5 _ .i64 2 2 Tryd.underlying93 _ Tryd.underlying92 rfl (by kernel_rfl) (by omega) _ rfl W
  have hix3 : ∀ W, (Instr.index 93 (.agg #[.int .i64 128, .int .i64 7, .int .i64 64, .int .i64 6, .int .i64 32, .int .i64 5, .int .i64 16, .int .i64 4, .int .i64 0, .int .i64 4]) (.int .i64 3)).run Tryd.prog W = .ok (.agg #[.int .i64 16, .int .i64 4]) W := fun W => run_index_agg 93 92 5 _ .i64 3 2 Tryd.underlying93 _ Tryd.underlying92 rfl (by kernel_rfl) (by omega) _ rfl W
  have hix4 : ∀ W, (Instr.index 93 (.agg #[.int .i64 128, .int .i64 7, .int .i64 64, .int .i64 6, .int .i64 32, .int .i64 5, .int .i64 16, .int .i64 4, .int .i64 0, .int .i64 4]) (.int .i64 4)).run Tryd.prog W = .ok (.agg #[.int .i64 0, .int .i64 4]) W := fun W => run_index_agg 93 92 5 _ .i64 4 2 Tryd.underlying93 _ Tryd.underlying92 rfl (by kernel_rfl) (by omega) _ rfl W
  go_enter Tryd.func39, Tryd.ntmps39
  go_wp2_with fail
  go_loopw [6] (fun t wr => ∃ k : Nat, t = .int .i64 k ∧ k ≤ 5 ∧ (0 < k → c < 128) ∧ (1 < k → c < 64) ∧ (2 < k → c < 32) ∧ (3 < k → c < 16) ∧ Below w.heap.size w wr) (fun t _ => 5 - (intOf t).toNat)
  case atStart => exact ⟨0, rfl, by omega, by omega, by omega, by omega, by omega, Below.refl _ _⟩
  case round =>
    obtain ⟨k, rfl, hk, hk1, hk2, hk3, hk4, hbr⟩ := hrel
    have hk5 : k = 0 ∨ k = 1 ∨ k = 2 ∨ k = 3 ∨ k = 4 ∨ k = 5 := by omega
    rcases hk5 with rfl | rfl | rfl | rfl | rfl | rfl
    · have hb := b1
      by_cases hx : 128 ≤ c
      · have hd : (bits .and .i64 (c : Int) 128 != 0) = true := by rw [hb]; simpa using hx
        have hr : Hid (formN c = 0) := by show _ = _; rw [hFN.out]; rw [if_pos hx]
        clear b1 b2 b3 b4 b5 hk1 hk2 hk3 hk4 hb
        go_wp2
        go_ret
        exact ⟨by rw [hr.out]; rfl, hbr.alloc hbr.size _⟩
      · have hd : (bits .and .i64 (c : Int) 128 != 0) = false := by rw [hb]; simpa using hx
        have HK : Hid ((1 < 1 → c < 64) ∧ (2 < 1 → c < 32) ∧ (3 < 1 → c < 16)) := ⟨fun _ => by omega, fun _ => by omega, fun _ => by omega⟩
        clear b1 b2 b3 b4 b5 hk1 hk2 hk3 hk4 hb
        go_wp2
        go_roundw
        case rel => exact ⟨1, rfl, by omega, fun _ => by omega, HK.out.1, HK.out.2.1, HK.out.2.2, hbr.alloc hbr.size _⟩
        case measure => decide
    · have hb := b2 (hk1 (by omega))
      by_cases hx : 64 ≤ c
      · have hd : (bits .and .i64 (c : Int) 64 != 0) = true := by rw [hb]; simpa using hx
        have hr : Hid (formN c = 1) := by show _ = _; rw [hFN.out]; rw [if_neg (by have := hk1 (by omega); omega)]; rw [if_pos hx]
        clear b1 b2 b3 b4 b5 hk1 hk2 hk3 hk4 hb
        go_wp2
        go_ret
        exact ⟨by rw [hr.out]; rfl, hbr.alloc hbr.size _⟩
      · have hd : (bits .and .i64 (c : Int) 64 != 0) = false := by rw [hb]; simpa using hx
        have HK : Hid ((1 < 2 → c < 64) ∧ (2 < 2 → c < 32) ∧ (3 < 2 → c < 16)) := ⟨fun _ => by omega, fun _ => by omega, fun _ => by omega⟩
        clear b1 b2 b3 b4 b5 hk1 hk2 hk3 hk4 hb
        go_wp2
        go_roundw
        case rel => exact ⟨2, rfl, by omega, fun _ => by omega, HK.out.1, HK.out.2.1, HK.out.2.2, hbr.alloc hbr.size _⟩
        case measure => decide
    · have hb := b3 (hk2 (by omega))
      by_cases hx : 32 ≤ c
      · have hd : (bits .and .i64 (c : Int) 32 != 0) = true := by rw [hb]; simpa using hx
        have hr : Hid (formN c = 2) := by show _ = _; rw [hFN.out]; rw [if_neg (by have := hk1 (by omega); omega)]; rw [if_neg (by have := hk2 (by omega); omega)]; rw [if_pos hx]
        clear b1 b2 b3 b4 b5 hk1 hk2 hk3 hk4 hb
        go_wp2
        go_ret
        exact ⟨by rw [hr.out]; rfl, hbr.alloc hbr.size _⟩
      · have hd : (bits .and .i64 (c : Int) 32 != 0) = false := by rw [hb]; simpa using hx
        have HK : Hid ((1 < 3 → c < 64) ∧ (2 < 3 → c < 32) ∧ (3 < 3 → c < 16)) := ⟨fun _ => by omega, fun _ => by omega, fun _ => by omega⟩
        clear b1 b2 b3 b4 b5 hk1 hk2 hk3 hk4 hb
        go_wp2
        go_roundw
        case rel => exact ⟨3, rfl, by omega, fun _ => by omega, HK.out.1, HK.out.2.1, HK.out.2.2, hbr.alloc hbr.size _⟩
        case measure => decide
    · have hb := b4 (hk3 (by omega))
      by_cases hx : 16 ≤ c
      · have hd : (bits .and .i64 (c : Int) 16 != 0) = true := by rw [hb]; simpa using hx
        have hr : Hid (formN c = 3) := by show _ = _; rw [hFN.out]; rw [if_neg (by have := hk1 (by omega); omega)]; rw [if_neg (by have := hk2 (by omega); omega)]; rw [if_neg (by have := hk3 (by omega); omega)]; rw [if_pos hx]
        clear b1 b2 b3 b4 b5 hk1 hk2 hk3 hk4 hb
        go_wp2
        go_ret
        exact ⟨by rw [hr.out]; rfl, hbr.alloc hbr.size _⟩
      · have hd : (bits .and .i64 (c : Int) 16 != 0) = false := by rw [hb]; simpa using hx
        have HK : Hid ((1 < 4 → c < 64) ∧ (2 < 4 → c < 32) ∧ (3 < 4 → c < 16)) := ⟨fun _ => by omega, fun _ => by omega, fun _ => by omega⟩
        clear b1 b2 b3 b4 b5 hk1 hk2 hk3 hk4 hb
        go_wp2
        go_roundw
        case rel => exact ⟨4, rfl, by omega, fun _ => by omega, HK.out.1, HK.out.2.1, HK.out.2.2, hbr.alloc hbr.size _⟩
        case measure => decide
    · have HK : Hid (c < 16) := hk4 (by omega)
      clear b1 b2 b3 b4 hk1 hk2 hk3 hk4
      go_wp2
      go_roundw
      case rel => exact ⟨5, rfl, by omega, fun _ => by have := HK.out; omega, fun _ => by have := HK.out; omega, fun _ => by have := HK.out; omega, fun _ => by have := HK.out; omega, hbr.alloc hbr.size _⟩
      case measure => decide
    · have hr : Hid (formN c = 4) := by
        have := hk4 (by omega)
        show _ = _; rw [hFN.out, if_neg (by omega), if_neg (by omega), if_neg (by omega), if_neg (by omega)]
      clear b1 b2 b3 b4 b5 hk1 hk2 hk3 hk4
      go_wp2
      go_ret
      exact ⟨by rw [hr.out]; rfl, hbr⟩
end Pack
end Go.Proofs.YtkpdhnkiabgghaaDoor
