/- Layer 4, table: all, Find. -/
import Derived.Test.YtkpdhnkiabgghaaDoorRange
namespace Go.Proofs.YtkpdhnkiabgghaaDoor
open Go.RowKit Go.Shelf
attribute [local go_sem] Oper.semAt_some
namespace Table
def idx : Nat → List Ent → List (Nat × Ent)
  | _, [] => []
  | k, e :: l => (k, e) :: idx (k + 1) l
theorem idx_length (l : List Ent) : ∀ k, (idx k l).length = l.length := by
  induction l with
  | nil => intro k; rfl
  | cons e l ih => intro k; simp [idx, ih]
theorem idx_get (l : List Ent) : ∀ (k j : Nat) (e : Ent), l[j]? = some e → (idx k l)[j]? = some (k + j, e) := by
  induction l with
  | nil => intro k j e h; simp at h
  | cons d l ih =>
    intro k j e h
    cases j with
    | zero => simp at h; subst h; simp [idx]
    | succ j => simp only [idx, List.getElem?_cons_succ]; rw [ih (k + 1) j e (by simpa using h)]; congr 2; omega
/-- The entries, the indexes from 1 on. -/
def allL (es : List Ent) : List (Nat × Ent) := idx 1 (fixedL ++ es.reverse)
theorem allL_length (es : List Ent) : (allL es).length = 61 + es.length := by rw [allL, idx_length, List.length_append, fixedL_length, List.length_reverse]
theorem allL_fixed (es : List Ent) (k : Nat) (e : Ent) (h : fixedL[k]? = some e) : (allL es)[k]? = some (k + 1, e) := by
  have hk := (List.getElem?_eq_some_iff.1 h).1
  rw [allL, idx_get _ 1 k e (by rw [List.getElem?_append_left hk]; exact h), Nat.add_comm]
theorem allL_moving (es : List Ent) (k : Nat) (e : Ent) (hk : k < es.length) (h : es[es.length - 1 - k]? = some e) : (allL es)[61 + k]? = some (62 + k, e) := by
  rw [allL, idx_get _ 1 (61 + k) e (by rw [List.getElem?_append_right (by rw [fixedL_length]; omega), fixedL_length, show 61 + k - 61 = k by omega, List.getElem?_reverse hk]; exact h), show 1 + (61 + k) = 62 + k by omega]
theorem take_snoc {α : Type} {l : List α} {k : Nat} {x : α} (h : l[k]? = some x) : l.take k ++ [x] = l.take (k + 1) := by
  rw [List.take_add_one, h]; rfl
theorem _root_.Go.Proofs.YtkpdhnkiabgghaaDoor.IsTab.keep {w w' : World} {g n₀ : Nat} {v : Value} {mx : Nat} {es : List Ent} (h : IsTab w g v mx es) (hb : Below n₀ w w') (hg : g < n₀) (hv : ∀ k, v.ownBlock = some k → k < n₀) : IsTab w' g v mx es :=
  ⟨(hb.block g hg).trans h.blk, h.own.kept (fun k hk => hb.block k (hv k hk)), h.ne, h.le, h.mle⟩
def encE (x : Nat × Ent) : Array Value := #[.int .i64 (x.1 : Nat), .agg #[.string x.2.1, .string x.2.2]]
set_option maxRecDepth 100000 in
set_option maxHeartbeats 4000000 in
theorem all_seq (n g n₀ : Nat) (v : Value) (mx : Nat) (es : List Ent) (w : World) (h : IsTab w g v mx es) (hn₀ : n₀ ≤ w.heap.size) (hg : g < n₀) (hv : ∀ k, v.ownBlock = some k → k < n₀) :
    SeqB n Tryd.prog 47 #[.pointer (some ⟨g, 0, none⟩)] encE n₀ (allL es) w := by
  intro l J Jx W hW hJ hJx hY h0
  have hT := h.keep hW hg hv
  have hns := Nat.le_trans hn₀ hW.size
  have hle := hT.le
  have hlen : es.length ≤ 2048 := by have := tsize_len es; omega
  refine callsIn_of_wp Tryd.func47 rfl trivial ?_ rfl
  simp only [Tryd.ntmps47, List.size_toArray, List.length_cons, List.length_nil, Nat.reduceAdd, Nat.reduceSub, Array.replicate_succ, Array.replicate_zero, List.push_toArray, List.append_toArray, List.nil_append, List.cons_append]
  have hN : Fence.wide.depth.isSome = true → 1 ≤ n := fun h => by cases h
  gi_wp2_with (refine ⟨trivial, hN, ?_⟩; gi_at_call 45; refine (callsIn_wide.2 (fixed_any _)).mono ?_; rintro e w1 ⟨rfl, hb1⟩)
  gi_loopw [9] (fun t wr => ∃ k : Nat, t = .int .i64 k ∧ k ≤ 61 ∧ J ((allL es).take k) wr ∧ IsTab wr g v mx es ∧ n₀ ≤ wr.heap.size) (fun t _ => 61 - (intOf t).toNat)
  case atStart => exact ⟨0, rfl, by omega, hJ _ _ _ h0 hb1, hT.below hb1, Nat.le_trans hns hb1.size⟩
  case round =>
    obtain ⟨k, rfl, hk, hJk, hTk, hnk⟩ := hrel
    by_cases hk61 : k < 61
    · obtain ⟨x, hx⟩ : ∃ x, fixedL[k]? = some x := ⟨fixedL[k]'(by rw [fixedL_length]; exact hk61), List.getElem?_eq_getElem _⟩
      have hxx := fixC_get k x hx
      have hall := allL_fixed es k x hx
      obtain ⟨e1, e2⟩ := x
      have hix : ∀ W, (Instr.index 96 (.agg fixC) (.int .i64 (k : Int))).run Tryd.prog W = .ok (.agg #[.string e1, .string e2]) W := fun W =>
        run_index_agg 96 69 61 fixC .i64 k 2 Tryd.underlying96 _ Tryd.underlying69 rfl (by kernel_rfl) hk61 _ hxx W
      have hbA : Below wr.heap.size wr (wr.alloc (.cells #[.string e1, .string e2] 69)) := (Below.refl _ _).alloc (Nat.le_refl _) _
      obtain ⟨fn, tmps, assign, body, hy, hR⟩ := hY ((allL es).take k) (k + 1, (e1, e2)) _ (hJ _ _ _ hJk hbA)
      rw [take_snoc hall] at hR
      have hy2 : (Instr.yield l #[.int .i64 ((k : Int) + 1), .agg #[.string e1, .string e2]]).run Tryd.prog (wr.alloc (.cells #[.string e1, .string e2] 69)) = _ := hy
      clear hy
      gi_wp2
      refine ⟨hN, hR.mono ?_⟩
      rintro e W3 (⟨rfl, hJ3, hk3⟩ | ⟨rfl, hJx3⟩)
      · gi_wp2
        go_roundw
        case rel => exact ⟨k + 1, rfl, by omega, hJ3, (hTk.below hbA).keep hk3 hg hv, Nat.le_trans hnk (Nat.le_trans hbA.size hk3.size)⟩
        case measure => simp [intOf]; omega
      · gi_wp2
        refine bodyPost_ret (results_none rfl _ _ _) rfl ?_
        exact ⟨⟨_, rfl⟩, .inr ⟨_, List.take_prefix _ _, hJx3⟩⟩
    · obtain rfl : k = 61 := by omega
      obtain ⟨A, cap, rfl, hc1, hc2⟩ := hTk.own.form'
      obtain ⟨c0, c1, c2, f0, f1, f2⟩ := cell3 hTk.blk
      gi_wp2
      gi_loopw [26] (fun t wr => ∃ k : Nat, t = .int .i64 k ∧ k ≤ es.length ∧ J ((allL es).take (61 + k)) wr ∧ IsTab wr g (.slice A es.length cap) mx es ∧ n₀ ≤ wr.heap.size) (fun t _ => es.length - (intOf t).toNat)
      case atStart => exact ⟨0, rfl, by omega, hJk, hTk, hnk⟩
      case round =>
        obtain ⟨k, rfl, hk, hJk, hTk, hnk⟩ := hrel
        by_cases hkl : k < es.length
        · obtain ⟨m, hm⟩ : ∃ m, m = es.length - 1 - k := ⟨_, rfl⟩
          obtain ⟨x, hx⟩ : ∃ x, es[m]? = some x := ⟨es[m]'(by omega), List.getElem?_eq_getElem _⟩
          have hall := allL_moving es k x hkl (by rw [← hm]; exact hx)
          obtain ⟨a, off, cap', hv', hcc1, hcc2, ha⟩ := hTk.own.form (by omega)
          cases hv'
          obtain ⟨x1, x2⟩ := entC_get es m x hx
          have p0 := hTk.own.cellAt (m * 2) (off + m * 2) _ rfl x1
          have p1 := hTk.own.cellAt (m * 2 + 1) (off + m * 2 + 1) _ (by omega) x2
          obtain ⟨c0, c1, c2, f0, f1, f2⟩ := cell3 hTk.blk
          obtain ⟨e1, e2⟩ := x
          have hw1 : IntKind.i64.wrap ((es.length : Int) - 1) = (es.length : Int) - 1 := by rw [IntWalk.i64_in _ (by omega)]
          have hw2 : IntKind.i64.wrap ((es.length : Int) - 1 - (k : Int)) = m := by rw [IntWalk.i64_in _ (by omega)]; omega
          have hw3 : IntKind.i64.wrap (62 + (k : Int)) = 62 + (k : Int) := by rw [IntWalk.i64_in _ (by omega)]
          have h4 : (m : Int) < (es.length : Int) := by omega
          have h5 : (0 : Int) ≤ (m : Int) := by omega
          have HM := Lib.hid hm
          have HX1 := Lib.hid x1
          have HX2 := Lib.hid x2
          have HX := Lib.hid hx
          clear hm x1 x2 hx
          obtain ⟨fn, tmps, assign, body, hy, hR⟩ := hY ((allL es).take (61 + k)) (62 + k, (e1, e2)) _ hJk
          rw [take_snoc hall] at hR
          have hy2 : (Instr.yield l #[.int .i64 (62 + (k : Int)), .agg #[.string e1, .string e2]]).run Tryd.prog wr = _ := hy
          clear hy
          gi_wp2
          refine ⟨hN, hR.mono ?_⟩
          rintro e W3 (⟨rfl, hJ3, hk3⟩ | ⟨rfl, hJx3⟩)
          · gi_wp2
            go_roundw
            case rel => refine ⟨_, _, _, _, _, _, _, _, _, _, _, _, _, _, _, _, _, _, _, _, ?_, rfl⟩; exact ⟨k + 1, rfl, by omega, hJ3, hTk.keep hk3 hg hv, Nat.le_trans hnk hk3.size⟩
            case measure => simp [intOf]; omega
          · gi_wp2
            refine bodyPost_ret (results_none rfl _ _ _) rfl ?_
            exact ⟨⟨_, rfl⟩, .inr ⟨_, List.take_prefix _ _, hJx3⟩⟩
        · obtain rfl : k = es.length := by omega
          have hfull : (allL es).take (61 + es.length) = allL es := List.take_of_length_le (by rw [allL_length]; omega)
          rw [hfull] at hJk
          gi_wp2
          go_end0
          exact ⟨⟨_, rfl⟩, .inl hJk⟩
end Table
end Go.Proofs.YtkpdhnkiabgghaaDoor
