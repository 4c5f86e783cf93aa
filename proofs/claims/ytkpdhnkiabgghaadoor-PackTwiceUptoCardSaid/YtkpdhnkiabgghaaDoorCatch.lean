/- Layer 5, pack: Decode's deferred closure: what it does where nothing panicked, and behind a fault. -/
import Derived.Test.YtkpdhnkiabgghaaDoorMem
import Derived.Test.YtkpdhnkiabgghaaDoorProg
import Derived.Defers
import Derived.Recover
import Derived.Deep.RegionHeld
namespace Go.Proofs.YtkpdhnkiabgghaaDoor
open Go.RowKit
namespace Pack
theorem neq_nil (W : World) : (binOp .neq 20 .nilIface .nilIface).run Tryd.prog W = .ok (.bool false) W := by
  kernel_rfl
theorem neq_fault (W : World) : (binOp .neq 20 (.iface 65 (.agg #[])) .nilIface).run Tryd.prog W = .ok (.bool true) W := by
  kernel_rfl
theorem is_fault (W : World) : (Instr.typeAssert (.iface 65 (.agg #[])) 20 65 true).run Tryd.prog W = .ok (.tuple #[.agg #[], .bool true]) W := by
  kernel_rfl
theorem frame0 (a b c x y : Value) : (#[a, b, c] : Array Value) ++ ((Array.replicate 17 undef).setIfInBounds 3 x).setIfInBounds 0 y = #[a, b, c, y, undef, undef, x, undef, undef, undef, undef, undef, undef, undef, undef, undef, undef, undef, undef, undef] := by
  apply Array.toList_inj.1
  rw [Array.toList_append, Array.toList_setIfInBounds, Array.toList_setIfInBounds, Array.toList_replicate]
  rfl
set_option maxRecDepth 100000 in
theorem catch_idle (a b c : Value) (w : World) :
    CallsD Tryd.prog 25 #[a, b, c] .returning w fun e u' w' => e = .returned (.tuple #[]) ∧ u' = .returning ∧ w' = w := by
  have hq := neq_nil
  refine callsD_of_wpS Tryd.func25 rfl fun c₀ cs hu => ?_
  apply wpS_seq
  apply wpS_region
  simp [wpOpsS, go_sem, recoverD, hu, Tryd.ntmps25, Exit.thenS]
  refine wpS_of_wp ?_
  rw [frame0]
  go_wp2
  cases c₀
  simp_all [bodyPostS, results, Tryd.results25]
set_option maxRecDepth 100000 in
theorem catch_fault (gd od o1 o2 : Nat) (x0 x1 x2 y1 y2 : Value) (t1 t2 : TypeId) (w : World) (hp : w.cell? ⟨od, 0, none⟩ = some (.pointer (some ⟨gd, 0, none⟩))) (hd : w.heap[gd]? = some (.cells #[x0, x1, x2] 53 (0, 0)))
    (h1 : w.heap[o1]? = some (.cells #[y1] t1 (0, 0))) (h2 : w.heap[o2]? = some (.cells #[y2] t2 (0, 0))) (_hn1 : o1 ≠ gd) (_hn2 : o2 ≠ gd) (hn3 : o1 ≠ o2) (older : List PanicEntry) :
    CallsD Tryd.prog 25 #[.pointer (some ⟨od, 0, none⟩), .pointer (some ⟨o1, 0, none⟩), .pointer (some ⟨o2, 0, none⟩)] (.panicking ({ v := .iface 65 (.agg #[]), recovered := false } :: older)) w fun e u' w' =>
      e = .returned (.tuple #[]) ∧ u' = .panicking ({ v := .iface 65 (.agg #[]), recovered := true } :: older) ∧
      w' = (((w.setCell ⟨gd, 2, none⟩ (.bool true)).setCell ⟨o1, 0, none⟩ (.slice none 0 0)).setCell ⟨o2, 0, none⟩ (.int .i64 50)).alloc (.cells #[] 65) := by
  have hq := neq_fault
  have hi := is_fault
  refine callsD_of_wpS Tryd.func25 rfl fun c₀ cs hu => ?_
  apply wpS_seq
  apply wpS_region
  simp [wpOpsS, go_sem, recoverD, hu, Tryd.ntmps25, Exit.thenS]
  have c0 : w.cell? ⟨gd, 2, none⟩ = some x2 := (cell_of_row w gd 2 _ _ (0, 0) hd).trans rfl
  have f0 := frozen_of_row w gd 2 _ _ hd
  have c1 : w.cell? ⟨o1, 0, none⟩ = some y1 := (cell_of_row w o1 0 _ _ (0, 0) h1).trans rfl
  have f1 := frozen_of_row w o1 0 _ _ h1
  have c2 : w.cell? ⟨o2, 0, none⟩ = some y2 := (cell_of_row w o2 0 _ _ (0, 0) h2).trans rfl
  have f2 := frozen_of_row w o2 0 _ _ h2
  have e0 := World.new_ne w _ c0
  have e1 := World.new_ne w _ c1
  have e2 := World.new_ne w _ c2
  have e3 := World.new_ne w _ hp
  have l0 := lt_of_blk hd
  have l3 : od < w.heap.size := World.block_lt_of_cell? w _ hp
  have l1 := lt_of_blk h1
  have l2 := lt_of_blk h2
  have hnot : ∀ (x : Bool) (W : World), (Op.unary .not (.bool x)).run Tryd.prog W = .ok (.bool (!x)) W := fun _ _ => rfl
  refine wpS_of_wp ?_
  rw [frame0]
  go_wp2
  cases c₀
  simp_all [bodyPostS, results, Tryd.results25]
end Pack
end Go.Proofs.YtkpdhnkiabgghaaDoor
