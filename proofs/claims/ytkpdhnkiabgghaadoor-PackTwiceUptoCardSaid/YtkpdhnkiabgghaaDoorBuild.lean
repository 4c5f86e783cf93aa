/- Layer 5: a strings.Builder: copyCheck, WriteString, String. (The walks of copyCheck and WriteString are the library's Shelf.Strings.Builder1, turned to this program's bodies.) -/
import Derived.Test.YtkpdhnkiabgghaaDoorFind2
import Derived.Test.YtkpdhnkiabgghaaDoorShelf
import Derived.Lib.AppendStr
namespace Go.Proofs.YtkpdhnkiabgghaaDoor
open Go.RowKit Go.Shelf
/-- A builder in a block of its own (from B on) that holds the bytes l; v: its buffer. -/
structure Bld (B b : Nat) (v : Value) (l : List UInt8) (w : World) : Prop where
  le : B ≤ b
  blk : ∃ p, (p = .pointer none ∨ p = .pointer (some ⟨b, 0, none⟩)) ∧ w.heap[b]? = some (.cells #[p, v] 57 (0, 0))
  own : w.ownsRow B 5 1 v l.length (Lib.byteCells l)
theorem Bld.ne {B b : Nat} {v : Value} {l : List UInt8} {w : World} (h : Bld B b v l w) : v.ownBlock ≠ some b := by
  obtain ⟨p, _, hb⟩ := h.blk
  exact Lib.ownBlock_ne h.own hb (by decide)
theorem Bld.apart {B b : Nat} {v : Value} {l : List UInt8} {w : World} (h : Bld B b v l w) {k : Nat} {cs : Array Value} {t : TypeId} {fr : Nat × Nat} (hk : w.heap[k]? = some (.cells cs t fr)) (ht : t ≠ 5) : v.ownBlock ≠ some k := Lib.ownBlock_ne h.own hk ht
theorem Bld.isB {B b : Nat} {v : Value} {l : List UInt8} {w : World} (h : Bld B b v l w) : Lib.IsBuilder 57 5 B b (Lib.byteCells l) w := by
  obtain ⟨p, hp, hb⟩ := h.blk
  have hown := h.own
  rw [← Lib.byteCells_length l] at hown
  rcases hp with rfl | rfl
  · exact .inl ⟨h.le, v, hb, hown, h.ne⟩
  · exact .inr ⟨h.le, v, hb, hown, h.ne⟩
theorem Bld.lt {B b : Nat} {v : Value} {l : List UInt8} {w : World} (h : Bld B b v l w) : b < w.heap.size := by
  obtain ⟨p, _, hb⟩ := h.blk
  exact lt_of_blk hb
theorem Bld.new (w : World) : Bld w.heap.size w.heap.size (.slice none 0 0) [] (w.alloc (.cells #[.pointer none, .slice none 0 0] 57)) :=
  ⟨Nat.le_refl _, ⟨_, .inl rfl, heap_alloc_new w _⟩, World.ownsRow_nil _ _ _ _⟩
theorem Bld.mod {B b : Nat} {v : Value} {l : List UInt8} {w w' : World} {S : Nat → Prop} (h : Bld B b v l w) (hm : Mod S w w') (hb : ¬ S b) (hv : ∀ k, v.ownBlock = some k → ¬ S k) : Bld B b v l w' := by
  refine ⟨h.le, h.blk.elim fun p hp => ⟨p, hp.1, hm.blk hp.2 hb⟩, ?_⟩
  refine ⟨h.own.1, ?_⟩
  rcases h.own.2 with hn | ⟨g, cap, cur, rfl, hg, hh, r⟩
  · exact .inl hn
  · exact .inr ⟨g, cap, cur, rfl, hg, hm.blk hh (hv g rfl), r⟩
theorem Bld.ge {B b : Nat} {v : Value} {l : List UInt8} {w : World} (h : Bld B b v l w) : ∀ k, v.ownBlock = some k → B ≤ k := fun k hk => (h.own.lt k hk).1
theorem Bld.below {B b : Nat} {v : Value} {l : List UInt8} {w w' : World} (h : Bld B b v l w) (hb : Below w.heap.size w w') : Bld B b v l w' := h.mod (S := fun _ => False) (Mod.ofBelow hb) (fun h => h) (fun _ _ h => h)
theorem lies_builder : liesAt Tryd.prog Tryd.prog.depth 57 (2 / Tryd.prog.cellsOf 57) 0 57 1 = true := by kernel_rfl
theorem info_builder : (Tryd.prog.info? 57).map (·.size) = some 2 := by kernel_rfl
set_option maxRecDepth 100000 in
set_option maxHeartbeats 2000000 in
theorem copyCheck_any (B b : Nat) (v : Value) (l : List UInt8) (w : World) (h : Bld B b v l w) :
    Calls Tryd.prog 50 #[.pointer (some ⟨b, 0, none⟩)] w fun e w' => e = .returned (.tuple #[]) ∧ w'.heap[b]? = some (.cells #[.pointer (some ⟨b, 0, none⟩), v] 57 (0, 0)) ∧ w'.ownsRow B 5 1 v l.length (Lib.byteCells l) ∧ Mod (fun k => k = b) w w' := by
  obtain ⟨j, hj, hjs⟩ := Option.map_eq_some_iff.1 info_builder
  obtain ⟨p, hp, hb⟩ := h.blk
  have c0 : w.cell? ⟨b, 0, none⟩ = some p := (cell_of_row w b 0 _ _ (0, 0) hb).trans rfl
  have f0 := frozen_of_row w b 0 _ _ hb
  have hsh : w.shape? b = some (57, 2) := by simp [World.shape?, hb]
  rcases hp with rfl | rfl
  · go_enter Tryd.func50, Tryd.ntmps50
    go_wp2
    rw [Lib.run_to_unsafe w ⟨b, 0, none⟩ Tryd.underlying54 Tryd.underlying115 hj (by rw [hjs]; decide) hsh (Nat.zero_lt_succ 1)]
    simp only [Result.andThen]
    rw [Oper.upon_value]
    go_wp2
    rw [run_callFunc_extern Tryd.func57 (by kernel_rfl) (by kernel_rfl) (by kernel_rfl) (e := Extern.AbiNoEscape.same) (by kernel_rfl)]
    rw [Lib.run_noEscape]
    simp only [Result.andThen]
    rw [Oper.upon_value]
    go_wp2
    rw [Lib.run_from_unsafe w ⟨b, 0, none⟩ Tryd.underlying115 Tryd.underlying54 hj hsh lies_builder]
    simp only [Result.andThen]
    rw [Oper.upon_value]
    go_wp2
    go_end0
    refine ⟨rfl, heap_setCell_same w b 0 _ _ _ hb, ?_, (Mod.refl (fun k => k = b) w).setCell (p := ⟨b, 0, none⟩) (fun _ => rfl) _⟩
    exact h.own.kept (row := some b) ⟨rfl, rfl, rfl, by simp [World.setCell], fun k _ hk => Below.heap_setCell _ _ _ _ (fun e => hk (by simp [e]))⟩ (Or.inr h.ne)
  · go_enter Tryd.func50, Tryd.ntmps50
    go_wp2
    rw [Lib.run_neq_ptr_same w _ Tryd.underlying54 hj]
    go_wp2
    go_end0
    exact ⟨rfl, hb, h.own, Mod.refl _ _⟩
theorem info_byte : (Tryd.prog.info? 5).map (fun i => (i.zero, i.size, i.bytes)) = some (some (.int .u8 0), 1, 1) := by kernel_rfl
set_option maxRecDepth 100000 in
set_option maxHeartbeats 2000000 in
theorem write_any (B b : Nat) (v : Value) (l : List UInt8) (s : ByteArray) (w : World) (h : Bld B b v l w) (hB : B ≤ w.heap.size) (hlen : l.length + s.size ≤ 140737488355328) :
    Calls Tryd.prog 38 #[.pointer (some ⟨b, 0, none⟩), .string s] w fun e w' => e = .returned (.tuple #[.int .i64 s.size, .nilIface]) ∧ ∃ v', Bld B b v' (l ++ s.data.toList) w' ∧ Mod (fun k => k = b ∨ v.ownBlock = some k) w w' := by
  obtain ⟨i0, hi, hz0, hz1, hz2⟩ := info_parts info_byte
  have hne := h.ne
  have hle := h.le
  go_enter Tryd.func38, Tryd.ntmps38
  go_wp2_with (go_at_call 50; refine (copyCheck_any B b v l w h).mono ?_)
  rintro e w1 ⟨rfl, hb1, hown1, hM1⟩
  have c1 : w1.cell? ⟨b, 1, none⟩ = some v := (cell_of_row w1 b 1 _ _ (0, 0) hb1).trans rfl
  have hs1 := hM1.size
  go_wp2_with (at_builtin; refine Lib.wpList_append_own_string _ rfl _ _ 55 9 rfl B 5 i0 Tryd.underlying55 Tryd.underlying9 hi hz0 hz1 hz2 _ _ _ rfl hown1 s rfl ?c3 ?c4 ?c5 ?_)
  case c3 => unfold maxLen; omega
  case c4 => omega
  case c5 => omega
  intro v' w2 hown' hgrow _
  have hb2 : w2.heap[b]? = some (.cells #[.pointer (some ⟨b, 0, none⟩), v] 57 (0, 0)) := (hgrow.block b (lt_of_blk hb1) (fun e => hne e.symm)).trans hb1
  have d1 : w2.cell? ⟨b, 1, none⟩ = some v := (cell_of_row w2 b 1 _ _ (0, 0) hb2).trans rfl
  have f1 : w2.frozen? ⟨b, 1, none⟩ = false := frozen_of_row w2 b 1 _ _ hb2
  obtain ⟨ao, n', cap, rfl⟩ : ∃ ao n' cap, v' = .slice ao n' cap := by
    rcases hown'.2 with ⟨hv, _⟩ | ⟨g, cap, cur, hv, _⟩
    · exact ⟨_, _, _, hv⟩
    · exact ⟨_, _, _, hv⟩
  go_wp2
  go_ret2
  have hne2 := Lib.ownBlock_ne hown' hb2 (by decide)
  refine ⟨rfl, _, ⟨hle, ⟨_, .inr rfl, heap_setCell_same w2 b 1 _ _ _ hb2⟩, ?_⟩, ?_⟩
  · have : (l ++ s.data.toList).length = l.length + s.size := by rw [List.length_append, Array.length_toList]; rfl
    rw [this, Lib.byteCells_append]
    exact hown'.kept (row := some b) ⟨rfl, rfl, rfl, by simp [World.setCell], fun k _ hk => Below.heap_setCell _ _ _ _ (fun e => hk (by simp [e]))⟩ (Or.inr hne2)
  · exact ((hM1.mono (T := fun k => k = b ∨ v.ownBlock = some k) (fun _ _ h => .inl h)).grown hgrow (fun k hk _ => .inr hk)).setCell (fun _ => .inl rfl) _
theorem string_any (B b : Nat) (v : Value) (l : List UInt8) (w : World) (h : Bld B b v l w) (hB : B ≤ w.heap.size) :
    Calls Tryd.prog 24 #[.pointer (some ⟨b, 0, none⟩)] w fun e w' => e = .returned (.string ⟨l.toArray⟩) ∧ Below B w w' ∧ Lib.OthersKept 5 (some b) w w' :=
  (Any.Builder_String_any_k Tryd.lays169 Tryd.Builder_Extra_169 B b l w (Lib.IsBuilderF.of h.isB) hB).mono fun _ _ h => ⟨h.1, h.2.2.1, h.2.2.2⟩
theorem others_cells {b : Nat} {w w' : World} (h : Lib.OthersKept 5 (some b) w w') {k : Nat} {cs : Array Value} {t : TypeId} {fr : Nat × Nat} (hk : w.heap[k]? = some (.cells cs t fr)) (hb : k ≠ b) (ht : t ≠ 5) : w'.heap[k]? = some (.cells cs t fr) :=
  h k _ hk (fun e => hb (Option.some.inj e)) (fun c fz e => by cases e; exact ht rfl)
end Go.Proofs.YtkpdhnkiabgghaaDoor
