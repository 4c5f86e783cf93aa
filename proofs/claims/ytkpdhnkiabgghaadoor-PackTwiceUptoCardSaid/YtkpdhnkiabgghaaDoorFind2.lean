/- Layer 4, table: Find. -/
import Derived.Test.YtkpdhnkiabgghaaDoorFind
namespace Go.Proofs.YtkpdhnkiabgghaaDoor
open Go.RowKit Go.Shelf
attribute [local go_sem] Oper.semAt_some
namespace Table
theorem bytes_beq (a b : ByteArray) : (a.toList == b.toList) = decide (a = b) := by
  rw [toList_data, toList_data, Bool.eq_iff_iff, beq_iff_eq, decide_eq_true_eq, Array.toList_inj]
  constructor
  · intro h; exact ByteArray.ext h
  · intro h; rw [h]
/-- The least index of the field itself, or of one with its name. -/
def findGo (n s : ByteArray) : List (Nat × Ent) → Nat → Nat × Bool
  | [], nm => (nm, false)
  | x :: l, nm => if x.2.1 = n then (if x.2.2 = s then (x.1, true) else if nm = 0 then findGo n s l x.1 else findGo n s l nm) else findGo n s l nm
def findL (es : List Ent) (n s : ByteArray) : Nat × Bool := findGo n s (allL es) 0
def box (W : World) (B : Nat) (t : TypeId) (v : Value) : Prop := W.heap[B]? = some (.cells #[v] t (0, 0))
theorem box.cell {W : World} {B : Nat} {t : TypeId} {v : Value} (h : box W B t v) : W.cell? ⟨B, 0, none⟩ = some v := (cell_of_row W B 0 _ t (0, 0) h).trans rfl
theorem box.free {W : World} {B : Nat} {t : TypeId} {v : Value} (h : box W B t v) : W.frozen? ⟨B, 0, none⟩ = false := frozen_of_row W B 0 _ t h
theorem box.set {W : World} {B : Nat} {t : TypeId} {v : Value} (h : box W B t v) (u : Value) : box (W.setCell ⟨B, 0, none⟩ u) B t u := heap_setCell_same W B 0 _ t u h
theorem box.far {W : World} {B B' : Nat} {t : TypeId} {v : Value} (h : box W B t v) (hne : B ≠ B') (u : Value) : box (W.setCell ⟨B', 0, none⟩ u) B t v := (heap_setCell_other W ⟨B', 0, none⟩ B u hne).trans h
theorem box.alloc {W : World} {B : Nat} {t : TypeId} {v : Value} (h : box W B t v) (o : Obj) : box (W.alloc o) B t v := (heap_alloc_old W o (lt_of_blk h)).trans h
theorem box.new (W : World) (t : TypeId) (v : Value) : box (W.alloc (.cells #[v] t)) W.heap.size t v := heap_alloc_new W _
theorem box.ext {n : Nat} {W W' : World} {B : Nat} {t : TypeId} {v : Value} (h : box W B t v) (hb : Ext n W W') : box W' B t v := hb.blk h
theorem box.lt {W : World} {B : Nat} {t : TypeId} {v : Value} (h : box W B t v) : B < W.heap.size := lt_of_blk h
theorem results_cells2 {fn : Func} {a b : Tmp} {ta tb : TypeId} (h : fn.results = #[.cell a ta, .cell b tb]) (tmps : Array Value) (P : Program) (w : World) (p q : Addr) (x y : Value) (hp : tmps.getD a undef = .pointer (some p)) (hq : tmps.getD b undef = .pointer (some q))
    (hx : (loadVar ta p).run P w = .ok x w) (hy : (loadVar tb q).run P w = .ok y w) : (results fn tmps).run P w = .ok (.tuple #[x, y]) w := by
  rw [Array.getD_eq_getD_getElem?] at hp hq
  simp [results, h, hp, hq, asAddr, Sem.run_bind, hx, hy, Result.andThen]
theorem load_one {P : Program} {t : TypeId} {d : TypeDesc} (hu : P.underlying t = some d) (hd : (match d with | .struct _ | .array _ _ => true | _ => false) = false) (w : World) (p : Addr) (x : Value) (h : w.cell? p = some x) : (loadVar t p).run P w = .ok x w := by
  simp [go_sem, loadVar, Sem.run_bind, run_isAgg_plain hu hd, h]
structure FindI (n s : ByteArray) (w : World) (pre : List (Nat × Ent)) (W : World) : Prop where
  b0 : box W w.heap.size 9 (.string n)
  b1 : box W (w.heap.size + 1) 9 (.string s)
  b2 : box W (w.heap.size + 1 + 1) 3 (.int .i64 0)
  b3 : box W (w.heap.size + 1 + 1 + 1) 4 (.bool false)
  b4 : ∃ nm : Nat, box W (w.heap.size + 1 + 1 + 1 + 1) 3 (.int .i64 nm) ∧ ∀ rest, findGo n s (pre ++ rest) 0 = findGo n s rest nm
  be : Below w.heap.size w W
structure FindX (n s : ByteArray) (w : World) (c : Code) (pre : List (Nat × Ent)) (W : World) : Prop where
  isRet : c = .ret
  b2 : ∃ i : Nat, box W (w.heap.size + 1 + 1) 3 (.int .i64 i) ∧ ∀ rest, findGo n s (pre ++ rest) 0 = (i, true)
  b3 : box W (w.heap.size + 1 + 1 + 1) 4 (.bool true)
  be : Below w.heap.size w W
def findA (g : Nat) (n s : ByteArray) (w : World) (x : Nat × Ent) (a : Act) (W : World) : Prop :=
  ∃ Bx, w.heap.size + 1 + 1 + 1 + 1 < Bx ∧ W.heap[Bx]? = some (.cells #[.string x.2.1, .string x.2.2] 69 (0, 0)) ∧ a =
  { tmps := #[.pointer (some ⟨g, 0, none⟩), .string n, .string s, undef,
    .pointer (some ⟨w.heap.size, 0, none⟩), .pointer (some ⟨w.heap.size + 1, 0, none⟩), .pointer (some ⟨w.heap.size + 1 + 1, 0, none⟩), .pointer (some ⟨w.heap.size + 1 + 1 + 1, 0, none⟩), .pointer (some ⟨w.heap.size + 1 + 1 + 1 + 1, 0, none⟩),
    .int .i64 x.1, .pointer (some ⟨Bx, 0, none⟩), .pointer (some ⟨g, 0, none⟩), .func (.func 47) #[.pointer (some ⟨g, 0, none⟩)] #[], .int .i64 x.1, .agg #[.string x.2.1, .string x.2.2],
    undef, undef, undef, undef, undef, undef, undef, undef, undef, undef, undef, undef, undef, undef, undef, undef], defers := [] }
set_option maxRecDepth 100000 in
set_option maxHeartbeats 4000000 in
theorem find_any (g : Nat) (v : Value) (mx : Nat) (es : List Ent) (n s : ByteArray) (w : World) (h : IsTab w g v mx es) :
    Calls Tryd.prog 35 #[.pointer (some ⟨g, 0, none⟩), .string n, .string s] w fun e w' => e = .returned (.tuple #[.int .i64 ((findL es n s).1 : Nat), .bool (findL es n s).2]) ∧ Below w.heap.size w w' := by
  have hgl := lt_of_blk h.blk
  have hvl := h.own.lt
  refine (callsIn_wide (n := 5)).1 ?_
  refine callsIn_of_wp_marks Tryd.func35 rfl trivial ?_ rfl
  simp only [Tryd.ntmps35, List.size_toArray, List.length_cons, List.length_nil, Nat.reduceAdd, Nat.reduceSub, Array.replicate_succ, Array.replicate_zero, List.push_toArray, List.append_toArray, List.nil_append, List.cons_append]
  gi_wp2_with fail
  obtain ⟨N, hN⟩ : ∃ N, N = w.heap.size := ⟨_, rfl⟩
  have I0 : FindI n s w [] (((((w.alloc (.cells #[.string n] 9)).alloc (.cells #[.string s] 9)).alloc (.cells #[.int .i64 0] 3)).alloc (.cells #[.bool false] 4)).alloc (.cells #[.int .i64 0] 3)) := by
    have e0 := box.new w 9 (.string n)
    have e1 := box.new (w.alloc (.cells #[.string n] 9)) 9 (.string s)
    have e2 := box.new ((w.alloc (.cells #[.string n] 9)).alloc (.cells #[.string s] 9)) 3 (.int .i64 0)
    have e3 := box.new (((w.alloc (.cells #[.string n] 9)).alloc (.cells #[.string s] 9)).alloc (.cells #[.int .i64 0] 3)) 4 (.bool false)
    have e4 := box.new ((((w.alloc (.cells #[.string n] 9)).alloc (.cells #[.string s] 9)).alloc (.cells #[.int .i64 0] 3)).alloc (.cells #[.bool false] 4)) 3 (.int .i64 0)
    simp only [World.size_alloc] at e1 e2 e3 e4
    exact ⟨(((e0.alloc _).alloc _).alloc _).alloc _, ((e1.alloc _).alloc _).alloc _, (e2.alloc _).alloc _, e3.alloc _, ⟨0, e4, fun _ => rfl⟩,
      (((((Below.refl _ w).alloc (Nat.le_refl _) _).alloc (by simp) _).alloc (by simp; omega) _).alloc (by simp; omega) _).alloc (by simp; omega) _⟩
  have hsz : (((((w.alloc (.cells #[.string n] 9)).alloc (.cells #[.string s] 9)).alloc (.cells #[.int .i64 0] 3)).alloc (.cells #[.bool false] 4)).alloc (.cells #[.int .i64 0] 3)).heap.size = w.heap.size + 1 + 1 + 1 + 1 + 1 := by simp
  generalize ((((w.alloc (.cells #[.string n] 9)).alloc (.cells #[.string s] 9)).alloc (.cells #[.int .i64 0] 3)).alloc (.cells #[.bool false] 4)).alloc (.cells #[.int .i64 0] 3) = W0 at I0 hsz
  refine wpIn_range_bound (gf := 47) (bd := #[.pointer (some ⟨g, 0, none⟩)]) rfl (enters_of Tryd.func47 (by kernel_rfl) rfl) (n₀ := w.heap.size) (by omega)
    (all_seq 4 g w.heap.size v mx es W0 (h.below I0.be) (by omega) hgl hvl) (fun _ => rfl) (FindI n s w) (FindX n s w)
    (fun pre A B hI hE => ⟨hI.b0.ext hE, hI.b1.ext hE, hI.b2.ext hE, hI.b3.ext hE, hI.b4.elim fun nm hm => ⟨nm, hm.1.ext hE, hm.2⟩, hI.be.trans hE.below⟩)
    (fun c pre A B hI hE => ⟨hI.isRet, hI.b2.elim fun i hi => ⟨i, hi.1.ext hE, hi.2⟩, hI.b3.ext hE, hI.be.trans hE.below⟩) I0
    (findA g n s w) (fun x a' A B hA hE => by obtain ⟨Bx, h1, h2, h3⟩ := hA; exact ⟨Bx, h1, hE.blk h2, h3⟩) ?assign ?body ?done ?stop
  case assign =>
    rintro l pre ⟨i, e1, e2⟩ W K hI hK
    have b0 := hI.b0
    have b1 := hI.b1
    have b2 := hI.b2
    have b3 := hI.b3
    obtain ⟨nm, b4, hf⟩ := hI.b4
    have hs4 := b4.lt
    have hbe := hI.be
    unfold encE
    gi_wp2
    exact hK _ _ (KeepsOthers.alloc _ _) ((Below.refl _ W).alloc hbe.size _) ⟨b0.alloc _, b1.alloc _, b2.alloc _, b3.alloc _, ⟨nm, b4.alloc _, hf⟩, hbe.alloc hbe.size _⟩ ⟨W.heap.size, hs4, heap_alloc_new _ _, rfl⟩
  case body =>
    rintro l pre ⟨i, e1, e2⟩ a' W hI ⟨Bx, hBx, hx, rfl⟩
    have b0 := hI.b0
    have b1 := hI.b1
    have b2 := hI.b2
    have b3 := hI.b3
    have hbe := hI.be
    obtain ⟨nm, b4, hf⟩ := hI.b4
    have c0 := b0.cell
    have c1 := b1.cell
    have c2 := b2.cell
    have c3 := b3.cell
    have c4 := b4.cell
    have f2 := b2.free
    have f3 := b3.free
    have f4 := b4.free
    have x0 := (cell_of_row W Bx 0 _ _ _ hx).trans rfl
    have x1 := (cell_of_row W Bx 1 _ _ _ hx).trans rfl
    by_cases h1 : e1 = n
    · have d1 : (e1.toList == n.toList) = true := by rw [bytes_beq]; simpa using h1
      by_cases h2 : e2 = s
      · have d2 : (e2.toList == s.toList) = true := by rw [bytes_beq]; simpa using h2
        gi_wp2
        have k2 := (b2.set (.int .i64 (i : Nat))).far (B' := w.heap.size + 1 + 1 + 1) (by omega) (.bool true)
        have k3 := (b3.far (B' := w.heap.size + 1 + 1) (by omega) (.int .i64 (i : Nat))).set (.bool true)
        exact ⟨(KeepsOthers.setCell _ _ _).trans (KeepsOthers.setCell _ _ _), rfl, ⟨i, k2, fun rest => by rw [List.append_assoc, hf]; simp [findGo, *]⟩, k3, (hbe.setCell (by simp; omega) _).setCell (by simp; omega) _⟩
      · have d2 : (e2.toList == s.toList) = false := by rw [bytes_beq]; simpa using h2
        by_cases h3 : nm = 0
        · subst h3
          gi_wp2
          exact ⟨KeepsOthers.setCell _ _ _, (Below.refl _ _).setCell (by simp; omega) _, b0.far (by omega) _, b1.far (by omega) _, b2.far (by omega) _, b3.far (by omega) _, ⟨i, b4.set _, fun rest => by rw [List.append_assoc, hf]; simp [findGo, *]⟩, hbe.setCell (by simp; omega) _⟩
        · have h4 : ((nm : Nat) : Int) ≠ 0 := by omega
          gi_wp2
          exact ⟨KeepsOthers.refl _, Below.refl _ _, b0, b1, b2, b3, ⟨nm, b4, fun rest => by rw [List.append_assoc, hf]; simp [findGo, *]⟩, hbe⟩
    · have d1 : (e1.toList == n.toList) = false := by rw [bytes_beq]; simpa using h1
      gi_wp2
      exact ⟨KeepsOthers.refl _, Below.refl _ _, b0, b1, b2, b3, ⟨nm, b4, fun rest => by rw [List.append_assoc, hf]; simp [findGo, *]⟩, hbe⟩
  case done =>
    rintro D W hD hI hK
    have b2 := hI.b2
    have b3 := hI.b3
    have hbe := hI.be
    obtain ⟨nm, b4, hf⟩ := hI.b4
    have c2 := b2.cell
    have c3 := b3.cell
    have c4 := b4.cell
    have f2 := b2.free
    have f3 := b3.free
    gi_wp2
    refine ⟨by simp, .inl ⟨_, _, rfl, run_takeDeferred ((KeepsOthers.setCell _ _ _).same D _ ((KeepsOthers.setCell _ _ _).same D _ hK rfl) rfl), ?_⟩⟩
    have k2 := (b2.set (.int .i64 (nm : Nat))).far (B' := w.heap.size + 1 + 1 + 1) (by omega) (.bool false)
    have k3 := (b3.far (B' := w.heap.size + 1 + 1) (by omega) (.int .i64 (nm : Nat))).set (.bool false)
    have k5 := hbe.setCell (p := ⟨w.heap.size + 1 + 1, 0, none⟩) (by simp; omega) (.int .i64 (nm : Nat))
    have k6 := k5.setCell (p := ⟨w.heap.size + 1 + 1 + 1, 0, none⟩) (by simp; omega) (.bool false)
    have hKK := (KeepsOthers.setCell _ ⟨w.heap.size + 1 + 1 + 1, 0, none⟩ (.bool false)).same D _ ((KeepsOthers.setCell W ⟨w.heap.size + 1 + 1, 0, none⟩ (.int .i64 (nm : Nat))).same D _ hK rfl) rfl
    have hE := Ext.put (o' := .deferred none) (Nat.le_trans (by omega : w.heap.size ≤ W0.heap.size) hD) hKK rfl
    refine ⟨_, results_cells2 rfl _ _ _ ⟨w.heap.size + 1 + 1, 0, none⟩ ⟨w.heap.size + 1 + 1 + 1, 0, none⟩ _ _ rfl rfl (load_one Tryd.underlying3 rfl _ _ _ (k2.ext hE).cell) (load_one Tryd.underlying4 rfl _ _ _ (k3.ext hE).cell), ?_, k6.trans hE.below⟩
    have := hf []
    rw [List.append_nil] at this
    rw [findL, this]; rfl
  case stop =>
    rintro D c pre W hD ⟨t, ht⟩ hX hK
    obtain rfl := hX.isRet
    obtain ⟨i, b2, hf⟩ := hX.b2
    gi_wp2
    refine ⟨by simp, .inl ⟨_, _, rfl, run_takeDeferred hK, ?_⟩⟩
    have hE := Ext.put (o' := .deferred none) (Nat.le_trans (by omega : w.heap.size ≤ W0.heap.size) hD) hK rfl
    refine ⟨_, results_cells2 rfl _ _ _ ⟨w.heap.size + 1 + 1, 0, none⟩ ⟨w.heap.size + 1 + 1 + 1, 0, none⟩ _ _ rfl rfl (load_one Tryd.underlying3 rfl _ _ _ (b2.ext hE).cell) (load_one Tryd.underlying4 rfl _ _ _ (hX.b3.ext hE).cell), ?_, hX.be.trans hE.below⟩
    have := hf t
    rw [ht] at this
    rw [findL, this]
end Table
end Go.Proofs.YtkpdhnkiabgghaaDoor
