/- A range over a function value with arguments bound to it ('range t.all'): the caller's law, over worlds in which what lay below n₀, and whatever is cells, stays. (Beside the library's Derived/RangeFuncNested, whose laws want a value with nothing bound.) -/
import Derived.Test.YtkpdhnkiabgghaaDoorTabC
import Derived.RangeFuncNested
import Derived.RangeFuncLeaves
import Derived.Shelf.Abstract
import Derived.OwnWalkIn
import Derived.TacticsInMore
import Derived.LoopNIn
import Derived.LoopIn
namespace Go.Proofs.YtkpdhnkiabgghaaDoor
open Go.RowKit Go.Shelf
/-- What lay below n stays; whatever is cells stays. -/
structure Ext (n : Nat) (A B : World) : Prop where
  below : Below n A B
  cells : ∀ (k : Nat) (o : Obj), A.heap[k]? = some o → o.isCells = true → B.heap[k]? = some o
theorem Ext.refl (n : Nat) (A : World) : Ext n A A := ⟨Below.refl _ _, fun _ _ h _ => h⟩
theorem Ext.trans {n : Nat} {A B C : World} (h : Ext n A B) (k : Ext n B C) : Ext n A C := ⟨h.below.trans k.below, fun i o hi hc => k.cells i o (h.cells i o hi hc) hc⟩
theorem Ext.ofBelow {n : Nat} {A B : World} (hn : n ≤ A.heap.size) (h : Below A.heap.size A B) : Ext n A B := ⟨h.mono hn, fun k _ hk _ => (h.block k (lt_of_blk hk)).trans hk⟩
theorem Ext.put {n : Nat} {A : World} {l : Nat} {o o' : Obj} (hn : n ≤ l) (hl : A.heap[l]? = some o) (ho : o.isCells = false) : Ext n A (A.putObj l o') :=
  ⟨(Below.refl n A).grown (grownBy_putObj' A l o') (Nat.le_trans hn (Nat.le_of_lt (lt_of_blk hl))) (fun k e => by cases e; exact hn), fun k o2 hk hc => (World.putObj_heap_other (fun e => by rw [e, hl] at hk; cases hk; rw [ho] at hc; cases hc)).trans hk⟩
theorem Ext.blk {n : Nat} {A B : World} (h : Ext n A B) {k : Nat} {cs : Array Value} {t : TypeId} {fr : Nat × Nat} (hk : A.heap[k]? = some (.cells cs t fr)) : B.heap[k]? = some (.cells cs t fr) := h.cells k _ hk rfl
section
variable {α : Type} {P : Program}
/-- The iterator's contract: whatever the rounds keep (J, closed under new blocks), it hands over xs in their order, or a beginning of it, where a round has said 'no more'. -/
def SeqB (n : Nat) (P : Program) (g : Nat) (bd : Array Value) (encs : α → Array Value) (n₀ : Nat) (xs : List α) (w : World) : Prop :=
  ∀ (l : Nat) (J Jx : List α → World → Prop) (W : World), Below n₀ w W → (∀ s A B, J s A → Below A.heap.size A B → J s B) → (∀ s A B, Jx s A → Below A.heap.size A B → Jx s B) →
    (∀ pre x W1, J pre W1 → YieldAt Fence.wide (n - 1) P l (encs x) W1 fun e W' => (e = .returned (.bool true) ∧ J (pre ++ [x]) W' ∧ Below n₀ W1 W') ∨ (e = .returned (.bool false) ∧ Jx (pre ++ [x]) W')) →
    J [] W →
    CallsIn Fence.wide n P g (bd ++ #[.func (.yield l) #[] #[]]) W fun e W' => (∃ v, e = .returned v) ∧ (J xs W' ∨ ∃ pre, pre <+: xs ∧ Jx pre W')
/-- How a round may be left. -/
def roundP (n₀ : Nat) (I : List α → World → Prop) (Ix : Code → List α → World → Prop) (xs : List α) (W : World) : Exit → Act → World → Prop
  | .normal, _, W' => KeepsOthers W W' ∧ Below n₀ W W' ∧ I xs W'
  | .ret, _, W' => KeepsOthers W W' ∧ Ix .ret xs W'
  | _, _, _ => False
theorem wpIn_range_bound {n : Nat} {g : Operand} {ps : Array Tmp} {assign body : Code} {Q : Exit → Act → World → Prop} {a : Act} {w : World}
    {gf : Nat} {bd : Array Value} (hg : a.eval g = .func (.func gf) bd #[]) (eg : ∀ args w, (callFunc gf args).run P w = .ok (.enter gf args) w)
    {encs : α → Array Value} {n₀ : Nat} (hn₀ : n₀ ≤ w.heap.size) {xs : List α} (hseq : SeqB (n - 1) P gf bd encs n₀ xs w) (hps : ∀ x, (encs x).size = ps.size)
    (I : List α → World → Prop) (Ix : Code → List α → World → Prop) (hI : ∀ s A B, I s A → Ext n₀ A B → I s B) (hIx : ∀ c s A B, Ix c s A → Ext n₀ A B → Ix c s B) (h0 : I [] w)
    (Ax : α → Act → World → Prop) (hAx : ∀ x a' A B, Ax x a' A → Ext n₀ A B → Ax x a' B)
    (hassign : ∀ (l : Nat) (pre : List α) (x : α) (W : World) (K : Act → World → Prop), I pre W → (∀ a' W', KeepsOthers W W' → Below n₀ W W' → I pre W' → Ax x a' W' → K a' W') →
      assign.wpIn (Fence.wide.inRound l) (n - 1 - 1) P (Exit.then K (fun _ _ _ => False)) { tmps := (ps.zip (encs x)).foldl (fun t (p, v) => t.setIfInBounds p v) a.tmps, defers := [] } W)
    (hbody : ∀ (l : Nat) (pre : List α) (x : α) (a' : Act) (W : World), I pre W → Ax x a' W → body.wpIn (Fence.wide.inRound l) (n - 1 - 1) P (roundP n₀ I Ix (pre ++ [x]) W) a' W)
    (hdone : ∀ (D : Nat) (W : World), w.heap.size ≤ D → I xs W → W.heap[D]? = some (.deferred (some [])) → Q .normal { a with defers := { target := .collected D, args := #[] } :: a.defers } W)
    (hstop : ∀ (D : Nat) (c : Code) (pre : List α) (W : World), w.heap.size ≤ D → pre <+: xs → Ix c pre W → W.heap[D]? = some (.deferred (some [])) → c.wpIn Fence.wide n P Q { a with defers := { target := .collected D, args := #[] } :: a.defers } W) :
    (Code.rangeFunc g ps assign body).wpIn Fence.wide n P Q a w := by
  refine wpIn_rangeFunc fun fn hfn => ?_
  obtain ⟨D, hD⟩ : ∃ D, D = w.heap.size := ⟨_, rfl⟩
  obtain ⟨R, hR⟩ : ∃ R : LoopState → Option Code → Loop, R = fun st pe => { state := st, pending := pe, fn, tmps := a.tmps, params := ps, assign, body, defers := w.heap.size } := ⟨_, rfl⟩
  have hRp : ∀ s p, (R s p).params = ps := fun s p => by rw [hR]
  have hRq : ∀ s p, (R s p).pending = p := fun s p => by rw [hR]
  have hRs : ∀ s p, (R s p).state = s := fun s p => by rw [hR]
  obtain ⟨W1, hW1⟩ : ∃ W1, (w.alloc (.deferred (some []))).alloc (.loop (R .ready none)) = W1 := ⟨_, rfl⟩
  have hb1 : Below w.heap.size w W1 := by rw [← hW1]; exact ((Below.refl _ w).alloc (Nat.le_refl _) _).alloc (by simp) _
  have hl1 : W1.heap[D + 1]? = some (.loop (R .ready none)) := by
    rw [← hW1, hD]; have := World.alloc_heap_new (w.alloc (.deferred (some []))) (.loop (R .ready none)); rwa [World.size_alloc] at this
  have hk1 : W1.heap[D]? = some (.deferred (some [])) := by
    rw [← hW1, hD]; exact (Below.heap_alloc _ _ _ (by simp)).trans (World.alloc_heap_new w _)
  refine ⟨D + 1, [{ target := .collected D, args := #[] }], W1, { target := .fn (.func gf) #[], args := bd ++ #[.func (.yield (D + 1)) #[] #[]] }, W1, gf, bd ++ #[.func (.yield (D + 1)) #[] #[]], W1, ?_, ?_, ?_, ?_, fun h => (by cases h), ?_⟩
  · rw [← hW1, hR, hD]; exact run_enterLoop_outer _ _ _ _ _
  · simp only [resolve, hg]
    simp [go_sem]
  · intro f' hf'; trivial
  · simp [invoke, go_sem, eg]
  · refine (hseq (D + 1) (fun pre W => I pre W ∧ W.heap[D + 1]? = some (.loop (R .ready none)) ∧ W.heap[D]? = some (.deferred (some [])) ∧ n₀ ≤ W.heap.size)
      (fun pre W => ∃ c, Ix c pre W ∧ W.heap[D + 1]? = some (.loop (R .done (some c))) ∧ W.heap[D]? = some (.deferred (some [])) ∧ n₀ ≤ W.heap.size) W1 (hb1.mono hn₀) ?_ ?_ ?_
      ⟨hI _ _ _ h0 (Ext.ofBelow hn₀ hb1), hl1, hk1, Nat.le_trans hn₀ hb1.size⟩).mono ?_
    · rintro s A B ⟨h1, h2, h3, h4⟩ hb
      exact ⟨hI _ _ _ h1 (Ext.ofBelow h4 hb), (hb.block _ (lt_of_blk h2)).trans h2, (hb.block _ (lt_of_blk h3)).trans h3, Nat.le_trans h4 hb.size⟩
    · rintro s A B ⟨c, h1, h2, h3, h4⟩ hb
      exact ⟨c, hIx _ _ _ _ h1 (Ext.ofBelow h4 hb), (hb.block _ (lt_of_blk h2)).trans h2, (hb.block _ (lt_of_blk h3)).trans h3, Nat.le_trans h4 hb.size⟩
    · rintro pre x W ⟨hi, hl, hk, hs⟩
      have hy := run_yield (P := P) (args := encs x) hl (by rw [hRp]; exact hps x)
      refine ⟨fn, _, assign, body, by rw [hR] at hy; rw [hy], roundIn_of_wpIn hfn (hassign _ pre x W _ hi fun a' Wa hka hba hia hax => ?_)⟩
      have hl2 := hka.same _ _ hl rfl
      have hk2 := hka.same _ _ hk rfl
      have hsa := hka.size
      have hle : n₀ ≤ D := by omega
      refine ⟨_, run_beginRound hl2 (by rw [hR]), ?_⟩
      obtain ⟨Wb, hWb⟩ : ∃ Wb, Wa.putObj (D + 1) (.loop { R .ready none with state := .busy }) = Wb := ⟨_, rfl⟩
      have hE : Ext n₀ Wa Wb := by rw [← hWb]; exact Ext.put (by omega) hl2 rfl
      have hl3 : Wb.heap[D + 1]? = some (.loop { R .ready none with state := .busy }) := by rw [← hWb]; exact World.putObj_heap_same (lt_of_blk hl2)
      have hk3 : Wb.heap[D]? = some (.deferred (some [])) := by rw [← hWb]; exact (World.putObj_heap_other (by omega)).trans hk2
      rw [hWb]
      refine wpIn_mono (hbody _ pre x a' Wb (hI _ _ _ hia hE) (hAx _ _ _ _ hax hE)) ?_
      have fin : ∀ (jump : Option Code) (W3 : World), KeepsOthers Wb W3 → (Instr.endRound (D + 1) jump).run P W3 = .ok (.bool jump.isNone) (W3.putObj (D + 1) (.loop (R (if jump.isNone then .ready else .done) jump))) ∧
          Ext n₀ W3 (W3.putObj (D + 1) (.loop (R (if jump.isNone then .ready else .done) jump))) ∧
          (W3.putObj (D + 1) (.loop (R (if jump.isNone then .ready else .done) jump))).heap[D + 1]? = some (.loop (R (if jump.isNone then .ready else .done) jump)) ∧
          (W3.putObj (D + 1) (.loop (R (if jump.isNone then .ready else .done) jump))).heap[D]? = some (.deferred (some [])) ∧ n₀ ≤ W3.heap.size := fun jump W3 hk4 => by
        have hl4 := hk4.same _ _ hl3 rfl
        have hr := run_endRound (P := P) jump hl4
        have hle2 := hk4.size
        have := lt_of_blk hl3
        refine ⟨by rw [hR] at hr ⊢; exact hr, Ext.put (by omega) hl4 rfl, World.putObj_heap_same (lt_of_blk hl4), (World.putObj_heap_other (by omega)).trans (hk4.same _ _ hk3 rfl), by omega⟩
      rintro e a3 W3 hp
      cases e with
      | normal =>
        obtain ⟨hk4, hb4, hi4⟩ := hp
        obtain ⟨hr, hE4, hl5, hk5, hs5⟩ := fin none W3 hk4
        exact ⟨_, _, hr, .inl ⟨rfl, ⟨hI _ _ _ hi4 hE4, hl5, hk5, by simpa using hs5⟩, ((hba.trans hE.below).trans hb4).trans hE4.below⟩⟩
      | ret =>
        obtain ⟨hk4, hi4⟩ := hp
        obtain ⟨hr, hE4, hl5, hk5, hs5⟩ := fin (some .ret) W3 hk4
        exact ⟨_, _, hr, .inr ⟨rfl, .ret, hIx _ _ _ _ hi4 hE4, hl5, hk5, by simpa using hs5⟩⟩
      | exit id => exact hp.elim
      | goto t => exact hp.elim
      | panic ch => exact hp.elim
      | outgrown => exact hp.elim
    · rintro e W2 ⟨⟨v, rfl⟩, (⟨hi, hl, hk, _⟩ | ⟨pre, hpre, c, hi, hl, hk, _⟩)⟩
      · have hr := run_endLoop (P := P) hl (by rw [hRs]; simp)
        rw [hRq] at hr
        exact ⟨none, _, hr, hdone D _ (by omega) (hI _ _ _ hi (Ext.put (by omega) hl rfl)) ((World.putObj_heap_other (by omega)).trans hk)⟩
      · have hr := run_endLoop (P := P) hl (by rw [hRs]; simp)
        rw [hRq] at hr
        exact ⟨some c, _, hr, hstop D c pre _ (by omega) hpre (hIx _ _ _ _ hi (Ext.put (by omega) hl rfl)) ((World.putObj_heap_other (by omega)).trans hk)⟩
end
end Go.Proofs.YtkpdhnkiabgghaaDoor
