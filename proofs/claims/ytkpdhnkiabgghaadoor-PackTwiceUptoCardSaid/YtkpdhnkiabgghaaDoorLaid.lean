/- What the row lists of the package-level variables gives the walks; a world in which all of it is laid. -/
import Derived.Test.YtkpdhnkiabgghaaDoorRows
import Derived.Test.YtkpdhnkiabgghaaDoorHuffT
import Derived.ProofKit
import Derived.OpenShut
import Derived.Deep.DeepHandedRow
import Derived.Deep.DeepWitnessRowRef
import Derived.Lib.LaidTab
import Derived.Lib.LaidU8
namespace Go.Proofs.YtkpdhnkiabgghaaDoor
open Go.RowKit Go.Lib
section
open Go.WideShapes Go.ChangeShapes
variable {H : Type} {enc : TypeId × Value → H} {P : Program}
theorem post_of_below {f : Func} {s : ChangeSpec} {apart fresh handsOn again : Bool} {W W' : World} {args : Array Value} {v : Value} {ds gs : List (DataW H)} {before pa pv : List MemPlace}
    (hW : DataW.Whole enc P f.params.toList s.vars apart W args.toList ds gs before)
    (hres : ∀ (b : Nat) (sp : Nat → Bool) (hd : Bool), DataW.TrodAll enc P W' b sp hd f.resultTypes.toList (v.resultList f.resultTypes.size) (s.fn H (ds ++ gs)).results [])
    (hargs : ∀ sp : Nat → Bool, (∀ p ∈ before, sp p.block = true) → DataW.TrodAll enc P W' 0 sp true f.params.toList args.toList (s.fn H (ds ++ gs)).args pa)
    (hvars : ∀ sp : Nat → Bool, (∀ p ∈ before, sp p.block = true) → DataW.TrodVars enc P W' sp s.vars (s.fn H (ds ++ gs)).vars pv)
    (hps : before = pa ++ pv) (hb : Below W.heap.size W W')
    (hok : ∀ (j : Nat) (t : TypeId) (r : Value), f.resultTypes[j]? = some t → (v.resultList f.resultTypes.size)[j]? = some r → Value.okWide P W' .any 0 t r) :
    s.post enc P f apart fresh handsOn again W args v W' := by
  have hlt : ∀ p ∈ before, p.block < W.heap.size := fun p hp => hW.lt p hp
  have hold : ∀ p ∈ before, (fun b => decide (b < W.heap.size)) p.block = true := fun p hp => by simpa using hlt p hp
  refine ⟨ds, gs, before, [], pa, pv, hW, hres _ _ _, hargs _ hold, hvars _ hold, World.keptBut_mono (fun p hp => ⟨hp, ?_⟩) (hb.frame (· ∈ before)), fun _ => ?_⟩
  · rw [hps, List.mem_append] at hp
    exact Or.inr hp
  · obtain ⟨_, _, _, _, _, hz, hn⟩ := hW
    refine ⟨hok, _, _, ([] ++ pa) ++ pv, ⟨[] ++ pa, pv, trodAll_append (hargs _ (fun _ _ => rfl)) (hres _ _ _), hvars _ (fun _ _ => rfl), rfl, ?_, ?_⟩, ?_⟩
    · intro b off hp
      have hin : MemPlace.cell b off ∈ before := by rw [hps]; simpa using hp
      rw [hb.frozen (hlt _ hin)]
      exact hz b off hin
    · intro ha
      have := hn ha
      rw [hps] at this
      simpa using this
    · intro p hp _
      rw [hps]
      simpa using hp
end
theorem own_knob : ownKnob Tryd.prog.godebug = none := by kernel_rfl
abbrev laidL : List (String × DataW Unit) := [("math/bits.deBruijn32tab", Rows.laid_math_bits_deBruijn32tab), ("math/bits.deBruijn64tab", Rows.laid_math_bits_deBruijn64tab), ("internal/strconv.uint64pow10", Rows.laid_internal_strconv_uint64pow10), ("strconv.ErrRange", Rows.laid_strconv_ErrRange), ("strconv.ErrSyntax", Rows.laid_strconv_ErrSyntax), ("unicode.White_Space", Rows.laid_unicode_White_Space), ("strings.asciiSpace", Rows.laid_strings_asciiSpace), ("herald/huff.counts", Rows.laid_herald_huff_counts), ("herald/pack.forms", Rows.laid_herald_pack_forms)]
theorem g_space {w : World} (h : VarReads Tryd.prog w "strings.asciiSpace" Rows.laid_strings_asciiSpace) : TabIs Tryd.prog w "strings.asciiSpace" .u8 asciiSpaceTab := by
  obtain ⟨g, t, cs, fuel, p, hg, hty, hvar, hd⟩ := h
  obtain rfl := Option.some.inj ((show Tryd.prog.globalNamed "strings.asciiSpace" = some 2 by kernel_rfl).symm.trans hg)
  obtain rfl := Option.some.inj ((show (Tryd.prog.globals[2]?).map (·.type) = some 128 by kernel_rfl).symm.trans hty)
  have hd' := hd
  rw [show Rows.laid_strings_asciiSpace (H := Unit) = tabData .u8 asciiSpaceTab by kernel_rfl] at hd'
  unfold TabIs
  rw [hvar, ← cells_of_tab Tryd.underlying128 Tryd.underlying5 (by kernel_rfl) (by kernel_rfl) hd']
theorem g_counts {w : World} (h : VarReads Tryd.prog w "herald/huff.counts" Rows.laid_herald_huff_counts) : ∀ i, i < 31 → w.cell? ⟨1, i, none⟩ = some (.int .u32 (Huff.counts.getD i 0 : Nat)) := by
  obtain ⟨g, t, cs, fuel, p, hg, hty, hvar, hd⟩ := h
  obtain rfl := Option.some.inj ((show Tryd.prog.globalNamed "herald/huff.counts" = some 1 by kernel_rfl).symm.trans hg)
  obtain rfl := Option.some.inj ((show (Tryd.prog.globals[1]?).map (·.type) = some 119 by kernel_rfl).symm.trans hty)
  have hd' := hd
  rw [show Rows.laid_herald_huff_counts (H := Unit) = tabData .u32 (Huff.counts.map fun (n : Nat) => (n : Int)) by kernel_rfl] at hd'
  have hcs := cells_of_tab Tryd.underlying119 Tryd.underlying110 (by kernel_rfl) (by kernel_rfl) hd'
  intro i hi
  have := World.var?_cell hg hvar i
  rw [this, ← Array.getElem?_toList, hcs]
  have hl : i < Huff.counts.length := by rw [Huff.counts_length]; exact hi
  simp [List.getD, hl]
theorem g_forms {w : World} (h : VarReads Tryd.prog w "herald/pack.forms" Rows.laid_herald_pack_forms) : ∀ i b p, i < 5 → ([(128, 7), (64, 6), (32, 5), (16, 4), (0, 4)] : List (Int × Int))[i]? = some (b, p) → w.cell? ⟨0, 2 * i, none⟩ = some (.int .i64 b) ∧ w.cell? ⟨0, 2 * i + 1, none⟩ = some (.int .i64 p) := by
  obtain ⟨g, t, cs, fuel, ps, hg, hty, hvar, hd⟩ := h
  obtain rfl := Option.some.inj ((show Tryd.prog.globalNamed "herald/pack.forms" = some 0 by kernel_rfl).symm.trans hg)
  obtain rfl := Option.some.inj ((show (Tryd.prog.globals[0]?).map (·.type) = some 93 by kernel_rfl).symm.trans hty)
  have hd' := hd
  rw [show Rows.laid_herald_pack_forms (H := Unit) = .agg (([(128, 7), (64, 6), (32, 5), (16, 4), (0, 4)] : List (Int × Int)).map fun x => .agg ([x.1, x.2].map fun z => .lit (.int .i64 z))) by kernel_rfl] at hd'
  intro i b p hi hbp
  obtain ⟨fuel', d, q, hdi, he⟩ := array_elem Tryd.underlying93 hd' i hi
  rw [List.getElem?_map, hbp] at hdi
  simp only [Option.map_some, Option.some.injEq] at hdi
  subst hdi
  rw [show Tryd.prog.cellsOf 92 = 2 by kernel_rfl] at he
  have hcs := ints_of_struct Tryd.underlying92 (fun j f hj => by
    match j, hj with
    | 0, hj => simp at hj; subst hj; exact ⟨Tryd.underlying3, rfl, by kernel_rfl⟩
    | 1, hj => simp at hj; subst hj; exact ⟨Tryd.underlying3, rfl, by kernel_rfl⟩
    | j + 2, hj => simp at hj) (by kernel_rfl) he
  have h0 := World.var?_cell hg hvar (2 * i)
  have h1 := World.var?_cell hg hvar (2 * i + 1)
  rw [← Array.getElem?_toList] at h0 h1
  have k0 := congrArg (·[0]?) hcs
  have k1 := congrArg (·[1]?) hcs
  simp only [List.map_cons, List.map_nil, List.getElem?_cons_zero, List.getElem?_cons_succ, List.getElem?_take, List.getElem?_drop] at k0 k1
  rw [if_pos (by omega)] at k0 k1
  rw [show i * 2 + 0 = 2 * i by omega] at k0
  rw [show i * 2 + 1 = 2 * i + 1 by omega] at k1
  exact ⟨h0.trans k0, h1.trans k1⟩
theorem g_of {w : World} (hL : laidMetH Tryd.prog laidL w) (hS : w.ShapedOpen Tryd.prog) : G w := by
  have h : laidMet Tryd.prog laidL w := hL
  refine ⟨g_space (laidMet.reads h (.tail _ (.tail _ (.tail _ (.tail _ (.tail _ (.tail _ (.head _)))))))), g_counts (laidMet.reads h (.tail _ (.tail _ (.tail _ (.tail _ (.tail _ (.tail _ (.tail _ (.head _))))))))),
    g_forms (laidMet.reads h (.tail _ (.tail _ (.tail _ (.tail _ (.tail _ (.tail _ (.tail _ (.tail _ (.head _)))))))))), ?_⟩
  obtain ⟨cs, hc, _⟩ := hS.1 9 #[.pointer none] 136 (of_decide_eq_true (by kernel_rfl)) (by kernel_rfl)
  have := (Array.getElem?_eq_some_iff.1 hc).1
  omega
/-- The witness: the settled world with four blocks more (White_Space's ranges; its table; the two errors' structs), the nine variables holding what their initialisers lay. -/
noncomputable def laidWorld (os : Os) : World :=
  let N := (World.settled Tryd.prog os).heap.size
  let w0 := World.holding Tryd.prog os ⟨#[
    .cells (([9, 13, 1, 32, 133, 101, 160, 5760, 5600, 8192, 8202, 1, 8232, 8233, 1, 8239, 8287, 48, 12288, 12288, 1] : List Int).map (Value.int .u16)).toArray 149,
    .cells #[.slice (some ⟨N, 0, none⟩) 7 7, .slice none 0 0, .int .i64 2] 146,
    .cells #[.string ⟨#[105, 110, 118, 97, 108, 105, 100, 32, 115, 121, 110, 116, 97, 120]⟩] 166,
    .cells #[.string ⟨#[118, 97, 108, 117, 101, 32, 111, 117, 116, 32, 111, 102, 32, 114, 97, 110, 103, 101]⟩] 166], #[], []⟩
  let put (h : Array Obj) (g : Nat) (cs : Array Value) : Array Obj := h.modify g fun
    | .cells _ t frozen => .cells cs t frozen
    | o => o
  let h0 := put w0.heap 0 (([128, 7, 64, 6, 32, 5, 16, 4, 0, 4] : List Int).map (Value.int .i64)).toArray
  let h1 := put h0 1 (Huff.counts.map fun (n : Nat) => Value.int .u32 n).toArray
  let h2 := put h1 2 (asciiSpaceTab.map fun z => Value.int .u8 z).toArray
  let h3 := put h2 3 #[.pointer (some ⟨N + 1, 0, none⟩)]
  let h4 := put h3 4 #[.iface 164 (.pointer (some ⟨N + 2, 0, none⟩))]
  let h5 := put h4 5 #[.iface 164 (.pointer (some ⟨N + 3, 0, none⟩))]
  let h6 := put h5 6 (([1, 10, 100, 1000, 10000, 100000, 1000000, 10000000, 100000000, 1000000000, 10000000000, 100000000000, 1000000000000, 10000000000000, 100000000000000, 1000000000000000, 10000000000000000, 100000000000000000, 1000000000000000000, 10000000000000000000] : List Int).map (Value.int .u64)).toArray
  let h7 := put h6 7 (([0, 1, 28, 2, 29, 14, 24, 3, 30, 22, 20, 15, 25, 17, 4, 8, 31, 27, 13, 23, 21, 19, 16, 7, 26, 12, 18, 6, 11, 5, 10, 9] : List Int).map (Value.int .u8)).toArray
  let h8 := put h7 8 (([0, 1, 56, 2, 57, 49, 28, 3, 61, 58, 42, 50, 38, 29, 17, 4, 62, 47, 59, 36, 45, 43, 51, 22, 53, 39, 33, 30, 24, 18, 12, 5, 63, 55, 48, 27, 60, 41, 37, 16, 46, 35, 44, 21, 52, 32, 23, 11, 54, 26, 40, 15, 34, 20, 31, 10, 25, 14, 19, 9, 13, 8, 7, 6] : List Int).map (Value.int .u8)).toArray
  { w0 with heap := h8 }
theorem laid_met (os : Os) (args : Array Value) : laidMet Tryd.prog laidL ((laidWorld os).forCall (fun _ _ => 0) ⟨#[], args, []⟩).memory :=
  laidMet_of_run' 10 (by kernel_rfl) (by kernel_rfl)
end Go.Proofs.YtkpdhnkiabgghaaDoor
