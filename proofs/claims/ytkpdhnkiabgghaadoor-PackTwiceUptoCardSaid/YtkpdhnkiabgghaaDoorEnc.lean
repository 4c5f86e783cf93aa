/- Layer 5, pack: begin, resize, the encoder's table. -/
import Derived.Test.YtkpdhnkiabgghaaDoorBuild
namespace Go.Proofs.YtkpdhnkiabgghaaDoor
open Go.RowKit
theorem G.mod {S : Nat → Prop} {w w' : World} (h : G w) (hm : Mod S w w') (hS : ∀ k, S k → 10 ≤ k) : G w' :=
  h.kept hm.size fun k hk => hm.block k (by have := h.size; omega) (fun hs => by have := hS k hs; omega)
namespace Pack
def forms : List (Int × Int) := [(128, 7), (64, 6), (32, 5), (16, 4), (0, 4)]
def beginL (which v : Nat) : List UInt8 := bytesOf (Pint.putN (forms.getD which (0, 0)).2 (forms.getD which (0, 0)).1 v)
theorem tailF_length : ∀ (k : Nat) (x : Int), (Pint.tailF k x).length ≤ k + 1
  | 0, x => by simp [Pint.tailF]
  | k + 1, x => by
    have := tailF_length k (x / 128)
    unfold Pint.tailF
    split <;> simp <;> omega
theorem putN_length (p f v : Int) : (Pint.putN p f v).length ≤ 7 := by
  unfold Pint.putN
  split
  · simp
  · have := tailF_length 5 (v - Pint.fullN p)
    simp; omega
theorem beginL_length (which v : Nat) : (beginL which v).length ≤ 7 := by
  unfold beginL bytesOf; rw [List.length_map]; exact putN_length _ _ _
theorem forms_ok (which : Nat) (h : which < 5) : ∃ b p : Int, forms[which]? = some (b, p) ∧ 1 ≤ p ∧ p ≤ 8 ∧ 0 ≤ b ∧ b + Pint.fullN p ≤ 255 ∧ (bits .and .i64 b (Pint.fullN p) != 0) = false := by
  have : which = 0 ∨ which = 1 ∨ which = 2 ∨ which = 3 ∨ which = 4 := by omega
  rcases this with rfl | rfl | rfl | rfl | rfl
  · exact ⟨128, 7, rfl, by decide⟩
  · exact ⟨64, 6, rfl, by decide⟩
  · exact ⟨32, 5, rfl, by decide⟩
  · exact ⟨16, 4, rfl, by decide⟩
  · exact ⟨0, 4, rfl, by decide⟩
set_option maxRecDepth 100000 in
set_option maxHeartbeats 2000000 in
theorem begin_any (B b : Nat) (vb : Value) (l : List UInt8) (which v : Nat) (w : World) (hG : G w) (h : Bld B b vb l w) (hB : B ≤ w.heap.size) (hwh : which < 5) (hv : v ≤ 2147483647) (hlen : l.length ≤ 140737488000000) :
    Calls Tryd.prog 34 #[.pointer (some ⟨b, 0, none⟩), .int .i64 which, .int .i64 v] w fun e w' => e = .returned (.tuple #[]) ∧ ∃ vb', Bld B b vb' (l ++ beginL which v) w' ∧ Mod (fun k => k = b ∨ vb.ownBlock = some k) w w' := by
  obtain ⟨fb, fp, hf, hp1, hp2, hb1, hb2, hand⟩ := forms_ok which hwh
  obtain ⟨c0, c1⟩ := hG.forms which fb fp hwh hf
  have hfb : Hid (beginL which v = bytesOf (Pint.putN fp fb v)) := by show _ = _; unfold beginL; rw [List.getD_eq_getElem?_getD, hf]; rfl
  have hi0 : (0 : Int) ≤ (which : Int) := by omega
  have hi1 : (which : Int) < 5 := by omega
  have hgs := hG.size
  rw [Nat.mul_comm 2 which] at c0 c1
  go_enter Tryd.func34, Tryd.ntmps34
  go_wp2_with fail
  have hd0 : Below w.heap.size w w.drew := (Below.refl _ _).drew
  obtain ⟨I, HI, hne⟩ := mkInv (fun W => Below w.heap.size w W) hd0
  have q0 : ∀ x : InW I, x.w.cell? ⟨0, which * 2, none⟩ = some (.int .i64 fb) := fun x => (((HI.out _).1 x.has).cell (p := ⟨0, which * 2, none⟩) (by simp; omega)).trans c0
  have q1 : ∀ x : InW I, x.w.cell? ⟨0, which * 2 + 1, none⟩ = some (.int .i64 fp) := fun x => (((HI.out _).1 x.has).cell (p := ⟨0, which * 2 + 1, none⟩) (by simp; omega)).trans c1
  refine wp_region_inv_all I (by kernel_rfl) (by kernel_rfl) ((HI.out _).2 hd0) ?_
  repeat (go_big_quiet_step (((go_at_call 46; exact inv_call ((Pint.put_any fp fb v _ hp1 hp2 hb1 hb2 hand (by omega) (by omega)).mono (by rintro e w' ⟨rfl, hb⟩; exact ⟨rfl, (HI.out _).2 (((HI.out _).1 (InW.has _)).trans (hb.mono ((HI.out _).1 (InW.has _)).size))⟩))))))
  refine wpQuiet_nil ?_
  intro wa ha
  replace ha := (HI.out _).1 ha
  clear hne HI
  clear q0 q1
  have hsz := ha.size
  go_wp2_with fail
  have hll : (strOfNums (Pint.putN fp fb v)).size ≤ 7 := by
    rw [strOfNums_mk, mk_size, bytesOf, List.length_map]; exact putN_length _ _ _
  refine (write_any B b vb l _ wa (h.below ha) (by omega) (by omega)).mono ?_
  rintro e w2 ⟨rfl, v2, hb2', hM2⟩
  go_wp2
  go_end0
  refine ⟨rfl, v2, by rw [hfb.out]; exact hb2', ((Mod.refl _ w).below ha).trans hM2 (fun _ _ h => h)⟩
theorem esize_any (n v : ByteArray) (nv : Bool) (w : World) (ha : n.size ≤ 1073741824) (hb : v.size ≤ 1073741824) :
    Calls Tryd.prog 36 #[.agg #[.string n, .string v, .bool nv]] w fun e w' => e = .returned (.int .i64 ((n.size : Int) + (v.size : Int) + 32)) ∧ w.alloc (.cells #[.string n, .string v, .bool nv] 40) = w' := by
  go_enter Tryd.func36, Tryd.ntmps36
  go_wp2
  go_ret
  exact ⟨rfl, rfl⟩
/-- An encoder in memory. -/
structure IsEnc (w : World) (ge gt : Nat) (v : Value) (mx : Nat) (es : List Ent) (told : Bool) (least last : Nat) : Prop where
  blk : w.heap[ge]? = some (.cells #[.pointer (some ⟨gt, 0, none⟩), .bool told, .int .i64 (least : Int), .int .i64 (last : Int)] 51 (0, 0))
  tab : IsTab w gt v mx es
theorem _root_.Go.Proofs.YtkpdhnkiabgghaaDoor.Own.row {w : World} {e : TypeId} {sz n : Nat} {v : Value} {xs : List Value} (h : Own w e sz v n xs) : ∀ k, v.ownBlock = some k → ∃ cur, w.heap[k]? = some (.cells cur e (0, 0)) := by
  intro k hk
  rcases h.2 with ⟨rfl, _⟩ | ⟨g, off, cap, cur, rfl, hg, _⟩
  · simp [Value.ownBlock] at hk
  · cases hk; exact ⟨cur, hg⟩
theorem typ_ne {w : World} {a b : Nat} {ca cb : Array Value} {ta tb : TypeId} {fa fb : Nat × Nat} (ha : w.heap[a]? = some (.cells ca ta fa)) (hb : w.heap[b]? = some (.cells cb tb fb)) (h : ta ≠ tb) : a ≠ b := by
  intro e; subst e; rw [ha] at hb; cases hb; exact h rfl
theorem IsEnc.mod {w w' : World} {ge gt : Nat} {v : Value} {mx : Nat} {es : List Ent} {told : Bool} {least last : Nat} {S : Nat → Prop} (h : IsEnc w ge gt v mx es told least last) (hm : Mod S w w') (h1 : ¬ S ge) (h2 : ¬ S gt) (h3 : ∀ k, v.ownBlock = some k → ¬ S k) : IsEnc w' ge gt v mx es told least last :=
  ⟨hm.blk h.blk h1, h.tab.mod hm h2 h3⟩
theorem IsEnc.below {w w' : World} {ge gt : Nat} {v : Value} {mx : Nat} {es : List Ent} {told : Bool} {least last : Nat} (h : IsEnc w ge gt v mx es told least last) (hb : Below w.heap.size w w') : IsEnc w' ge gt v mx es told least last :=
  h.mod (S := fun _ => False) (Mod.ofBelow hb) (fun h => h) (fun h => h) (fun _ _ h => h)
/-- What a builder's writes turn is no part of an encoder. -/
theorem IsEnc.wrote {w w' : World} {ge gt : Nat} {v : Value} {mx : Nat} {es : List Ent} {told : Bool} {least last B b : Nat} {vb : Value} {l : List UInt8} (h : IsEnc w ge gt v mx es told least last) (hB : Bld B b vb l w)
    (hm : Mod (fun k => k = b ∨ vb.ownBlock = some k) w w') : IsEnc w' ge gt v mx es told least last := by
  obtain ⟨p, _, hb⟩ := hB.blk
  refine h.mod hm ?_ ?_ ?_
  · rintro (h1 | h1)
    · exact typ_ne h.blk hb (by decide) h1
    · exact hB.apart h.blk (by decide) h1
  · rintro (h1 | h1)
    · exact typ_ne h.tab.blk hb (by decide) h1
    · exact hB.apart h.tab.blk (by decide) h1
  · intro k hk
    obtain ⟨cur, hc⟩ := h.tab.own.row k hk
    rintro (h1 | h1)
    · exact typ_ne hc hb (by decide) h1
    · exact hB.apart hc (by decide) h1
/-- What a table's change turns is no part of a builder. -/
theorem _root_.Go.Proofs.YtkpdhnkiabgghaaDoor.Bld.turned {w w' : World} {gt : Nat} {v : Value} {mx : Nat} {es : List Ent} {B b : Nat} {vb : Value} {l : List UInt8} (hB : Bld B b vb l w) (h : IsTab w gt v mx es)
    (hm : Mod (fun k => k = gt ∨ v.ownBlock = some k) w w') : Bld B b vb l w' := by
  obtain ⟨p, _, hb⟩ := hB.blk
  refine hB.mod hm ?_ ?_
  · rintro (h1 | h1)
    · exact typ_ne h.blk hb (by decide) h1.symm
    · obtain ⟨cur, hc⟩ := h.own.row _ h1
      exact typ_ne hc hb (by decide) rfl
  · rintro k hk (h1 | h1)
    · exact hB.apart h.blk (by decide) (h1 ▸ hk)
    · obtain ⟨cur, hc⟩ := h.own.row _ h1
      exact hB.apart hc (by decide) hk
set_option maxRecDepth 100000 in
set_option maxHeartbeats 2000000 in
theorem resize_any (B b : Nat) (vb : Value) (l : List UInt8) (ge gt : Nat) (v : Value) (mx : Nat) (es : List Ent) (told : Bool) (least last n : Nat) (w : World) (hG : G w) (h : Bld B b vb l w) (hE : IsEnc w ge gt v mx es told least last)
    (hB : B ≤ w.heap.size) (hn : n ≤ 65536) (hlen : l.length ≤ 140737488000000) :
    Calls Tryd.prog 22 #[.pointer (some ⟨ge, 0, none⟩), .pointer (some ⟨b, 0, none⟩), .int .i64 (n : Int)] w fun e w' => e = .returned (.tuple #[]) ∧ ∃ vb' v', Bld B b vb' (l ++ beginL 2 n) w' ∧
      IsEnc w' ge gt v' n (Table.shrinkL n es) told least last ∧ Mod (fun k => (k = b ∨ vb.ownBlock = some k) ∨ k = gt) w w' ∧ v'.ownBlock = v.ownBlock := by
  go_enter Tryd.func22, Tryd.ntmps22
  go_wp2_with fail
  refine (begin_any B b vb l 2 n w hG h hB (by omega) (by omega) hlen).mono ?_
  rintro e w1 ⟨rfl, vb1, hb1, hM1⟩
  have hE1 := hE.wrote h hM1
  have c0 : w1.cell? ⟨ge, 0, none⟩ = some (.pointer (some ⟨gt, 0, none⟩)) := (cell_of_row w1 ge 0 _ _ _ hE1.blk).trans rfl
  go_wp2_with fail
  refine (Table.resize_any n gt v mx es w1 hE1.tab hn).mono ?_
  rintro e w2 ⟨rfl, v2, hT2, hM2, hv2⟩
  go_wp2
  go_end0
  have hM3 : Mod (fun k => k = gt ∨ v.ownBlock = some k) w1 w2 := hM2.mono (fun _ _ h => .inl h)
  refine ⟨rfl, vb1, v2, hb1.turned hE1.tab hM3, ⟨hM2.blk hE1.blk (typ_ne hE1.blk hE1.tab.blk (by decide)), hT2⟩, ?_, hv2⟩
  exact (hM1.mono (fun _ _ h => .inl h)).trans (hM2.mono (T := fun k => (k = b ∨ vb.ownBlock = some k) ∨ k = gt) (fun _ _ h => .inr h)) (fun _ _ h => h)
end Pack
end Go.Proofs.YtkpdhnkiabgghaaDoor
