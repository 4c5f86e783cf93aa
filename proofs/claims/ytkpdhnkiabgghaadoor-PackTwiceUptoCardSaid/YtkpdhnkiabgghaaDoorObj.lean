/- Layer 5: encoders, decoders and tables as objects with the blocks that they own; their contracts in these words. -/
import Derived.Test.YtkpdhnkiabgghaaDoorDecode
import Derived.Test.YtkpdhnkiabgghaaDoorRds
namespace Go.Proofs.YtkpdhnkiabgghaaDoor
open Go.RowKit
namespace Pack
def feet (g gt : Nat) (v : Value) : Nat → Prop := fun k => k = g ∨ k = gt ∨ v.ownBlock = some k
def EncAt (w : World) (ge : Nat) (F : Nat → Prop) (st : ES) : Prop := ∃ gt v, F = feet ge gt v ∧ IsE w ge gt v st ∧ (st.least ≤ 4096 ∧ st.last ≤ 4096)
def DecAt (w : World) (gd : Nat) (F : Nat → Prop) (st : DS) : Prop := ∃ gt v, F = feet gd gt v ∧ IsD w gd gt v st ∧ st.limit ≤ 65536
def TabAt (w : World) (g : Nat) (F : Nat → Prop) (mx : Nat) (es : List Ent) : Prop := ∃ v, F = (fun k => k = g ∨ v.ownBlock = some k) ∧ IsTab w g v mx es
section
variable {w w' : World} {g : Nat} {F S : Nat → Prop}
theorem EncAt.lt {st : ES} (h : EncAt w g F st) : ∀ k, F k → k < w.heap.size := by
  obtain ⟨gt, v, rfl, hE, _⟩ := h
  rintro k (rfl | rfl | hk)
  · exact lt_of_blk hE.blk
  · exact lt_of_blk hE.tab.blk
  · exact hE.tab.own.lt k hk
theorem EncAt.mod {st : ES} (h : EncAt w g F st) (hm : Mod S w w') (hd : ∀ k, F k → ¬ S k) : EncAt w' g F st := by
  obtain ⟨gt, v, rfl, hE, hl⟩ := h
  exact ⟨gt, v, rfl, ⟨hm.blk hE.blk (hd _ (.inl rfl)), hE.tab.mod hm (hd _ (.inr (.inl rfl))) (fun k hk => hd k (.inr (.inr hk)))⟩, hl⟩
theorem EncAt.below {st : ES} (h : EncAt w g F st) (hb : Below w.heap.size w w') : EncAt w' g F st := h.mod (S := fun _ => False) (Mod.ofBelow hb) (fun _ _ h => h)
theorem DecAt.lt {st : DS} (h : DecAt w g F st) : ∀ k, F k → k < w.heap.size := by
  obtain ⟨gt, v, rfl, hE, _⟩ := h
  rintro k (rfl | rfl | hk)
  · exact lt_of_blk hE.blk
  · exact lt_of_blk hE.tab.blk
  · exact hE.tab.own.lt k hk
theorem DecAt.mod {st : DS} (h : DecAt w g F st) (hm : Mod S w w') (hd : ∀ k, F k → ¬ S k) : DecAt w' g F st := by
  obtain ⟨gt, v, rfl, hE, hl⟩ := h
  exact ⟨gt, v, rfl, dec_mod hE hm (hd _ (.inl rfl)) (hd _ (.inr (.inl rfl))) (fun k hk => hd k (.inr (.inr hk))), hl⟩
theorem DecAt.below {st : DS} (h : DecAt w g F st) (hb : Below w.heap.size w w') : DecAt w' g F st := h.mod (S := fun _ => False) (Mod.ofBelow hb) (fun _ _ h => h)
theorem TabAt.lt {mx : Nat} {es : List Ent} (h : TabAt w g F mx es) : ∀ k, F k → k < w.heap.size := by
  obtain ⟨v, rfl, hT⟩ := h
  rintro k (rfl | hk)
  · exact lt_of_blk hT.blk
  · exact hT.own.lt k hk
theorem TabAt.mod {mx : Nat} {es : List Ent} (h : TabAt w g F mx es) (hm : Mod S w w') (hd : ∀ k, F k → ¬ S k) : TabAt w' g F mx es := by
  obtain ⟨v, rfl, hT⟩ := h
  exact ⟨v, rfl, hT.mod hm (hd _ (.inl rfl)) (fun k hk => hd k (.inr hk))⟩
theorem TabAt.below {mx : Nat} {es : List Ent} (h : TabAt w g F mx es) (hb : Below w.heap.size w w') : TabAt w' g F mx es := h.mod (S := fun _ => False) (Mod.ofBelow hb) (fun _ _ h => h)
end
theorem newE (w : World) : Calls Tryd.prog 6 #[] w fun e w' => ∃ g F, e = .returned (.pointer (some ⟨g, 0, none⟩)) ∧ EncAt w' g F ES.new ∧ Below w.heap.size w w' ∧ ∀ k, F k → w.heap.size ≤ k := by
  refine (newEnc_any w).mono ?_
  rintro e w' ⟨ge, gt, v, rfl, hE, hb, h1, h2, h3⟩
  exact ⟨ge, _, rfl, ⟨gt, v, rfl, hE, by simp [ES.new]⟩, hb, by rintro k (rfl | rfl | hk); exact h1; exact h2; exact h3 k hk⟩
theorem newD (w : World) : Calls Tryd.prog 7 #[] w fun e w' => ∃ g F, e = .returned (.pointer (some ⟨g, 0, none⟩)) ∧ DecAt w' g F DS.new ∧ Below w.heap.size w w' ∧ ∀ k, F k → w.heap.size ≤ k := by
  refine (newDec_any w).mono ?_
  rintro e w' ⟨gd, gt, v, rfl, hD, hb, h1, h2, h3⟩
  exact ⟨gd, _, rfl, ⟨gt, v, rfl, hD, by simp [DS.new]⟩, hb, by rintro k (rfl | rfl | hk); exact h1; exact h2; exact h3 k hk⟩
theorem set_small (st : ES) (n : Int) (h : st.least ≤ 4096 ∧ st.last ≤ 4096) : (st.set n).least ≤ 4096 ∧ (st.set n).last ≤ 4096 := by
  have := clampN_le n 4096
  simp only [ES.set]; constructor
  · split <;> omega
  · omega
theorem setE (g : Nat) (F : Nat → Prop) (st : ES) (n : Int) (w : World) (h : EncAt w g F st) :
    Calls Tryd.prog 8 #[.pointer (some ⟨g, 0, none⟩), .int .i64 n] w fun e w' => e = .returned (.tuple #[]) ∧ EncAt w' g F (st.set n) ∧ Mod F w w' := by
  obtain ⟨gt, v, rfl, hE, hl⟩ := h
  refine (setMaxE_any g gt v st n w hE).mono ?_
  rintro e w' ⟨rfl, hE', hM⟩
  exact ⟨rfl, ⟨gt, v, rfl, hE', set_small st n hl⟩, hM.mono (fun _ _ h => .inl h)⟩
theorem setD (g : Nat) (F : Nat → Prop) (st : DS) (n : Int) (w : World) (h : DecAt w g F st) :
    Calls Tryd.prog 9 #[.pointer (some ⟨g, 0, none⟩), .int .i64 n] w fun e w' => e = .returned (.tuple #[]) ∧ DecAt w' g F (st.set n) ∧ Mod F w w' := by
  obtain ⟨gt, v, rfl, hE, hl⟩ := h
  refine (setMaxD_any g gt v st.mx st.es st.limit st.broken n w hE).mono ?_
  rintro e w' ⟨rfl, hE', hM⟩
  exact ⟨rfl, ⟨gt, v, rfl, hE', clampN_le n 65536⟩, hM.mono (fun _ _ h => .inl h)⟩
theorem encE (g : Nat) (F : Nat → Prop) (st : ES) (lv : Value) (fs : List Fld) (w : World) (hG : G w) (h : EncAt w g F st) (h10 : ∀ k, F k → 10 ≤ k) (hl : Rds w 3 lv fs.length (fldC fs)) (hap : 0 < fs.length → ∀ k, lv.ownBlock = some k → ¬ F k) (hall : ∀ f ∈ fs, short f) (hn : fs.length ≤ 1048576) :
    Calls Tryd.prog 10 #[.pointer (some ⟨g, 0, none⟩), lv] w fun e w' => e = .returned (.tuple #[.string (mk (encL st fs)), .int .i64 0]) ∧ ∃ F', EncAt w' g F' (st.next fs) ∧ Mod F w w' ∧ ∀ k, F' k → F k ∨ w.heap.size ≤ k := by
  obtain ⟨gt, v, rfl, hE, hst⟩ := h
  refine (encode_ok g gt v st lv fs w hG hE hl (fun h0 k hk => ⟨fun h => hap h0 k hk (.inl h), fun h => hap h0 k hk (.inr (.inl h)), fun h => hap h0 k hk (.inr (.inr h))⟩) hall hn hst (h10 _ (.inl rfl)) (h10 _ (.inr (.inl rfl))) (fun k hk => h10 k (.inr (.inr hk)))).mono ?_
  rintro e w' ⟨rfl, v', hE', hM, hv⟩
  refine ⟨rfl, _, ⟨gt, v', rfl, hE', hst⟩, hM, ?_⟩
  rintro k (rfl | rfl | hk)
  · exact .inl (.inl rfl)
  · exact .inl (.inr (.inl rfl))
  · rcases hv k hk with h | h
    · exact .inl (.inr (.inr h))
    · exact .inr h
theorem decD (g : Nat) (F : Nat → Prop) (st : DS) (block : List UInt8) (most : Int) (w : World) (hG : G w) (h : DecAt w g F st) (h10 : ∀ k, F k → 10 ≤ k) (hb : st.broken = false) (hlen : block.length ≤ 4194304) :
    Calls Tryd.prog 11 #[.pointer (some ⟨g, 0, none⟩), .string (mk block), .int .i64 most] w fun e w' => ∃ lv F', e = .returned (.tuple #[lv, .int .i64 (decO st block most).2]) ∧
      Own w' 40 3 lv (decO st block most).1.length (fldC (decO st block most).1) ∧ DecAt w' g F' (st.next block) ∧ Mod F w w' ∧ (∀ k, F' k → F k ∨ w.heap.size ≤ k) ∧ (∀ k, lv.ownBlock = some k → w.heap.size ≤ k) := by
  obtain ⟨gt, v, rfl, hE, hst⟩ := h
  refine (decode_any g gt v st block most w hG hE hb (h10 _ (.inr (.inl rfl))) (fun k hk => h10 k (.inr (.inr hk))) hst hlen).mono ?_
  rintro e w' ⟨lv, v', rfl, hO, hE', hM, hv, hlv⟩
  refine ⟨lv, _, rfl, hO, ⟨gt, v', rfl, hE', ?_⟩, hM, ?_, hlv⟩
  · unfold DS.next; split <;> exact hst
  · rintro k (rfl | rfl | hk)
    · exact .inl (.inl rfl)
    · exact .inl (.inr (.inl rfl))
    · rcases hv k hk with h | h
      · exact .inl (.inr (.inr h))
      · exact .inr h
theorem tabE (g : Nat) (F : Nat → Prop) (st : ES) (w : World) (h : EncAt w g F st) :
    Calls Tryd.prog 13 #[.pointer (some ⟨g, 0, none⟩)] w fun e w' => ∃ g' T, e = .returned (.pointer (some ⟨g', 0, none⟩)) ∧ TabAt w' g' T st.mx st.es ∧ Below w.heap.size w w' ∧ ∀ k, T k → w.heap.size ≤ k := by
  obtain ⟨gt, v, rfl, hE, _⟩ := h
  refine (tableE_any g gt v st.mx st.es st.told st.least st.last w hE).mono ?_
  rintro e w' ⟨g', v', rfl, hT, hb, h1, h2⟩
  exact ⟨g', _, rfl, ⟨v', rfl, hT⟩, hb, by rintro k (rfl | hk); exact h1; exact h2 k hk⟩
theorem tabD (g : Nat) (F : Nat → Prop) (st : DS) (w : World) (h : DecAt w g F st) :
    Calls Tryd.prog 14 #[.pointer (some ⟨g, 0, none⟩)] w fun e w' => ∃ g' T, e = .returned (.pointer (some ⟨g', 0, none⟩)) ∧ TabAt w' g' T st.mx st.es ∧ Below w.heap.size w w' ∧ ∀ k, T k → w.heap.size ≤ k := by
  obtain ⟨gt, v, rfl, hE, _⟩ := h
  refine (tableD_any g gt v st.mx st.es st.limit st.broken w hE).mono ?_
  rintro e w' ⟨g', v', rfl, hT, hb, h1, h2⟩
  exact ⟨g', _, rfl, ⟨v', rfl, hT⟩, hb, by rintro k (rfl | hk); exact h1; exact h2 k hk⟩
theorem EncAt.apart {w : World} {g : Nat} {F : Nat → Prop} {st : ES} (h : EncAt w g F st) {lv : Value} {n : Nat} {xs : List Value} (hO : Own w 40 3 lv n xs) : ∀ k, lv.ownBlock = some k → ¬ F k := fun k h1 h2 => by
  obtain ⟨gt, v, rfl, hD, _⟩ := h
  obtain ⟨cur, hc⟩ := hO.row k h1
  rcases h2 with rfl | rfl | h2
  · exact typ_ne hc hD.blk (by decide) rfl
  · exact typ_ne hc hD.tab.blk (by decide) rfl
  · obtain ⟨cur2, hc2⟩ := hD.tab.own.row k h2
    exact typ_ne hc hc2 (by decide) rfl
theorem DecAt.apart {w : World} {g : Nat} {F : Nat → Prop} {st : DS} (h : DecAt w g F st) {lv : Value} {n : Nat} {xs : List Value} (hO : Own w 40 3 lv n xs) : ∀ k, lv.ownBlock = some k → ¬ F k := fun k h1 h2 => by
  obtain ⟨gt, v, rfl, hD, _⟩ := h
  obtain ⟨cur, hc⟩ := hO.row k h1
  rcases h2 with rfl | rfl | h2
  · exact typ_ne hc hD.blk (by decide) rfl
  · exact typ_ne hc hD.tab.blk (by decide) rfl
  · obtain ⟨cur2, hc2⟩ := hD.tab.own.row k h2
    exact typ_ne hc hc2 (by decide) rfl
theorem encLong (g : Nat) (lv : Value) (fs : List Fld) (w : World) (hl : Rds w 3 lv fs.length (fldC fs)) (hlong : ¬ ∀ f ∈ fs, short f) (hn : fs.length ≤ 1048576) :
    Calls Tryd.prog 10 #[.pointer (some ⟨g, 0, none⟩), lv] w fun e w' => e = .returned (.tuple #[.string ⟨#[]⟩, .int .i64 3]) ∧ Below w.heap.size w w' := encode_long g lv fs w hl hlong hn
/-- One encoder and one decoder, apart, both made since w0. -/
structure Two (w0 w : World) (ge gd : Nat) (Fe Fd : Nat → Prop) (se : ES) (sd : DS) : Prop where
  e : EncAt w ge Fe se
  d : DecAt w gd Fd sd
  dis : ∀ k, Fe k → ¬ Fd k
  be : ∀ k, Fe k → w0.heap.size ≤ k
  bd : ∀ k, Fd k → w0.heap.size ≤ k
  bel : Below w0.heap.size w0 w
section
variable {w0 w w' : World} {ge gd : Nat} {Fe Fd Fe' Fd' : Nat → Prop} {se se' : ES} {sd sd' : DS}
theorem Two.below (h : Two w0 w ge gd Fe Fd se sd) (hb : Below w.heap.size w w') : Two w0 w' ge gd Fe Fd se sd :=
  ⟨h.e.below hb, h.d.below hb, h.dis, h.be, h.bd, h.bel.trans (hb.mono h.bel.size)⟩
theorem Two.far {S : Nat → Prop} (h : Two w0 w ge gd Fe Fd se sd) (hm : Mod S w w') (h1 : ∀ k, S k → w0.heap.size ≤ k) (h2 : ∀ k, S k → ¬ Fe k ∧ ¬ Fd k) : Two w0 w' ge gd Fe Fd se sd :=
  ⟨h.e.mod hm (fun k hk hs => (h2 k hs).1 hk), h.d.mod hm (fun k hk hs => (h2 k hs).2 hk), h.dis, h.be, h.bd, h.bel.trans (hm.toBelow (fun k _ hs => h1 k hs) h.bel.size)⟩
theorem Two.enc (h : Two w0 w ge gd Fe Fd se sd) (he : EncAt w' ge Fe' se') (hm : Mod Fe w w') (hf : ∀ k, Fe' k → Fe k ∨ w.heap.size ≤ k) : Two w0 w' ge gd Fe' Fd se' sd := by
  refine ⟨he, h.d.mod hm (fun k hd he => h.dis k he hd), fun k h1 h2 => ?_, fun k h1 => ?_, h.bd, h.bel.trans (hm.toBelow (fun k _ hs => h.be k hs) h.bel.size)⟩
  · rcases hf k h1 with h3 | h3
    · exact h.dis k h3 h2
    · have := h.d.lt k h2; omega
  · rcases hf k h1 with h3 | h3
    · exact h.be k h3
    · have := h.bel.size; omega
theorem Two.dec (h : Two w0 w ge gd Fe Fd se sd) (he : DecAt w' gd Fd' sd') (hm : Mod Fd w w') (hf : ∀ k, Fd' k → Fd k ∨ w.heap.size ≤ k) : Two w0 w' ge gd Fe Fd' se sd' := by
  refine ⟨h.e.mod hm (fun k hd he => h.dis k hd he), he, fun k h1 h2 => ?_, h.be, fun k h1 => ?_, h.bel.trans (hm.toBelow (fun k _ hs => h.bd k hs) h.bel.size)⟩
  · rcases hf k h2 with h3 | h3
    · exact h.dis k h1 h3
    · have := h.e.lt k h1; omega
  · rcases hf k h1 with h3 | h3
    · exact h.bd k h3
    · have := h.bel.size; omega
end
end Pack
end Go.Proofs.YtkpdhnkiabgghaaDoor
