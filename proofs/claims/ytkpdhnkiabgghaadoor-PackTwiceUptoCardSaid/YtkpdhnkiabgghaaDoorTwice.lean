/- Layer 5, the laws: PackTwice's walk. -/
import Derived.Test.YtkpdhnkiabgghaaDoorNever
namespace Go.Proofs.YtkpdhnkiabgghaaDoor
open Go.RowKit
namespace Pack
/-- Two encoders and two decoders, apart, all made since w0. -/
structure Four (w0 w : World) (a b c d : Nat) (Fa Fb Fc Fd : Nat → Prop) (sa sb : ES) (sc sd : DS) : Prop where
  ea : EncAt w a Fa sa
  eb : EncAt w b Fb sb
  dc : DecAt w c Fc sc
  dd : DecAt w d Fd sd
  ab : ∀ k, Fa k → ¬ Fb k
  ac : ∀ k, Fa k → ¬ Fc k
  ad : ∀ k, Fa k → ¬ Fd k
  bc : ∀ k, Fb k → ¬ Fc k
  bd : ∀ k, Fb k → ¬ Fd k
  cd : ∀ k, Fc k → ¬ Fd k
  ba : ∀ k, Fa k → w0.heap.size ≤ k
  bb : ∀ k, Fb k → w0.heap.size ≤ k
  bcc : ∀ k, Fc k → w0.heap.size ≤ k
  bdd : ∀ k, Fd k → w0.heap.size ≤ k
  bel : Below w0.heap.size w0 w
section
variable {w0 w w' : World} {a b c d : Nat} {Fa Fb Fc Fd F' : Nat → Prop} {sa sb se' : ES} {sc sd sd' : DS}
theorem Four.far {S : Nat → Prop} (h : Four w0 w a b c d Fa Fb Fc Fd sa sb sc sd) (hm : Mod S w w') (h1 : ∀ k, S k → w0.heap.size ≤ k) (h2 : ∀ k, S k → ¬ Fa k ∧ ¬ Fb k ∧ ¬ Fc k ∧ ¬ Fd k) : Four w0 w' a b c d Fa Fb Fc Fd sa sb sc sd :=
  { h with
    ea := h.ea.mod hm (fun k hk hs => (h2 k hs).1 hk)
    eb := h.eb.mod hm (fun k hk hs => (h2 k hs).2.1 hk)
    dc := h.dc.mod hm (fun k hk hs => (h2 k hs).2.2.1 hk)
    dd := h.dd.mod hm (fun k hk hs => (h2 k hs).2.2.2 hk)
    bel := h.bel.trans (hm.toBelow (fun k _ hs => h1 k hs) h.bel.size) }
theorem Four.below (h : Four w0 w a b c d Fa Fb Fc Fd sa sb sc sd) (hb : Below w.heap.size w w') : Four w0 w' a b c d Fa Fb Fc Fd sa sb sc sd :=
  h.far (S := fun _ => False) (Mod.ofBelow hb) (fun _ h => h.elim) (fun _ h => h.elim)
theorem Four.stA (h : Four w0 w a b c d Fa Fb Fc Fd sa sb sc sd) (he : EncAt w' a F' se') (hm : Mod Fa w w') (hf : ∀ k, F' k → Fa k ∨ w.heap.size ≤ k) : Four w0 w' a b c d F' Fb Fc Fd se' sb sc sd := by
  have hs := h.bel.size
  refine ⟨he, h.eb.mod hm (fun k h1 h2 => h.ab k h2 h1), h.dc.mod hm (fun k h1 h2 => h.ac k h2 h1), h.dd.mod hm (fun k h1 h2 => h.ad k h2 h1), fun k h1 h2 => ?_, fun k h1 h2 => ?_, fun k h1 h2 => ?_, h.bc, h.bd, h.cd, fun k h1 => ?_, h.bb, h.bcc, h.bdd, h.bel.trans (hm.toBelow (fun k _ hs => h.ba k hs) hs)⟩
  · rcases hf k h1 with h3 | h3
    · exact h.ab k h3 h2
    · have := h.eb.lt k h2; omega
  · rcases hf k h1 with h3 | h3
    · exact h.ac k h3 h2
    · have := h.dc.lt k h2; omega
  · rcases hf k h1 with h3 | h3
    · exact h.ad k h3 h2
    · have := h.dd.lt k h2; omega
  · rcases hf k h1 with h3 | h3
    · exact h.ba k h3
    · omega
theorem Four.stB (h : Four w0 w a b c d Fa Fb Fc Fd sa sb sc sd) (he : EncAt w' b F' se') (hm : Mod Fb w w') (hf : ∀ k, F' k → Fb k ∨ w.heap.size ≤ k) : Four w0 w' a b c d Fa F' Fc Fd sa se' sc sd := by
  have hs := h.bel.size
  refine ⟨h.ea.mod hm h.ab, he, h.dc.mod hm (fun k h1 h2 => h.bc k h2 h1), h.dd.mod hm (fun k h1 h2 => h.bd k h2 h1), fun k h1 h2 => ?_, h.ac, h.ad, fun k h1 h2 => ?_, fun k h1 h2 => ?_, h.cd, h.ba, fun k h1 => ?_, h.bcc, h.bdd, h.bel.trans (hm.toBelow (fun k _ hs => h.bb k hs) hs)⟩
  · rcases hf k h2 with h3 | h3
    · exact h.ab k h1 h3
    · have := h.ea.lt k h1; omega
  · rcases hf k h1 with h3 | h3
    · exact h.bc k h3 h2
    · have := h.dc.lt k h2; omega
  · rcases hf k h1 with h3 | h3
    · exact h.bd k h3 h2
    · have := h.dd.lt k h2; omega
  · rcases hf k h1 with h3 | h3
    · exact h.bb k h3
    · omega
theorem Four.stC (h : Four w0 w a b c d Fa Fb Fc Fd sa sb sc sd) (he : DecAt w' c F' sd') (hm : Mod Fc w w') (hf : ∀ k, F' k → Fc k ∨ w.heap.size ≤ k) : Four w0 w' a b c d Fa Fb F' Fd sa sb sd' sd := by
  have hs := h.bel.size
  refine ⟨h.ea.mod hm h.ac, h.eb.mod hm h.bc, he, h.dd.mod hm (fun k h1 h2 => h.cd k h2 h1), h.ab, fun k h1 h2 => ?_, h.ad, fun k h1 h2 => ?_, h.bd, fun k h1 h2 => ?_, h.ba, h.bb, fun k h1 => ?_, h.bdd, h.bel.trans (hm.toBelow (fun k _ hs => h.bcc k hs) hs)⟩
  · rcases hf k h2 with h3 | h3
    · exact h.ac k h1 h3
    · have := h.ea.lt k h1; omega
  · rcases hf k h2 with h3 | h3
    · exact h.bc k h1 h3
    · have := h.eb.lt k h1; omega
  · rcases hf k h1 with h3 | h3
    · exact h.cd k h3 h2
    · have := h.dd.lt k h2; omega
  · rcases hf k h1 with h3 | h3
    · exact h.bcc k h3
    · omega
theorem Four.stD (h : Four w0 w a b c d Fa Fb Fc Fd sa sb sc sd) (he : DecAt w' d F' sd') (hm : Mod Fd w w') (hf : ∀ k, F' k → Fd k ∨ w.heap.size ≤ k) : Four w0 w' a b c d Fa Fb Fc F' sa sb sc sd' := by
  have hs := h.bel.size
  refine ⟨h.ea.mod hm h.ad, h.eb.mod hm h.bd, h.dc.mod hm h.cd, he, h.ab, h.ac, fun k h1 h2 => ?_, h.bc, fun k h1 h2 => ?_, fun k h1 h2 => ?_, h.ba, h.bb, h.bcc, fun k h1 => ?_, h.bel.trans (hm.toBelow (fun k _ hs => h.bdd k hs) hs)⟩
  · rcases hf k h2 with h3 | h3
    · exact h.ad k h1 h3
    · have := h.ea.lt k h1; omega
  · rcases hf k h2 with h3 | h3
    · exact h.bd k h1 h3
    · have := h.eb.lt k h1; omega
  · rcases hf k h2 with h3 | h3
    · exact h.cd k h1 h3
    · have := h.dc.lt k h1; omega
  · rcases hf k h1 with h3 | h3
    · exact h.bdd k h3
    · omega
end
/-! ### how long a block grows -/
def bulkF (fs : List Fld) : Nat := (fs.map fun f => f.n.size + f.v.size + 4).sum
theorem putN_short (p f : Int) (n : Nat) (h : Pint.fullN p = 127) : (Pint.putN p f n).length ≤ n + 1 := by
  unfold Pint.putN
  split
  · simp
  · have := tailF_length 5 ((n : Int) - Pint.fullN p)
    simp only [List.length_cons]; omega
theorem textPut_len2 (s : List UInt8) : (Text.textPut s).length ≤ 2 * s.length + 1 := by
  have h : (Text.formL 0 s).length ≤ 2 * s.length + 1 := by
    have := putN_short 7 0 s.length (by decide)
    unfold Text.formL bytesOf
    rw [List.length_append, List.length_map]; omega
  unfold Text.textPut
  split <;> omega
theorem fieldL_len2 (mx : Nat) (es : List Ent) (f : Fld) : (fieldL mx es f).length ≤ 2 * (f.n.size + f.v.size) + 9 := by
  have h1 := textPut_len2 f.n.data.toList
  have h2 := textPut_len2 f.v.data.toList
  have h3 : f.n.data.toList.length = f.n.size := by simp
  have h4 : f.v.data.toList.length = f.v.size := by simp
  have hb : ∀ wh i, (beginL wh i).length ≤ 7 := beginL_length
  unfold fieldL
  split
  · have := hb 0 (Table.findL es f.n f.v).1; omega
  · have := hb (whichL mx f) (Table.findL es f.n f.v).1
    have hp : partsL (Table.findL es f.n f.v).1 f 2 = (if 0 < (Table.findL es f.n f.v).1 then [] else Text.textPut f.n.data.toList) ++ Text.textPut f.v.data.toList := rfl
    rw [List.length_append, hp, List.length_append]
    split
    · simp; omega
    · omega
theorem fieldsL_len2 (mx : Nat) : ∀ (fs : List Fld) (es : List Ent), 4 * (fieldsL mx es fs).length ≤ 9 * bulkF fs
  | [], es => by simp [fieldsL, bulkF]
  | f :: fs, es => by
    have h1 := fieldL_len2 mx es f
    have h2 := fieldsL_len2 mx fs (fieldT mx es f)
    simp only [fieldsL, bulkF, List.map_cons, List.sum_cons, List.length_append] at h2 ⊢
    omega
theorem encL_len2 (st : ES) (fs : List Fld) (h : bulkF fs ≤ 1048576) : (encL st fs).length ≤ 4194304 := by
  unfold encL
  rw [List.length_append]
  have := preL_length st
  have := fieldsL_len2 (preT st).1 fs (preT st).2
  omega
theorem bulkF_len : ∀ fs : List Fld, fs.length ≤ bulkF fs
  | [] => by simp [bulkF]
  | f :: fs => by have := bulkF_len fs; simp only [bulkF, List.map_cons, List.sum_cons, List.length_cons] at this ⊢; omega
theorem bulkF_size : ∀ fs : List Fld, sizeL fs ≤ 8 * bulkF fs
  | [] => by simp [bulkF, sizeL]
  | f :: fs => by have := bulkF_size fs; simp only [bulkF, sizeL, fsz, List.map_cons, List.sum_cons] at this ⊢; omega
end Pack
namespace Law05
open Pack
structure Blk where
  set : List Int
  l : List Fld
  most : Int
/-- A slice of blocks that is read. -/
def RdB (w : World) (v : Value) (bs : List Blk) : Prop :=
  ∃ A cap, v = .slice A bs.length cap ∧ bs.length ≤ cap ∧ cap ≤ maxLen ∧ (0 < bs.length → ∃ g off, A = some ⟨g, off, none⟩ ∧ g < w.heap.size ∧
    ∀ i b, bs[i]? = some b → ∃ sv lv, w.cell? ⟨g, off + i * 3, none⟩ = some sv ∧ w.cell? ⟨g, off + i * 3 + 1, none⟩ = some lv ∧ Rds w 1 sv b.set.length (b.set.map (Value.int .i64)) ∧ Rds w 3 lv b.l.length (fldC b.l) ∧
      (∀ k, 0 < b.l.length → lv.ownBlock = some k → k < w.heap.size))
theorem RdB.at_ {w w' : World} {A : Option Addr} {n cap : Nat} {bs : List Blk} (h : RdB w (.slice A n cap) bs) (hb : Below w.heap.size w w') (i : Nat) (b : Blk) (hi : bs[i]? = some b) :
    ∃ g off sv lv, A = some ⟨g, off, none⟩ ∧ g < w.heap.size ∧ w'.cell? ⟨g, off + i * 3, none⟩ = some sv ∧ w'.cell? ⟨g, off + i * 3 + 1, none⟩ = some lv ∧ Rds w 1 sv b.set.length (b.set.map (Value.int .i64)) ∧ Rds w 3 lv b.l.length (fldC b.l) ∧ (∀ k, 0 < b.l.length → lv.ownBlock = some k → k < w.heap.size) := by
  obtain ⟨A', cap', hv, h1, h2, h3⟩ := h
  cases hv
  have hl := (List.getElem?_eq_some_iff.1 hi).1
  obtain ⟨g, off, rfl, hg, h4⟩ := h3 (by omega)
  obtain ⟨sv, lv, c0, c1, r0, r1, r2⟩ := h4 i b hi
  exact ⟨g, off, sv, lv, rfl, hg, (hb.cell (p := ⟨g, off + i * 3, none⟩) hg).trans c0, (hb.cell (p := ⟨g, off + i * 3 + 1, none⟩) hg).trans c1, r0, r1, r2⟩
theorem own_put3 {wr : World} {g off cap n : Nat} {xs : List Value} (h : Own wr 40 3 (.slice (some ⟨g, off, none⟩) n cap) n xs) (q : Nat) (x y z : Value) :
    ∃ xs', Own (((wr.setCell ⟨g, off + q * 3, none⟩ x).setCell ⟨g, off + q * 3 + 1, none⟩ y).setCell ⟨g, off + q * 3 + 2, none⟩ z) 40 3 (.slice (some ⟨g, off, none⟩) n cap) n xs' ∧
      Mod (fun k => k = g) wr (((wr.setCell ⟨g, off + q * 3, none⟩ x).setCell ⟨g, off + q * 3 + 1, none⟩ y).setCell ⟨g, off + q * 3 + 2, none⟩ z) :=
  ⟨_, ((h.set (q * 3) _ rfl x).set (q * 3 + 1) _ (by omega) y).set (q * 3 + 2) _ (by omega) z,
    (((Mod.refl (fun k => k = g) wr).setCell (p := ⟨g, off + q * 3, none⟩) (fun _ => rfl) x).setCell (p := ⟨g, off + q * 3 + 1, none⟩) (fun _ => rfl) y).setCell (p := ⟨g, off + q * 3 + 2, none⟩) (fun _ => rfl) z⟩
set_option maxRecDepth 100000 in
set_option maxHeartbeats 4000000 in
theorem twice_any (v : Value) (bs : List Blk) (w : World) (hG : G w) (hv : RdB w v bs) (hsm : ∀ b ∈ bs, bulkF b.l ≤ 1048576) :
    Calls Tryd.prog 3 #[v] w fun e w' => e = .returned (.bool true) ∧ Below w.heap.size w w' := by
  have hgs := hG.size
  obtain ⟨A, cap, rfl, hc1, hc2, _⟩ := id hv
  unfold maxLen at hc2
  go_enter Tryd.func3, Tryd.ntmps3
  go_wp2_with fail
  refine (first_any w hG).mono ?_
  rintro e w1 ⟨rfl, hb1⟩
  go_wp2_with fail
  refine (newE w1).mono ?_
  rintro e w2 ⟨a, Fa, rfl, hEa, hb2, hFa⟩
  go_wp2_with fail
  refine (newE w2).mono ?_
  rintro e w3 ⟨b, Fb, rfl, hEb, hb3, hFb⟩
  go_wp2_with fail
  refine (newD w3).mono ?_
  rintro e w4 ⟨c, Fc, rfl, hDc, hb4, hFc⟩
  go_wp2_with fail
  refine (newD w4).mono ?_
  rintro e w5 ⟨d, Fd, rfl, hDd, hb5, hFd⟩
  have hs1 := hb1.size
  have hs2 := hb2.size
  have hs3 := hb3.size
  have hs4 := hb4.size
  have hF5 : Four w w5 a b c d Fa Fb Fc Fd ES.new ES.new DS.new DS.new := by
    refine ⟨((hEa.below hb3).below hb4).below hb5, (hEb.below hb4).below hb5, hDc.below hb5, hDd, fun k h1 h2 => ?_, fun k h1 h2 => ?_, fun k h1 h2 => ?_, fun k h1 h2 => ?_, fun k h1 h2 => ?_, fun k h1 h2 => ?_, fun k h1 => ?_, fun k h1 => ?_, fun k h1 => ?_, fun k h1 => ?_, ?_⟩
    · have := hEa.lt k h1; have := hFb k h2; omega
    · have := hEa.lt k h1; have := hFc k h2; omega
    · have := hEa.lt k h1; have := hFd k h2; omega
    · have := hEb.lt k h1; have := hFc k h2; omega
    · have := hEb.lt k h1; have := hFd k h2; omega
    · have := hDc.lt k h1; have := hFd k h2; omega
    · have := hFa k h1; omega
    · have := hFb k h1; omega
    · have := hFc k h1; omega
    · have := hFd k h1; omega
    · exact hb1.trans ((hb2.mono (by omega)).trans ((hb3.mono (by omega)).trans ((hb4.mono (by omega)).trans (hb5.mono (by omega)))))
  clear hEa hEb hDc hDd hFa hFb hFc hFd hb1 hb2 hb3 hb4 hb5 hs1 hs2 hs3 hs4
  go_wp2_with fail
  go_loopw [7] (fun i wr => ∃ (k : Nat) (Fa Fb Fc Fd : Nat → Prop) (se : ES) (sd : DS), i = .int .i64 k ∧ k ≤ bs.length ∧ Four w wr a b c d Fa Fb Fc Fd se se sd sd ∧ InStep se sd.mx sd.es sd.limit ∧ sd.broken = false) (fun i _ => bs.length - (intOf i).toNat)
  case atStart => exact ⟨0, Fa, Fb, Fc, Fd, ES.new, DS.new, rfl, by omega, hF5, instep_new, rfl⟩
  case round =>
    obtain ⟨k, Ga, Gb, Gc, Gd, se, sd, rfl, hk, hF, hI, hB⟩ := hrel
    clear hF5
    by_cases hlt : k < bs.length
    · obtain ⟨blk, hblk⟩ : ∃ blk, bs[k]? = some blk := ⟨bs[k], List.getElem?_eq_getElem _⟩
      obtain ⟨wo, rfl⟩ : ∃ wo : World, wo = wr := ⟨_, rfl⟩
      obtain ⟨g, off, sv, lv, hA, hgl, c0w, c1w, hSet, hL, hLb⟩ := hv.at_ (Below.refl w.heap.size w) k blk hblk
      subst hA
      obtain ⟨A2, cap2, rfl, hd1, hd2⟩ := hSet.form'
      obtain ⟨A3, cap3, rfl, hd3, hd4⟩ := hL.form'
      unfold maxLen at hd2 hd4
      have hsmall := hsm blk (List.mem_of_getElem? hblk)
      have h4 : (k : Int) < (bs.length : Int) := by omega
      have h5 : (0 : Int) ≤ (k : Int) := by omega
      have HC : Hid (∀ W, Below w.heap.size w W → W.cell? ⟨g, off + k * 3, none⟩ = some (.slice A2 blk.set.length cap2) ∧ W.cell? ⟨g, off + k * 3 + 1, none⟩ = some (.slice A3 blk.l.length cap3)) := fun W hb =>
        ⟨(hb.cell (p := ⟨g, off + k * 3, none⟩) hgl).trans c0w, (hb.cell (p := ⟨g, off + k * 3 + 1, none⟩) hgl).trans c1w⟩
      have HV := Lib.hid hv
      have HSM := Lib.hid hsm
      have HBL := Lib.hid hblk
      have HB0 := Lib.hid hB
      have HSET := Lib.hid hSet
      have HLL := Lib.hid hL
      have HLB := Lib.hid hLb
      clear hv hsm hblk hB hSet hL c0w c1w hLb
      go_wp2_with fail
      go_loopw [8] (fun i wr => ∃ (j : Nat) (Fa Fb Fc Fd : Nat → Prop) (se : ES) (sd : DS), i = .int .i64 j ∧ j ≤ blk.set.length ∧ Four w wr a b c d Fa Fb Fc Fd se se sd sd ∧ InStep se sd.mx sd.es sd.limit ∧ Hid (sd.broken = false)) (fun i _ => blk.set.length - (intOf i).toNat)
      case atStart => exact ⟨0, Ga, Gb, Gc, Gd, se, sd, rfl, by omega, hF, hI, HB0⟩
      case round =>
        obtain ⟨j, Ja, Jb, Jc, Jd, te, td, rfl, hj, hJ, hJI, HJB⟩ := hrel
        clear hF hI HB0
        obtain ⟨c0, c1⟩ := HC.out wr hJ.bel
        by_cases hjl : j < blk.set.length
        · obtain ⟨z, hz⟩ : ∃ z, blk.set[j]? = some z := ⟨blk.set[j], List.getElem?_eq_getElem _⟩
          obtain ⟨g2, off2, cap2', hv2, _, _, hgl2⟩ := HSET.out.form (by omega)
          cases hv2
          have hzw : w.cell? ⟨g2, off2 + j, none⟩ = some (.int .i64 z) := HSET.out.cellAt j (off2 + j) _ rfl (by rw [List.getElem?_map, hz]; rfl)
          have HZ : Hid (∀ W, Below w.heap.size w W → W.cell? ⟨g2, off2 + j, none⟩ = some (.int .i64 z)) := fun W hb => (hb.cell (p := ⟨g2, off2 + j, none⟩) hgl2).trans hzw
          have h6 : (j : Int) < (blk.set.length : Int) := by omega
          have h7 : (0 : Int) ≤ (j : Int) := by omega
          clear hz hzw
          have z0 := HZ.out wr hJ.bel
          go_wp2_with fail
          refine (setE a Ja te z _ hJ.ea).mono ?_
          rintro e wa ⟨rfl, hEa, hMa⟩
          have hJa := hJ.stA hEa hMa (fun _ h => .inl h)
          clear hJ hEa hMa c0 c1 z0
          obtain ⟨c0, c1⟩ := HC.out wa hJa.bel
          have z0 := HZ.out wa hJa.bel
          go_wp2_with fail
          refine (setE b Jb te z _ hJa.eb).mono ?_
          rintro e wb ⟨rfl, hEb, hMb⟩
          have hJb := hJa.stB hEb hMb (fun _ h => .inl h)
          clear hJa hEb hMb c0 c1 z0
          obtain ⟨c0, c1⟩ := HC.out wb hJb.bel
          have z0 := HZ.out wb hJb.bel
          go_wp2_with fail
          refine (setD c Jc td z _ hJb.dc).mono ?_
          rintro e wc ⟨rfl, hDc, hMc⟩
          have hJc := hJb.stC hDc hMc (fun _ h => .inl h)
          clear hJb hDc hMc c0 c1 z0
          obtain ⟨c0, c1⟩ := HC.out wc hJc.bel
          have z0 := HZ.out wc hJc.bel
          go_wp2_with fail
          refine (setD d Jd td z _ hJc.dd).mono ?_
          rintro e wd ⟨rfl, hDd, hMd⟩
          have hJd := hJc.stD hDd hMd (fun _ h => .inl h)
          clear hJc hDd hMd c0 c1 z0
          go_wp2_with fail
          go_roundw
          case rel => exact ⟨j + 1, Ja, Jb, Jc, Jd, te.set z, td.set z, by go_num, by omega, hJd, hJI.set z, HJB⟩
          case measure => simp [intOf] <;> omega
        · have hge : decide ((j : Int) < (blk.set.length : Int)) = false := by simp; omega
          have hlen1 := bulkF_len blk.l
          have hG0 := hG.below hJ.bel hgs
          have hap : ∀ F : Nat → Prop, (∀ k, F k → w.heap.size ≤ k) → 0 < blk.l.length → ∀ k, (Value.slice A3 blk.l.length cap3).ownBlock = some k → ¬ F k := fun F hF h0 k hk h => by have := HLB.out k h0 hk; have := hF k h; omega
          have HAP := Lib.hid hap
          have HJI := Lib.hid hJI
          clear hap hJI
          go_wp2_with fail
          by_cases hs : ∀ f ∈ blk.l, short f
          · have HS := Lib.hid hs
            clear hs
            refine (encE a Ja te (.slice A3 blk.l.length cap3) blk.l wr hG0 hJ.ea (fun k h => by have := hJ.ba k h; omega) (HLL.out.below hJ.bel) (HAP.out _ hJ.ba) HS.out (by omega)).mono ?_
            rintro e wa ⟨rfl, Ka, hEa, hMa, hFa⟩
            have hJa := hJ.stA hEa hMa hFa
            have hGa := hG.below hJa.bel hgs
            clear hJ hEa hMa hFa c0 c1 hG0
            obtain ⟨c0, c1⟩ := HC.out wa hJa.bel
            go_wp2_with fail
            refine (encE b Jb te (.slice A3 blk.l.length cap3) blk.l wa hGa hJa.eb (fun k h => by have := hJa.bb k h; omega) (HLL.out.below hJa.bel) (HAP.out _ hJa.bb) HS.out (by omega)).mono ?_
            rintro e wb ⟨rfl, Kb, hEb, hMb, hFb⟩
            have hJb := hJa.stB hEb hMb hFb
            have hGb := hG.below hJb.bel hgs
            clear hJa hEb hMb hFb c0 c1 hGa
            obtain ⟨c0, c1⟩ := HC.out wb hJb.bel
            have hL1l := encL_len2 te blk.l hsmall
            obtain ⟨L1, hL1⟩ : ∃ L1, L1 = encL te blk.l := ⟨_, rfl⟩
            obtain ⟨o1, o2, o3, o4, o5, o6⟩ := both_ok te td blk.l HJI.out HJB.out HS.out (by have := bulkF_size blk.l; omega)
            rw [← hL1] at o1 o2 o3 o4 o5 o6 hL1l ⊢
            have HO := Lib.hid o1
            have H2 := Lib.hid o2
            have H6 := Lib.hid o6
            clear o1 o2 o3 o4 o5 o6 hL1
            go_wp2_with fail
            refine (decD c Jc td L1 4611686018427387904 wb hGb hJb.dc (fun k h => by have := hJb.bcc k h; omega) HJB.out hL1l).mono ?_
            rintro e wc ⟨mv, Kc, rfl, hOm, hDc, hMc, hFc, hmv⟩
            rw [HO.out] at hOm ⊢
            simp only at hOm ⊢
            have hJc := hJb.stC hDc hMc hFc
            have hGc := hG.below hJc.bel hgs
            have hmvd := hJc.dd.apart hOm
            have hszb := hJb.bel.size
            clear hJb hDc hMc hFc c0 c1 hGb
            obtain ⟨c0, c1⟩ := HC.out wc hJc.bel
            go_wp2_with fail
            refine (decD d Jd td L1 4611686018427387904 wc hGc hJc.dd (fun k h => by have := hJc.bdd k h; omega) HJB.out hL1l).mono ?_
            rintro e wd ⟨nv, Kd, rfl, hOn, hDd, hMd, hFd, hnv⟩
            rw [HO.out] at hOn ⊢
            simp only at hOn ⊢
            have hOm2 := hMd.own hOm hmvd
            have hmnlt : ∀ k, mv.ownBlock = some k → nv.ownBlock ≠ some k := fun k h1 h2 => by have := hOm.lt k h1; have := hnv k h2; omega
            have hmb : ∀ k, mv.ownBlock = some k → w.heap.size ≤ k := fun k h1 => by have := hmv k h1; omega
            have hJd := hJc.stD hDd hMd hFd
            have hGd := hG.below hJd.bel hgs
            clear hJc hDd hMd hFd c0 c1 hGc hOm hmvd hmv hnv
            obtain ⟨c0, c1⟩ := HC.out wd hJd.bel
            go_wp2_with fail
            refine (same_any mv (.slice A3 blk.l.length cap3) blk.l wd (Rds.of_own hOm2) (HLL.out.below hJd.bel)).mono ?_
            rintro e we ⟨rfl, hbe⟩
            have hJe := hJd.below hbe
            have hOm3 := (Mod.ofBelow (S := fun _ => False) hbe).own hOm2 (fun _ _ h => h)
            have hOn3 := (Mod.ofBelow (S := fun _ => False) hbe).own hOn (fun _ _ h => h)
            clear hJd hbe hOm2 hOn c0 c1 hGd
            obtain ⟨c0, c1⟩ := HC.out we hJe.bel
            go_wp2_with fail
            refine (same_any nv (.slice A3 blk.l.length cap3) blk.l we (Rds.of_own hOn3) (HLL.out.below hJe.bel)).mono ?_
            rintro e wf ⟨rfl, hbf⟩
            have hJf := hJe.below hbf
            have hOm4 := (Mod.ofBelow (S := fun _ => False) hbf).own hOm3 (fun _ _ h => h)
            have hOn4 := (Mod.ofBelow (S := fun _ => False) hbf).own hOn3 (fun _ _ h => h)
            clear hJe hbf hOm3 hOn3 c0 c1
            obtain ⟨A4, cap4, rfl, he1, he2⟩ := hOm4.form'
            unfold maxLen at he2
            go_wp2_with fail
            go_loopw [17] (fun i wr => ∃ (q : Nat) (xs : List Value), i = .int .i64 q ∧ q ≤ blk.l.length ∧ Own wr 40 3 (.slice A4 blk.l.length cap4) blk.l.length xs ∧ Mod (fun x => (Value.slice A4 blk.l.length cap4).ownBlock = some x) wf wr) (fun i _ => blk.l.length - (intOf i).toNat)
            case atStart => exact ⟨0, _, rfl, by omega, hOm4, Mod.refl _ _⟩
            case round =>
              obtain ⟨q, xs, rfl, hq, hOq, hMq⟩ := hrel
              by_cases hql : q < blk.l.length
              · obtain ⟨g4, off4, cap4', hv4, _, _, hgl4⟩ := hOq.form (by omega)
                cases hv4
                have hxl := hOq.len
                have h8 : (q : Int) < (blk.l.length : Int) := by omega
                have h9 : (0 : Int) ≤ (q : Int) := by omega
                have t0 := hOq.cellAt (q * 3) (off4 + q * 3) _ rfl (List.getElem?_eq_getElem (by omega))
                have t1 := hOq.cellAt (q * 3 + 1) (off4 + q * 3 + 1) _ (by omega) (List.getElem?_eq_getElem (by omega))
                have t2 := hOq.cellAt (q * 3 + 2) (off4 + q * 3 + 2) _ (by omega) (List.getElem?_eq_getElem (by omega))
                have u0 := hOq.free (off4 + q * 3)
                have u1 := hOq.free (off4 + q * 3 + 1)
                have u2 := hOq.free (off4 + q * 3 + 2)
                go_wp2_with fail
                go_roundw
                case rel =>
                  obtain ⟨xs2, k1, k2⟩ := own_put3 hOq q (.string ⟨#[119, 114, 105, 116, 116, 101, 110]⟩) (.string ⟨#[]⟩) (.bool false)
                  exact ⟨q + 1, xs2, by go_num, by omega, k1, hMq.trans k2 (fun x _ hx => by rw [hx]; rfl)⟩
                case measure => simp [intOf] <;> omega
              · have hge2 : decide ((q : Int) < (blk.l.length : Int)) = false := by simp; omega
                have hJg := hJf.far hMq hmb (fun x hx => ⟨hJf.ea.apart hOm4 x hx, hJf.eb.apart hOm4 x hx, hJf.dc.apart hOm4 x hx, hJf.dd.apart hOm4 x hx⟩)
                have hOn5 := hMq.own hOn4 (fun x h1 h2 => hmnlt x h2 h1)
                clear hMq hOq hJf hOm4 hOn4 hmb hmnlt
                go_wp2_with fail
                refine (tabE a Ka _ wr hJg.ea).mono ?_
                rintro e wh ⟨gu, Tu, rfl, hTu, hbh, hFu⟩
                have hJh := hJg.below hbh
                have hOn6 := (Mod.ofBelow (S := fun _ => False) hbh).own hOn5 (fun _ _ h => h)
                have hdu : ∀ x, Tu x → ¬ Ka x ∧ ¬ Kb x ∧ ¬ Kc x ∧ ¬ Kd x := fun x hx => by
                  have h0 := hFu x hx
                  exact ⟨fun h => by have := hJg.ea.lt x h; omega, fun h => by have := hJg.eb.lt x h; omega, fun h => by have := hJg.dc.lt x h; omega, fun h => by have := hJg.dd.lt x h; omega⟩
                have hub : ∀ x, Tu x → w.heap.size ≤ x := fun x hx => by have := hFu x hx; have := hJg.bel.size; omega
                clear hJg hbh hOn5 hFu
                go_wp2_with fail
                refine (tabD c Kc _ wh hJh.dc).mono ?_
                rintro e wi ⟨gv, Tv, rfl, hTv, hbi, hFv⟩
                have hJi := hJh.below hbi
                have hOn7 := (Mod.ofBelow (S := fun _ => False) hbi).own hOn6 (fun _ _ h => h)
                have hTu2 := hTu.below hbi
                have hduv : ∀ x, Tv x → ¬ Tu x := fun x hx h => by have := hFv x hx; have := hTu.lt x h; omega
                have hdv : ∀ x, Tv x → ¬ Ka x ∧ ¬ Kb x ∧ ¬ Kc x ∧ ¬ Kd x := fun x hx => by
                  have h0 := hFv x hx
                  exact ⟨fun h => by have := hJh.ea.lt x h; omega, fun h => by have := hJh.eb.lt x h; omega, fun h => by have := hJh.dc.lt x h; omega, fun h => by have := hJh.dd.lt x h; omega⟩
                have hvb : ∀ x, Tv x → w.heap.size ≤ x := fun x hx => by have := hFv x hx; have := hJh.bel.size; omega
                clear hJh hbi hOn6 hTu hFv
                obtain ⟨c0, c1⟩ := HC.out wi hJi.bel
                go_wp2_with fail
                refine (same_any nv (.slice A3 blk.l.length cap3) blk.l wi (Rds.of_own hOn7) (HLL.out.below hJi.bel)).mono ?_
                rintro e wj ⟨rfl, hbj⟩
                have hJj := hJi.below hbj
                have hTu3 := hTu2.below hbj
                have hTv3 := hTv.below hbj
                clear hJi hbj hTu2 hTv hOn7 c0 c1
                obtain ⟨vu, rfl, hTuT⟩ := hTu3
                obtain ⟨vv, rfl, hTvT⟩ := hTv3
                go_wp2_with fail
                refine (Table.add_any gu vu _ _ _ _ wj hTuT (by decide) (by decide)).mono ?_
                rintro e wk ⟨rfl, vu2, _, hMk, _⟩
                have hJk := hJj.far hMk hub hdu
                have hTvK := hTvT.mod hMk (hduv gv (.inl rfl)) (fun x hx => hduv x (.inr hx))
                clear hJj hMk hTuT hTvT hub hdu hduv
                go_wp2_with fail
                refine (Table.resize_any 0 gv vv _ _ wk hTvK (by omega)).mono ?_
                rintro e wl ⟨rfl, vv2, _, hMl, _⟩
                have hJl := hJk.far hMl (fun x hx => by subst hx; exact hvb _ (.inl rfl)) (fun x hx => by subst hx; exact hdv _ (.inl rfl))
                clear hJk hMl hTvK hvb hdv
                go_wp2_with fail
                refine (tabE a Ka _ wl hJl.ea).mono ?_
                rintro e w1 ⟨g1, T1, rfl, hT1, hb1, _⟩
                have hJ1 := hJl.below hb1
                clear hJl hb1
                go_wp2_with fail
                refine (tabE b Kb _ w1 hJ1.eb).mono ?_
                rintro e w2 ⟨g2, T2, rfl, hT2, hb2, _⟩
                have hJ2 := hJ1.below hb2
                obtain ⟨v1, rfl, hT1t⟩ := hT1.below hb2
                obtain ⟨v2, rfl, hT2t⟩ := hT2
                clear hJ1 hb2 hT1
                go_wp2_with fail
                refine (alike_any g1 g2 v1 v2 _ _ w2 hT1t hT2t).mono ?_
                rintro e w3 ⟨rfl, hb3⟩
                have hJ3 := hJ2.below hb3
                clear hJ2 hb3 hT1t hT2t
                go_wp2_with fail
                refine (tabD c Kc _ w3 hJ3.dc).mono ?_
                rintro e w4 ⟨g3, T3, rfl, hT3, hb4, _⟩
                have hJ4 := hJ3.below hb4
                clear hJ3
                go_wp2_with fail
                refine (tabD d Kd _ w4 hJ4.dd).mono ?_
                rintro e w5 ⟨g4, T4, rfl, hT4, hb5, _⟩
                have hJ5 := hJ4.below hb5
                obtain ⟨v3, rfl, hT3t⟩ := hT3.below hb5
                obtain ⟨v4, rfl, hT4t⟩ := hT4
                clear hJ4 hb5 hT3 hb4
                go_wp2_with fail
                refine (alike_any g3 g4 v3 v4 _ _ w5 hT3t hT4t).mono ?_
                rintro e w6 ⟨rfl, hb6⟩
                have hJ6 := hJ5.below hb6
                clear hJ5 hb6 hT3t hT4t
                go_wp2_with fail
                refine (tabE a Ka _ w6 hJ6.ea).mono ?_
                rintro e w7 ⟨g5, T5, rfl, hT5, hb7, _⟩
                have hJ7 := hJ6.below hb7
                clear hJ6 hb7
                go_wp2_with fail
                refine (tabD c Kc _ w7 hJ7.dc).mono ?_
                rintro e w8 ⟨g6, T6, rfl, hT6, hb8, _⟩
                have hJ8 := hJ7.below hb8
                obtain ⟨v5, rfl, hT5t⟩ := hT5.below hb8
                obtain ⟨v6, rfl, hT6t⟩ := hT6
                rw [← H6.out.emx, ← H6.out.ees] at hT6t
                clear hJ7 hb8 hT5
                go_wp2_with fail
                refine (alike_any g5 g6 v5 v6 _ _ w8 hT5t hT6t).mono ?_
                rintro e w9 ⟨rfl, hb9⟩
                have hJ9 := hJ8.below hb9
                clear hJ8 hb9 hT5t hT6t
                go_wp2_with fail
                go_roundw
                case rel => exact ⟨k + 1, Ka, Kb, Kc, Kd, te.next blk.l, td.next L1, by go_num, by omega, hJ9, H6.out, H2.out⟩
                case measure => simp [intOf] <;> omega
          · refine (encLong a (.slice A3 blk.l.length cap3) blk.l wr (HLL.out.below hJ.bel) hs (by omega)).mono ?_
            rintro e wa ⟨rfl, hba⟩
            have hJa := hJ.below hba
            clear hJ hba c0 c1 hG0
            obtain ⟨c0, c1⟩ := HC.out wa hJa.bel
            go_wp2_with fail
            refine (encLong b (.slice A3 blk.l.length cap3) blk.l wa (HLL.out.below hJa.bel) hs (by omega)).mono ?_
            rintro e wb ⟨rfl, hbb⟩
            have hJb := hJa.below hbb
            clear hJa hbb c0 c1
            go_wp2_with fail
            go_roundw
            case rel => exact ⟨k + 1, Ja, Jb, Jc, Jd, te, td, by go_num, by omega, hJb, HJI.out, HJB.out⟩
            case measure => simp [intOf] <;> omega
    · have hge : decide ((k : Int) < (bs.length : Int)) = false := by simp; omega
      go_wp2_with fail
      go_ret
      exact ⟨rfl, hF.bel⟩
end Law05
end Go.Proofs.YtkpdhnkiabgghaaDoor
