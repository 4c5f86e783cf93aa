/- The plain law of header blocks: what is encoded is decoded, and the tables stay in step. Nothing of the program is walked. -/
import Derived.Test.YtkpdhnkiabgghaaDoorPlText
import Derived.Test.YtkpdhnkiabgghaaDoorDecA
namespace Go.Proofs.YtkpdhnkiabgghaaDoor
open Go.RowKit
namespace Table
theorem findGo_spec (n s : ByteArray) : ∀ (l : List Ent) (k nm : Nat), 0 < k →
    (∀ i, findGo n s (idx k l) nm = (i, true) → ∃ j, l[j]? = some (n, s) ∧ i = k + j) ∧
    (∀ i, findGo n s (idx k l) nm = (i, false) → i = nm ∨ ∃ j v, l[j]? = some (n, v) ∧ i = k + j) := by
  intro l
  induction l with
  | nil =>
    intro k nm _
    refine ⟨fun i h => ?_, fun i h => ?_⟩
    · simp [idx, findGo] at h
    · simp only [idx, findGo, Prod.mk.injEq] at h; exact .inl h.1.symm
  | cons e l ih =>
    intro k nm hk
    obtain ⟨a, b⟩ := e
    have step : ∀ m, (∀ i, findGo n s (idx (k + 1) l) m = (i, true) → ∃ j, ((a, b) :: l)[j]? = some (n, s) ∧ i = k + j) ∧
        (∀ i, findGo n s (idx (k + 1) l) m = (i, false) → i = m ∨ ∃ j v, ((a, b) :: l)[j]? = some (n, v) ∧ i = k + j) := by
      intro m
      obtain ⟨h1, h2⟩ := ih (k + 1) m (by omega)
      refine ⟨fun i h => ?_, fun i h => ?_⟩
      · obtain ⟨j, hj, hi⟩ := h1 i h
        exact ⟨j + 1, by simpa using hj, by omega⟩
      · rcases h2 i h with h | ⟨j, v, hj, hi⟩
        · exact .inl h
        · exact .inr ⟨j + 1, v, by simpa using hj, by omega⟩
    simp only [idx, findGo]
    by_cases ha : a = n
    · rw [if_pos ha]
      by_cases hb : b = s
      · rw [if_pos hb]
        refine ⟨fun i h => ?_, fun i h => ?_⟩
        · simp only [Prod.mk.injEq, and_true] at h
          exact ⟨0, by simp [ha, hb], by omega⟩
        · simp at h
      · rw [if_neg hb]
        by_cases hm : nm = 0
        · rw [if_pos hm]
          obtain ⟨h1, h2⟩ := step k
          refine ⟨h1, fun i h => ?_⟩
          rcases h2 i h with h | h
          · exact .inr ⟨0, b, by simp [ha], by omega⟩
          · exact .inr h
        · rw [if_neg hm]; exact step nm
    · rw [if_neg ha]; exact step nm
theorem atL_all (es : List Ent) (j : Nat) (e : Ent) (h : (fixedL ++ es.reverse)[j]? = some e) : atL es ((1 + j : Nat) : Int) = some e := by
  have hj := (List.getElem?_eq_some_iff.1 h).1
  rw [List.length_append, fixedL_length, List.length_reverse] at hj
  unfold atL
  by_cases hlt : j < 61
  · rw [if_pos (by omega), show (((1 + j : Nat) : Int) - 1).toNat = j from by omega]
    rwa [List.getElem?_append_left (by rw [fixedL_length]; exact hlt)] at h
  · rw [if_neg (by omega), if_pos (by omega), show es.length - (((1 + j : Nat) : Int) - 61).toNat = es.length - 1 - (j - 61) from by omega]
    rwa [List.getElem?_append_right (by rw [fixedL_length]; omega), fixedL_length, List.getElem?_reverse (by omega)] at h
theorem findL_true (es : List Ent) (n s : ByteArray) (h : (findL es n s).2 = true) : atL es ((findL es n s).1 : Nat) = some (n, s) ∧ 1 ≤ (findL es n s).1 ∧ (findL es n s).1 ≤ 61 + es.length := by
  obtain ⟨j, hj, hi⟩ := (findGo_spec n s (fixedL ++ es.reverse) 1 0 (by omega)).1 (findL es n s).1 (by rw [← h]; rfl)
  have hl := (List.getElem?_eq_some_iff.1 hj).1
  rw [List.length_append, fixedL_length, List.length_reverse] at hl
  rw [hi]
  exact ⟨atL_all es j _ hj, by omega, by omega⟩
theorem findL_name (es : List Ent) (n s : ByteArray) : (findL es n s).1 ≤ 61 + es.length ∧ (0 < (findL es n s).1 → ∃ v, atL es ((findL es n s).1 : Nat) = some (n, v)) := by
  by_cases h : (findL es n s).2 = true
  · obtain ⟨h1, h2, h3⟩ := findL_true es n s h
    exact ⟨h3, fun _ => ⟨s, h1⟩⟩
  · rcases (findGo_spec n s (fixedL ++ es.reverse) 1 0 (by omega)).2 (findL es n s).1 (by rw [← (Bool.not_eq_true _).mp h]; rfl) with h0 | ⟨j, v, hj, hi⟩
    · exact ⟨by omega, fun hp => by omega⟩
    · have hl := (List.getElem?_eq_some_iff.1 hj).1
      rw [List.length_append, fixedL_length, List.length_reverse] at hl
      exact ⟨by omega, fun _ => ⟨v, by rw [hi]; exact atL_all es j _ hj⟩⟩
end Table
namespace Pack
theorem beginL_read (which i : Nat) (r : List UInt8) (hw : which < 5) (hi : i ≤ 2147483647) :
    firstN (beginL which i ++ r) = which ∧ numberL (prefixN which) (beginL which i ++ r) = some (i, r) ∧ 1 ≤ (beginL which i).length := by
  have hlen : (beginL which i).length = (Pint.putN (forms.getD which (0, 0)).2 (forms.getD which (0, 0)).1 i).length := bytesOf_length _
  have hcase : ∀ (f p F : Int), forms.getD which (0, 0) = (f, p) → Pint.fullN p = F → 1 ≤ p → p ≤ 8 → 0 ≤ f → f + F ≤ 255 → f % (F + 1) = 0 → (∀ c : Int, f ≤ c → c ≤ f + F → formN c.toNat = which) →
      firstN (beginL which i ++ r) = which ∧ numberL (prefixN which) (beginL which i ++ r) = some (i, r) ∧ 1 ≤ (beginL which i).length := by
    intro f p F hf hF hp1 hp2 hf0 hf1 hfm hform
    have hF0 : 1 ≤ F := by have := Pint.fullN_cases p hp1 hp2; omega
    subst hF
    have hb : beginL which i = bytesOf (Pint.putN p f i) := by unfold beginL; rw [hf]
    rw [hb]
    refine ⟨?_, ?_, ?_⟩
    · obtain ⟨l, hl⟩ := Pint.putN_first p f i
      rw [hl, bytesOf_cons, List.cons_append]
      show formN (UInt8.ofNat (f + min (i : Int) (Pint.fullN p)).toNat).toNat = which
      have := byte_of (f + min (i : Int) (Pint.fullN p)) (by omega) (by omega)
      rw [show (UInt8.ofNat (f + min (i : Int) (Pint.fullN p)).toNat).toNat = (f + min (i : Int) (Pint.fullN p)).toNat from by omega]
      exact hform _ (by omega) (by omega)
    · unfold numberL
      have hpf : prefixN which = p := by unfold prefixN; rw [hf]
      rw [hpf, Pint.takeN_putN p f i r hp1 hp2 hf0 hf1 hfm (by omega) (by omega), if_pos rfl]
      simp only [Int.toNat_natCast]
      rw [← bytesOf_length, List.drop_left]
    · rw [bytesOf_length]; exact Pint.putN_pos p f i
  have hc : which = 0 ∨ which = 1 ∨ which = 2 ∨ which = 3 ∨ which = 4 := by omega
  rcases hc with rfl | rfl | rfl | rfl | rfl
  · exact hcase 128 7 127 rfl (by decide) (by omega) (by omega) (by omega) (by omega) (by omega) (fun c h1 h2 => by unfold formN; rw [if_pos (by omega)])
  · exact hcase 64 6 63 rfl (by decide) (by omega) (by omega) (by omega) (by omega) (by omega) (fun c h1 h2 => by unfold formN; rw [if_neg (by omega), if_pos (by omega)])
  · exact hcase 32 5 31 rfl (by decide) (by omega) (by omega) (by omega) (by omega) (by omega) (fun c h1 h2 => by unfold formN; rw [if_neg (by omega), if_neg (by omega), if_pos (by omega)])
  · exact hcase 16 4 15 rfl (by decide) (by omega) (by omega) (by omega) (by omega) (by omega) (fun c h1 h2 => by unfold formN; rw [if_neg (by omega), if_neg (by omega), if_neg (by omega), if_pos (by omega)])
  · exact hcase 0 4 15 rfl (by decide) (by omega) (by omega) (by omega) (by omega) (by omega) (fun c h1 h2 => by unfold formN; rw [if_neg (by omega), if_neg (by omega), if_neg (by omega), if_neg (by omega)])
theorem textL_put (s r : List UInt8) (hs : s.length ≤ 65536) : textL (Text.textPut s ++ r) = some (s, r) := by
  unfold textL
  rw [Text.take_put s r hs, if_pos rfl]
  simp only [Int.toNat_natCast]
  rw [List.drop_left]
theorem litL_parts (es : List Ent) (i : Nat) (f : Fld) (r : List UInt8) (hs : short f) (hi : 0 < i → ∃ v, Table.atL es (i : Nat) = some (f.n, v)) : litL es (partsL i f 2 ++ r) i = some (f.n, f.v, r) := by
  have hn : f.n.data.toList.length ≤ 65536 := by have := hs.1; simpa using this
  have hv : f.v.data.toList.length ≤ 65536 := by have := hs.2; simpa using this
  have hp : partsL i f 2 = (if 0 < i then [] else Text.textPut f.n.data.toList) ++ Text.textPut f.v.data.toList := rfl
  rw [hp]
  unfold litL nameL
  by_cases h : 0 < i
  · obtain ⟨v, hv2⟩ := hi h
    rw [if_pos h, if_pos h, List.nil_append, hv2]
    simp only [Option.map_some, Option.bind_some]
    rw [textL_put _ _ hv]
    simp only [Option.map_some, mk_eta]
  · rw [if_neg h, if_neg h, List.append_assoc, textL_put _ _ hn]
    simp only [Option.map_some, Option.bind_some]
    rw [textL_put _ _ hv]
    simp only [Option.map_some, mk_eta]
theorem field_pos (mx : Nat) (es : List Ent) (f : Fld) : 1 ≤ (fieldL mx es f).length := by
  have h : ∀ which i, 1 ≤ (beginL which i).length := fun which i => by unfold beginL; rw [bytesOf_length]; exact Pint.putN_pos _ _ _
  unfold fieldL
  split
  · exact h _ _
  · rw [List.length_append]; have := h (whichL mx f) (Table.findL es f.n f.v).1; omega
theorem step_field (limit mx : Nat) (es : List Ent) (f : Fld) (r : List UInt8) (out : List Fld) (ch : Nat) (hs : short f) (hes : tsize es ≤ 65536) :
    stepD limit ⟨mx, es, fieldL mx es f ++ r, out, ch⟩ = some ⟨mx, fieldT mx es f, r, out ++ [f], ch⟩ := by
  have hel : es.length ≤ 2048 := by have := tsize_len es; omega
  obtain ⟨hb, hn⟩ := Table.findL_name es f.n f.v
  unfold stepD fieldL fieldT
  by_cases h : f.never = false ∧ (Table.findL es f.n f.v).2 = true
  · obtain ⟨h1, h2, h3⟩ := Table.findL_true es f.n f.v h.2
    obtain ⟨b1, b2, b3⟩ := beginL_read 0 (Table.findL es f.n f.v).1 r (by omega) (by omega)
    rw [if_pos h, if_pos (.inl h)]
    simp only [b1, b2, Option.bind_some, if_true]
    rw [h1]
    simp only [Option.map_some]
    have : (⟨f.n, f.v, false⟩ : Fld) = f := by rw [← h.1]
    rw [this]
  · rw [if_neg h]
    have hwl : whichL mx f = 3 ∧ f.never = true ∨ whichL mx f = 4 ∧ f.never = false ∨ whichL mx f = 1 ∧ f.never = false := by
      unfold whichL
      cases hnv : f.never with
      | true => simp
      | false => simp only [Bool.false_eq_true, if_false]; split <;> simp
    have hlt : whichL mx f < 5 := by omega
    obtain ⟨b1, b2, b3⟩ := beginL_read (whichL mx f) (Table.findL es f.n f.v).1 (partsL (Table.findL es f.n f.v).1 f 2 ++ r) hlt (by omega)
    have hl := litL_parts es (Table.findL es f.n f.v).1 f r hs hn
    simp only [List.append_assoc, b1, b2, Option.bind_some]
    rw [if_neg (by omega), if_neg (by omega), hl]
    simp only [Option.map_some]
    have hcase : (⟨f.n, f.v, whichL mx f == 3⟩ : Fld) = f ∧ litT (whichL mx f == 1) mx es (f.n, f.v) = if (f.never = false ∧ (Table.findL es f.n f.v).2 = true) ∨ whichL mx f ≠ 1 then es else Table.addL mx es (f.n, f.v) := by
      rcases hwl with ⟨e1, e2⟩ | ⟨e1, e2⟩ | ⟨e1, e2⟩
      · rw [e1, if_pos (.inr (by omega))]
        exact ⟨by cases f; simp_all, rfl⟩
      · rw [e1, if_pos (.inr (by omega))]
        exact ⟨by cases f; simp_all, rfl⟩
      · rw [e1, if_neg (by intro h'; rcases h' with h' | h'; exact h h'; exact h' rfl)]
        exact ⟨by cases f; simp_all, rfl⟩
    rw [hcase.1, hcase.2]
theorem step_change (limit mx n : Nat) (es : List Ent) (r : List UInt8) (ch : Nat) (hn : n ≤ limit) (hn2 : n ≤ 4096) (hch : ch + 1 ≤ 2) :
    stepD limit ⟨mx, es, beginL 2 n ++ r, [], ch⟩ = some ⟨n, Table.shrinkL n es, r, [], ch + 1⟩ := by
  obtain ⟨b1, b2, b3⟩ := beginL_read 2 n r (by omega) (by omega)
  unfold stepD
  simp only [b1, b2, Option.bind_some]
  rw [if_neg (by omega), if_pos trivial, if_pos ⟨trivial, hch, hn⟩]
theorem addL_tsize (mx : Nat) (es : List Ent) (e : Ent) (h : tsize es ≤ 65536) (hm : mx ≤ 65536) : tsize (Table.addL mx es e) ≤ 65536 := by
  unfold Table.addL
  have hst := Table.shrinkL_tsize ((mx : Int) - (esz e : Nat)) es
  split
  · rename_i h1
    rw [tsize_append]; simp only [tsize]
    rcases hst.2 with h5 | h5
    · rw [h5]; simp only [tsize]; omega
    · omega
  · omega
theorem fieldT_tsize (mx : Nat) (es : List Ent) (f : Fld) (h : tsize es ≤ 65536) (hm : mx ≤ 65536) : tsize (fieldT mx es f) ≤ 65536 := by
  unfold fieldT
  split
  · exact h
  · exact addL_tsize mx es _ h hm
theorem fieldsT_tsize (mx : Nat) (hm : mx ≤ 65536) : ∀ (fs : List Fld) (es : List Ent), tsize es ≤ 65536 → tsize (fieldsT mx es fs) ≤ 65536
  | [], _, h => h
  | f :: fs, es, h => fieldsT_tsize mx hm fs _ (fieldT_tsize mx es f h hm)
theorem allD_fields (limit mx : Nat) (hm : mx ≤ 65536) : ∀ (fs : List Fld) (es : List Ent) (out : List Fld) (ch k : Nat), (∀ f ∈ fs, short f) → tsize es ≤ 65536 → (fieldsL mx es fs).length ≤ k →
    allD limit k ⟨mx, es, fieldsL mx es fs, out, ch⟩ = (⟨mx, fieldsT mx es fs, [], out ++ fs, ch⟩, true) := by
  intro fs
  induction fs with
  | nil =>
    intro es out ch k _ _ _
    cases k with
    | zero => simp [allD, fieldsL, fieldsT]
    | succ k => simp [allD, fieldsL, fieldsT]
  | cons f fs ih =>
    intro es out ch k hs hes hk
    have hp := field_pos mx es f
    rw [fieldsL, List.length_append] at hk
    obtain ⟨k, rfl⟩ : ∃ j, k = j + 1 := ⟨k - 1, by omega⟩
    rw [allD, fieldsL, if_neg (by simp only; intro e; have := congrArg List.length e; rw [List.length_append, List.length_nil] at this; omega), step_field limit mx es f _ out ch (hs f (by simp)) hes]
    simp only
    rw [ih _ _ _ _ (fun x hx => hs x (by simp [hx])) (fieldT_tsize mx es f hes hm) (by omega), fieldsT, List.append_assoc]
    rfl
theorem allD_change (limit mx n : Nat) (es : List Ent) (r : List UInt8) (ch k : Nat) (hn : n ≤ limit) (hn2 : n ≤ 4096) (hch : ch + 1 ≤ 2) (hk : (beginL 2 n ++ r).length ≤ k) :
    ∃ j, r.length ≤ j ∧ allD limit k ⟨mx, es, beginL 2 n ++ r, [], ch⟩ = allD limit j ⟨n, Table.shrinkL n es, r, [], ch + 1⟩ := by
  have hp := (beginL_read 2 n r (by omega) (by omega)).2.2
  rw [List.length_append] at hk
  obtain ⟨k, rfl⟩ : ∃ j, k = j + 1 := ⟨k - 1, by omega⟩
  refine ⟨k, by omega, ?_⟩
  rw [allD, if_neg (by simp only; intro e; have := congrArg List.length e; rw [List.length_append, List.length_nil] at this; omega), step_change limit mx n es r ch hn hn2 hch]
/-- What is kept between an encoder and a decoder that were given the same. -/
structure InStep (st : ES) (mx : Nat) (es : List Ent) (limit : Nat) : Prop where
  emx : st.mx = mx
  ees : st.es = es
  mle : mx ≤ 4096
  ts : tsize es ≤ mx
  lim : limit ≤ 65536
  told : st.told = true → st.least ≤ st.last ∧ st.last = min 4096 limit
  not : st.told = false → mx ≤ limit
  least : st.least ≤ 4096 ∧ st.last ≤ 4096
theorem instep_new : InStep ES.new 4096 [] 4096 := ⟨rfl, rfl, Nat.le_refl _, by simp [tsize], by omega, fun h => by simp [ES.new] at h, fun _ => Nat.le_refl _, by simp [ES.new]⟩
theorem InStep.set {st : ES} {mx : Nat} {es : List Ent} {limit : Nat} (h : InStep st mx es limit) (n : Int) : InStep (st.set n) mx es (clampN n 65536) := by
  have hl := h.least
  have h1 : clampN n 4096 = min 4096 (clampN n 65536) := by unfold clampN; omega
  refine ⟨h.emx, h.ees, h.mle, h.ts, clampN_le n 65536, fun _ => ⟨?_, h1⟩, fun hf => by simp [ES.set] at hf, ?_⟩
  · simp only [ES.set]; omega
  · have := clampN_le n 4096
    simp only [ES.set]; split <;> omega
theorem shrinkL_le (most : Nat) (es : List Ent) : tsize (Table.shrinkL most es) ≤ most := by
  rcases (Table.shrinkL_tsize most es).2 with h | h
  · rw [h]; simp [tsize]
  · omega
theorem addL_le (mx : Nat) (es : List Ent) (e : Ent) (h : tsize es ≤ mx) : tsize (Table.addL mx es e) ≤ mx := by
  unfold Table.addL
  have hst := Table.shrinkL_tsize ((mx : Int) - (esz e : Nat)) es
  split
  · rename_i h1
    rw [tsize_append]; simp only [tsize]
    rcases hst.2 with h5 | h5
    · rw [h5]; simp only [tsize]; omega
    · omega
  · omega
theorem fieldsT_le (mx : Nat) : ∀ (fs : List Fld) (es : List Ent), tsize es ≤ mx → tsize (fieldsT mx es fs) ≤ mx
  | [], _, h => h
  | f :: fs, es, h => by
    refine fieldsT_le mx fs _ ?_
    unfold fieldT
    split
    · exact h
    · exact addL_le mx es _ h
theorem preT_le (st : ES) (h1 : st.mx ≤ 4096) (h2 : st.last ≤ 4096) (h3 : tsize st.es ≤ st.mx) : (preT st).1 ≤ 4096 ∧ tsize (preT st).2 ≤ (preT st).1 := by
  unfold preT
  split
  · split
    · exact ⟨h2, shrinkL_le _ _⟩
    · split
      · exact ⟨h2, shrinkL_le _ _⟩
      · exact ⟨h1, h3⟩
  · exact ⟨h1, h3⟩
theorem read_enc (st : ES) (mx : Nat) (es : List Ent) (limit : Nat) (fs : List Fld) (h : InStep st mx es limit) (hs : ∀ f ∈ fs, short f) :
    ∃ ch, readD limit ⟨mx, es, encL st fs, [], 0⟩ = (⟨(preT st).1, fieldsT (preT st).1 (preT st).2 fs, [], fs, ch⟩, true) := by
  obtain ⟨rfl, rfl, hmle, hts, hlim, htold, hnot, hle1, hle2⟩ := h
  obtain ⟨p1, p2⟩ := preT_le st hmle hle2 hts
  have fin : ∀ (ch k : Nat) (r : List UInt8), r = fieldsL (preT st).1 (preT st).2 fs → r.length ≤ k → allD limit k ⟨(preT st).1, (preT st).2, r, [], ch⟩ = (⟨(preT st).1, fieldsT (preT st).1 (preT st).2 fs, [], fs, ch⟩, true) := by
    intro ch k r hr hk
    subst hr
    exact allD_fields limit _ (by omega) fs _ [] ch k hs (by omega) hk
  unfold readD encL
  simp only
  cases htd : st.told with
  | false =>
    have e1 : preL st = [] := by unfold preL; rw [htd]; rfl
    have e2 : preT st = (st.mx, st.es) := by unfold preT; rw [htd]; rfl
    have := hnot htd
    rw [if_neg (by omega), e1, List.nil_append]
    rw [e2] at fin ⊢
    exact ⟨0, fin 0 _ _ rfl (Nat.le_refl _)⟩
  | true =>
    obtain ⟨t1, t2⟩ := htold htd
    by_cases c1 : st.least < st.mx ∧ st.least < st.last
    · have e1 : preL st = beginL 2 st.least ++ beginL 2 st.last := by unfold preL; rw [htd, if_pos rfl, if_pos c1]
      have e2 : preT st = (st.last, Table.shrinkL st.last (Table.shrinkL st.least st.es)) := by unfold preT; rw [htd, if_pos rfl, if_pos c1]
      rw [e1, List.append_assoc]
      rw [e2] at fin ⊢
      have hf := (beginL_read 2 st.least (beginL 2 st.last ++ fieldsL st.last (Table.shrinkL st.last (Table.shrinkL st.least st.es)) fs) (by omega) (by omega)).1
      simp only
      rw [if_neg (by rw [hf]; omega)]
      obtain ⟨j, hj, ha⟩ := allD_change limit st.mx st.least st.es (beginL 2 st.last ++ fieldsL st.last (Table.shrinkL st.last (Table.shrinkL st.least st.es)) fs) 0 _ (by omega) hle1 (by omega) (Nat.le_refl _)
      rw [ha]
      obtain ⟨j2, hj2, ha2⟩ := allD_change limit st.least st.last (Table.shrinkL st.least st.es) (fieldsL st.last (Table.shrinkL st.last (Table.shrinkL st.least st.es)) fs) (0 + 1) j (by omega) hle2 (by omega) hj
      rw [ha2]
      exact ⟨_, fin _ _ _ rfl hj2⟩
    · by_cases c2 : st.last ≠ st.mx
      · have e1 : preL st = beginL 2 st.last := by unfold preL; rw [htd, if_pos rfl, if_neg c1, if_pos c2]
        have e2 : preT st = (st.last, Table.shrinkL st.last st.es) := by unfold preT; rw [htd, if_pos rfl, if_neg c1, if_pos c2]
        rw [e1]
        rw [e2] at fin ⊢
        have hf := (beginL_read 2 st.last (fieldsL st.last (Table.shrinkL st.last st.es) fs) (by omega) (by omega)).1
        simp only
        rw [if_neg (by rw [hf]; omega)]
        obtain ⟨j, hj, ha⟩ := allD_change limit st.mx st.last st.es (fieldsL st.last (Table.shrinkL st.last st.es) fs) 0 _ (by omega) hle2 (by omega) (Nat.le_refl _)
        rw [ha]
        exact ⟨_, fin _ _ _ rfl hj⟩
      · have e1 : preL st = [] := by unfold preL; rw [htd, if_pos rfl, if_neg c1, if_neg c2]
        have e2 : preT st = (st.mx, st.es) := by unfold preT; rw [htd, if_pos rfl, if_neg c1, if_neg c2]
        rw [if_neg (by omega), e1, List.nil_append]
        rw [e2] at fin ⊢
        exact ⟨0, fin 0 _ _ rfl (Nat.le_refl _)⟩
theorem InStep.next {st : ES} {mx : Nat} {es : List Ent} {limit : Nat} (h : InStep st mx es limit) (fs : List Fld) : InStep (st.next fs) (preT st).1 (fieldsT (preT st).1 (preT st).2 fs) limit := by
  obtain ⟨rfl, rfl, hmle, hts, hlim, htold, hnot, hle1, hle2⟩ := h
  obtain ⟨p1, p2⟩ := preT_le st hmle hle2 hts
  refine ⟨rfl, rfl, p1, fieldsT_le _ fs _ p2, hlim, fun h => by simp [ES.next] at h, fun _ => ?_, ⟨hle1, hle2⟩⟩
  unfold preT
  cases htd : st.told with
  | false => exact hnot htd
  | true =>
    obtain ⟨t1, t2⟩ := htold htd
    rw [if_pos rfl]
    split
    · show st.last ≤ limit; omega
    · split
      · show st.last ≤ limit; omega
      · show st.mx ≤ limit; omega
end Pack
end Go.Proofs.YtkpdhnkiabgghaaDoor
