/- Memory: slices that own their cells (wherever they begin in their block), what append does to them; worlds that differ in some blocks alone. Nothing of the program. -/
import Derived.WalkKit
import Derived.WalkLawsBesides
import Derived.WalkSpells
import Derived.Deep.QuietTactic
import Derived.Deep.AppendLies
import Derived.BigQuiet
import Derived.Lib.Hide
import Derived.Deep.Draws
namespace Go.Proofs.YtkpdhnkiabgghaaDoor
open Go.RowKit
theorem ret_int {k : IntKind} {a b : Int} (h : a = b) : Ending.returned (.int k a) = .returned (.int k b) := by rw [h]
theorem ret_bool {a b : Bool} (h : a = b) : Ending.returned (.bool a) = .returned (.bool b) := by rw [h]
theorem ret_str {a b : ByteArray} (h : a = b) : Ending.returned (.string a) = .returned (.string b) := by rw [h]

theorem add_off (g o i : Nat) : (⟨g, o, none⟩ : Addr).add i = ⟨g, o + i, none⟩ := by unfold Addr.add; split <;> simp_all

theorem own_ge {B g off n c : Nat} (h : B ≤ g) : ∀ k, (Value.slice (some ⟨g, off, none⟩) n c).ownBlock = some k → B ≤ k := fun k hk => by cases hk; exact h
theorem own_ne {g off n c k : Nat} (h : k ≠ g) : some k ≠ (Value.slice (some ⟨g, off, none⟩) n c).ownBlock := fun e => h (Option.some.inj e)
theorem own_cond {p : Nat → Prop} {o : Value} {g1 off n c H : Nat} (hat : o.ownBlock = some g1 ∨ g1 = H) (ho : ∀ b, o.ownBlock = some b → p b) (hH : p H) : ∀ b, (Value.slice (some ⟨g1, off, none⟩) n c).ownBlock = some b → p b := fun b hb => by
  cases hb
  rcases hat with h | h
  · exact ho _ h
  · rw [h]; exact hH
theorem own_ge_nil {B : Nat} : ∀ k, (Value.slice none 0 0).ownBlock = some k → B ≤ k := fun k hk => by cases hk
theorem at_ge {B g off n c g1 H : Nat} (hat : (Value.slice (some ⟨g, off, none⟩) n c).ownBlock = some g1 ∨ g1 = H) (h : B ≤ g) (hH : B ≤ H) : B ≤ g1 := by
  rcases hat with h1 | h1
  · cases h1; exact h
  · omega
theorem at_ge_nil {B g1 H : Nat} (hat : (Value.slice none 0 0).ownBlock = some g1 ∨ g1 = H) (hH : B ≤ H) : B ≤ g1 := by
  rcases hat with h1 | h1
  · cases h1
  · omega

/-- A slice type, its elements' type, cells and bytes. -/
structure TI (P : Program) (t e : TypeId) (sz bytes : Nat) : Prop where
  und : P.underlying t = some (.slice e)
  inf : ∃ i z, P.info? e = some i ∧ i.zero = some z ∧ i.size = sz ∧ i.bytes = bytes ∧ z.cells.size = sz
theorem TI.mk' {P : Program} {t e : TypeId} {sz bytes : Nat} {z : Value} (hu : P.underlying t = some (.slice e)) (hi : (P.info? e).map (fun i => (i.zero, i.size, i.bytes)) = some (some z, sz, bytes)) (hz : z.cells.size = sz) : TI P t e sz bytes := by
  obtain ⟨i, h1, h2, h3, h4⟩ := info_parts hi
  exact ⟨hu, i, z, h1, h2, h3, h4, hz⟩

/-- A slice value of n elements (sz cells each) owns the cells xs. -/
def Own (w : World) (e : TypeId) (sz : Nat) (v : Value) (n : Nat) (xs : List Value) : Prop :=
  xs.length = n * sz ∧ ((v = .slice none 0 0 ∧ n = 0) ∨
    ∃ g off cap cur, v = .slice (some ⟨g, off, none⟩) n cap ∧ w.heap[g]? = some (.cells cur e (0, 0)) ∧ n ≤ cap ∧ cap ≤ maxLen ∧ off + cap * sz ≤ cur.size ∧ (cur.toList.drop off).take (n * sz) = xs)

section
variable {w : World} {e : TypeId} {sz n : Nat} {v : Value} {xs : List Value}
theorem Own.nil (w : World) (e : TypeId) (sz : Nat) : Own w e sz (.slice none 0 0) 0 [] := ⟨by simp, .inl ⟨rfl, rfl⟩⟩
theorem Own.len (h : Own w e sz v n xs) : xs.length = n * sz := h.1
theorem Own.lt (h : Own w e sz v n xs) : ∀ k, v.ownBlock = some k → k < w.heap.size := by
  intro k hk
  rcases h.2 with ⟨rfl, _⟩ | ⟨g, off, cap, cur, rfl, hg, _⟩
  · simp [Value.ownBlock] at hk
  · simp [Value.ownBlock] at hk; subst hk; exact (Array.getElem?_eq_some_iff.1 hg).1
theorem Own.kept {w' : World} (h : Own w e sz v n xs) (hk : ∀ k, v.ownBlock = some k → w'.heap[k]? = w.heap[k]?) : Own w' e sz v n xs := by
  refine ⟨h.1, ?_⟩
  rcases h.2 with hn | ⟨g, off, cap, cur, rfl, hg, r⟩
  · exact .inl hn
  · exact .inr ⟨g, off, cap, cur, rfl, by rw [hk g rfl]; exact hg, r⟩
theorem Own.alloc (h : Own w e sz v n xs) (o : Obj) : Own (w.alloc o) e sz v n xs := h.kept fun k hk => heap_alloc_old w o (h.lt k hk)
theorem Own.drew (h : Own w e sz v n xs) : Own w.drew e sz v n xs := h
theorem Own.drewN (h : Own w e sz v n xs) (m : Nat) : Own (w.drewN m) e sz v n xs := h
theorem Own.grown {w' : World} {row : Option Nat} (h : Own w e sz v n xs) (hg : w.grownBy w' row) (hne : ∀ k, v.ownBlock = some k → some k ≠ row) : Own w' e sz v n xs :=
  h.kept fun k hk => hg.block k (h.lt k hk) (hne k hk)
theorem Own.cells {g off cap : Nat} (h : Own w e sz (.slice (some ⟨g, off, none⟩) n cap) n xs) : ∀ j u, xs[j]? = some u → w.cell? ⟨g, off + j, none⟩ = some u := by
  intro j u hu
  rcases h.2 with ⟨hn, _⟩ | ⟨g', off', cap', cur, hv, hg, _, _, _, htake⟩
  · cases hn
  · cases hv
    rw [cell_of_row w g (off + j) cur e (0, 0) hg]
    rw [← htake, List.getElem?_take] at hu
    split at hu
    · simpa using hu
    · cases hu
theorem Own.form (h : Own w e sz v n xs) (hn : 0 < n) : ∃ g off cap, v = .slice (some ⟨g, off, none⟩) n cap ∧ n ≤ cap ∧ cap ≤ maxLen ∧ g < w.heap.size := by
  rcases h.2 with ⟨_, h0⟩ | ⟨g, off, cap, cur, rfl, hg, h1, h2, _⟩
  · omega
  · exact ⟨g, off, cap, rfl, h1, h2, (Array.getElem?_eq_some_iff.1 hg).1⟩
theorem Own.form' (h : Own w e sz v n xs) : ∃ A cap, v = .slice A n cap ∧ n ≤ cap ∧ cap ≤ maxLen := by
  rcases h.2 with ⟨rfl, rfl⟩ | ⟨g, off, cap, cur, rfl, hg, h1, h2, _⟩
  · exact ⟨none, 0, rfl, by omega, by simp [maxLen]⟩
  · exact ⟨_, cap, rfl, h1, h2⟩
/-- One new block, the slice over all of it. -/
theorem Own.new (w : World) (e : TypeId) (sz n : Nat) (cur : Array Value) (hs : cur.size = n * sz) (hn : n ≤ maxLen) :
    Own (w.alloc (.cells cur e)) e sz (.slice (some ⟨w.heap.size, 0, none⟩) n n) n cur.toList :=
  ⟨by simpa using hs, .inr ⟨w.heap.size, 0, n, cur, rfl, heap_alloc_new w _, Nat.le_refl _, hn, by omega, by simp [List.take_of_length_le, hs]⟩⟩
theorem Own.of_row {base : Nat} (h : w.ownsRow base e sz v n xs) : Own w e sz v n xs := by
  refine ⟨h.1, ?_⟩
  rcases h.2 with hn | ⟨g, cap, cur, rfl, _, hg, h1, h2, h3, h4⟩
  · exact .inl hn
  · exact .inr ⟨g, 0, cap, cur, rfl, hg, h1, h2, by omega, by simpa using h4⟩
/-- s = s[1:] -/
theorem Own.tail (h : Own w e sz v (n + 1) xs) : ∃ g off cap, v = .slice (some ⟨g, off, none⟩) (n + 1) (cap + 1) ∧ g < w.heap.size ∧ n ≤ cap ∧ cap + 1 ≤ maxLen ∧
    Own w e sz (.slice (some ⟨g, off + sz, none⟩) n cap) n (xs.drop sz) ∧ ∀ j u, xs[j]? = some u → w.cell? ⟨g, off + j, none⟩ = some u := by
  obtain ⟨g, off, cap, rfl, h1, h2, hlt⟩ := h.form (by omega)
  have hc := h.cells
  rcases h.2 with ⟨_, h0⟩ | ⟨g', off', cap', cur, hv, hg, _, _, hfit, htake⟩
  · omega
  · cases hv
    obtain ⟨cap, rfl⟩ : ∃ c, cap = c + 1 := ⟨cap - 1, by omega⟩
    refine ⟨g, off, cap, rfl, hlt, by omega, h2, ⟨?_, .inr ⟨g, off + sz, cap, cur, rfl, hg, by omega, by omega, ?_, ?_⟩⟩, hc⟩
    · rw [List.length_drop, h.1, Nat.add_mul]; omega
    · rw [Nat.add_mul] at hfit; omega
    · rw [← htake, List.drop_take, List.drop_drop]
      congr 1
      rw [Nat.add_mul]; omega
end

/-- s = s[1:] of a slice of one element and no spare room: the address stays. -/
theorem Own.tail0 {w : World} {e : TypeId} {sz g off : Nat} {xs : List Value} (h : Own w e sz (.slice (some ⟨g, off, none⟩) 1 1) 1 xs) : Own w e sz (.slice (some ⟨g, off, none⟩) 0 0) 0 [] := by
  rcases h.2 with ⟨hn, _⟩ | ⟨g', off', cap', cur, hv, hg, h1, h2, h3, htake⟩
  · cases hn
  · cases hv
    exact ⟨by simp, .inr ⟨g, off, 0, cur, rfl, hg, by omega, by simp [maxLen], by omega, by simp⟩⟩
theorem Own.set {w : World} {e : TypeId} {sz n g off cap : Nat} {xs : List Value} (h : Own w e sz (.slice (some ⟨g, off, none⟩) n cap) n xs) (j o : Nat) (ho : o = off + j) (u : Value) :
    Own (w.setCell ⟨g, o, none⟩ u) e sz (.slice (some ⟨g, off, none⟩) n cap) n (xs.set j u) := by
  subst ho
  refine ⟨by simpa using h.1, ?_⟩
  rcases h.2 with ⟨hn, _⟩ | ⟨g', off', cap', cur, hv, hg, h1, h2, h3, htake⟩
  · cases hn
  · cases hv
    refine .inr ⟨g, off, cap, _, rfl, heap_setCell_same w g (off + j) cur e u hg, h1, h2, by simpa using h3, ?_⟩
    rw [Array.toList_setIfInBounds, List.drop_set, if_neg (by omega), List.take_set, htake, show off + j - off = j from by omega]
theorem Own.free {w : World} {e : TypeId} {sz n g off cap : Nat} {xs : List Value} (h : Own w e sz (.slice (some ⟨g, off, none⟩) n cap) n xs) (o : Nat) : w.frozen? ⟨g, o, none⟩ = false := by
  rcases h.2 with ⟨hn, _⟩ | ⟨g', off', cap', cur, hv, hg, _⟩
  · cases hn
  · cases hv
    exact frozen_of_row w g o cur e hg
theorem Own.cellAt {w : World} {e : TypeId} {sz n g off cap : Nat} {xs : List Value} (h : Own w e sz (.slice (some ⟨g, off, none⟩) n cap) n xs) (j o : Nat) (u : Value) (ho : o = off + j) (hu : xs[j]? = some u) : w.cell? ⟨g, o, none⟩ = some u := by
  subst ho; exact h.cells j u hu
theorem Own.setFar {w : World} {e : TypeId} {sz n : Nat} {v : Value} {xs : List Value} (h : Own w e sz v n xs) (a : Addr) (u : Value) (ha : v.ownBlock ≠ some a.block) : Own (w.setCell a u) e sz v n xs :=
  h.kept fun k hk => heap_setCell_other w a k u (fun e => ha (by rw [hk, e]))
/-! ### bits -/
theorem u32_and_one (x : Int) (h0 : 0 ≤ x) (h1 : x < 4294967296) : bits .and .u32 x 1 = x % 2 := by
  obtain ⟨n, rfl⟩ := Int.eq_ofNat_of_zero_le h0
  have hn : (BitVec.ofInt 32 (n : Int)).toNat = n := by rw [BitVec.ofInt_natCast, BitVec.toNat_ofNat]; exact Nat.mod_eq_of_lt (by omega)
  show IntKind.u32.wrap ((BitVec.ofInt 32 (n : Int) &&& BitVec.ofInt 32 1).toNat : Int) = _
  rw [BitVec.toNat_and, hn]
  have : (BitVec.ofInt 32 1).toNat = 1 := rfl
  rw [this, Nat.and_one_is_mod]
  have : IntKind.u32.wrap ((n % 2 : Nat) : Int) = ((n % 2 : Nat) : Int) % 4294967296 := rfl
  rw [this]
  omega
theorem not_i64 (s : Int) (h0 : -4294967296 ≤ s) (h : s < 4294967296) : bits .xor .i64 (if IntKind.i64.signed = true then -1 else 9223372036854775807) s = -s - 1 := by
  have e : (if IntKind.i64.signed = true then (-1 : Int) else 9223372036854775807) = -1 := rfl
  rw [e]
  show IntKind.i64.wrap ((BitVec.ofInt 64 (-1) ^^^ BitVec.ofInt 64 s).toNat : Int) = _
  have h1 : BitVec.ofInt 64 (-1) = BitVec.allOnes 64 := by decide
  rw [h1, BitVec.allOnes_xor, BitVec.toNat_not, IntKind.wrap_i64]
  have h2 : ((BitVec.ofInt 64 s).toNat : Int) = s % 18446744073709551616 := by
    rw [BitVec.toNat_ofInt]; omega
  have h3 := (BitVec.ofInt 64 s).isLt
  omega

section
variable {P : Program}
theorem run_append_at (w : World) (t ty e : TypeId) (i : TypeInfo) (ht : P.underlying t = some (.slice e)) (hi : P.info? e = some i)
    (g off sLen sCap : Nat) (cur : Array Value) (hg : w.heap[g]? = some (.cells cur e (0, 0)))
    (a : Addr) (m c : Nat) (news : List Value) (hl : news.length = m * i.size) (hnews : ∀ j u, news[j]? = some u → w.cell? (a.add j) = some u) (h1 : ∀ u ∈ news, u.oneCell' = true)
    (hroom : sLen + m ≤ sCap) (hfit : off + sLen * i.size + news.length ≤ cur.size) :
    (Builtin.append_ #[t, t] ty #[.slice (some ⟨g, off, none⟩) sLen sCap, .slice (some a) m c]).run P w =
      .ok (.slice (some ⟨g, off, none⟩) (sLen + m) sCap) (w.setRow g (cur.toList.take (off + sLen * i.size) ++ news ++ cur.toList.drop (off + sLen * i.size + news.length)).toArray) := by
  have hf := run_firstCells_some (P := P) w i.size m a m c news hl hnews
  have hst := run_storeCells_at P g (off + sLen * i.size) e news 0 cur w hg (by simpa using hfit) h1
  simp only [Nat.add_zero] at hst
  simp [Builtin.append_, run_underlying ht, sizeOf, typeInfo, hi, Builtin.lenOf, hroom, hf, add_off, hst]

/-- append, m > 0 elements: where there is room, in place; else in a new block. -/
theorem run_app {w : World} {t ty e : TypeId} {sz bytes : Nat} (ti : TI P t e sz bytes) (hsz : 0 < sz) {v : Value} {n : Nat} {xs : List Value} (hown : Own w e sz v n xs)
    (a : Addr) (m c : Nat) (news : List Value) (hl : news.length = m * sz) (hnews : ∀ j u, news[j]? = some u → w.cell? (a.add j) = some u) (h1 : ∀ u ∈ news, u.oneCell' = true)
    (hm : 0 < m) (h63 : n + m ≤ maxLen) (hbytes : (n + m) * bytes ≤ 140737488355328) :
    ∃ g off cap w', (Builtin.append_ #[t, t] ty #[v, .slice (some a) m c]).run P w = .ok (.slice (some ⟨g, off, none⟩) (n + m) cap) w' ∧
      Own w' e sz (.slice (some ⟨g, off, none⟩) (n + m) cap) (n + m) (xs ++ news) ∧ w.grownBy w' v.ownBlock ∧ (v.ownBlock = some g ∨ g = w.heap.size) ∧ g < w'.heap.size := by
  obtain ⟨ht, i, z, hi, hz, rfl, rfl, hzs⟩ := ti
  have hlen : (xs ++ news).length = (n + m) * i.size := by rw [List.length_append, hown.1, hl, Nat.add_mul]
  have grown : ∀ (old : Nat), old < n + m → ∀ (row : Option Nat),
      Own (w.drew.alloc (.cells (xs.toArray ++ news.toArray ++ Builtin.zeroCells z.cells (grownCap w (n + m) old e - (n + m))) e)) e i.size
        (.slice (some ⟨w.heap.size, 0, none⟩) (n + m) (grownCap w (n + m) old e)) (n + m) (xs ++ news) ∧
      w.grownBy (w.drew.alloc (.cells (xs.toArray ++ news.toArray ++ Builtin.zeroCells z.cells (grownCap w (n + m) old e - (n + m))) e)) row := by
    intro old ho row
    have hge := grownCap_ge w (n + m) old e
    have hcm : grownCap w (n + m) old e ≤ maxLen := grownCap_le_maxLen w (n + m) old e h63
    refine ⟨⟨hlen, .inr ⟨w.heap.size, 0, _, _, rfl, heap_alloc_new w.drew _, hge, hcm, ?_, ?_⟩⟩, ⟨rfl, rfl, rfl, by simp, fun k hk _ => heap_alloc_old w.drew _ hk⟩⟩
    · simp only [Array.size_append, List.size_toArray, size_zeroCells, hzs, hown.1, hl, ← Nat.add_mul, Nat.zero_add]
      apply Nat.mul_le_mul_right
      omega
    · simp only [Array.toList_append, List.append_assoc, List.drop_zero]
      rw [← List.append_assoc, ← hlen]
      exact List.take_left
  rcases hown.2 with ⟨rfl, rfl⟩ | ⟨g, off, cap, cur, rfl, hg, hnc, hcm, hcs, htake⟩
  · have hx : xs = [] := List.eq_nil_of_length_eq_zero (by simpa using hown.1)
    subst hx
    have hr := run_append_nil (P := P) w t ty e i z ht hi hz a m c news hl hnews (by omega) (by simp only [maxLen] at h63; omega) (by have hb := hbytes; simp only [Nat.zero_add] at hb; omega)
    have hgr := grown 0 (by omega) (Value.ownBlock (.slice none 0 0))
    simp only [Nat.zero_add, List.nil_append, Array.empty_append] at hgr ⊢
    exact ⟨_, _, _, _, hr, hgr.1, hgr.2, .inr rfl, by simp⟩
  · by_cases hroom : n + m ≤ cap
    · have hmul : n * i.size + m * i.size ≤ cap * i.size := by rw [← Nat.add_mul]; exact Nat.mul_le_mul_right _ hroom
      have hfit : off + n * i.size + news.length ≤ cur.size := by omega
      have hr := run_append_at (P := P) w t ty e i ht hi g off n cap cur hg a m c news hl hnews h1 hroom hfit
      have hoff : off ≤ cur.toList.length := by simp; omega
      refine ⟨g, off, cap, _, hr, ⟨hlen, .inr ⟨g, off, cap, _, rfl, setRow_heap w g cur _ e _ hg, hroom, hcm, ?_, ?_⟩⟩, ⟨rfl, rfl, rfl, by simp, fun k _ hk => setRow_other w g k _ (fun e => hk (by simp [Value.ownBlock, e]))⟩, .inl rfl, ?_⟩
      · simp only [List.size_toArray, List.length_append, List.length_take, List.length_drop, Array.length_toList]
        omega
      · show (List.drop off (cur.toList.take (off + n * i.size) ++ news ++ cur.toList.drop (off + n * i.size + news.length))).take ((n + m) * i.size) = _
        rw [List.append_assoc, List.drop_append, List.drop_take]
        have e1 : (cur.toList.take (off + n * i.size)).length = off + n * i.size := by rw [List.length_take]; simp; omega
        rw [e1, show off + n * i.size - off = n * i.size from by omega, htake, show off - (off + n * i.size) = 0 from by omega, List.drop_zero, ← List.append_assoc, ← hlen]
        exact List.take_left
      · have := (Array.getElem?_eq_some_iff.1 hg).1
        simpa using this
    · have holds : ∀ j u, xs[j]? = some u → w.cell? ((⟨g, off, none⟩ : Addr).add j) = some u := fun j u hu => by rw [add_off]; exact hown.cells j u hu
      have hr := run_append_grow (P := P) w t ty e i z ht hi hz ⟨g, off, none⟩ n cap xs hown.1 holds a m c news hl hnews (by omega) (by simp only [maxLen] at h63; omega) (growslice_fits (by omega) hbytes)
      have hgr := grown cap (by omega) (Value.ownBlock (.slice (some ⟨g, off, none⟩) n cap))
      exact ⟨_, _, _, _, hr, hgr.1, hgr.2, .inr rfl, by simp⟩

theorem wp_app {w : World} {o : Oper} {a : Act} {K : Act → World → Prop} {Q : Exit → Act → World → Prop} (s x : Operand) (t : TypeId)
    (ho : o.op = .call { callee := .builtin .append, args := #[s, x], argTypes := #[t, t] })
    {e : TypeId} {sz bytes : Nat} (ti : TI P t e sz bytes) (hsz : 0 < sz) (v : Value) (n : Nat) (xs : List Value) (hs : a.eval s = v) (hown : Own w e sz v n xs)
    (ad : Addr) (m c : Nat) (news : List Value) (hx : a.eval x = .slice (some ad) m c) (hl : news.length = m * sz) (hnews : ∀ j u, news[j]? = some u → w.cell? (ad.add j) = some u) (h1 : ∀ u ∈ news, u.oneCell' = true)
    (hm : 0 < m) (h63 : n + m ≤ maxLen) (hbytes : (n + m) * bytes ≤ 140737488355328)
    (h : ∀ g off cap w', Own w' e sz (.slice (some ⟨g, off, none⟩) (n + m) cap) (n + m) (xs ++ news) → w.grownBy w' v.ownBlock → (v.ownBlock = some g ∨ g = w.heap.size) → g < w'.heap.size →
      K (a.put o.dst (.slice (some ⟨g, off, none⟩) (n + m) cap)) w') : o.wp P a w K Q := by
  obtain ⟨g, off, cap, w', hrun, h2, h3, h4, h5⟩ := run_app (P := P) (ty := o.type) ti hsz hown ad m c news hl hnews h1 hm h63 hbytes
  unfold Oper.wp execOp
  simp only [ho, resolve, invoke, builtin, Sem.run_bind, Sem.run_pure, Result.andThen_ok, List.map_toArray, List.map_cons, List.map_nil, hs, hx, hrun]
  exact h g off cap w' h2 h3 h4 h5

/-- 'out = append(out, x)': x lies in a block of its own, one element. -/
theorem wpList_app {w : World} {ops : Array Oper} {rest : List Oper} {o : Oper} {a : Act} {Q : Exit → Act → World → Prop} (hgd : o.guard = none) (s x : Operand) (t : TypeId)
    (ho : o.op = .call { callee := .builtin .append, args := #[s, x], argTypes := #[t, t] })
    {e : TypeId} {sz bytes : Nat} (ti : TI P t e sz bytes) (hsz : 0 < sz) (v : Value) (n : Nat) (xs : List Value) (hs : a.eval s = v) (hown : Own w e sz v n xs)
    (ad : Addr) (m c : Nat) (news : List Value) (hx : a.eval x = .slice (some ad) m c) (hl : news.length = m * sz) (hnews : ∀ j u, news[j]? = some u → w.cell? (ad.add j) = some u) (h1 : ∀ u ∈ news, u.oneCell' = true)
    (hm : 0 < m) (h63 : n + m ≤ maxLen) (hbytes : (n + m) * bytes ≤ 140737488355328)
    (h : ∀ g off cap w', Own w' e sz (.slice (some ⟨g, off, none⟩) (n + m) cap) (n + m) (xs ++ news) → w.grownBy w' v.ownBlock → (v.ownBlock = some g ∨ g = w.heap.size) → g < w'.heap.size →
      wpList P ops Q rest (a.put o.dst (.slice (some ⟨g, off, none⟩) (n + m) cap)) w') : wpList P ops Q (o :: rest) a w :=
  wpList_plain hgd fun _ hK => wp_app s x t ho ti hsz v n xs hs hown ad m c news hx hl hnews h1 hm h63 hbytes fun g off cap w' h2 h3 h4 h5 => hK _ _ (h g off cap w' h2 h3 h4 h5)

theorem step_app {w : World} {ops : Array Oper} {o : Oper} {a : Act} {K : Act → World → Prop} {Q : Exit → Act → World → Prop} {E : Prop} (hgd : o.guard = none) (s x : Operand) (t : TypeId)
    (ho : o.op = .call { callee := .builtin .append, args := #[s, x], argTypes := #[t, t] })
    {e : TypeId} {sz bytes : Nat} (ti : TI P t e sz bytes) (hsz : 0 < sz) (v : Value) (n : Nat) (xs : List Value) (hs : a.eval s = v) (hown : Own w e sz v n xs)
    (ad : Addr) (m c : Nat) (news : List Value) (hx : a.eval x = .slice (some ad) m c) (hl : news.length = m * sz) (hnews : ∀ j u, news[j]? = some u → w.cell? (ad.add j) = some u) (h1 : ∀ u ∈ news, u.oneCell' = true)
    (hm : 0 < m) (h63 : n + m ≤ maxLen) (hbytes : (n + m) * bytes ≤ 140737488355328)
    (h : ∀ g off cap w', Own w' e sz (.slice (some ⟨g, off, none⟩) (n + m) cap) (n + m) (xs ++ news) → w.grownBy w' v.ownBlock → (v.ownBlock = some g ∨ g = w.heap.size) → g < w'.heap.size →
      K (a.put o.dst (.slice (some ⟨g, off, none⟩) (n + m) cap)) w') :
    if Region.wanted o (yielded ops a.tmps) = true then Oper.wp P o a w K Q else E := by
  have hw : Region.wanted o (yielded ops a.tmps) = true := by simp [Region.wanted, hgd]
  rw [if_pos hw]
  exact wp_app s x t ho ti hsz v n xs hs hown ad m c news hx hl hnews h1 hm h63 hbytes h

/-- The cells of a block that has just been laid. -/
theorem news_new (w : World) (cs : Array Value) (t : TypeId) : ∀ j u, cs.toList[j]? = some u → (w.alloc (.cells cs t)).cell? ((⟨w.heap.size, 0, none⟩ : Addr).add j) = some u :=
  World.news_of_block (heap_alloc_new w _)
end
theorem quiet_left {P : Program} {f : FuncId} {args : Array Value} {w : World} {n : Nat} {v : Value}
    (h : Calls P f args (w.drewN n) fun e w' => e = .returned v ∧ w.drewN n = w') : Calls P f args (w.drewN n) fun e w'' => e = .returned v ∧ ∃ m, w'' = w.drewN m :=
  h.mono fun _ _ ⟨he, hm⟩ => ⟨he, n, hm.symm⟩
theorem quiet_add_left {P : Program} {f : FuncId} {args : Array Value} {w : World} {a n : Nat} {v : Value}
    (h : Calls P f args (w.drewN (a + n)) fun e w' => e = .returned v ∧ w.drewN (a + n) = w') :
    Calls P f args (w.drewN (a + n)) fun e w'' => e = .returned v ∧ ∃ m, w'' = w.drewN (a + m) :=
  h.mono fun _ _ ⟨he, hm⟩ => ⟨he, n, hm.symm⟩
/-! ### Whole blocks, behind letters -/
section
variable {P : Program} {w : World} {ops : Array Oper} {rest : List Oper} {o : Oper} {a : Act} {Q : Exit → Act → World → Prop}
/-- A new variable: its cells are not looked into. -/
theorem wpList_alloc_abs (hgd : o.guard = none) (t : TypeId) (ho : o.op = .alloc t) (i : TypeInfo) (z : Value) (zc : Array Value) (hi : P.info? t = some i) (hz : i.zero = some z) (hzc : z.cells = zc)
    (h : wpList P ops Q rest (a.put o.dst (.pointer (some ⟨w.heap.size, 0, none⟩))) (w.alloc (.cells zc t))) : wpList P ops Q (o :: rest) a w :=
  wpList_plain hgd fun _ hK => by
    subst hzc
    have hr : (zeroValue t).run P w = .ok z w := by simp [zeroValue, typeInfo, hi, hz]
    unfold Oper.wp execOp
    simp [ho, Instr.alloc, hr]
    exact hK _ _ h
/-- A whole block is stored into. -/
theorem wpList_store_all (hgd : o.guard = none) (ty : TypeId) (x y : Operand) (ho : o.op = .store ty x y)
    (g : Nat) (cur cells : Array Value) (t : TypeId) (hx : a.eval x = .pointer (some ⟨g, 0, none⟩)) (hy : a.eval y = .agg cells) (hg : w.heap[g]? = some (.cells cur t (0, 0)))
    (hs : cells.size = cur.size) (hi : (P.info? ty).map (·.size) = some cells.size) (h1 : cells.all (·.oneCell') = true)
    (h : ∀ w', w'.heap[g]? = some (.cells cells t (0, 0)) → w.grownBy w' (some g) → w'.heap.size = w.heap.size → wpList P ops Q rest (a.put o.dst undef) w') : wpList P ops Q (o :: rest) a w := by
  have hst := run_storeCells_at P g 0 t cells.toList 0 cur w hg (by simp; omega) (fun v hv => (Array.all_eq_true_iff_forall_mem.1 h1) v (by simpa using hv))
  have hlen : cur.toList.length = cells.toList.length := by simp [hs]
  have hcells : (cur.toList.take (0 + 0) ++ cells.toList ++ cur.toList.drop (0 + 0 + cells.toList.length)).toArray = cells := by
    rw [List.drop_of_length_le (by omega)]; simp
  rw [hcells] at hst
  refine wpList_plain hgd fun _ hK => ?_
  have hr : (storeVar ty ⟨g, 0, none⟩ (.agg cells)).run P w = .ok () (w.setRow g cells) := by
    cases hq : P.info? ty with
    | none => simp [hq] at hi
    | some i =>
      have hsz : cells.size = i.size := by simp [hq] at hi; omega
      simp [storeVar, sizeOf, typeInfo, hq, Value.cells, hsz, hst]
  unfold Oper.wp execOp
  simp only [ho, hx, hy, Instr.storeAt, Instr.sureAddr, Sem.run_bind, Sem.run_pure, Result.andThen_ok, hr]
  exact hK _ _ (h _ (setRow_heap w g cur cells t _ hg) ⟨rfl, rfl, rfl, by simp, fun k _ hk => setRow_other w g k _ (fun e => hk (by rw [e]))⟩ (by simp))
end
/-! ### An array's element by a letter -/
theorem run_index_one {P : Program} (t e : TypeId) (n : Nat) (cs : Array Value) (k : IntKind) (i : Nat) (v : Value) (h : P.underlying t = some (.array n e)) (d : TypeDesc) (he : P.underlying e = some d) (hd : (match d with | .struct _ | .array _ _ => true | _ => false) = false) (hs : (P.info? e).map (·.size) = some 1) (hi : i < n) (hv : cs[i]? = some v) (w : World) :
    (Instr.index t (.agg cs) (.int k (i : Int))).run P w = .ok v w := by
  have hagg : (isAgg e).run P w = .ok false w := by
    unfold isAgg
    rw [Sem.run_bind, run_underlying he w]
    cases d <;> simp_all
  have hsz : (sizeOf e).run P w = .ok 1 w := by
    cases hq : P.info? e with
    | none => simp [hq] at hs
    | some x => simp [hq] at hs; simp [sizeOf, typeInfo, hq, hs]
  have hin : ((0 : Int) ≤ (i : Int) ∧ (i : Int) < (n : Int)) := by omega
  simp [Instr.index, asIntOf, run_underlying h, hin, hsz, part, hagg, hv]
  omega
theorem run_index_agg {P : Program} (t e : TypeId) (n : Nat) (cs : Array Value) (k : IntKind) (i sz : Nat) (h : P.underlying t = some (.array n e)) (d : TypeDesc) (he : P.underlying e = some d) (hd : (match d with | .struct _ | .array _ _ => true | _ => false) = true) (hs : (P.info? e).map (·.size) = some sz) (hi : i < n) (vs : Array Value) (hv : cs.extract (i * sz) (i * sz + sz) = vs) (w : World) :
    (Instr.index t (.agg cs) (.int k (i : Int))).run P w = .ok (.agg vs) w := by
  have hagg : (isAgg e).run P w = .ok true w := by
    unfold isAgg
    rw [Sem.run_bind, run_underlying he w]
    cases d <;> simp_all
  have hsz : (sizeOf e).run P w = .ok sz w := by
    cases hq : P.info? e with
    | none => simp [hq] at hs
    | some x => simp [hq] at hs; simp [sizeOf, typeInfo, hq, hs]
  have hin : ((0 : Int) ≤ (i : Int) ∧ (i : Int) < (n : Int)) := by omega
  simp [Instr.index, asIntOf, run_underlying h, hin, hsz, part, hagg, hv]
  omega
theorem blw_drewN {B : Nat} {a w : World} (h : Below B a w) (n : Nat) : Below B a (w.drewN n) := h.trans ⟨rfl, rfl, rfl, Nat.le_refl _, fun _ _ => rfl⟩
theorem lt_of_blk {w : World} {b : Nat} {o : Obj} (h : w.heap[b]? = some o) : b < w.heap.size := (Array.getElem?_eq_some_iff.1 h).1
/-- A list that is laid down cell by cell. -/
def fillL {α : Type} (l : List α) (z : α) (k : Nat) : List α := l.take k ++ List.replicate (l.length - k) z
theorem fillL_length {α : Type} (l : List α) (z : α) (k : Nat) : (fillL l z k).length = l.length := by simp [fillL]; omega
theorem fillL_zero {α : Type} (l : List α) (z : α) : fillL l z 0 = List.replicate l.length z := by simp [fillL]
theorem fillL_all {α : Type} (l : List α) (z : α) : fillL l z l.length = l := by simp [fillL]
theorem fillL_set {α : Type} (l : List α) (z : α) (k : Nat) (h : k < l.length) : (fillL l z k).set k l[k] = fillL l z (k + 1) := by
  unfold fillL
  rw [List.set_append, if_neg (by simp; omega), show l.length - k = (l.length - (k + 1)) + 1 from by omega, List.replicate_succ]
  have e : k - (l.take k).length = 0 := by simp; omega
  rw [e, List.set_cons_zero, List.take_succ_eq_append_getElem h, List.append_assoc]
  rfl
/-! ### A world that differs in some old blocks alone -/
structure Mod (S : Nat → Prop) (w w' : World) : Prop where
  os : w'.os = w.os
  tape : w'.tape = w.tape
  output : w'.output = w.output
  size : w.heap.size ≤ w'.heap.size
  block : ∀ k, k < w.heap.size → ¬ S k → w'.heap[k]? = w.heap[k]?
section
variable {S T : Nat → Prop} {a b c w w' : World}
theorem Mod.refl (S : Nat → Prop) (w : World) : Mod S w w := ⟨rfl, rfl, rfl, Nat.le_refl _, fun _ _ _ => rfl⟩
theorem Mod.trans (h : Mod S a b) (k : Mod T b c) (hT : ∀ i, i < a.heap.size → T i → S i) : Mod S a c :=
  ⟨k.os.trans h.os, k.tape.trans h.tape, k.output.trans h.output, Nat.le_trans h.size k.size, fun i hi hs => (k.block i (Nat.lt_of_lt_of_le hi h.size) (fun ht => hs (hT i hi ht))).trans (h.block i hi hs)⟩
theorem Mod.ofBelow (h : Below w.heap.size w w') : Mod S w w' := ⟨h.os, h.tape, h.output, h.size, fun k hk _ => h.block k hk⟩
theorem Mod.mono (h : Mod S a b) (hT : ∀ i, i < a.heap.size → S i → T i) : Mod T a b := ⟨h.os, h.tape, h.output, h.size, fun k hk ht => h.block k hk (fun hs => ht (hT k hk hs))⟩
theorem Mod.toBelow {B : Nat} (h : Mod S a b) (hS : ∀ i, i < a.heap.size → S i → B ≤ i) (hB : B ≤ a.heap.size) : Below B a b :=
  ⟨h.os, h.tape, h.output, h.size, fun k hk => h.block k (by omega) (fun hs => by have := hS k (by omega) hs; omega)⟩
theorem Mod.below (h : Mod S a b) (k : Below b.heap.size b c) : Mod S a c := h.trans (Mod.ofBelow (S := S) k) (fun _ _ h => h)
theorem Mod.alloc (h : Mod S a b) (o : Obj) : Mod S a (b.alloc o) := h.below ((Below.refl _ _).alloc (Nat.le_refl _) o)
theorem Mod.drew (h : Mod S a b) : Mod S a b.drew := h.below (Below.refl _ _).drew
theorem Mod.drewN (h : Mod S a b) (n : Nat) : Mod S a (b.drewN n) := h.below (blw_drewN (Below.refl _ _) n)
theorem Mod.setCell (h : Mod S a b) {p : Addr} (hp : p.block < a.heap.size → S p.block) (u : Value) : Mod S a (b.setCell p u) :=
  h.trans (T := fun i => i = p.block) ⟨rfl, rfl, rfl, by simp [World.setCell], fun k _ hk => Below.heap_setCell _ _ _ _ hk⟩ (fun i hi e => by subst e; exact hp hi)
theorem Mod.grown {row : Option Nat} (h : Mod S a b) (hg : b.grownBy c row) (hr : ∀ k, row = some k → k < a.heap.size → S k) : Mod S a c :=
  h.trans (T := fun i => row = some i) ⟨hg.os, hg.tape, hg.output, hg.size, fun k hk hs => hg.block k hk (fun e => hs e.symm)⟩ (fun i hi e => hr i e hi)
theorem Mod.blk (h : Mod S a b) {k : Nat} {o : Obj} (hk : a.heap[k]? = some o) (hs : ¬ S k) : b.heap[k]? = some o := (h.block k (lt_of_blk hk) hs).trans hk
theorem Mod.own (h : Mod S a b) {e : TypeId} {sz n : Nat} {v : Value} {xs : List Value} (ho : Own a e sz v n xs) (hs : ∀ k, v.ownBlock = some k → ¬ S k) : Own b e sz v n xs :=
  ho.kept fun k hk => h.block k (ho.lt k hk) (hs k hk)
end
end Go.Proofs.YtkpdhnkiabgghaaDoor
