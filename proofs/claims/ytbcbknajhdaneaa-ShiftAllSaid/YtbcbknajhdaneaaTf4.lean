/- What is proved: plain laws of tables: what becomes of a table without a row. plain laws of tables: a table without a row. the walk of the law TableStays. the walk of TableStays, as its row asks it. -/
import Derived.Test.YtbcbknajhdaneaaTe4
namespace Go.Proofs.Ytbcbknajhdaneaa
open Go.RowKit
set_option linter.unusedVariables false
set_option linter.unusedSimpArgs false
/-- where the row of a place stood before -/
def sig (r m k : Nat) : Nat := if k = r then m else k
theorem swapEs_at {l : List Int} {r m k : Nat} (hl : l.length = m + 1) (hr : r ≤ m) (hk : k < m) : (swapEs l r)[k]? = l[sig r m k]? := by
  unfold swapEs sig
  rw [hl, Nat.add_sub_cancel, List.getElem?_take, if_pos hk, List.getElem?_set]
  by_cases h : r = k
  · rw [if_pos h, if_pos (by omega), if_pos h.symm]
    have e1 := List.getElem?_eq_getElem (l := l) (i := m) (by omega)
    rw [e1, idAt_some e1]
  · rw [if_neg h, if_neg (fun e => h e.symm)]
theorem swapEs_len {l : List Int} {r m : Nat} (hl : l.length = m + 1) : (swapEs l r).length = m := by
  unfold swapEs
  rw [List.length_take, List.length_set]; omega
theorem chunk_at (l : List Int) (W k j : Nat) : (chunk l W k)[j]? = if j < W then l[k * W + j]? else none := by
  unfold chunk
  rw [List.getElem?_take]
  split
  · rw [List.getElem?_drop]
  · rfl
theorem splice_at {l c : List Int} {W r : Nat} (hc : c.length = W) (hr : r * W + W ≤ l.length) (i : Nat) : (splice l (r * W) c)[i]? = if i < r * W then l[i]? else if i < r * W + W then c[i - r * W]? else l[i]? := by
  unfold splice
  have ht : (l.take (r * W)).length = r * W := by rw [List.length_take]; omega
  by_cases h1 : i < r * W
  · rw [if_pos h1, List.getElem?_append_left (by omega), List.getElem?_take, if_pos h1]
  · rw [if_neg h1, List.getElem?_append_right (by omega), ht]
    by_cases h2 : i < r * W + W
    · rw [if_pos h2, List.getElem?_append_left (by omega)]
    · rw [if_neg h2, List.getElem?_append_right (by omega), List.getElem?_drop, hc]
      congr 1; omega
theorem swapC_chunk {l : List Int} {W r m k : Nat} (hl : l.length = W * (m + 1)) (hr : r ≤ m) (hk : k < m) : chunk (swapC l W r m) W k = chunk l W (sig r m k) := by
  have hcl : (chunk l W m).length = W := chunk_len (Nat.lt_succ_self m) hl
  have h0 : (m + 1) * W = l.length := by rw [hl, Nat.mul_comm]
  have h1 := rows_le (W := W) (show r < m + 1 by omega)
  have h2 := rows_le (W := W) hk
  rw [Nat.succ_mul] at h1 h2
  refine List.ext_getElem? fun j => ?_
  rw [chunk_at, chunk_at]
  by_cases hj : j < W
  · rw [if_pos hj, if_pos hj]
    unfold swapC
    rw [List.getElem?_take, if_pos (by omega), splice_at hcl (by omega)]
    unfold sig
    by_cases hkr : k = r
    · subst hkr
      rw [if_neg (by omega), if_pos (by omega), if_pos rfl, chunk_at, if_pos (by omega)]
      congr 1; omega
    · rw [if_neg hkr]
      rcases Nat.lt_or_ge k r with h | h
      · have h3 := rows_le (W := W) h
        rw [Nat.succ_mul] at h3
        rw [if_pos (by omega)]
      · have h3 := rows_le (W := W) (show r < k by omega)
        rw [Nat.succ_mul] at h3
        rw [if_neg (by omega), if_neg (by omega)]
  · rw [if_neg hj, if_neg hj]
theorem swapC_len {l : List Int} {W r m : Nat} (hl : l.length = W * (m + 1)) (hr : r ≤ m) : (swapC l W r m).length = W * m := by
  have hcl : (chunk l W m).length = W := chunk_len (Nat.lt_succ_self m) hl
  have h1 := rows_le (W := W) (show r < m + 1 by omega)
  rw [Nat.succ_mul, Nat.succ_mul] at h1
  have h2 : W * (m + 1) = W * m + W := Nat.mul_succ W m
  have h3 : m * W = W * m := Nat.mul_comm _ _
  unfold swapC splice
  rw [List.length_take, List.length_append, List.length_append, List.length_take, List.length_drop, hcl]
  omega
/-- entities of a table, by their places -/
def EntI (l : List Int) : Prop := (∀ (k : Nat) (x : Int), l[k]? = some x → idx x ≠ 0) ∧ ∀ (j k : Nat) (x y : Int), l[j]? = some x → l[k]? = some y → idx x = idx y → j = k
theorem hasI_take {l : List Int} {k : Nat} {i : Int} : hasI (l.take k) i = true ↔ ∃ j x, j < k ∧ l[j]? = some x ∧ idx x = i := by
  unfold hasI
  rw [List.any_eq_true]
  constructor
  · rintro ⟨x, hx, he⟩
    obtain ⟨j, hj⟩ := List.getElem?_of_mem hx
    rw [List.getElem?_take] at hj
    split at hj
    · rename_i h; exact ⟨j, x, h, hj, by simpa using he⟩
    · cases hj
  · rintro ⟨j, x, hj, hx, he⟩
    exact ⟨x, List.mem_of_getElem? (i := j) (by rw [List.getElem?_take, if_pos hj]; exact hx), by simpa using he⟩
theorem entOk_up (l : List Int) : ∀ n, n ≤ l.length → (entOk l n = true ↔ (∀ (k : Nat) (x : Int), k < n → l[k]? = some x → idx x ≠ 0) ∧ ∀ (j k : Nat) (x y : Int), j < k → k < n → l[j]? = some x → l[k]? = some y → idx x ≠ idx y)
  | 0, _ => ⟨fun _ => ⟨fun k x h => absurd h (by omega), fun j k x y _ h => absurd h (by omega)⟩, fun _ => rfl⟩
  | n + 1, hn => by
    have e1 := List.getElem?_eq_getElem (l := l) (i := n) (by omega)
    generalize l[n] = z at e1
    rw [entOk_step e1, Bool.and_eq_true, Bool.and_eq_true, entOk_up l n (by omega)]
    constructor
    · rintro ⟨⟨h1, h2⟩, h3, h4⟩
      have h3 : idx z ≠ 0 := by simpa using h3
      have h4 : hasI (l.take n) (idx z) ≠ true := by simpa using h4
      rw [ne_eq, hasI_take] at h4
      refine ⟨fun k x hk hx => ?_, fun j k x y hj hk hx hy => ?_⟩
      · by_cases h : k < n
        · exact h1 k x h hx
        · have : k = n := by omega
          subst this
          rw [e1] at hx; cases hx; exact h3
      · by_cases h : k < n
        · exact h2 j k x y hj h hx hy
        · have : k = n := by omega
          subst this
          rw [e1] at hy; cases hy
          exact fun e => h4 ⟨j, x, hj, hx, e⟩
    · rintro ⟨h1, h2⟩
      refine ⟨⟨fun k x hk hx => h1 k x (by omega) hx, fun j k x y hj hk hx hy => h2 j k x y hj (by omega) hx hy⟩, by simpa using h1 n z (by omega) e1, ?_⟩
      have : hasI (l.take n) (idx z) ≠ true := by
        rw [ne_eq, hasI_take]
        rintro ⟨j, x, hj, hx, he⟩
        exact h2 j n x z hj (by omega) hx e1 he
      simpa using this
theorem entOk_iff (l : List Int) : entOk l l.length = true ↔ EntI l := by
  rw [entOk_up l l.length (Nat.le_refl _)]
  constructor
  · rintro ⟨h1, h2⟩
    refine ⟨fun k x hx => h1 k x (List.getElem?_eq_some_iff.1 hx).1 hx, fun j k x y hx hy he => ?_⟩
    rcases Nat.lt_trichotomy j k with h | h | h
    · exact absurd he (h2 j k x y h (List.getElem?_eq_some_iff.1 hy).1 hx hy)
    · exact h
    · exact absurd he.symm (h2 k j y x h (List.getElem?_eq_some_iff.1 hx).1 hy hx)
  · rintro ⟨h1, h2⟩
    exact ⟨fun k x _ hx => h1 k x hx, fun j k x y hj _ hx hy he => by have := h2 j k x y hx hy he; omega⟩
theorem ixGo_at (v : Int) : ∀ (l : List Int) (b k : Nat), l[k]? = some v → (∀ (j : Nat) (x : Int), l[j]? = some x → x = v → j = k) → ixGo v l b = ((b + k : Nat) : Int)
  | [], _, _, h, _ => by simp at h
  | x :: l, b, k, h, hu => by
    unfold ixGo
    by_cases hx : x = v
    · have := hu 0 x rfl hx
      subst this
      rw [hx]; simp
    · rw [if_neg (by simp; exact fun e => hx e.symm)]
      cases k with
      | zero => simp at h; exact absurd h hx
      | succ k =>
        rw [ixGo_at v l (b + 1) k (by simpa using h) (fun j y hj hy => by have := hu (j + 1) y (by simpa using hj) hy; omega)]
        congr 1; omega
theorem ixGo_no (v : Int) : ∀ (l : List Int) (b : Nat), (∀ x ∈ l, x ≠ v) → ixGo v l b = -1
  | [], _, _ => rfl
  | x :: l, b, h => by
    unfold ixGo
    rw [if_neg (by simp; exact fun e => h x (by simp) e.symm), ixGo_no v l (b + 1) (fun y hy => h y (by simp [hy]))]
theorem ixD_at {l : List Int} {k : Nat} {v : Int} (h : EntI l) (hk : l[k]? = some v) : ixD l v = (k : Int) := by
  unfold ixD
  rw [ixGo_at v l 0 k hk (fun j x hj hx => h.2 j k x v hj hk (by rw [hx])), Nat.zero_add]
end Go.Proofs.Ytbcbknajhdaneaa
namespace Go.Proofs.Ytbcbknajhdaneaa
open Go.RowKit
set_option linter.unusedVariables false
set_option linter.unusedSimpArgs false
structure Swapped (t0 t1 : Tab) (row : Int) (r m : Nat) : Prop where
  b0 : tabB t0 = true
  rw_ : row = (r : Int)
  rm : r ≤ m
  n0 : t0.es.length = m + 1
  ty : t1.ty = t0.ty
  es : t1.es = swapEs t0.es r
  len : t1.F.length = t0.F.length
  mv : tswM t0 row = if r < m then idAt t0.es m else 0
  at_ : ∀ (k : Nat) (x1 : Col), t1.F[k]? = some x1 → ∃ x0 : Col, t0.F[k]? = some x0 ∧ x1.W = x0.W ∧ x1.R = x0.R - 1 ∧ x1.l = swapC x0.l x0.W.toNat r m ∧ colB x0.W x0.R x0.n = true ∧ x0.R = ((m + 1 : Nat) : Int)
theorem swapped {t0 t1 : Tab} {row : Int} (h : atE t0 row = 0) (hp : t1.p = tswP t0 row) : ∃ r m, Swapped t0 t1 row r m := by
  obtain ⟨h1, h2, h3⟩ := atE_zero h
  obtain ⟨_, _, hle, hc, _⟩ := tabB_parts h1
  obtain ⟨r, rfl⟩ := Int.eq_ofNat_of_zero_le h2
  have hlen : t0.es.length = (t0.es.length - 1) + 1 := by omega
  unfold tswP at hp
  rw [if_pos h, eachL_map, Int.toNat_natCast] at hp
  unfold Tab.p at hp
  injection hp with e1 hp
  injection hp with e2 e3
  have hl := congrArg List.length e2
  rw [List.length_map, List.length_map] at hl
  refine ⟨r, t0.es.length - 1, h1, rfl, by omega, hlen, e1, e3, hl, ?_, fun k x1 hk => ?_⟩
  · unfold tswM
    rw [if_pos h, Int.toNat_natCast]
    by_cases hr : r < t0.es.length - 1
    · rw [if_pos hr, if_pos (by omega)]
    · rw [if_neg hr, if_neg (by omega)]
  · have hk0 : k < t0.F.length := by have := (List.getElem?_eq_some_iff.1 hk).1; omega
    have hx0 := List.getElem?_eq_getElem hk0
    generalize t0.F[k] = x0 at hx0
    obtain ⟨hc1, hc2⟩ := hc x0 (List.mem_of_getElem? hx0)
    have h7 := congrArg (fun l => l[k]?) e2
    simp only [List.getElem?_map, hk, hx0, Option.map_some, Option.some.injEq] at h7
    have hg : getE x0 (r : Int) = 0 := by unfold getE; rw [hc1, if_pos rfl, if_pos ⟨by omega, by omega⟩]
    unfold swpP at h7
    rw [if_pos hg, Int.toNat_natCast, show (x0.R - 1).toNat = t0.es.length - 1 from by omega] at h7
    unfold Col.p at h7
    injection h7 with a1 a2
    injection a2 with a2 a3
    exact ⟨x0, hx0, a1, a2, a3, hc1, by omega⟩
section
variable {t0 t1 : Tab} {row : Int} {r m : Nat} (h : Swapped t0 t1 row r m) (n1 : NL t1) (n0 : NL t0)
include h n1 n0
theorem Swapped.col {k : Nat} {x1 : Col} (hk : t1.F[k]? = some x1) : ∃ x0 : Col, t0.F[k]? = some x0 ∧ colB x1.W x1.R x1.n = true ∧ x1.R = (m : Int) ∧ colB x0.W x0.R x0.n = true ∧ x0.R = ((m + 1 : Nat) : Int) ∧
    ∀ j, j < m → getE x1 (j : Int) = 0 ∧ getE x0 ((sig r m j : Nat) : Int) = 0 ∧ getL x1 (j : Int) = getL x0 ((sig r m j : Nat) : Int) := by
  obtain ⟨x0, h1, hW, hR, hl, hc, hE⟩ := h.at_ k x1 hk
  have a1 := n1 x1 (List.mem_of_getElem? hk)
  have a0 := n0 x0 (List.mem_of_getElem? h1)
  obtain ⟨p1, p2, p3, p4, p5⟩ := colB_parts hc
  obtain ⟨q1, q2, q3⟩ := colB_nat hc
  have hRn : x0.R.toNat = m + 1 := by omega
  have hln : x0.l.length = x0.W.toNat * (m + 1) := by rw [a0, q1, hRn]
  have hrm := h.rm
  have hl1 := swapC_len hln hrm
  rw [← hl, a1] at hl1
  have hcb : colB x1.W x1.R x1.n = true := by
    refine decide_eq_true ⟨by rw [hW]; exact p1, by rw [hW]; exact p2, by omega, by omega, ?_⟩
    rw [hl1, Int.natCast_mul, q2, hW, hR, hE]
    congr 1; omega
  have hWn : x1.W.toNat = x0.W.toNat := by rw [hW]
  refine ⟨x0, h1, hcb, by omega, hc, hE, fun j hj => ?_⟩
  have hsg : sig r m j < m + 1 := by unfold sig; split <;> omega
  have g1 : getE x1 (j : Int) = 0 := by unfold getE; rw [hcb, if_pos rfl, if_pos ⟨by omega, by omega⟩]
  have g0 : getE x0 ((sig r m j : Nat) : Int) = 0 := by unfold getE; rw [hc, if_pos rfl, if_pos ⟨by omega, by omega⟩]
  refine ⟨g1, g0, ?_⟩
  unfold getL
  rw [if_pos g1, if_pos g0, Int.toNat_natCast, Int.toNat_natCast, hWn, hl]
  exact swapC_chunk hln hrm hj
omit n1 n0 in
theorem Swapped.ent0 : EntI t0.es := (entOk_iff _).1 (tabB_parts h.b0).2.2.2.2
omit n1 n0 in
theorem Swapped.len1 : t1.es.length = m := by rw [h.es]; exact swapEs_len h.n0
omit n1 n0 in
theorem Swapped.es_at {k : Nat} (hk : k < m) : t1.es[k]? = t0.es[sig r m k]? := by rw [h.es]; exact swapEs_at h.n0 h.rm hk
omit n1 n0 in
theorem Swapped.ent1 : EntI t1.es := by
  obtain ⟨h1, h2⟩ := Swapped.ent0 h
  refine ⟨fun k x hx => ?_, fun j k x y hx hy he => ?_⟩
  · have hk := (List.getElem?_eq_some_iff.1 hx).1
    rw [Swapped.len1 h] at hk
    rw [Swapped.es_at h hk] at hx
    exact h1 _ _ hx
  · have hj := (List.getElem?_eq_some_iff.1 hx).1
    have hk := (List.getElem?_eq_some_iff.1 hy).1
    rw [Swapped.len1 h] at hj hk
    rw [Swapped.es_at h hj] at hx
    rw [Swapped.es_at h hk] at hy
    have := h2 _ _ _ _ hx hy he
    unfold sig at this
    split at this <;> split at this <;> omega
theorem Swapped.b : tabB t1 = true := by
  obtain ⟨p1, p2, p3, p4, p5⟩ := tabB_parts h.b0
  rw [tabB_eq]
  simp only [Bool.and_eq_true, decide_eq_true_eq, List.all_eq_true]
  refine ⟨by rw [h.ty]; exact p1, by rw [h.len, h.ty]; exact p2, by have := Swapped.len1 h; have := h.n0; omega, fun x1 hx => ?_, (entOk_iff _).2 (Swapped.ent1 h)⟩
  obtain ⟨k, hk⟩ := List.getElem?_of_mem hx
  obtain ⟨x0, _, hc, hR, _⟩ := Swapped.col h n1 n0 hk
  unfold colT
  rw [hc, hR, Swapped.len1 h]
  simp
omit n1 n0 in
theorem Swapped.gone {who : Int} (hw : t0.es[r]? = some who) : rowK t1 who = false := by
  unfold rowK ixD
  rw [ixGo_no who t1.es 0 (fun x hx e => ?_)]
  · rfl
  · subst e
    obtain ⟨k, hk⟩ := List.getElem?_of_mem hx
    have hkm := (List.getElem?_eq_some_iff.1 hk).1
    rw [Swapped.len1 h] at hkm
    rw [Swapped.es_at h hkm] at hk
    have := (Swapped.ent0 h).2 _ _ _ _ hw hk rfl
    unfold sig at this
    split at this <;> omega
theorem Swapped.there {i : Nat} {who : Int} (hw : t0.es[i]? = some who) (hi : i ≠ r) : ∃ k, k < m ∧ rowK t1 who = true ∧ rowI t1 who = (k : Int) ∧ sig r m k = i ∧ (k = i ∨ (k = r ∧ who = tswM t0 row)) := by
  have him := (List.getElem?_eq_some_iff.1 hw).1
  rw [h.n0] at him
  have hrm := h.rm
  have key : ∀ k, k < m → sig r m k = i → rowK t1 who = true ∧ rowI t1 who = (k : Int) := fun k hk hs => by
    have h1 : t1.es[k]? = some who := by rw [Swapped.es_at h hk, hs]; exact hw
    have h2 := ixD_at (Swapped.ent1 h) h1
    have h3 : rowK t1 who = true := by unfold rowK; rw [h2, Swapped.b h n1 n0]; simp
    exact ⟨h3, by unfold rowI; rw [h3, if_pos rfl, h2]⟩
  by_cases hlt : i < m
  · have hs : sig r m i = i := by unfold sig; rw [if_neg hi]
    exact ⟨i, hlt, (key i hlt hs).1, (key i hlt hs).2, hs, .inl rfl⟩
  · have : i = m := by omega
    subst this
    have hs : sig r i r = i := by unfold sig; rw [if_pos rfl]
    have hr : r < i := by omega
    refine ⟨r, hr, (key r hr hs).1, (key r hr hs).2, hs, .inr ⟨rfl, ?_⟩⟩
    rw [h.mv, if_pos hr, idAt_some hw]
theorem Swapped.vals {i k : Nat} (hk : k < m) (hs : sig r m k = i) : vsE t0 (i : Int) = 0 ∧ vsE t1 (k : Int) = 0 ∧ vsL t1 (k : Int) = vsL t0 (i : Int) := by
  have hrm := h.rm
  have hi : i < m + 1 := by rw [← hs]; unfold sig; split <;> omega
  have a0 : atE t0 (i : Int) = 0 := by unfold atE; rw [h.b0, if_pos rfl, if_pos ⟨by omega, by rw [h.n0]; omega⟩]
  have a1 : atE t1 (k : Int) = 0 := by unfold atE; rw [Swapped.b h n1 n0, if_pos rfl, if_pos ⟨by omega, by rw [Swapped.len1 h]; omega⟩]
  have v0 : vsE t0 (i : Int) = 0 := by unfold vsE; rw [if_pos a0]; exact each_get_zero a0
  have v1 : vsE t1 (k : Int) = 0 := by unfold vsE; rw [if_pos a1]; exact each_get_zero a1
  refine ⟨v0, v1, ?_⟩
  unfold vsL
  rw [if_pos v0, if_pos v1, eachL_map, eachL_map]
  refine List.ext_getElem? fun j => ?_
  rw [List.getElem?_map, List.getElem?_map]
  cases hj : t1.F[j]? with
  | none =>
    have h1 := List.getElem?_eq_none_iff.1 hj
    rw [List.getElem?_eq_none (by have := h.len; omega)]
    rfl
  | some x1 =>
    obtain ⟨x0, h0, _, _, _, _, hg⟩ := Swapped.col h n1 n0 hj
    rw [h0]
    simp only [Option.map_some]
    rw [(hg k hk).2.2, hs]
end
theorem swapped_psm {t0 t1 : Tab} {row : Int} {r m : Nat} (h : Swapped t0 t1 row r m) (n0 : NL t0) (hp : PSm t0.p) : PSm t1.p := by
  obtain ⟨p1, p2, p3, p4⟩ := hp
  unfold Tab.p at p1 p2 p3 p4 ⊢
  simp only [List.length_map] at p1 p2 p3 p4 ⊢
  refine ⟨by rw [h.ty]; exact p1, by simp only [List.length_map]; rw [h.len]; exact p2, by rw [Swapped.len1 h]; have := h.n0; omega, fun q hq1 => ?_⟩
  obtain ⟨x, hx, rfl⟩ := List.mem_map.1 hq1
  obtain ⟨k, hk⟩ := List.getElem?_of_mem hx
  obtain ⟨x0, h1, _, _, hl, hc, hE⟩ := h.at_ k x hk
  have a1 := p4 x0.p (List.mem_map_of_mem (List.mem_of_getElem? h1))
  have a0 := n0 x0 (List.mem_of_getElem? h1)
  obtain ⟨q1, q2, q3⟩ := colB_nat hc
  have hln : x0.l.length = x0.W.toNat * (m + 1) := by rw [a0, q1, show x0.R.toNat = m + 1 from by omega]
  have h2 := swapC_len hln h.rm
  have h3 : x0.W.toNat * (m + 1) = x0.W.toNat * m + x0.W.toNat := Nat.mul_succ _ m
  unfold Col.p at a1 ⊢
  simp only at a1 ⊢
  rw [hl, h2]; omega
end Go.Proofs.Ytbcbknajhdaneaa
namespace Go.Proofs.Ytbcbknajhdaneaa
open Go.RowKit
set_option linter.unusedVariables false
set_option linter.unusedSimpArgs false
theorem getL_le (x : Col) (row : Int) : (getL x row).length ≤ x.l.length := by
  unfold getL chunk
  split
  · rw [List.length_take, List.length_drop]; omega
  · exact Nat.zero_le _
theorem vsL_le {t : Tab} (hp : PSm t.p) (row : Int) : ∀ l ∈ vsL t row, l.length ≤ 65535 := by
  intro l hl
  unfold vsL at hl
  split at hl
  · rw [eachL_map] at hl
    obtain ⟨x, hx, rfl⟩ := List.mem_map.1 hl
    have h1 := hp.2.2.2 x.p (List.mem_map_of_mem hx)
    unfold Col.p at h1
    simp only at h1
    exact Nat.le_trans (getL_le x row) h1
  · simp at hl
/-- two rows of values that hold the same are found the same -/
theorem veq_same {A A2 : Option Addr} {c c2 : Nat} {F G : List Rw} {ls : List (List Int)} {w : World} {b b2 : Nat} (ho : w.ownsRow b 44 1 (.slice A F.length c) F.length (rws F)) (ho2 : w.ownsRow b2 44 1 (.slice A2 G.length c2) G.length (rws G))
    (hF : ∀ x ∈ F, RwFresh w b x) (hG : ∀ x ∈ G, RwFresh w b2 x) (h1 : F.map Rw.l = ls) (h2 : G.map Rw.l = ls) (hls : ∀ l ∈ ls, l.length ≤ 65535) (hn : ls.length ≤ 65535) :
    Calls Try.prog 24 #[.slice A F.length c, .slice A2 G.length c2, .func (.func 35) #[] #[]] w fun e w' => e = .returned (.bool true) ∧ Below w.heap.size w w' := by
  have q1 : ∀ x ∈ F, RwOk w w.heap.size x ∧ x.n ≤ 281474976710656 := fun x hx => by
    have h3 := rwOk_fresh (hF x hx)
    have h4 := hls x.l (by rw [← h1]; exact List.mem_map_of_mem hx)
    rw [h3.len] at h4
    exact ⟨h3, by omega⟩
  have q2 : ∀ x ∈ G, RwOk w w.heap.size x ∧ x.n ≤ 281474976710656 := fun x hx => by
    have h3 := rwOk_fresh (hG x hx)
    have h4 := hls x.l (by rw [← h2]; exact List.mem_map_of_mem hx)
    rw [h3.len] at h4
    exact ⟨h3, by omega⟩
  have l1 := congrArg List.length h1
  have l2 := congrArg List.length h2
  rw [List.length_map] at l1 l2
  have h9 := veq1_any A F.length c F A2 G.length c2 G w (Reads.of_own ho) (Reads.of_own ho2) q1 q2 (by omega) (by omega)
  rw [h1, h2, show (ls == ls) = true from by simp] at h9
  exact h9
theorem vsL_len {t : Tab} (hp : PSm t.p) (row : Int) : (vsL t row).length ≤ 65535 := by
  unfold vsL
  split
  · rw [eachL_map, List.length_map]
    have h1 := hp.2.1
    unfold Tab.p at h1
    simp only [List.length_map] at h1
    exact h1
  · simp
set_option maxRecDepth 100000 in
set_option maxHeartbeats 16000000 in
theorem stays_walk (t : Tab) (row : Int) (w : World) (h : TabOk w w.heap.size t) :
    Calls Try.prog 5 #[t.V, .int .i64 row] w fun en w' => en = .returned (.bool true) ∧ Below w.heap.size w w' := by
  have hbx := (Below.refl w.heap.size w).alloc (Nat.le_refl _) (.cells #[.slice t.TA t.Tn t.Tc, .slice t.CA t.Cn t.Cc, .slice t.EA t.En t.Ec] 25)
  have kx := Blk.new w 25 #[.slice t.TA t.Tn t.Tc, .slice t.CA t.Cn t.Cc, .slice t.EA t.En t.Ec]
  have cown := fun (W : World) (hb : Below w.heap.size w W) => own_any t W ((h.keep hb).more hb.size)
  have hpo := psm_own t.p
  unfold OwnT at cown
  generalize ownP t.p = p0 at *
  generalize hpost : (fun en w' => en = Ending.returned (.bool true) ∧ Below w.heap.size w w') = POST
  have HPO := Lib.hid hpost
  have HP0 := Lib.hid hpo
  have HKX := Lib.hid kx
  unfold Tab.V at cown ⊢
  obtain ⟨TA, Tn, Tc, ty, CA, Cn, Cc, Fc, EA, En, Ec, es⟩ := t
  simp only at *
  clear hpost hpo kx h
  go_enter Try.func5, Try.ntmps5
  go_upto_region 4 with (first
    | (go_at_call 13; ((with_reducible refine (wakes_any _).mono ?_); rintro en w1 ⟨rfl, hb1⟩; have hbw1 := hbx.trans (hb1.mono hbx.size); obtain ⟨⟨x0, x1, x2⟩, _⟩ := blk_cells3 (blk_below HKX.out hb1)))
    | (go_at_call 14; ((with_reducible refine (cown _ hbw1).mono ?_); rintro en w2 ⟨t0, rfl, hp0, hf0, hb2⟩; have hbw2 := hbw1.trans (hb2.mono hbw1.size); (try unfold Tab.V)))
    | fail)
  obtain ⟨W4, hW4⟩ : ∃ W4, W4 = w2.alloc (.cells #[.slice t0.TA t0.Tn t0.Tc, .slice t0.CA t0.Cn t0.Cc, .slice t0.EA t0.En t0.Ec] 25) := ⟨_, rfl⟩
  rw [← hW4]
  have hb34 : Below w2.heap.size w2 W4 := by rw [hW4]; exact (Below.refl _ _).alloc (Nat.le_refl _) _
  have k4 : Blk W4 w2.heap.size 25 #[.slice t0.TA t0.Tn t0.Tc, .slice t0.CA t0.Cn t0.Cc, .slice t0.EA t0.En t0.Ec] := by rw [hW4]; exact Blk.new _ _ _
  have hbw4 : Below w.heap.size w W4 := hbw2.trans (hb34.mono hbw2.size)
  have hT0 : TabOk W4 W4.heap.size t0 := (hf0.below hb34).ok
  have hsm := psm_sm hT0 (by rw [hp0]; exact HP0.out.1)
  have cswp := tswap_any t0 row W4 hT0 hsm.1 ⟨hsm.2.1.1, hsm.2.1.2.1, hsm.2.1.2.2.1⟩
  obtain ⟨⟨c0, c1, c2⟩, _⟩ := blk_cells3 k4
  have hPS : PSm t0.p := by rw [hp0]; exact HP0.out.1
  unfold SwpR TabRes at cswp
  unfold Tab.V at cswp
  clear hW4 hf0 cown hp0 hbw2 hb2 hb1 hbw1 hb34
  generalize w2.heap.size = b5 at *
  by_cases her : atE t0 row = 0
  · rw [her] at cswp
    have HTU := Lib.hid (fun (t1 : Tab) (hp : t1.p = tswP t0 row) => swapped her hp)
    have HT0 := Lib.hid hT0
    have HSM := Lib.hid hsm
    have HK4 := Lib.hid k4
    have HPS := Lib.hid hPS
    generalize hmv : tswM t0 row = mv at *
    clear hT0 hsm k4 hPS her
    go_upto_region 5 with (first
      | (go_at_call 33; ((with_reducible refine cswp.mono ?_); rintro en w5 ⟨v5, rfl, ⟨t1, rfl, hp1, hf1⟩, hb5⟩; (try unfold Tab.V)))
      | fail)
    obtain ⟨W6, hW6⟩ : ∃ W6, W6 = w5.alloc (.cells #[.slice t1.TA t1.Tn t1.Tc, .slice t1.CA t1.Cn t1.Cc, .slice t1.EA t1.En t1.Ec] 25) := ⟨_, rfl⟩
    rw [← hW6]
    have hb56 : Below w5.heap.size w5 W6 := by rw [hW6]; exact (Below.refl _ _).alloc (Nat.le_refl _) _
    have hb46 : Below W4.heap.size W4 W6 := hb5.trans (hb56.mono hb5.size)
    have k6 : Blk W6 w5.heap.size 25 #[.slice t1.TA t1.Tn t1.Tc, .slice t1.CA t1.Cn t1.Cc, .slice t1.EA t1.En t1.Ec] := by rw [hW6]; exact Blk.new _ _ _
    have k46 := blk_below HK4.out hb46
    have hT1 : TabOk W6 W6.heap.size t1 := (hf1.below hb56).ok
    have hT06 := (HT0.out.keep hb46).more hb46.size
    have hbw6 := hbw4.trans (hb46.mono hbw4.size)
    obtain ⟨r, m, tu⟩ := HTU.out t1 hp1
    have hPS := HPS.out
    have n1 := hT1.nl
    have n0 := hT06.nl
    have hps1 := swapped_psm tu n0 hPS
    have hsm1 := psm_sm hT1 hps1
    have hsm0 := HSM.out
    have hE0 := HT0.out.len.2.2
    have hE1 := hT1.len.2.2
    have hm1 : t0.En = m + 1 := by rw [← hE0]; exact tu.n0
    have hm2 : t1.En = m := by rw [← hE1]; exact Swapped.len1 tu
    have r8 : tabE t1 = 0 := by unfold tabE; rw [Swapped.b tu n1 n0]; rfl
    have hrow := tu.rw_
    subst hrow
    have crow := fun (who : Int) (W : World) (hb : Below W6.heap.size W6 W) => trow_any t1 who W ((hT1.keep hb).more hb.size) hsm1.1
    have cva0 := fun (i : Nat) (W : World) (hb : Below W6.heap.size W6 W) => tvalues_any t0 (i : Int) W ((hT06.keep hb).more hb.size) hsm0.1 hsm0.2.1.1
    have cva1 := fun (i : Nat) (W : World) (hb : Below W6.heap.size W6 W) => tvalues_any t1 (i : Int) W ((hT1.keep hb).more hb.size) hsm1.1 hsm1.2.1.1
    have cchk := tabchk_any t1 W6 hT1 hsm1.1
    rw [r8] at cchk
    have HGO := Lib.hid (fun (who : Int) (hw : t0.es[r]? = some who) => Swapped.gone tu hw)
    have HTH := Lib.hid (fun (i : Nat) (who : Int) (hw : t0.es[i]? = some who) (hi : i ≠ r) => Swapped.there tu n1 n0 hw hi)
    have HVS := Lib.hid (fun (i k : Nat) (hk : k < m) (hs : sig r m k = i) => Swapped.vals tu n1 n0 hk hs)
    have HVL := Lib.hid (fun (i : Int) => And.intro (vsL_le hPS i) (vsL_len hPS i))
    have HES := Lib.hid (fun (W : World) (hb : Below W6.heap.size W6 W) => hT06.es.below hb)
    have HEL := Lib.hid hE0
    have HC6 := Lib.hid (fun (W : World) (hb : Below W6.heap.size W6 W) => And.intro (blk_cells3 (blk_below k6 hb)).1 (blk_cells3 (blk_below k46 hb)).1)
    have HBW6 := Lib.hid hbw6
    have hrm := tu.rm
    unfold Tab.V at crow cva0 cva1 cchk
    unfold EachV at cva0 cva1
    obtain ⟨⟨z0, z1, z2⟩, ⟨y0, y1, y2⟩⟩ := HC6.out W6 (Below.refl _ _)
    have hen0 : t0.En ≤ 65535 := hsm0.2.2
    clear hW6 hb56 k6 k46 hT1 hT06 hbw6 tu hPS n1 n0 hsm1 hsm0 r8 hf1 hp1 hb5 cswp c0 c1 c2 hps1 HTU hE0 hE1 hb46 hbw4
    generalize w5.heap.size = b6 at *
    obtain ⟨TA0, Tn0, Tc0, ty0, CA0, Cn0, Cc0, F0, EA0, En0, Ec0, es0⟩ := t0
    obtain ⟨TA1, Tn1, Tc1, ty1, CA1, Cn1, Cc1, F1, EA1, En1, Ec1, es1⟩ := t1
    simp only at hm1 hm2 z0 z1 z2 y0 y1 y2 crow cva0 cva1 cchk HES HEL HC6 HGO HTH hen0 ⊢
    subst hm1 hm2
    have e1 : IntKind.i64.wrap (((En1 + 1 : Nat) : Int) - 1) = (En1 : Int) := by rw [i64_wrap (by omega)]; omega
    have e2 : ((En1 : Int) != (En1 : Int)) = false := by simp
    go_wp2_with (first
      | (go_at_call 34; ((with_reducible refine cchk.mono ?_); rintro en w7 ⟨rfl, hb7⟩; obtain ⟨⟨z0, z1, z2⟩, ⟨y0, y1, y2⟩⟩ := HC6.out _ hb7))
      | fail)
    clear cchk z0 z1 z2 y0 y1 y2
    go_loopw [54] (fun i wr => ∃ j : Nat, j ≤ En1 + 1 ∧ i = .int .i64 j ∧ Below W6.heap.size W6 wr) (fun i _ => En1 + 1 - (intOf i).toNat)
    case atStart => exact ⟨0, Nat.zero_le _, rfl, hb7⟩
    case round =>
      clear hb7
      obtain ⟨j, hj, rfl, hb⟩ := hrel
      obtain ⟨⟨z0, z1, z2⟩, ⟨y0, y1, y2⟩⟩ := HC6.out _ hb
      by_cases hlt : j < En1 + 1
      · have e1 := List.getElem?_eq_getElem (l := es0) (i := j) (by rw [HEL.out]; exact hlt)
        generalize es0[j]'(by rw [HEL.out]; exact hlt) = who at e1
        obtain ⟨b, off, hEA, hbl, g⟩ := ids_cell (HES.out _ hb) e1
        subst hEA
        have cr := crow who
        have hltI : (j : Int) < (En1 : Int) + 1 := by omega
        by_cases hjr : j = r
        · subst hjr
          have hk := HGO.out who e1
          have hi : rowI ⟨TA1, Tn1, Tc1, ty1, CA1, Cn1, Cc1, F1, EA1, En1, Ec1, es1⟩ who = 0 := by unfold rowI; rw [hk]; rfl
          simp only [hk, hi] at cr
          have d1 : ((j : Int) == (j : Int)) = true := by simp
          clear e1 hk hi hbl
          go_wp2_with (first
              | (go_at_call 26; ((with_reducible refine (cr _ hb).mono ?_); rintro en w8 ⟨rfl, hb8⟩; have hb8 := hb.trans (hb8.mono hb.size); obtain ⟨⟨z0, z1, z2⟩, ⟨y0, y1, y2⟩⟩ := HC6.out _ hb8))
              | fail)
          go_roundw
          case rel => exact ⟨j + 1, by omega, by go_num, hb8⟩
          case measure => simp [intOf]; omega
        · obtain ⟨k, hk, hK, hI, hs, hor⟩ := HTH.out j who e1 hjr
          simp only [hK, hI] at cr
          have d1 : ((j : Int) == (r : Int)) = false := by simp; omega
          obtain ⟨q0, q1, q2⟩ := HVS.out j k hk hs
          have cv0 := cva0 j
          have cv1 := cva1 k
          simp only [q0] at cv0
          simp only [q1, q2] at cv1
          have HVL2 := Lib.hid (HVL.out (j : Int))
          generalize vsL ⟨TA0, Tn0, Tc0, ty0, CA0, Cn0, Cc0, F0, _, En1 + 1, Ec0, es0⟩ (j : Int) = ls at *
          rcases hor with rfl | ⟨rfl, hwm⟩
          · have d2 : ((k : Int) != (k : Int)) = false := by simp
            clear e1 hbl hK hI hs q0 q1 q2 hjr
            go_wp2_with (first
              | (go_at_call 26; ((with_reducible refine (cr _ hb).mono ?_); rintro en w8 ⟨rfl, hb8⟩; have hb8 := hb.trans (hb8.mono hb.size); obtain ⟨⟨z0, z1, z2⟩, ⟨y0, y1, y2⟩⟩ := HC6.out _ hb8))
              | (go_at_call 28; ((with_reducible refine (cv0 _ hb8).mono ?_); rintro en w9 ⟨v9, G9, rfl, ho9, hp9, hf9, hb9⟩; have hb9' := hb8.trans (hb9.mono hb8.size); obtain ⟨⟨z0, z1, z2⟩, ⟨y0, y1, y2⟩⟩ := HC6.out _ hb9'; obtain ⟨A9, c9, rfl⟩ := own_slice ho9; have HO9 := Lib.hid ho9; have HP9 := Lib.hid hp9; have HF9 := Lib.hid hf9; clear ho9 hp9 hf9))
              | (go_at_call 28; ((with_reducible refine (cv1 _ hb9').mono ?_); rintro en wA ⟨vA, GA, rfl, hoA, hpA, hfA, hbA⟩; have hbA' := hb9'.trans (hbA.mono hb9'.size); obtain ⟨AA, cA, rfl⟩ := own_slice hoA; have ceq := veq_same (own_below HO9.out hbA) hoA (fun x hx => (HF9.out x hx).below hbA) hfA HP9.out hpA HVL2.out.1 HVL2.out.2; clear hoA hpA hfA))
              | (go_at_call 24; ((with_reducible refine ceq.mono ?_); rintro en wB ⟨rfl, hbB⟩; have hbB' := hbA'.trans (hbB.mono hbA'.size)))
              | fail)
            go_roundw
            case rel => exact ⟨k + 1, by omega, by go_num, hbB'⟩
            case measure => simp [intOf]; omega
          · have d2 : ((k : Int) != (j : Int)) = true := by simp; omega
            have d3 : ((k : Int) != (k : Int)) = false := by simp
            have d4 : (who != mv) = false := by rw [hwm, hmv]; simp
            clear e1 hbl hK hI hs q0 q1 q2 hjr hwm
            go_wp2_with (first
              | (go_at_call 26; ((with_reducible refine (cr _ hb).mono ?_); rintro en w8 ⟨rfl, hb8⟩; have hb8 := hb.trans (hb8.mono hb.size); obtain ⟨⟨z0, z1, z2⟩, ⟨y0, y1, y2⟩⟩ := HC6.out _ hb8))
              | (go_at_call 28; ((with_reducible refine (cv0 _ hb8).mono ?_); rintro en w9 ⟨v9, G9, rfl, ho9, hp9, hf9, hb9⟩; have hb9' := hb8.trans (hb9.mono hb8.size); obtain ⟨⟨z0, z1, z2⟩, ⟨y0, y1, y2⟩⟩ := HC6.out _ hb9'; obtain ⟨A9, c9, rfl⟩ := own_slice ho9; have HO9 := Lib.hid ho9; have HP9 := Lib.hid hp9; have HF9 := Lib.hid hf9; clear ho9 hp9 hf9))
              | (go_at_call 28; ((with_reducible refine (cv1 _ hb9').mono ?_); rintro en wA ⟨vA, GA, rfl, hoA, hpA, hfA, hbA⟩; have hbA' := hb9'.trans (hbA.mono hb9'.size); obtain ⟨AA, cA, rfl⟩ := own_slice hoA; have ceq := veq_same (own_below HO9.out hbA) hoA (fun x hx => (HF9.out x hx).below hbA) hfA HP9.out hpA HVL2.out.1 HVL2.out.2; clear hoA hpA hfA))
              | (go_at_call 24; ((with_reducible refine ceq.mono ?_); rintro en wB ⟨rfl, hbB⟩; have hbB' := hbA'.trans (hbB.mono hbA'.size)))
              | fail)
            go_roundw
            case rel => exact ⟨j + 1, by omega, by go_num, hbB'⟩
            case measure => simp [intOf]; omega
      · have : j = En1 + 1 := by omega
        subst this
        have hltI : ¬ ((En1 : Int) + 1 < (En1 : Int) + 1) := by omega
        clear z0 z1 z2 y0 y1 y2
        go_wp2_with fail
        rw [← HPO.out]
        exact ⟨rfl, HBW6.out.trans (hb.mono HBW6.out.size)⟩
  · have hz : tswP t0 row = noT := by unfold tswP; rw [if_neg her]
    have hm0 : tswM t0 row = 0 := by unfold tswM; rw [if_neg her]
    rw [hz, hm0] at cswp
    have d1 : (atE t0 row != 0) = true := by simpa using her
    generalize atE t0 row = er at *
    have HBW := Lib.hid hbw4
    clear hT0 hsm k4 hPS her hz hm0
    go_upto_region 5 with (first
      | (go_at_call 33; ((with_reducible refine cswp.mono ?_); rintro en w5 ⟨v5, rfl, ⟨t1, rfl, hp1, hf1⟩, hb5⟩; (try unfold Tab.V)))
      | fail)
    have hEn := tab_nil hf1.ok hp1
    obtain ⟨TA1, Tn1, Tc1, ty1, CA1, Cn1, Cc1, F1, EA1, En1, Ec1, es1⟩ := t1
    simp only at hEn ⊢
    subst hEn
    have HB5 := Lib.hid (hb5.alloc hb5.size (.cells #[.slice TA1 Tn1 Tc1, .slice CA1 Cn1 Cc1, .slice EA1 0 Ec1] 25))
    clear hf1 hp1 hb5 hbw4
    go_wp2_with fail
    rw [← HPO.out]
    exact ⟨rfl, HBW.out.trans (HB5.out.mono HBW.out.size)⟩
end Go.Proofs.Ytbcbknajhdaneaa
namespace Go.Proofs.Ytbcbknajhdaneaa
open Go.RowKit
set_option linter.unusedVariables false
theorem stays_row (t : Tab) (row : Int) (hw : (Lit.int .i64 row).wf = true) (w : World) (h : TabOk w w.heap.size t) :
    Calls Try.prog 5 #[t.V, .int .i64 row] w fun en w' => en = .returned (.bool true) ∧ Below w.heap.size w w' := stays_walk t row w h
end Go.Proofs.Ytbcbknajhdaneaa
