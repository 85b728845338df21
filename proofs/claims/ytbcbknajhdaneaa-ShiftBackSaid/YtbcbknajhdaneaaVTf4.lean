/- What is proved: plain laws of tables: what becomes of a table without a row. plain laws of tables: a table without a row. the walk of the law TableStays. the walk of TableStays, as its row asks it. -/
import Derived.Test.YtbcbknajhdaneaaVTe4
namespace Go.Proofs.Ytbcbknajhdaneaa
open Go.RowKit
set_option linter.unusedVariables false
set_option linter.unusedSimpArgs false
/-- where the row of a place stood before -/
def sig (r m k : Nat) : Nat := if k = r then m else k
theorem swapEs_at {l : List Int} {r m k : Nat} (hl : l.length = m + 1) (hr : r ≤ m) (hk : k < m) : (swapEs l r)[k]? = l[sig r m k]? := by
  unfold swapEs sig
  rw [hl, Nat.add_sub_cancel, List.getElem?_take, if_pos hk, List.getElem?_set]
  by_cases h : r = k
  · rw [if_pos h, if_pos (by omega), if_pos h.symm]
    have e1 := List.getElem?_eq_getElem (l := l) (i := m) (by omega)
    rw [e1, idAt_some e1]
  · rw [if_neg h, if_neg (fun e => h e.symm)]
theorem swapEs_len {l : List Int} {r m : Nat} (hl : l.length = m + 1) : (swapEs l r).length = m := by
  unfold swapEs
  rw [List.length_take, List.length_set]; omega
theorem chunk_at (l : List Int) (W k j : Nat) : (chunk l W k)[j]? = if j < W then l[k * W + j]? else none := by
  unfold chunk
  rw [List.getElem?_take]
  split
  · rw [List.getElem?_drop]
  · rfl
theorem splice_at {l c : List Int} {W r : Nat} (hc : c.length = W) (hr : r * W + W ≤ l.length) (i : Nat) : (splice l (r * W) c)[i]? = if i < r * W then l[i]? else if i < r * W + W then c[i - r * W]? else l[i]? := by
  unfold splice
  have ht : (l.take (r * W)).length = r * W := by rw [List.length_take]; omega
  by_cases h1 : i < r * W
  · rw [if_pos h1, List.getElem?_append_left (by omega), List.getElem?_take, if_pos h1]
  · rw [if_neg h1, List.getElem?_append_right (by omega), ht]
    by_cases h2 : i < r * W + W
    · rw [if_pos h2, List.getElem?_append_left (by omega)]
    · rw [if_neg h2, List.getElem?_append_right (by omega), List.getElem?_drop, hc]
      congr 1; omega
theorem swapC_chunk {l : List Int} {W r m k : Nat} (hl : l.length = W * (m + 1)) (hr : r ≤ m) (hk : k < m) : chunk (swapC l W r m) W k = chunk l W (sig r m k) := by
  have hcl : (chunk l W m).length = W := chunk_len (Nat.lt_succ_self m) hl
  have h0 : (m + 1) * W = l.length := by rw [hl, Nat.mul_comm]
  have h1 := rows_le (W := W) (show r < m + 1 by omega)
  have h2 := rows_le (W := W) hk
  rw [Nat.succ_mul] at h1 h2
  refine List.ext_getElem? fun j => ?_
  rw [chunk_at, chunk_at]
  by_cases hj : j < W
  · rw [if_pos hj, if_pos hj]
    unfold swapC
    rw [List.getElem?_take, if_pos (by omega), splice_at hcl (by omega)]
    unfold sig
    by_cases hkr : k = r
    · subst hkr
      rw [if_neg (by omega), if_pos (by omega), if_pos rfl, chunk_at, if_pos (by omega)]
      congr 1; omega
    · rw [if_neg hkr]
      rcases Nat.lt_or_ge k r with h | h
      · have h3 := rows_le (W := W) h
        rw [Nat.succ_mul] at h3
        rw [if_pos (by omega)]
      · have h3 := rows_le (W := W) (show r < k by omega)
        rw [Nat.succ_mul] at h3
        rw [if_neg (by omega), if_neg (by omega)]
  · rw [if_neg hj, if_neg hj]
theorem swapC_len {l : List Int} {W r m : Nat} (hl : l.length = W * (m + 1)) (hr : r ≤ m) : (swapC l W r m).length = W * m := by
  have hcl : (chunk l W m).length = W := chunk_len (Nat.lt_succ_self m) hl
  have h1 := rows_le (W := W) (show r < m + 1 by omega)
  rw [Nat.succ_mul, Nat.succ_mul] at h1
  have h2 : W * (m + 1) = W * m + W := Nat.mul_succ W m
  have h3 : m * W = W * m := Nat.mul_comm _ _
  unfold swapC splice
  rw [List.length_take, List.length_append, List.length_append, List.length_take, List.length_drop, hcl]
  omega
/-- entities of a table, by their places -/
def EntI (l : List Int) : Prop := (∀ (k : Nat) (x : Int), l[k]? = some x → idx x ≠ 0) ∧ ∀ (j k : Nat) (x y : Int), l[j]? = some x → l[k]? = some y → idx x = idx y → j = k
theorem hasI_take {l : List Int} {k : Nat} {i : Int} : hasI (l.take k) i = true ↔ ∃ j x, j < k ∧ l[j]? = some x ∧ idx x = i := by
  unfold hasI
  rw [List.any_eq_true]
  constructor
  · rintro ⟨x, hx, he⟩
    obtain ⟨j, hj⟩ := List.getElem?_of_mem hx
    rw [List.getElem?_take] at hj
    split at hj
    · rename_i h; exact ⟨j, x, h, hj, by simpa using he⟩
    · cases hj
  · rintro ⟨j, x, hj, hx, he⟩
    exact ⟨x, List.mem_of_getElem? (i := j) (by rw [List.getElem?_take, if_pos hj]; exact hx), by simpa using he⟩
theorem entOk_up (l : List Int) : ∀ n, n ≤ l.length → (entOk l n = true ↔ (∀ (k : Nat) (x : Int), k < n → l[k]? = some x → idx x ≠ 0) ∧ ∀ (j k : Nat) (x y : Int), j < k → k < n → l[j]? = some x → l[k]? = some y → idx x ≠ idx y)
  | 0, _ => ⟨fun _ => ⟨fun k x h => absurd h (by omega), fun j k x y _ h => absurd h (by omega)⟩, fun _ => rfl⟩
  | n + 1, hn => by
    have e1 := List.getElem?_eq_getElem (l := l) (i := n) (by omega)
    generalize l[n] = z at e1
    rw [entOk_step e1, Bool.and_eq_true, Bool.and_eq_true, entOk_up l n (by omega)]
    constructor
    · rintro ⟨⟨h1, h2⟩, h3, h4⟩
      have h3 : idx z ≠ 0 := by simpa using h3
      have h4 : hasI (l.take n) (idx z) ≠ true := by simpa using h4
      rw [ne_eq, hasI_take] at h4
      refine ⟨fun k x hk hx => ?_, fun j k x y hj hk hx hy => ?_⟩
      · by_cases h : k < n
        · exact h1 k x h hx
        · have : k = n := by omega
          subst this
          rw [e1] at hx; cases hx; exact h3
      · by_cases h : k < n
        · exact h2 j k x y hj h hx hy
        · have : k = n := by omega
          subst this
          rw [e1] at hy; cases hy
          exact fun e => h4 ⟨j, x, hj, hx, e⟩
    · rintro ⟨h1, h2⟩
      refine ⟨⟨fun k x hk hx => h1 k x (by omega) hx, fun j k x y hj hk hx hy => h2 j k x y hj (by omega) hx hy⟩, by simpa using h1 n z (by omega) e1, ?_⟩
      have : hasI (l.take n) (idx z) ≠ true := by
        rw [ne_eq, hasI_take]
        rintro ⟨j, x, hj, hx, he⟩
        exact h2 j n x z hj (by omega) hx e1 he
      simpa using this
theorem entOk_iff (l : List Int) : entOk l l.length = true ↔ EntI l := by
  rw [entOk_up l l.length (Nat.le_refl _)]
  constructor
  · rintro ⟨h1, h2⟩
    refine ⟨fun k x hx => h1 k x (List.getElem?_eq_some_iff.1 hx).1 hx, fun j k x y hx hy he => ?_⟩
    rcases Nat.lt_trichotomy j k with h | h | h
    · exact absurd he (h2 j k x y h (List.getElem?_eq_some_iff.1 hy).1 hx hy)
    · exact h
    · exact absurd he.symm (h2 k j y x h (List.getElem?_eq_some_iff.1 hx).1 hy hx)
  · rintro ⟨h1, h2⟩
    exact ⟨fun k x _ hx => h1 k x hx, fun j k x y hj _ hx hy he => by have := h2 j k x y hx hy he; omega⟩
theorem ixGo_at (v : Int) : ∀ (l : List Int) (b k : Nat), l[k]? = some v → (∀ (j : Nat) (x : Int), l[j]? = some x → x = v → j = k) → ixGo v l b = ((b + k : Nat) : Int)
  | [], _, _, h, _ => by simp at h
  | x :: l, b, k, h, hu => by
    unfold ixGo
    by_cases hx : x = v
    · have := hu 0 x rfl hx
      subst this
      rw [hx]; simp
    · rw [if_neg (by simp; exact fun e => hx e.symm)]
      cases k with
      | zero => simp at h; exact absurd h hx
      | succ k =>
        rw [ixGo_at v l (b + 1) k (by simpa using h) (fun j y hj hy => by have := hu (j + 1) y (by simpa using hj) hy; omega)]
        congr 1; omega
theorem ixGo_no (v : Int) : ∀ (l : List Int) (b : Nat), (∀ x ∈ l, x ≠ v) → ixGo v l b = -1
  | [], _, _ => rfl
  | x :: l, b, h => by
    unfold ixGo
    rw [if_neg (by simp; exact fun e => h x (by simp) e.symm), ixGo_no v l (b + 1) (fun y hy => h y (by simp [hy]))]
theorem ixD_at {l : List Int} {k : Nat} {v : Int} (h : EntI l) (hk : l[k]? = some v) : ixD l v = (k : Int) := by
  unfold ixD
  rw [ixGo_at v l 0 k hk (fun j x hj hx => h.2 j k x v hj hk (by rw [hx])), Nat.zero_add]
end Go.Proofs.Ytbcbknajhdaneaa
namespace Go.Proofs.Ytbcbknajhdaneaa
open Go.RowKit
set_option linter.unusedVariables false
set_option linter.unusedSimpArgs false
structure Swapped (t0 t1 : Tab) (row : Int) (r m : Nat) : Prop where
  b0 : tabB t0 = true
  rw_ : row = (r : Int)
  rm : r ≤ m
  n0 : t0.es.length = m + 1
  ty : t1.ty = t0.ty
  es : t1.es = swapEs t0.es r
  len : t1.F.length = t0.F.length
  mv : tswM t0 row = if r < m then idAt t0.es m else 0
  at_ : ∀ (k : Nat) (x1 : Col), t1.F[k]? = some x1 → ∃ x0 : Col, t0.F[k]? = some x0 ∧ x1.W = x0.W ∧ x1.R = x0.R - 1 ∧ x1.l = swapC x0.l x0.W.toNat r m ∧ colB x0.W x0.R x0.n = true ∧ x0.R = ((m + 1 : Nat) : Int)
theorem swapped {t0 t1 : Tab} {row : Int} (h : atE t0 row = 0) (hp : t1.p = tswP t0 row) : ∃ r m, Swapped t0 t1 row r m := by
  obtain ⟨h1, h2, h3⟩ := atE_zero h
  obtain ⟨_, _, hle, hc, _⟩ := tabB_parts h1
  obtain ⟨r, rfl⟩ := Int.eq_ofNat_of_zero_le h2
  have hlen : t0.es.length = (t0.es.length - 1) + 1 := by omega
  unfold tswP at hp
  rw [if_pos h, eachL_map, Int.toNat_natCast] at hp
  unfold Tab.p at hp
  injection hp with e1 hp
  injection hp with e2 e3
  have hl := congrArg List.length e2
  rw [List.length_map, List.length_map] at hl
  refine ⟨r, t0.es.length - 1, h1, rfl, by omega, hlen, e1, e3, hl, ?_, fun k x1 hk => ?_⟩
  · unfold tswM
    rw [if_pos h, Int.toNat_natCast]
    by_cases hr : r < t0.es.length - 1
    · rw [if_pos hr, if_pos (by omega)]
    · rw [if_neg hr, if_neg (by omega)]
  · have hk0 : k < t0.F.length := by have := (List.getElem?_eq_some_iff.1 hk).1; omega
    have hx0 := List.getElem?_eq_getElem hk0
    generalize t0.F[k] = x0 at hx0
    obtain ⟨hc1, hc2⟩ := hc x0 (List.mem_of_getElem? hx0)
    have h7 := congrArg (fun l => l[k]?) e2
    simp only [List.getElem?_map, hk, hx0, Option.map_some, Option.some.injEq] at h7
    have hg : getE x0 (r : Int) = 0 := by unfold getE; rw [hc1, if_pos rfl, if_pos ⟨by omega, by omega⟩]
    unfold swpP at h7
    rw [if_pos hg, Int.toNat_natCast, show (x0.R - 1).toNat = t0.es.length - 1 from by omega] at h7
    unfold Col.p at h7
    injection h7 with a1 a2
    injection a2 with a2 a3
    exact ⟨x0, hx0, a1, a2, a3, hc1, by omega⟩
section
variable {t0 t1 : Tab} {row : Int} {r m : Nat} (h : Swapped t0 t1 row r m) (n1 : NL t1) (n0 : NL t0)
include h n1 n0
theorem Swapped.col {k : Nat} {x1 : Col} (hk : t1.F[k]? = some x1) : ∃ x0 : Col, t0.F[k]? = some x0 ∧ colB x1.W x1.R x1.n = true ∧ x1.R = (m : Int) ∧ colB x0.W x0.R x0.n = true ∧ x0.R = ((m + 1 : Nat) : Int) ∧
    ∀ j, j < m → getE x1 (j : Int) = 0 ∧ getE x0 ((sig r m j : Nat) : Int) = 0 ∧ getL x1 (j : Int) = getL x0 ((sig r m j : Nat) : Int) := by
  obtain ⟨x0, h1, hW, hR, hl, hc, hE⟩ := h.at_ k x1 hk
  have a1 := n1 x1 (List.mem_of_getElem? hk)
  have a0 := n0 x0 (List.mem_of_getElem? h1)
  obtain ⟨p1, p2, p3, p4, p5⟩ := colB_parts hc
  obtain ⟨q1, q2, q3⟩ := colB_nat hc
  have hRn : x0.R.toNat = m + 1 := by omega
  have hln : x0.l.length = x0.W.toNat * (m + 1) := by rw [a0, q1, hRn]
  have hrm := h.rm
  have hl1 := swapC_len hln hrm
  rw [← hl, a1] at hl1
  have hcb : colB x1.W x1.R x1.n = true := by
    refine decide_eq_true ⟨by rw [hW]; exact p1, by rw [hW]; exact p2, by omega, by omega, ?_⟩
    rw [hl1, Int.natCast_mul, q2, hW, hR, hE]
    congr 1; omega
  have hWn : x1.W.toNat = x0.W.toNat := by rw [hW]
  refine ⟨x0, h1, hcb, by omega, hc, hE, fun j hj => ?_⟩
  have hsg : sig r m j < m + 1 := by unfold sig; split <;> omega
  have g1 : getE x1 (j : Int) = 0 := by unfold getE; rw [hcb, if_pos rfl, if_pos ⟨by omega, by omega⟩]
  have g0 : getE x0 ((sig r m j : Nat) : Int) = 0 := by unfold getE; rw [hc, if_pos rfl, if_pos ⟨by omega, by omega⟩]
  refine ⟨g1, g0, ?_⟩
  unfold getL
  rw [if_pos g1, if_pos g0, Int.toNat_natCast, Int.toNat_natCast, hWn, hl]
  exact swapC_chunk hln hrm hj
omit n1 n0 in
theorem Swapped.ent0 : EntI t0.es := (entOk_iff _).1 (tabB_parts h.b0).2.2.2.2
omit n1 n0 in
theorem Swapped.len1 : t1.es.length = m := by rw [h.es]; exact swapEs_len h.n0
omit n1 n0 in
theorem Swapped.es_at {k : Nat} (hk : k < m) : t1.es[k]? = t0.es[sig r m k]? := by rw [h.es]; exact swapEs_at h.n0 h.rm hk
omit n1 n0 in
theorem Swapped.ent1 : EntI t1.es := by
  obtain ⟨h1, h2⟩ := Swapped.ent0 h
  refine ⟨fun k x hx => ?_, fun j k x y hx hy he => ?_⟩
  · have hk := (List.getElem?_eq_some_iff.1 hx).1
    rw [Swapped.len1 h] at hk
    rw [Swapped.es_at h hk] at hx
    exact h1 _ _ hx
  · have hj := (List.getElem?_eq_some_iff.1 hx).1
    have hk := (List.getElem?_eq_some_iff.1 hy).1
    rw [Swapped.len1 h] at hj hk
    rw [Swapped.es_at h hj] at hx
    rw [Swapped.es_at h hk] at hy
    have := h2 _ _ _ _ hx hy he
    unfold sig at this
    split at this <;> split at this <;> omega
theorem Swapped.b : tabB t1 = true := by
  obtain ⟨p1, p2, p3, p4, p5⟩ := tabB_parts h.b0
  rw [tabB_eq]
  simp only [Bool.and_eq_true, decide_eq_true_eq, List.all_eq_true]
  refine ⟨by rw [h.ty]; exact p1, by rw [h.len, h.ty]; exact p2, by have := Swapped.len1 h; have := h.n0; omega, fun x1 hx => ?_, (entOk_iff _).2 (Swapped.ent1 h)⟩
  obtain ⟨k, hk⟩ := List.getElem?_of_mem hx
  obtain ⟨x0, _, hc, hR, _⟩ := Swapped.col h n1 n0 hk
  unfold colT
  rw [hc, hR, Swapped.len1 h]
  simp
theorem Swapped.there {i : Nat} {who : Int} (hw : t0.es[i]? = some who) (hi : i ≠ r) : ∃ k, k < m ∧ rowK t1 who = true ∧ rowI t1 who = (k : Int) ∧ sig r m k = i ∧ (k = i ∨ (k = r ∧ who = tswM t0 row)) := by
  have him := (List.getElem?_eq_some_iff.1 hw).1
  rw [h.n0] at him
  have hrm := h.rm
  have key : ∀ k, k < m → sig r m k = i → rowK t1 who = true ∧ rowI t1 who = (k : Int) := fun k hk hs => by
    have h1 : t1.es[k]? = some who := by rw [Swapped.es_at h hk, hs]; exact hw
    have h2 := ixD_at (Swapped.ent1 h) h1
    have h3 : rowK t1 who = true := by unfold rowK; rw [h2, Swapped.b h n1 n0]; simp
    exact ⟨h3, by unfold rowI; rw [h3, if_pos rfl, h2]⟩
  by_cases hlt : i < m
  · have hs : sig r m i = i := by unfold sig; rw [if_neg hi]
    exact ⟨i, hlt, (key i hlt hs).1, (key i hlt hs).2, hs, .inl rfl⟩
  · have : i = m := by omega
    subst this
    have hs : sig r i r = i := by unfold sig; rw [if_pos rfl]
    have hr : r < i := by omega
    refine ⟨r, hr, (key r hr hs).1, (key r hr hs).2, hs, .inr ⟨rfl, ?_⟩⟩
    rw [h.mv, if_pos hr, idAt_some hw]
end
end Go.Proofs.Ytbcbknajhdaneaa
namespace Go.Proofs.Ytbcbknajhdaneaa
open Go.RowKit
set_option linter.unusedVariables false
set_option linter.unusedSimpArgs false
end Go.Proofs.Ytbcbknajhdaneaa
namespace Go.Proofs.Ytbcbknajhdaneaa
open Go.RowKit
set_option linter.unusedVariables false
end Go.Proofs.Ytbcbknajhdaneaa
