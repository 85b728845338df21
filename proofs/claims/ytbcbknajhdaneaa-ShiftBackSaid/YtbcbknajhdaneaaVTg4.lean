/- What is proved: plain laws of rows of ids that a table may have: search, and where an id lies. plain laws of tables: a table with another value. the walk of the law TableSets. the walk of TableSets, as its row asks it. -/
import Derived.Test.YtbcbknajhdaneaaVTf4
import Derived.Test.YtbcbknajhdaneaaVWords
import Derived.Deep.RegionHeld3
import Derived.Below
namespace Go.Proofs.Ytbcbknajhdaneaa
open Go.RowKit
set_option linter.unusedVariables false
set_option linter.unusedSimpArgs false
/-- the row may be -/
structure I (l : List Int) : Prop where
  len : l.length ≤ 12
  each : ∀ x ∈ l, tmay x = true
  asc : l.Pairwise (· < ·)
theorem iasc_of : ∀ l : List Int, (∀ (k : Nat) (x y : Int), l[k]? = some x → l[k + 1]? = some y → x < y) → l.Pairwise (· < ·)
  | [], _ => .nil
  | [x], _ => by simp
  | x :: z :: l, h => by
    have ih := iasc_of (z :: l) (fun k a b ha hb => h (k + 1) a b ha hb)
    have hz := h 0 x z rfl rfl
    refine .cons (fun y hy => ?_) ih
    rcases List.mem_cons.1 hy with rfl | hy
    · exact hz
    · exact Int.lt_trans hz ((List.pairwise_cons.1 ih).1 y hy)
theorem iasc_at {l : List Int} (h : l.Pairwise (· < ·)) {j k : Nat} {x y : Int} (hx : l[j]? = some x) (hy : l[k]? = some y) (hjk : j < k) : x < y := by
  obtain ⟨h1, rfl⟩ := List.getElem?_eq_some_iff.1 hx
  obtain ⟨h2, rfl⟩ := List.getElem?_eq_some_iff.1 hy
  exact List.pairwise_iff_getElem.1 h j k h1 h2 hjk
theorem tyOk_at {l : List Int} {n k : Nat} {x : Int} (h : tyOk l n = true) (hk : k < n) (hx : l[k]? = some x) : (tmay x && (k == 0 || decide (idAt l (k - 1) < x))) = true := by
  induction n with
  | zero => omega
  | succ n ih =>
    have h1 : tyOk l n = true ∧ (match l[n]? with | some x => tmay x && (n == 0 || decide (idAt l (n - 1) < x)) | none => true) = true := by
      have : (tyOk l n && (match l[n]? with | some x => tmay x && (n == 0 || decide (idAt l (n - 1) < x)) | none => true)) = true := h
      simpa using this
    rcases Nat.lt_or_ge k n with h2 | h2
    · exact ih h1.1 h2
    · have : k = n := by omega
      subst this
      have := h1.2
      rw [hx] at this
      exact this
theorem tyR_iff (l : List Int) : tyR l = true ↔ I l := by
  constructor
  · intro h
    unfold tyR at h
    simp only [Bool.and_eq_true, decide_eq_true_eq] at h
    refine ⟨h.1, fun x hx => ?_, iasc_of l fun k a b ha hb => ?_⟩
    · obtain ⟨k, hk⟩ := List.mem_iff_getElem?.1 hx
      have := tyOk_at h.2 (List.getElem?_eq_some_iff.1 hk).1 hk
      simp only [Bool.and_eq_true] at this
      exact this.1
    · have := tyOk_at h.2 (List.getElem?_eq_some_iff.1 hb).1 hb
      simp only [Bool.and_eq_true, Bool.or_eq_true, decide_eq_true_eq, beq_iff_eq, Nat.add_sub_cancel] at this
      rcases this.2 with h0 | h0
      · omega
      · rw [idAt_some ha] at h0; exact h0
  · intro h
    unfold tyR
    rw [decide_eq_true h.len, Bool.true_and]
    have key : ∀ n, n ≤ l.length → tyOk l n = true := by
      intro n hn
      induction n with
      | zero => rfl
      | succ n ih =>
        have e1 := List.getElem?_eq_getElem (l := l) (i := n) (by omega)
        generalize l[n]'(by omega) = x at e1
        rw [tyOk_step e1, ih (by omega), Bool.true_and, h.each x (List.mem_of_getElem? e1), Bool.true_and]
        cases n with
        | zero => rfl
        | succ n =>
          have e0 := List.getElem?_eq_getElem (l := l) (i := n) (by omega)
          generalize l[n]'(by omega) = z at e0
          rw [Nat.add_sub_cancel, idAt_some e0, decide_eq_true (iasc_at h.asc e0 e1 (by omega)), Bool.or_true]
    exact key _ (Nat.le_refl _)
structure ICut (l : List Int) (v : Int) (a : Nat) : Prop where
  le : a ≤ l.length
  lo : ∀ (k : Nat) (x : Int), k < a → l[k]? = some x → x < v
  hi : ∀ (k : Nat) (x : Int), a ≤ k → l[k]? = some x → v ≤ x
theorem ibGo_cut {l : List Int} {v : Int} (hs : l.Pairwise (· < ·)) (f lo hi : Nat) (hf : hi - lo < f) (h1 : lo ≤ hi) (h2 : hi ≤ l.length)
    (hl : ∀ (k : Nat) (x : Int), k < lo → l[k]? = some x → x < v) (hh : ∀ (k : Nat) (x : Int), hi ≤ k → l[k]? = some x → v ≤ x) : ICut l v (ibGo l v f lo hi) := by
  induction f generalizing lo hi with
  | zero => omega
  | succ f ih =>
    by_cases h : lo < hi
    · rw [ibGo_step _ _ _ _ _ h]
      have e1 := List.getElem?_eq_getElem (l := l) (i := (lo + hi) / 2) (by omega)
      generalize l[(lo + hi) / 2]'(by omega) = x at e1
      rw [idAt_some e1]
      by_cases t : x < v
      · rw [if_pos t]
        refine ih _ _ (by omega) (by omega) h2 (fun k y hk hy => ?_) hh
        rcases Nat.lt_or_ge k ((lo + hi) / 2) with hk2 | hk2
        · exact Int.lt_trans (iasc_at hs hy e1 hk2) t
        · have : k = (lo + hi) / 2 := by omega
          subst this
          rw [e1] at hy
          cases hy
          exact t
      · rw [if_neg t]
        refine ih _ _ (by omega) (by omega) (by omega) hl (fun k y hk hy => ?_)
        rcases Nat.lt_or_ge ((lo + hi) / 2) k with hk2 | hk2
        · have := iasc_at hs e1 hy hk2
          omega
        · have : k = (lo + hi) / 2 := by omega
          subst this
          rw [e1] at hy
          cases hy
          omega
    · rw [ibGo_end _ _ _ _ _ h]
      have : lo = hi := by omega
      subst this
      exact ⟨h2, hl, hh⟩
theorem ibAt_cut {l : List Int} (v : Int) (h : I l) : ICut l v (ibAt l v) := by
  refine ibGo_cut h.asc _ _ _ (by omega) (by omega) (Nat.le_refl _) (fun k x hk => by omega) (fun k x hk hx => ?_)
  have := (List.getElem?_eq_some_iff.1 hx).1
  omega
theorem ibAt_at {l : List Int} {x : Int} {k : Nat} (h : I l) (hk : l[k]? = some x) : ibAt l x = k := by
  have hc := ibAt_cut x h
  have hkl := (List.getElem?_eq_some_iff.1 hk).1
  rcases Nat.lt_trichotomy (ibAt l x) k with h1 | h1 | h1
  · have e1 := List.getElem?_eq_getElem (l := l) (i := ibAt l x) (by omega)
    have := hc.hi _ _ (Nat.le_refl _) e1
    have := iasc_at h.asc e1 hk h1
    omega
  · exact h1
  · have := hc.lo _ _ h1 hk
    omega
theorem ibIn_iff {l : List Int} (v : Int) (h : I l) : ibIn l v = true ↔ v ∈ l := by
  constructor
  · intro hb
    unfold ibIn at hb
    simp only [Bool.and_eq_true, decide_eq_true_eq, beq_iff_eq] at hb
    have e1 := List.getElem?_eq_getElem (l := l) (i := ibAt l v) hb.1
    rw [idAt_some e1] at hb
    rw [← hb.2]
    exact List.mem_of_getElem? e1
  · intro hx
    obtain ⟨k, hk⟩ := List.mem_iff_getElem?.1 hx
    unfold ibIn
    rw [ibAt_at h hk, idAt_some hk, decide_eq_true (List.getElem?_eq_some_iff.1 hk).1]
    simp
end Go.Proofs.Ytbcbknajhdaneaa
namespace Go.Proofs.Ytbcbknajhdaneaa
open Go.RowKit
set_option linter.unusedVariables false
set_option linter.unusedSimpArgs false
theorem setC_chunk {l c : List Int} {W R r i : Nat} (hl : l.length = W * R) (hc : c.length = W) (hr : r < R) (hi : i < R) : chunk (setC l W r c) W i = if i = r then c else chunk l W i := by
  have h0 : R * W = l.length := by rw [hl, Nat.mul_comm]
  have h1 := rows_le (W := W) hr
  have h2 := rows_le (W := W) hi
  rw [Nat.succ_mul] at h1 h2
  refine List.ext_getElem? fun j => ?_
  unfold setC
  rw [chunk_at, splice_at hc (by omega)]
  by_cases hir : i = r
  · subst hir
    rw [if_pos rfl]
    by_cases hj : j < W
    · rw [if_pos hj, if_neg (by omega), if_pos (by omega)]
      congr 1; omega
    · rw [if_neg hj, List.getElem?_eq_none (by omega)]
  · rw [if_neg hir, chunk_at]
    by_cases hj : j < W
    · rw [if_pos hj, if_pos hj]
      rcases Nat.lt_or_ge i r with h | h
      · have h3 := rows_le (W := W) h
        rw [Nat.succ_mul] at h3
        rw [if_pos (by omega)]
      · have h3 := rows_le (W := W) (show r < i by omega)
        rw [Nat.succ_mul] at h3
        rw [if_neg (by omega), if_neg (by omega)]
    · rw [if_neg hj, if_neg hj]
theorem setC_len {l c : List Int} {W R r : Nat} (hl : l.length = W * R) (hc : c.length = W) (hr : r < R) : (setC l W r c).length = W * R := by
  have h0 : R * W = W * R := Nat.mul_comm _ _
  have h1 := rows_le (W := W) hr
  rw [Nat.succ_mul] at h1
  unfold setC splice
  rw [List.length_append, List.length_append, List.length_take, List.length_drop, hc]
  omega
structure SetT (t0 t1 : Tab) (row : Int) (r k : Nat) (v : Rw) : Prop where
  b0 : tabB t0 = true
  rw_ : row = (r : Int)
  lt : r < t0.es.length
  ty : t1.ty = t0.ty
  es : t1.es = t0.es
  len : t1.F.length = t0.F.length
  kl : k < t0.F.length
  v4 : v.l.length ≤ 4
  at_ : ∀ (j : Nat) (x1 : Col), t1.F[j]? = some x1 → ∃ x0 : Col, t0.F[j]? = some x0 ∧ x1.W = x0.W ∧ x1.R = x0.R ∧ (x1.l = if j = k then setC x0.l x0.W.toNat r v.l else x0.l) ∧ colB x0.W x0.R x0.n = true ∧ x0.R = (t0.es.length : Int) ∧ (j = k → (v.n : Int) = x0.W)
section
variable {t0 t1 : Tab} {row : Int} {r k : Nat} {v : Rw} (h : SetT t0 t1 row r k v) (n1 : NL t1) (n0 : NL t0) (hv : v.l.length = v.n)
include h n1 n0 hv
theorem SetT.col {j : Nat} {x1 : Col} (hj : t1.F[j]? = some x1) : ∃ x0 : Col, t0.F[j]? = some x0 ∧ colB x1.W x1.R x1.n = true ∧ x1.R = (t0.es.length : Int) ∧ x1.n = x0.n ∧
    ∀ i, i < t0.es.length → getE x1 (i : Int) = 0 ∧ getE x0 (i : Int) = 0 ∧ getL x1 (i : Int) = if j = k ∧ i = r then v.l else getL x0 (i : Int) := by
  obtain ⟨x0, h1, hW, hR, hl, hc, hE, hvw⟩ := h.at_ j x1 hj
  have a1 := n1 x1 (List.mem_of_getElem? hj)
  have a0 := n0 x0 (List.mem_of_getElem? h1)
  obtain ⟨q1, q2, q3⟩ := colB_nat hc
  have hRn : x0.R.toNat = t0.es.length := by omega
  have hln : x0.l.length = x0.W.toNat * t0.es.length := by rw [a0, q1, hRn]
  have hlt := h.lt
  have hnn : x1.n = x0.n := by
    rw [← a1, ← a0, hl]
    split
    · rename_i hjk
      have := hvw hjk
      rw [setC_len hln (by omega) hlt, hln]
    · rfl
  have hcb : colB x1.W x1.R x1.n = true := by rw [hW, hR, hnn]; exact hc
  refine ⟨x0, h1, hcb, by rw [hR]; exact hE, hnn, fun i hi => ?_⟩
  have g1 : getE x1 (i : Int) = 0 := by unfold getE; rw [hcb, if_pos rfl, if_pos ⟨by omega, by omega⟩]
  have g0 : getE x0 (i : Int) = 0 := by unfold getE; rw [hc, if_pos rfl, if_pos ⟨by omega, by omega⟩]
  refine ⟨g1, g0, ?_⟩
  unfold getL
  rw [if_pos g1, if_pos g0, Int.toNat_natCast, hW, hl]
  by_cases hjk : j = k
  · have := hvw hjk
    rw [if_pos hjk, setC_chunk hln (by omega) hlt hi]
    by_cases hir : i = r
    · rw [if_pos hir, if_pos ⟨hjk, hir⟩]
    · rw [if_neg hir, if_neg (fun e => hir e.2)]
  · rw [if_neg hjk, if_neg (fun e => hjk e.1)]
theorem SetT.b : tabB t1 = true := by
  obtain ⟨p1, p2, p3, p4, p5⟩ := tabB_parts h.b0
  rw [tabB_eq]
  simp only [Bool.and_eq_true, decide_eq_true_eq, List.all_eq_true]
  refine ⟨by rw [h.ty]; exact p1, by rw [h.len, h.ty]; exact p2, by rw [h.es]; exact p3, fun x1 hx => ?_, by rw [h.es]; exact p5⟩
  obtain ⟨j, hj⟩ := List.getElem?_of_mem hx
  obtain ⟨x0, _, hc, hR, _⟩ := SetT.col h n1 n0 hv hj
  unfold colT
  rw [hc, hR, h.es]
  simp
omit n1 n0 hv in
theorem SetT.at0 {i : Nat} (hi : i < t0.es.length) : atE t0 (i : Int) = 0 := by
  unfold atE; rw [h.b0, if_pos rfl, if_pos ⟨by omega, by omega⟩]
theorem SetT.psm (hp : PSm t0.p) : PSm t1.p := by
  obtain ⟨p1, p2, p3, p4⟩ := hp
  unfold Tab.p at p1 p2 p3 p4 ⊢
  simp only [List.length_map] at p1 p2 p3 p4 ⊢
  refine ⟨by rw [h.ty]; exact p1, by simp only [List.length_map]; rw [h.len]; exact p2, by rw [h.es]; exact p3, fun q hq1 => ?_⟩
  obtain ⟨x, hx, rfl⟩ := List.mem_map.1 hq1
  obtain ⟨j, hj⟩ := List.getElem?_of_mem hx
  obtain ⟨x0, h1, _, _, hnn, _⟩ := SetT.col h n1 n0 hv hj
  have a1 := p4 x0.p (List.mem_map_of_mem (List.mem_of_getElem? h1))
  have a0 := n0 x0 (List.mem_of_getElem? h1)
  have a2 := n1 x hx
  unfold Col.p at a1 ⊢
  simp only at a1 ⊢
  omega
end
end Go.Proofs.Ytbcbknajhdaneaa
namespace Go.Proofs.Ytbcbknajhdaneaa
open Go.RowKit
set_option linter.unusedVariables false
set_option linter.unusedSimpArgs false
end Go.Proofs.Ytbcbknajhdaneaa
namespace Go.Proofs.Ytbcbknajhdaneaa
open Go.RowKit
set_option linter.unusedVariables false
end Go.Proofs.Ytbcbknajhdaneaa
