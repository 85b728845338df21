/- What is proved: plain laws of rows of ids that a table may have: search, and where an id lies. plain laws of tables: a table with another value. the walk of the law TableSets. the walk of TableSets, as its row asks it. -/
import Derived.Test.YtbcbknajhdaneaaTf4
import Derived.Test.YtbcbknajhdaneaaHeld
namespace Go.Proofs.Ytbcbknajhdaneaa
open Go.RowKit
set_option linter.unusedVariables false
set_option linter.unusedSimpArgs false
/-- the row may be -/
structure I (l : List Int) : Prop where
  len : l.length ≤ 12
  each : ∀ x ∈ l, tmay x = true
  asc : l.Pairwise (· < ·)
theorem iasc_of : ∀ l : List Int, (∀ (k : Nat) (x y : Int), l[k]? = some x → l[k + 1]? = some y → x < y) → l.Pairwise (· < ·)
  | [], _ => .nil
  | [x], _ => by simp
  | x :: z :: l, h => by
    have ih := iasc_of (z :: l) (fun k a b ha hb => h (k + 1) a b ha hb)
    have hz := h 0 x z rfl rfl
    refine .cons (fun y hy => ?_) ih
    rcases List.mem_cons.1 hy with rfl | hy
    · exact hz
    · exact Int.lt_trans hz ((List.pairwise_cons.1 ih).1 y hy)
theorem iasc_at {l : List Int} (h : l.Pairwise (· < ·)) {j k : Nat} {x y : Int} (hx : l[j]? = some x) (hy : l[k]? = some y) (hjk : j < k) : x < y := by
  obtain ⟨h1, rfl⟩ := List.getElem?_eq_some_iff.1 hx
  obtain ⟨h2, rfl⟩ := List.getElem?_eq_some_iff.1 hy
  exact List.pairwise_iff_getElem.1 h j k h1 h2 hjk
theorem tyOk_at {l : List Int} {n k : Nat} {x : Int} (h : tyOk l n = true) (hk : k < n) (hx : l[k]? = some x) : (tmay x && (k == 0 || decide (idAt l (k - 1) < x))) = true := by
  induction n with
  | zero => omega
  | succ n ih =>
    have h1 : tyOk l n = true ∧ (match l[n]? with | some x => tmay x && (n == 0 || decide (idAt l (n - 1) < x)) | none => true) = true := by
      have : (tyOk l n && (match l[n]? with | some x => tmay x && (n == 0 || decide (idAt l (n - 1) < x)) | none => true)) = true := h
      simpa using this
    rcases Nat.lt_or_ge k n with h2 | h2
    · exact ih h1.1 h2
    · have : k = n := by omega
      subst this
      have := h1.2
      rw [hx] at this
      exact this
theorem tyR_iff (l : List Int) : tyR l = true ↔ I l := by
  constructor
  · intro h
    unfold tyR at h
    simp only [Bool.and_eq_true, decide_eq_true_eq] at h
    refine ⟨h.1, fun x hx => ?_, iasc_of l fun k a b ha hb => ?_⟩
    · obtain ⟨k, hk⟩ := List.mem_iff_getElem?.1 hx
      have := tyOk_at h.2 (List.getElem?_eq_some_iff.1 hk).1 hk
      simp only [Bool.and_eq_true] at this
      exact this.1
    · have := tyOk_at h.2 (List.getElem?_eq_some_iff.1 hb).1 hb
      simp only [Bool.and_eq_true, Bool.or_eq_true, decide_eq_true_eq, beq_iff_eq, Nat.add_sub_cancel] at this
      rcases this.2 with h0 | h0
      · omega
      · rw [idAt_some ha] at h0; exact h0
  · intro h
    unfold tyR
    rw [decide_eq_true h.len, Bool.true_and]
    have key : ∀ n, n ≤ l.length → tyOk l n = true := by
      intro n hn
      induction n with
      | zero => rfl
      | succ n ih =>
        have e1 := List.getElem?_eq_getElem (l := l) (i := n) (by omega)
        generalize l[n]'(by omega) = x at e1
        rw [tyOk_step e1, ih (by omega), Bool.true_and, h.each x (List.mem_of_getElem? e1), Bool.true_and]
        cases n with
        | zero => rfl
        | succ n =>
          have e0 := List.getElem?_eq_getElem (l := l) (i := n) (by omega)
          generalize l[n]'(by omega) = z at e0
          rw [Nat.add_sub_cancel, idAt_some e0, decide_eq_true (iasc_at h.asc e0 e1 (by omega)), Bool.or_true]
    exact key _ (Nat.le_refl _)
structure ICut (l : List Int) (v : Int) (a : Nat) : Prop where
  le : a ≤ l.length
  lo : ∀ (k : Nat) (x : Int), k < a → l[k]? = some x → x < v
  hi : ∀ (k : Nat) (x : Int), a ≤ k → l[k]? = some x → v ≤ x
theorem ibGo_cut {l : List Int} {v : Int} (hs : l.Pairwise (· < ·)) (f lo hi : Nat) (hf : hi - lo < f) (h1 : lo ≤ hi) (h2 : hi ≤ l.length)
    (hl : ∀ (k : Nat) (x : Int), k < lo → l[k]? = some x → x < v) (hh : ∀ (k : Nat) (x : Int), hi ≤ k → l[k]? = some x → v ≤ x) : ICut l v (ibGo l v f lo hi) := by
  induction f generalizing lo hi with
  | zero => omega
  | succ f ih =>
    by_cases h : lo < hi
    · rw [ibGo_step _ _ _ _ _ h]
      have e1 := List.getElem?_eq_getElem (l := l) (i := (lo + hi) / 2) (by omega)
      generalize l[(lo + hi) / 2]'(by omega) = x at e1
      rw [idAt_some e1]
      by_cases t : x < v
      · rw [if_pos t]
        refine ih _ _ (by omega) (by omega) h2 (fun k y hk hy => ?_) hh
        rcases Nat.lt_or_ge k ((lo + hi) / 2) with hk2 | hk2
        · exact Int.lt_trans (iasc_at hs hy e1 hk2) t
        · have : k = (lo + hi) / 2 := by omega
          subst this
          rw [e1] at hy
          cases hy
          exact t
      · rw [if_neg t]
        refine ih _ _ (by omega) (by omega) (by omega) hl (fun k y hk hy => ?_)
        rcases Nat.lt_or_ge ((lo + hi) / 2) k with hk2 | hk2
        · have := iasc_at hs e1 hy hk2
          omega
        · have : k = (lo + hi) / 2 := by omega
          subst this
          rw [e1] at hy
          cases hy
          omega
    · rw [ibGo_end _ _ _ _ _ h]
      have : lo = hi := by omega
      subst this
      exact ⟨h2, hl, hh⟩
theorem ibAt_cut {l : List Int} (v : Int) (h : I l) : ICut l v (ibAt l v) := by
  refine ibGo_cut h.asc _ _ _ (by omega) (by omega) (Nat.le_refl _) (fun k x hk => by omega) (fun k x hk hx => ?_)
  have := (List.getElem?_eq_some_iff.1 hx).1
  omega
theorem ibAt_at {l : List Int} {x : Int} {k : Nat} (h : I l) (hk : l[k]? = some x) : ibAt l x = k := by
  have hc := ibAt_cut x h
  have hkl := (List.getElem?_eq_some_iff.1 hk).1
  rcases Nat.lt_trichotomy (ibAt l x) k with h1 | h1 | h1
  · have e1 := List.getElem?_eq_getElem (l := l) (i := ibAt l x) (by omega)
    have := hc.hi _ _ (Nat.le_refl _) e1
    have := iasc_at h.asc e1 hk h1
    omega
  · exact h1
  · have := hc.lo _ _ h1 hk
    omega
theorem ibIn_iff {l : List Int} (v : Int) (h : I l) : ibIn l v = true ↔ v ∈ l := by
  constructor
  · intro hb
    unfold ibIn at hb
    simp only [Bool.and_eq_true, decide_eq_true_eq, beq_iff_eq] at hb
    have e1 := List.getElem?_eq_getElem (l := l) (i := ibAt l v) hb.1
    rw [idAt_some e1] at hb
    rw [← hb.2]
    exact List.mem_of_getElem? e1
  · intro hx
    obtain ⟨k, hk⟩ := List.mem_iff_getElem?.1 hx
    unfold ibIn
    rw [ibAt_at h hk, idAt_some hk, decide_eq_true (List.getElem?_eq_some_iff.1 hk).1]
    simp
end Go.Proofs.Ytbcbknajhdaneaa
namespace Go.Proofs.Ytbcbknajhdaneaa
open Go.RowKit
set_option linter.unusedVariables false
set_option linter.unusedSimpArgs false
theorem setC_chunk {l c : List Int} {W R r i : Nat} (hl : l.length = W * R) (hc : c.length = W) (hr : r < R) (hi : i < R) : chunk (setC l W r c) W i = if i = r then c else chunk l W i := by
  have h0 : R * W = l.length := by rw [hl, Nat.mul_comm]
  have h1 := rows_le (W := W) hr
  have h2 := rows_le (W := W) hi
  rw [Nat.succ_mul] at h1 h2
  refine List.ext_getElem? fun j => ?_
  unfold setC
  rw [chunk_at, splice_at hc (by omega)]
  by_cases hir : i = r
  · subst hir
    rw [if_pos rfl]
    by_cases hj : j < W
    · rw [if_pos hj, if_neg (by omega), if_pos (by omega)]
      congr 1; omega
    · rw [if_neg hj, List.getElem?_eq_none (by omega)]
  · rw [if_neg hir, chunk_at]
    by_cases hj : j < W
    · rw [if_pos hj, if_pos hj]
      rcases Nat.lt_or_ge i r with h | h
      · have h3 := rows_le (W := W) h
        rw [Nat.succ_mul] at h3
        rw [if_pos (by omega)]
      · have h3 := rows_le (W := W) (show r < i by omega)
        rw [Nat.succ_mul] at h3
        rw [if_neg (by omega), if_neg (by omega)]
    · rw [if_neg hj, if_neg hj]
theorem setC_len {l c : List Int} {W R r : Nat} (hl : l.length = W * R) (hc : c.length = W) (hr : r < R) : (setC l W r c).length = W * R := by
  have h0 : R * W = W * R := Nat.mul_comm _ _
  have h1 := rows_le (W := W) hr
  rw [Nat.succ_mul] at h1
  unfold setC splice
  rw [List.length_append, List.length_append, List.length_take, List.length_drop, hc]
  omega
structure SetT (t0 t1 : Tab) (row : Int) (r k : Nat) (v : Rw) : Prop where
  b0 : tabB t0 = true
  rw_ : row = (r : Int)
  lt : r < t0.es.length
  ty : t1.ty = t0.ty
  es : t1.es = t0.es
  len : t1.F.length = t0.F.length
  kl : k < t0.F.length
  v4 : v.l.length ≤ 4
  at_ : ∀ (j : Nat) (x1 : Col), t1.F[j]? = some x1 → ∃ x0 : Col, t0.F[j]? = some x0 ∧ x1.W = x0.W ∧ x1.R = x0.R ∧ (x1.l = if j = k then setC x0.l x0.W.toNat r v.l else x0.l) ∧ colB x0.W x0.R x0.n = true ∧ x0.R = (t0.es.length : Int) ∧ (j = k → (v.n : Int) = x0.W)
theorem eachE_zero (fe : Nat → Col → Int) : ∀ (F : List Col) (b : Nat), eachE fe b F = 0 → ∀ j y, F[j]? = some y → fe (b + j) y = 0
  | [], _, _, j, y, hj => by simp at hj
  | x :: F, b, h, j, y, hj => by
    unfold eachE at h
    split at h
    · rename_i h0
      cases j with
      | zero => simp at hj; subst hj; exact h0
      | succ j => rw [show b + (j + 1) = b + 1 + j from by omega]; exact eachE_zero fe F (b + 1) h j y (by simpa using hj)
    · rename_i h0; exact absurd h h0
theorem setT {t0 t1 : Tab} {row id : Int} {k : Nat} {v : Rw} (hid : t0.ty[k]? = some id) (h : tseE t0 row id v = 0) (hp : t1.p = tseP t0 row id v) : ∃ r, SetT t0 t1 row r k v := by
  unfold tseP at hp
  rw [if_pos h] at hp
  unfold tseE at h
  split at h
  rotate_left
  · rename_i h0; exact absurd h h0
  rename_i hpl
  split at h
  rotate_left
  · omega
  rename_i hck
  have hat := plE_zero hpl
  obtain ⟨h1, h2, h3⟩ := atE_zero hat.1
  obtain ⟨hty, hlen, hle, hc, _⟩ := tabB_parts h1
  have hI := (tyR_iff _).1 hty
  have hib : ibAt t0.ty id = k := ibAt_at hI hid
  rw [hib] at h hp
  obtain ⟨r, rfl⟩ := Int.eq_ofNat_of_zero_le h2
  unfold Tab.p at hp
  injection hp with e1 hp
  injection hp with e2 e3
  have hl := congrArg List.length e2
  rw [List.length_map, eachL_len] at hl
  have hkl : k < t0.F.length := by have := (List.getElem?_eq_some_iff.1 hid).1; omega
  refine ⟨r, h1, rfl, by omega, e1, e3, hl, hkl, ?_, fun j x1 hj => ?_⟩
  · unfold chkV at hck
    split at hck <;> omega
  · have hj0 : j < t0.F.length := by have := (List.getElem?_eq_some_iff.1 hj).1; omega
    have hx0 := List.getElem?_eq_getElem hj0
    generalize t0.F[j] = x0 at hx0
    obtain ⟨hc1, hc2⟩ := hc x0 (List.mem_of_getElem? hx0)
    have h7 := congrArg (fun l => l[j]?) e2
    simp only [List.getElem?_map, hj, eachL_get, hx0, Option.map_some, Nat.zero_add, Option.some.injEq] at h7
    have h8 := eachE_zero _ _ _ h j x0 hx0
    rw [Nat.zero_add] at h8
    by_cases hjk : j = k
    · subst hjk
      unfold setcE at h8
      rw [if_pos rfl] at h8
      unfold setcP at h7
      rw [if_pos rfl] at h7
      have hg : getE x0 (r : Int) = 0 := by unfold getE; rw [hc1, if_pos rfl, if_pos ⟨by omega, by omega⟩]
      have hvn : (v.n : Int) = x0.W := by
        unfold setE at h8
        rw [if_pos hg] at h8
        split at h8
        · omega
        · rename_i h9; simpa using h9
      unfold setP at h7
      rw [if_pos h8, Int.toNat_natCast] at h7
      unfold Col.p at h7
      injection h7 with a1 a2
      injection a2 with a2 a3
      exact ⟨x0, hx0, a1, a2, by rw [if_pos rfl]; exact a3, hc1, hc2, fun _ => hvn⟩
    · unfold setcP at h7
      rw [if_neg (by omega)] at h7
      unfold Col.p at h7
      injection h7 with a1 a2
      injection a2 with a2 a3
      exact ⟨x0, hx0, a1, a2, by rw [if_neg hjk]; exact a3, hc1, hc2, fun e => absurd e hjk⟩
section
variable {t0 t1 : Tab} {row : Int} {r k : Nat} {v : Rw} (h : SetT t0 t1 row r k v) (n1 : NL t1) (n0 : NL t0) (hv : v.l.length = v.n)
include h n1 n0 hv
theorem SetT.col {j : Nat} {x1 : Col} (hj : t1.F[j]? = some x1) : ∃ x0 : Col, t0.F[j]? = some x0 ∧ colB x1.W x1.R x1.n = true ∧ x1.R = (t0.es.length : Int) ∧ x1.n = x0.n ∧
    ∀ i, i < t0.es.length → getE x1 (i : Int) = 0 ∧ getE x0 (i : Int) = 0 ∧ getL x1 (i : Int) = if j = k ∧ i = r then v.l else getL x0 (i : Int) := by
  obtain ⟨x0, h1, hW, hR, hl, hc, hE, hvw⟩ := h.at_ j x1 hj
  have a1 := n1 x1 (List.mem_of_getElem? hj)
  have a0 := n0 x0 (List.mem_of_getElem? h1)
  obtain ⟨q1, q2, q3⟩ := colB_nat hc
  have hRn : x0.R.toNat = t0.es.length := by omega
  have hln : x0.l.length = x0.W.toNat * t0.es.length := by rw [a0, q1, hRn]
  have hlt := h.lt
  have hnn : x1.n = x0.n := by
    rw [← a1, ← a0, hl]
    split
    · rename_i hjk
      have := hvw hjk
      rw [setC_len hln (by omega) hlt, hln]
    · rfl
  have hcb : colB x1.W x1.R x1.n = true := by rw [hW, hR, hnn]; exact hc
  refine ⟨x0, h1, hcb, by rw [hR]; exact hE, hnn, fun i hi => ?_⟩
  have g1 : getE x1 (i : Int) = 0 := by unfold getE; rw [hcb, if_pos rfl, if_pos ⟨by omega, by omega⟩]
  have g0 : getE x0 (i : Int) = 0 := by unfold getE; rw [hc, if_pos rfl, if_pos ⟨by omega, by omega⟩]
  refine ⟨g1, g0, ?_⟩
  unfold getL
  rw [if_pos g1, if_pos g0, Int.toNat_natCast, hW, hl]
  by_cases hjk : j = k
  · have := hvw hjk
    rw [if_pos hjk, setC_chunk hln (by omega) hlt hi]
    by_cases hir : i = r
    · rw [if_pos hir, if_pos ⟨hjk, hir⟩]
    · rw [if_neg hir, if_neg (fun e => hir e.2)]
  · rw [if_neg hjk, if_neg (fun e => hjk e.1)]
theorem SetT.b : tabB t1 = true := by
  obtain ⟨p1, p2, p3, p4, p5⟩ := tabB_parts h.b0
  rw [tabB_eq]
  simp only [Bool.and_eq_true, decide_eq_true_eq, List.all_eq_true]
  refine ⟨by rw [h.ty]; exact p1, by rw [h.len, h.ty]; exact p2, by rw [h.es]; exact p3, fun x1 hx => ?_, by rw [h.es]; exact p5⟩
  obtain ⟨j, hj⟩ := List.getElem?_of_mem hx
  obtain ⟨x0, _, hc, hR, _⟩ := SetT.col h n1 n0 hv hj
  unfold colT
  rw [hc, hR, h.es]
  simp
theorem SetT.at1 {i : Nat} (hi : i < t0.es.length) : atE t1 (i : Int) = 0 := by
  unfold atE; rw [SetT.b h n1 n0 hv, if_pos rfl, if_pos ⟨by omega, by rw [h.es]; omega⟩]
omit n1 n0 hv in
theorem SetT.at0 {i : Nat} (hi : i < t0.es.length) : atE t0 (i : Int) = 0 := by
  unfold atE; rw [h.b0, if_pos rfl, if_pos ⟨by omega, by omega⟩]
theorem SetT.get {id : Int} (hid : t0.ty[k]? = some id) : tgE t1 row id = 0 ∧ tgL t1 row id = v.l := by
  have hI := (tyR_iff _).1 (tabB_parts h.b0).1
  have hib : ibAt t1.ty id = k := by rw [h.ty]; exact ibAt_at hI hid
  have hin : ibIn t1.ty id = true := by rw [h.ty, ibIn_iff id hI]; exact List.mem_of_getElem? hid
  have hat := SetT.at1 h n1 n0 hv h.lt
  rw [← h.rw_] at hat
  have hpl : plE t1 row id = 0 := by unfold plE; rw [if_pos hat, hin, if_pos rfl]
  have e1 := List.getElem?_eq_getElem (l := t1.F) (i := k) (by rw [h.len]; exact h.kl)
  generalize t1.F[k]'(by rw [h.len]; exact h.kl) = x1 at e1
  obtain ⟨x0, _, _, _, _, hg⟩ := SetT.col h n1 n0 hv e1
  obtain ⟨g1, _, g3⟩ := hg r h.lt
  rw [if_pos ⟨rfl, rfl⟩] at g3
  have hca : colAt t1 k = x1 := by unfold colAt; rw [e1]
  unfold tgE tgL
  rw [if_pos hpl, if_pos hpl, hib, hca, h.rw_]
  exact ⟨g1, g3⟩
theorem SetT.vals {i : Nat} (hi : i < t0.es.length) : vsE t0 (i : Int) = 0 ∧ vsE t1 (i : Int) = 0 ∧ (vsL t1 (i : Int)).length = (vsL t0 (i : Int)).length ∧ ∀ j, ¬ (i = r ∧ j = k) → (vsL t1 (i : Int))[j]? = (vsL t0 (i : Int))[j]? := by
  have v0 : vsE t0 (i : Int) = 0 := by unfold vsE; rw [if_pos (SetT.at0 h hi)]; exact each_get_zero (SetT.at0 h hi)
  have v1 : vsE t1 (i : Int) = 0 := by unfold vsE; rw [if_pos (SetT.at1 h n1 n0 hv hi)]; exact each_get_zero (SetT.at1 h n1 n0 hv hi)
  refine ⟨v0, v1, ?_, fun j hj => ?_⟩
  · unfold vsL
    rw [if_pos v0, if_pos v1, eachL_len, eachL_len, h.len]
  · unfold vsL
    rw [if_pos v0, if_pos v1, eachL_map, eachL_map, List.getElem?_map, List.getElem?_map]
    cases hj1 : t1.F[j]? with
    | none =>
      have h1 := List.getElem?_eq_none_iff.1 hj1
      rw [List.getElem?_eq_none (by have := h.len; omega)]
    | some x1 =>
      obtain ⟨x0, h0, _, _, _, hg⟩ := SetT.col h n1 n0 hv hj1
      rw [h0]
      simp only [Option.map_some]
      rw [(hg i hi).2.2, if_neg (fun e => hj ⟨e.2, e.1⟩)]
theorem SetT.psm (hp : PSm t0.p) : PSm t1.p := by
  obtain ⟨p1, p2, p3, p4⟩ := hp
  unfold Tab.p at p1 p2 p3 p4 ⊢
  simp only [List.length_map] at p1 p2 p3 p4 ⊢
  refine ⟨by rw [h.ty]; exact p1, by simp only [List.length_map]; rw [h.len]; exact p2, by rw [h.es]; exact p3, fun q hq1 => ?_⟩
  obtain ⟨x, hx, rfl⟩ := List.mem_map.1 hq1
  obtain ⟨j, hj⟩ := List.getElem?_of_mem hx
  obtain ⟨x0, h1, _, _, hnn, _⟩ := SetT.col h n1 n0 hv hj
  have a1 := p4 x0.p (List.mem_map_of_mem (List.mem_of_getElem? h1))
  have a0 := n0 x0 (List.mem_of_getElem? h1)
  have a2 := n1 x hx
  unfold Col.p at a1 ⊢
  simp only at a1 ⊢
  omega
end
end Go.Proofs.Ytbcbknajhdaneaa
namespace Go.Proofs.Ytbcbknajhdaneaa
open Go.RowKit
set_option linter.unusedVariables false
set_option linter.unusedSimpArgs false
set_option maxRecDepth 100000 in
set_option maxHeartbeats 16000000 in
theorem sets_walk (t : Tab) (row : Int) (v : Rw) (w : World) (h : TabOk w w.heap.size t) (hv : RwOk w w.heap.size v) (hvn : v.n ≤ 281474976710656) :
    Calls Try.prog 8 #[t.V, .int .i64 row, .slice v.A v.n v.c] w fun en w' => en = .returned (.bool true) ∧ Below w.heap.size w w' := by
  have hbx := (Below.refl w.heap.size w).alloc (Nat.le_refl _) (.cells #[.slice t.TA t.Tn t.Tc, .slice t.CA t.Cn t.Cc, .slice t.EA t.En t.Ec] 25)
  have kx := Blk.new w 25 #[.slice t.TA t.Tn t.Tc, .slice t.CA t.Cn t.Cc, .slice t.EA t.En t.Ec]
  have cown := fun (W : World) (hb : Below w.heap.size w W) => own_any t W ((h.keep hb).more hb.size)
  have HV := Lib.hid (fun (W : World) (hb : Below w.heap.size w W) => (hv.keep hb).more hb.size)
  have HVL := Lib.hid hv.len
  have hpo := psm_own t.p
  unfold OwnT at cown
  generalize ownP t.p = p0 at *
  generalize hpost : (fun en w' => en = Ending.returned (.bool true) ∧ Below w.heap.size w w') = POST
  have HPO := Lib.hid hpost
  have HP0 := Lib.hid hpo
  have HKX := Lib.hid kx
  unfold Tab.V at cown ⊢
  obtain ⟨TA, Tn, Tc, ty, CA, Cn, Cc, Fc, EA, En, Ec, es⟩ := t
  simp only at *
  clear hpost hpo kx h hv
  go_enter Try.func8, Try.ntmps8
  go_upto_region 4 with (first
    | (go_at_call 13; ((with_reducible refine (wakes_any _).mono ?_); rintro en w1 ⟨rfl, hb1⟩; have hbw1 := hbx.trans (hb1.mono hbx.size); obtain ⟨⟨x0, x1, x2⟩, _⟩ := blk_cells3 (blk_below HKX.out hb1)))
    | (go_at_call 14; ((with_reducible refine (cown _ hbw1).mono ?_); rintro en w2 ⟨t0, rfl, hp0, hf0, hb2⟩; have hbw2 := hbw1.trans (hb2.mono hbw1.size); (try unfold Tab.V)))
    | fail)
  obtain ⟨W4, hW4⟩ : ∃ W4, W4 = w2.alloc (.cells #[.slice t0.TA t0.Tn t0.Tc, .slice t0.CA t0.Cn t0.Cc, .slice t0.EA t0.En t0.Ec] 25) := ⟨_, rfl⟩
  rw [← hW4]
  have hb34 : Below w2.heap.size w2 W4 := by rw [hW4]; exact (Below.refl _ _).alloc (Nat.le_refl _) _
  have k4 : Blk W4 w2.heap.size 25 #[.slice t0.TA t0.Tn t0.Tc, .slice t0.CA t0.Cn t0.Cc, .slice t0.EA t0.En t0.Ec] := by rw [hW4]; exact Blk.new _ _ _
  have hbw4 : Below w.heap.size w W4 := hbw2.trans (hb34.mono hbw2.size)
  have hT0 : TabOk W4 W4.heap.size t0 := (hf0.below hb34).ok
  have hPS : PSm t0.p := by rw [hp0]; exact HP0.out.1
  have hsm := psm_sm hT0 hPS
  have HBW4 := Lib.hid hbw4
  have HT0 := Lib.hid hT0
  have HPS := Lib.hid hPS
  have HSM := Lib.hid hsm
  have HC4 := Lib.hid (fun (W : World) (hb : Below W4.heap.size W4 W) => (blk_cells3 (blk_below k4 hb)).1)
  have HTY := Lib.hid (fun (W : World) (hb : Below W4.heap.size W4 W) => hT0.ty.below hb)
  have HLN := Lib.hid hT0.len
  have cset := fun (id : Int) (W : World) (hb : Below W4.heap.size W4 W) => tset_any t0 row id v W ((hT0.keep hb).more hb.size) hsm.1 hsm.2.1 (HV.out W (hbw4.trans (hb.mono hbw4.size))) hvn
  have htn : t0.Tn ≤ 65536 := hsm.2.1.2.1
  obtain ⟨c0, c1, c2⟩ := HC4.out W4 (Below.refl _ _)
  unfold SetR TabRes at cset
  unfold Tab.V at cset
  clear hW4 hf0 cown hp0 hbw2 hb2 hb1 hbw1 hb34 hT0 hPS hsm k4 hbw4
  generalize w2.heap.size = b7 at *
  go_wp2_with fail
  clear c0 c1 c2
  obtain ⟨TAv, hTAv⟩ : ∃ A, A = t0.TA := ⟨_, rfl⟩
  rw [← hTAv]
  have HTE := Lib.hid hTAv.symm
  clear hTAv
  go_loopw [27] (fun i wr => ∃ k : Nat, k ≤ t0.Tn ∧ i = .int .i64 k ∧ Below W4.heap.size W4 wr) (fun i _ => t0.Tn - (intOf i).toNat)
  case atStart => exact ⟨0, Nat.zero_le _, rfl, Below.refl _ _⟩
  case round =>
    obtain ⟨k, hk, rfl, hb⟩ := hrel
    obtain ⟨c0, c1, c2⟩ := HC4.out _ hb
    by_cases hlt : k < t0.Tn
    · have e1 := List.getElem?_eq_getElem (l := t0.ty) (i := k) (by rw [HLN.out.1]; exact hlt)
      generalize t0.ty[k]'(by rw [HLN.out.1]; exact hlt) = id at e1
      have e1' := e1
      obtain ⟨b, off, hTA, hbl, g⟩ := ids_cell (HTY.out _ hb) e1
      have hTv := HTE.out.symm.trans hTA
      clear hTA
      subst hTv
      have cs := cset id _ hb
      rw [HTE.out] at cs c0
      by_cases her : tseE t0 row id v = 0
      · rw [her] at cs
        have HTU := Lib.hid (fun (t1 : Tab) (hp : t1.p = tseP t0 row id v) => setT e1' her hp)
        have hltT : (k : Int) < (t0.Tn : Int) := by omega
        have hcell := cell_below' (Below.refl _ wr) g (by have := hb.size; omega)
        go_upto_region 8 with (first
          | (go_at_call 39; ((with_reducible refine cs.mono ?_); rintro en w5 ⟨v5, rfl, ⟨t1, rfl, hp1, hf1⟩, hb5⟩; have hb5' := hb.trans (hb5.mono hb.size); (try unfold Tab.V)))
          | fail)
        obtain ⟨W6, hW6⟩ : ∃ W6, W6 = w5.alloc (.cells #[.slice t1.TA t1.Tn t1.Tc, .slice t1.CA t1.Cn t1.Cc, .slice t1.EA t1.En t1.Ec] 25) := ⟨_, rfl⟩
        rw [← hW6]
        have hb56 : Below w5.heap.size w5 W6 := by rw [hW6]; exact (Below.refl _ _).alloc (Nat.le_refl _) _
        have hb46 : Below W4.heap.size W4 W6 := hb5'.trans (hb56.mono hb5'.size)
        have k6 : Blk W6 w5.heap.size 25 #[.slice t1.TA t1.Tn t1.Tc, .slice t1.CA t1.Cn t1.Cc, .slice t1.EA t1.En t1.Ec] := by rw [hW6]; exact Blk.new _ _ _
        have hT1 : TabOk W6 W6.heap.size t1 := (hf1.below hb56).ok
        have hT06 := (HT0.out.keep hb46).more hb46.size
        have hbw6 := HBW4.out.trans (hb46.mono HBW4.out.size)
        obtain ⟨r, tu⟩ := HTU.out t1 hp1
        have n1 := hT1.nl
        have n0 := hT06.nl
        have hvl := HVL.out
        have hps1 := SetT.psm tu n1 n0 hvl HPS.out
        have hsm1 := psm_sm hT1 hps1
        have hg := SetT.get tu n1 n0 hvl e1'
        have hv6 := HV.out W6 hbw6
        have cget := tget_any t1 row id W6 hT1 hsm1.1
        rw [hg.1, hg.2] at cget
        have HC6 := Lib.hid (fun (W : World) (hb : Below W6.heap.size W6 W) => And.intro (blk_cells3 (blk_below k6 hb)).1 (HC4.out W (hb46.trans (hb.mono hb46.size))))
        have hE0 := HLN.out.2.2
        have csv := fun (A5 : Option Addr) (c5 : Nat) (W : World) (hb : Below W6.heap.size W6 W) (hR : Reads W W.heap.size 1 A5 v.l.length (ids v.l)) => same_v A5 v.l.length c5 v.l v.A v.n v.c v.l W hR ((hv6.keep hb).more hb.size).1 (by omega) hvn
        have hll : (v.l == v.l) = true := by simp
        simp only [hll] at csv
        have ceE := fun (W : World) (hb : Below W6.heap.size W6 W) => equal_d t1.EA t1.En t1.Ec t1.es t0.EA t0.En t0.Ec t0.es W ((hT1.keep hb).more hb.size).es ((hT06.keep hb).more hb.size).es hsm1.1.2.2.1 HSM.out.1.2.2.1
        have ceT := fun (W : World) (hb : Below W6.heap.size W6 W) => equal_d t1.TA t1.Tn t1.Tc t1.ty t0.TA t0.Tn t0.Tc t0.ty W ((hT1.keep hb).more hb.size).ty ((hT06.keep hb).more hb.size).ty hsm1.1.1 HSM.out.1.1
        have hqe : (t1.es == t0.es) = true := by rw [tu.es]; simp
        have hqt : (t1.ty == t0.ty) = true := by rw [tu.ty]; simp
        simp only [hqe] at ceE
        simp only [hqt, HTE.out] at ceT
        have cva0 := fun (i : Nat) (W : World) (hb : Below W6.heap.size W6 W) => tvalues_any t0 (i : Int) W ((hT06.keep hb).more hb.size) HSM.out.1 HSM.out.2.1.1
        have cva1 := fun (i : Nat) (W : World) (hb : Below W6.heap.size W6 W) => tvalues_any t1 (i : Int) W ((hT1.keep hb).more hb.size) hsm1.1 hsm1.2.1.1
        have HVA := Lib.hid (fun (i : Nat) (hi : i < t0.es.length) => SetT.vals tu n1 n0 hvl hi)
        have HBW6 := Lib.hid hbw6
        have HB46 := Lib.hid hb46
        unfold Tab.V at cget cva0 cva1
        simp only [HTE.out] at cva0
        unfold ValR at cget
        unfold EachV at cva0 cva1
        obtain ⟨⟨z0, z1, z2⟩, ⟨y0, y1, y2⟩⟩ := HC6.out W6 (Below.refl _ _)
        rw [HTE.out] at y0
        have hrw := tu.rw_
        clear hW6 hb56 hb46 k6 hT1 hT06 hbw6 tu n1 n0 hps1 hsm1 hg hv6 hqe hqt hll hf1 hp1 hb5 hb5' cs c0 c1 c2 cset HTU hb her
        subst hrw
        clear hvl
        obtain ⟨q, hq, eq8⟩ : ∃ q : Nat, q ≤ t0.En ∧ (if (8 : Int) < (t0.En : Int) then (8 : Int) else (t0.En : Int)) = (q : Int) := by
          by_cases h8 : (8 : Int) < (t0.En : Int)
          · exact ⟨8, by omega, by rw [if_pos h8]; rfl⟩
          · exact ⟨t0.En, Nat.le_refl _, by rw [if_neg h8]⟩
        go_upto_region 13 with (first
          | (go_at_call 31; ((with_reducible refine cget.mono ?_); rintro en w7 ⟨v7, rfl, ho7, hb7⟩; obtain ⟨A7, c7, rfl⟩ := own_slice ho7; obtain ⟨⟨z0, z1, z2⟩, ⟨y0, y1, y2⟩⟩ := HC6.out _ hb7; rw [HTE.out] at y0))
          | (go_at_call 35; ((with_reducible refine (csv _ _ _ hb7 (Reads.of_own ho7)).mono ?_); rintro en w8 ⟨rfl, hb8⟩; have hb8 := hb7.trans (hb8.mono hb7.size); obtain ⟨⟨z0, z1, z2⟩, ⟨y0, y1, y2⟩⟩ := HC6.out _ hb8; rw [HTE.out] at y0))
          | (go_at_call 41; ((with_reducible refine (ceE _ hb8).mono ?_); rintro en w9 ⟨rfl, hb9⟩; have hb9 := hb8.trans (hb9.mono hb8.size); obtain ⟨⟨z0, z1, z2⟩, ⟨y0, y1, y2⟩⟩ := HC6.out _ hb9; rw [HTE.out] at y0))
          | (go_at_call 41; ((with_reducible refine (ceT _ hb9).mono ?_); rintro en wA ⟨rfl, hbA⟩; have hbA := hb9.trans (hbA.mono hb9.size); obtain ⟨⟨z0, z1, z2⟩, ⟨y0, y1, y2⟩⟩ := HC6.out _ hbA; rw [HTE.out] at y0))
          | fail)
        clear z0 z1 z2 y0 y1 y2 hb9 hb8 hb7 ho7 csv ceE ceT cget
        obtain ⟨wo, rfl⟩ : ∃ wo, wo = wr := ⟨_, rfl⟩
        go_hide hQ
        go_loopw [77] (fun i wr => ∃ j : Nat, j ≤ q ∧ i = .int .i64 j ∧ Below W6.heap.size W6 wr) (fun i _ => q - (intOf i).toNat)
        case atStart => exact ⟨0, Nat.zero_le _, rfl, hbA⟩
        case round =>
          clear hbA
          obtain ⟨i, hi, rfl, hb⟩ := hrel
          obtain ⟨⟨z0, z1, z2⟩, ⟨y0, y1, y2⟩⟩ := HC6.out _ hb
          rw [HTE.out] at y0
          by_cases hlt2 : i < q
          · obtain ⟨q0, q1, q2, q3⟩ := HVA.out i (by rw [hE0]; omega)
            have cv0 := cva0 i
            have cv1 := cva1 i
            simp only [q0] at cv0
            simp only [q1] at cv1
            have hltI : (i : Int) < (q : Int) := by omega
            have HL := Lib.hid (And.intro q2 q3)
            have HVL2 := Lib.hid (vsL_le HPS.out (i : Int))
            have hvn0 := vsL_len HPS.out (i : Int)
            clear q0 q1 q2 q3 cva0 cva1
            generalize vsL t0 (i : Int) = ls0 at *
            generalize vsL t1 (i : Int) = ls1 at *
            go_upto_region 17 with (first
              | (go_at_call 28; ((with_reducible refine (cv0 _ hb).mono ?_); rintro en w9 ⟨v9, G9, rfl, ho9, hp9, hf9, hb9⟩; have hb9' := hb.trans (hb9.mono hb.size); obtain ⟨⟨z0, z1, z2⟩, ⟨y0, y1, y2⟩⟩ := HC6.out _ hb9'; rw [HTE.out] at y0; obtain ⟨A9, c9, rfl⟩ := own_slice ho9; have HO9 := Lib.hid ho9; have HP9 := Lib.hid hp9; have HF9 := Lib.hid hf9; clear ho9 hp9 hf9))
              | (go_at_call 28; ((with_reducible refine (cv1 _ hb9').mono ?_); rintro en wA ⟨vA, GA, rfl, hoA, hpA, hfA, hbA⟩; obtain ⟨AA, cA, rfl⟩ := own_slice hoA; have HOA := Lib.hid hoA; have HPA := Lib.hid hpA; have HFA := Lib.hid hfA; clear hoA hpA hfA))
              | fail)
            have hbA' := hb9'.trans (hbA.mono hb9'.size)
            have l9 : G9.length = ls0.length := by rw [← HP9.out, List.length_map]
            have lA : GA.length = ls0.length := by rw [← HL.out.1, ← HPA.out, List.length_map]
            have lG : GA.length = G9.length := by rw [l9, lA]
            rw [lG]
            have hG65 : G9.length ≤ 65535 := by omega
            have d3 : ((G9.length : Int) != (G9.length : Int)) = false := by simp
            have HR9 := Lib.hid (Reads.of_own (own_below HO9.out hbA))
            have HRA := Lib.hid (Reads.of_own HOA.out)
            have HFB := Lib.hid (fun x hx => (HF9.out x hx).below hbA)
            have HBA := Lib.hid hbA'
            clear z0 z1 z2 y0 y1 y2 hb hb9 hb9' hbA hbA' cv0 cv1 HO9 HF9 l9
            go_upto_region 20 with fail
            obtain ⟨wo2, rfl⟩ : ∃ wo2, wo2 = wA := ⟨_, rfl⟩
            go_hide hQ2
            go_loopw [107] (fun i wr => ∃ m : Nat, m ≤ G9.length ∧ i = .int .i64 m ∧ Below wo2.heap.size wo2 wr) (fun i _ => G9.length - (intOf i).toNat)
            case atStart => exact ⟨0, Nat.zero_le _, rfl, Below.refl _ _⟩
            case round =>
              obtain ⟨m, hm, rfl, hbm⟩ := hrel
              by_cases hlt3 : m < G9.length
              · have hltM : (m : Int) < (G9.length : Int) := by omega
                by_cases hd : i = r ∧ m = k
                · obtain ⟨rfl, rfl⟩ := hd
                  have d4 : ((i : Int) != (i : Int)) = false := by simp
                  have d5 : ((m : Int) != (m : Int)) = false := by simp
                  go_wp2_with fail
                  refine wp_later (by kernel_rfl) (by kernel_rfl) ?_
                  repeat (go_big_quiet_step (fail))
                  refine wpQuiet_nil ?_
                  rintro _ ⟨p, rfl⟩
                  have hp := p.h
                  go_wp2_with fail
                  go_roundw
                  case rel => exact ⟨m + 1, by omega, by go_num, hbm.trans (hp.mono hbm.size)⟩
                  case measure => simp [intOf]; omega
                · have hls := HL.out.2 m hd
                  have e9 := List.getElem?_eq_getElem (l := G9) (i := m) hlt3
                  generalize G9[m] = x9 at e9
                  have eA := List.getElem?_eq_getElem (l := GA) (i := m) (by rw [lG]; exact hlt3)
                  generalize GA[m]'(by rw [lG]; exact hlt3) = xA at eA
                  have hl9 : x9.l ∈ ls0 := by rw [← HP9.out]; exact List.mem_map_of_mem (List.mem_of_getElem? e9)
                  have hlA : xA.l = x9.l := by
                    rw [← HP9.out, ← HPA.out, List.getElem?_map, List.getElem?_map, e9, eA] at hls
                    simpa using hls
                  obtain ⟨b9, o9, rfl, hb9, g9⟩ := rws_cell HR9.out e9
                  obtain ⟨bA, oA, rfl, hbA, gA⟩ := rws_cell HRA.out eA
                  have h9 := cell_below' hbm g9 hb9
                  have hA := cell_below' hbm gA hbA
                  have hw9 : b9 < wr.heap.size := Nat.lt_of_lt_of_le hb9 hbm.size
                  have hwA : bA < wr.heap.size := Nat.lt_of_lt_of_le hbA hbm.size
                  have p0 := fun p : Later wr => p.cell h9 hw9
                  have p1 := fun p : Later wr => p.cell hA hwA
                  have hx9 := rwOk_fresh (HFB.out x9 (List.mem_of_getElem? e9))
                  have hxA := rwOk_fresh (HFA.out xA (List.mem_of_getElem? eA))
                  have hn9 : x9.n ≤ 281474976710656 := by have h1 := HVL2.out x9.l hl9; rw [hx9.len] at h1; omega
                  have hnA : xA.n ≤ 281474976710656 := by have h1 := HVL2.out x9.l hl9; rw [← hlA, hxA.len] at h1; omega
                  have cq := fun p : Later wr => same_v x9.A x9.n x9.c x9.l xA.A xA.n xA.c xA.l p.w (((RwOk.keep hx9 hbm).more hbm.size |>.keep p.h).more p.h.size).1 (((RwOk.keep hxA hbm).more hbm.size |>.keep p.h).more p.h.size).1 hn9 hnA
                  have hll : (x9.l == x9.l) = true := by simp
                  simp only [hlA, hll] at cq
                  have HBM := Lib.hid hbm
                  have hd4 : ((i : Int) != (r : Int)) = true ∨ (((i : Int) != (r : Int)) = false ∧ ((m : Int) != (k : Int)) = true) := by
                    by_cases h1 : i = r
                    · right; subst h1; exact ⟨by simp, by simp; omega⟩
                    · left; simp; omega
                  clear hls e9 eA hl9 hlA g9 gA h9 hA hb9 hbA hw9 hwA hx9 hxA hn9 hnA hll hd
                  rcases hd4 with d4 | ⟨d4, d5⟩
                  · go_wp2_with fail
                    refine wp_later (by kernel_rfl) (by kernel_rfl) ?_
                    repeat (go_big_quiet_step (first | (go_at_call 35; exact later_below (cq _)) | fail))
                    refine wpQuiet_nil ?_
                    rintro _ ⟨p, rfl⟩
                    have hp := p.h
                    go_wp2_with fail
                    go_roundw
                    case rel => exact ⟨m + 1, by omega, by go_num, hbm.trans (hp.mono hbm.size)⟩
                    case measure => simp [intOf]; omega
                  · go_wp2_with fail
                    refine wp_later (by kernel_rfl) (by kernel_rfl) ?_
                    repeat (go_big_quiet_step (first | (go_at_call 35; exact later_below (cq _)) | fail))
                    refine wpQuiet_nil ?_
                    rintro _ ⟨p, rfl⟩
                    have hp := p.h
                    go_wp2_with fail
                    go_roundw
                    case rel => exact ⟨m + 1, by omega, by go_num, hbm.trans (hp.mono hbm.size)⟩
                    case measure => simp [intOf]; omega
              · have : m = G9.length := by omega
                subst this
                have hltM : ¬ ((G9.length : Int) < (G9.length : Int)) := by omega
                subst hQ2
                go_wp2_with fail
                go_roundw
                case rel => exact ⟨i + 1, by omega, by go_num, HBA.out.trans (hbm.mono HBA.out.size)⟩
                case measure => simp [intOf]; omega
          · have : i = q := by omega
            subst this
            have hltI : ¬ ((i : Int) < (i : Int)) := by omega
            clear z0 z1 z2 y0 y1 y2
            subst hQ
            go_wp2_with fail
            go_roundw
            case rel => exact ⟨k + 1, by omega, by go_num, HB46.out.trans (hb.mono HB46.out.size)⟩
            case measure => simp [intOf]; omega
      · have d1 : (tseE t0 row id v != 0) = true := by simpa using her
        generalize tseE t0 row id v = er at *
        generalize tseP t0 row id v = pe at *
        clear e1 e1' hbl her cset
        go_wp2_with (first
          | (go_at_call 39; ((with_reducible refine cs.mono ?_); rintro en w5 ⟨v5, rfl, ⟨t1, rfl, hp1, hf1⟩, hb5⟩; have hb5' := hb.trans (hb5.mono hb.size); (try unfold Tab.V)))
          | fail)
        have hb6 := hb5'.alloc hb5'.size (.cells #[.slice t1.TA t1.Tn t1.Tc, .slice t1.CA t1.Cn t1.Cc, .slice t1.EA t1.En t1.Ec] 25)
        go_roundw
        case rel => exact ⟨k + 1, by omega, by go_num, hb6⟩
        case measure => simp [intOf]; omega
    · have : k = t0.Tn := by omega
      subst this
      have hltI : ¬ ((t0.Tn : Int) < (t0.Tn : Int)) := by omega
      clear c0 c1 c2
      go_wp2_with fail
      rw [← HPO.out]
      exact ⟨rfl, HBW4.out.trans (hb.mono HBW4.out.size)⟩
end Go.Proofs.Ytbcbknajhdaneaa
namespace Go.Proofs.Ytbcbknajhdaneaa
open Go.RowKit
set_option linter.unusedVariables false
theorem sets_row (t : Tab) (row : Int) (hw : (Lit.int .i64 row).wf = true) (A : Option Addr) (n c : Nat) (l : List Int) (hc : n ≤ c) (hn : c * 8 ≤ 140737488351232) (hwl : ∀ x ∈ l, (Lit.int .u64 x).wf = true) (w : World) (h : TabOk w w.heap.size t) (hR : Reads w w.heap.size 1 A n (l.map (Value.int .u64))) :
    Calls Try.prog 8 #[t.V, .int .i64 row, .slice A n c] w fun en w' => en = .returned (.bool true) ∧ Below w.heap.size w w' :=
  sets_walk t row ⟨A, n, c, l⟩ w h ⟨hR, hc, by show c ≤ 9223372036854775807; omega, fun y hy => wf_word (hwl y hy)⟩ (by show n ≤ _; omega)
end Go.Proofs.Ytbcbknajhdaneaa
