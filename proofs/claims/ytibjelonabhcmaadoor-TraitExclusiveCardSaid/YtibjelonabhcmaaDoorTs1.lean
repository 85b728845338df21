/- What is proved: plain laws of rows of relations that are right: search, with, without. -/
import Derived.Test.YtibjelonabhcmaaDoorTr2
namespace Go.Proofs.YtibjelonabhcmaaDoor
open Go.RowKit
set_option linter.unusedVariables false
set_option linter.unusedSimpArgs false
theorem releq_eq {x y : Rel} (h : releq x y = true) : x = y := by
  obtain ⟨a1, a2, a3, a4, a5, a6⟩ := x
  obtain ⟨b1, b2, b3, b4, b5, b6⟩ := y
  simp only [releq, treq, Bool.and_eq_true, beq_iff_eq] at h
  obtain ⟨rfl, rfl, rfl, rfl, rfl, rfl⟩ := h
  rfl
theorem releq_self (x : Rel) : releq x x = true := by simp [releq, treq]
theorem relseq_self : ∀ l : List Rel, relseq l l = true
  | [] => rfl
  | x :: l => by show (releq x x && relseq l l) = true; rw [releq_self, relseq_self l]; rfl
/-- the row is right -/
structure R (l : List Rel) : Prop where
  len : 2 ≤ l.length ∧ l.length ≤ 200
  each : ∀ x ∈ l, okRel x = true
  asc : l.Pairwise (fun x y => x.i < y.i)
  first : l.take 2 = [f0, f1]
theorem asc_of : ∀ l : List Rel, (∀ k x y, l[k]? = some x → l[k + 1]? = some y → x.i < y.i) → l.Pairwise (fun x y => x.i < y.i)
  | [], _ => .nil
  | [x], _ => by simp
  | x :: z :: l, h => by
    have ih := asc_of (z :: l) (fun k a b ha hb => h (k + 1) a b ha hb)
    have hz := h 0 x z rfl rfl
    refine .cons (fun y hy => ?_) ih
    rcases List.mem_cons.1 hy with rfl | hy
    · exact hz
    · exact Int.lt_trans hz ((List.pairwise_cons.1 ih).1 y hy)
theorem asc_at {l : List Rel} (h : l.Pairwise (fun x y => x.i < y.i)) {j k : Nat} {x y : Rel} (hx : l[j]? = some x) (hy : l[k]? = some y) (hjk : j < k) : x.i < y.i := by
  obtain ⟨h1, rfl⟩ := List.getElem?_eq_some_iff.1 hx
  obtain ⟨h2, rfl⟩ := List.getElem?_eq_some_iff.1 hy
  exact List.pairwise_iff_getElem.1 h j k h1 h2 hjk
theorem right_iff (l : List Rel) : right l = true ↔ R l := by
  constructor
  · intro h
    have hr := h
    unfold right at h
    simp only [Bool.and_eq_true, decide_eq_true_eq] at h
    have e1 := List.getElem?_eq_getElem (l := l) (i := 0) (by omega)
    have e2 := List.getElem?_eq_getElem (l := l) (i := 1) (by omega)
    generalize l[0]'(by omega) = x at e1
    generalize l[1]'(by omega) = y at e2
    refine ⟨h.1, fun x hx => ?_, asc_of l fun k a b ha hb => ?_, ?_⟩
    · obtain ⟨k, hk⟩ := List.mem_iff_getElem?.1 hx
      exact right_rel hr hk
    · have := rowC_at h.2 (List.getElem?_eq_some_iff.1 hb).1 hb
      unfold okC okAt at this
      simp only [Bool.and_eq_true, Bool.or_eq_true, decide_eq_true_eq, beq_iff_eq, Nat.add_sub_cancel] at this
      rcases this.2.2 with h0 | h0
      · omega
      · rw [keyAt_some ha] at h0; exact h0
    · have q1 := rowC_at h.2 (by omega) e1
      have q2 := rowC_at h.2 (by omega) e2
      rw [okC_0] at q1
      rw [okC_1] at q2
      simp only [Bool.and_eq_true] at q1 q2
      have hx := releq_eq q1.1
      have hy := releq_eq q2.1
      subst hx hy
      match l, e1, e2 with
      | a :: b :: l, e1, e2 =>
        simp at e1 e2
        subst e1 e2
        rfl
  · intro h
    unfold right
    rw [decide_eq_true h.len, Bool.true_and]
    have key : ∀ n, n ≤ l.length → rowC l n = true := by
      intro n hn
      induction n with
      | zero => rfl
      | succ n ih =>
        have e1 := List.getElem?_eq_getElem (l := l) (i := n) (by omega)
        generalize l[n]'(by omega) = x at e1
        rw [rowC_step e1, ih (by omega), Bool.true_and]
        have hx := h.each x (List.mem_of_getElem? e1)
        have hf : ∀ j, j < 2 → l[j]? = [f0, f1][j]? := fun j hj => by rw [← h.first, List.getElem?_take, if_pos hj]
        match n, e1 with
        | 0, e1 =>
          have := hf 0 (by omega)
          rw [e1] at this
          simp at this
          subst this
          rw [okC_0, hx, releq_self]; rfl
        | 1, e1 =>
          have := hf 1 (by omega)
          rw [e1] at this
          simp at this
          have h0 := hf 0 (by omega)
          have h1 := keyAt_some (h0.trans rfl)
          subst this
          rw [okC_1, hx, releq_self, h1]; decide
        | n + 2, e1 =>
          have e0 := List.getElem?_eq_getElem (l := l) (i := n + 1) (by omega)
          generalize l[n + 1]'(by omega) = z at e0
          rw [okC_2, hx, keyAt_some e0, decide_eq_true (asc_at h.asc e0 e1 (by omega))]; rfl
    exact key _ (Nat.le_refl _)
/-- where a number would lie -/
structure Cut (l : List Rel) (v : Int) (a : Nat) : Prop where
  le : a ≤ l.length
  lo : ∀ k x, k < a → l[k]? = some x → x.i < v
  hi : ∀ k x, a ≤ k → l[k]? = some x → v ≤ x.i
theorem bsGo_cut {l : List Rel} {v : Int} (hs : l.Pairwise (fun x y => x.i < y.i)) (hw : ∀ x ∈ l, wrap64 (x.i - v) < 0 ↔ x.i < v) (f lo hi : Nat) (hf : hi - lo < f) (h1 : lo ≤ hi) (h2 : hi ≤ l.length)
    (hl : ∀ k x, k < lo → l[k]? = some x → x.i < v) (hh : ∀ k x, hi ≤ k → l[k]? = some x → v ≤ x.i) : Cut l v (bsGo l v f lo hi) := by
  induction f generalizing lo hi with
  | zero => omega
  | succ f ih =>
    by_cases h : lo < hi
    · rw [bsGo_step _ _ _ _ _ h]
      have e1 := List.getElem?_eq_getElem (l := l) (i := (lo + hi) / 2) (by omega)
      generalize l[(lo + hi) / 2]'(by omega) = x at e1
      rw [keyAt_some e1]
      have hx := hw x (List.mem_of_getElem? e1)
      by_cases t : wrap64 (x.i - v) < 0
      · rw [if_pos t]
        refine ih _ _ (by omega) (by omega) h2 (fun k y hk hy => ?_) hh
        rcases Nat.lt_or_ge k ((lo + hi) / 2) with hk2 | hk2
        · exact Int.lt_trans (asc_at hs hy e1 hk2) (hx.1 t)
        · have : k = (lo + hi) / 2 := by omega
          subst this
          rw [e1] at hy
          cases hy
          exact hx.1 t
      · rw [if_neg t]
        have hx2 : v ≤ x.i := by
          rcases Int.lt_or_le x.i v with h3 | h3
          · exact absurd (hx.2 h3) t
          · exact h3
        refine ih _ _ (by omega) (by omega) (by omega) hl (fun k y hk hy => ?_)
        rcases Nat.lt_or_ge ((lo + hi) / 2) k with hk2 | hk2
        · exact Int.le_trans hx2 (Int.le_of_lt (asc_at hs e1 hy hk2))
        · have : k = (lo + hi) / 2 := by omega
          subst this
          rw [e1] at hy
          cases hy
          exact hx2
    · rw [bsGo_end _ _ _ _ _ h]
      have : lo = hi := by omega
      subst this
      exact ⟨h2, hl, hh⟩
theorem bsAt_cut {l : List Rel} {v : Int} (h : R l) (hv : 1 ≤ v ∧ v ≤ 1048578) : Cut l v (bsAt l v) := by
  refine bsGo_cut h.asc (fun x hx => ?_) _ _ _ (by omega) (by omega) (Nat.le_refl _) (fun k x hk => by omega) (fun k x hk hx => ?_)
  · have := (okRel_spec (h.each x hx)).1
    unfold wrap64
    omega
  · have := (List.getElem?_eq_some_iff.1 hx).1
    omega
theorem wrap_zero {x v : Int} (hx : 1 ≤ x ∧ x ≤ 1048578) (hv : -9223372036854775808 ≤ v ∧ v ≤ 9223372036854775807) (h : wrap64 (x - v) = 0) : x = v := by
  unfold wrap64 at h
  omega
/-- it is found just where it is -/
theorem bsIn_iff {l : List Rel} {v : Int} (h : R l) (hv : -9223372036854775808 ≤ v ∧ v ≤ 9223372036854775807) : bsIn l v = true ↔ ∃ x ∈ l, x.i = v := by
  constructor
  · intro hb
    unfold bsIn at hb
    simp only [Bool.and_eq_true, decide_eq_true_eq, beq_iff_eq] at hb
    have e1 := List.getElem?_eq_getElem (l := l) (i := bsAt l v) hb.1
    generalize l[bsAt l v]'hb.1 = x at e1
    have hm := List.mem_of_getElem? e1
    rw [keyAt_some e1] at hb
    exact ⟨x, hm, wrap_zero (okRel_spec (h.each x hm)).1 hv hb.2⟩
  · rintro ⟨x, hx, rfl⟩
    have hc := bsAt_cut h (okRel_spec (h.each x hx)).1
    obtain ⟨k, hk⟩ := List.mem_iff_getElem?.1 hx
    have hkl := (List.getElem?_eq_some_iff.1 hk).1
    have hka : bsAt l x.i = k := by
      rcases Nat.lt_trichotomy (bsAt l x.i) k with h1 | h1 | h1
      · have e1 := List.getElem?_eq_getElem (l := l) (i := bsAt l x.i) (by omega)
        have := hc.hi _ _ (Nat.le_refl _) e1
        have := asc_at h.asc e1 hk h1
        omega
      · exact h1
      · have := hc.lo _ _ h1 hk
        omega
    unfold bsIn
    rw [hka, keyAt_some hk, decide_eq_true hkl]
    have : wrap64 (x.i - x.i) = 0 := by unfold wrap64; omega
    rw [this]; rfl
theorem bsAt_at {l : List Rel} {x : Rel} {k : Nat} (h : R l) (hk : l[k]? = some x) : bsAt l x.i = k := by
  have hx := List.mem_of_getElem? hk
  have hc := bsAt_cut h (okRel_spec (h.each x hx)).1
  have hkl := (List.getElem?_eq_some_iff.1 hk).1
  rcases Nat.lt_trichotomy (bsAt l x.i) k with h1 | h1 | h1
  · have e1 := List.getElem?_eq_getElem (l := l) (i := bsAt l x.i) (by omega)
    have := hc.hi _ _ (Nat.le_refl _) e1
    have := asc_at h.asc e1 hk h1
    omega
  · exact h1
  · have := hc.lo _ _ h1 hk
    omega
end Go.Proofs.YtibjelonabhcmaaDoor
