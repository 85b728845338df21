/- What is proved: plain laws of With, Without and Find over rows that are right. -/
import Derived.Test.YtibjelonabhcmaaDoorTs1
namespace Go.Proofs.YtibjelonabhcmaaDoor
open Go.RowKit
set_option linter.unusedVariables false
set_option linter.unusedSimpArgs false
theorem Cut.parts {l : List Rel} {v : Int} {a : Nat} (h : Cut l v a) : (∀ x ∈ l.take a, x.i < v) ∧ (∀ x ∈ l.drop a, v ≤ x.i) := by
  constructor
  · intro x hx
    obtain ⟨k, hk⟩ := List.mem_iff_getElem?.1 hx
    rw [List.getElem?_take] at hk
    split at hk
    · exact h.lo k x (by omega) hk
    · cases hk
  · intro x hx
    obtain ⟨k, hk⟩ := List.mem_iff_getElem?.1 hx
    rw [List.getElem?_drop] at hk
    exact h.hi _ x (by omega) hk
theorem idxB_iff {n : Int} (h : idxB n = true) : 1 ≤ n ∧ n ≤ 1048578 := by unfold idxB at h; simpa using h
theorem R.nth {l : List Rel} (h : R l) : l[0]? = some f0 ∧ l[1]? = some f1 := by
  have hf : ∀ j, j < 2 → l[j]? = [f0, f1][j]? := fun j hj => by rw [← h.first, List.getElem?_take, if_pos hj]
  exact ⟨hf 0 (by omega), hf 1 (by omega)⟩
theorem not_in {l : List Rel} {v : Int} (h : R l) (hv : -9223372036854775808 ≤ v ∧ v ≤ 9223372036854775807) (hn : bsIn l v = false) : ∀ x ∈ l, x.i ≠ v := fun x hx e => by
  have := (bsIn_iff h hv).2 ⟨x, hx, e⟩
  rw [hn] at this; cases this
/-- one more -/
def ins (l : List Rel) (r : Rel) : List Rel := l.take (bsAt l r.i) ++ r :: l.drop (bsAt l r.i)
theorem ins_far {l : List Rel} {r : Rel} (h : R l) (hi : idxB r.i = true) (hn : bsIn l r.i = false) : 3 ≤ r.i ∧ 2 ≤ bsAt l r.i := by
  have hv := idxB_iff hi
  have hne := not_in h (by omega) hn
  have hc := bsAt_cut h hv
  have e0 := hne _ (List.mem_of_getElem? h.nth.1)
  have e1 := hne _ (List.mem_of_getElem? h.nth.2)
  have q0 : f0.i = 1 := rfl
  have q1 : f1.i = 2 := rfl
  have h3 : 3 ≤ r.i := by omega
  refine ⟨h3, ?_⟩
  rcases Nat.lt_or_ge (bsAt l r.i) 2 with h2 | h2
  · have := hc.hi 1 f1 (by omega) h.nth.2
    omega
  · exact h2
theorem ins_parts {l : List Rel} {r : Rel} (h : R l) (hi : idxB r.i = true) (hn : bsIn l r.i = false) :
    (∀ x ∈ l.take (bsAt l r.i), x.i < r.i) ∧ (∀ x ∈ l.drop (bsAt l r.i), r.i < x.i) := by
  have hv := idxB_iff hi
  have hne := not_in h (by omega) hn
  obtain ⟨p1, p2⟩ := (bsAt_cut h hv).parts
  refine ⟨p1, fun x hx => ?_⟩
  have := p2 x hx
  have := hne x (List.mem_of_mem_drop hx)
  omega
theorem ins_len {l : List Rel} {r : Rel} (h : R l) (hi : idxB r.i = true) : (ins l r).length = l.length + 1 := by
  have := (bsAt_cut h (idxB_iff hi)).le
  unfold ins
  rw [List.length_append, List.length_cons, List.length_take, List.length_drop]
  omega
theorem ins_right {l : List Rel} {r : Rel} (h : R l) (hi : idxB r.i = true) (hm : mayE r.w r.t r.r = 0) (hn : bsIn l r.i = false) (hl : l.length ≤ 199) : R (ins l r) := by
  obtain ⟨h3, h2⟩ := ins_far h hi hn
  obtain ⟨p1, p2⟩ := ins_parts h hi hn
  refine ⟨by rw [ins_len h hi]; have := h.len; omega, fun x hx => ?_, ?_, ?_⟩
  · unfold ins at hx
    rcases List.mem_append.1 hx with hx | hx
    · exact h.each x (List.mem_of_mem_take hx)
    · rcases List.mem_cons.1 hx with rfl | hx
      · unfold okRel
        have := idxB_iff hi
        rw [hm, decide_eq_true this]; rfl
      · exact h.each x (List.mem_of_mem_drop hx)
  · unfold ins
    refine List.pairwise_append.2 ⟨h.asc.sublist (List.take_sublist _ _), List.pairwise_cons.2 ⟨p2, h.asc.sublist (List.drop_sublist _ _)⟩, fun x hx y hy => ?_⟩
    rcases List.mem_cons.1 hy with rfl | hy
    · exact p1 x hx
    · exact Int.lt_trans (p1 x hx) (p2 y hy)
  · have := (bsAt_cut h (idxB_iff hi)).le
    unfold ins
    rw [List.take_append_of_le_length (by rw [List.length_take]; omega), List.take_take, Nat.min_eq_left h2]
    exact h.first
theorem ins_at {l : List Rel} {r : Rel} (h : R l) (hi : idxB r.i = true) : (ins l r)[bsAt l r.i]? = some r := by
  have := (bsAt_cut h (idxB_iff hi)).le
  unfold ins
  rw [List.getElem?_append_right (by rw [List.length_take]; omega), List.length_take, Nat.min_eq_left this, Nat.sub_self]
  rfl
/-- what was put in is found -/
theorem ins_found {l : List Rel} {r : Rel} (h : R l) (hi : idxB r.i = true) (hm : mayE r.w r.t r.r = 0) (hn : bsIn l r.i = false) (hl : l.length ≤ 199) :
    bsIn (ins l r) r.i = true ∧ bsAt (ins l r) r.i = bsAt l r.i := by
  have hR := ins_right h hi hm hn hl
  have hv := idxB_iff hi
  exact ⟨(bsIn_iff hR (by omega)).2 ⟨r, List.mem_of_getElem? (ins_at h hi), rfl⟩, bsAt_at hR (ins_at h hi)⟩
/-- taken out it was never there -/
theorem ins_out {l : List Rel} {r : Rel} (h : R l) (hi : idxB r.i = true) : (ins l r).take (bsAt l r.i) ++ (ins l r).drop (bsAt l r.i + 1) = l := by
  have := (bsAt_cut h (idxB_iff hi)).le
  have hlen : (l.take (bsAt l r.i)).length = bsAt l r.i := by rw [List.length_take]; omega
  unfold ins
  rw [List.take_append_of_le_length (by omega), List.take_take, Nat.min_self, List.drop_append, hlen, List.drop_of_length_le (by omega), Nat.add_sub_cancel_left]
  exact List.take_append_drop _ _
end Go.Proofs.YtibjelonabhcmaaDoor
