/- What is proved: plain laws: the document's With, Without and Find agree with the program's over rows that are right. -/
import Derived.Test.YtibjelonabhcmaaDoorTs3
namespace Go.Proofs.YtibjelonabhcmaaDoor
open Go.RowKit
set_option linter.unusedVariables false
set_option linter.unusedSimpArgs false
theorem rfind_some : ∀ {l : List Rel} {v : Int} {x : Rel}, rfind l v = some x → x ∈ l ∧ x.i = v
  | [], _, _, h => by cases h
  | y :: l, v, x, h => by
    unfold rfind at h
    cases hy : (y.i == v)
    · rw [hy] at h
      obtain ⟨h1, h2⟩ := rfind_some (l := l) h
      exact ⟨List.mem_cons_of_mem _ h1, h2⟩
    · rw [hy] at h
      injection h with h
      subst h
      exact ⟨List.mem_cons_self .., by simpa using hy⟩
theorem rfind_none : ∀ {l : List Rel} {v : Int}, rfind l v = none → ∀ x ∈ l, x.i ≠ v
  | [], _, _, _, hx => by cases hx
  | y :: l, v, h, x, hx => by
    unfold rfind at h
    cases hy : (y.i == v)
    · rw [hy] at h
      rcases List.mem_cons.1 hx with rfl | hx
      · simpa using hy
      · exact rfind_none (l := l) h x hx
    · rw [hy] at h; cases h
theorem bsIn_get {l : List Rel} {v : Int} (h : R l) (hv : -9223372036854775808 ≤ v ∧ v ≤ 9223372036854775807) (hb : bsIn l v = true) : ∃ x, l[bsAt l v]? = some x ∧ x.i = v := by
  obtain ⟨x, hx, rfl⟩ := (bsIn_iff h hv).1 hb
  obtain ⟨k, hk⟩ := List.mem_iff_getElem?.1 hx
  exact ⟨x, by rw [bsAt_at h hk]; exact hk, rfl⟩
theorem same_key {l : List Rel} (h : R l) {x y : Rel} (hx : x ∈ l) (hy : y ∈ l) (e : x.i = y.i) : x = y := by
  obtain ⟨j, hj⟩ := List.mem_iff_getElem?.1 hx
  obtain ⟨k, hk⟩ := List.mem_iff_getElem?.1 hy
  rcases Nat.lt_trichotomy j k with h1 | h1 | h1
  · have := asc_at h.asc hj hk h1; omega
  · subst h1; rw [hj] at hk; exact Option.some.inj hk
  · have := asc_at h.asc hk hj h1; omega
theorem rfind_eq {l : List Rel} {v : Int} (h : R l) (hv : -9223372036854775808 ≤ v ∧ v ≤ 9223372036854775807) : rfind l v = tfind l v := by
  unfold tfind
  rw [(right_iff l).2 h, Bool.and_true]
  cases hb : bsIn l v
  · have hn := not_in h hv hb
    cases hr : rfind l v with
    | none => rfl
    | some x => obtain ⟨h1, h2⟩ := rfind_some hr; exact absurd h2 (hn x h1)
  · obtain ⟨x, hx, hxv⟩ := bsIn_get h hv hb
    rw [hx]
    cases hr : rfind l v with
    | none => exact absurd hxv (rfind_none hr x (List.mem_of_getElem? hx))
    | some y =>
      obtain ⟨h1, h2⟩ := rfind_some hr
      rw [same_key h h1 (List.mem_of_getElem? hx) (by omega)]; rfl
theorem rfind_is {l : List Rel} {v : Int} (h : R l) (hv : -9223372036854775808 ≤ v ∧ v ≤ 9223372036854775807) : (rfind l v).isSome = bsIn l v := by
  rw [rfind_eq h hv]
  unfold tfind
  rw [(right_iff l).2 h, Bool.and_true]
  cases hb : bsIn l v
  · rfl
  · obtain ⟨x, hx, _⟩ := bsIn_get h hv hb
    rw [hx]; rfl
theorem rwGo_lo {r : Rel} : ∀ (p s : List Rel), (∀ x ∈ p, x.i < r.i) → p.foldl (rwStep r) (s, false) = (s ++ p, false)
  | [], s, _ => by simp
  | x :: p, s, h => by
    have hx := h x (List.mem_cons_self ..)
    show p.foldl (rwStep r) (rwStep r (s, false) x) = _
    rw [rwStep_b rfl (decide_eq_false (by omega)), rwGo_lo p _ (fun y hy => h y (List.mem_cons_of_mem _ hy))]
    simp
theorem rwGo_hi {r : Rel} : ∀ (p s : List Rel), p.foldl (rwStep r) (s, true) = (s ++ p, true)
  | [], s => by simp
  | x :: p, s => by
    show p.foldl (rwStep r) (rwStep r (s, true) x) = _
    rw [rwStep_c rfl, rwGo_hi p]
    simp
theorem rwith_eq {l : List Rel} {r : Rel} (h : R l) (hi : idxB r.i = true) (hn : bsIn l r.i = false) : rwithL l r = ins l r := by
  obtain ⟨p1, p2⟩ := ins_parts h hi hn
  have hg : rwGo l r = (l.drop (bsAt l r.i)).foldl (rwStep r) (l.take (bsAt l r.i), false) := by
    unfold rwGo
    have e : l = l.take (bsAt l r.i) ++ l.drop (bsAt l r.i) := (List.take_append_drop _ _).symm
    rw [show l.foldl (rwStep r) ([], false) = (l.take (bsAt l r.i) ++ l.drop (bsAt l r.i)).foldl (rwStep r) ([], false) from by rw [← e]]
    rw [List.foldl_append, rwGo_lo _ _ p1, List.nil_append]
  unfold rwithL ins
  rw [hg]
  cases hd : l.drop (bsAt l r.i) with
  | nil => simp
  | cons y q =>
    have hy := p2 y (by rw [hd]; exact List.mem_cons_self ..)
    show (if ((y :: q).foldl (rwStep r) (l.take (bsAt l r.i), false)).2 = true then _ else _) = _
    have e2 : (y :: q).foldl (rwStep r) (l.take (bsAt l r.i), false) = (l.take (bsAt l r.i) ++ [r] ++ [y] ++ q, true) := by
      show q.foldl (rwStep r) (rwStep r (l.take (bsAt l r.i), false) y) = _
      rw [rwStep_a rfl (decide_eq_true hy), rwGo_hi]
    rw [e2]
    simp
theorem rwo_eq {l : List Rel} {v : Int} (h : R l) (hv : -9223372036854775808 ≤ v ∧ v ≤ 9223372036854775807) (hb : bsIn l v = true) : rwoL l v = l.take (bsAt l v) ++ l.drop (bsAt l v + 1) := by
  obtain ⟨x, hx, rfl⟩ := bsIn_get h hv hb
  obtain ⟨hlt, e⟩ := List.getElem?_eq_some_iff.1 hx
  have hsplit : l = l.take (bsAt l x.i) ++ x :: l.drop (bsAt l x.i + 1) := by
    have h1 := List.drop_eq_getElem_cons hlt
    rw [e] at h1
    rw [← h1, List.take_append_drop]
  have hx1 := (okRel_spec (h.each x (List.mem_of_getElem? hx))).1
  have p1 := (bsAt_cut h hx1).parts.1
  have p2 : ∀ y ∈ l.drop (bsAt l x.i + 1), x.i < y.i := by
    intro y hy
    obtain ⟨k, hk⟩ := List.mem_iff_getElem?.1 hy
    rw [List.getElem?_drop] at hk
    exact asc_at h.asc hx hk (by omega)
  unfold rwoL
  rw [show l.filter (fun y => y.i != x.i) = (l.take (bsAt l x.i) ++ x :: l.drop (bsAt l x.i + 1)).filter (fun y => y.i != x.i) from by rw [← hsplit]]
  rw [List.filter_append, List.filter_cons, List.filter_eq_self.2 (fun y hy => by have := p1 y hy; simp; omega), List.filter_eq_self.2 (fun y hy => by have := p2 y hy; simp; omega)]
  simp
/-- how With answers, and the document -/
theorem goes_with (l : List Rel) (r : Rel) (hr : RelWf r) :
    (right l = false ∧ withE l r = 230 ∧ withL l r = []) ∨
    (right l = true ∧ mayE r.w r.t r.r = 2 ∧ withE l r = 2 ∧ withL l r = []) ∨ (right l = true ∧ mayE r.w r.t r.r = 231 ∧ withE l r = 231 ∧ withL l r = []) ∨
    (right l = true ∧ mayE r.w r.t r.r = 0 ∧ idxB r.i = false ∧ withE l r = 2 ∧ withL l r = []) ∨
    (right l = true ∧ mayE r.w r.t r.r = 0 ∧ idxB r.i = true ∧ (rfind l r.i).isSome = true ∧ withE l r = 5 ∧ withL l r = []) ∨
    (right l = true ∧ mayE r.w r.t r.r = 0 ∧ idxB r.i = true ∧ (rfind l r.i).isSome = false ∧ l.length = 200 ∧ withE l r = 6 ∧ withL l r = []) ∨
    (right l = true ∧ mayE r.w r.t r.r = 0 ∧ idxB r.i = true ∧ (rfind l r.i).isSome = false ∧ l.length ≤ 199 ∧ withE l r = 0 ∧ withL l r = rwithL l r ∧ (withL l r).length = l.length + 1) := by
  have hL : withE l r ≠ 0 → withL l r = [] := with_not
  cases h : right l
  · left
    have he : withE l r = 230 := by unfold withE; rw [h]; rfl
    exact ⟨rfl, he, hL (by omega)⟩
  · right
    have hR := (right_iff l).1 h
    rcases mayE_cases r.w r.t r.r with m | m | m
    · right; right
      cases hi : idxB r.i
      · left
        have he : withE l r = 2 := by unfold withE; rw [if_pos h, if_pos m, hi]; rfl
        exact ⟨rfl, m, rfl, he, hL (by omega)⟩
      · right
        have hv := idxB_iff hi
        rw [rfind_is hR (by omega)]
        cases hb : bsIn l r.i
        · right
          by_cases h2 : l.length = 200
          · left
            have he : withE l r = 6 := by unfold withE; rw [if_pos h, if_pos m, if_pos hi, hb, if_pos h2]; rfl
            exact ⟨rfl, m, rfl, rfl, h2, he, hL (by omega)⟩
          · right
            have he : withE l r = 0 := by unfold withE; rw [if_pos h, if_pos m, if_pos hi, hb, if_neg h2]; rfl
            obtain ⟨_, _, _, _, h5, h6⟩ := with_zero he
            exact ⟨rfl, m, rfl, rfl, h5, he, by rw [h6, rwith_eq hR hi hb], by rw [h6, ins_len hR hi]⟩
        · left
          have he : withE l r = 5 := by unfold withE; rw [if_pos h, if_pos m, if_pos hi, if_pos hb]
          exact ⟨rfl, m, rfl, rfl, he, hL (by omega)⟩
    · left
      have he : withE l r = 2 := by unfold withE; rw [if_pos h, if_neg (by omega), m]
      exact ⟨rfl, m, he, hL (by omega)⟩
    · right; left
      have he : withE l r = 231 := by unfold withE; rw [if_pos h, if_neg (by omega), m]
      exact ⟨rfl, m, he, hL (by omega)⟩
/-- how Without and Find answer, and the document -/
theorem goes_without (l : List Rel) (v : Int) (hv : -9223372036854775808 ≤ v ∧ v ≤ 9223372036854775807) :
    (right l = false ∧ tfind l v = none ∧ withoutE l v = 230 ∧ withoutL l v = []) ∨
    (right l = true ∧ tfind l v = rfind l v ∧ (v == 1) = true ∧ withoutE l v = 2 ∧ withoutL l v = []) ∨
    (right l = true ∧ tfind l v = rfind l v ∧ (v == 1) = false ∧ (v == 2) = true ∧ withoutE l v = 2 ∧ withoutL l v = []) ∨
    (right l = true ∧ tfind l v = rfind l v ∧ (v == 1) = false ∧ (v == 2) = false ∧ (rfind l v).isSome = false ∧ withoutE l v = 4 ∧ withoutL l v = []) ∨
    (right l = true ∧ tfind l v = rfind l v ∧ (v == 1) = false ∧ (v == 2) = false ∧ (rfind l v).isSome = true ∧ withoutE l v = 0 ∧ withoutL l v = rwoL l v ∧ 2 ≤ l.length ∧ (withoutL l v).length = l.length - 1) := by
  cases h : right l
  · left
    refine ⟨rfl, ?_, ?_, ?_⟩
    · unfold tfind; rw [h, Bool.and_false]; rfl
    · unfold withoutE; rw [h]; rfl
    · unfold withoutL withoutE; rw [h]; rfl
  · right
    have hR := (right_iff l).1 h
    have hc : chkE l ≠ 230 := by unfold chkE; rw [h]; simp
    rw [← rfind_eq hR hv]
    rcases without_ways l v with ⟨k1, k8, k9⟩ | ⟨k1, k2, k8, k9⟩ | ⟨k1, k2, k3, k8, k9⟩ | ⟨k1, k2, k3, k4, k8, k9⟩ | ⟨k1, k2, k3, k4, k8, k9⟩
    · exact absurd k1 hc
    · left; exact ⟨rfl, rfl, k2, k8, k9⟩
    · right; left; exact ⟨rfl, rfl, k2, k3, k8, k9⟩
    · right; right; left; exact ⟨rfl, rfl, k2, k3, by rw [rfind_is hR hv]; exact k4, k8, k9⟩
    · right; right; right; exact ⟨rfl, rfl, k2, k3, by rw [rfind_is hR hv]; exact k4, k8, by rw [k9, rwo_eq hR hv k4], hR.len.1, by
        have := bsIn_lt k4
        rw [k9, List.length_append, List.length_take, List.length_drop]; omega⟩
end Go.Proofs.YtibjelonabhcmaaDoor
