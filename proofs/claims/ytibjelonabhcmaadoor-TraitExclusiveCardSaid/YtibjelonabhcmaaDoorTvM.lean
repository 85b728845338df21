/- What is proved: plain laws of rows of ids that a table may have: search. plain laws of rows of ids: where an id lies; with one more, and one fewer. plain laws of rows of ids: one fewer is the row without it; one more holds it. plain laws of rows of ids: with one more it may be; how many pass. plain laws of rows of ids: taking away those of a list, one by one. plain law: a pair is made again of its parts; what is replaced. plain law: what is replaced is held, told apart, and not the pair itself. plain law: what is replaced are those of the row that pass; so they are told apart. plain law: no more targets than were. a clone of ids, its spare and its address; the plain law of TraitExclusive. -/
import Derived.Test.YtibjelonabhcmaaDoorTuM
import Derived.Test.YtibjelonabhcmaaDoorTr5
import Derived.Test.YtibjelonabhcmaaDoorTs8
namespace Go.Proofs.YtibjelonabhcmaaDoor
open Go.RowKit
set_option linter.unusedVariables false
set_option linter.unusedSimpArgs false
/-- the row may be -/
structure I (l : List Int) : Prop where
  len : l.length ≤ 12
  each : ∀ x ∈ l, tmay x = true
  asc : l.Pairwise (· < ·)
theorem iasc_of : ∀ l : List Int, (∀ (k : Nat) (x y : Int), l[k]? = some x → l[k + 1]? = some y → x < y) → l.Pairwise (· < ·)
  | [], _ => .nil
  | [x], _ => by simp
  | x :: z :: l, h => by
    have ih := iasc_of (z :: l) (fun k a b ha hb => h (k + 1) a b ha hb)
    have hz := h 0 x z rfl rfl
    refine .cons (fun y hy => ?_) ih
    rcases List.mem_cons.1 hy with rfl | hy
    · exact hz
    · exact Int.lt_trans hz ((List.pairwise_cons.1 ih).1 y hy)
theorem iasc_at {l : List Int} (h : l.Pairwise (· < ·)) {j k : Nat} {x y : Int} (hx : l[j]? = some x) (hy : l[k]? = some y) (hjk : j < k) : x < y := by
  obtain ⟨h1, rfl⟩ := List.getElem?_eq_some_iff.1 hx
  obtain ⟨h2, rfl⟩ := List.getElem?_eq_some_iff.1 hy
  exact List.pairwise_iff_getElem.1 h j k h1 h2 hjk
theorem tyOk_at {l : List Int} {n k : Nat} {x : Int} (h : tyOk l n = true) (hk : k < n) (hx : l[k]? = some x) : (tmay x && (k == 0 || decide (idAt l (k - 1) < x))) = true := by
  induction n with
  | zero => omega
  | succ n ih =>
    have h1 : tyOk l n = true ∧ (match l[n]? with | some x => tmay x && (n == 0 || decide (idAt l (n - 1) < x)) | none => true) = true := by
      have : (tyOk l n && (match l[n]? with | some x => tmay x && (n == 0 || decide (idAt l (n - 1) < x)) | none => true)) = true := h
      simpa using this
    rcases Nat.lt_or_ge k n with h2 | h2
    · exact ih h1.1 h2
    · have : k = n := by omega
      subst this
      have := h1.2
      rw [hx] at this
      exact this
theorem tyR_iff (l : List Int) : tyR l = true ↔ I l := by
  constructor
  · intro h
    unfold tyR at h
    simp only [Bool.and_eq_true, decide_eq_true_eq] at h
    refine ⟨h.1, fun x hx => ?_, iasc_of l fun k a b ha hb => ?_⟩
    · obtain ⟨k, hk⟩ := List.mem_iff_getElem?.1 hx
      have := tyOk_at h.2 (List.getElem?_eq_some_iff.1 hk).1 hk
      simp only [Bool.and_eq_true] at this
      exact this.1
    · have := tyOk_at h.2 (List.getElem?_eq_some_iff.1 hb).1 hb
      simp only [Bool.and_eq_true, Bool.or_eq_true, decide_eq_true_eq, beq_iff_eq, Nat.add_sub_cancel] at this
      rcases this.2 with h0 | h0
      · omega
      · rw [idAt_some ha] at h0; exact h0
  · intro h
    unfold tyR
    rw [decide_eq_true h.len, Bool.true_and]
    have key : ∀ n, n ≤ l.length → tyOk l n = true := by
      intro n hn
      induction n with
      | zero => rfl
      | succ n ih =>
        have e1 := List.getElem?_eq_getElem (l := l) (i := n) (by omega)
        generalize l[n]'(by omega) = x at e1
        rw [tyOk_step e1, ih (by omega), Bool.true_and, h.each x (List.mem_of_getElem? e1), Bool.true_and]
        cases n with
        | zero => rfl
        | succ n =>
          have e0 := List.getElem?_eq_getElem (l := l) (i := n) (by omega)
          generalize l[n]'(by omega) = z at e0
          rw [Nat.add_sub_cancel, idAt_some e0, decide_eq_true (iasc_at h.asc e0 e1 (by omega)), Bool.or_true]
    exact key _ (Nat.le_refl _)
end Go.Proofs.YtibjelonabhcmaaDoor
namespace Go.Proofs.YtibjelonabhcmaaDoor
open Go.RowKit
set_option linter.unusedVariables false
set_option linter.unusedSimpArgs false
structure ICut (l : List Int) (v : Int) (a : Nat) : Prop where
  le : a ≤ l.length
  lo : ∀ (k : Nat) (x : Int), k < a → l[k]? = some x → x < v
  hi : ∀ (k : Nat) (x : Int), a ≤ k → l[k]? = some x → v ≤ x
theorem ibGo_cut {l : List Int} {v : Int} (hs : l.Pairwise (· < ·)) (f lo hi : Nat) (hf : hi - lo < f) (h1 : lo ≤ hi) (h2 : hi ≤ l.length)
    (hl : ∀ (k : Nat) (x : Int), k < lo → l[k]? = some x → x < v) (hh : ∀ (k : Nat) (x : Int), hi ≤ k → l[k]? = some x → v ≤ x) : ICut l v (ibGo l v f lo hi) := by
  induction f generalizing lo hi with
  | zero => omega
  | succ f ih =>
    by_cases h : lo < hi
    · rw [ibGo_step _ _ _ _ _ h]
      have e1 := List.getElem?_eq_getElem (l := l) (i := (lo + hi) / 2) (by omega)
      generalize l[(lo + hi) / 2]'(by omega) = x at e1
      rw [idAt_some e1]
      by_cases t : x < v
      · rw [if_pos t]
        refine ih _ _ (by omega) (by omega) h2 (fun k y hk hy => ?_) hh
        rcases Nat.lt_or_ge k ((lo + hi) / 2) with hk2 | hk2
        · exact Int.lt_trans (iasc_at hs hy e1 hk2) t
        · have : k = (lo + hi) / 2 := by omega
          subst this
          rw [e1] at hy
          cases hy
          exact t
      · rw [if_neg t]
        refine ih _ _ (by omega) (by omega) (by omega) hl (fun k y hk hy => ?_)
        rcases Nat.lt_or_ge ((lo + hi) / 2) k with hk2 | hk2
        · have := iasc_at hs e1 hy hk2
          omega
        · have : k = (lo + hi) / 2 := by omega
          subst this
          rw [e1] at hy
          cases hy
          omega
    · rw [ibGo_end _ _ _ _ _ h]
      have : lo = hi := by omega
      subst this
      exact ⟨h2, hl, hh⟩
theorem ibAt_cut {l : List Int} (v : Int) (h : I l) : ICut l v (ibAt l v) := by
  refine ibGo_cut h.asc _ _ _ (by omega) (by omega) (Nat.le_refl _) (fun k x hk => by omega) (fun k x hk hx => ?_)
  have := (List.getElem?_eq_some_iff.1 hx).1
  omega
theorem ibAt_at {l : List Int} {x : Int} {k : Nat} (h : I l) (hk : l[k]? = some x) : ibAt l x = k := by
  have hc := ibAt_cut x h
  have hkl := (List.getElem?_eq_some_iff.1 hk).1
  rcases Nat.lt_trichotomy (ibAt l x) k with h1 | h1 | h1
  · have e1 := List.getElem?_eq_getElem (l := l) (i := ibAt l x) (by omega)
    have := hc.hi _ _ (Nat.le_refl _) e1
    have := iasc_at h.asc e1 hk h1
    omega
  · exact h1
  · have := hc.lo _ _ h1 hk
    omega
theorem ibIn_iff {l : List Int} (v : Int) (h : I l) : ibIn l v = true ↔ v ∈ l := by
  constructor
  · intro hb
    unfold ibIn at hb
    simp only [Bool.and_eq_true, decide_eq_true_eq, beq_iff_eq] at hb
    have e1 := List.getElem?_eq_getElem (l := l) (i := ibAt l v) hb.1
    rw [idAt_some e1] at hb
    rw [← hb.2]
    exact List.mem_of_getElem? e1
  · intro hx
    obtain ⟨k, hk⟩ := List.mem_iff_getElem?.1 hx
    unfold ibIn
    rw [ibAt_at h hk, idAt_some hk, decide_eq_true (List.getElem?_eq_some_iff.1 hk).1]
    simp
end Go.Proofs.YtibjelonabhcmaaDoor
namespace Go.Proofs.YtibjelonabhcmaaDoor
open Go.RowKit
set_option linter.unusedVariables false
set_option linter.unusedSimpArgs false
theorem ICut.parts {l : List Int} {v : Int} {a : Nat} (h : ICut l v a) : (∀ x ∈ l.take a, x < v) ∧ (∀ x ∈ l.drop a, v ≤ x) := by
  constructor
  · intro x hx
    obtain ⟨k, hk⟩ := List.mem_iff_getElem?.1 hx
    rw [List.getElem?_take] at hk
    split at hk
    · exact h.lo k x (by omega) hk
    · cases hk
  · intro x hx
    obtain ⟨k, hk⟩ := List.mem_iff_getElem?.1 hx
    rw [List.getElem?_drop] at hk
    exact h.hi _ x (by omega) hk
theorem two_eq {l : List Int} {v : Int} (h : I l) (hv : v ∈ l) : twoE l v = 0 ∧ twoL l v = l.filter (fun x => x != v) := by
  have hb := (ibIn_iff v h).2 hv
  have he : twoE l v = 0 := by unfold twoE; rw [if_pos ((tyR_iff l).2 h), if_pos hb]
  refine ⟨he, ?_⟩
  unfold twoL
  rw [if_pos he]
  obtain ⟨k, hk⟩ := List.mem_iff_getElem?.1 hv
  have hka := ibAt_at h hk
  rw [hka]
  obtain ⟨hlt, e⟩ := List.getElem?_eq_some_iff.1 hk
  have hsplit : l = l.take k ++ v :: l.drop (k + 1) := by
    have h1 := List.drop_eq_getElem_cons hlt
    rw [e] at h1
    rw [← h1, List.take_append_drop]
  have p1 := (ibAt_cut v h).parts.1
  rw [hka] at p1
  have p2 : ∀ y ∈ l.drop (k + 1), v < y := by
    intro y hy
    obtain ⟨j, hj⟩ := List.mem_iff_getElem?.1 hy
    rw [List.getElem?_drop] at hj
    exact iasc_at h.asc hk hj (by omega)
  rw [show l.filter (fun x => x != v) = (l.take k ++ v :: l.drop (k + 1)).filter (fun x => x != v) from by rw [← hsplit]]
  rw [List.filter_append, List.filter_cons, List.filter_eq_self.2 (fun y hy => by have := p1 y hy; simp; omega), List.filter_eq_self.2 (fun y hy => by have := p2 y hy; simp; omega)]
  simp
theorem I.filter {l : List Int} (h : I l) (p : Int → Bool) : I (l.filter p) :=
  ⟨Nat.le_trans (List.length_filter_le _ _) h.len, fun x hx => h.each x (List.mem_filter.1 hx).1, h.asc.sublist List.filter_sublist⟩
theorem insI_mem {l : List Int} {v : Int} (h : I l) (x : Int) : x ∈ insI l v ↔ x ∈ l ∨ x = v := by
  unfold insI
  cases hb : ibIn l v
  · have e : ∀ y, y ∈ l ↔ y ∈ l.take (ibAt l v) ∨ y ∈ l.drop (ibAt l v) := fun y => by rw [← List.mem_append, List.take_append_drop]
    rw [e x]
    simp only [Bool.false_eq_true, if_false, List.mem_append, List.mem_cons]
    constructor
    · rintro (h | rfl | h)
      · exact .inl (.inl h)
      · exact .inr rfl
      · exact .inl (.inr h)
    · rintro ((h | h) | rfl)
      · exact .inl h
      · exact .inr (.inr h)
      · exact .inr (.inl rfl)
  · have hv := (ibIn_iff v h).1 hb
    simp only [if_true]
    constructor
    · exact .inl
    · rintro (h | rfl)
      · exact h
      · exact hv
end Go.Proofs.YtibjelonabhcmaaDoor
namespace Go.Proofs.YtibjelonabhcmaaDoor
open Go.RowKit
set_option linter.unusedVariables false
set_option linter.unusedSimpArgs false
theorem insI_ok {l : List Int} {v : Int} (h : I l) (hv : tmay v = true) (hl : (insI l v).length ≤ 12) : I (insI l v) := by
  refine ⟨hl, fun x hx => ?_, ?_⟩
  · rcases (insI_mem h x).1 hx with h1 | rfl
    · exact h.each x h1
    · exact hv
  · unfold insI
    cases hb : ibIn l v
    · have hn : v ∉ l := fun hm => by have := (ibIn_iff v h).2 hm; rw [hb] at this; cases this
      obtain ⟨p1, p2⟩ := (ibAt_cut v h).parts
      simp only [Bool.false_eq_true, if_false]
      have p3 : ∀ y ∈ l.drop (ibAt l v), v < y := fun y hy => by
        have h1 := p2 y hy
        have h2 : v ≠ y := fun e => hn (e ▸ List.mem_of_mem_drop hy)
        omega
      refine List.pairwise_append.2 ⟨h.asc.sublist (List.take_sublist _ _), List.pairwise_cons.2 ⟨p3, h.asc.sublist (List.drop_sublist _ _)⟩, fun x hx y hy => ?_⟩
      rcases List.mem_cons.1 hy with rfl | hy
      · exact p1 x hx
      · exact Int.lt_trans (p1 x hx) (p3 y hy)
    · exact h.asc
theorem insI_filter (l : List Int) (v : Int) (p : Int → Bool) : ((insI l v).filter p).length ≤ (l.filter p).length + (if p v then 1 else 0) := by
  unfold insI
  cases hb : ibIn l v
  · have e : (l.filter p).length = ((l.take (ibAt l v)).filter p).length + ((l.drop (ibAt l v)).filter p).length := by
      rw [← List.length_append, ← List.filter_append, List.take_append_drop]
    rw [e]
    simp only [Bool.false_eq_true, if_false, List.filter_append, List.length_append, List.filter_cons]
    cases p v <;> simp <;> omega
  · simp
end Go.Proofs.YtibjelonabhcmaaDoor
namespace Go.Proofs.YtibjelonabhcmaaDoor
open Go.RowKit
set_option linter.unusedVariables false
set_option linter.unusedSimpArgs false
/-- what is left when those of the list are taken away -/
def leftL (l gone : List Int) : List Int := l.filter (fun x => decide (x ∉ gone))
theorem leftL_nil (l : List Int) : leftL l [] = l := by unfold leftL; simp
theorem leftL_snoc (l gone : List Int) (y : Int) : (leftL l gone).filter (fun x => x != y) = leftL l (gone ++ [y]) := by
  unfold leftL
  rw [List.filter_filter]
  congr 1
  funext x
  by_cases h1 : x ∈ gone <;> by_cases h2 : x = y <;> simp [h1, h2]
theorem leftL_mem (l gone : List Int) (x : Int) : x ∈ leftL l gone ↔ x ∈ l ∧ x ∉ gone := by unfold leftL; simp
theorem leftL_ok {l : List Int} (h : I l) (gone : List Int) : I (leftL l gone) := h.filter _
/-- one step of the law's loop -/
theorem left_step {l gone : List Int} {k : Nat} {y : Int} (h : I l) (hn : gone.Nodup) (hs : ∀ x ∈ gone, x ∈ l) (hy : gone[k]? = some y) :
    twoE (leftL l (gone.take k)) y = 0 ∧ twoL (leftL l (gone.take k)) y = leftL l (gone.take (k + 1)) := by
  have hm : y ∈ leftL l (gone.take k) := by
    refine (leftL_mem _ _ _).2 ⟨hs y (List.mem_of_getElem? hy), fun hx => ?_⟩
    obtain ⟨j, hj⟩ := List.mem_iff_getElem?.1 hx
    rw [List.getElem?_take] at hj
    split at hj
    · rename_i hjk
      obtain ⟨h1, e1⟩ := List.getElem?_eq_some_iff.1 hj
      obtain ⟨h2, e2⟩ := List.getElem?_eq_some_iff.1 hy
      have := (List.pairwise_iff_getElem.1 hn) j k h1 h2 hjk
      exact this (e1.trans e2.symm)
    · cases hj
  obtain ⟨q1, q2⟩ := two_eq (leftL_ok h _) hm
  refine ⟨q1, ?_⟩
  rw [q2, leftL_snoc, ← take_snoc hy]
end Go.Proofs.YtibjelonabhcmaaDoor
namespace Go.Proofs.YtibjelonabhcmaaDoor
open Go.RowKit
set_option linter.unusedVariables false
set_option linter.unusedSimpArgs false
theorem kd3 {a : Int} (h : kd a = 3) : paiV (pa a) (pb a) = a ∧ paiE (pa a) (pb a) = 0 ∧ (1 ≤ pa a ∧ pa a ≤ 1048578) ∧ (1 ≤ pb a ∧ pb a ≤ 1048578) := by
  have h3 : tk a 3 = true := by
    unfold kd at h
    cases q1 : tk a 1 <;> cases q2 : tk a 2 <;> cases q3 : tk a 3 <;> cases q4 : tk a 4 <;> simp [q1, q2, q3, q4] at h ⊢
  rw [tk3, inn2] at h3
  simp only [Bool.and_eq_true, beq_iff_eq, decide_eq_true_eq] at h3
  obtain ⟨e, h1, h2⟩ := h3
  have ea : pa a = hi a := by unfold pa; rw [h]; simp
  have eb : pb a = lo a := by unfold pb; rw [h]; simp
  rw [ea, eb]
  refine ⟨?_, ?_, h1, h2⟩
  · unfold paiV; rw [if_pos (by omega)]; exact e.symm
  · unfold paiE; rw [if_pos (by omega)]
end Go.Proofs.YtibjelonabhcmaaDoor
namespace Go.Proofs.YtibjelonabhcmaaDoor
open Go.RowKit
set_option linter.unusedVariables false
set_option linter.unusedSimpArgs false
theorem repl_mem {l : List Rel} {held : List WInt} {id y : Int} (ht : tyR (vals held) = true) (hy : y ∈ replL l held id) : y ∈ vals held ∧ y ≠ id ∧ kd y = 3 ∧ pa y = pa id ∧ kd id = 3 := by
  rcases repl_ways l held id with ⟨_, k⟩ | ⟨_, _, k⟩ | ⟨_, _, k⟩ | ⟨k1, _, k⟩
  · rw [k] at hy; cases hy
  · rw [k] at hy; cases hy
  · rw [k] at hy; cases hy
  rw [k] at hy
  unfold replGo tgts sel at hy
  rw [if_pos ht] at hy
  obtain ⟨n, hn, rfl⟩ := List.mem_map.1 hy
  obtain ⟨h1, h2⟩ := List.mem_filter.1 hn
  obtain ⟨x, hx, rfl⟩ := List.mem_map.1 h1
  obtain ⟨h3, h4⟩ := List.mem_filter.1 hx
  simp only [pq, Bool.and_eq_true, beq_iff_eq] at h4
  obtain ⟨e, _, _, _⟩ := kd3 h4.1
  simp only [Bool.and_eq_true, bne_iff_ne] at h2
  rw [← h4.2, e]
  refine ⟨List.mem_map.2 ⟨x, h3, rfl⟩, fun h => h2.2 (by rw [h]), h4.1, rfl, k1⟩
end Go.Proofs.YtibjelonabhcmaaDoor
namespace Go.Proofs.YtibjelonabhcmaaDoor
open Go.RowKit
set_option linter.unusedVariables false
set_option linter.unusedSimpArgs false
theorem repl_list (r t : Int) : ∀ H : List WInt, replGo r t ((H.filter (fun x => pq (fun a _ => a == r) x.1)).map (fun x => pb x.1)) = (vals H).filter (fun y => pq (fun a _ => a == r) y && pb y != t)
  | [] => rfl
  | x :: H => by
    have ih := repl_list r t H
    unfold replGo at ih ⊢
    have ev : vals (x :: H) = x.1 :: vals H := rfl
    rw [ev, List.filter_cons, List.filter_cons]
    cases hp : pq (fun a _ => a == r) x.1
    · simpa using ih
    · have h4 := hp
      simp only [pq, Bool.and_eq_true, beq_iff_eq] at h4
      obtain ⟨e, e2, _, _⟩ := kd3 h4.1
      rw [h4.2] at e e2
      simp only [if_true, List.map_cons, List.filter_cons, e2, Bool.true_and]
      cases hq : (pb x.1 != t)
      · simpa [hq] using ih
      · simpa [hq, e] using ih
theorem repl_nodup {l : List Rel} {held : List WInt} {id : Int} (ht : tyR (vals held) = true) : (replL l held id).Nodup := by
  rcases repl_ways l held id with ⟨_, k⟩ | ⟨_, _, k⟩ | ⟨_, _, k⟩ | ⟨k1, _, k⟩
  · rw [k]; exact .nil
  · rw [k]; exact .nil
  · rw [k]; exact .nil
  rw [k]
  unfold tgts sel
  rw [if_pos ht, repl_list]
  have h := ((tyR_iff _).1 ht).asc.sublist (List.filter_sublist (p := fun y => pq (fun a _ => a == pa id) y && pb y != pb id))
  exact h.imp (fun {a b} h => by omega)
end Go.Proofs.YtibjelonabhcmaaDoor
namespace Go.Proofs.YtibjelonabhcmaaDoor
open Go.RowKit
set_option linter.unusedVariables false
set_option linter.unusedSimpArgs false
theorem left_count (l gone : List Int) (p : Int → Bool) : ((leftL l gone).filter p).length ≤ (l.filter p).length := by
  unfold leftL
  exact (List.filter_sublist.filter p).length_le
theorem left_fewer {l gone : List Int} {p : Int → Bool} {y : Int} (h1 : y ∈ l) (h2 : y ∈ gone) (h3 : p y = true) : ((leftL l gone).filter p).length + 1 ≤ (l.filter p).length := by
  have hs : ((leftL l gone).filter p).Sublist (l.filter p) := by unfold leftL; exact List.filter_sublist.filter p
  rcases Nat.lt_or_ge ((leftL l gone).filter p).length (l.filter p).length with h | h
  · exact h
  · have e := hs.eq_of_length_le h
    have hm : y ∈ l.filter p := List.mem_filter.2 ⟨h1, h3⟩
    rw [← e] at hm
    exact absurd h2 ((leftL_mem _ _ _).1 (List.mem_filter.1 hm).1).2
end Go.Proofs.YtibjelonabhcmaaDoor
namespace Go.Proofs.YtibjelonabhcmaaDoor
open Go.RowKit
set_option linter.unusedVariables false
set_option linter.unusedSimpArgs false
theorem own_nilok {w : World} {B n : Nat} {v : Value} {xs : List Value} (ho : w.ownsRow B 38 1 v n xs) : ∃ A c, v = .slice A n c ∧ NilOk A n c ∧ n ≤ c ∧ c ≤ 9223372036854775807 := by
  obtain ⟨hx, ⟨rfl, rfl⟩ | ⟨g, cap, cur, rfl, h1, h2, h3, h4, h5, h6⟩⟩ := ho
  · exact ⟨none, 0, rfl, .inl ⟨rfl, rfl, rfl⟩, Nat.le_refl _, by omega⟩
  · exact ⟨_, cap, rfl, .inr ⟨g, 0, rfl⟩, h3, by unfold maxLen at h4; exact h4⟩
/-- a row of ids with its address, its length and its spare -/
def RowN (l : List Int) (m : Nat) (w : World) (e : Ending) (w' : World) : Prop := ∃ A c, e = .returned (.slice A m c) ∧ (NilOk A m c ∧ m ≤ c ∧ c ≤ 9223372036854775807) ∧ Reads w' w'.heap.size 1 A m (ids l) ∧ Below w.heap.size w w'
def RowNE (l : List Int) (m : Nat) (x : Int) (w : World) (e : Ending) (w' : World) : Prop := ∃ A c, e = .returned (.tuple #[.slice A m c, .int .i64 x]) ∧ (NilOk A m c ∧ m ≤ c ∧ c ≤ 9223372036854775807) ∧ Reads w' w'.heap.size 1 A m (ids l) ∧ Below w.heap.size w w'
theorem OwnI.rown {l : List Int} {m : Nat} {w w' : World} {e : Ending} (h : OwnI l w e w') (hm : l.length = m) : RowN l m w e w' := by
  obtain ⟨v, rfl, ho, hb⟩ := h
  subst hm
  obtain ⟨A, c, rfl, hn, hc, hc2⟩ := own_nilok ho
  exact ⟨A, c, rfl, ⟨hn, hc, hc2⟩, Reads.of_own ho, hb⟩
theorem OwnJ.rown {l : List Int} {m : Nat} {x : Int} {w w' : World} {e : Ending} (h : OwnJ l x w e w') (hm : l.length = m) : RowNE l m x w e w' := by
  obtain ⟨v, rfl, ho, hb⟩ := h
  subst hm
  obtain ⟨A, c, rfl, hn, hc, hc2⟩ := own_nilok ho
  exact ⟨A, c, rfl, ⟨hn, hc, hc2⟩, Reads.of_own ho, hb⟩
set_option maxRecDepth 100000 in
set_option maxHeartbeats 1000000 in
theorem clone_idn (A : Option Addr) (n c : Nat) (l : List Int) (w : World) (hR : Reads w w.heap.size 1 A n (ids l)) (hn : n ≤ 65536) :
    Calls Tryd.prog 17 #[.slice A n c] w (RowN l n w) := by
  have qT : ∀ (w : World) (a : Option Addr) (n c n' c' : Nat), (binOp .eql 35 (.slice a n c) (.slice none n' c')).run Tryd.prog w = .ok (.bool a.isNone) w := fun w a n c n' c' => Lib.run_eql_slice_nil w _ _ a n c n' c' Tryd.underlying35
  obtain ⟨i0, hi0, hz0, hz1, hz2⟩ := info_parts info_id
  cases A with
  | none =>
    have h0 : n = 0 := by
      rcases Nat.eq_zero_or_pos n with h0 | h0
      · exact h0
      · obtain ⟨ad, h, _⟩ := hR.2 h0
        cases h
    subst h0
    go_enter Tryd.func17, Tryd.ntmps17
    go_wp2
    go_ret
    exact ⟨none, 0, rfl, ⟨.inl ⟨rfl, rfl, rfl⟩, Nat.le_refl _, by omega⟩, hR, Below.refl _ _⟩
  | some a =>
    go_enter Tryd.func17, Tryd.ntmps17
    go_wp2_with (first
        | (at_builtin
           refine wpList_append_any _ rfl (.tmp 5) (.tmp 6) _ rfl w.heap.size 38 i0 _ 1 8 Tryd.underlying35 hi0 hz0 hz1 hz2 rfl (by omega) _ 0 [] rfl
             ?_ w.heap.size (some a) n c (ids l) rfl ?_ (ids_one l) (by simp only [maxLen]; omega) (by omega) (by simp) ?_
           · exact World.ownsRow_lit _ _ _ (Nat.le_refl _) (by simp [maxLen]) rfl
           · exact hR.alloc (Nat.le_refl _) _
           intro v1 w1 hown1 hg1 hat1))
    have hb1 := own_grown_below ((Below.refl w.heap.size w).alloc (Nat.le_refl _) _) (World.ownsRow_lit (e := 38) (size := 1) w #[] 0 (Nat.le_refl _) (by simp [maxLen]) rfl) hg1
    rw [Nat.zero_add, List.nil_append] at hown1
    obtain ⟨A1, c1, rfl, hnk⟩ := own_nilok hown1
    have hRf := Reads.of_own hown1
    have HN := Lib.hid hnk
    clear hown1 hg1 hat1 hnk
    go_wp2
    go_ret
    exact ⟨A1, c1, rfl, HN.out, hRf, hb1⟩
/-- the law's loop over what is replaced: how long what is left is -/
theorem left_len (l gone : List Int) : (leftL l gone).length ≤ l.length := by unfold leftL; exact List.length_filter_le _ _
theorem repl_none {L : List Rel} {H : List WInt} {id : Int} (h : tyR (vals H) = false) : replL L H id = [] := by
  rcases repl_ways L H id with ⟨_, k⟩ | ⟨_, _, k⟩ | ⟨_, _, k⟩ | ⟨_, _, k⟩
  · exact k
  · exact k
  · exact k
  · rw [k]
    unfold tgts sel
    rw [h]
    rfl
theorem repl_bad {L : List Rel} {H : List WInt} {id : Int} (h : right L = false) : replL L H id = [] := by
  have ht : tfind L (pa id) = none := by
    unfold tfind
    simp [h]
  rcases repl_ways L H id with ⟨_, k⟩ | ⟨_, _, k⟩ | ⟨_, ⟨x, k1, _⟩, k⟩ | ⟨_, ⟨x, k1, _⟩, _⟩
  · exact k
  · exact k
  · exact k
  · rw [ht] at k1; cases k1
theorem repl_len (L : List Rel) (H : List WInt) (id : Int) : (replL L H id).length ≤ 12 := by
  rcases repl_ways L H id with ⟨_, k⟩ | ⟨_, _, k⟩ | ⟨_, _, k⟩ | ⟨_, _, k⟩
  · rw [k]; simp
  · rw [k]; simp
  · rw [k]; simp
  · rw [k]
    refine Nat.le_trans (replGo_len _ _ _) ?_
    unfold tgts
    rw [List.length_map]
    exact sel_len _ _
/-- where something is replaced no relation has more targets than it had -/
theorem excl_count {L : List Rel} {H M : List WInt} {id : Int} (ht : tyR (vals H) = true) (hne : replL L H id ≠ []) (hM : vals M = insI (leftL (vals H) (replL L H id)) id) (hMt : tyR (vals M) = true) (r : Int) :
    (sel M (pq fun a _ => a == r)).length ≤ (sel H (pq fun a _ => a == r)).length := by
  have e : ∀ (X : List WInt) (p : Int → Bool), (X.filter (fun x => p x.1)).length = ((vals X).filter p).length := by
    intro X p
    unfold vals
    rw [List.filter_map, List.length_map]
    rfl
  unfold sel
  rw [if_pos hMt, if_pos ht, e M, e H, hM]
  have h1 := insI_filter (leftL (vals H) (replL L H id)) id (pq fun a _ => a == r)
  cases hp : pq (fun a _ => a == r) id
  · rw [hp] at h1
    have h2 := left_count (vals H) (replL L H id) (pq fun a _ => a == r)
    simp at h1
    omega
  · rw [hp] at h1
    simp at h1
    obtain ⟨y, hy⟩ := List.exists_mem_of_ne_nil _ hne
    obtain ⟨y1, y2, y3, y4, y5⟩ := repl_mem ht hy
    have hpy : pq (fun a _ => a == r) y = true := by
      simp only [pq, Bool.and_eq_true, beq_iff_eq] at hp ⊢
      exact ⟨y3, by rw [y4]; exact hp.2⟩
    have := left_fewer (p := pq (fun a _ => a == r)) y1 hy hpy
    omega
theorem has_more {M : List WInt} {l : List Int} {id : Int} (hl : I l) (hM : vals M = insI l id) (hMt : tyR (vals M) = true) : (!(sel M (fun x => x == id)).isEmpty) = true := by
  have hm : id ∈ vals M := by rw [hM]; exact (insI_mem hl id).2 (.inr rfl)
  obtain ⟨x, hx, rfl⟩ := List.mem_map.1 hm
  unfold sel
  rw [if_pos hMt]
  have : x ∈ M.filter (fun y => y.1 == x.1) := List.mem_filter.2 ⟨hx, by simp⟩
  cases h : M.filter (fun y => y.1 == x.1) with
  | nil => rw [h] at this; cases this
  | cons _ _ => rfl
end Go.Proofs.YtibjelonabhcmaaDoor
