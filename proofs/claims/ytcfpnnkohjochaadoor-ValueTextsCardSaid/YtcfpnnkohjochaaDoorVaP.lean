/- What is proved: values and their texts lead back to one another (plain); the walk of the law ValueBack. -/
import Derived.Test.YtcfpnnkohjochaaDoorVaO
namespace Go.Proofs.YtcfpnnkohjochaaDoor
open Go.RowKit
set_option linter.unusedVariables false
set_option linter.unusedSimpArgs false
theorem cutC_eq (c : UInt8) (l : List UInt8) : cutC (c :: l) = if c = 44 then [] :: cutC l else match cutC l with | p :: ps => (c :: p) :: ps | [] => [[c]] := rfl
theorem cutC_plain : ∀ p : List UInt8, (∀ c ∈ p, c ≠ 44) → cutC p = [p]
  | [], _ => rfl
  | c :: p, h => by
    unfold cutC
    rw [if_neg (h c (List.mem_cons_self ..)), cutC_plain p (fun d hd => h d (List.mem_cons_of_mem _ hd))]
theorem cutC_app : ∀ (p r : List UInt8), (∀ c ∈ p, c ≠ 44) → cutC (p ++ 44 :: r) = p :: cutC r
  | [], r, _ => by show cutC (44 :: r) = _; rw [cutC_eq, if_pos rfl]
  | c :: p, r, h => by
    show cutC (c :: (p ++ 44 :: r)) = _
    rw [cutC_eq, if_neg (h c (List.mem_cons_self ..)), cutC_app p r (fun d hd => h d (List.mem_cons_of_mem _ hd))]
theorem hexL_noComma (n : Nat) : ∀ c ∈ hexL n, c ≠ 44 := by
  intro c hc e
  subst e
  have := List.all_eq_true.1 (hexL_all n) 44 hc
  revert this
  decide
theorem joinV_two (x y : Int) (l : List Int) : joinV (x :: y :: l) = hexL x.toNat ++ 44 :: joinV (y :: l) := by
  unfold joinV
  rw [List.map_cons, Lib.join_cons, List.map_cons, Lib.join_cons]
  unfold Lib.joinTail
  simp
theorem joinV_one (x : Int) : joinV [x] = hexL x.toNat := by
  unfold joinV
  rw [List.map_cons, List.map_nil, Lib.join_one]
theorem cut_join : ∀ (x : Int) (l : List Int), cutC (joinV (x :: l)) = (x :: l).map (fun y => hexL y.toNat)
  | x, [] => by rw [joinV_one, cutC_plain _ (hexL_noComma _)]; rfl
  | x, y :: l => by rw [joinV_two, cutC_app _ _ (hexL_noComma _), cut_join y l]; rfl
theorem words_hex : ∀ l : List Int, (∀ x ∈ l, Word x) → wordsL (l.map (fun y => hexL y.toNat)) = some l
  | [], _ => rfl
  | x :: l, h => by
    have hx := h x (List.mem_cons_self ..)
    obtain ⟨h0, h1⟩ := hx
    have e : wordP (hexL x.toNat) = some x := by rw [wordP_hex _ (by omega)]; congr 1; omega
    rw [List.map_cons]
    unfold wordsL
    rw [e, words_hex l (fun y hy => h y (List.mem_cons_of_mem _ hy))]
theorem joinV_not (x : Int) (l : List Int) : joinV (x :: l) ≠ [45] := by
  intro e
  have hc : (45 : UInt8) ∈ hexL x.toNat := by
    cases l with
    | nil => rw [joinV_one] at e; rw [e]; simp
    | cons y l =>
      rw [joinV_two] at e
      cases hh : hexL x.toNat with
      | nil => exact absurd hh (hexL_ne _)
      | cons a b =>
        rw [hh] at e
        have : a = 45 := by injection e
        rw [this]; simp
  have := List.all_eq_true.1 (hexL_all x.toNat) 45 hc
  revert this
  decide
theorem read_txt {l : List Int} (hl : chkV l = 0) (hw : ∀ x ∈ l, Word x) : readL (txtV l) = some l := by
  have h4 : l.length ≤ 4 := by unfold chkV at hl; split at hl <;> omega
  cases l with
  | nil => rfl
  | cons x l =>
    have e : txtV (x :: l) = joinV (x :: l) := by unfold txtV; rw [if_neg (by simp)]
    rw [e]
    unfold readL
    rw [if_neg (joinV_not x l), cut_join, words_hex _ hw]
    dsimp only
    rw [if_pos h4]
theorem wordsL_back : ∀ (ps : List (List UInt8)) (xs : List Int), wordsL ps = some xs → xs.map (fun y => hexL y.toNat) = ps ∧ ∀ x ∈ xs, Word x
  | [], xs, h => by have : some [] = some xs := h; injection this with this; subst this; exact ⟨rfl, by simp⟩
  | p :: ps, xs, h => by
    unfold wordsL at h
    cases h1 : wordP p with
    | none => rw [h1] at h; cases h
    | some x =>
      cases h2 : wordsL ps with
      | none => rw [h1, h2] at h; cases h
      | some ys =>
        rw [h1, h2] at h
        injection h with h
        subst h
        obtain ⟨e1, e2⟩ := wordsL_back ps ys h2
        refine ⟨by rw [List.map_cons, e1, hex_word h1], fun y hy => ?_⟩
        rcases List.mem_cons.1 hy with rfl | hy
        · exact wordP_word h1
        · exact e2 y hy
theorem join_cut : ∀ l : List UInt8, Lib.join (cutC l) [44] = l
  | [] => rfl
  | c :: l => by
    have ih := join_cut l
    obtain ⟨p, ps, h⟩ := cutC_cons l
    rw [h, Lib.join_cons] at ih
    unfold cutC
    by_cases hc : c = 44
    · rw [if_pos hc, h, Lib.join_cons]
      subst hc
      rw [← ih]
      unfold Lib.joinTail
      simp
    · rw [if_neg hc, h]
      dsimp only
      rw [Lib.join_cons, List.cons_append, ih]
theorem txt_read {s : List UInt8} {l : List Int} (h : readL s = some l) : txtV l = s ∧ l.length ≤ 4 ∧ ∀ x ∈ l, Word x := by
  unfold readL at h
  split at h
  · rename_i h45
    injection h with h
    subst h
    exact ⟨h45.symm, by simp, by simp⟩
  · cases hw : wordsL (cutC s) with
    | none => rw [hw] at h; cases h
    | some xs =>
      rw [hw] at h
      dsimp only at h
      split at h
      · injection h with h
        subst h
        obtain ⟨e1, e2⟩ := wordsL_back _ _ hw
        refine ⟨?_, by assumption, e2⟩
        have hne : xs ≠ [] := by
          intro e
          obtain ⟨p, ps, hp⟩ := cutC_cons s
          rw [hp, e] at e1
          cases e1
        unfold txtV joinV
        rw [if_neg hne, e1, join_cut]
      · cases h
end Go.Proofs.YtcfpnnkohjochaaDoor
