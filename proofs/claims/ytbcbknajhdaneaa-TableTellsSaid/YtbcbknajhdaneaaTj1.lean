/- What is proved: plain laws: how Swap and Set end. -/
import Derived.Test.YtbcbknajhdaneaaTi1
namespace Go.Proofs.Ytbcbknajhdaneaa
open Go.RowKit
set_option linter.unusedVariables false
set_option linter.unusedSimpArgs false
theorem atE_no {t : Tab} {row : Int} (h : tabB t = false) : atE t row = 190 := by unfold atE; rw [h]; rfl
theorem atE_out {t : Tab} {row : Int} (h : tabB t = true) (hr : ¬ (0 ≤ row ∧ row < (t.es.length : Int))) : atE t row = 2 := by unfold atE; rw [h, if_pos rfl, if_neg hr]
theorem atE_in {t : Tab} {row : Int} (h : tabB t = true) (hr : 0 ≤ row ∧ row < (t.es.length : Int)) : atE t row = 0 := by unfold atE; rw [h, if_pos rfl, if_pos hr]
theorem tswP_no {t : Tab} {row : Int} (h : atE t row ≠ 0) : tswP t row = noT := by unfold tswP; rw [if_neg h]
theorem tswM_no {t : Tab} {row : Int} (h : atE t row ≠ 0) : tswM t row = 0 := by unfold tswM; rw [if_neg h]
theorem swm_eq {t : Tab} {r m : Nat} (h : atE t (r : Int) = 0) (hm : t.es.length = m + 1) (hr : r ≤ m) : tswM t (r : Int) = if r = m then 0 else idAt t.es m := by
  unfold tswM
  rw [if_pos h, Int.toNat_natCast, hm, Nat.add_sub_cancel]
  by_cases hrm : r = m
  · rw [if_pos hrm, if_neg (by omega)]
  · rw [if_neg hrm, if_pos (by omega)]
theorem tse_at {t : Tab} {row id : Int} {v : Rw} (h : atE t row ≠ 0) : tseE t row id v = atE t row ∧ tseP t row id v = noT := by
  have h1 : plE t row id = atE t row := by unfold plE; rw [if_neg h]
  have h2 : tseE t row id v = atE t row := by unfold tseE; rw [if_neg (by rw [h1]; exact h), h1]
  exact ⟨h2, by unfold tseP; rw [if_neg (by rw [h2]; exact h)]⟩
theorem tse_none {t : Tab} {row id : Int} {v : Rw} (h : atE t row = 0) (hk : ixD t.ty id < 0) : tseE t row id v = 4 ∧ tseP t row id v = noT := by
  have hI := (tyR_iff _).1 (tabB_parts (atE_zero h).1).1
  have hn : ibIn t.ty id = false := by
    cases hb : ibIn t.ty id with
    | false => rfl
    | true =>
      exfalso
      have hm := (ibIn_iff id hI).1 hb
      obtain ⟨k, hk2⟩ := List.getElem?_of_mem hm
      have h2 := ixGo_at id t.ty 0 k hk2 (fun j x hj hx => by
        subst hx
        have e1 := ibAt_at hI hj
        have e2 := ibAt_at hI hk2
        omega)
      unfold ixD at hk
      omega
  have h1 : plE t row id = 4 := by unfold plE; rw [if_pos h, hn]; rfl
  have h2 : tseE t row id v = 4 := by unfold tseE; rw [if_neg (by rw [h1]; decide), h1]
  exact ⟨h2, by unfold tseP; rw [if_neg (by rw [h2]; decide)]⟩
/-- an id that is found has its column -/
theorem ix_at {t : Tab} {id : Int} (hb : tabB t = true) (hk : 0 ≤ ixD t.ty id) : ∃ (k : Nat) (x : Col), ixD t.ty id = (k : Int) ∧ t.F[k]? = some x ∧ ibAt t.ty id = k ∧ ibIn t.ty id = true ∧ k < t.F.length := by
  have hI := (tyR_iff _).1 (tabB_parts hb).1
  obtain ⟨k, hke⟩ := Int.eq_ofNat_of_zero_le hk
  by_cases hm : id ∈ t.ty
  · obtain ⟨j, hj⟩ := List.getElem?_of_mem hm
    have e1 := ibAt_at hI hj
    have h2 := ixGo_at id t.ty 0 j hj (fun i x hi hx => by
      subst hx
      have e2 := ibAt_at hI hi
      omega)
    unfold ixD at hke ⊢
    have hjk : j = k := by omega
    subst hjk
    have hl := (tabB_parts hb).2.1
    have hjl := (List.getElem?_eq_some_iff.1 hj).1
    exact ⟨j, _, hke, List.getElem?_eq_getElem (by omega), e1, (ibIn_iff id hI).2 hm, by omega⟩
  · exfalso
    have h3 := ixGo_no id t.ty 0 (fun x hx e => hm (by rw [← e]; exact hx))
    unfold ixD at hk
    omega
theorem eachE_col {t : Tab} {row : Int} {v : Rw} {k0 : Nat} {x : Col} (h : atE t row = 0) (hx : t.F[k0]? = some x) (hvw : (v.n : Int) = x.W) : eachE (setcE (k0 : Int) row v) 0 t.F = 0 := by
  obtain ⟨hb, h0, h1⟩ := atE_zero h
  obtain ⟨_, _, _, hc, _⟩ := tabB_parts hb
  refine eachE_all _ _ _ fun j y hy => ?_
  unfold setcE
  rw [Nat.zero_add]
  by_cases hj : j = k0
  · subst hj
    rw [hx] at hy
    injection hy with hy
    subst hy
    obtain ⟨hc1, hc2⟩ := hc x (List.mem_of_getElem? hx)
    have hg : getE x row = 0 := by unfold getE; rw [hc1, if_pos rfl, if_pos ⟨h0, by rw [hc2]; exact h1⟩]
    rw [if_pos rfl]
    unfold setE
    rw [if_pos hg, if_neg (by rw [hvw]; simp)]
  · rw [if_neg (by omega)]
theorem eachE_bad {fe : Nat → Col → Int} : ∀ (F : List Col) (b k : Nat) (x : Col), F[k]? = some x → (∀ j y, j ≠ k → F[j]? = some y → fe (b + j) y = 0) → eachE fe b F = fe (b + k) x
  | [], _, _, _, hk, _ => by simp at hk
  | y :: F, b, 0, x, hk, h => by
    simp at hk; subst hk
    unfold eachE
    split
    · rename_i h0
      have h0 : fe b y = 0 := h0
      refine Eq.trans ?_ h0.symm
      exact eachE_all _ _ _ fun j z hz => by
        have := h (j + 1) z (by omega) (by simpa using hz)
        rw [show b + 1 + j = b + (j + 1) from by omega]; exact this
    · rfl
  | y :: F, b, k + 1, x, hk, h => by
    have h0 := h 0 y (by omega) rfl
    rw [Nat.add_zero] at h0
    unfold eachE
    rw [if_pos h0, eachE_bad F (b + 1) k x (by simpa using hk) (fun j z hj hz => by
      have := h (j + 1) z (by omega) (by simpa using hz)
      rw [show b + 1 + j = b + (j + 1) from by omega]; exact this), show b + 1 + k = b + (k + 1) from by omega]
theorem tse_wide {t : Tab} {row id : Int} {v : Rw} {k : Nat} {x : Col} (h : atE t row = 0) (hk : ibAt t.ty id = k) (hin : ibIn t.ty id = true) (hx : t.F[k]? = some x) (hv : v.l.length = v.n) (hw : (v.n : Int) ≠ x.W) : tseE t row id v = 140 ∧ tseP t row id v = noT := by
  obtain ⟨hb, h0, h1⟩ := atE_zero h
  obtain ⟨_, _, _, hc, _⟩ := tabB_parts hb
  have hp : plE t row id = 0 := by unfold plE; rw [if_pos h, hin]; rfl
  have h2 : tseE t row id v = 140 := by
    unfold tseE
    rw [if_pos hp]
    split
    · rw [hk, eachE_bad t.F 0 k x hx (fun j y hj hy => by unfold setcE; rw [if_neg (by omega)]), Nat.zero_add]
      unfold setcE
      obtain ⟨hc1, hc2⟩ := hc x (List.mem_of_getElem? hx)
      have hg : getE x row = 0 := by unfold getE; rw [hc1, if_pos rfl, if_pos ⟨h0, by rw [hc2]; exact h1⟩]
      rw [if_pos rfl]
      unfold setE
      rw [if_pos hg, if_pos (by simpa using hw)]
    · rfl
  exact ⟨h2, by unfold tseP; rw [if_neg (by rw [h2]; decide)]⟩
theorem tse_ok {t : Tab} {row id : Int} {v : Rw} {k : Nat} {x : Col} (h : atE t row = 0) (hk : ibAt t.ty id = k) (hin : ibIn t.ty id = true) (hx : t.F[k]? = some x) (hv : v.l.length = v.n) (hw : (v.n : Int) = x.W) : tseE t row id v = 0 ∧ v.l.length ≤ 4 := by
  obtain ⟨hb, h0, h1⟩ := atE_zero h
  obtain ⟨_, _, _, hc, _⟩ := tabB_parts hb
  obtain ⟨hc1, _⟩ := hc x (List.mem_of_getElem? hx)
  unfold colB at hc1
  obtain ⟨_, hW4, _⟩ := of_decide_eq_true hc1
  have hl : v.l.length ≤ 4 := by omega
  have hp : plE t row id = 0 := by unfold plE; rw [if_pos h, hin]; rfl
  refine ⟨?_, hl⟩
  unfold tseE
  rw [if_pos hp, if_pos (by unfold chkV; rw [if_neg (by omega)]), hk]
  exact eachE_col h hx hw
theorem splice_len_le {l c : List Int} {a : Nat} : (splice l a c).length ≤ l.length + c.length := by
  unfold splice
  rw [List.length_append, List.length_append, List.length_take, List.length_drop]
  omega
theorem psm_swap {t : Tab} (row : Int) (hp : PSm t.p) (hq : ∀ q ∈ t.p.2.1, q.2.2.length ≤ 200) : PSm (tswP t row) := by
  unfold tswP
  split
  rotate_left
  · exact psm_noT
  obtain ⟨p1, p2, p3, p4⟩ := hp
  unfold Tab.p at p1 p2 p3 p4 hq
  simp only [List.length_map] at p1 p2 p3 p4 hq
  refine ⟨p1, by simp only [eachL_len]; exact p2, by unfold swapEs; simp only [List.length_take, List.length_set]; omega, fun q hq2 => ?_⟩
  obtain ⟨k, x, hx, rfl⟩ := eachL_mem hq2
  have h1 := hq x.p (List.mem_map_of_mem (List.mem_of_getElem? hx))
  unfold Col.p at h1
  simp only at h1
  unfold swpP
  split
  · unfold swapC
    have h2 := @splice_len_le x.l (chunk x.l x.W.toNat (x.R - 1).toNat) (row.toNat * x.W.toNat)
    have h3 : (chunk x.l x.W.toNat (x.R - 1).toNat).length ≤ x.l.length := by unfold chunk; rw [List.length_take, List.length_drop]; omega
    simp only [List.length_take]
    omega
  · exact Nat.zero_le _
theorem psm_set {t : Tab} (row id : Int) {v : Rw} (hp : PSm t.p) (hq : ∀ q ∈ t.p.2.1, q.2.2.length ≤ 200) (hv : v.l.length ≤ 6) : PSm (tseP t row id v) := by
  unfold tseP
  split
  rotate_left
  · exact psm_noT
  obtain ⟨p1, p2, p3, p4⟩ := hp
  unfold Tab.p at p1 p2 p3 p4 hq
  simp only [List.length_map] at p1 p2 p3 p4 hq
  refine ⟨p1, by simp only [eachL_len]; exact p2, p3, fun q hq2 => ?_⟩
  obtain ⟨k, x, hx, rfl⟩ := eachL_mem hq2
  have h1 := hq x.p (List.mem_map_of_mem (List.mem_of_getElem? hx))
  have h4 := p4 x.p (List.mem_map_of_mem (List.mem_of_getElem? hx))
  unfold Col.p at h1
  simp only at h1
  unfold setcP
  split
  · unfold setP
    split
    · unfold setC
      have h2 := @splice_len_le x.l v.l (row.toNat * x.W.toNat)
      simp only
      omega
    · exact Nat.zero_le _
  · exact h4
end Go.Proofs.Ytbcbknajhdaneaa
