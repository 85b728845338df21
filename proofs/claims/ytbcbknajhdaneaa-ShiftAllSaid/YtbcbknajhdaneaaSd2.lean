/- What is proved: moved all of them, the first table has nobody and the second one all. -/
import Derived.Test.YtbcbknajhdaneaaSd0
namespace Go.Proofs.Ytbcbknajhdaneaa
open Go.RowKit Go.Maps
set_option linter.unusedVariables false
set_option linter.unusedSimpArgs false
theorem rowK_mem {t : Tab} {who : Int} (hb : tabB t = true) (h : who ∈ t.es) : rowK t who = true := by
  unfold rowK
  rw [ixD_in, hb]
  simpa using h
theorem ofP_Fl (p : PT) : (ofP p).F.length = p.2.1.length := List.length_map _
theorem alG_all : ∀ (n : Nat) (f t : PT), (∀ x ∈ f.2.2, Word x) → tabB (ofP t) = true → f.2.2.length = n → (alG f t 0 (List.replicate n 0)).2.2 = 0 →
    (alG f t 0 (List.replicate n 0)).1.2.2 = [] ∧ (alG f t 0 (List.replicate n 0)).2.1.2.2.length = n + t.2.2.length ∧ tabB (ofP (alG f t 0 (List.replicate n 0)).2.1) = true ∧
      (∀ who, (who ∈ f.2.2 ∨ who ∈ t.2.2) → who ∈ (alG f t 0 (List.replicate n 0)).2.1.2.2) ∧ (alG f t 0 (List.replicate n 0)).2.1.1 = t.1 ∧ (alG f t 0 (List.replicate n 0)).2.1.2.1.length = t.2.1.length
  | 0, f, t, hw, hb, hl, _ => by
    have hf : f.2.2 = [] := List.eq_nil_of_length_eq_zero hl
    refine ⟨hf, by show t.2.2.length = 0 + t.2.2.length; omega, hb, fun who h => ?_, rfl, rfl⟩
    rcases h with h | h
    · rw [hf] at h; cases h
    · exact h
  | n + 1, f, t, hw, hb, hl, he => by
    have hs : alG f t 0 (List.replicate (n + 1) 0) = (List.replicate n 0).foldl alS (alS (f, t, 0) 0) := rfl
    by_cases h0 : mvE (ofP f) (ofP t) 0 = 0
    · have hs2 : alG f t 0 (List.replicate (n + 1) 0) = alG (mvF (ofP f) (ofP t) 0) (mvT (ofP f) (ofP t) 0) 0 (List.replicate n 0) := by
        rw [hs]
        unfold alS
        rw [if_pos rfl]
        show (List.replicate n 0).foldl alS (if mvE (ofP f) (ofP t) 0 = 0 then _ else _) = _
        rw [if_pos h0]; rfl
      obtain ⟨r, m, hS, hT⟩ := moved (f := ofP f) (to := ofP t) (tf := ofP (mvF (ofP f) (ofP t) 0)) (tt := ofP (mvT (ofP f) (ofP t) 0)) h0 hw (ofP_p _) (ofP_p _)
      have hr0 : r = 0 := by have := hS.rw_; omega
      subst hr0
      have hm : n = m := by have h1 : f.2.2.length = m + 1 := hS.n0; omega
      subst hm
      have hes : ∀ (k : Nat), k < n → (mvF (ofP f) (ofP t) 0).2.2[k]? = f.2.2[sig 0 n k]? := fun k hk => hS.es_at hk
      have hte : (mvT (ofP f) (ofP t) 0).2.2 = t.2.2 ++ [idAt f.2.2 0] := hT.es
      have hl1 : (mvF (ofP f) (ofP t) 0).2.2.length = n := hS.len1
      have hw1 : ∀ x ∈ (mvF (ofP f) (ofP t) 0).2.2, Word x := fun x hx => by
        obtain ⟨k, hk⟩ := List.getElem?_of_mem hx
        rw [hes k (by rw [← hl1]; exact (List.getElem?_eq_some_iff.1 hk).1)] at hk
        exact hw x (List.mem_of_getElem? hk)
      rw [hs2] at he ⊢
      have hty : (mvT (ofP f) (ofP t) 0).1 = t.1 := hT.ty
      have hFl : (mvT (ofP f) (ofP t) 0).2.1.length = t.2.1.length := by
        have h9 := hT.len.1
        rw [ofP_Fl, ofP_Fl] at h9
        exact h9
      obtain ⟨g1, g2, g3, g4, g5, g6⟩ := alG_all n (mvF (ofP f) (ofP t) 0) (mvT (ofP f) (ofP t) 0) hw1 (hT.b (ofP_nl _) (ofP_nl _) (gOf_len _)) hl1 he
      refine ⟨g1, ?_, g3, fun who h => ?_, g5.trans hty, g6.trans hFl⟩
      · rw [g2, hte, List.length_append, List.length_singleton]; omega
      · refine g4 who ?_
        rw [hte]
        rcases h with h | h
        · obtain ⟨i, hi⟩ := List.getElem?_of_mem h
          have hil := (List.getElem?_eq_some_iff.1 hi).1
          by_cases hi0 : i = 0
          · subst hi0
            have h9 : idAt f.2.2 0 = who := by
              have := idAt_of hil
              rw [hi] at this
              injection this with this
              exact this.symm
            exact .inr (by rw [h9]; simp)
          · refine .inl ?_
            by_cases him : i = n
            · subst him
              refine List.mem_of_getElem? (i := 0) ?_
              rw [hes 0 (by omega)]
              show f.2.2[if 0 = 0 then i else 0]? = _
              rw [if_pos rfl]; exact hi
            · refine List.mem_of_getElem? (i := i) ?_
              rw [hes i (by omega)]
              show f.2.2[if i = 0 then n else i]? = _
              rw [if_neg hi0]; exact hi
        · exact .inr (List.mem_append_left _ h)
    · exfalso
      have hs3 : (alG f t 0 (List.replicate (n + 1) 0)).2.2 = mvE (ofP f) (ofP t) 0 := by
        rw [hs]
        have h9 : alS (f, t, 0) 0 = (f, t, mvE (ofP f) (ofP t) 0) := by
          unfold alS
          rw [if_pos rfl]
          show (if mvE (ofP f) (ofP t) 0 = 0 then _ else _) = _
          rw [if_neg h0]
        rw [h9, alG_stop h0]
      rw [hs3] at he
      exact h0 he
theorem made_ints (n : Nat) : (madeCells #[.int .i64 0] n).toList = ins (List.replicate n 0) := by
  apply List.ext_getElem?
  intro i
  unfold ins madeCells
  rw [List.getElem?_map, List.getElem?_replicate, Array.toList_map, List.getElem?_map]
  by_cases h : i < n
  · simp [h, Nat.mod_one]
  · simp [h]
end Go.Proofs.Ytbcbknajhdaneaa
