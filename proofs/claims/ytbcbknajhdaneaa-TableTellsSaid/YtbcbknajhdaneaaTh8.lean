/- What is proved: plain laws: what the document's Push, Swap and Set answer is what the table's do. -/
import Derived.Test.YtbcbknajhdaneaaTh7
import Derived.Test.YtbcbknajhdaneaaTg4
namespace Go.Proofs.Ytbcbknajhdaneaa
open Go.RowKit
set_option linter.unusedVariables false
set_option linter.unusedSimpArgs false
theorem ofL_get (R : List (List (List Int))) (E : Int) : ∀ (ws : List Int) (b k : Nat), (ofL R E b ws)[k]? = (ws[k]?).map fun n => (n, E, colOf R (b + k))
  | [], _, _ => rfl
  | n :: ws, b, 0 => rfl
  | n :: ws, b, k + 1 => by
    show (ofL R E (b + 1) ws)[k]? = _
    rw [ofL_get R E ws (b + 1) k, List.getElem?_cons_succ, show b + 1 + k = b + (k + 1) from by omega]
theorem colOf_snoc (R : List (List (List Int))) (r : List (List Int)) {k : Nat} {v : List Int} (h : r[k]? = some v) : colOf (R ++ [r]) k = colOf R k ++ v := by
  unfold colOf
  rw [List.flatMap_append]
  simp [h]
theorem colOf_chunks {W k : Nat} : ∀ (m : Nat) {l : List Int} {R : List (List (List Int))}, l.length = W * m → R.length = m → (∀ (j : Nat) (r : List (List Int)), R[j]? = some r → r[k]? = some (chunk l W j)) → colOf R k = l
  | 0, l, R, hl, hR, _ => by
    obtain rfl : R = [] := List.length_eq_zero_iff.1 hR
    obtain rfl : l = [] := List.length_eq_zero_iff.1 (by omega)
    rfl
  | m + 1, l, R, hl, hR, h => by
    have hl2 : l.length = W * m + W := by rw [hl, Nat.mul_succ]
    have e : R = R.take m ++ [R[m]] := by
      have h1 := take_snoc (List.getElem?_eq_getElem (l := R) (i := m) (by omega))
      rw [List.take_of_length_le (by omega)] at h1
      exact h1
    have h2 := h m R[m] (List.getElem?_eq_getElem _)
    have hc : l = l.take (W * m) ++ chunk l W m := by
      unfold chunk
      rw [Nat.mul_comm m W, List.take_of_length_le (l := List.drop (W * m) l) (by rw [List.length_drop]; omega), List.take_append_drop]
    have h3 := colOf_chunks (W := W) (k := k) m (l := l.take (W * m)) (R := R.take m) (by rw [List.length_take]; omega) (by rw [List.length_take]; omega) fun j r hj => by
      rw [List.getElem?_take] at hj
      split at hj
      · rename_i hjm
        have h4 := h j r hj
        rw [h4]
        congr 1
        unfold chunk
        have h5 := rows_le (W := W) hjm
        rw [Nat.succ_mul, Nat.mul_comm m W] at h5
        rw [List.drop_take, List.take_take, Nat.min_eq_left (by omega)]
      · cases hj
    rw [e, colOf_snoc _ _ h2, h3, ← hc]
theorem rowL_get {F : List Col} {j k : Nat} {x : Col} (h : F[k]? = some x) : (rowL F j)[k]? = some (chunk x.l x.W.toNat j) := by unfold rowL; rw [List.getElem?_map, h]; rfl
theorem allR_get {F : List Col} {m j : Nat} {r : List (List Int)} (h : (allR F m)[j]? = some r) : j < m ∧ r = rowL F j := by
  have hj := (List.getElem?_eq_some_iff.1 h).1
  rw [allR_len] at hj
  rw [allR_at hj] at h
  injection h with h
  exact ⟨hj, h.symm⟩
/-- what is known of a column of a table that may be -/
theorem tab_col {t : Tab} (hb : tabB t = true) (hn : NL t) {k : Nat} {x : Col} (hk : t.F[k]? = some x) : 0 ≤ x.W ∧ x.W ≤ 4 ∧ x.R = (t.es.length : Int) ∧ x.l.length = x.W.toNat * t.es.length ∧ colB x.W x.R x.n = true := by
  obtain ⟨_, _, hle, hc, _⟩ := tabB_parts hb
  obtain ⟨h1, h2⟩ := hc x (List.mem_of_getElem? hk)
  have h3 := hn x (List.mem_of_getElem? hk)
  have h4 := h1
  unfold colB at h4
  obtain ⟨hW0, hW4, hR0, hR1, hnn⟩ := of_decide_eq_true h4
  refine ⟨hW0, hW4, h2, ?_, h1⟩
  obtain ⟨W, hW⟩ := Int.eq_ofNat_of_zero_le hW0
  rw [hW, h2, ← Int.natCast_mul] at hnn
  rw [h3, hW, Int.toNat_natCast]
  omega
/-- the columns that come of it -/
theorem cols_eq {t : Tab} {fp : Nat → Col → PC} {R : List (List (List Int))} {E : Int} (h : ∀ (k : Nat) (x : Col), t.F[k]? = some x → fp k x = (x.W, E, colOf R k)) : eachL fp 0 t.F = ofL R E 0 (t.F.map Col.W) := by
  refine List.ext_getElem? fun k => ?_
  rw [eachL_get, ofL_get, List.getElem?_map, Nat.zero_add]
  cases hk : t.F[k]? with
  | none => rfl
  | some x => simp only [Option.map_some]; rw [h k x hk]
theorem push_same {t : Tab} {e : Int} {G : List Rw} (hn : NL t) (hE : t.es.length = t.En) (hl : ∀ v ∈ G, v.l.length = v.n) (h : tpuE t e G = 0) : tpuP t e G = rpuP t e (G.map Rw.l) := by
  have h0 := h
  unfold tpuE at h
  split at h
  rotate_left
  · omega
  rename_i hb
  split at h
  rotate_left
  · omega
  rename_i hk
  split at h
  · omega
  split at h
  rotate_left
  · omega
  rename_i hw
  unfold tpuP rpuP
  rw [if_pos h0]
  congr 2
  refine cols_eq fun k x hx => ?_
  obtain ⟨hW0, hW4, hR, hxl, hc⟩ := tab_col hb hn hx
  have hlt := (List.getElem?_eq_some_iff.1 hx).1
  have hv := rws_at (G := G) (k := k) (by omega)
  have hwv := widE_at hw k x hx
  rw [Nat.zero_add] at hwv
  have hvl := hl _ (List.mem_of_getElem? hv)
  generalize vAt G k = v at *
  have hz : pushE x v = 0 := by
    unfold pushE
    rw [hc, if_pos rfl, if_neg (by rw [hwv]; simp)]
    split
    · rename_i h9
      rw [hR] at h9
      have h1 : (t.es.length = 1048578) ∨ t.es.length < 1048578 := by
        have := (tabB_parts hb).2.2.1
        omega
      rcases h1 with h1 | h1
      · rw [if_pos h1] at h; omega
      · omega
    · rfl
  unfold pushP
  rw [if_pos hz]
  have hvW : v.l.length = x.W.toNat := by omega
  rw [← hE, hR]
  congr 2
  rw [colOf_snoc _ _ (show (G.map Rw.l)[k]? = some v.l from by rw [List.getElem?_map, hv]; rfl)]
  rw [colOf_chunks (W := x.W.toNat) t.es.length hxl (allR_len _ _) fun j r hj => by
    obtain ⟨_, rfl⟩ := allR_get hj
    exact rowL_get hx]
theorem swap_same {t : Tab} {r m : Nat} (hn : NL t) (hm : t.es.length = m + 1) (hr : r ≤ m) (hb : tabB t = true) : tswP t (r : Int) = rswapP t r m := by
  have h0 : atE t (r : Int) = 0 := by unfold atE; rw [hb, if_pos rfl, if_pos ⟨by omega, by omega⟩]
  unfold tswP rswapP
  rw [if_pos h0, Int.toNat_natCast]
  congr 2
  refine cols_eq fun k x hx => ?_
  obtain ⟨hW0, hW4, hR, hxl, hc⟩ := tab_col hb hn hx
  have hg : getE x (r : Int) = 0 := by unfold getE; rw [hc, if_pos rfl, if_pos ⟨by omega, by omega⟩]
  unfold swpP
  rw [if_pos hg, hR, hm, Int.toNat_natCast, show (((m + 1 : Nat) : Int) - 1) = (m : Int) from by omega, Int.toNat_natCast]
  congr 2
  rw [hm] at hxl
  symm
  refine colOf_chunks (W := x.W.toNat) m (swapC_len hxl hr) (by unfold rswapR; rw [List.length_take, List.length_set, allR_len]; omega) fun j q hj => ?_
  unfold rswapR at hj
  rw [List.getElem?_take] at hj
  split at hj
  rotate_left
  · cases hj
  rename_i hjm
  rw [swapC_chunk hxl hr hjm]
  rw [List.getElem?_set] at hj
  unfold sig
  split at hj
  · rename_i hrj
    subst hrj
    rw [allR_len, if_pos (by omega)] at hj
    injection hj with hj
    rw [← hj, if_pos rfl]
    exact rowL_get hx
  · rename_i hrj
    obtain ⟨_, rfl⟩ := allR_get hj
    rw [if_neg (Ne.symm hrj)]
    exact rowL_get hx
theorem set_same2 {t : Tab} {r k0 : Nat} {id : Int} {v : Rw} (hn : NL t) (hE : t.es.length = t.En) (hr : r < t.es.length) (hk : ibAt t.ty id = k0) (hvl : v.l.length = v.n) (h : tseE t (r : Int) id v = 0) : tseP t (r : Int) id v = rsetP t r k0 v.l := by
  have h0 := h
  unfold tseP
  rw [if_pos h0]
  unfold tseE at h
  split at h
  rotate_left
  · rename_i h1; exact absurd h h1
  rename_i hpl
  split at h
  rotate_left
  · omega
  have hat := plE_zero hpl
  obtain ⟨hb, _, _⟩ := atE_zero hat.1
  rw [hk] at h ⊢
  unfold rsetP
  congr 2
  refine cols_eq fun k x hx => ?_
  obtain ⟨hW0, hW4, hR, hxl, hc⟩ := tab_col hb hn hx
  have hz := eachE_zero _ _ _ h k x hx
  rw [Nat.zero_add] at hz
  unfold setcP
  unfold setcE at hz
  have hEn : True := trivial
  have hlt := (List.getElem?_eq_some_iff.1 hx).1
  by_cases hkk : k = k0
  · subst hkk
    rw [if_pos rfl] at hz ⊢
    have hg : getE x (r : Int) = 0 := by unfold getE; rw [hc, if_pos rfl, if_pos ⟨by omega, by omega⟩]
    have hvn : (v.n : Int) = x.W := by
      unfold setE at hz
      rw [if_pos hg] at hz
      split at hz
      · omega
      · rename_i h9; simpa using h9
    unfold setP
    rw [if_pos hz, Int.toNat_natCast, hR, hE]
    rw [hE] at hxl hr
    have hcol : colOf (rsetR t r k v.l) k = setC x.l x.W.toNat r v.l := by
      refine colOf_chunks (W := x.W.toNat) t.En (setC_len hxl (by omega) hr) (by unfold rsetR; rw [List.length_set, allR_len, hE]) fun j q hj => ?_
      have hjl := (List.getElem?_eq_some_iff.1 hj).1
      unfold rsetR at hj hjl
      rw [List.length_set, allR_len, hE] at hjl
      rw [setC_chunk hxl (by omega) hr hjl]
      rw [List.getElem?_set] at hj
      split at hj
      · rename_i hrj
        subst hrj
        rw [allR_len, if_pos (by omega)] at hj
        injection hj with hj
        rw [← hj, if_pos rfl, List.getElem?_set, if_pos rfl, if_pos (by unfold rowL; rw [List.length_map]; exact hlt)]
      · rename_i hrj
        obtain ⟨_, rfl⟩ := allR_get hj
        rw [if_neg (Ne.symm hrj)]
        exact rowL_get hx
    rw [hcol]
  · rw [if_neg (by omega)]
    have hcol : colOf (rsetR t r k0 v.l) k = x.l := by
      refine colOf_chunks (W := x.W.toNat) t.es.length hxl (by unfold rsetR; rw [List.length_set, allR_len]) fun j q hj => ?_
      unfold rsetR at hj
      rw [List.getElem?_set] at hj
      split at hj
      · rename_i hrj
        subst hrj
        rw [allR_len, if_pos hr] at hj
        injection hj with hj
        rw [← hj, List.getElem?_set, if_neg (Ne.symm hkk)]
        exact rowL_get hx
      · obtain ⟨_, rfl⟩ := allR_get hj
        exact rowL_get hx
    rw [hcol]
    unfold Col.p
    rw [hR, hE]
theorem idx_zero {a : Int} (h : Word a) : idx a = 0 ↔ kd a ≠ 1 := by
  unfold idx
  split
  · rename_i hk
    have ht : tk a 1 = true := by
      unfold kd at hk
      split at hk
      · assumption
      · split at hk
        · omega
        · split at hk
          · omega
          · split at hk <;> omega
    rw [tk1] at ht
    simp only [Bool.and_eq_true] at ht
    have h2 := ht.1.2
    unfold inn at h2
    simp only [List.all_cons, List.all_nil, Bool.and_true] at h2
    unfold pa
    rw [if_pos (.inl hk)]
    constructor
    · intro h3
      rw [h3] at h2
      simp at h2
    · intro h3; exact absurd hk h3
  · rename_i hk; exact ⟨fun _ => hk, fun _ => rfl⟩
end Go.Proofs.Ytbcbknajhdaneaa
