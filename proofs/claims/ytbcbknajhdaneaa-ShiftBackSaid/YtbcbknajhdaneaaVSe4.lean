/- What is proved: what the document says of a row moved is what Move does. -/
import Derived.Test.YtbcbknajhdaneaaVSe3
namespace Go.Proofs.Ytbcbknajhdaneaa
open Go.RowKit Go.Maps
set_option linter.unusedVariables false
set_option linter.unusedSimpArgs false
theorem both_mem {A B : Nat} {l : List Int} : ∀ (m : List Int) (b j : Nat) (a : Int) (z : PIn A B), m[j]? = some a → l.contains a = true → z ∈ pairAt A B (ixN l a) (b + j) → z ∈ bothFrom A B l b m
  | [], _, _, _, _, h, _, _ => by simp at h
  | x :: m, b, 0, a, z, h, hc, hz => by
    simp at h; subst h
    unfold bothFrom
    rw [if_pos hc]
    exact List.mem_append_left _ hz
  | x :: m, b, j + 1, a, z, h, hc, hz => by
    have ih := both_mem m (b + 1) j a z (by simpa using h) hc (by rw [show b + 1 + j = b + (j + 1) by omega]; exact hz)
    unfold bothFrom
    split
    · exact List.mem_append_right _ ih
    · exact ih
theorem both_inv {A B : Nat} {l : List Int} : ∀ (m : List Int) (b : Nat) (z : PIn A B), z ∈ bothFrom A B l b m → ∃ j a, m[j]? = some a ∧ l.contains a = true ∧ z.1 = (ixN l a, b + j)
  | [], _, _, h => by cases h
  | x :: m, b, z, h => by
    have hrec : z ∈ bothFrom A B l (b + 1) m → ∃ j a, (x :: m)[j]? = some a ∧ l.contains a = true ∧ z.1 = (ixN l a, b + j) := fun h => by
      obtain ⟨j, a, h1, h2, h3⟩ := both_inv m (b + 1) z h
      exact ⟨j + 1, a, by simpa using h1, h2, by rw [h3, show b + 1 + j = b + (j + 1) by omega]⟩
    unfold bothFrom at h
    split at h
    · rename_i hc
      rcases List.mem_append.1 h with h | h
      · refine ⟨0, x, rfl, hc, ?_⟩
        unfold pairAt at h
        split at h
        · rw [List.mem_singleton] at h; subst h; rfl
        · cases h
      · exact hrec h
    · exact hrec h
theorem all_wid {f to : Tab} {q : Nat} (hbf : tabB f = true) (hbt : tabB to = true) (nf : NL f) (nt : NL to) (hq : q < f.es.length) : (bothT f to).all (carOk f to (q : Int)) = true ↔ WidOk f to f.ty.length := by
  have hi := ((tyR_iff f.ty).1 (tabB_parts hbf).1).inj
  have hlf := (tabB_parts hbf).2.1
  have hlt := (tabB_parts hbt).2.1
  rw [List.all_eq_true]
  constructor
  · intro hall k i id x y hk h1 h2 h3 h4
    have hm : id ∈ f.ty := List.mem_of_getElem? h1
    have hc : f.ty.contains id = true := by simpa using hm
    have hix : ixN f.ty id = k := hi _ _ _ (ixN_at hi hc) h1
    have hil : i < to.ty.length := (List.getElem?_eq_some_iff.1 h2).1
    have hik : ixN f.ty id < f.ty.length ∧ i < to.ty.length := ⟨by rw [hix]; exact hk, hil⟩
    have hz := both_mem (A := f.ty.length) (B := to.ty.length) (l := f.ty) to.ty 0 i id ⟨(ixN f.ty id, i), hik⟩ h2 hc (by rw [Nat.zero_add, pairAt_of hik]; simp)
    have hc2 := hall _ hz
    unfold carOk at hc2
    simp only [hix, h3, h4] at hc2
    unfold carB at hc2
    rw [Bool.and_eq_true] at hc2
    have h5 := of_decide_eq_true hc2.2
    obtain ⟨g1, g2, g3⟩ := getLi_chunk hbf nf h3 hq
    unfold getL at h5
    rw [if_pos g2, Int.toNat_natCast, g3] at h5
    obtain ⟨x0, _⟩ := tab_col hbf nf h3
    omega
  · intro hw z hz
    obtain ⟨j, a, h1, h2, h3⟩ := both_inv to.ty 0 z hz
    rw [Nat.zero_add] at h3
    have hx := ixN_at hi h2
    have hxl := (List.getElem?_eq_some_iff.1 hx).1
    have hjl := (List.getElem?_eq_some_iff.1 h1).1
    have ex := List.getElem?_eq_getElem (l := f.F) (i := ixN f.ty a) (by omega)
    have ey := List.getElem?_eq_getElem (l := to.F) (i := j) (by omega)
    generalize f.F[ixN f.ty a]'(by omega) = x at ex
    generalize to.F[j]'(by omega) = y at ey
    have hxy := hw _ _ _ _ _ hxl hx h1 ex ey
    obtain ⟨g1, g2, g3⟩ := getLi_chunk hbf nf ex hq
    obtain ⟨x0, _⟩ := tab_col hbf nf ex
    unfold carOk
    rw [h3]
    simp only [ex, ey]
    unfold carB getL
    rw [if_pos g2, Int.toNat_natCast, g3, Bool.and_eq_true]
    exact ⟨decide_eq_true g2, decide_eq_true (by omega)⟩
theorem tpu_doc {f to : Tab} {q : Nat} (hbf : tabB f = true) (hbt : tabB to = true) (nf : NL f) (nt : NL to) (hw : ∀ x ∈ f.es, Word x) (hq : q < f.es.length) (hle : to.es.length ≤ 60000) (hwo : WidOk f to f.ty.length) :
    tpuE to (idAt f.es q) (gOf (mvV f to (q : Int))) = if hasI to.es (idx (idAt f.es q)) then 5 else 0 := by
  have hi := ((tyR_iff f.ty).1 (tabB_parts hbf).1).inj
  have hlt := (tabB_parts hbt).2.1
  have hV := mvV_eq (f := f) (to := to) (q : Int) hi hlt
  have e1 := idAt_of hq
  have hwq := hw _ (List.mem_of_getElem? e1)
  have hent := (entOk_iff f.es).1 (tabB_parts hbf).2.2.2.2
  have hk1 : kd (idAt f.es q) = 1 := by
    have h0 := hent.1 q _ e1
    by_cases h : kd (idAt f.es q) = 1
    · exact h
    · exact absurd ((idx_zero hwq).2 h) h0
  have hix : pa (idAt f.es q) = idx (idAt f.es q) := by unfold idx; rw [if_pos hk1]
  have hfit := fit_rV (G := gOf (rV f to (q : Int))) hbf hbt nf nt hq hwo (gOf_l _) (gOf_len _)
  unfold fitB at hfit
  rw [Bool.and_eq_true, beq_iff_eq] at hfit
  rw [hV]
  unfold tpuE
  rw [if_pos hbt, if_pos ⟨hk1, hfit.1⟩, hfit.2, hix]
  cases hasI to.es (idx (idAt f.es q)) with
  | true => rfl
  | false =>
    show (if (true = true) then (if to.es.length = 1048578 then (6 : Int) else 0) else 140) = 0
    rw [if_pos rfl, if_neg (by omega)]
theorem chk_mvE {f to : Tab} {row r : Int} (nf : NL f) (nt : NL to) (hw : ∀ x ∈ f.es, Word x) (hle : to.es.length ≤ 60000) (h : ChkP f to row r) : r = mvE f to row := by
  rcases h with ⟨hb, rfl⟩ | ⟨hb, hr, rfl⟩ | ⟨hb, q, rfl, hq, h⟩
  · unfold mvE; rw [if_neg (by rw [hb]; decide)]
  · unfold mvE; rw [if_pos hb, if_pos hr]
  · have hbb := hb
    rw [Bool.and_eq_true] at hbb
    have hal := all_wid hbb.1 hbb.2 nf nt hq
    unfold mvE
    rw [if_pos hb, if_neg (by omega)]
    rcases h with ⟨hno, rfl⟩ | ⟨hwo, rfl⟩
    · rw [if_neg (fun h => hno (hal.1 h))]
    · rw [if_pos (hal.2 hwo), Int.toNat_natCast, tpu_doc hbb.1 hbb.2 nf nt hw hq hle hwo]
theorem mv_doc {f to : Tab} {row : Int} (h : mvE f to row = 0) (nf : NL f) (nt : NL to) (hEt : to.es.length = to.En) : ∃ q m : Nat, row = (q : Int) ∧ tabB f = true ∧ tabB to = true ∧ f.es.length = m + 1 ∧ q ≤ m ∧ WidOk f to f.ty.length ∧
    mvF f to row = rswapP f q m ∧ mvT f to row = rpuP to (idAt f.es q) (rV f to (q : Int)) ∧ mvR f to row = (to.En : Int) ∧ mvM f to row = (if q = m then 0 else idAt f.es m) := by
  obtain ⟨h1, h2, h3, h4, h5⟩ := mv_zero h
  obtain ⟨_, ha, hb⟩ := atE_zero h3
  obtain ⟨q, rfl⟩ := Int.eq_ofNat_of_zero_le ha
  have hq : q < f.es.length := by omega
  have hm : f.es.length = (f.es.length - 1) + 1 := by omega
  rw [Int.toNat_natCast] at h5
  have hwo := (all_wid h1 h2 nf nt hq).1 h4
  have hV := mvV_eq (f := f) (to := to) (q : Int) ((tyR_iff f.ty).1 (tabB_parts h1).1).inj (tabB_parts h2).2.1
  refine ⟨q, f.es.length - 1, rfl, h1, h2, hm, by omega, hwo, ?_, ?_, ?_, ?_⟩
  · unfold mvF; rw [if_pos h]; exact swap_same nf hm (by omega) h1
  · unfold mvT; rw [if_pos h, Int.toNat_natCast, push_same nt hEt (gOf_len _) h5, gOf_l, hV]
  · unfold mvR; rw [if_pos h, hEt]
  · unfold mvM; rw [if_pos h]
    unfold tswM
    rw [if_pos h3, Int.toNat_natCast]
    by_cases hqm : q = f.es.length - 1
    · rw [if_pos hqm, if_neg (by omega)]
    · rw [if_neg hqm, if_pos (by omega)]
end Go.Proofs.Ytbcbknajhdaneaa
