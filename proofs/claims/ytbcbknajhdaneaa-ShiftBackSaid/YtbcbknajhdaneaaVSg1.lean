/- What is proved: a row moved and moved back, in plain words. -/
import Derived.Test.YtbcbknajhdaneaaVSe4
namespace Go.Proofs.Ytbcbknajhdaneaa
open Go.RowKit Go.Maps
set_option linter.unusedVariables false
set_option linter.unusedSimpArgs false
/-- a value that stands is got -/
theorem tg_of {t : Tab} {k c : Nat} {id : Int} {x : Col} (hb : tabB t = true) (hn : NL t) (hk : k < t.es.length) (h1 : t.ty[c]? = some id) (h2 : t.F[c]? = some x) : tgE t (k : Int) id = 0 ∧ tgL t (k : Int) id = getL x (k : Int) := by
  have hI := (tyR_iff t.ty).1 (tabB_parts hb).1
  have ha : ibAt t.ty id = c := ibAt_at hI h1
  have hin : ibIn t.ty id = true := (ibIn_iff id hI).2 (List.mem_of_getElem? h1)
  have hat : atE t (k : Int) = 0 := by unfold atE; rw [hb, if_pos rfl, if_pos ⟨by omega, by omega⟩]
  have hpl : plE t (k : Int) id = 0 := by unfold plE; rw [if_pos hat, hin, if_pos rfl]
  have hcol : colAt t (ibAt t.ty id) = x := by unfold colAt; rw [ha, h2]
  unfold tgE tgL
  rw [if_pos hpl, if_pos hpl, hcol]
  exact ⟨(getLi_chunk hb hn h2 hk).2.1, rfl⟩
theorem chunk_app {l v : List Int} {W k R : Nat} (hk : k < R) (hl : l.length = W * R) : chunk (l ++ v) W k = chunk l W k := by
  have h1 := rows_le (W := W) hk
  have h2 : R * W = W * R := Nat.mul_comm _ _
  have hm : (k + 1) * W = k * W + W := Nat.succ_mul k W
  unfold chunk
  rw [List.drop_append_of_le_length (by omega), List.take_append_of_le_length (by rw [List.length_drop]; omega)]
/-- what stood ahead stands -/
theorem Turned.old {t0 t1 : Tab} {e : Int} {G : List Rw} (h : Turned t0 t1 e G) (n1 : NL t1) (n0 : NL t0) (hG : ∀ v ∈ G, v.l.length = v.n) {c k : Nat} {x1 x0 : Col} (h1 : t1.F[c]? = some x1) (h0 : t0.F[c]? = some x0) (hk : k < t0.es.length) : getL x1 (k : Int) = getL x0 (k : Int) := by
  obtain ⟨y0, v, e0, hv, hW, hR, hl, hc, hE, hvn⟩ := h.at_ c x1 h1
  rw [h0] at e0; cases e0
  have hb := Turned.b h n1 n0 hG
  have hlen : t1.es.length = t0.es.length + 1 := by rw [h.es, List.length_append, List.length_singleton]
  obtain ⟨_, g1, _⟩ := getLi_chunk hb n1 h1 (q := k) (by omega)
  obtain ⟨_, g0, _⟩ := getLi_chunk h.b0 n0 h0 (q := k) hk
  obtain ⟨_, _, _, hll, _⟩ := tab_col h.b0 n0 h0
  unfold getL
  rw [if_pos g1, if_pos g0, Int.toNat_natCast, hl, hW]
  exact chunk_app hk hll
section
variable {a b tf tt : Tab} {row : Int} (h0 : mvE a b row = 0) (hwa : ∀ x ∈ a.es, Word x) (hwb : ∀ x ∈ b.es, Word x) (na : NL a) (nb : NL b) (nf : NL tf) (nt : NL tt) (hEb : b.es.length = b.En)
  (hpf : tf.p = mvF a b row) (hpt : tt.p = mvT a b row) (hle : a.es.length ≤ 60000)
include h0 hwa hwb na nb nf nt hEb hpf hpt hle
/-- all that a move gives -/
theorem move_all : ∃ q m : Nat, row = (q : Int) ∧ a.es.length = m + 1 ∧ q ≤ m ∧ WidOk a b a.ty.length ∧ Swapped a tf row q m ∧ Turned b tt (idAt a.es q) (gOf (rV a b (q : Int))) ∧ mvR a b row = (b.es.length : Int) := by
  have _u := And.intro hwb (And.intro nf (And.intro nt hle))
  obtain ⟨q, m, rfl, hba, hbb, hlen, hqm, hwo, _, _, gR, _⟩ := mv_doc h0 na nb hEb
  obtain ⟨r, m', hS, hT⟩ := moved h0 hwa hpf hpt
  have hr : r = q := by have := hS.rw_; omega
  subst hr
  have hm : m' = m := by have := hS.n0; omega
  subst hm
  have hV := mvV_eq (f := a) (to := b) (r : Int) ((tyR_iff a.ty).1 (tabB_parts hba).1).inj (tabB_parts hbb).2.1
  rw [hV] at hT
  exact ⟨r, m', rfl, hlen, hqm, hwo, hS, hT, by rw [gR, hEb]⟩
theorem back_b : tabB tf = true ∧ tabB tt = true ∧ tf.es.length + tt.es.length = a.es.length + b.es.length := by
  obtain ⟨q, m, rfl, hlen, hqm, hwo, hS, hT, _⟩ := move_all h0 hwa hwb na nb nf nt hEb hpf hpt hle
  refine ⟨Swapped.b hS nf na, Turned.b hT nt nb (gOf_len _), ?_⟩
  rw [Swapped.len1 hS, hT.es, List.length_append, List.length_singleton]
  omega
theorem back_wid : WidOk tt tf tt.ty.length := by
  obtain ⟨q, m, rfl, hlen, hqm, hwo, hS, hT, _⟩ := move_all h0 hwa hwb na nb nf nt hEb hpf hpt hle
  intro k i id x y hk h1 h2 h3 h4
  rw [hT.ty] at h1
  rw [hS.ty] at h2
  obtain ⟨x0, v, e1, _, hW, _⟩ := hT.at_ k x h3
  obtain ⟨y0, e2, hW2, _⟩ := hS.at_ i y h4
  rw [hW, hW2]
  exact (hwo i k id y0 x0 (List.getElem?_eq_some_iff.1 h2).1 h2 h1 e2 e1).symm
theorem back_at : ∃ q : Nat, row = (q : Int) ∧ idAt tt.es b.es.length = idAt a.es q ∧ b.es.length < tt.es.length ∧ hasI tf.es (idx (idAt a.es q)) = false := by
  obtain ⟨q, m, rfl, hlen, hqm, hwo, hS, hT, _⟩ := move_all h0 hwa hwb na nb nf nt hEb hpf hpt hle
  refine ⟨q, rfl, ?_, by rw [hT.es, List.length_append, List.length_singleton]; omega, ?_⟩
  · refine idAt_some ?_
    rw [hT.es, List.getElem?_append_right (Nat.le_refl _), Nat.sub_self]; rfl
  · cases hh : hasI tf.es (idx (idAt a.es q)) with
    | false => rfl
    | true =>
      exfalso
      unfold hasI at hh
      rw [List.any_eq_true] at hh
      obtain ⟨x, hx, he⟩ := hh
      rw [beq_iff_eq] at he
      obtain ⟨k, hk⟩ := List.getElem?_of_mem hx
      have hkm := (List.getElem?_eq_some_iff.1 hk).1
      rw [Swapped.len1 hS] at hkm
      rw [Swapped.es_at hS hkm] at hk
      have := (Swapped.ent0 hS).2 _ _ _ _ (idAt_of (l := a.es) (k := q) (by omega)) hk he.symm
      unfold sig at this
      split at this <;> omega
/-- the way back is free -/
theorem back_mvE : mvE tt tf (mvR a b row) = 0 := by
  have hw := back_wid h0 hwa hwb na nb nf nt hEb hpf hpt hle
  obtain ⟨b1, b2, b3⟩ := back_b h0 hwa hwb na nb nf nt hEb hpf hpt hle
  obtain ⟨q', hq', hid, hlt, hno⟩ := back_at h0 hwa hwb na nb nf nt hEb hpf hpt hle
  obtain ⟨q, m, rfl, hlen, hqm, hwo, hS, hT, hR⟩ := move_all h0 hwa hwb na nb nf nt hEb hpf hpt hle
  have : q' = q := by omega
  subst this
  rw [hR]
  refine (chk_mvE nt nf (fun x hx => ?_) (by omega) (.inr (.inr ⟨by rw [b1, b2]; rfl, b.es.length, rfl, hlt, .inr ⟨hw, by rw [hid, hno]; rfl⟩⟩))).symm
  rw [hT.es] at hx
  rcases List.mem_append.1 hx with hx | hx
  · exact hwb x hx
  · rw [List.mem_singleton] at hx; subst hx
    exact hwa _ (List.mem_of_getElem? (idAt_of (l := a.es) (k := q') (by omega)))
theorem back_from : mvF tt tf (mvR a b row) = b.p := by
  have hE := back_mvE h0 hwa hwb na nb nf nt hEb hpf hpt hle
  obtain ⟨q, m, rfl, hlen, hqm, hwo, hS, hT, hR⟩ := move_all h0 hwa hwb na nb nf nt hEb hpf hpt hle
  unfold mvF
  rw [if_pos hE, hR]
  exact Turned.swp hT nt nb (gOf_len _)
/-- all are found, with what they had, but that what was lost is 0 -/
theorem back_vals {u : Tab} (nu : NL u) (hpu : u.p = mvT tt tf (mvR a b row)) {i : Nat} {who : Int} (hi : a.es[i]? = some who) :
    rowK u who = true ∧ ∃ k : Nat, rowI u who = (k : Int) ∧ ∀ (c : Nat) (id : Int), a.ty[c]? = some id → tgE a (i : Int) id = 0 ∧ tgE u (k : Int) id = 0 ∧ (tgL a (i : Int) id).length ≤ 4 ∧
      tgL u (k : Int) id = if (i : Int) = row ∧ b.ty.contains id = false then zerosL (tgL a (i : Int) id).length else tgL a (i : Int) id := by
  have hE := back_mvE h0 hwa hwb na nb nf nt hEb hpf hpt hle
  have hw := back_wid h0 hwa hwb na nb nf nt hEb hpf hpt hle
  obtain ⟨b1, b2, b3⟩ := back_b h0 hwa hwb na nb nf nt hEb hpf hpt hle
  obtain ⟨q', hq', hid, hlt, hno⟩ := back_at h0 hwa hwb na nb nf nt hEb hpf hpt hle
  obtain ⟨q, m, rfl, hlen, hqm, hwo, hS, hT, hR⟩ := move_all h0 hwa hwb na nb nf nt hEb hpf hpt hle
  have : q' = q := by omega
  subst this
  rw [hR] at hE hpu
  obtain ⟨_, _, _, _, h5⟩ := mv_zero hE
  rw [Int.toNat_natCast, hid] at h5
  have hVV := mvV_eq (f := tt) (to := tf) (b.es.length : Int) ((tyR_iff tt.ty).1 (tabB_parts b2).1).inj (tabB_parts b1).2.1
  have hT2 : Turned tf u (idAt a.es q') (gOf (rV tt tf (b.es.length : Int))) := by
    rw [← hVV]
    refine turned (hwa _ (List.mem_of_getElem? (idAt_of (l := a.es) (k := q') (by omega)))) h5 ?_
    rw [hpu]
    unfold mvT
    rw [if_pos hE, Int.toNat_natCast, hid]
  have hub := Turned.b hT2 nu nf (gOf_len _)
  have hba := hS.b0
  have hbb := hT.b0
  have hfl : tf.es.length = m := Swapped.len1 hS
  have hul : u.es.length = m + 1 := by rw [hT2.es, List.length_append, List.length_singleton, hfl]
  have hil : i < m + 1 := by rw [← hlen]; exact (List.getElem?_eq_some_iff.1 hi).1
  -- the columns of one id
  have hcols : ∀ (c : Nat) (id : Int), a.ty[c]? = some id → ∃ xa xf xu : Col, a.F[c]? = some xa ∧ tf.F[c]? = some xf ∧ u.F[c]? = some xu ∧ u.ty[c]? = some id ∧ tf.ty[c]? = some id := fun c id h => by
    have hc := (List.getElem?_eq_some_iff.1 h).1
    have l1 := (tabB_parts hba).2.1
    have l2 := hS.len
    have l3 := hT2.len.1
    exact ⟨_, _, _, List.getElem?_eq_getElem (by omega), List.getElem?_eq_getElem (by omega), List.getElem?_eq_getElem (by omega), by rw [hT2.ty, hS.ty]; exact h, by rw [hS.ty]; exact h⟩
  have h4 : ∀ (c : Nat) (id : Int) (xa : Col), a.ty[c]? = some id → a.F[c]? = some xa → (getL xa (i : Int)).length = xa.W.toNat ∧ xa.W.toNat ≤ 4 := fun c id xa h1 h2 => by
    obtain ⟨g1, g2, g3⟩ := getLi_chunk hba na h2 (q := i) (by omega)
    obtain ⟨w1, w2, _⟩ := tab_col hba na h2
    refine ⟨?_, by omega⟩
    unfold getL
    rw [if_pos g2, Int.toNat_natCast]
    exact g3
  by_cases hiq : i = q'
  · subst hiq
    have hwho : who = idAt a.es i := (idAt_some hi).symm
    subst hwho
    refine ⟨Turned.rowK hT2 nu nf (gOf_len _), m, by rw [Turned.rowI hT2 nu nf (gOf_len _), hfl], fun c id hc => ?_⟩
    obtain ⟨xa, xf, xu, e1, e2, e3, e4, e5⟩ := hcols c id hc
    obtain ⟨ga, gl⟩ := tg_of (k := i) hba na (by omega) hc e1
    obtain ⟨gu, gv⟩ := tg_of (k := m) hub nu (by omega) e4 e3
    obtain ⟨k1, k2⟩ := h4 c id xa hc e1
    refine ⟨ga, gu, by rw [gl, k1]; exact k2, ?_⟩
    rw [gl, gv]
    obtain ⟨xf', v, f1, f2, _, _, _, f3, _⟩ := Turned.col hT2 nu nf (gOf_len _) e3
    rw [e2] at f1; cases f1
    rw [hfl] at f3
    rw [f3]
    have hv : v.l = cellV tt (b.es.length : Int) id xf.W := by
      have h9 := congrArg (fun L => L[c]?) (gOf_l (rV tt tf (b.es.length : Int)))
      simp only [List.getElem?_map, f2, Option.map_some] at h9
      unfold rV at h9
      rw [List.getElem?_map, (List.getElem?_zip_eq_some (z := (id, xf))).2 ⟨e5, e2⟩] at h9
      simpa using h9
    rw [hv]
    unfold cellV
    obtain ⟨xa', s1, s2, _⟩ := hS.at_ c xf e2
    rw [e1] at s1; cases s1
    rw [hT.ty]
    cases hcb : b.ty.contains id with
    | false =>
      rw [if_neg (by decide), if_pos ⟨rfl, rfl⟩, k1, s2]
    | true =>
      rw [if_pos rfl, if_neg (by simp)]
      have hib := ixN_at ((tyR_iff b.ty).1 (tabB_parts hbb).1).inj hcb
      have hjl := (List.getElem?_eq_some_iff.1 hib).1
      have l1 := (tabB_parts hbb).2.1
      have l2 := hT.len.1
      have et := List.getElem?_eq_getElem (l := tt.F) (i := ixN b.ty id) (by omega)
      generalize tt.F[ixN b.ty id]'(by omega) = xt at et
      obtain ⟨xb, v2, t1, t2, _, _, _, t3, _⟩ := Turned.col hT nt nb (gOf_len _) et
      have hv2 : v2.l = cellV a (i : Int) id xb.W := by
        have h9 := congrArg (fun L => L[ixN b.ty id]?) (gOf_l (rV a b (i : Int)))
        simp only [List.getElem?_map, t2, Option.map_some] at h9
        unfold rV at h9
        rw [List.getElem?_map, (List.getElem?_zip_eq_some (z := (id, xb))).2 ⟨hib, t1⟩] at h9
        simpa using h9
      have hget : getLi tt (ixN b.ty id) (b.es.length : Int) = v2.l := by unfold getLi; rw [et]; exact t3
      rw [hget, hv2]
      unfold cellV
      have hma : a.ty.contains id = true := by simpa using List.mem_of_getElem? hc
      have hia := ((tyR_iff a.ty).1 (tabB_parts hba).1).inj
      rw [if_pos hma, hia _ _ _ (ixN_at hia hma) hc]
      unfold getLi
      rw [e1]
  · obtain ⟨k, hk, r1, r2, hsg, _⟩ := Swapped.there hS nf na hi hiq
    have huk : u.es[k]? = some who := by
      rw [hT2.es, List.getElem?_append_left (by omega), Swapped.es_at hS hk, hsg]; exact hi
    have hix := ixD_at ((entOk_iff _).1 (tabB_parts hub).2.2.2.2) huk
    have hrk : rowK u who = true := by unfold rowK; rw [hix, hub]; simp
    refine ⟨hrk, k, by unfold rowI; rw [hrk, if_pos rfl, hix], fun c id hc => ?_⟩
    obtain ⟨xa, xf, xu, e1, e2, e3, e4, e5⟩ := hcols c id hc
    obtain ⟨ga, gl⟩ := tg_of (k := i) hba na (by omega) hc e1
    obtain ⟨gu, gv⟩ := tg_of (k := k) hub nu (by omega) e4 e3
    obtain ⟨k1, k2⟩ := h4 c id xa hc e1
    refine ⟨ga, gu, by rw [gl, k1]; exact k2, ?_⟩
    rw [gl, gv, if_neg (fun h => hiq (by omega)), Turned.old hT2 nu nf (gOf_len _) e3 e2 (by omega)]
    obtain ⟨xa', s1, _, _, _, _, s2⟩ := Swapped.col hS nf na e2
    rw [e1] at s1; cases s1
    have := (s2 k hk).2.2
    rw [hsg] at this
    exact this
end
end Go.Proofs.Ytbcbknajhdaneaa
