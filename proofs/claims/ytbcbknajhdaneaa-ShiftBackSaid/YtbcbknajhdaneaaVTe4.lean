/- What is proved: plain laws of tables: what becomes of a table with a row more, and of that without it. how large the tables of the laws are; the walk of the law TableTurn. how arguments that are tables, or rows of values, read. the walk of TableTurn, as its row asks it. -/
import Derived.Test.YtbcbknajhdaneaaVTd9
import Derived.Test.YtbcbknajhdaneaaVRowkit
import Derived.Deep.Slices
import Derived.Deep.SlicePairs
namespace Go.Proofs.Ytbcbknajhdaneaa
open Go.RowKit
set_option linter.unusedVariables false
set_option linter.unusedSimpArgs false
/-- a table's slices are as long as they say -/
def NL (t : Tab) : Prop := ∀ x ∈ t.F, x.l.length = x.n
theorem TabOk.nl {w : World} {B : Nat} {t : Tab} (h : TabOk w B t) : NL t := fun x hx => by have := (h.csok x hx).1.1; rw [ids_len] at this; omega
theorem eachL_map {α : Type} (f : Col → α) : ∀ (F : List Col) (b : Nat), eachL (fun _ x => f x) b F = F.map f
  | [], _ => rfl
  | x :: F, b => by show f x :: eachL (fun _ x => f x) (b + 1) F = _; rw [eachL_map f F]; rfl
theorem eachL_get {α : Type} (fp : Nat → Col → α) : ∀ (F : List Col) (b k : Nat), (eachL fp b F)[k]? = (F[k]?).map (fp (b + k))
  | [], _, _ => rfl
  | x :: F, b, 0 => rfl
  | x :: F, b, k + 1 => by
    show (eachL fp (b + 1) F)[k]? = _
    rw [eachL_get fp F (b + 1) k, Nat.add_right_comm, Nat.add_assoc]; rfl
theorem entOk_pre (l m : List Int) : ∀ k, k ≤ l.length → entOk (l ++ m) k = entOk l k
  | 0, _ => rfl
  | k + 1, h => by
    unfold entOk
    rw [entOk_pre l m k (by omega), List.getElem?_append_left (by omega), List.take_append_of_le_length (by omega)]
theorem entOk_app (l : List Int) (e : Int) : entOk (l ++ [e]) (l.length + 1) = (entOk l l.length && (!(idx e == 0) && !hasI l (idx e))) := by
  rw [entOk_step (l := l ++ [e]) (k := l.length) (x := e) (by simp), entOk_pre l [e] _ (Nat.le_refl _), List.take_left]
theorem ixGo_app (v : Int) : ∀ (l : List Int) (k : Nat), (∀ x ∈ l, x ≠ v) → ixGo v (l ++ [v]) k = ((k + l.length : Nat) : Int)
  | [], k, _ => by unfold ixGo; simp
  | x :: l, k, h => by
    show (if v == x then (k : Int) else ixGo v (l ++ [v]) (k + 1)) = _
    have h1 : (v == x) = false := by have := h x (by simp); simp; exact fun e => this e.symm
    rw [h1, if_neg (by decide), ixGo_app v l (k + 1) (fun y hy => h y (by simp [hy])), List.length_cons]
    congr 1; omega
theorem hasI_ne {l : List Int} {e : Int} (h : hasI l (idx e) = false) : ∀ x ∈ l, x ≠ e := fun x hx he => by
  unfold hasI at h
  rw [List.any_eq_false] at h
  exact h x hx (by rw [he]; simp)
/-- what Push asks -/
theorem tpuE_zero {t : Tab} {e : Int} {G : List Rw} (h : tpuE t e G = 0) : tabB t = true ∧ kd e = 1 ∧ G.length = t.F.length ∧ hasI t.es (pa e) = false ∧ widE G 0 t.F = true ∧ t.es.length ≠ 1048578 := by
  unfold tpuE at h
  split at h
  · rename_i h1
    split at h
    · rename_i h2
      split at h
      · omega
      · rename_i h3
        split at h
        · rename_i h4
          split at h
          · omega
          · rename_i h5; exact ⟨h1, h2.1, h2.2, by simpa using h3, h4, h5⟩
        · omega
    · omega
  · omega
theorem chunk_last {l m : List Int} {W R : Nat} (hl : l.length = W * R) (hm : m.length = W) : chunk (l ++ m) W R = m := by
  unfold chunk
  rw [show R * W = l.length from by rw [hl, Nat.mul_comm], List.drop_left, List.take_of_length_le (by omega)]
theorem swapC_last {l m : List Int} {W R : Nat} (hl : l.length = W * R) (hm : m.length = W) : swapC (l ++ m) W R R = l := by
  unfold swapC splice
  have h1 : R * W = l.length := by rw [hl, Nat.mul_comm]
  rw [chunk_last hl hm, h1, List.take_left, List.take_left]
theorem colB_parts {W R : Int} {n : Nat} (h : colB W R n = true) : 0 ≤ W ∧ W ≤ 4 ∧ 0 ≤ R ∧ R ≤ 1048578 ∧ (n : Int) = W * R := of_decide_eq_true h
theorem colB_nat {W R : Int} {n : Nat} (h : colB W R n = true) : n = W.toNat * R.toNat ∧ (W.toNat : Int) = W ∧ (R.toNat : Int) = R := by
  obtain ⟨h1, _, h2, _, h3⟩ := colB_parts h
  have e1 : (W.toNat : Int) = W := Int.toNat_of_nonneg h1
  have e2 : (R.toNat : Int) = R := Int.toNat_of_nonneg h2
  refine ⟨?_, e1, e2⟩
  rw [← e1, ← e2, ← Int.natCast_mul] at h3
  exact_mod_cast h3
/-- a column with a row more -/
theorem push_col {x : Col} {v : Rw} {E : Nat} (hc : colB x.W x.R x.n = true) (hE : x.R = (E : Int)) (hlt : E < 1048578) (hv : (v.n : Int) = x.W) : pushP x v = (x.W, x.R + 1, x.l ++ v.l) := by
  have h0 : pushE x v = 0 := by unfold pushE; rw [hc, if_pos rfl, if_neg (by rw [hv]; simp), if_neg (by rw [hE]; omega)]
  unfold pushP
  rw [if_pos h0]
theorem idx_ne {e : Int} (h : kd e = 1) : idx e ≠ 0 := by
  have h1 : tk e 1 = true := by
    unfold kd at h
    split at h
    · assumption
    · split at h
      · omega
      · split at h
        · omega
        · split at h <;> omega
  rw [tk1] at h1
  simp [inn] at h1
  unfold idx pa
  rw [if_pos h, if_pos (.inl h)]
  omega
structure Turned (t0 t1 : Tab) (e : Int) (G : List Rw) : Prop where
  b0 : tabB t0 = true
  ty : t1.ty = t0.ty
  es : t1.es = t0.es ++ [e]
  len : t1.F.length = t0.F.length ∧ G.length = t0.F.length
  lt : t0.es.length < 1048578
  ent : idx e ≠ 0 ∧ hasI t0.es (idx e) = false
  at_ : ∀ (k : Nat) (x1 : Col), t1.F[k]? = some x1 → ∃ (x0 : Col) (v : Rw), t0.F[k]? = some x0 ∧ G[k]? = some v ∧ x1.W = x0.W ∧ x1.R = x0.R + 1 ∧ x1.l = x0.l ++ v.l ∧ colB x0.W x0.R x0.n = true ∧ x0.R = (t0.es.length : Int) ∧ (v.n : Int) = x0.W
theorem turned {t0 t1 : Tab} {e : Int} {G : List Rw} (hw : Word e) (h : tpuE t0 e G = 0) (hp : t1.p = tpuP t0 e G) : Turned t0 t1 e G := by
  obtain ⟨h1, h2, h3, h4, h5, h6⟩ := tpuE_zero h
  unfold tpuP at hp
  rw [if_pos h] at hp
  unfold Tab.p at hp
  injection hp with e1 hp
  injection hp with e2 e3
  obtain ⟨_, _, hle, hc, _⟩ := tabB_parts h1
  have hix : pa e = idx e := by unfold idx; rw [if_pos h2]
  have hl := congrArg List.length e2
  rw [List.length_map, eachL_len] at hl
  refine ⟨h1, e1, e3, ⟨hl, h3⟩, by omega, ⟨?_, by rw [← hix]; exact h4⟩, fun k x1 hk => ?_⟩
  · exact idx_ne h2
  · have hk0 : k < t0.F.length := by have := (List.getElem?_eq_some_iff.1 hk).1; omega
    have hx0 := List.getElem?_eq_getElem hk0
    generalize t0.F[k] = x0 at hx0
    have hv := rws_at (G := G) (k := k) (by omega)
    obtain ⟨hc1, hc2⟩ := hc x0 (List.mem_of_getElem? hx0)
    have hwd : ((vAt G k).n : Int) = x0.W := by have := widE_at h5 k x0 hx0; rwa [Nat.zero_add] at this
    have h7 := congrArg (fun l => l[k]?) e2
    simp only [List.getElem?_map, hk, eachL_get, hx0, Option.map_some, Nat.zero_add, Option.some.injEq] at h7
    rw [push_col hc1 hc2 (by omega) hwd] at h7
    unfold Col.p at h7
    injection h7 with a1 a2
    injection a2 with a2 a3
    exact ⟨x0, vAt G k, hx0, hv, a1, a2, a3, hc1, hc2, hwd⟩
section
variable {t0 t1 : Tab} {e : Int} {G : List Rw} (h : Turned t0 t1 e G) (n1 : NL t1) (n0 : NL t0) (hG : ∀ v ∈ G, v.l.length = v.n)
include h n1 n0 hG
theorem Turned.col {k : Nat} {x1 : Col} (hk : t1.F[k]? = some x1) : ∃ (x0 : Col) (v : Rw), t0.F[k]? = some x0 ∧ G[k]? = some v ∧ colB x1.W x1.R x1.n = true ∧ x1.R = ((t0.es.length + 1 : Nat) : Int) ∧
    getE x1 (t0.es.length : Int) = 0 ∧ getL x1 (t0.es.length : Int) = v.l ∧ swpP x1 (t0.es.length : Int) = x0.p := by
  obtain ⟨x0, v, h1, h2, hW, hR, hl, hc, hE, hv⟩ := h.at_ k x1 hk
  have a1 := n1 x1 (List.mem_of_getElem? hk)
  have a0 := n0 x0 (List.mem_of_getElem? h1)
  have av := hG v (List.mem_of_getElem? h2)
  rw [hl, List.length_append] at a1
  obtain ⟨p1, p2, p3, p4, p5⟩ := colB_parts hc
  have hlt := h.lt
  have hcb : colB x1.W x1.R x1.n = true := by
    refine decide_eq_true ⟨by rw [hW]; exact p1, by rw [hW]; exact p2, by omega, by omega, ?_⟩
    rw [hW, hR, Int.mul_add, ← p5, Int.mul_one, ← hv]
    omega
  have hR1 : x1.R = ((t0.es.length + 1 : Nat) : Int) := by omega
  have hg : getE x1 (t0.es.length : Int) = 0 := by
    unfold getE
    rw [hcb, if_pos rfl, if_pos ⟨by omega, by omega⟩]
  obtain ⟨q1, q2, q3⟩ := colB_nat hc
  have hWn : x1.W.toNat = x0.W.toNat := by rw [hW]
  have hRn : x0.R.toNat = t0.es.length := by omega
  have hln : x0.l.length = x0.W.toNat * t0.es.length := by rw [a0, q1, hRn]
  have hmn : v.l.length = x0.W.toNat := by omega
  refine ⟨x0, v, h1, h2, hcb, hR1, hg, ?_, ?_⟩
  · unfold getL
    rw [if_pos hg, hWn, hl, Int.toNat_natCast]
    exact chunk_last hln hmn
  · unfold swpP
    rw [if_pos hg, hWn, hl, Int.toNat_natCast, show (x1.R - 1).toNat = t0.es.length from by omega, swapC_last hln hmn]
    unfold Col.p
    rw [hW, hR, Int.add_sub_cancel]
theorem Turned.b : tabB t1 = true := by
  obtain ⟨p1, p2, p3, p4, p5⟩ := tabB_parts h.b0
  rw [tabB_eq]
  simp only [Bool.and_eq_true, decide_eq_true_eq, List.all_eq_true]
  refine ⟨by rw [h.ty]; exact p1, by rw [h.len.1, h.ty]; exact p2, by rw [h.es, List.length_append, List.length_singleton]; have := h.lt; omega, fun x1 hx => ?_, ?_⟩
  · obtain ⟨k, hk⟩ := List.getElem?_of_mem hx
    obtain ⟨x0, v, _, _, hc, hR, _⟩ := Turned.col h n1 n0 hG hk
    unfold colT
    rw [hc, hR, h.es, List.length_append, List.length_singleton]
    simp
  · rw [h.es, List.length_append, List.length_singleton, entOk_app, p5, h.ent.2]
    have := h.ent.1
    simp [this]
omit n1 n0 hG in
theorem Turned.ix : ixD t1.es e = (t0.es.length : Int) := by
  unfold ixD
  rw [h.es, ixGo_app e t0.es 0 (hasI_ne h.ent.2), Nat.zero_add]
theorem Turned.rowK : rowK t1 e = true := by
  unfold Go.Proofs.Ytbcbknajhdaneaa.rowK
  rw [Turned.ix h, Turned.b h n1 n0 hG]
  simp
theorem Turned.rowI : rowI t1 e = (t0.es.length : Int) := by
  unfold Go.Proofs.Ytbcbknajhdaneaa.rowI
  rw [Turned.rowK h n1 n0 hG, if_pos rfl, Turned.ix h]
theorem Turned.at0 : atE t1 (t0.es.length : Int) = 0 := by
  unfold atE
  rw [Turned.b h n1 n0 hG, if_pos rfl, if_pos ⟨by omega, by rw [h.es, List.length_append, List.length_singleton]; omega⟩]
theorem Turned.swp : tswP t1 (t0.es.length : Int) = t0.p := by
  unfold tswP
  rw [if_pos (Turned.at0 h n1 n0 hG), eachL_map, Int.toNat_natCast, swapEs_last _ _ (by rw [h.es, List.length_append, List.length_singleton])]
  unfold Tab.p
  rw [h.ty]
  congr 1
  congr 1
  · refine List.ext_getElem? fun k => ?_
    rw [List.getElem?_map, List.getElem?_map]
    cases hk : t1.F[k]? with
    | none =>
      have h1 := List.getElem?_eq_none_iff.1 hk
      rw [List.getElem?_eq_none (by have := h.len; omega)]
      rfl
    | some x1 =>
      obtain ⟨x0, v, h0, hv, _, _, _, _, hs⟩ := Turned.col h n1 n0 hG hk
      rw [h0]
      simp only [Option.map_some, hs]
  · rw [h.es, List.take_left]
end
theorem colsQ_p : ∀ (a b : List Col), a.map Col.p = b.map Col.p → colsQ a b = true
  | [], [], _ => rfl
  | [], y :: b, h => by simp at h
  | x :: a, [], h => by simp at h
  | x :: a, y :: b, h => by
    simp only [List.map_cons, List.cons.injEq] at h
    obtain ⟨h1, h2⟩ := h
    show (colQ x y && colsQ a b) = true
    rw [colsQ_p a b h2, Bool.and_true]
    unfold Col.p at h1
    simp only [Prod.mk.injEq] at h1
    unfold colQ colS
    rw [h1.1, h1.2.1, h1.2.2]
    simp
theorem tabQ_p {a b : Tab} (h : a.p = b.p) : tabQ a b = true := by
  unfold Tab.p at h
  simp only [Prod.mk.injEq] at h
  unfold tabQ
  rw [h.1, h.2.2, colsQ_p _ _ h.2.1]
  simp
end Go.Proofs.Ytbcbknajhdaneaa
namespace Go.Proofs.Ytbcbknajhdaneaa
open Go.RowKit
set_option linter.unusedVariables false
set_option linter.unusedSimpArgs false
def PSm (p : PT) : Prop := p.1.length ≤ 65535 ∧ p.2.1.length ≤ 65535 ∧ p.2.2.length ≤ 65535 ∧ ∀ q ∈ p.2.1, q.2.2.length ≤ 65535
theorem psm_sm {t : Tab} {w : World} {B : Nat} (h : TabOk w B t) (hp : PSm t.p) : TabSm t ∧ (t.Cn ≤ 65536 ∧ t.Tn ≤ 65536 ∧ t.En ≤ 65536 ∧ ∀ x ∈ t.F, x.n ≤ 65536) ∧ t.En ≤ 65535 := by
  obtain ⟨h1, h2, h3⟩ := h.len
  obtain ⟨p1, p2, p3, p4⟩ := hp
  unfold Tab.p at p1 p2 p3 p4
  simp only [List.length_map] at p1 p2 p3 p4
  have hx : ∀ x ∈ t.F, x.n ≤ 65535 := fun x hx => by
    have h4 := h.nl x hx
    have h5 := p4 x.p (List.mem_map_of_mem hx)
    unfold Col.p at h5
    simp only at h5
    omega
  exact ⟨⟨by omega, by omega, by omega, fun x h5 => by have := hx x h5; omega⟩, ⟨by omega, by omega, by omega, fun x h5 => by have := hx x h5; omega⟩, by omega⟩
theorem rwOk_fresh {w : World} {base : Nat} {x : Rw} (h : RwFresh w base x) : RwOk w w.heap.size x := h.1
end Go.Proofs.Ytbcbknajhdaneaa
namespace Go.Proofs.Ytbcbknajhdaneaa
open Go.RowKit Go.Deep Go.ChangeShapes Go.WideShapes Go.ChangeAt
set_option linter.unusedVariables false
set_option linter.unusedSimpArgs false
theorem wf_word {x : Int} (h : (Lit.int .u64 x).wf = true) : Word x := by
  have hmin : IntKind.u64.min = 0 := rfl
  have hmax : IntKind.u64.max = 18446744073709551615 := rfl
  simp only [Lit.wf, Bool.and_eq_true, decide_eq_true_eq] at h
  rw [hmin, hmax] at h
  exact h
section
variable {H : Type} {enc : TypeId × Value → H} {W : World} {fuel : Nat} {cs : List Value} {x : DataW H × List MemPlace}
theorem open_u64s {t e : TypeId} (ht : Try.prog.underlying t = some (.slice e)) (he : Try.prog.underlying e = some (.int .u64)) (hc : Try.prog.cellsOf e = 1)
    (h : DataW.trod enc Try.prog W 0 (fun _ => true) true fuel t cs = some x) (hlt : ∀ y ∈ x.2, y.block < W.heap.size) :
    ∃ y : Rw, cs = [y.V] ∧ RwOk W W.heap.size y := by
  have hs : ∃ A n c, cs = [.slice A n c] ∧ c ≤ maxLen := by
    rcases open_ints ht he hc h with ⟨hcs, _⟩ | ⟨a, len, cap, zs, hcs, _, _, hm, _⟩
    · exact ⟨_, _, _, hcs, by simp [maxLen]⟩
    · exact ⟨_, _, _, hcs, hm⟩
  obtain ⟨A, n, c, rfl, hm⟩ := hs
  rcases open_row ht he hc (A := A) (n := n) (c := c) ⟨fuel, by show DataW.trod enc Try.prog W 0 (fun _ => true) true fuel t [.slice A n c] = some (x.1, x.2); exact h⟩ hlt with ⟨rfl, rfl, rfl, _⟩ | ⟨zs, hz, hl, _, hR, hw⟩
  · exact ⟨⟨none, 0, 0, []⟩, rfl, Reads.none_, Nat.le_refl _, Nat.zero_le _, by simp⟩
  · exact ⟨⟨A, n, c, zs.take n⟩, rfl, hR, hl, hm, fun y hy => wf_word (hw y (List.mem_of_mem_take hy))⟩
set_option maxRecDepth 100000 in
theorem open_col (h : DataW.trod enc Try.prog W 0 (fun _ => true) true fuel 68 cs = some x) (hlt : ∀ y ∈ x.2, y.block < W.heap.size) : ∃ y : Col, cs = y.C ∧ ColOk W W.heap.size y := by
  obtain ⟨xs, n, rfl, hx, hlen, hxl, hf⟩ := DataW.trod_struct Try.underlying68 h
  have ct : Try.prog.cellsOf 68 = 3 := by kernel_rfl
  have c3 : Try.prog.cellsOf 3 = 1 := by kernel_rfl
  have c5 : Try.prog.cellsOf 43 = 1 := by kernel_rfl
  have c6 : Try.prog.cellsOf 26 = 1 := by kernel_rfl
  rw [ct] at hlen
  match xs, hxl, cs, hlen with
  | [y0, y1, y2], _, [v0, v1, v2], _ =>
    have g0 := hf 0 _ rfl
    have g1 := hf 1 _ rfl
    have g2 := hf 2 _ rfl
    simp [c3, c5] at g0 g1 g2
    obtain ⟨z0, e0, d0, w0⟩ := DataW.trod_int Try.underlying3 g0
    obtain ⟨z1, e1, d1, w1⟩ := DataW.trod_int Try.underlying3 g1
    obtain ⟨r, e2, hr⟩ := open_u64s Try.underlying43 Try.underlying26 c6 g2 (fun y hy => hlt y (by rw [hx]; simp; exact .inr (.inr hy)))
    simp only [List.cons.injEq, and_true] at e0 e1 e2
    exact ⟨⟨z0, z1, r.A, r.n, r.c, r.l⟩, by rw [e0, e1, e2]; rfl, hr⟩
theorem reads_each3 {B n : Nat} {a : Addr} (hb : 0 < n → a.block < B) (F : Nat → Col) (h : ∀ k, k < n → ∀ i, i < 3 → W.cell? (a.add (k * 3 + i)) = (F k).C[i]?) :
    Reads W B 3 (some a) n (cols ((List.range n).map F)) := by
  refine ⟨by rw [cols_len, List.length_map, List.length_range], fun h0 => ⟨a, rfl, hb h0, fun j u hu => ?_⟩⟩
  have hj : j < n * 3 := by
    have := (List.getElem?_eq_some_iff.1 hu).1
    rw [cols_len, List.length_map, List.length_range] at this
    exact this
  have e : j = (j / 3) * 3 + j % 3 := by omega
  have hk : j / 3 < n := by omega
  have h2 := cols_at ((List.range n).map F) (j / 3) (F (j / 3)) (by rw [List.getElem?_map, List.getElem?_range hk]; rfl) (j % 3) (by omega)
  have h3 := h (j / 3) hk (j % 3) (by omega)
  rw [← e] at h2 h3
  rw [h3, ← h2, hu]
theorem open_cols (h : DataW.trod enc Try.prog W 0 (fun _ => true) true fuel 23 cs = some x) (hlt : ∀ y ∈ x.2, y.block < W.heap.size) :
    ∃ A n c, ∃ F : List Col, cs = [.slice A n c] ∧ n ≤ c ∧ c ≤ maxLen ∧ Reads W W.heap.size 3 A n (cols F) ∧ ∀ y ∈ F, ColOk W W.heap.size y := by
  have ct : Try.prog.cellsOf 68 = 3 := by kernel_rfl
  rcases open_slice Try.underlying23 h with ⟨h0, _⟩ | ⟨a, len, cap, m, k, D, Pl, hcs, hb, hl, hm, hmm, hxx, hx⟩
  · exact ⟨none, 0, 0, [], h0, Nat.le_refl _, Nat.zero_le _, Reads.none_, by simp⟩
  · rw [ct] at hxx
    simp only [if_true] at hmm
    subst hmm
    have each : ∀ j, j < m → ∃ r : Col, (∀ i, i < 3 → W.cell? (a.add (j * 3 + i)) = r.C[i]?) ∧ ColOk W W.heap.size r := by
      intro j hj
      obtain ⟨cs', h1, h2⟩ := hx j hj
      rw [ct] at h1
      obtain ⟨_, hlen, hcell⟩ := World.cells?_some h1
      obtain ⟨r, rfl, hw⟩ := open_col h2 (fun y hy => hlt y (by rw [hxx]; exact List.mem_append_right _ (List.mem_flatMap.2 ⟨j, List.mem_range.2 hj, hy⟩)))
      refine ⟨r, fun i hi => ?_, hw⟩
      have := hcell i hi
      rw [Go.Deep.add_add] at this
      exact this
    obtain ⟨F, hF⟩ := choose_lt each
    refine ⟨some a, len, m, (List.range len).map F, hcs, hl, hm, reads_each3 (fun h0 => ?_) F fun k hk => (hF k (by omega)).1, fun y hy => ?_⟩
    · obtain ⟨b, off, spot⟩ := a
      have hs := (hF 0 (by omega)).1 0 (by omega)
      have hspot : spot = none := by simpa [Addr.add] using World.cell?_spot (v := .int .i64 (F 0).W) hs
      subst hspot
      exact hlt (.cell b off) (by rw [hxx]; exact List.mem_append_left _ (MemPlace.mem_row.2 ⟨0, by omega, by simp⟩))
    · obtain ⟨k, hk, rfl⟩ := List.mem_map.1 hy
      exact (hF k (by have := List.mem_range.1 hk; omega)).2
set_option maxRecDepth 100000 in
theorem open_tabc (h : DataW.trod enc Try.prog W 0 (fun _ => true) true fuel 25 cs = some x) (hlt : ∀ y ∈ x.2, y.block < W.heap.size) :
    ∃ t : Tab, cs = [.slice t.TA t.Tn t.Tc, .slice t.CA t.Cn t.Cc, .slice t.EA t.En t.Ec] ∧ TabOk W W.heap.size t := by
  obtain ⟨xs, n, rfl, hx, hlen, hxl, hf⟩ := DataW.trod_struct Try.underlying25 h
  have ct : Try.prog.cellsOf 25 = 3 := by kernel_rfl
  have c3 : Try.prog.cellsOf 22 = 1 := by kernel_rfl
  have c5 : Try.prog.cellsOf 23 = 1 := by kernel_rfl
  have c6 : Try.prog.cellsOf 27 = 1 := by kernel_rfl
  rw [ct] at hlen
  match xs, hxl, cs, hlen with
  | [y0, y1, y2], _, [v0, v1, v2], _ =>
    have g0 := hf 0 _ rfl
    have g1 := hf 1 _ rfl
    have g2 := hf 2 _ rfl
    simp [c3, c5] at g0 g1 g2
    obtain ⟨a, e0, ha⟩ := open_u64s Try.underlying22 Try.underlying27 c6 g0 (fun y hy => hlt y (by rw [hx]; simp; exact .inl hy))
    obtain ⟨B, m, c, F, e1, q1, q2, q3, q4⟩ := open_cols g1 (fun y hy => hlt y (by rw [hx]; simp; exact .inr (.inl hy)))
    obtain ⟨b, e2, hb⟩ := open_u64s Try.underlying22 Try.underlying27 c6 g2 (fun y hy => hlt y (by rw [hx]; simp; exact .inr (.inr hy)))
    simp only [List.cons.injEq, and_true] at e0 e1 e2
    exact ⟨⟨a.A, a.n, a.c, a.l, B, m, c, F, b.A, b.n, b.c, b.l⟩, by rw [e0, e1, e2]; rfl, ha.1, ha.2.1 |> fun h => ⟨h, ha.2.2.1⟩, ha.2.2.2, q3, ⟨q1, q2⟩, q4, hb.1, ⟨hb.2.1, hb.2.2.1⟩, hb.2.2.2⟩
end
set_option maxRecDepth 100000 in
theorem open_tab {H : Type} {enc : TypeId × Value → H} {W : World} {r : Reach} {b0 : Nat} {v : Value} {d : DataW H} {p : List MemPlace}
    (hv : Value.okWide Try.prog W r b0 25 v) (h : DataW.Trod enc Try.prog W 0 (fun _ => true) true 25 v d p) (hlt : ∀ y ∈ p, y.block < W.heap.size) : ∃ t : Tab, v = t.V ∧ TabOk W W.heap.size t := by
  obtain ⟨cs, rfl, hsz⟩ := okWide_struct Try.underlying25 hv
  obtain ⟨fuel, hf⟩ := h
  obtain ⟨t, hx, hw⟩ := open_tabc hf hlt
  have hx : cs.toList = [.slice t.TA t.Tn t.Tc, .slice t.CA t.Cn t.Cc, .slice t.EA t.En t.Ec] := by simpa [Value.cells] using hx
  refine ⟨t, ?_, hw⟩
  unfold Tab.V
  congr 1
  rw [← Array.toList_inj]
  exact hx
end Go.Proofs.Ytbcbknajhdaneaa
namespace Go.Proofs.Ytbcbknajhdaneaa
open Go.RowKit
set_option linter.unusedVariables false
end Go.Proofs.Ytbcbknajhdaneaa
