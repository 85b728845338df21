/- What is proved: plain laws of tables: what becomes of a table with a row more, and of that without it. how large the tables of the laws are; the walk of the law TableTurn. how arguments that are tables, or rows of values, read. the walk of TableTurn, as its row asks it. -/
import Derived.Test.YtbcbknajhdaneaaTd9
import Derived.Test.YtbcbknajhdaneaaRowkit
import Derived.Deep.Slices
import Derived.Deep.SlicePairs
namespace Go.Proofs.Ytbcbknajhdaneaa
open Go.RowKit
set_option linter.unusedVariables false
set_option linter.unusedSimpArgs false
/-- a table's slices are as long as they say -/
def NL (t : Tab) : Prop := ∀ x ∈ t.F, x.l.length = x.n
theorem TabOk.nl {w : World} {B : Nat} {t : Tab} (h : TabOk w B t) : NL t := fun x hx => by have := (h.csok x hx).1.1; rw [ids_len] at this; omega
theorem eachL_map {α : Type} (f : Col → α) : ∀ (F : List Col) (b : Nat), eachL (fun _ x => f x) b F = F.map f
  | [], _ => rfl
  | x :: F, b => by show f x :: eachL (fun _ x => f x) (b + 1) F = _; rw [eachL_map f F]; rfl
theorem eachL_get {α : Type} (fp : Nat → Col → α) : ∀ (F : List Col) (b k : Nat), (eachL fp b F)[k]? = (F[k]?).map (fp (b + k))
  | [], _, _ => rfl
  | x :: F, b, 0 => rfl
  | x :: F, b, k + 1 => by
    show (eachL fp (b + 1) F)[k]? = _
    rw [eachL_get fp F (b + 1) k, Nat.add_right_comm, Nat.add_assoc]; rfl
theorem entOk_pre (l m : List Int) : ∀ k, k ≤ l.length → entOk (l ++ m) k = entOk l k
  | 0, _ => rfl
  | k + 1, h => by
    unfold entOk
    rw [entOk_pre l m k (by omega), List.getElem?_append_left (by omega), List.take_append_of_le_length (by omega)]
theorem entOk_app (l : List Int) (e : Int) : entOk (l ++ [e]) (l.length + 1) = (entOk l l.length && (!(idx e == 0) && !hasI l (idx e))) := by
  rw [entOk_step (l := l ++ [e]) (k := l.length) (x := e) (by simp), entOk_pre l [e] _ (Nat.le_refl _), List.take_left]
theorem ixGo_app (v : Int) : ∀ (l : List Int) (k : Nat), (∀ x ∈ l, x ≠ v) → ixGo v (l ++ [v]) k = ((k + l.length : Nat) : Int)
  | [], k, _ => by unfold ixGo; simp
  | x :: l, k, h => by
    show (if v == x then (k : Int) else ixGo v (l ++ [v]) (k + 1)) = _
    have h1 : (v == x) = false := by have := h x (by simp); simp; exact fun e => this e.symm
    rw [h1, if_neg (by decide), ixGo_app v l (k + 1) (fun y hy => h y (by simp [hy])), List.length_cons]
    congr 1; omega
theorem hasI_ne {l : List Int} {e : Int} (h : hasI l (idx e) = false) : ∀ x ∈ l, x ≠ e := fun x hx he => by
  unfold hasI at h
  rw [List.any_eq_false] at h
  exact h x hx (by rw [he]; simp)
/-- what Push asks -/
theorem tpuE_zero {t : Tab} {e : Int} {G : List Rw} (h : tpuE t e G = 0) : tabB t = true ∧ kd e = 1 ∧ G.length = t.F.length ∧ hasI t.es (pa e) = false ∧ widE G 0 t.F = true ∧ t.es.length ≠ 1048578 := by
  unfold tpuE at h
  split at h
  · rename_i h1
    split at h
    · rename_i h2
      split at h
      · omega
      · rename_i h3
        split at h
        · rename_i h4
          split at h
          · omega
          · rename_i h5; exact ⟨h1, h2.1, h2.2, by simpa using h3, h4, h5⟩
        · omega
    · omega
  · omega
theorem chunk_last {l m : List Int} {W R : Nat} (hl : l.length = W * R) (hm : m.length = W) : chunk (l ++ m) W R = m := by
  unfold chunk
  rw [show R * W = l.length from by rw [hl, Nat.mul_comm], List.drop_left, List.take_of_length_le (by omega)]
theorem swapC_last {l m : List Int} {W R : Nat} (hl : l.length = W * R) (hm : m.length = W) : swapC (l ++ m) W R R = l := by
  unfold swapC splice
  have h1 : R * W = l.length := by rw [hl, Nat.mul_comm]
  rw [chunk_last hl hm, h1, List.take_left, List.take_left]
theorem colB_parts {W R : Int} {n : Nat} (h : colB W R n = true) : 0 ≤ W ∧ W ≤ 4 ∧ 0 ≤ R ∧ R ≤ 1048578 ∧ (n : Int) = W * R := of_decide_eq_true h
theorem colB_nat {W R : Int} {n : Nat} (h : colB W R n = true) : n = W.toNat * R.toNat ∧ (W.toNat : Int) = W ∧ (R.toNat : Int) = R := by
  obtain ⟨h1, _, h2, _, h3⟩ := colB_parts h
  have e1 : (W.toNat : Int) = W := Int.toNat_of_nonneg h1
  have e2 : (R.toNat : Int) = R := Int.toNat_of_nonneg h2
  refine ⟨?_, e1, e2⟩
  rw [← e1, ← e2, ← Int.natCast_mul] at h3
  exact_mod_cast h3
/-- a column with a row more -/
theorem push_col {x : Col} {v : Rw} {E : Nat} (hc : colB x.W x.R x.n = true) (hE : x.R = (E : Int)) (hlt : E < 1048578) (hv : (v.n : Int) = x.W) : pushP x v = (x.W, x.R + 1, x.l ++ v.l) := by
  have h0 : pushE x v = 0 := by unfold pushE; rw [hc, if_pos rfl, if_neg (by rw [hv]; simp), if_neg (by rw [hE]; omega)]
  unfold pushP
  rw [if_pos h0]
theorem idx_ne {e : Int} (h : kd e = 1) : idx e ≠ 0 := by
  have h1 : tk e 1 = true := by
    unfold kd at h
    split at h
    · assumption
    · split at h
      · omega
      · split at h
        · omega
        · split at h <;> omega
  rw [tk1] at h1
  simp [inn] at h1
  unfold idx pa
  rw [if_pos h, if_pos (.inl h)]
  omega
structure Turned (t0 t1 : Tab) (e : Int) (G : List Rw) : Prop where
  b0 : tabB t0 = true
  ty : t1.ty = t0.ty
  es : t1.es = t0.es ++ [e]
  len : t1.F.length = t0.F.length ∧ G.length = t0.F.length
  lt : t0.es.length < 1048578
  ent : idx e ≠ 0 ∧ hasI t0.es (idx e) = false
  at_ : ∀ (k : Nat) (x1 : Col), t1.F[k]? = some x1 → ∃ (x0 : Col) (v : Rw), t0.F[k]? = some x0 ∧ G[k]? = some v ∧ x1.W = x0.W ∧ x1.R = x0.R + 1 ∧ x1.l = x0.l ++ v.l ∧ colB x0.W x0.R x0.n = true ∧ x0.R = (t0.es.length : Int) ∧ (v.n : Int) = x0.W
theorem turned {t0 t1 : Tab} {e : Int} {G : List Rw} (hw : Word e) (h : tpuE t0 e G = 0) (hp : t1.p = tpuP t0 e G) : Turned t0 t1 e G := by
  obtain ⟨h1, h2, h3, h4, h5, h6⟩ := tpuE_zero h
  unfold tpuP at hp
  rw [if_pos h] at hp
  unfold Tab.p at hp
  injection hp with e1 hp
  injection hp with e2 e3
  obtain ⟨_, _, hle, hc, _⟩ := tabB_parts h1
  have hix : pa e = idx e := by unfold idx; rw [if_pos h2]
  have hl := congrArg List.length e2
  rw [List.length_map, eachL_len] at hl
  refine ⟨h1, e1, e3, ⟨hl, h3⟩, by omega, ⟨?_, by rw [← hix]; exact h4⟩, fun k x1 hk => ?_⟩
  · exact idx_ne h2
  · have hk0 : k < t0.F.length := by have := (List.getElem?_eq_some_iff.1 hk).1; omega
    have hx0 := List.getElem?_eq_getElem hk0
    generalize t0.F[k] = x0 at hx0
    have hv := rws_at (G := G) (k := k) (by omega)
    obtain ⟨hc1, hc2⟩ := hc x0 (List.mem_of_getElem? hx0)
    have hwd : ((vAt G k).n : Int) = x0.W := by have := widE_at h5 k x0 hx0; rwa [Nat.zero_add] at this
    have h7 := congrArg (fun l => l[k]?) e2
    simp only [List.getElem?_map, hk, eachL_get, hx0, Option.map_some, Nat.zero_add, Option.some.injEq] at h7
    rw [push_col hc1 hc2 (by omega) hwd] at h7
    unfold Col.p at h7
    injection h7 with a1 a2
    injection a2 with a2 a3
    exact ⟨x0, vAt G k, hx0, hv, a1, a2, a3, hc1, hc2, hwd⟩
section
variable {t0 t1 : Tab} {e : Int} {G : List Rw} (h : Turned t0 t1 e G) (n1 : NL t1) (n0 : NL t0) (hG : ∀ v ∈ G, v.l.length = v.n)
include h n1 n0 hG
theorem Turned.col {k : Nat} {x1 : Col} (hk : t1.F[k]? = some x1) : ∃ (x0 : Col) (v : Rw), t0.F[k]? = some x0 ∧ G[k]? = some v ∧ colB x1.W x1.R x1.n = true ∧ x1.R = ((t0.es.length + 1 : Nat) : Int) ∧
    getE x1 (t0.es.length : Int) = 0 ∧ getL x1 (t0.es.length : Int) = v.l ∧ swpP x1 (t0.es.length : Int) = x0.p := by
  obtain ⟨x0, v, h1, h2, hW, hR, hl, hc, hE, hv⟩ := h.at_ k x1 hk
  have a1 := n1 x1 (List.mem_of_getElem? hk)
  have a0 := n0 x0 (List.mem_of_getElem? h1)
  have av := hG v (List.mem_of_getElem? h2)
  rw [hl, List.length_append] at a1
  obtain ⟨p1, p2, p3, p4, p5⟩ := colB_parts hc
  have hlt := h.lt
  have hcb : colB x1.W x1.R x1.n = true := by
    refine decide_eq_true ⟨by rw [hW]; exact p1, by rw [hW]; exact p2, by omega, by omega, ?_⟩
    rw [hW, hR, Int.mul_add, ← p5, Int.mul_one, ← hv]
    omega
  have hR1 : x1.R = ((t0.es.length + 1 : Nat) : Int) := by omega
  have hg : getE x1 (t0.es.length : Int) = 0 := by
    unfold getE
    rw [hcb, if_pos rfl, if_pos ⟨by omega, by omega⟩]
  obtain ⟨q1, q2, q3⟩ := colB_nat hc
  have hWn : x1.W.toNat = x0.W.toNat := by rw [hW]
  have hRn : x0.R.toNat = t0.es.length := by omega
  have hln : x0.l.length = x0.W.toNat * t0.es.length := by rw [a0, q1, hRn]
  have hmn : v.l.length = x0.W.toNat := by omega
  refine ⟨x0, v, h1, h2, hcb, hR1, hg, ?_, ?_⟩
  · unfold getL
    rw [if_pos hg, hWn, hl, Int.toNat_natCast]
    exact chunk_last hln hmn
  · unfold swpP
    rw [if_pos hg, hWn, hl, Int.toNat_natCast, show (x1.R - 1).toNat = t0.es.length from by omega, swapC_last hln hmn]
    unfold Col.p
    rw [hW, hR, Int.add_sub_cancel]
theorem Turned.b : tabB t1 = true := by
  obtain ⟨p1, p2, p3, p4, p5⟩ := tabB_parts h.b0
  rw [tabB_eq]
  simp only [Bool.and_eq_true, decide_eq_true_eq, List.all_eq_true]
  refine ⟨by rw [h.ty]; exact p1, by rw [h.len.1, h.ty]; exact p2, by rw [h.es, List.length_append, List.length_singleton]; have := h.lt; omega, fun x1 hx => ?_, ?_⟩
  · obtain ⟨k, hk⟩ := List.getElem?_of_mem hx
    obtain ⟨x0, v, _, _, hc, hR, _⟩ := Turned.col h n1 n0 hG hk
    unfold colT
    rw [hc, hR, h.es, List.length_append, List.length_singleton]
    simp
  · rw [h.es, List.length_append, List.length_singleton, entOk_app, p5, h.ent.2]
    have := h.ent.1
    simp [this]
omit n1 n0 hG in
theorem Turned.ix : ixD t1.es e = (t0.es.length : Int) := by
  unfold ixD
  rw [h.es, ixGo_app e t0.es 0 (hasI_ne h.ent.2), Nat.zero_add]
theorem Turned.rowK : rowK t1 e = true := by
  unfold Go.Proofs.Ytbcbknajhdaneaa.rowK
  rw [Turned.ix h, Turned.b h n1 n0 hG]
  simp
theorem Turned.rowI : rowI t1 e = (t0.es.length : Int) := by
  unfold Go.Proofs.Ytbcbknajhdaneaa.rowI
  rw [Turned.rowK h n1 n0 hG, if_pos rfl, Turned.ix h]
theorem Turned.at0 : atE t1 (t0.es.length : Int) = 0 := by
  unfold atE
  rw [Turned.b h n1 n0 hG, if_pos rfl, if_pos ⟨by omega, by rw [h.es, List.length_append, List.length_singleton]; omega⟩]
theorem Turned.vsE : vsE t1 (t0.es.length : Int) = 0 := by
  unfold Go.Proofs.Ytbcbknajhdaneaa.vsE
  rw [if_pos (Turned.at0 h n1 n0 hG)]
  exact each_get_zero (Turned.at0 h n1 n0 hG)
theorem Turned.vsL : vsL t1 (t0.es.length : Int) = G.map Rw.l := by
  unfold Go.Proofs.Ytbcbknajhdaneaa.vsL
  rw [if_pos (Turned.vsE h n1 n0 hG), eachL_map]
  refine List.ext_getElem? fun k => ?_
  rw [List.getElem?_map, List.getElem?_map]
  cases hk : t1.F[k]? with
  | none =>
    have h1 := List.getElem?_eq_none_iff.1 hk
    rw [List.getElem?_eq_none (by have := h.len; omega)]
    rfl
  | some x1 =>
    obtain ⟨x0, v, _, hv, _, _, _, hg, _⟩ := Turned.col h n1 n0 hG hk
    rw [hv]
    simp only [Option.map_some, hg]
theorem Turned.swp : tswP t1 (t0.es.length : Int) = t0.p := by
  unfold tswP
  rw [if_pos (Turned.at0 h n1 n0 hG), eachL_map, Int.toNat_natCast, swapEs_last _ _ (by rw [h.es, List.length_append, List.length_singleton])]
  unfold Tab.p
  rw [h.ty]
  congr 1
  congr 1
  · refine List.ext_getElem? fun k => ?_
    rw [List.getElem?_map, List.getElem?_map]
    cases hk : t1.F[k]? with
    | none =>
      have h1 := List.getElem?_eq_none_iff.1 hk
      rw [List.getElem?_eq_none (by have := h.len; omega)]
      rfl
    | some x1 =>
      obtain ⟨x0, v, h0, hv, _, _, _, _, hs⟩ := Turned.col h n1 n0 hG hk
      rw [h0]
      simp only [Option.map_some, hs]
  · rw [h.es, List.take_left]
theorem Turned.swm : tswM t1 (t0.es.length : Int) = 0 := by
  unfold tswM
  rw [if_pos (Turned.at0 h n1 n0 hG), if_neg (by rw [h.es, List.length_append, List.length_singleton, Int.toNat_natCast]; omega)]
end
theorem colsQ_p : ∀ (a b : List Col), a.map Col.p = b.map Col.p → colsQ a b = true
  | [], [], _ => rfl
  | [], y :: b, h => by simp at h
  | x :: a, [], h => by simp at h
  | x :: a, y :: b, h => by
    simp only [List.map_cons, List.cons.injEq] at h
    obtain ⟨h1, h2⟩ := h
    show (colQ x y && colsQ a b) = true
    rw [colsQ_p a b h2, Bool.and_true]
    unfold Col.p at h1
    simp only [Prod.mk.injEq] at h1
    unfold colQ colS
    rw [h1.1, h1.2.1, h1.2.2]
    simp
theorem tabQ_p {a b : Tab} (h : a.p = b.p) : tabQ a b = true := by
  unfold Tab.p at h
  simp only [Prod.mk.injEq] at h
  unfold tabQ
  rw [h.1, h.2.2, colsQ_p _ _ h.2.1]
  simp
end Go.Proofs.Ytbcbknajhdaneaa
namespace Go.Proofs.Ytbcbknajhdaneaa
open Go.RowKit
set_option linter.unusedVariables false
set_option linter.unusedSimpArgs false
def PSm (p : PT) : Prop := p.1.length ≤ 65535 ∧ p.2.1.length ≤ 65535 ∧ p.2.2.length ≤ 65535 ∧ ∀ q ∈ p.2.1, q.2.2.length ≤ 65535
theorem psm_sm {t : Tab} {w : World} {B : Nat} (h : TabOk w B t) (hp : PSm t.p) : TabSm t ∧ (t.Cn ≤ 65536 ∧ t.Tn ≤ 65536 ∧ t.En ≤ 65536 ∧ ∀ x ∈ t.F, x.n ≤ 65536) ∧ t.En ≤ 65535 := by
  obtain ⟨h1, h2, h3⟩ := h.len
  obtain ⟨p1, p2, p3, p4⟩ := hp
  unfold Tab.p at p1 p2 p3 p4
  simp only [List.length_map] at p1 p2 p3 p4
  have hx : ∀ x ∈ t.F, x.n ≤ 65535 := fun x hx => by
    have h4 := h.nl x hx
    have h5 := p4 x.p (List.mem_map_of_mem hx)
    unfold Col.p at h5
    simp only at h5
    omega
  exact ⟨⟨by omega, by omega, by omega, fun x h5 => by have := hx x h5; omega⟩, ⟨by omega, by omega, by omega, fun x h5 => by have := hx x h5; omega⟩, by omega⟩
theorem psm_own (p : PT) : PSm (ownP p) ∧ (ownP p).2.2.length ≤ 40 ∧ (ownP p).2.1.length ≤ 14 := by
  unfold ownP ownF
  refine ⟨⟨by simp; omega, by simp; omega, by simp; omega, fun q hq => ?_⟩, by simp; omega, by simp; omega⟩
  obtain ⟨x, _, rfl⟩ := List.mem_map.1 hq
  simp; omega
theorem turned_psm {t0 t1 : Tab} {e : Int} {G : List Rw} (h : Turned t0 t1 e G) (hp : PSm t0.p) (h40 : t0.es.length ≤ 40) (hq : ∀ q ∈ t0.p.2.1, q.2.2.length ≤ 200) (hG : ∀ v ∈ G, v.l.length ≤ 6) : PSm t1.p := by
  obtain ⟨p1, p2, p3, p4⟩ := hp
  unfold Tab.p at p1 p2 p3 hq ⊢
  simp only [List.length_map] at p1 p2 p3 ⊢
  refine ⟨by rw [h.ty]; exact p1, by simp only [List.length_map]; rw [h.len.1]; exact p2, by rw [h.es, List.length_append, List.length_singleton]; omega, fun q hq1 => ?_⟩
  obtain ⟨x, hx, rfl⟩ := List.mem_map.1 hq1
  obtain ⟨k, hk⟩ := List.getElem?_of_mem hx
  obtain ⟨x0, v, h1, h2, _, _, hl, _⟩ := h.at_ k x hk
  have a1 := hq x0.p (List.mem_map_of_mem (List.mem_of_getElem? h1))
  have a2 := hG v (List.mem_of_getElem? h2)
  unfold Col.p at a1 ⊢
  simp only at a1 ⊢
  rw [hl, List.length_append]; omega
theorem own_q (p : PT) : ∀ q ∈ (ownP p).2.1, q.2.2.length ≤ 200 := by
  intro q hq
  unfold ownP ownF at hq
  obtain ⟨x, _, rfl⟩ := List.mem_map.1 hq
  simp; omega
theorem few_q {L : List (List Int)} : ∀ l ∈ fewL L, l.length ≤ 6 := by
  intro l hl
  unfold fewL at hl
  obtain ⟨x, _, rfl⟩ := List.mem_map.1 hl
  simp; omega
theorem tab_nil {t : Tab} {w : World} {B : Nat} (h : TabOk w B t) (hp : t.p = noT) : t.En = 0 := by
  have h1 : t.es = [] := congrArg (fun p : PT => p.2.2) hp
  have := h.len.2.2
  rw [h1] at this
  simpa using this.symm
theorem rwOk_fresh {w : World} {base : Nat} {x : Rw} (h : RwFresh w base x) : RwOk w w.heap.size x := h.1
set_option maxRecDepth 100000 in
set_option maxHeartbeats 16000000 in
theorem turn_walk (t : Tab) (e : Int) (hwe : Word e) (A : Option Addr) (n c : Nat) (F : List Rw) (w : World) (h : TabOk w w.heap.size t)
    (hR : Reads w w.heap.size 1 A n (rws F)) (hF : ∀ x ∈ F, RwOk w w.heap.size x) (hn2 : n ≤ maxLen) :
    Calls Try.prog 6 #[t.V, .int .u64 e, .slice A n c] w fun en w' => en = .returned (.bool true) ∧ Below w.heap.size w w' := by
  have hbx := (Below.refl w.heap.size w).alloc (Nat.le_refl _) (.cells #[.slice t.TA t.Tn t.Tc, .slice t.CA t.Cn t.Cc, .slice t.EA t.En t.Ec] 25)
  have kx := Blk.new w 25 #[.slice t.TA t.Tn t.Tc, .slice t.CA t.Cn t.Cc, .slice t.EA t.En t.Ec]
  have cown := fun (W : World) (hb : Below w.heap.size w W) => own_any t W ((h.keep hb).more hb.size)
  have cfew := fun (W : World) (hb : Below w.heap.size w W) => few_any A n c F W ((hR.below hb).more hb.size) (fun x hx => ((hF x hx).keep hb).more hb.size) hn2
  have hpo := psm_own t.p
  have hqo := own_q t.p
  have hqf := few_q (L := F.map Rw.l)
  have hle := few_le (F.map Rw.l)
  unfold OwnT at cown
  unfold OwnVs at cfew
  generalize ownP t.p = p0 at *
  generalize fewL (F.map Rw.l) = g0 at *
  generalize hpost : (fun en w' => en = Ending.returned (.bool true) ∧ Below w.heap.size w w') = POST
  have HPO := Lib.hid hpost
  have HP0 := Lib.hid hpo
  have HQ0 := Lib.hid hqo
  have HQF := Lib.hid hqf
  have HLE := Lib.hid hle
  have HKX := Lib.hid kx
  unfold Tab.V at cown ⊢
  obtain ⟨TA, Tn, Tc, ty, CA, Cn, Cc, Fc, EA, En, Ec, es⟩ := t
  simp only at *
  clear hpost hpo hqo hqf hle kx h hR hF
  go_enter Try.func6, Try.ntmps6
  go_upto_region 4 with (first
    | (go_at_call 13; ((with_reducible refine (wakes_any _).mono ?_); rintro en w1 ⟨rfl, hb1⟩; have hbw1 := hbx.trans (hb1.mono hbx.size); obtain ⟨⟨x0, x1, x2⟩, _⟩ := blk_cells3 (blk_below HKX.out hb1)))
    | (go_at_call 14; ((with_reducible refine (cown _ hbw1).mono ?_); rintro en w2 ⟨t0, rfl, hp0, hf0, hb2⟩; have hbw2 := hbw1.trans (hb2.mono hbw1.size); (try unfold Tab.V)))
    | (go_at_call 15; ((with_reducible refine (cfew _ hbw2).mono ?_); rintro en w3 ⟨v3, G, rfl, hoG, hpG, hfG, hb3⟩; have hbw3 := hbw2.trans (hb3.mono hbw2.size); obtain ⟨GA, Gc, rfl⟩ := own_slice hoG))
    | fail)
  obtain ⟨W4, hW4⟩ : ∃ W4, W4 = w3.alloc (.cells #[.slice t0.TA t0.Tn t0.Tc, .slice t0.CA t0.Cn t0.Cc, .slice t0.EA t0.En t0.Ec] 25) := ⟨_, rfl⟩
  rw [← hW4]
  have hb34 : Below w3.heap.size w3 W4 := by rw [hW4]; exact (Below.refl _ _).alloc (Nat.le_refl _) _
  have k4 : Blk W4 w3.heap.size 25 #[.slice t0.TA t0.Tn t0.Tc, .slice t0.CA t0.Cn t0.Cc, .slice t0.EA t0.En t0.Ec] := by rw [hW4]; exact Blk.new _ _ _
  have hbw4 : Below w.heap.size w W4 := hbw3.trans (hb34.mono hbw3.size)
  have hT0 : TabOk W4 W4.heap.size t0 := ((hf0.below hb3).below hb34).ok
  have hG4 : ∀ x ∈ G, RwOk W4 W4.heap.size x := fun x hx => (RwOk.keep (rwOk_fresh (hfG x hx)) hb34).more hb34.size
  have hRG := Reads.of_own (own_below hoG hb34)
  have hsm := psm_sm hT0 (by rw [hp0]; exact HP0.out.1)
  have hGl : G.length ≤ 14 := by have h1 := congrArg List.length hpG; rw [List.length_map] at h1; have := HLE.out; omega
  have cpush := tpush_any t0 e hwe GA G.length Gc G W4 hT0 hsm.1 ⟨hsm.2.1.1, hsm.2.1.2.1, hsm.2.2⟩ hRG hG4 (by omega)
  obtain ⟨⟨c0, c1, c2⟩, _⟩ := blk_cells3 k4
  have hlt4 := k4.lt
  have hES : t0.es.length ≤ 40 := by have := HP0.out.2.1; rw [← hp0] at this; exact this
  have hQ0 : ∀ q ∈ t0.p.2.1, q.2.2.length ≤ 200 := by rw [hp0]; exact HQ0.out
  have hQF : ∀ v ∈ G, v.l.length ≤ 6 := fun v hv => HQF.out v.l (by rw [← hpG]; exact List.mem_map_of_mem hv)
  have hPS : PSm t0.p := by rw [hp0]; exact HP0.out.1
  unfold SetR TabRes at cpush
  unfold Tab.V at cpush
  clear hW4 hbw3 hb3 hf0 hfG hoG cown cfew hp0 hpG hbw2 hb2 hb1 hbw1
  generalize w3.heap.size = b7 at *
  by_cases her : tpuE t0 e G = 0
  · rw [her] at cpush
    have hturn := fun (t1 : Tab) (hp : t1.p = tpuP t0 e G) => turned hwe her hp
    have HTU := Lib.hid hturn
    have HT0 := Lib.hid hT0
    have HG4 := Lib.hid hG4
    have HRG := Lib.hid hRG
    have HSM := Lib.hid hsm
    have HK4 := Lib.hid k4
    have HQ := Lib.hid (And.intro hES (And.intro hQ0 (And.intro hQF hPS)))
    clear hturn hT0 hG4 hRG hsm k4 hES hQ0 hQF her hPS
    go_upto_region 5 with (first
      | (go_at_call 16; ((with_reducible refine cpush.mono ?_); rintro en w5 ⟨v5, rfl, ⟨t1, rfl, hp1, hf1⟩, hb5⟩; (try unfold Tab.V)))
      | fail)
    obtain ⟨W6, hW6⟩ : ∃ W6, W6 = w5.alloc (.cells #[.slice t1.TA t1.Tn t1.Tc, .slice t1.CA t1.Cn t1.Cc, .slice t1.EA t1.En t1.Ec] 25) := ⟨_, rfl⟩
    rw [← hW6]
    have hb56 : Below w5.heap.size w5 W6 := by rw [hW6]; exact (Below.refl _ _).alloc (Nat.le_refl _) _
    have hb46 : Below W4.heap.size W4 W6 := hb5.trans (hb56.mono hb5.size)
    have k6 : Blk W6 w5.heap.size 25 #[.slice t1.TA t1.Tn t1.Tc, .slice t1.CA t1.Cn t1.Cc, .slice t1.EA t1.En t1.Ec] := by rw [hW6]; exact Blk.new _ _ _
    have k46 := blk_below HK4.out hb46
    have hT1 : TabOk W6 W6.heap.size t1 := (hf1.below hb56).ok
    have hT06 := (HT0.out.keep hb46).more hb46.size
    have hG6 : ∀ x ∈ G, RwOk W6 W6.heap.size x := fun x hx => ((HG4.out x hx).keep hb46).more hb46.size
    have hRG6 := (HRG.out.below hb46).more hb46.size
    have hbw6 := hbw4.trans (hb46.mono hbw4.size)
    have tu := HTU.out t1 hp1
    obtain ⟨hES, hQ0, hQF, hPS⟩ := HQ.out
    have n1 := hT1.nl
    have n0 := hT06.nl
    have hGn : ∀ v ∈ G, v.l.length = v.n := fun v hv => (HG4.out v hv).len
    have hsm1 := psm_sm hT1 (turned_psm tu hPS hES hQ0 hQF)
    have hsm0 := HSM.out
    have hE0 := HT0.out.len.2.2
    have r1 := Turned.rowI tu n1 n0 hGn
    have r2 := Turned.rowK tu n1 n0 hGn
    have r3 := Turned.vsE tu n1 n0 hGn
    have r4 := Turned.vsL tu n1 n0 hGn
    have r5 := Turned.swp tu n1 n0 hGn
    have r6 := Turned.swm tu n1 n0 hGn
    have r7 := Turned.at0 tu n1 n0 hGn
    have r8 : tabE t1 = 0 := by unfold tabE; rw [Turned.b tu n1 n0 hGn]; rfl
    rw [hE0] at r1 r3 r4 r5 r6 r7
    have crow := fun (W : World) (hb : Below W6.heap.size W6 W) => trow_any t1 e W ((hT1.keep hb).more hb.size) hsm1.1
    have cval := fun (W : World) (hb : Below W6.heap.size W6 W) => tvalues_any t1 (t0.En : Int) W ((hT1.keep hb).more hb.size) hsm1.1 hsm1.2.1.1
    have cswp := fun (W : World) (hb : Below W6.heap.size W6 W) => tswap_any t1 (t0.En : Int) W ((hT1.keep hb).more hb.size) hsm1.1 ⟨hsm1.2.1.1, hsm1.2.1.2.1, hsm1.2.1.2.2.1⟩
    have cchk := fun (W : World) (hb : Below W6.heap.size W6 W) => tabchk_any t1 W ((hT1.keep hb).more hb.size) hsm1.1
    have csam := fun (W : World) (hb : Below W6.heap.size W6 W) (t2 : Tab) (h2 : TabOk W W.heap.size t2) (hp2 : t2.p = t0.p) => tsame_any t2 t0 W h2 ((hT06.keep hb).more hb.size) (psm_sm h2 (by rw [hp2]; exact hPS)).1 hsm0.1
    have csam2 := fun (W : World) (hb : Below W6.heap.size W6 W) (t2 : Tab) (h2 : TabOk W W.heap.size t2) (hp2 : t2.p = t0.p) => by have h9 := csam W hb t2 h2 hp2; rw [tabQ_p hp2] at h9; exact h9
    have ceqf := fun (W : World) (hb : Below W6.heap.size W6 W) (A2 : Option Addr) (m c2 : Nat) (G2 : List Rw) (h2 : Reads W W.heap.size 1 A2 m (rws G2)) (h3 : ∀ x ∈ G2, RwOk W W.heap.size x) (h4 : G2.map Rw.l = G.map Rw.l) => by
      have hq : ∀ x ∈ G2, x.n ≤ 281474976710656 := fun x hx => by
        have h5 : x.l ∈ G.map Rw.l := by rw [← h4]; exact List.mem_map_of_mem hx
        obtain ⟨y, hy, h6⟩ := List.mem_map.1 h5
        have := hQF y hy
        have := (h3 x hx).len
        rw [← h6] at this
        omega
      have hm : G2.length = G.length := by have := congrArg List.length h4; simpa using this
      have hm2 : m ≤ 281474976710656 := by have := h2.1; rw [rws_len] at this; omega
      have h9 := veq1_any A2 m c2 G2 GA G.length Gc G W h2 ((hRG6.below hb).more hb.size) (fun x hx => ⟨h3 x hx, hq x hx⟩) (fun x hx => ⟨((hG6 x hx).keep hb).more hb.size, by have := hQF x hx; have := hGn x hx; omega⟩) hm2 (by omega)
      rw [h4, show (G.map Rw.l == G.map Rw.l) = true from by simp] at h9
      exact h9
    simp only [r1, r2] at crow
    simp only [r3, r4] at cval
    simp only [r5, r6, r7] at cswp
    simp only [r8] at cchk
    have HC6 := Lib.hid (fun (W : World) (hb : Below W6.heap.size W6 W) => And.intro (blk_cells3 (blk_below k6 hb)).1 (blk_cells3 (blk_below k46 hb)).1)
    have HEF := Lib.hid (@ceqf)
    have HSA := Lib.hid (@csam2)
    have HBW6 := Lib.hid hbw6
    unfold Tab.V at crow cval cswp cchk
    unfold EachV at cval
    unfold SwpR TabRes at cswp
    obtain ⟨⟨z0, z1, z2⟩, ⟨y0, y1, y2⟩⟩ := HC6.out W6 (Below.refl _ _)
    clear hW6 hb56 k6 k46 hT1 hT06 hG6 hRG6 hbw6 tu hES hQ0 hQF hPS n1 n0 hGn hsm1 hsm0 r1 r2 r3 r4 r5 r6 r7 r8 csam csam2 ceqf hf1 hp1 hb5 cpush c0 c1 c2
    generalize w5.heap.size = b9 at *
    go_upto_region 10 with (first
      | (go_at_call 26; ((with_reducible refine (crow _ (Below.refl _ _)).mono ?_); rintro en w7 ⟨rfl, hb7⟩; obtain ⟨⟨z0, z1, z2⟩, ⟨y0, y1, y2⟩⟩ := HC6.out _ hb7))
      | (go_at_call 28; ((with_reducible refine (cval _ hb7).mono ?_); rintro en w8 ⟨v8, G2, rfl, ho8, hp8, hf8, hb8⟩; have hb8' := hb7.trans (hb8.mono hb7.size); obtain ⟨⟨z0, z1, z2⟩, ⟨y0, y1, y2⟩⟩ := HC6.out _ hb8'; obtain ⟨A8, c8, rfl⟩ := own_slice ho8; have HO8 := Lib.hid ho8; have HP8 := Lib.hid hp8; have HF8 := Lib.hid hf8; clear ho8 hp8 hf8))
      | (go_at_call 33; ((with_reducible refine (cswp _ hb8').mono ?_); rintro en w9 ⟨v9, rfl, ⟨t2, rfl, hp9, hf9⟩, hb9⟩; have hb9' := hb8'.trans (hb9.mono hb8'.size); (try unfold Tab.V)))
      | fail)
    obtain ⟨WA, hWA⟩ : ∃ WA, WA = w9.alloc (.cells #[.slice t2.TA t2.Tn t2.Tc, .slice t2.CA t2.Cn t2.Cc, .slice t2.EA t2.En t2.Ec] 25) := ⟨_, rfl⟩
    rw [← hWA]
    have hb9A : Below w9.heap.size w9 WA := by rw [hWA]; exact (Below.refl _ _).alloc (Nat.le_refl _) _
    have kA : Blk WA w9.heap.size 25 #[.slice t2.TA t2.Tn t2.Tc, .slice t2.CA t2.Cn t2.Cc, .slice t2.EA t2.En t2.Ec] := by rw [hWA]; exact Blk.new _ _ _
    have hbA : Below W6.heap.size W6 WA := hb9'.trans (hb9A.mono hb9'.size)
    have hT2 : TabOk WA WA.heap.size t2 := (hf9.below hb9A).ok
    have hbAA := hb9.trans (hb9A.mono hb9.size)
    have ceq := HEF.out WA hbA A8 G2.length c8 G2 ((Reads.of_own (own_below HO8.out hbAA))) (fun x hx => ((rwOk_fresh (HF8.out x hx)).keep hbAA).more hbAA.size) HP8.out
    have HSA2 := Lib.hid (fun (W : World) (hb : Below WA.heap.size WA W) => HSA.out W (hbA.trans (hb.mono hbA.size)) t2 ((hT2.keep hb).more hb.size) hp9)
    have HCA := Lib.hid (fun (W : World) (hb : Below WA.heap.size WA W) => (blk_cells3 (blk_below kA hb)).1)
    have HBA := Lib.hid hbA
    obtain ⟨⟨z0, z1, z2⟩, ⟨y0, y1, y2⟩⟩ := HC6.out WA hbA
    have csm := HSA2.out
    unfold Tab.V at csm
    have d1 : ((t0.En : Int) == (t0.En : Int)) = true := by simp
    clear hWA hb9A kA hbA hT2 hbAA hb9 hb9' hb8 hb8' hb7 hp9 hf9 crow cval cswp HEF HSA
    generalize w9.heap.size = b15 at *
    obtain ⟨x0, x1, x2⟩ := HCA.out WA (Below.refl _ _)
    go_wp2_with (first
      | (go_at_call 24; ((with_reducible refine ceq.mono ?_); rintro en wB ⟨rfl, hbB⟩; obtain ⟨x0, x1, x2⟩ := HCA.out _ hbB; obtain ⟨⟨z0, z1, z2⟩, ⟨y0, y1, y2⟩⟩ := HC6.out _ (HBA.out.trans (hbB.mono HBA.out.size))))
      | (go_at_call 36; ((with_reducible refine (csm _ hbB).mono ?_); rintro en wC ⟨rfl, hbC⟩; have hbC' := hbB.trans (hbC.mono hbB.size); have hbD := HBA.out.trans (hbC'.mono HBA.out.size); obtain ⟨⟨z0, z1, z2⟩, ⟨y0, y1, y2⟩⟩ := HC6.out _ hbD))
      | (go_at_call 34; ((with_reducible refine (cchk _ hbD).mono ?_); rintro en wE ⟨rfl, hbE⟩))
      | fail)
    rw [← HPO.out]
    exact ⟨rfl, HBW6.out.trans ((hbD.trans (hbE.mono hbD.size)).mono HBW6.out.size)⟩
  · have hz : tpuP t0 e G = noT := by unfold tpuP; rw [if_neg her]
    rw [hz] at cpush
    have d1 : (tpuE t0 e G != 0) = true := by simpa using her
    generalize tpuE t0 e G = er at *
    have HBW := Lib.hid hbw4
    clear hT0 hG4 hRG hsm k4 hES hQ0 hQF hPS her hz
    go_upto_region 5 with (first
      | (go_at_call 16; ((with_reducible refine cpush.mono ?_); rintro en w5 ⟨v5, rfl, ⟨t1, rfl, hp1, hf1⟩, hb5⟩; (try unfold Tab.V)))
      | fail)
    have hEn := tab_nil hf1.ok hp1
    obtain ⟨TA1, Tn1, Tc1, ty1, CA1, Cn1, Cc1, F1, EA1, En1, Ec1, es1⟩ := t1
    simp only at hEn ⊢
    subst hEn
    have HB5 := Lib.hid (hb5.alloc hb5.size (.cells #[.slice TA1 Tn1 Tc1, .slice CA1 Cn1 Cc1, .slice EA1 0 Ec1] 25))
    clear hf1 hp1 hb5 hbw4
    go_wp2_with fail
    rw [← HPO.out]
    exact ⟨rfl, HBW.out.trans (HB5.out.mono HBW.out.size)⟩
end Go.Proofs.Ytbcbknajhdaneaa
namespace Go.Proofs.Ytbcbknajhdaneaa
open Go.RowKit Go.Deep Go.ChangeShapes Go.WideShapes Go.ChangeAt
set_option linter.unusedVariables false
set_option linter.unusedSimpArgs false
theorem wf_word {x : Int} (h : (Lit.int .u64 x).wf = true) : Word x := by
  have hmin : IntKind.u64.min = 0 := rfl
  have hmax : IntKind.u64.max = 18446744073709551615 := rfl
  simp only [Lit.wf, Bool.and_eq_true, decide_eq_true_eq] at h
  rw [hmin, hmax] at h
  exact h
section
variable {H : Type} {enc : TypeId × Value → H} {W : World} {fuel : Nat} {cs : List Value} {x : DataW H × List MemPlace}
theorem open_u64s {t e : TypeId} (ht : Try.prog.underlying t = some (.slice e)) (he : Try.prog.underlying e = some (.int .u64)) (hc : Try.prog.cellsOf e = 1)
    (h : DataW.trod enc Try.prog W 0 (fun _ => true) true fuel t cs = some x) (hlt : ∀ y ∈ x.2, y.block < W.heap.size) :
    ∃ y : Rw, cs = [y.V] ∧ RwOk W W.heap.size y := by
  have hs : ∃ A n c, cs = [.slice A n c] ∧ c ≤ maxLen := by
    rcases open_ints ht he hc h with ⟨hcs, _⟩ | ⟨a, len, cap, zs, hcs, _, _, hm, _⟩
    · exact ⟨_, _, _, hcs, by simp [maxLen]⟩
    · exact ⟨_, _, _, hcs, hm⟩
  obtain ⟨A, n, c, rfl, hm⟩ := hs
  rcases open_row ht he hc (A := A) (n := n) (c := c) ⟨fuel, by show DataW.trod enc Try.prog W 0 (fun _ => true) true fuel t [.slice A n c] = some (x.1, x.2); exact h⟩ hlt with ⟨rfl, rfl, rfl, _⟩ | ⟨zs, hz, hl, _, hR, hw⟩
  · exact ⟨⟨none, 0, 0, []⟩, rfl, Reads.none_, Nat.le_refl _, Nat.zero_le _, by simp⟩
  · exact ⟨⟨A, n, c, zs.take n⟩, rfl, hR, hl, hm, fun y hy => wf_word (hw y (List.mem_of_mem_take hy))⟩
set_option maxRecDepth 100000 in
theorem open_col (h : DataW.trod enc Try.prog W 0 (fun _ => true) true fuel 68 cs = some x) (hlt : ∀ y ∈ x.2, y.block < W.heap.size) : ∃ y : Col, cs = y.C ∧ ColOk W W.heap.size y := by
  obtain ⟨xs, n, rfl, hx, hlen, hxl, hf⟩ := DataW.trod_struct Try.underlying68 h
  have ct : Try.prog.cellsOf 68 = 3 := by kernel_rfl
  have c3 : Try.prog.cellsOf 3 = 1 := by kernel_rfl
  have c5 : Try.prog.cellsOf 43 = 1 := by kernel_rfl
  have c6 : Try.prog.cellsOf 26 = 1 := by kernel_rfl
  rw [ct] at hlen
  match xs, hxl, cs, hlen with
  | [y0, y1, y2], _, [v0, v1, v2], _ =>
    have g0 := hf 0 _ rfl
    have g1 := hf 1 _ rfl
    have g2 := hf 2 _ rfl
    simp [c3, c5] at g0 g1 g2
    obtain ⟨z0, e0, d0, w0⟩ := DataW.trod_int Try.underlying3 g0
    obtain ⟨z1, e1, d1, w1⟩ := DataW.trod_int Try.underlying3 g1
    obtain ⟨r, e2, hr⟩ := open_u64s Try.underlying43 Try.underlying26 c6 g2 (fun y hy => hlt y (by rw [hx]; simp; exact .inr (.inr hy)))
    simp only [List.cons.injEq, and_true] at e0 e1 e2
    exact ⟨⟨z0, z1, r.A, r.n, r.c, r.l⟩, by rw [e0, e1, e2]; rfl, hr⟩
theorem reads_each3 {B n : Nat} {a : Addr} (hb : 0 < n → a.block < B) (F : Nat → Col) (h : ∀ k, k < n → ∀ i, i < 3 → W.cell? (a.add (k * 3 + i)) = (F k).C[i]?) :
    Reads W B 3 (some a) n (cols ((List.range n).map F)) := by
  refine ⟨by rw [cols_len, List.length_map, List.length_range], fun h0 => ⟨a, rfl, hb h0, fun j u hu => ?_⟩⟩
  have hj : j < n * 3 := by
    have := (List.getElem?_eq_some_iff.1 hu).1
    rw [cols_len, List.length_map, List.length_range] at this
    exact this
  have e : j = (j / 3) * 3 + j % 3 := by omega
  have hk : j / 3 < n := by omega
  have h2 := cols_at ((List.range n).map F) (j / 3) (F (j / 3)) (by rw [List.getElem?_map, List.getElem?_range hk]; rfl) (j % 3) (by omega)
  have h3 := h (j / 3) hk (j % 3) (by omega)
  rw [← e] at h2 h3
  rw [h3, ← h2, hu]
theorem open_cols (h : DataW.trod enc Try.prog W 0 (fun _ => true) true fuel 23 cs = some x) (hlt : ∀ y ∈ x.2, y.block < W.heap.size) :
    ∃ A n c, ∃ F : List Col, cs = [.slice A n c] ∧ n ≤ c ∧ c ≤ maxLen ∧ Reads W W.heap.size 3 A n (cols F) ∧ ∀ y ∈ F, ColOk W W.heap.size y := by
  have ct : Try.prog.cellsOf 68 = 3 := by kernel_rfl
  rcases open_slice Try.underlying23 h with ⟨h0, _⟩ | ⟨a, len, cap, m, k, D, Pl, hcs, hb, hl, hm, hmm, hxx, hx⟩
  · exact ⟨none, 0, 0, [], h0, Nat.le_refl _, Nat.zero_le _, Reads.none_, by simp⟩
  · rw [ct] at hxx
    simp only [if_true] at hmm
    subst hmm
    have each : ∀ j, j < m → ∃ r : Col, (∀ i, i < 3 → W.cell? (a.add (j * 3 + i)) = r.C[i]?) ∧ ColOk W W.heap.size r := by
      intro j hj
      obtain ⟨cs', h1, h2⟩ := hx j hj
      rw [ct] at h1
      obtain ⟨_, hlen, hcell⟩ := World.cells?_some h1
      obtain ⟨r, rfl, hw⟩ := open_col h2 (fun y hy => hlt y (by rw [hxx]; exact List.mem_append_right _ (List.mem_flatMap.2 ⟨j, List.mem_range.2 hj, hy⟩)))
      refine ⟨r, fun i hi => ?_, hw⟩
      have := hcell i hi
      rw [Go.Deep.add_add] at this
      exact this
    obtain ⟨F, hF⟩ := choose_lt each
    refine ⟨some a, len, m, (List.range len).map F, hcs, hl, hm, reads_each3 (fun h0 => ?_) F fun k hk => (hF k (by omega)).1, fun y hy => ?_⟩
    · obtain ⟨b, off, spot⟩ := a
      have hs := (hF 0 (by omega)).1 0 (by omega)
      have hspot : spot = none := by simpa [Addr.add] using World.cell?_spot (v := .int .i64 (F 0).W) hs
      subst hspot
      exact hlt (.cell b off) (by rw [hxx]; exact List.mem_append_left _ (MemPlace.mem_row.2 ⟨0, by omega, by simp⟩))
    · obtain ⟨k, hk, rfl⟩ := List.mem_map.1 hy
      exact (hF k (by have := List.mem_range.1 hk; omega)).2
theorem open_vals (h : DataW.trod enc Try.prog W 0 (fun _ => true) true fuel 28 cs = some x) (hlt : ∀ y ∈ x.2, y.block < W.heap.size) :
    ∃ A n c, ∃ F : List Rw, cs = [.slice A n c] ∧ n ≤ c ∧ c ≤ maxLen ∧ Reads W W.heap.size 1 A n (rws F) ∧ ∀ y ∈ F, RwOk W W.heap.size y := by
  have ct : Try.prog.cellsOf 44 = 1 := by kernel_rfl
  have c6 : Try.prog.cellsOf 26 = 1 := by kernel_rfl
  rcases open_slice Try.underlying28 h with ⟨h0, _⟩ | ⟨a, len, cap, m, k, D, Pl, hcs, hb, hl, hm, hmm, hxx, hx⟩
  · exact ⟨none, 0, 0, [], h0, Nat.le_refl _, Nat.zero_le _, Reads.none_, by simp⟩
  · rw [ct] at hxx
    simp only [if_true] at hmm
    subst hmm
    have each : ∀ j, j < m → ∃ r : Rw, W.cell? (a.add j) = some r.V ∧ RwOk W W.heap.size r := by
      intro j hj
      obtain ⟨cs', h1, h2⟩ := hx j hj
      rw [ct, Nat.mul_one] at h1
      obtain ⟨_, hlen, hcell⟩ := World.cells?_some h1
      obtain ⟨r, rfl, hw⟩ := open_u64s Try.underlying44 Try.underlying26 c6 h2 (fun y hy => hlt y (by rw [hxx]; exact List.mem_append_right _ (List.mem_flatMap.2 ⟨j, List.mem_range.2 hj, hy⟩)))
      refine ⟨r, ?_, hw⟩
      have := hcell 0 (by omega)
      rw [Go.Deep.add_add, Nat.add_zero] at this
      exact this
    obtain ⟨F, hF⟩ := choose_lt each
    refine ⟨some a, len, m, (List.range len).map F, hcs, hl, hm, ⟨by rw [rws_len]; simp, fun h0 => ⟨a, rfl, ?_, fun j u hu => ?_⟩⟩, fun y hy => ?_⟩
    · obtain ⟨b, off, spot⟩ := a
      have hs := (hF 0 (by omega)).1
      have hspot : spot = none := by simpa [Addr.add] using World.cell?_spot hs
      subst hspot
      exact hlt (.cell b off) (by rw [hxx]; exact List.mem_append_left _ (MemPlace.mem_row.2 ⟨0, by omega, by simp⟩))
    · unfold rws at hu
      rw [List.map_map, List.getElem?_map] at hu
      by_cases hj : j < len
      · rw [List.getElem?_range hj] at hu
        simp only [Option.map_some, Option.some.injEq] at hu
        rw [(hF j (by omega)).1, ← hu]; rfl
      · rw [List.getElem?_eq_none (by simp; omega)] at hu; cases hu
    · obtain ⟨k, hk, rfl⟩ := List.mem_map.1 hy
      exact (hF k (by have := List.mem_range.1 hk; omega)).2
set_option maxRecDepth 100000 in
theorem open_tabc (h : DataW.trod enc Try.prog W 0 (fun _ => true) true fuel 25 cs = some x) (hlt : ∀ y ∈ x.2, y.block < W.heap.size) :
    ∃ t : Tab, cs = [.slice t.TA t.Tn t.Tc, .slice t.CA t.Cn t.Cc, .slice t.EA t.En t.Ec] ∧ TabOk W W.heap.size t := by
  obtain ⟨xs, n, rfl, hx, hlen, hxl, hf⟩ := DataW.trod_struct Try.underlying25 h
  have ct : Try.prog.cellsOf 25 = 3 := by kernel_rfl
  have c3 : Try.prog.cellsOf 22 = 1 := by kernel_rfl
  have c5 : Try.prog.cellsOf 23 = 1 := by kernel_rfl
  have c6 : Try.prog.cellsOf 27 = 1 := by kernel_rfl
  rw [ct] at hlen
  match xs, hxl, cs, hlen with
  | [y0, y1, y2], _, [v0, v1, v2], _ =>
    have g0 := hf 0 _ rfl
    have g1 := hf 1 _ rfl
    have g2 := hf 2 _ rfl
    simp [c3, c5] at g0 g1 g2
    obtain ⟨a, e0, ha⟩ := open_u64s Try.underlying22 Try.underlying27 c6 g0 (fun y hy => hlt y (by rw [hx]; simp; exact .inl hy))
    obtain ⟨B, m, c, F, e1, q1, q2, q3, q4⟩ := open_cols g1 (fun y hy => hlt y (by rw [hx]; simp; exact .inr (.inl hy)))
    obtain ⟨b, e2, hb⟩ := open_u64s Try.underlying22 Try.underlying27 c6 g2 (fun y hy => hlt y (by rw [hx]; simp; exact .inr (.inr hy)))
    simp only [List.cons.injEq, and_true] at e0 e1 e2
    exact ⟨⟨a.A, a.n, a.c, a.l, B, m, c, F, b.A, b.n, b.c, b.l⟩, by rw [e0, e1, e2]; rfl, ha.1, ha.2.1 |> fun h => ⟨h, ha.2.2.1⟩, ha.2.2.2, q3, ⟨q1, q2⟩, q4, hb.1, ⟨hb.2.1, hb.2.2.1⟩, hb.2.2.2⟩
end
set_option maxRecDepth 100000 in
theorem open_tab {H : Type} {enc : TypeId × Value → H} {W : World} {r : Reach} {b0 : Nat} {v : Value} {d : DataW H} {p : List MemPlace}
    (hv : Value.okWide Try.prog W r b0 25 v) (h : DataW.Trod enc Try.prog W 0 (fun _ => true) true 25 v d p) (hlt : ∀ y ∈ p, y.block < W.heap.size) : ∃ t : Tab, v = t.V ∧ TabOk W W.heap.size t := by
  obtain ⟨cs, rfl, hsz⟩ := okWide_struct Try.underlying25 hv
  obtain ⟨fuel, hf⟩ := h
  obtain ⟨t, hx, hw⟩ := open_tabc hf hlt
  have hx : cs.toList = [.slice t.TA t.Tn t.Tc, .slice t.CA t.Cn t.Cc, .slice t.EA t.En t.Ec] := by simpa [Value.cells] using hx
  refine ⟨t, ?_, hw⟩
  unfold Tab.V
  congr 1
  rw [← Array.toList_inj]
  exact hx
theorem open_rws {H : Type} {enc : TypeId × Value → H} {W : World} {A : Option Addr} {n c : Nat} {d : DataW H} {p : List MemPlace}
    (h : DataW.Trod enc Try.prog W 0 (fun _ => true) true 28 (.slice A n c) d p) (hlt : ∀ y ∈ p, y.block < W.heap.size) : ∃ F : List Rw, n ≤ c ∧ c ≤ maxLen ∧ Reads W W.heap.size 1 A n (rws F) ∧ ∀ y ∈ F, RwOk W W.heap.size y := by
  obtain ⟨fuel, hf⟩ := h
  obtain ⟨A', n', c', F, e, h1, h2, h3, h4⟩ := open_vals hf hlt
  simp [Value.cells] at e
  obtain ⟨rfl, rfl, rfl⟩ := e
  exact ⟨F, h1, h2, h3, h4⟩
end Go.Proofs.Ytbcbknajhdaneaa
namespace Go.Proofs.Ytbcbknajhdaneaa
open Go.RowKit
set_option linter.unusedVariables false
theorem turn_row (t : Tab) (e : Int) (hw : (Lit.int .u64 e).wf = true) (A : Option Addr) (n c : Nat) (F : List Rw) (w : World) (h : TabOk w w.heap.size t)
    (hR : Reads w w.heap.size 1 A n (rws F)) (hF : ∀ x ∈ F, RwOk w w.heap.size x) (hn2 : n ≤ maxLen) :
    Calls Try.prog 6 #[t.V, .int .u64 e, .slice A n c] w fun en w' => en = .returned (.bool true) ∧ Below w.heap.size w w' :=
  turn_walk t e (wf_word hw) A n c F w h hR hF hn2
end Go.Proofs.Ytbcbknajhdaneaa
