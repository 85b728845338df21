/- What is proved: the document's Column and Fit. the document's Rows. what the document's Push, Swap and Set have in common: rows of values, and the document's Of at them. the document's Push. a value stored into rows of values of the call's own. the document's Set. the document's Swap. plain laws: what the document's Push, Swap and Set answer is what the table's do. plain laws: what tables answer hangs on what they hold alone. -/
import Derived.Test.YtbcbknajhdaneaaVTe4
import Derived.Test.YtbcbknajhdaneaaVOg
import Derived.Test.YtbcbknajhdaneaaVTg4
namespace Go.Proofs.Ytbcbknajhdaneaa
open Go.RowKit
set_option linter.unusedVariables false
set_option linter.unusedSimpArgs false
theorem ixGo_eq (v x : Int) (l : List Int) (k : Nat) : ixGo v (x :: l) k = if x == v then (k : Int) else ixGo v l (k + 1) := by
  show (if v == x then (k : Int) else ixGo v l (k + 1)) = _
  rw [Bool.beq_comm]
/-- are values one for each column, of its width? -/
def fitB (t : Tab) (G : List Rw) : Bool := (G.length == t.F.length) && widE G 0 t.F
end Go.Proofs.Ytbcbknajhdaneaa
namespace Go.Proofs.Ytbcbknajhdaneaa
open Go.RowKit
set_option linter.unusedVariables false
set_option linter.unusedSimpArgs false
/-- the values of the first rows -/
def allR (F : List Col) (m : Nat) : List (List (List Int)) := (List.range m).map (rowL F)
theorem allR_len (F : List Col) (m : Nat) : (allR F m).length = m := by unfold allR; rw [List.length_map, List.length_range]
/-- a row of values of the call's own -/
structure GrFresh (w : World) (base : Nat) (x : Gr) : Prop where
  own : w.ownsRow base 44 1 x.V x.G.length (rws x.G)
  n : x.n = x.G.length
  g : ∀ v ∈ x.G, RwFresh w base v
theorem GrFresh.below {w w' : World} {base : Nat} {x : Gr} (h : GrFresh w base x) (hb : Below w.heap.size w w') : GrFresh w' base x := ⟨own_below h.own hb, h.n, fun v hv => (h.g v hv).below hb⟩
theorem GrFresh.base {w : World} {b b' : Nat} {x : Gr} (h : GrFresh w b x) (hb : b' ≤ b) : GrFresh w b' x := ⟨base_le h.own hb, h.n, fun v hv => colFresh_base (h.g v hv) hb⟩
theorem GrFresh.grown {w w' : World} {base b n size : Nat} {x : Gr} {e : TypeId} {v : Value} {xs : List Value} (h : GrFresh w base x) (ho : w.ownsRow b e size v n xs) (hne : e ≠ 26) (hne2 : e ≠ 44) (hg : w.grownBy w' v.ownBlock) : GrFresh w' base x :=
  ⟨own_other h.own ho (fun e1 => hne2 e1.symm) hg, h.n, fun y hy => rwFresh_grown (h.g y hy) ho hne hg⟩
theorem GrFresh.ok {w : World} {base : Nat} {x : Gr} (h : GrFresh w base x) : GrOk w w.heap.size x := by
  obtain ⟨A', c', hv, h1, h2⟩ := own_cap h.own
  obtain ⟨A, n, c, G⟩ := x
  unfold Gr.V at hv
  injection hv with ha hn hc
  have ho := h.own
  unfold Gr.V at ho
  simp only at ha hn hc ho
  subst ha hc hn
  exact ⟨Reads.of_own ho, ⟨h1, by unfold maxLen; exact h2⟩, fun v hv => rwOk_fresh (h.g v hv)⟩
theorem own_lo {w : World} {base n n' size c : Nat} {e : TypeId} {A : Option Addr} {a : Addr} {xs : List Value} (h : w.ownsRow base e size (.slice A n c) n' xs) (hA : A = some a) : base ≤ a.block ∧ a.block < w.heap.size := by
  subst hA
  rcases h.2 with ⟨hv, _⟩ | ⟨g, cap, cur, hv, h1, h2, _⟩
  · cases hv
  · injection hv with ha _ _
    injection ha with ha
    subst ha
    exact ⟨h1, (Array.getElem?_eq_some_iff.1 h2).1⟩
theorem GrFresh.lt {w : World} {base : Nat} {x : Gr} (h : GrFresh w base x) : ∀ a, x.A = some a → a.block < w.heap.size := fun a ha => (own_lo (by have := h.own; unfold Gr.V at this; exact this) ha).2
end Go.Proofs.Ytbcbknajhdaneaa
namespace Go.Proofs.Ytbcbknajhdaneaa
open Go.RowKit
set_option linter.unusedVariables false
set_option linter.unusedSimpArgs false
/-- what comes of the document's Push -/
def rpuP (t : Tab) (e : Int) (ls : List (List Int)) : PT := (t.ty, ofL (allR t.F t.es.length ++ [ls]) ((t.En + 1 : Nat) : Int) 0 (t.F.map Col.W), t.es ++ [e])
theorem two_blk (w : World) (t t2 : TypeId) (a b : Array Value) : ∃ W0, W0 = (w.alloc (.cells a t)).alloc (.cells b t2) ∧ Below w.heap.size w W0 ∧ W0.heap.size = w.heap.size + 2 ∧ Blk W0 w.heap.size t a ∧ Blk W0 (w.heap.size + 1) t2 b := by
  refine ⟨_, rfl, ((Below.refl w.heap.size w).alloc (Nat.le_refl _) _).alloc (by simp) _, by simp, (Blk.new w _ _).alloc _, ?_⟩
  have h := Blk.new (w.alloc (.cells a t)) t2 b
  rw [World.size_alloc] at h
  exact h
end Go.Proofs.Ytbcbknajhdaneaa
namespace Go.Proofs.Ytbcbknajhdaneaa
open Go.RowKit
set_option linter.unusedVariables false
set_option linter.unusedSimpArgs false
end Go.Proofs.Ytbcbknajhdaneaa
namespace Go.Proofs.Ytbcbknajhdaneaa
open Go.RowKit
set_option linter.unusedVariables false
set_option linter.unusedSimpArgs false
theorem own_form {w : World} {base n size c : Nat} {e : TypeId} {A : Option Addr} {xs : List Value} (h : w.ownsRow base e size (.slice A n c) n xs) (hn : 0 < n) : ∃ g, A = some ⟨g, 0, none⟩ := by
  obtain ⟨g, cap, hv, _⟩ := h.form hn
  injection hv with ha _ _
  exact ⟨g, ha⟩
theorem rws_set (G : List Rw) (k : Nat) (v : Rw) : rws (G.set k v) = (rws G).set k v.V := by unfold rws; rw [List.map_set]
theorem set_same {α : Type} {l : List α} {k : Nat} {x : α} (h : l[k]? = some x) : l.set k x = l := by
  refine List.ext_getElem? fun j => ?_
  rw [List.getElem?_set]
  by_cases hj : k = j
  · subst hj; rw [if_pos rfl, h, if_pos (List.getElem?_eq_some_iff.1 h).1]
  · rw [if_neg hj]
end Go.Proofs.Ytbcbknajhdaneaa
namespace Go.Proofs.Ytbcbknajhdaneaa
open Go.RowKit
set_option linter.unusedVariables false
set_option linter.unusedSimpArgs false
theorem allR_at {F : List Col} {m r : Nat} (hr : r < m) : (allR F m)[r]? = some (rowL F r) := by
  unfold allR; rw [List.getElem?_map, List.getElem?_range hr]; rfl
end Go.Proofs.Ytbcbknajhdaneaa
namespace Go.Proofs.Ytbcbknajhdaneaa
open Go.RowKit
set_option linter.unusedVariables false
set_option linter.unusedSimpArgs false
/-- what comes of the document's Swap -/
def rswapR (t : Tab) (r m : Nat) : List (List (List Int)) := ((allR t.F (m + 1)).set r (rowL t.F m)).take m
def rswapP (t : Tab) (r m : Nat) : PT := (t.ty, ofL (rswapR t r m) (m : Int) 0 (t.F.map Col.W), swapEs t.es r)
theorem idAt_of {l : List Int} {k : Nat} (hk : k < l.length) : l[k]? = some (idAt l k) := by unfold idAt; rw [List.getElem?_eq_getElem hk]
end Go.Proofs.Ytbcbknajhdaneaa
namespace Go.Proofs.Ytbcbknajhdaneaa
open Go.RowKit
set_option linter.unusedVariables false
set_option linter.unusedSimpArgs false
theorem ofL_get (R : List (List (List Int))) (E : Int) : ∀ (ws : List Int) (b k : Nat), (ofL R E b ws)[k]? = (ws[k]?).map fun n => (n, E, colOf R (b + k))
  | [], _, _ => rfl
  | n :: ws, b, 0 => rfl
  | n :: ws, b, k + 1 => by
    show (ofL R E (b + 1) ws)[k]? = _
    rw [ofL_get R E ws (b + 1) k, List.getElem?_cons_succ, show b + 1 + k = b + (k + 1) from by omega]
theorem colOf_snoc (R : List (List (List Int))) (r : List (List Int)) {k : Nat} {v : List Int} (h : r[k]? = some v) : colOf (R ++ [r]) k = colOf R k ++ v := by
  unfold colOf
  rw [List.flatMap_append]
  simp [h]
theorem colOf_chunks {W k : Nat} : ∀ (m : Nat) {l : List Int} {R : List (List (List Int))}, l.length = W * m → R.length = m → (∀ (j : Nat) (r : List (List Int)), R[j]? = some r → r[k]? = some (chunk l W j)) → colOf R k = l
  | 0, l, R, hl, hR, _ => by
    obtain rfl : R = [] := List.length_eq_zero_iff.1 hR
    obtain rfl : l = [] := List.length_eq_zero_iff.1 (by omega)
    rfl
  | m + 1, l, R, hl, hR, h => by
    have hl2 : l.length = W * m + W := by rw [hl, Nat.mul_succ]
    have e : R = R.take m ++ [R[m]] := by
      have h1 := take_snoc (List.getElem?_eq_getElem (l := R) (i := m) (by omega))
      rw [List.take_of_length_le (by omega)] at h1
      exact h1
    have h2 := h m R[m] (List.getElem?_eq_getElem _)
    have hc : l = l.take (W * m) ++ chunk l W m := by
      unfold chunk
      rw [Nat.mul_comm m W, List.take_of_length_le (l := List.drop (W * m) l) (by rw [List.length_drop]; omega), List.take_append_drop]
    have h3 := colOf_chunks (W := W) (k := k) m (l := l.take (W * m)) (R := R.take m) (by rw [List.length_take]; omega) (by rw [List.length_take]; omega) fun j r hj => by
      rw [List.getElem?_take] at hj
      split at hj
      · rename_i hjm
        have h4 := h j r hj
        rw [h4]
        congr 1
        unfold chunk
        have h5 := rows_le (W := W) hjm
        rw [Nat.succ_mul, Nat.mul_comm m W] at h5
        rw [List.drop_take, List.take_take, Nat.min_eq_left (by omega)]
      · cases hj
    rw [e, colOf_snoc _ _ h2, h3, ← hc]
theorem rowL_get {F : List Col} {j k : Nat} {x : Col} (h : F[k]? = some x) : (rowL F j)[k]? = some (chunk x.l x.W.toNat j) := by unfold rowL; rw [List.getElem?_map, h]; rfl
theorem allR_get {F : List Col} {m j : Nat} {r : List (List Int)} (h : (allR F m)[j]? = some r) : j < m ∧ r = rowL F j := by
  have hj := (List.getElem?_eq_some_iff.1 h).1
  rw [allR_len] at hj
  rw [allR_at hj] at h
  injection h with h
  exact ⟨hj, h.symm⟩
/-- what is known of a column of a table that may be -/
theorem tab_col {t : Tab} (hb : tabB t = true) (hn : NL t) {k : Nat} {x : Col} (hk : t.F[k]? = some x) : 0 ≤ x.W ∧ x.W ≤ 4 ∧ x.R = (t.es.length : Int) ∧ x.l.length = x.W.toNat * t.es.length ∧ colB x.W x.R x.n = true := by
  obtain ⟨_, _, hle, hc, _⟩ := tabB_parts hb
  obtain ⟨h1, h2⟩ := hc x (List.mem_of_getElem? hk)
  have h3 := hn x (List.mem_of_getElem? hk)
  have h4 := h1
  unfold colB at h4
  obtain ⟨hW0, hW4, hR0, hR1, hnn⟩ := of_decide_eq_true h4
  refine ⟨hW0, hW4, h2, ?_, h1⟩
  obtain ⟨W, hW⟩ := Int.eq_ofNat_of_zero_le hW0
  rw [hW, h2, ← Int.natCast_mul] at hnn
  rw [h3, hW, Int.toNat_natCast]
  omega
/-- the columns that come of it -/
theorem cols_eq {t : Tab} {fp : Nat → Col → PC} {R : List (List (List Int))} {E : Int} (h : ∀ (k : Nat) (x : Col), t.F[k]? = some x → fp k x = (x.W, E, colOf R k)) : eachL fp 0 t.F = ofL R E 0 (t.F.map Col.W) := by
  refine List.ext_getElem? fun k => ?_
  rw [eachL_get, ofL_get, List.getElem?_map, Nat.zero_add]
  cases hk : t.F[k]? with
  | none => rfl
  | some x => simp only [Option.map_some]; rw [h k x hk]
theorem push_same {t : Tab} {e : Int} {G : List Rw} (hn : NL t) (hE : t.es.length = t.En) (hl : ∀ v ∈ G, v.l.length = v.n) (h : tpuE t e G = 0) : tpuP t e G = rpuP t e (G.map Rw.l) := by
  have h0 := h
  unfold tpuE at h
  split at h
  rotate_left
  · omega
  rename_i hb
  split at h
  rotate_left
  · omega
  rename_i hk
  split at h
  · omega
  split at h
  rotate_left
  · omega
  rename_i hw
  unfold tpuP rpuP
  rw [if_pos h0]
  congr 2
  refine cols_eq fun k x hx => ?_
  obtain ⟨hW0, hW4, hR, hxl, hc⟩ := tab_col hb hn hx
  have hlt := (List.getElem?_eq_some_iff.1 hx).1
  have hv := rws_at (G := G) (k := k) (by omega)
  have hwv := widE_at hw k x hx
  rw [Nat.zero_add] at hwv
  have hvl := hl _ (List.mem_of_getElem? hv)
  generalize vAt G k = v at *
  have hz : pushE x v = 0 := by
    unfold pushE
    rw [hc, if_pos rfl, if_neg (by rw [hwv]; simp)]
    split
    · rename_i h9
      rw [hR] at h9
      have h1 : (t.es.length = 1048578) ∨ t.es.length < 1048578 := by
        have := (tabB_parts hb).2.2.1
        omega
      rcases h1 with h1 | h1
      · rw [if_pos h1] at h; omega
      · omega
    · rfl
  unfold pushP
  rw [if_pos hz]
  have hvW : v.l.length = x.W.toNat := by omega
  rw [← hE, hR]
  congr 2
  rw [colOf_snoc _ _ (show (G.map Rw.l)[k]? = some v.l from by rw [List.getElem?_map, hv]; rfl)]
  rw [colOf_chunks (W := x.W.toNat) t.es.length hxl (allR_len _ _) fun j r hj => by
    obtain ⟨_, rfl⟩ := allR_get hj
    exact rowL_get hx]
theorem swap_same {t : Tab} {r m : Nat} (hn : NL t) (hm : t.es.length = m + 1) (hr : r ≤ m) (hb : tabB t = true) : tswP t (r : Int) = rswapP t r m := by
  have h0 : atE t (r : Int) = 0 := by unfold atE; rw [hb, if_pos rfl, if_pos ⟨by omega, by omega⟩]
  unfold tswP rswapP
  rw [if_pos h0, Int.toNat_natCast]
  congr 2
  refine cols_eq fun k x hx => ?_
  obtain ⟨hW0, hW4, hR, hxl, hc⟩ := tab_col hb hn hx
  have hg : getE x (r : Int) = 0 := by unfold getE; rw [hc, if_pos rfl, if_pos ⟨by omega, by omega⟩]
  unfold swpP
  rw [if_pos hg, hR, hm, Int.toNat_natCast, show (((m + 1 : Nat) : Int) - 1) = (m : Int) from by omega, Int.toNat_natCast]
  congr 2
  rw [hm] at hxl
  symm
  refine colOf_chunks (W := x.W.toNat) m (swapC_len hxl hr) (by unfold rswapR; rw [List.length_take, List.length_set, allR_len]; omega) fun j q hj => ?_
  unfold rswapR at hj
  rw [List.getElem?_take] at hj
  split at hj
  rotate_left
  · cases hj
  rename_i hjm
  rw [swapC_chunk hxl hr hjm]
  rw [List.getElem?_set] at hj
  unfold sig
  split at hj
  · rename_i hrj
    subst hrj
    rw [allR_len, if_pos (by omega)] at hj
    injection hj with hj
    rw [← hj, if_pos rfl]
    exact rowL_get hx
  · rename_i hrj
    obtain ⟨_, rfl⟩ := allR_get hj
    rw [if_neg (Ne.symm hrj)]
    exact rowL_get hx
theorem idx_zero {a : Int} (h : Word a) : idx a = 0 ↔ kd a ≠ 1 := by
  unfold idx
  split
  · rename_i hk
    have ht : tk a 1 = true := by
      unfold kd at hk
      split at hk
      · assumption
      · split at hk
        · omega
        · split at hk
          · omega
          · split at hk <;> omega
    rw [tk1] at ht
    simp only [Bool.and_eq_true] at ht
    have h2 := ht.1.2
    unfold inn at h2
    simp only [List.all_cons, List.all_nil, Bool.and_true] at h2
    unfold pa
    rw [if_pos (.inl hk)]
    constructor
    · intro h3
      rw [h3] at h2
      simp at h2
    · intro h3; exact absurd hk h3
  · rename_i hk; exact ⟨fun _ => hk, fun _ => rfl⟩
end Go.Proofs.Ytbcbknajhdaneaa
namespace Go.Proofs.Ytbcbknajhdaneaa
open Go.RowKit
set_option linter.unusedVariables false
set_option linter.unusedSimpArgs false
section
variable {a b : Tab} (hp : a.p = b.p)
include hp
theorem p_ty : a.ty = b.ty := congrArg (fun p : PT => p.1) hp
theorem p_es : a.es = b.es := congrArg (fun p : PT => p.2.2) hp
theorem p_F : a.F.map Col.p = b.F.map Col.p := congrArg (fun p : PT => p.2.1) hp
theorem p_len : a.F.length = b.F.length := by have := congrArg List.length (p_F hp); simpa using this
theorem p_at {k : Nat} {x : Col} (hx : a.F[k]? = some x) : ∃ y, b.F[k]? = some y ∧ x.W = y.W ∧ x.R = y.R ∧ x.l = y.l := by
  have h1 := congrArg (fun l => l[k]?) (p_F hp)
  simp only [List.getElem?_map, hx, Option.map_some] at h1
  cases hy : b.F[k]? with
  | none => rw [hy] at h1; cases h1
  | some y =>
    rw [hy] at h1
    simp only [Option.map_some, Option.some.injEq] at h1
    unfold Col.p at h1
    injection h1 with h2 h3
    injection h3 with h3 h4
    exact ⟨y, rfl, h2, h3, h4⟩
theorem tabB_p1 (na : NL a) (nb : NL b) (h : tabB a = true) : tabB b = true := by
  obtain ⟨p1, p2, p3, p4, p5⟩ := tabB_parts h
  rw [tabB_eq]
  simp only [Bool.and_eq_true, decide_eq_true_eq, List.all_eq_true]
  refine ⟨by rw [← p_ty hp]; exact p1, by rw [← p_ty hp, ← p_len hp]; exact p2, by rw [← p_es hp]; exact p3, fun y hy => ?_, by rw [← p_es hp]; exact p5⟩
  obtain ⟨k, hk⟩ := List.getElem?_of_mem hy
  obtain ⟨x, hx, e1, e2, e3⟩ := p_at hp.symm hk
  obtain ⟨q1, q2⟩ := p4 x (List.mem_of_getElem? hx)
  have q3 := na x (List.mem_of_getElem? hx)
  have q4 := nb y hy
  unfold colT
  rw [e1, e2, ← q4, e3, q3, ← p_es hp, q2]
  rw [q2] at q1
  rw [q1]
  simp
end
theorem tabB_p {a b : Tab} (hp : a.p = b.p) (na : NL a) (nb : NL b) : tabB a = tabB b := by
  cases h : tabB a with
  | true => exact (tabB_p1 hp na nb h).symm
  | false =>
    cases h2 : tabB b with
    | false => rfl
    | true => rw [tabB_p1 hp.symm nb na h2] at h; cases h
end Go.Proofs.Ytbcbknajhdaneaa
