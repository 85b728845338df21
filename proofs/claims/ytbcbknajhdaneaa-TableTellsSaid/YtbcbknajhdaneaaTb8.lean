/- What is proved: tables that lie in memory made since; the contract of table's Swap. -/
import Derived.Test.YtbcbknajhdaneaaTb7
namespace Go.Proofs.Ytbcbknajhdaneaa
open Go.RowKit
set_option linter.unusedVariables false
set_option linter.unusedSimpArgs false
/-- a row of ids in memory made since -/
def IdFresh (w : World) (base : Nat) (A : Option Addr) (n c : Nat) (l : List Int) : Prop :=
  Reads w w.heap.size 1 A n (ids l) ∧ n ≤ c ∧ c ≤ maxLen ∧ (∀ y ∈ l, Word y) ∧ IntS w base 27 A n
theorem IdFresh.below {w w' : World} {base n c : Nat} {A : Option Addr} {l : List Int} (h : IdFresh w base A n c l) (hb : Below w.heap.size w w') : IdFresh w' base A n c l :=
  ⟨(h.1.below hb).more hb.size, h.2.1, h.2.2.1, h.2.2.2.1, h.2.2.2.2.below hb⟩
theorem IdFresh.base {w : World} {base b' n c : Nat} {A : Option Addr} {l : List Int} (h : IdFresh w base A n c l) (hb : b' ≤ base) : IdFresh w b' A n c l :=
  ⟨h.1, h.2.1, h.2.2.1, h.2.2.2.1, h.2.2.2.2.base hb⟩
theorem idFresh_own {w : World} {base n : Nat} {A : Option Addr} {c : Nat} {l : List Int} (h : w.ownsRow base 27 1 (.slice A n c) n (ids l)) (hw : ∀ y ∈ l, Word y) : IdFresh w base A n c l := by
  obtain ⟨A', c', hv, h1, h2⟩ := own_cap h
  injection hv with ha hn hc
  subst ha hc
  exact ⟨Reads.of_own h, h1, by unfold maxLen; exact h2, hw, ints_of_own h hw⟩
theorem idFresh_nil (w : World) (base : Nat) : IdFresh w base none 0 0 [] := ⟨Reads.none_, Nat.le_refl _, Nat.zero_le _, by simp, fun h => absurd h (Nat.lt_irrefl 0)⟩
theorem idFresh_cell {w : World} {base g i n c : Nat} {A : Option Addr} {l : List Int} {t : TypeId} {cs : Array Value} (h : IdFresh w base A n c l) (hk : Blk w g t cs) (hne : 27 ≠ t) (v : Value) : IdFresh (w.setCell ⟨g, i, none⟩ v) base A n c l := by
  obtain ⟨hR, hc1, hc2, hw, hs⟩ := h
  have hb : ∀ k, k ≠ g → (w.setCell ⟨g, i, none⟩ v).heap[k]? = w.heap[k]? := fun k hk => Below.heap_setCell _ _ _ _ (by simpa using hk)
  have hs' := ints_heap hs hk hne hb
  refine ⟨⟨hR.1, fun h0 => ?_⟩, hc1, hc2, hw, hs'⟩
  obtain ⟨ad, e, h1, h2⟩ := hR.2 h0
  obtain ⟨g', cur, e', h3, h4, h5⟩ := hs h0
  refine ⟨ad, e, by simpa using h1, fun j u hu => ?_⟩
  rw [e'] at e; injection e with e
  have hg : g' ≠ g := by
    intro hh
    subst hh
    unfold Blk at hk
    rw [hk] at h4
    injection h4 with h4
    injection h4 with _ h7
    exact hne h7.symm
  rw [← h2 j u hu]
  have hbl : (ad.add j).block = g' := by rw [block_of_add, ← e]
  exact World.cell?_setCell_other _ _ _ _ (fun ee => hg (by have h9 := congrArg Addr.block ee; rw [hbl] at h9; first | exact h9 | exact h9.symm))
structure TabFresh (w : World) (base : Nat) (t : Tab) : Prop where
  ty : IdFresh w base t.TA t.Tn t.Tc t.ty
  cs : w.ownsRow base 68 3 (.slice t.CA t.Cn t.Cc) t.Cn (cols t.F)
  csf : ∀ x ∈ t.F, ColFresh w base x
  es : IdFresh w base t.EA t.En t.Ec t.es
theorem TabFresh.ok {w : World} {base : Nat} {t : Tab} (h : TabFresh w base t) : TabOk w w.heap.size t := by
  obtain ⟨A', c', hv, h1, h2⟩ := own_cap h.cs
  injection hv with ha hn hc
  exact ⟨h.ty.1, ⟨h.ty.2.1, h.ty.2.2.1⟩, h.ty.2.2.2.1, Reads.of_own h.cs, ⟨by rw [hc]; exact h1, by rw [hc]; unfold maxLen; exact h2⟩, fun x hx => (h.csf x hx).1, h.es.1, ⟨h.es.2.1, h.es.2.2.1⟩, h.es.2.2.2.1⟩
theorem TabFresh.below {w w' : World} {base : Nat} {t : Tab} (h : TabFresh w base t) (hb : Below w.heap.size w w') : TabFresh w' base t :=
  ⟨h.ty.below hb, own_below h.cs hb, fun x hx => (h.csf x hx).below hb, h.es.below hb⟩
theorem TabFresh.base {w : World} {base b' : Nat} {t : Tab} (h : TabFresh w base t) (hb : b' ≤ base) : TabFresh w b' t :=
  ⟨h.ty.base hb, base_le h.cs hb, fun x hx => colFresh_base (h.csf x hx) hb, h.es.base hb⟩
theorem TabFresh.set3 {w : World} {base g : Nat} {t : Tab} {cs : Array Value} (h : TabFresh w base t) (hk : Blk w g 25 cs) (a b c : Value) :
    TabFresh (((w.setCell ⟨g, 0, none⟩ a).setCell ⟨g, 1, none⟩ b).setCell ⟨g, 2, none⟩ c) base t :=
  ⟨idFresh_cell (idFresh_cell (idFresh_cell h.ty hk (by decide) a) (hk.set_ 0 a) (by decide) b) ((hk.set_ 0 a).set_ 1 b) (by decide) c,
   h.cs.kept (grown_set3 _ _ _ _ _) (.inr (own_blk_ne h.cs hk (by decide))),
   fun x hx => fresh_set3 (h.csf x hx) hk (by decide) _ _ _,
   idFresh_cell (idFresh_cell (idFresh_cell h.es hk (by decide) a) (hk.set_ 0 a) (by decide) b) ((hk.set_ 0 a).set_ 1 b) (by decide) c⟩
abbrev PT := List Int × List PC × List Int
def Tab.p (t : Tab) : PT := (t.ty, t.F.map Col.p, t.es)
def noT : PT := ([], [], [])
/-- the table that came of it -/
def TabRes (p : PT) (base : Nat) (v : Value) (w' : World) : Prop := ∃ t : Tab, v = t.V ∧ t.p = p ∧ TabFresh w' base t
theorem tabRes_nil (base : Nat) (w' : World) : TabRes noT base (.agg #[.slice none 0 0, .slice none 0 0, .slice none 0 0]) w' :=
  ⟨⟨none, 0, 0, [], none, 0, 0, [], none, 0, 0, []⟩, rfl, rfl, idFresh_nil _ _, World.ownsRow_nil _ _ _ _, by simp, idFresh_nil _ _⟩
theorem each_get_zero {t : Tab} {row : Int} (h : atE t row = 0) : eachE (fun _ x => getE x row) 0 t.F = 0 := by
  obtain ⟨hb, h0, h1⟩ := atE_zero h
  obtain ⟨_, _, _, hc, _⟩ := tabB_parts hb
  refine eachE_all _ _ _ fun j y hy => ?_
  obtain ⟨hc1, hc2⟩ := hc y (List.mem_of_getElem? hy)
  unfold getE
  rw [hc1, if_pos rfl, if_pos ⟨h0, by rw [hc2]; exact h1⟩]
theorem own_shrink {w : World} {base n m c : Nat} {e : TypeId} {A : Option Addr} {xs : List Value} (h : w.ownsRow base e 1 (.slice A n c) n xs) (hm : m ≤ n) : w.ownsRow base e 1 (.slice A m c) m (xs.take m) := by
  have hl : xs.length = n := by have := h.1; omega
  refine ⟨by rw [List.length_take]; omega, ?_⟩
  rcases h.2 with ⟨hv, hn⟩ | ⟨g, cap, cur, hv, h1, h2, h3, h4, h5, h6⟩
  · injection hv with ha hn2 hc
    exact .inl ⟨by rw [ha, hc]; congr 1; omega, by omega⟩
  · injection hv with ha hn2 hc
    subst ha hc
    refine .inr ⟨g, c, cur, rfl, h1, h2, by omega, h4, h5, ?_⟩
    rw [Nat.mul_one] at h6 ⊢
    rw [← h6, List.take_take, Nat.min_eq_left hm]
theorem elem_d : Try.prog.elem 22 = 27 := by kernel_rfl
theorem run_headD (A : Option Addr) (n c m : Nat) (h : m ≤ c) (w : World) : (Instr.slice 22 (.slice A n c) none (some (.int .i64 (m : Int))) none).run Try.prog w = .ok (.slice A m c) w := by
  obtain ⟨i0, hi0, hz0, hz1, hz2⟩ := info_parts info_id
  rw [run_slice_h w 22 A n c (by rw [elem_d]; exact Try.underlying22) .i64 _ (by omega) (by omega), elem_d]
  have hs : (sizeOf 27).run Try.prog w = .ok 1 w := by simp [sizeOf, typeInfo, hi0, hz1]
  rw [hs]
  simp only [Result.andThen, Int.toNat_natCast]
  unfold sliced
  have e : (if c = 0 then A else A.map (·.add (0 * 1))) = A := headA_eq A c
  rw [e, Nat.sub_zero, Nat.sub_zero]
end Go.Proofs.Ytbcbknajhdaneaa
