/- What is proved: shift's check; a map of ids to their places. -/
import Derived.Test.YtbcbknajhdaneaaVSa1
import Derived.Test.YtbcbknajhdaneaaVTh9
import Derived.Maps.OwnSet
namespace Go.Proofs.Ytbcbknajhdaneaa
open Go.RowKit Go.Maps
set_option linter.unusedVariables false
set_option linter.unusedSimpArgs false
def shE (a b : Tab) : Int := if tabB a && tabB b then 0 else 190
set_option maxRecDepth 100000 in
set_option maxHeartbeats 4000000 in
theorem shcheck_any (a b : Tab) (w : World) (ha : TabOk w w.heap.size a) (hb : TabOk w w.heap.size b) (sa : TabSm a) (sb : TabSm b) :
    Calls Try.prog 98 #[a.V, b.V] w fun e w' => e = .returned (.int .i64 (shE a b)) ∧ Below w.heap.size w w' := by
  obtain ⟨W0, hW0, hB, hsz, k0, k1⟩ := two_blk w 25 25 #[.slice a.TA a.Tn a.Tc, .slice a.CA a.Cn a.Cc, .slice a.EA a.En a.Ec] #[.slice b.TA b.Tn b.Tc, .slice b.CA b.Cn b.Cc, .slice b.EA b.En b.Ec]
  have ca := fun (W : World) (h : Below W0.heap.size W0 W) => tabchk_any a W ((ha.keep (hB.trans (h.mono hB.size))).more (hB.trans (h.mono hB.size)).size) sa
  have cb := fun (W : World) (h : Below W0.heap.size W0 W) => tabchk_any b W ((hb.keep (hB.trans (h.mono hB.size))).more (hB.trans (h.mono hB.size)).size) sb
  have HB := Lib.hid hB
  have HC := Lib.hid (fun (W : World) (h : Below W0.heap.size W0 W) => And.intro (blk_cells3 (blk_below k0 h)).1 (blk_cells3 (blk_below k1 h)).1)
  obtain ⟨⟨x0, x1, x2⟩, ⟨y0, y1, y2⟩⟩ := HC.out W0 (Below.refl _ _)
  have HW := Lib.hid hW0
  unfold tabE at ca cb
  unfold shE
  unfold Tab.V at ca cb ⊢
  generalize tabB a = ba at *
  generalize tabB b = bb at *
  clear hW0 hB hsz k0 k1 ha hb sa sb
  cases ba
  · go_enter Try.func98, Try.ntmps98
    go_upto_region 1 with fail
    rw [← HW.out]
    go_wp2_with (first
      | (go_at_call 34; ((with_reducible refine (ca _ (Below.refl _ _)).mono ?_); rintro en w2 ⟨rfl, hb2⟩))
      | fail)
    go_ret
    exact ⟨rfl, HB.out.trans (hb2.mono HB.out.size)⟩
  · cases bb
    all_goals
      go_enter Try.func98, Try.ntmps98
      go_upto_region 1 with fail
      rw [← HW.out]
      go_wp2_with (first
        | (go_at_call 34; ((with_reducible refine (ca _ (Below.refl _ _)).mono ?_); rintro en w2 ⟨rfl, hb2⟩; obtain ⟨⟨x0, x1, x2⟩, ⟨y0, y1, y2⟩⟩ := HC.out _ hb2))
        | (go_at_call 34; ((with_reducible refine (cb _ hb2).mono ?_); rintro en w3 ⟨rfl, hb3⟩; have hb23 := hb2.trans (hb3.mono hb2.size)))
        | fail)
      go_ret
      exact ⟨rfl, HB.out.trans (hb23.mono HB.out.size)⟩
theorem key_id : Keyed Try.prog 27 := int_keyed Try.underlying27
theorem zero_int (w : World) : (zeroValue 3).run Try.prog w = .ok (.int .i64 0) w := by kernel_rfl
theorem wf_u64 {x : Int} (h : Word x) : (Lit.int .u64 x).wf = true := by
  have hmin : IntKind.u64.min = 0 := rfl
  have hmax : IntKind.u64.max = 18446744073709551615 := rfl
  simp only [Lit.wf, Bool.and_eq_true, decide_eq_true_eq]
  rw [hmin, hmax]
  exact h
/-- block b is a map of the ids of l to their places -/
def IdxM (w : World) (b : Nat) (l : List Int) : Prop :=
  ∃ D : DataW Unit, w.ownsMap Try.prog 27 (plainElem Try.prog 3) b l.length D ∧ IsMap D ∧ ∀ x, Word x → has D (.int .u64 x) = l.contains x ∧ ∀ k : Nat, l[k]? = some x → D.atKey (.int .u64 x) (.lit (.int .i64 0)) = .lit (.int .i64 (k : Int))
theorem IdxM.kept {w w' : World} {b : Nat} {l : List Int} {row : Option Nat} (h : IdxM w b l) (hg : w.grownBy w' row) (hne : some b ≠ row) : IdxM w' b l := by
  obtain ⟨D, h1, h2, h3⟩ := h
  exact ⟨D, h1.kept hg hne, h2, h3⟩
theorem IdxM.lt {w : World} {b : Nat} {l : List Int} (h : IdxM w b l) : b < w.heap.size := by obtain ⟨D, h1, _⟩ := h; exact h1.lt
set_option maxRecDepth 100000 in
theorem IdxM.look {w : World} {b : Nat} {l : List Int} (h : IdxM w b l) {x : Int} (hx : Word x) :
    ∃ c : Int, (Instr.lookup 156 (.map (some b)) (.int .u64 x) true).run Try.prog w = .ok (.tuple #[.int .i64 c, .bool (l.contains x)]) w ∧ ∀ k : Nat, l[k]? = some x → c = (k : Int) := by
  obtain ⟨D, h1, h2, h3⟩ := h
  obtain ⟨v, ps, hrun, hv⟩ := h1.look_ok key_id Try.underlying156 (zero_int w) (plainElem_int Try.underlying3 (by decide)) (keyOf_int_mk Try.underlying27 (wf_u64 hx))
  obtain ⟨c, rfl, hc, hwc⟩ := plainElem_int_inv Try.underlying3 hv
  refine ⟨c, by rw [hrun, (h3 x hx).1], fun k hk => ?_⟩
  have h4 := (h3 x hx).2 k hk
  have h5 := congrArg Prod.fst hc
  simp only at h5
  rw [h4] at h5
  injection h5 with h5
  injection h5 with _ h5
  exact h5.symm
set_option maxRecDepth 100000 in
theorem IdxM.put {w : World} {b : Nat} {l : List Int} (h : IdxM w b l) {x : Int} (hx : Word x) (hn : x ∉ l) (hl : l.length < 65536) :
    ∃ w', (Instr.mapUpdate 156 (.map (some b)) (.int .u64 x) (.int .i64 (l.length : Int))).run Try.prog w = .ok () w' ∧ IdxM w' b (l ++ [x]) ∧ w.grownBy w' (some b) := by
  obtain ⟨D, h1, h2, h3⟩ := h
  obtain ⟨w', hrun, hown, hg⟩ := h1.update key_id Try.underlying156 (by unfold maxLen; omega) (keyOf_int_mk Try.underlying27 (wf_u64 hx)) (plainElem_int Try.underlying3 (wf_i64 (x := (l.length : Int)) (by omega)))
  refine ⟨w', hrun, ⟨_, by rw [List.length_append]; exact hown, h2.put _ _, fun y hy => ?_⟩, hg⟩
  by_cases hxy : y = x
  · subst hxy
    rw [has_put_same h2 (by trivial), atKey_put_same h2 (by trivial)]
    refine ⟨by simp, fun k hk => ?_⟩
    have hkl := (List.getElem?_eq_some_iff.1 hk).1
    rw [List.length_append, List.length_singleton] at hkl
    rcases Nat.lt_or_ge k l.length with h4 | h4
    · rw [List.getElem?_append_left h4] at hk
      exact absurd (List.mem_of_getElem? hk) hn
    · have : k = l.length := by omega
      rw [this]
  · rw [has_put_other (by intro e; injection e with _ e; exact hxy e), atKey_put_other (by intro e; injection e with _ e; exact hxy e), (h3 y hy).1]
    refine ⟨by simp [hxy], fun k hk => (h3 y hy).2 k ?_⟩
    have hkl := (List.getElem?_eq_some_iff.1 hk).1
    rw [List.length_append, List.length_singleton] at hkl
    rcases Nat.lt_or_ge k l.length with h4 | h4
    · rw [List.getElem?_append_left h4] at hk; exact hk
    · have h5 : k = l.length := by omega
      rw [h5, List.getElem?_append_right (Nat.le_refl _)] at hk
      simp at hk
      exact absurd hk.symm hxy
theorem idxm_new (w : World) : IdxM (w.alloc (.map #[] 0)) w.heap.size [] := ⟨_, World.ownsMap_made _ _ _ _, isMap_empty, fun _ _ => ⟨rfl, fun k hk => by simp at hk⟩⟩
end Go.Proofs.Ytbcbknajhdaneaa
