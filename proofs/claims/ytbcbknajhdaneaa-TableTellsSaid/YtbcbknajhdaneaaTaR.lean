/- What is proved: a map from ints to bools that is a set: its making, look-up and store. -/
import Derived.Test.YtbcbknajhdaneaaTaQ
import Derived.Maps.Own
import Derived.Maps.Views
import Derived.Maps.Keyed
import Derived.MapKept
namespace Go.Proofs.Ytbcbknajhdaneaa
open Go.RowKit Go.Maps
set_option linter.unusedVariables false
set_option linter.unusedSimpArgs false
theorem alloc_set (w : World) (o o' : Obj) : ({ w.alloc o with heap := (w.alloc o).heap.setIfInBounds w.heap.size o' } : World) = w.alloc o' := by
  have e : (w.alloc o).heap = w.heap.push o := rfl
  have e2 : (w.alloc o').heap = w.heap.push o' := rfl
  have h : (w.heap.push o).setIfInBounds w.heap.size o' = w.heap.push o' := by
    apply Array.ext_getElem?
    intro i
    by_cases hi : i = w.heap.size
    · subst hi; simp
    · rw [Array.getElem?_setIfInBounds_ne (by omega)]
      simp [Array.getElem?_push, hi]
  show ({ w.alloc o with heap := (w.heap.push o).setIfInBounds w.heap.size o' } : World) = w.alloc o'
  rw [h]; rfl
theorem run_update_new {P : Program} (T K E : TypeId) (k : IntKind) (ht : P.underlying T = some (.map K E)) (hk : P.underlying K = some (.int k)) (es : Array MapEntry) (c : Nat) (n : Int) (v : Value) (w : World)
    (hf : Instr.findNow (.int k) (.int k n) es.toList 0 = some none) :
    (Instr.mapUpdate T (.map (some w.heap.size)) (.int k n) v).run P (w.alloc (.map es c)) = .ok () (w.alloc (.map (es.push ⟨.int k n, v, c⟩) (c + 1))) := by
  have hb := (MapKept.heap_alloc w (.map es c)).1
  have hc : (Instr.checkKey false 10000 K (.int k n)).run P (w.alloc (.map es c)) = .ok () (w.alloc (.map es c)) := MapKept.run_checkKey hk (by simp [MapKept.IsKey]) false 9999
  have hg := MapKept.run_findKey (w := w.alloc (.map es c)) hk hf
  have hs := MapKept.run_setObj_map (P := P) (.map (es.push ⟨.int k n, v, c⟩) (c + 1)) hb
  rw [alloc_set] at hs
  unfold Instr.mapUpdate
  simp [run_underlying ht, MapKept.run_getObj_map hb, hc, hg, hs, Result.andThen]
theorem key_int : Keyed Try.prog 3 := int_keyed Try.underlying3
theorem zero_bool (w : World) : (zeroValue 4).run Try.prog w = .ok (.bool false) w := by kernel_rfl
theorem wf_i64 {x : Int} (h : -9223372036854775808 ≤ x ∧ x ≤ 9223372036854775807) : (Lit.int .i64 x).wf = true := by
  have hmin : IntKind.i64.min = -9223372036854775808 := rfl
  have hmax : IntKind.i64.max = 9223372036854775807 := rfl
  simp only [Lit.wf, Bool.and_eq_true, decide_eq_true_eq]
  rw [hmin, hmax]
  exact h
theorem bool_inv {P : Program} {e : TypeId} {H : Type} (he : P.underlying e = some .bool) {v : Value} {z : DataW H × List MemPlace} (h : plainElem P e v = some z) : ∃ x, v = .bool x ∧ z = (.lit (.bool x), []) := by
  unfold plainElem at h
  rw [he] at h
  cases v <;> simp at h
  exact ⟨_, rfl, h.symm⟩
/-- block b is a map that says true of just the ints of l -/
def SetM (w : World) (b : Nat) (l : List Int) : Prop :=
  ∃ D : DataW Unit, w.ownsMap Try.prog 3 (plainElem Try.prog 4) b l.length D ∧ IsMap D ∧ ∀ x, (Lit.int .i64 x).wf = true → D.atKey (.int .i64 x) (.lit (.bool false)) = .lit (.bool (l.contains x))
theorem SetM.kept {w w' : World} {b : Nat} {l : List Int} {row : Option Nat} (h : SetM w b l) (hg : w.grownBy w' row) (hne : some b ≠ row) : SetM w' b l := by
  obtain ⟨D, h1, h2, h3⟩ := h
  exact ⟨D, h1.kept hg hne, h2, h3⟩
theorem SetM.lt {w : World} {b : Nat} {l : List Int} (h : SetM w b l) : b < w.heap.size := by obtain ⟨D, h1, _⟩ := h; exact h1.lt
theorem SetM.look {w : World} {b : Nat} {l : List Int} (h : SetM w b l) {x : Int} (hx : -9223372036854775808 ≤ x ∧ x ≤ 9223372036854775807) :
    (Instr.lookup 126 (.map (some b)) (.int .i64 x) false).run Try.prog w = .ok (.bool (l.contains x)) w := by
  obtain ⟨D, h1, h2, h3⟩ := h
  obtain ⟨v, ps, hrun, hv⟩ := h1.lookup key_int Try.underlying126 (zero_bool w) (plainElem_bool Try.underlying4 false) (keyOf_int_mk Try.underlying3 (wf_i64 hx))
  obtain ⟨c, rfl, hc⟩ := bool_inv Try.underlying4 hv
  simp only [Prod.mk.injEq] at hc
  have h4 : (DataW.lit (H := Unit) (.bool c)) = .lit (.bool (l.contains x)) := hc.1.symm.trans (h3 x (wf_i64 hx))
  have h5 : c = l.contains x := by
    generalize l.contains x = d at h4
    cases h4
    rfl
  rw [hrun, h5]
theorem SetM.put {w : World} {b : Nat} {l : List Int} (h : SetM w b l) {x : Int} (hx : -9223372036854775808 ≤ x ∧ x ≤ 9223372036854775807) (hl : l.length < maxLen) :
    ∃ w', (Instr.mapUpdate 126 (.map (some b)) (.int .i64 x) (.bool true)).run Try.prog w = .ok () w' ∧ SetM w' b (x :: l) ∧ w.grownBy w' (some b) := by
  obtain ⟨D, h1, h2, h3⟩ := h
  obtain ⟨w', hrun, hown, hg⟩ := h1.update key_int Try.underlying126 hl (keyOf_int_mk Try.underlying3 (wf_i64 hx)) (plainElem_bool Try.underlying4 true)
  refine ⟨w', hrun, ⟨_, hown, h2.put _ _, fun y hy => ?_⟩, hg⟩
  by_cases hxy : y = x
  · subst hxy
    rw [atKey_put_same h2 (by trivial)]
    simp
  · rw [atKey_put_other (by intro e; injection e with _ e; exact hxy e), h3 y hy]
    simp [hxy]
theorem run_made (w : World) : (Instr.mapUpdate 126 (.map (some w.heap.size)) (.int .i64 0) (.bool true)).run Try.prog (w.alloc (.map #[] 0)) = .ok () (w.alloc (.map #[⟨.int .i64 0, .bool true, 0⟩] 1)) :=
  run_update_new _ _ _ .i64 Try.underlying126 Try.underlying3 #[] 0 0 _ w rfl
theorem setm_new (w : World) : SetM (w.alloc (.map #[⟨.int .i64 0, .bool true, 0⟩] 1)) w.heap.size [0] := by
  have h0 : SetM (w.alloc (.map #[] 0)) w.heap.size [] := ⟨_, World.ownsMap_made _ _ _ _, isMap_empty, fun _ _ => rfl⟩
  obtain ⟨w', hrun, hs, _⟩ := h0.put (x := 0) (by omega) (by unfold maxLen; simp)
  rw [run_made] at hrun
  injection hrun with _ hrun
  rw [hrun]
  exact hs
end Go.Proofs.Ytbcbknajhdaneaa
