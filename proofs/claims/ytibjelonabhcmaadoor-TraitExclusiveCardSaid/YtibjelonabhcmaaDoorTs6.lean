/- What is proved: contracts of slices.Index and Contains at ids; a prefix of a row of ids; which ids a law can be handed. -/
import Derived.Test.YtibjelonabhcmaaDoorTr4
namespace Go.Proofs.YtibjelonabhcmaaDoor
open Go.RowKit
set_option linter.unusedVariables false
set_option linter.unusedSimpArgs false
/-- where a number lies -/
def IdxP (l : List Int) (v : Int) (w : World) (e : Ending) (w' : World) : Prop := ∃ i : Int, e = .returned (.int .i64 i) ∧ decide (0 ≤ i) = decide (v ∈ l) ∧ w = w'
theorem index_id (A : Option Addr) (n c : Nat) (l : List Int) (v : Int) (w : World) (hR : Reads w w.heap.size 1 A n (ids l)) (hn : n ≤ 281474976710656) :
    Calls Tryd.prog 51 #[.slice A n c, .int .u64 v] w (IdxP l v w) := by
  have hl : l.length = n := by have := hR.1; rw [ids_len] at this; omega
  go_enter Tryd.func51, Tryd.ntmps51
  go_wp2_with fail
  go_loopw [8] (fun i wr => ∃ k : Nat, k ≤ n ∧ i = .int .i64 k ∧ v ∉ l.take k ∧ w = wr)
    (fun i _ => n - (intOf i).toNat)
  case atStart => exact ⟨0, Nat.zero_le _, rfl, by simp, rfl⟩
  case round =>
    obtain ⟨k, hk, rfl, hq, rfl⟩ := hrel
    by_cases hlt : k < n
    · have e1 := List.getElem?_eq_getElem (l := l) (i := k) (by omega)
      generalize l[k]'(by omega) = x at e1
      have D1 := take_snoc e1
      have hm := List.mem_of_getElem? e1
      obtain ⟨b, off, rfl, hbl, g⟩ := ids_cell hR e1
      have i1 : (k : Int) < (n : Int) := by omega
      cases hv : (v == x)
      · have HQ := Lib.hid (show v ∉ l.take (k + 1) from by
          rw [D1]
          intro h
          rcases List.mem_append.1 h with h | h
          · exact hq h
          · simp at h hv; exact hv h)
        clear hq D1 e1 hR hm
        go_wp2_with fail
        go_roundw
        case rel => exact ⟨k + 1, by omega, by go_num, HQ.out, by trivial⟩
        case measure => simp [intOf]; omega
      · have HQ := Lib.hid (show v ∈ l from by simp at hv; rw [hv]; exact hm)
        clear hq D1 e1 hR hm
        go_wp2_with fail
        try rw [Exit.noGoto_ret]
        go_ret
        exact ⟨_, rfl, by rw [decide_eq_true HQ.out]; exact decide_eq_true (by omega), rfl⟩
    · have e1 : l.take k = l := List.take_of_length_le (by omega)
      rw [e1] at hq
      have HQ := Lib.hid hq
      clear hq e1 hR
      go_wp2_with fail
      try rw [Exit.noGoto_ret]
      go_ret
      exact ⟨_, rfl, by rw [decide_eq_false HQ.out]; exact decide_eq_false (by omega), rfl⟩
theorem contains_id (A : Option Addr) (n c : Nat) (l : List Int) (v : Int) (w : World) (hR : Reads w w.heap.size 1 A n (ids l)) (hn : n ≤ 281474976710656) :
    Calls Tryd.prog 22 #[.slice A n c, .int .u64 v] w fun e w' => e = .returned (.bool (decide (v ∈ l))) ∧ w = w' := by
  have ci := index_id A n c l v w hR hn
  go_enter Tryd.func22, Tryd.ntmps22
  go_wp2_with (first
    | (go_at_call 51; (with_reducible refine ci.mono ?_); (rintro e w1 ⟨i, rfl, hi, rfl⟩))
    | fail)
  go_ret
  exact ⟨rfl, rfl⟩
theorem Reads.pre1 {w : World} {B n m : Nat} {A : Option Addr} {l : List Int} (h : Reads w B 1 A n (ids l)) (hm : m ≤ n) : Reads w B 1 A m (ids (l.take m)) := by
  have e : ids (l.take m) = (ids l).take m := by unfold ids; rw [List.map_take]
  rw [e]
  refine ⟨by rw [List.length_take, h.1]; omega, fun h0 => ?_⟩
  obtain ⟨ad, e, hb, hc⟩ := h.2 (by omega)
  refine ⟨ad, e, hb, fun j u hu => hc j u ?_⟩
  rw [List.getElem?_take] at hu
  split at hu
  · exact hu
  · cases hu
theorem wints : ∀ l : List Int, (∀ x ∈ l, Word x) → ∃ H : List WInt, vals H = l
  | [], _ => ⟨[], rfl⟩
  | x :: l, h => by
    obtain ⟨H, rfl⟩ := wints l (fun y hy => h y (List.mem_cons_of_mem _ hy))
    exact ⟨⟨x, h x (List.mem_cons_self ..)⟩ :: H, rfl⟩
theorem word_wf {a : Int} (h : (Lit.int .u64 a).wf = true) : Word a := by
  have hmin : IntKind.u64.min = 0 := rfl
  have hmax : IntKind.u64.max = 18446744073709551615 := rfl
  simp only [Lit.wf, Bool.and_eq_true, decide_eq_true_eq] at h
  rw [hmin, hmax] at h
  exact h
end Go.Proofs.YtibjelonabhcmaaDoor
