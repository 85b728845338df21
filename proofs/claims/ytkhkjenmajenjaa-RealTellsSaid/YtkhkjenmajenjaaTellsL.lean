/- What is proved: the walk of RealTells itself. -/
import Derived.Test.YtkhkjenmajenjaaTellsW
namespace Go.Proofs.Ytkhkjenmajenjaa
open Go.RowKit
set_option linter.unusedVariables false
set_option maxRecDepth 100000 in
set_option maxHeartbeats 8000000 in
theorem realTells_any (A : Option Addr) (n c : Nat) (l : List Int) (A2 : Option Addr) (n2 c2 : Nat) (l2 : List Int) (w : World) (hR : Reads w w.heap.size 1 A n (u64s l)) (hc : n ≤ c) (hn : c * 8 ≤ 140737488351232) (hw : Words l)
    (hE : Reads w w.heap.size 1 A2 n2 (i64s l2)) (hn2 : n2 * 8 ≤ 140737488351232) :
    Calls Try.prog 6 #[.slice A n c, .slice A2 n2 c2] w fun e w' => e = .returned (.bool true) ∧ Below w.heap.size w w' := by
  go_enter Try.func6, Try.ntmps6
  go_wp2_with fail
  refine (wakes_any _).mono ?_
  rintro e w1 ⟨rfl, hb1⟩
  go_wp2_with fail
  have hR1 := (hR.below hb1).more hb1.size
  refine (few_any _ _ _ l _ hR1 hc (by omega)).mono ?_
  rintro e w2 ⟨A', c', ⟨rfl, hR2⟩, hb2⟩
  have hbb := hb1.trans (hb2.mono hb1.size)
  have hE2 := (hE.below hbb).more hbb.size
  clear hR1 hR hb1 hb2 hE
  have hw2 : Words (l.take 40) := fun x hx => hw x (List.mem_of_mem_take hx)
  clear hw
  generalize l.take 40 = l3 at *
  have hm : min n 40 ≤ 40 := Nat.min_le_right _ _
  generalize min n 40 = m at *
  go_wp2_with fail
  go_loop [30] (fun i => ∃ k : Nat, k ≤ m ∧ i = .int .i64 k)
    (fun i => m - (intOf i).toNat)
  case atStart => exact ⟨0, Nat.zero_le _, rfl⟩
  case round =>
    obtain ⟨k, hk, rfl⟩ := hrel
    by_cases hlt : k < m
    · obtain ⟨ad, u, hA, hbl, hu, hcell⟩ := hR2.at_ hlt
      obtain ⟨v, hv, rfl⟩ := u64s_get hu
      have hvw := words_get hw2 hv
      clear hu hv hR2
      subst hA
      obtain ⟨M1, M2⟩ := made_parts v hvw
      obtain ⟨m0, m1⟩ := mt_bd v
      have hmw : Word (mt v) := ⟨by omega, by omega⟩
      have hfin : ∀ (e : Int), k < n2 → Word (mv (sg v) e v) := fun e _ => mv_word _ _ _ hvw.1
      by_cases hk2 : k < n2
      · obtain ⟨ad2, u2, hA2, _, hu2, hcell2⟩ := hE2.at_ hk2
        obtain ⟨e, he, rfl⟩ := i64s_get hu2
        have hgw := hfin e hk2
        subst hA2
        clear hfin hu2 he hE2
        obtain ⟨v0, v1⟩ := id hvw
        rcases tells_next v hvw with ⟨c1, c2, c3⟩ | ⟨c1, c2, c3, c4⟩ | ⟨c1, c2, c3, c4⟩ <;> rcases exp_cases (sg v) e v hvw with ⟨d1, d2, d3⟩ | ⟨d1, d2, d3⟩ | ⟨d1, d1', d1'', d2, d3⟩ | ⟨d1, d1', d1'', d3, d4, d5, d6⟩
        all_goals
          go_wp2_with (first
            | (go_at_call 18; refine (parts_any _ (by assumption) _).mono ?_; rintro e w' ⟨rfl, rfl⟩)
            | (go_at_call 19; refine (rparts_any _ (by first | assumption | exact ⟨by decide, by decide⟩) _).mono ?_; rintro e w' ⟨rfl, rfl⟩)
            | (go_at_call 20; refine (made_any _ _ _ (by assumption) _).mono ?_; rintro e w' ⟨rfl, rfl⟩)
            | (go_at_call 12; refine (next_any _ (by assumption) _).mono ?_; rintro e w' ⟨rfl, rfl⟩)
            | (go_at_call 21; refine (rnext_any _ (by assumption) _).mono ?_; rintro e w' ⟨rfl, rfl⟩)
            | (go_at_call 22; refine (rclass_any _ (by assumption) _).mono ?_; rintro e w' ⟨rfl, rfl⟩)
            | (go_at_call 10; refine (class_any _ (by assumption) _).mono ?_; rintro e w' ⟨rfl, rfl⟩))
        go_ways
        all_goals
          go_round
          case rel => exact ⟨k + 1, by omega, by go_num⟩
          case measure => simp [intOf]; omega
      · clear hfin hE2
        rcases tells_next v hvw with ⟨c1, c2, c3⟩ | ⟨c1, c2, c3, c4⟩ | ⟨c1, c2, c3, c4⟩
        all_goals
          go_wp2_with (first
            | (go_at_call 18; refine (parts_any _ (by assumption) _).mono ?_; rintro e w' ⟨rfl, rfl⟩)
            | (go_at_call 19; refine (rparts_any _ (by assumption) _).mono ?_; rintro e w' ⟨rfl, rfl⟩)
            | (go_at_call 20; refine (made_any _ _ _ (by assumption) _).mono ?_; rintro e w' ⟨rfl, rfl⟩)
            | (go_at_call 12; refine (next_any _ (by assumption) _).mono ?_; rintro e w' ⟨rfl, rfl⟩)
            | (go_at_call 21; refine (rnext_any _ (by assumption) _).mono ?_; rintro e w' ⟨rfl, rfl⟩)
            | (go_at_call 22; refine (rclass_any _ (by assumption) _).mono ?_; rintro e w' ⟨rfl, rfl⟩)
            | (go_at_call 10; refine (class_any _ (by assumption) _).mono ?_; rintro e w' ⟨rfl, rfl⟩))
          go_round
          case rel => exact ⟨k + 1, by omega, by go_num⟩
          case measure => simp [intOf]; omega
    · go_wp2_with fail
      go_ret
      exact ⟨rfl, hbb⟩
theorem realTells_walk (A : Option Addr) (n c : Nat) (l : List Int) (hc : n ≤ c) (hn : c * 8 ≤ 140737488351232) (hw : ∀ x ∈ l, (Lit.int .u64 x).wf = true)
    (A2 : Option Addr) (n2 c2 : Nat) (l2 : List Int) (hc2 : n2 ≤ c2) (hn2 : c2 * 8 ≤ 140737488351232) (hw2 : ∀ x ∈ l2, (Lit.int .i64 x).wf = true) (w : World) (hR : Reads w w.heap.size 1 A n (l.map (Value.int .u64))) (hE : Reads w w.heap.size 1 A2 n2 (l2.map (Value.int .i64))) :
    Calls Try.prog 6 #[.slice A n c, .slice A2 n2 c2] w fun e w' => e = .returned (.bool true) ∧ Below w.heap.size w w' :=
  realTells_any A n c l A2 n2 c2 l2 w hR hc hn (fun x hx => word_of_wf (hw x hx)) hE (by omega)
end Go.Proofs.Ytkhkjenmajenjaa
