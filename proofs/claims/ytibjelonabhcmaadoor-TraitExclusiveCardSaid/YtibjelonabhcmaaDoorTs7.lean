/- What is proved: the law's TraitPolicies returns true. -/
import Derived.Test.YtibjelonabhcmaaDoorTs4
import Derived.Test.YtibjelonabhcmaaDoorTs6
namespace Go.Proofs.YtibjelonabhcmaaDoor
open Go.RowKit
set_option linter.unusedVariables false
set_option linter.unusedSimpArgs false
theorem ids_vals (ys : List WInt) : ids (vals ys) = ys.map (fun x : WInt => Value.int .u64 x.1) := by
  unfold ids vals
  rw [List.map_map]; rfl
theorem polOf_bd (n a b t r : Int) : 0 ≤ polOf n a b t r ∧ polOf n a b t r ≤ 2 := by
  unfold polOf
  split
  · omega
  · split <;> omega
theorem men_in {H : List WInt} {p : Int → Bool} {x : WInt} (ht : tyR (vals H) = true) (hx : x ∈ H) : decide (x.1 ∈ vals (sel H p)) = p x.1 := by
  unfold sel
  rw [if_pos ht]
  cases hp : p x.1
  · refine decide_eq_false fun h => ?_
    obtain ⟨y, hy, e⟩ := List.mem_map.1 h
    have := (List.mem_filter.1 hy).2
    have e : y.1 = x.1 := e
    have this : p y.1 = true := this
    rw [e, hp] at this; cases this
  · exact decide_eq_true (List.mem_map.2 ⟨x, List.mem_filter.2 ⟨hx, hp⟩, rfl⟩)
theorem pol_cases (L : List Rel) (H : List WInt) (idx : Int) (x : WInt) (hR : chkE L = 0) (ht : tyR (vals H) = true) (hx : x ∈ H) :
    (∃ y, kd x.1 = 3 ∧ tfind L (pa x.1) = some y ∧ (idx = pa x.1 ∨ idx = pb x.1) ∧ (0 ≤ y.t ∧ y.t ≤ 2) ∧ (0 ≤ y.r ∧ y.r ≤ 2) ∧ decide (x.1 ∈ vals (sel H (pq fun a b => a == idx || b == idx))) = true ∧ widthR L 0 x.1 = (y.w, 0)) ∨
    (policyR L x.1 idx = (0, false) ∧ (decide (x.1 ∈ vals (sel H (pq fun a b => a == idx || b == idx))) = false ∨ (decide (x.1 ∈ vals (sel H (pq fun a b => a == idx || b == idx))) = true ∧ widthR L 0 x.1 = (0, 232)))) := by
  rw [men_in ht hx]
  unfold pq
  rcases policy_ways L x.1 idx with ⟨k1, k9⟩ | ⟨k1, k2, k9⟩ | ⟨k1, ⟨y, k2⟩, k3, k4, k9⟩ | ⟨k1, y, k2, k3, k4, k5, k9⟩
  · right
    refine ⟨k9, .inl ?_⟩
    have : (kd x.1 == 3) = false := by simpa using k1
    rw [this]; rfl
  · right
    refine ⟨k9, ?_⟩
    have hw : widthR L 0 x.1 = (0, 232) := by
      rcases width_ways L 0 x.1 with ⟨a, b⟩ | ⟨a, b, c⟩ | ⟨a, b, c, d⟩ | ⟨a, b, z, c, d⟩ | ⟨a, b, c, d⟩
      · omega
      · omega
      · exact d
      · rw [k2] at c; cases c
      · rw [k1] at c; cases c
    cases (kd x.1 == 3 && (pa x.1 == idx || pb x.1 == idx))
    · exact .inl rfl
    · exact .inr ⟨rfl, hw⟩
  · right
    refine ⟨k9, .inl ?_⟩
    simp at k3 k4
    simp
    intro _
    omega
  · left
    refine ⟨y, k1, k2, k5, k3, k4, ?_, ?_⟩
    · rcases k5 with rfl | rfl <;> simp [k1]
    · rcases width_ways L 0 x.1 with ⟨a, b⟩ | ⟨a, b, c⟩ | ⟨a, b, c, d⟩ | ⟨a, b, z, c, d⟩ | ⟨a, b, c, d⟩
      · omega
      · omega
      · rw [k2] at c; cases c
      · rw [k2] at c; cases c; exact d
      · rw [k1] at c; cases c
/-- a copy of the first 14 ids -/
def HeldC (H : List WInt) (m : Nat) (w : World) (e : Ending) (w' : World) : Prop := ∃ A c, e = .returned (.slice A m c) ∧ Reads w' w'.heap.size 1 A m (ids (vals H)) ∧ Below w.heap.size w w'
theorem held_c {A : Option Addr} {m c : Nat} {H : List WInt} {w : World} (hR : Reads w w.heap.size 1 A m (ids (vals H))) (hm : m ≤ 14) :
    Calls Tryd.prog 17 #[.slice A m c] w (HeldC H m w) := by
  refine (clone_id A m c (vals H) w hR (by omega)).mono ?_
  rintro e w' ⟨A', c', ⟨rfl, hr⟩, hb⟩
  exact ⟨A', c', rfl, hr, hb⟩
/-- those that mention it -/
def MenC (ys : List WInt) (m : Nat) (w : World) (e : Ending) (w' : World) : Prop := ∃ A c, e = .returned (.slice A m c) ∧ Reads w' w'.heap.size 1 A m (ids (vals ys)) ∧ Below w.heap.size w w'
theorem men_c {A : Option Addr} {n c : Nat} {H : List WInt} {r : Int} {w : World} (hR : Reads w w.heap.size 1 A n (ids (vals H))) (hn : n ≤ 14) {ys : List WInt} {m : Nat} (hy : sel H (pq fun a b => a == r || b == r) = ys) (hm : ys.length = m) :
    Calls Tryd.prog 19 #[.slice A n c, .int .i64 r] w (MenC ys m w) := by
  refine (mentions_any A n c H r w hR (by omega)).mono ?_
  rw [hy]
  rintro e w' ⟨v, rfl, ho, hb⟩
  obtain ⟨A', c', rfl, _, _⟩ := own_cap ho
  subst hm
  exact ⟨A', c', rfl, by rw [ids_vals]; exact Reads.of_own ho, hb⟩
end Go.Proofs.YtibjelonabhcmaaDoor
