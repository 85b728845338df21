/- What is proved: the walk of the law IdentOrder. -/
import Derived.Test.YtdckcnikoichmaaDoorIdL
namespace Go.Proofs.YtdckcnikoichmaaDoor
open Go.RowKit
set_option linter.unusedVariables false
set_option linter.unusedSimpArgs false
theorem txt_beq (x y : Int) (hx : kd x ≠ 0) (hy : kd y ≠ 0) : (txt x == txt y) = (x == y) := by
  by_cases h : x = y
  · subst h; simp
  · have : (x == y) = false := by simpa using h
    rw [this]
    have h2 : txt x ≠ txt y := fun e => h (txt_inj hx hy e)
    simpa using h2
theorem ord_facts (x y : Int) (hx : kd x ≠ 0) (hy : kd y ≠ 0) (h : min (kd x) 3 = min (kd y) 3) :
    (decide (ra x < ra y) = true ∧ decide (x < y) = true ∧ (x == y) = false) ∨
    (decide (ra x < ra y) = false ∧ (ra x == ra y) = true ∧ decide (rb x < rb y) = true ∧ decide (x < y) = true ∧ (x == y) = false) ∨
    (decide (ra x < ra y) = false ∧ (ra x == ra y) = true ∧ decide (rb x < rb y) = false ∧ decide (x < y) = false ∧ (x == y) = true) ∨
    (decide (ra x < ra y) = false ∧ (ra x == ra y) = true ∧ decide (rb x < rb y) = false ∧ decide (x < y) = false ∧ (x == y) = false) ∨
    (decide (ra x < ra y) = false ∧ (ra x == ra y) = false ∧ decide (x < y) = false ∧ (x == y) = false) := by
  have h1 := lt_parts x y hx hy h
  by_cases e : x = y
  · subst e
    right; right; left
    exact ⟨by simp, by simp, by simp, by simp, by simp⟩
  · have e' : (x == y) = false := by simpa using e
    rw [e']
    by_cases a1 : ra x < ra y
    · left; exact ⟨decide_eq_true a1, decide_eq_true (h1.2 (.inl a1)), rfl⟩
    · by_cases a2 : ra x = ra y
      · by_cases a3 : rb x < rb y
        · right; left; exact ⟨decide_eq_false a1, by simpa using a2, decide_eq_true a3, decide_eq_true (h1.2 (.inr ⟨a2, a3⟩)), rfl⟩
        · right; right; right; left
          exact ⟨decide_eq_false a1, by simpa using a2, decide_eq_false a3, decide_eq_false (fun h' => by rcases h1.1 h' with h2 | h2; exact a1 h2; exact a3 h2.2), rfl⟩
      · right; right; right; right
        exact ⟨decide_eq_false a1, by simpa using a2, decide_eq_false (fun h' => by rcases h1.1 h' with h2 | h2; exact a1 h2; exact a2 h2.1), rfl⟩
theorem diff_facts (x y : Int) (hx : kd x ≠ 0) (hy : kd y ≠ 0) (h : min (kd x) 3 ≠ min (kd y) 3) :
    (x == y) = false ∧ ((decide (x < y) = true ∧ kd x < kd y) ∨ (decide (x < y) = false ∧ ¬ kd x < kd y)) := by
  have h1 := lt_kind x y hx hy h
  refine ⟨by simp; intro e; subst e; exact h rfl, ?_⟩
  by_cases e : x < y
  · left; exact ⟨decide_eq_true e, h1.1 e⟩
  · right; exact ⟨decide_eq_false e, fun h2 => e (h1.2 h2)⟩
abbrev KC (x k : Int) : Prop := ∀ w, Calls Tryd.prog 18 #[.int .u64 x] w fun e w' => e = .returned (.int .i64 k) ∧ Below w.heap.size w w'
abbrev TC (x : Int) (t : List UInt8) : Prop := ∀ w, Env w → Calls Tryd.prog 16 #[.int .u64 x] w fun e w' => e = .returned (.tuple #[.string ⟨t.toArray⟩, .int .i64 0]) ∧ Below w.heap.size w w'
abbrev PC (x a b : Int) : Prop := ∀ w, Calls Tryd.prog 14 #[.int .u64 x] w fun e w' => e = .returned (.tuple #[.int .i64 a, .int .i64 b]) ∧ Below w.heap.size w w'
def OrdSaid (x y : Int) (w : World) : Prop := Calls Tryd.prog 7 #[.int .u64 x, .int .u64 y] w fun e w' => e = .returned (.bool true) ∧ Below w.heap.size w w'
set_option maxRecDepth 100000 in
set_option maxHeartbeats 4000000 in
theorem ord_none (x y kx ky : Int) (w : World) (hE : Env w) (hbe : Below w.heap.size w w) (cX : KC x kx) (cY : KC y ky)
    (h : (kx == 0) = true ∨ ((kx == 0) = false ∧ (ky == 0) = true)) : OrdSaid x y w := by
  unfold OrdSaid
  rcases h with h1 | ⟨h1, h2⟩
  all_goals
    go_enter Tryd.func7, Tryd.ntmps7
    go_wp2_with (first
      | (go_at_call 8; refine (wakes_any _ (hE.below hbe)).mono ?_; rintro e w' ⟨rfl, hb1⟩; have hbe := hbe_tr hbe hb1)
      | (go_at_call 18; with_reducible refine (cX _).mono ?_; rintro e w' ⟨rfl, hb1⟩; have hbe := hbe_tr hbe hb1)
      | (go_at_call 18; with_reducible refine (cY _).mono ?_; rintro e w' ⟨rfl, hb1⟩; have hbe := hbe_tr hbe hb1)
      | fail)
    go_ret
    exact ⟨rfl, hbe⟩
def DIFF : List (Int × Int) := [(1, 2), (1, 3), (1, 4), (2, 1), (2, 3), (2, 4), (3, 1), (3, 2), (4, 1), (4, 2)]
set_option maxRecDepth 100000 in
set_option maxHeartbeats 8000000 in
theorem ord_diff (x y kx ky : Int) (tx ty : List UInt8) (w : World) (hE : Env w) (hbe : Below w.heap.size w w) (cX : KC x kx) (cY : KC y ky) (tX : TC x tx) (tY : TC y ty)
    (h : (kx, ky) ∈ DIFF) (ht : (tx == ty) = false) (hxy : (x == y) = false) (hl : decide (x < y) = decide (kx < ky)) : OrdSaid x y w := by
  unfold OrdSaid
  simp only [DIFF, List.mem_cons, List.not_mem_nil, Prod.mk.injEq, or_false] at h
  rcases h with ⟨rfl, rfl⟩ | ⟨rfl, rfl⟩ | ⟨rfl, rfl⟩ | ⟨rfl, rfl⟩ | ⟨rfl, rfl⟩ | ⟨rfl, rfl⟩ | ⟨rfl, rfl⟩ | ⟨rfl, rfl⟩ | ⟨rfl, rfl⟩ | ⟨rfl, rfl⟩
  all_goals
    simp only [Int.reduceLT, decide_true, decide_false] at hl
    go_enter Tryd.func7, Tryd.ntmps7
    go_wp2_with (first
      | (go_at_call 8; refine (wakes_any _ (hE.below hbe)).mono ?_; rintro e w' ⟨rfl, hb1⟩; have hbe := hbe_tr hbe hb1)
      | (go_at_call 18; with_reducible refine (cX _).mono ?_; rintro e w' ⟨rfl, hb1⟩; have hbe := hbe_tr hbe hb1)
      | (go_at_call 18; with_reducible refine (cY _).mono ?_; rintro e w' ⟨rfl, hb1⟩; have hbe := hbe_tr hbe hb1)
      | (go_at_call 16; with_reducible refine (tX _ (hE.below hbe)).mono ?_; rintro e w' ⟨rfl, hb1⟩; have hbe := hbe_tr hbe hb1)
      | (go_at_call 16; with_reducible refine (tY _ (hE.below hbe)).mono ?_; rintro e w' ⟨rfl, hb1⟩; have hbe := hbe_tr hbe hb1)
      | fail)
    go_ret
    exact ⟨rfl, hbe⟩
end Go.Proofs.YtdckcnikoichmaaDoor
