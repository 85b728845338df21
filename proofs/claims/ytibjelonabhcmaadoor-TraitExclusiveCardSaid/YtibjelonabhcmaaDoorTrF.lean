/- What is proved: relations as cells; contracts of slices.Clone at relations and at ids. -/
import Derived.Test.YtibjelonabhcmaaDoorTrE
namespace Go.Proofs.YtibjelonabhcmaaDoor
open Go.RowKit
set_option linter.unusedVariables false
set_option linter.unusedSimpArgs false
/-- a relation -/
structure Rel where
  i : Int
  a : Bool
  e : Bool
  w : Int
  t : Int
  r : Int
def relV (x : Rel) : Value := .agg #[.int .i64 x.i, .bool x.a, .bool x.e, .int .i64 x.w, .int .i64 x.t, .int .i64 x.r]
def relC (x : Rel) : List Value := [.int .i64 x.i, .bool x.a, .bool x.e, .int .i64 x.w, .int .i64 x.t, .int .i64 x.r]
def rels (l : List Rel) : List Value := l.flatMap relC
def ids (l : List Int) : List Value := l.map (Value.int .u64)
theorem own_slice {w : World} {base n : Nat} {e : TypeId} {size : Nat} {v : Value} {xs : List Value} (ho : w.ownsRow base e size v n xs) : ∃ A c, v = .slice A n c := by
  rcases ho.2 with ⟨rfl, rfl⟩ | ⟨g, cap, cur, rfl, _⟩
  · exact ⟨_, _, rfl⟩
  · exact ⟨_, _, rfl⟩
theorem own_grown_below {W w w' : World} {n : Nat} {e : TypeId} {size : Nat} {v : Value} {xs : List Value} (hb : Below W.heap.size W w) (ho : w.ownsRow W.heap.size e size v n xs) (hg : w.grownBy w' v.ownBlock) : Below W.heap.size W w' := by
  refine hb.grown hg hb.size fun k hk => ?_
  rcases ho.2 with ⟨rfl, _⟩ | ⟨g, cap, cur, rfl, h1, _⟩
  · simp [Value.ownBlock] at hk
  · simp [Value.ownBlock] at hk; omega
theorem rels_len (l : List Rel) : (rels l).length = l.length * 6 := by
  induction l with
  | nil => rfl
  | cons x l ih =>
    show (relC x ++ rels l).length = _
    rw [List.length_append, ih, List.length_cons]
    show 6 + l.length * 6 = _
    omega
theorem rels_at (l : List Rel) (k : Nat) (x : Rel) (h : l[k]? = some x) (j : Nat) (hj : j < 6) : (rels l)[k * 6 + j]? = (relC x)[j]? := by
  induction l generalizing k with
  | nil => simp at h
  | cons y l ih =>
    show (relC y ++ rels l)[k * 6 + j]? = _
    cases k with
    | zero =>
      simp at h; subst h
      rw [Nat.zero_mul, Nat.zero_add, List.getElem?_append_left (by show j < 6; exact hj)]
    | succ k =>
      rw [List.getElem?_append_right (by show 6 ≤ _; omega)]
      have e : (k + 1) * 6 + j - (relC y).length = k * 6 + j := by show (k + 1) * 6 + j - 6 = _; omega
      rw [e]
      exact ih k (by simpa using h)
theorem rels_one (l : List Rel) : ∀ u ∈ rels l, u.oneCell' = true := by
  intro u hu
  obtain ⟨x, _, hx⟩ := List.mem_flatMap.1 hu
  simp only [relC, List.mem_cons, List.not_mem_nil, or_false] at hx
  rcases hx with rfl | rfl | rfl | rfl | rfl | rfl <;> rfl
theorem ids_one (l : List Int) : ∀ u ∈ ids l, u.oneCell' = true := by
  intro u hu
  obtain ⟨x, _, rfl⟩ := List.mem_map.1 hu
  rfl
end Go.Proofs.YtibjelonabhcmaaDoor
