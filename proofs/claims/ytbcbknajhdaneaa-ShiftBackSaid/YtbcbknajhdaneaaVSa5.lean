/- What is proved: shift's both: the iterator over what both types have, for every loop body that keeps maps. -/
import Derived.Test.YtbcbknajhdaneaaVSa4
namespace Go.Proofs.Ytbcbknajhdaneaa
open Go.RowKit Go.Maps
set_option linter.unusedVariables false
set_option linter.unusedSimpArgs false
attribute [local go_sem] Oper.semAt_some
/-- what a loop body over both must keep -/
def KpM (n₀ : Nat) (W W' : World) : Prop := Below n₀ W W' ∧ KeepsWalks W W'
theorem kpM_t {n₀ : Nat} {A B C : World} (h : KpM n₀ A B) (k : KpM n₀ B C) : KpM n₀ A C := ⟨h.1.trans k.1, h.2.trans k.2⟩
theorem kpM_b {n₀ : Nat} {w : World} (hn : n₀ ≤ w.heap.size) (W : World) (l : Nat) (o o' : Obj) (hl : w.heap.size ≤ l) (h : W.heap[l]? = some o) (hc : o.isCells = false) (hw : o.isWalk = false) : KpM n₀ W (W.putObj l o') :=
  ⟨belowK_b hn W l o o' hl h hc hw, KeepsWalks.putObj _ h hw⟩
theorem IdxM.at_ {w w' : World} {b : Nat} {l : List Int} (h : IdxM w b l) (hk : KeepsWalks w w') : IdxM w' b l := by
  obtain ⟨D, ⟨es, clock, hb, F, G, rfl⟩, h2, h3⟩ := h
  exact ⟨_, ⟨es, clock, hk.same _ _ hb rfl, F, G, rfl⟩, h2, h3⟩
/-- the place of an id -/
def ixN (l : List Int) (a : Int) : Nat := (ixD l a).toNat
/-- a pair of places -/
abbrev PIn (A B : Nat) := { p : Nat × Nat // p.1 < A ∧ p.2 < B }
def encP {A B : Nat} (x : PIn A B) : Array Value := #[.int .i64 (x.1.1 : Int), .int .i64 (x.1.2 : Int)]
def pairAt (A B i k : Nat) : List (PIn A B) := if h : i < A ∧ k < B then [⟨(i, k), h⟩] else []
theorem pairAt_of {A B i k : Nat} (h : i < A ∧ k < B) : pairAt A B i k = [⟨(i, k), h⟩] := dif_pos h
theorem pairAt_le (A B i k : Nat) : (pairAt A B i k).length ≤ 1 := by
  unfold pairAt
  split <;> simp
def bothFrom (A B : Nat) (l : List Int) : Nat → List Int → List (PIn A B)
  | _, [] => []
  | k, a :: m => if l.contains a then pairAt A B (ixN l a) k ++ bothFrom A B l (k + 1) m else bothFrom A B l (k + 1) m
def bothL (A B : Nat) (l m : List Int) : List (PIn A B) := bothFrom A B l 0 m
theorem bothFrom_snoc (A B : Nat) (l : List Int) (a : Int) : ∀ (m : List Int) (b : Nat), bothFrom A B l b (m ++ [a]) = bothFrom A B l b m ++ (if l.contains a then pairAt A B (ixN l a) (b + m.length) else [])
  | [], b => by
    show (if l.contains a then pairAt A B (ixN l a) b ++ [] else []) = _
    simp [bothFrom]
  | x :: m, b => by
    have ih := bothFrom_snoc A B l a m (b + 1)
    have e : b + 1 + m.length = b + (m.length + 1) := by omega
    show (if l.contains x then pairAt A B (ixN l x) b ++ bothFrom A B l (b + 1) (m ++ [a]) else bothFrom A B l (b + 1) (m ++ [a])) = (if l.contains x then pairAt A B (ixN l x) b ++ bothFrom A B l (b + 1) m else bothFrom A B l (b + 1) m) ++ _
    rw [ih, List.length_cons, e]
    split <;> simp
theorem bothFrom_le (A B : Nat) (l : List Int) : ∀ (m : List Int) (b : Nat), (bothFrom A B l b m).length ≤ m.length
  | [], _ => Nat.le_refl _
  | x :: m, b => by
    have ih := bothFrom_le A B l m (b + 1)
    have h1 := pairAt_le A B (ixN l x) b
    unfold bothFrom
    split
    · rw [List.length_append, List.length_cons]; omega
    · simp only [List.length_cons]; omega
theorem bothL_snoc {A B : Nat} {l m : List Int} {k : Nat} {a : Int} (h : m[k]? = some a) : bothL A B l (m.take (k + 1)) = bothL A B l (m.take k) ++ (if l.contains a then pairAt A B (ixN l a) k else []) := by
  have hk := (List.getElem?_eq_some_iff.1 h).1
  unfold bothL
  rw [take_snoc h, bothFrom_snoc, List.length_take, Nat.min_eq_left (by omega), Nat.zero_add]
theorem bothFrom_pre (A B : Nat) (l : List Int) : ∀ (m m2 : List Int) (b : Nat), bothFrom A B l b m <+: bothFrom A B l b (m ++ m2)
  | [], _, _ => List.nil_prefix
  | x :: m, m2, b => by
    have ih := bothFrom_pre A B l m m2 (b + 1)
    show (if l.contains x then pairAt A B (ixN l x) b ++ bothFrom A B l (b + 1) m else bothFrom A B l (b + 1) m) <+: (if l.contains x then pairAt A B (ixN l x) b ++ bothFrom A B l (b + 1) (m ++ m2) else bothFrom A B l (b + 1) (m ++ m2))
    split
    · exact (List.prefix_append_right_inj _).2 ih
    · exact ih
theorem bothL_pre (A B : Nat) (l m : List Int) (k : Nat) : bothL A B l (m.take k) <+: bothL A B l m := by
  have h := bothFrom_pre A B l (m.take k) (m.drop k) 0
  rw [List.take_append_drop] at h
  exact h
theorem ixN_at {l : List Int} (hn : Inj l) {a : Int} (h : l.contains a = true) : l[ixN l a]? = some a := by
  have hm : a ∈ l := by simpa using h
  obtain ⟨j, hj⟩ := List.getElem?_of_mem hm
  have h2 := ixGo_at a l 0 j hj (fun i x hi hx => by subst hx; exact hn i j x hi hj)
  unfold ixN ixD
  rw [h2, Nat.zero_add, Int.toNat_natCast]
  exact hj
end Go.Proofs.Ytbcbknajhdaneaa
