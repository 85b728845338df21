/- What is proved: contracts of slices.Clone at relations and of New, whose results are rows of the call's own. -/
import Derived.Test.YtibjelonabhcmaaDoorTrR
namespace Go.Proofs.YtibjelonabhcmaaDoor
open Go.RowKit
set_option linter.unusedVariables false
set_option linter.unusedSimpArgs false
/-- a row of relations of the call's own -/
def OwnR (l : List Rel) (w : World) (e : Ending) (w' : World) : Prop := ∃ v, e = .returned v ∧ w'.ownsRow w.heap.size 31 6 v l.length (rels l) ∧ Below w.heap.size w w'
set_option maxRecDepth 100000 in
set_option maxHeartbeats 1000000 in
theorem clone_own (A : Option Addr) (n c : Nat) (l : List Rel) (w : World) (hR : Reads w w.heap.size 6 A n (rels l)) (hn : n ≤ 65536) :
    Calls Tryd.prog 39 #[.slice A n c] w (OwnR l w) := by
  have qT : ∀ (w : World) (a : Option Addr) (n c n' c' : Nat), (binOp .eql 22 (.slice a n c) (.slice none n' c')).run Tryd.prog w = .ok (.bool a.isNone) w := fun w a n c n' c' => Lib.run_eql_slice_nil w _ _ a n c n' c' Tryd.underlying22
  obtain ⟨i0, hi0, hz0, hz1, hz2⟩ := info_parts info_rel
  have hl : l.length = n := by have := hR.1; rw [rels_len] at this; omega
  unfold OwnR
  rw [hl]
  cases A with
  | none =>
    have h0 : n = 0 := by
      rcases Nat.eq_zero_or_pos n with h0 | h0
      · exact h0
      · obtain ⟨ad, h, _⟩ := hR.2 h0
        cases h
    subst h0
    have hnil : rels l = [] := List.eq_nil_of_length_eq_zero (by simpa using hR.1)
    rw [hnil]
    clear hl hnil hR
    go_enter Tryd.func39, Tryd.ntmps39
    go_wp2
    go_ret
    exact ⟨_, rfl, World.ownsRow_nil _ _ _ _, Below.refl _ _⟩
  | some a =>
    go_enter Tryd.func39, Tryd.ntmps39
    go_wp2_with (first
        | (at_builtin
           refine wpList_append_any _ rfl (.tmp 5) (.tmp 6) _ rfl w.heap.size 31 i0 _ 6 40 Tryd.underlying22 hi0 hz0 hz1 hz2 rfl (by omega) _ 0 [] rfl
             ?_ w.heap.size (some a) n c (rels l) rfl ?_ (rels_one l) (by simp only [maxLen]; omega) (by omega) (by simp) ?_
           · exact World.ownsRow_lit _ _ _ (Nat.le_refl _) (by simp [maxLen]) rfl
           · exact hR.alloc (Nat.le_refl _) _
           intro v1 w1 hown1 hg1 hat1))
    have hb1 := own_grown_below ((Below.refl w.heap.size w).alloc (Nat.le_refl _) _) (World.ownsRow_lit (e := 31) (size := 6) w #[] 0 (Nat.le_refl _) (by simp [maxLen]) rfl) hg1
    rw [Nat.zero_add, List.nil_append] at hown1
    clear hg1 hat1
    go_wp2
    go_ret
    exact ⟨v1, rfl, hown1, hb1⟩
theorem tnew_own (w : World) (hE : Env w) : Calls Tryd.prog 14 #[] w (OwnR firstL w) := by
  have hc := clone_own (some ⟨0, 0, none⟩) 2 2 firstL w hE.reads (by omega)
  go_enter Tryd.func14, Tryd.ntmps14
  go_wp2_with fail
  refine hc.mono ?_
  rintro e w' ⟨v, rfl, ho, hb⟩
  go_wp2_with fail
  go_ret
  exact ⟨v, rfl, ho, hb⟩
theorem own_nil_or {w : World} {base n : Nat} {e : TypeId} {size : Nat} {v : Value} {xs : List Value} (ho : w.ownsRow base e size v n xs) (hn : 0 < n) :
    ∃ g c cur, v = .slice (some ⟨g, 0, none⟩) n c ∧ base ≤ g ∧ Blk w g e cur ∧ n ≤ c ∧ cur.size = c * size ∧ cur.toList.take (n * size) = xs := by
  rcases ho.2 with ⟨_, h0⟩ | ⟨g, cap, cur, rfl, h1, h2, h3, _, h4, h5⟩
  · omega
  · exact ⟨g, cap, cur, rfl, h1, h2, h3, h4, h5⟩
theorem bsGo_le (l : List Rel) (v : Int) (f lo hi : Nat) (h : lo ≤ hi) : bsGo l v f lo hi ≤ hi := by
  induction f generalizing lo hi with
  | zero => exact h
  | succ f ih =>
    by_cases h1 : lo < hi
    · rw [bsGo_step l v f lo hi h1]
      split
      · exact ih _ _ (by omega)
      · exact Nat.le_trans (ih _ _ (by omega)) (by omega)
    · rw [bsGo_end l v _ lo hi h1]; exact h
theorem bsAt_le (l : List Rel) (v : Int) : bsAt l v ≤ l.length := bsGo_le l v _ 0 _ (Nat.zero_le _)
end Go.Proofs.YtibjelonabhcmaaDoor
