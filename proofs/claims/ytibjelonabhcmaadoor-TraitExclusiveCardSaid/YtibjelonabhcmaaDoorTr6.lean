/- What is proved: the law's wakes holds; few, as a row of one's own. -/
import Derived.Test.YtibjelonabhcmaaDoorTr5
namespace Go.Proofs.YtibjelonabhcmaaDoor
open Go.RowKit
set_option linter.unusedVariables false
set_option linter.unusedSimpArgs false
theorem own_cap {w : World} {base n : Nat} {e : TypeId} {size : Nat} {v : Value} {xs : List Value} (ho : w.ownsRow base e size v n xs) : ∃ A c, v = .slice A n c ∧ n ≤ c ∧ c ≤ 9223372036854775807 := by
  rcases ho.2 with ⟨rfl, rfl⟩ | ⟨g, cap, cur, rfl, _, _, h1, h2, _⟩
  · exact ⟨_, _, rfl, Nat.le_refl _, by omega⟩
  · exact ⟨_, _, rfl, h1, by unfold maxLen at h2; exact h2⟩
theorem few_own (A : Option Addr) (n c : Nat) (l : List Rel) (w : World) (hR : Reads w w.heap.size 6 A n (rels l)) (hnc : n ≤ c) (hn : c ≤ 281474976710656) :
    Calls Tryd.prog 9 #[.slice A n c] w (OwnR (l.take 201) w) := by
  have hl : l.length = n := by have := hR.1; rw [rels_len] at this; omega
  rcases Nat.lt_or_ge 201 n with h | h
  · have hc := clone_own A 201 c (l.take 201) w (hR.pre6 (by omega)) (by omega)
    clear hR
    go_enter Tryd.func9, Tryd.ntmps9
    go_wp2_with fail
    refine hc.mono ?_
    rintro e w' ⟨v, rfl, ho, hb⟩
    have hfin : OwnR (l.take 201) w (.returned v) w' := ⟨v, rfl, ho, hb⟩
    clear ho hc
    go_wp2_with fail
    go_ret
    exact hfin
  · have e : l.take 201 = l := List.take_of_length_le (by omega)
    have hc := clone_own A n c l w hR (by omega)
    rw [e]
    clear e hR
    go_enter Tryd.func9, Tryd.ntmps9
    go_wp2_with fail
    refine hc.mono ?_
    rintro e w' ⟨v, rfl, ho, hb⟩
    have hfin : OwnR l w (.returned v) w' := ⟨v, rfl, ho, hb⟩
    clear ho hc
    go_wp2_with fail
    go_ret
    exact hfin
theorem small_at {w : World} {B : Nat} {v : Value} (h : w.ownsRow B 31 6 v 3 (rels smallL)) : ∃ g c, v = .slice (some ⟨g, 0, none⟩) 3 c ∧ B ≤ g ∧
    (w.cell? ⟨g, 12, none⟩ = some (.int .i64 5) ∧ w.cell? ⟨g, 13, none⟩ = some (.bool false) ∧ w.cell? ⟨g, 14, none⟩ = some (.bool true) ∧ w.cell? ⟨g, 15, none⟩ = some (.int .i64 1) ∧ w.cell? ⟨g, 16, none⟩ = some (.int .i64 2) ∧ w.cell? ⟨g, 17, none⟩ = some (.int .i64 1)) := by
  obtain ⟨g, c, cur, rfl, hg, hb, _, _, ht⟩ := own_nil_or h (by omega)
  have at_ : ∀ j, j < 18 → w.cell? ⟨g, j, none⟩ = (rels smallL)[j]? := fun j hj => by
    rw [hb.cell, ← ht, List.getElem?_take, if_pos (by omega), ← Array.getElem?_toList]
  exact ⟨g, c, rfl, hg, at_ 12 (by omega), at_ 13 (by omega), at_ 14 (by omega), at_ 15 (by omega), at_ 16 (by omega), at_ 17 (by omega)⟩
theorem wk_with : withL firstL f5 = smallL ∧ withE firstL f5 = 0 := ⟨by kernel_rfl, by kernel_rfl⟩
theorem wk_find : tfind smallL 5 = some f5 := by kernel_rfl
def p59 : Int := 9223372036854775808 + 5 * 4294967296 + 9
def p55 : Int := 9223372036854775808 + 5 * 4294967296 + 5
def p57 : Int := 9223372036854775808 + 5 * 4294967296 + 7
def p67 : Int := 9223372036854775808 + 6 * 4294967296 + 7
def c2 : Int := 4611686018427387904 + 0 * 4294967296 + 2
theorem wk_kd : kd p59 = 3 ∧ kd p55 = 3 ∧ pa p59 = 5 ∧ pb p59 = 9 ∧ pa p55 = 5 ∧ pb p55 = 5 := by decide +kernel
theorem wk_width : widthR smallL 2 c2 = (2, 0) := by decide +kernel
theorem wk_pol1 : policyR smallL p59 9 = (2, true) := by decide +kernel
theorem wk_pol2 : policyR smallL p55 5 = (1, true) := by decide +kernel
theorem word57 : Word p57 := ⟨by decide, by decide⟩
theorem word67 : Word p67 := ⟨by decide, by decide⟩
theorem word59 : Word p59 := ⟨by decide, by decide⟩
theorem word55 : Word p55 := ⟨by decide, by decide⟩
theorem wordc2 : Word c2 := ⟨by decide, by decide⟩
def wkH : List WInt := [⟨p57, word57⟩, ⟨p67, word67⟩]
theorem wk_repl : replL smallL wkH p59 = [p57] := by decide +kernel
theorem wk_seq : relseq smallL smallL = true := by decide +kernel
end Go.Proofs.YtibjelonabhcmaaDoor
