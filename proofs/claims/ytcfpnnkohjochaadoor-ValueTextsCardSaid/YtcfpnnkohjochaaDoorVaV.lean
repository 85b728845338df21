/- What is proved: rows of values: copies of their rows; zeros that are read; the walk of the law ValueMay. -/
import Derived.Test.YtcfpnnkohjochaaDoorVaU
import Derived.Test.YtcfpnnkohjochaaDoorNest
namespace Go.Proofs.YtcfpnnkohjochaaDoor
open Go.RowKit
set_option linter.unusedVariables false
set_option linter.unusedSimpArgs false
theorem row_cell {w : World} {B n : Nat} {A : Option Addr} {xs : List Value} (h : Reads w B 1 A n xs) {k : Nat} {v : Value} (hk : xs[k]? = some v) :
    ∃ p off, A = some ⟨p, off, none⟩ ∧ p < B ∧ w.cell? ⟨p, off + k, none⟩ = some v := by
  have hkn : k < n := by have := (List.getElem?_eq_some_iff.1 hk).1; have := h.1; omega
  obtain ⟨ad, rfl, hb, hc⟩ := h.2 (by omega)
  have hc' := hc k v hk
  obtain ⟨u0, hu0⟩ : ∃ u0, xs[0]? = some u0 := ⟨_, List.getElem?_eq_getElem (by have := h.1; omega)⟩
  have hc0 := hc 0 u0 hu0
  obtain ⟨b, off, spot⟩ := ad
  have hspot : spot = none := by simpa [Addr.add] using World.cell?_spot hc0
  subst hspot
  exact ⟨b, off, rfl, hb, by rw [add_none] at hc'; exact hc'⟩
/-- a copy of the first eight, of any row -/
theorem own_w (A : Option Addr) (n c : Nat) (l : List Int) (w : World) (hR : Reads w w.heap.size 1 A n (ids l)) (hnc : n ≤ c) (hn : c ≤ maxLen) :
    Calls Tryd.prog 10 #[.slice A n c] w (OwnV (l.take 8) w) := by
  unfold maxLen at hn
  have hn1 : n ≤ 9223372036854775807 := by omega
  have hl : l.length = n := by have := hR.1; rw [ids_len] at this; omega
  have hr : Reads w w.heap.size 1 A (min (n : Int) 8).toNat (ids (l.take 8)) ∧ (min (n : Int) 8).toNat ≤ 8 := by
    rcases Nat.lt_or_ge 8 n with h | h
    · rw [show (min (n : Int) 8).toNat = 8 by omega]
      exact ⟨hR.pre1 (by omega), Nat.le_refl _⟩
    · rw [show (min (n : Int) 8).toNat = n by omega, List.take_of_length_le (by omega)]
      exact ⟨hR, h⟩
  have cc := clone_v A _ c (l.take 8) w hr.1 (by omega)
  clear hR hr hl
  go_enter Tryd.func10, Tryd.ntmps10
  go_wp2_with (first
    | (go_at_call 30; ((with_reducible refine cc.mono ?_); rintro e w1 ⟨v1, rfl, ho, hb⟩; have HO := Lib.hid ho; clear ho))
    | fail)
  go_ret
  exact ⟨_, rfl, HO.out, hb⟩
theorem own_a (x : RowA) {w : World} (h : RowOk .u64 w w.heap.size x) {l2 : List Int} {m : Nat} (hl : x.l.take 8 = l2) (hm : l2.length = m) :
    Calls Tryd.prog 10 #[.slice x.A x.n x.c] w (OwnM l2 m w) := by
  subst hl
  subst hm
  refine (own_w x.A x.n x.c x.l w h.1 h.2.1 h.2.2.1).mono ?_
  rintro e w' ⟨v, rfl, ho, hb⟩
  obtain ⟨A, c, rfl⟩ := own_slice ho
  exact ⟨A, c, rfl, ho, hb⟩
def ZeroR (m : Nat) (x : Int) (w : World) (e : Ending) (w' : World) : Prop := ∃ A c, e = .returned (.tuple #[.slice A m c, .int .i64 x]) ∧ Reads w' w'.heap.size 1 A m (ids (zerosL m)) ∧ Below w.heap.size w w'
theorem zero_ways2 (k : Int) : (k < 0 ∧ ∀ w, Calls Tryd.prog 20 #[.int .i64 k] w (ZeroR 0 2 w)) ∨ (0 ≤ k ∧ 4 < k ∧ ∀ w, Calls Tryd.prog 20 #[.int .i64 k] w (ZeroR 0 2 w)) ∨ (∃ m : Nat, k = m ∧ m ≤ 4 ∧ ∀ w, Calls Tryd.prog 20 #[.int .i64 k] w (ZeroR m 0 w)) := by
  have hl : ∀ k, (zerosL k).length = k := fun k => by unfold zerosL; simp
  rcases (show k < 0 ∨ (0 ≤ k ∧ 4 < k) ∨ (0 ≤ k ∧ k ≤ 4) from by omega) with h | ⟨h, h2⟩ | ⟨h, h2⟩
  · refine .inl ⟨h, fun w => (zero_v k w).mono ?_⟩
    rintro e w' ⟨v, rfl, ho, hb⟩
    rw [if_neg (by omega), hl] at ho
    rw [if_neg (by omega)]
    obtain ⟨A, c, rfl⟩ := own_slice ho
    exact ⟨A, c, rfl, Reads.of_own ho, hb⟩
  · refine .inr (.inl ⟨h, h2, fun w => (zero_v k w).mono ?_⟩)
    rintro e w' ⟨v, rfl, ho, hb⟩
    rw [if_neg (by omega), hl] at ho
    rw [if_neg (by omega)]
    obtain ⟨A, c, rfl⟩ := own_slice ho
    exact ⟨A, c, rfl, Reads.of_own ho, hb⟩
  · refine .inr (.inr ⟨k.toNat, by omega, by omega, fun w => (zero_v k w).mono ?_⟩)
    rintro e w' ⟨v, rfl, ho, hb⟩
    rw [if_pos ⟨h, h2⟩, hl] at ho
    rw [if_pos ⟨h, h2⟩]
    obtain ⟨A, c, rfl⟩ := own_slice ho
    exact ⟨A, c, rfl, Reads.of_own ho, hb⟩
theorem rzero_m (m : Nat) (hm : m ≤ 4) (w : World) : Calls Tryd.prog 29 #[.int .i64 m] w (OwnM (zerosL m) m w) := by
  have hl : (zerosL m).length = m := by unfold zerosL; simp
  refine (rzero_v m hm w).mono ?_
  rintro e w' ⟨v, rfl, ho, hb⟩
  rw [hl] at ho
  obtain ⟨A, c, rfl⟩ := own_slice ho
  exact ⟨A, c, rfl, ho, hb⟩
theorem nest_at {w : World} {B n : Nat} {A : Option Addr} {F : List RowA} (h : RV .u64 w B A n F) {k : Nat} (hk : k < n) : ∃ x p off, F[k]? = some x ∧ A = some ⟨p, off, none⟩ ∧ p < B ∧ w.cell? ⟨p, off + k, none⟩ = some (.slice x.A x.n x.c) ∧ RowOk .u64 w B x := by
  have hl : F.length = n := by have := h.1.1; rw [List.length_map] at this; omega
  have e1 := List.getElem?_eq_getElem (l := F) (i := k) (by omega)
  obtain ⟨p, off, h1, h2, h3⟩ := row_cell h.1 (k := k) (v := (F[k]'(by omega)).v) (by rw [List.getElem?_map, e1]; rfl)
  exact ⟨_, p, off, e1, h1, h2, h3, h.2 _ (List.mem_of_getElem? e1)⟩
end Go.Proofs.YtcfpnnkohjochaaDoor
