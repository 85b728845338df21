/- What is proved: contracts of slices.Equal at relations. -/
import Derived.Test.YtibjelonabhcmaaDoorTrN
namespace Go.Proofs.YtibjelonabhcmaaDoor
open Go.RowKit
set_option linter.unusedVariables false
set_option linter.unusedSimpArgs false
theorem add_none (b off m : Nat) : (⟨b, off, none⟩ : Addr).add m = ⟨b, off + m, none⟩ := by
  unfold Addr.add
  split
  · rename_i h; subst h; simp
  · rfl
/-- a relation's six cells -/
def Cells6 (w : World) (b o : Nat) (x : Rel) : Prop := w.cell? ⟨b, o, none⟩ = some (.int .i64 x.i) ∧ w.cell? ⟨b, o + 1, none⟩ = some (.bool x.a) ∧ w.cell? ⟨b, o + 2, none⟩ = some (.bool x.e) ∧
  w.cell? ⟨b, o + 3, none⟩ = some (.int .i64 x.w) ∧ w.cell? ⟨b, o + 4, none⟩ = some (.int .i64 x.t) ∧ w.cell? ⟨b, o + 5, none⟩ = some (.int .i64 x.r)
theorem rels_cells {w : World} {B n : Nat} {A : Option Addr} {l : List Rel} (h : Reads w B 6 A n (rels l)) {k : Nat} {x : Rel} (hk : l[k]? = some x) :
    ∃ b off, A = some ⟨b, off, none⟩ ∧ b < B ∧ Cells6 w b (off + k * 6) x := by
  have hn : k < n := by
    have h1 := h.1
    rw [rels_len] at h1
    have := (List.getElem?_eq_some_iff.1 hk).1
    omega
  obtain ⟨ad, rfl, hb, hc⟩ := h.2 (by omega)
  have at_ : ∀ j, j < 6 → ∀ u, (relC x)[j]? = some u → w.cell? (ad.add (k * 6 + j)) = some u := fun j hj u hu => hc _ u (by rw [rels_at l k x hk j hj]; exact hu)
  obtain ⟨b, off, spot⟩ := ad
  have hspot : spot = none := by
    have h0 := hc 0 (.int .i64 (l[0]'(by have := (List.getElem?_eq_some_iff.1 hk).1; omega)).i) (by
      have := rels_at l 0 _ (List.getElem?_eq_getElem (by have := (List.getElem?_eq_some_iff.1 hk).1; omega)) 0 (by omega)
      simpa [relC] using this)
    simpa [Addr.add] using World.cell?_spot h0
  subst hspot
  refine ⟨b, off, rfl, hb, ?_⟩
  unfold Cells6
  simp only [add_none] at at_
  exact ⟨at_ 0 (by omega) _ rfl, at_ 1 (by omega) _ rfl, at_ 2 (by omega) _ rfl, at_ 3 (by omega) _ rfl, at_ 4 (by omega) _ rfl, at_ 5 (by omega) _ rfl⟩
theorem Cells6.below {w w' : World} {B b o : Nat} {x : Rel} (h : Cells6 w b o x) (hb : Below B w w') (hB : b < B) : Cells6 w' b o x := by
  obtain ⟨h0, h1, h2, h3, h4, h5⟩ := h
  exact ⟨(hb.cell (p := ⟨b, _, none⟩) hB).trans h0, (hb.cell (p := ⟨b, _, none⟩) hB).trans h1, (hb.cell (p := ⟨b, _, none⟩) hB).trans h2, (hb.cell (p := ⟨b, _, none⟩) hB).trans h3, (hb.cell (p := ⟨b, _, none⟩) hB).trans h4, (hb.cell (p := ⟨b, _, none⟩) hB).trans h5⟩
def relseq : List Rel → List Rel → Bool
  | [], [] => true
  | x :: l, y :: m => releq x y && relseq l m
  | _, _ => false
theorem drop_cons {l : List Rel} {k : Nat} {x : Rel} (h : l[k]? = some x) : l.drop k = x :: l.drop (k + 1) := by
  obtain ⟨hk, e⟩ := List.getElem?_eq_some_iff.1 h
  rw [← List.getElem_cons_drop hk, e]
theorem relseq_len : ∀ (l m : List Rel), l.length ≠ m.length → relseq l m = false
  | [], [], h => absurd rfl h
  | [], y :: m, _ => rfl
  | x :: l, [], _ => rfl
  | x :: l, y :: m, h => by
    show (releq x y && relseq l m) = false
    rw [relseq_len l m (fun e => h (by simp [e]))]
    simp
set_option maxRecDepth 100000 in
set_option maxHeartbeats 2000000 in
theorem equal_rel (A : Option Addr) (n c : Nat) (l : List Rel) (A2 : Option Addr) (n2 c2 : Nat) (l2 : List Rel) (w : World) (hR : Reads w w.heap.size 6 A n (rels l)) (hR2 : Reads w w.heap.size 6 A2 n2 (rels l2)) (hn : n ≤ 65536) (hn2 : n2 ≤ 65536) :
    Calls Tryd.prog 15 #[.slice A n c, .slice A2 n2 c2] w fun e w' => e = .returned (.bool (relseq l l2)) ∧ Below w.heap.size w w' := by
  have hl : l.length = n := by have := hR.1; rw [rels_len] at this; omega
  have hl2 : l2.length = n2 := by have := hR2.1; rw [rels_len] at this; omega
  by_cases hnn : n = n2
  · subst hnn
    have c31 : Tryd.prog.cellsOf 31 = 6 := by kernel_rfl
    go_enter Tryd.func15, Tryd.ntmps15
    go_wp2_with fail
    go_loopw [13] (fun i wr => ∃ k : Nat, k ≤ n ∧ i = .int .i64 k ∧ relseq l l2 = relseq (l.drop k) (l2.drop k) ∧ Below w.heap.size w wr)
      (fun i _ => n - (intOf i).toNat)
    case atStart => exact ⟨0, Nat.zero_le _, rfl, rfl, Below.refl _ _⟩
    case round =>
      obtain ⟨k, hk, rfl, hq, hb⟩ := hrel
      by_cases hlt : k < n
      · have e1 := List.getElem?_eq_getElem (l := l) (i := k) (by omega)
        have e2 := List.getElem?_eq_getElem (l := l2) (i := k) (by omega)
        generalize l[k]'(by omega) = x at e1
        generalize l2[k]'(by omega) = y at e2
        have D1 := Lib.hid (drop_cons e1)
        have D2 := Lib.hid (drop_cons e2)
        obtain ⟨b, off, rfl, hbl, g⟩ := rels_cells hR e1
        obtain ⟨b2, off2, rfl, hbl2, g2⟩ := rels_cells hR2 e2
        obtain ⟨g10, g11, g12, g13, g14, g15⟩ := g.below hb hbl
        obtain ⟨g20, g21, g22, g23, g24, g25⟩ := g2.below hb hbl2
        have i1 : (k : Int) < (n : Int) := by omega
        have HQ := Lib.hid hq
        clear hq hR hR2 g g2 e1 e2
        have hN := fun w => run_neq_rel w x y
        unfold relV at hN
        cases hb3 : releq x y
        · rw [hb3] at hN
          have hf := Lib.hid (show relseq l l2 = false from by rw [HQ.out, D1.out, D2.out]; show (releq x y && _) = false; rw [hb3]; rfl)
          clear hb3
          go_wp2_with fail
          go_quiet (fail)
          go_wp2_with fail
          try rw [Exit.noGoto_ret]
          go_ret
          exact ⟨by rw [hf.out] <;> rfl, below_drewN' hb _⟩
        · rw [hb3] at hN
          have hf := Lib.hid (show relseq l l2 = relseq (l.drop (k + 1)) (l2.drop (k + 1)) from by rw [HQ.out, D1.out, D2.out]; show (releq x y && _) = _; rw [hb3]; rfl)
          clear hb3
          go_wp2_with fail
          go_quiet (fail)
          go_wp2_with fail
          go_roundw
          case rel => exact ⟨k + 1, by omega, by go_num, hf.out, below_drewN' hb _⟩
          case measure => simp [intOf]; omega
      · have e1 : l.drop k = [] := List.drop_of_length_le (by omega)
        have e2 : l2.drop k = [] := List.drop_of_length_le (by omega)
        rw [e1, e2] at hq
        have hf := Lib.hid (show relseq l l2 = true from hq)
        clear hq hR hR2 e1 e2
        go_wp2_with fail
        try rw [Exit.noGoto_ret]
        go_ret
        exact ⟨by rw [hf.out] <;> rfl, hb⟩
  · have hf := Lib.hid (relseq_len l l2 (by omega))
    have hne : ((n : Int) != (n2 : Int)) = true := by simp; omega
    clear hR hR2
    go_enter Tryd.func15, Tryd.ntmps15
    go_wp2_with fail
    go_ret
    exact ⟨by rw [hf.out] <;> rfl, Below.refl _ _⟩
end Go.Proofs.YtibjelonabhcmaaDoor
