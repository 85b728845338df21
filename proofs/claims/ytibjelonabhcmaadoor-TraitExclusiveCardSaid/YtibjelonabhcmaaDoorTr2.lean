/- What is proved: contracts of trait's Width and Policy. -/
import Derived.Test.YtibjelonabhcmaaDoorTr1
namespace Go.Proofs.YtibjelonabhcmaaDoor
open Go.RowKit
set_option linter.unusedVariables false
set_option linter.unusedSimpArgs false
theorem rowC_at {l : List Rel} {n k : Nat} {x : Rel} (h : rowC l n = true) (hk : k < n) (hx : l[k]? = some x) : okC l k x = true := by
  induction n with
  | zero => omega
  | succ n ih =>
    have h1 : rowC l n = true ∧ (match l[n]? with | some x => okC l n x | none => true) = true := by
      have : (rowC l n && (match l[n]? with | some x => okC l n x | none => true)) = true := h
      simpa using this
    rcases Nat.lt_or_ge k n with h2 | h2
    · exact ih h1.1 h2
    · have : k = n := by omega
      subst this
      have := h1.2
      rw [hx] at this
      exact this
theorem right_rel {l : List Rel} {k : Nat} {x : Rel} (h : right l = true) (hx : l[k]? = some x) : okRel x = true := by
  unfold right at h
  simp only [Bool.and_eq_true] at h
  have := rowC_at h.2 (List.getElem?_eq_some_iff.1 hx).1 hx
  unfold okC okAt at this
  simp only [Bool.and_eq_true] at this
  exact this.2.1
theorem mayE_zero {w t r : Int} (h : mayE w t r = 0) : (0 ≤ w ∧ w ≤ 4) ∧ (0 ≤ t ∧ t ≤ 2) ∧ (0 ≤ r ∧ r ≤ 2) := by
  unfold mayE ok2 at h
  split at h
  · omega
  · split at h
    · rename_i h1 h2; simp only [decide_eq_true_eq] at h2; omega
    · omega
theorem okRel_spec {x : Rel} (h : okRel x = true) : (1 ≤ x.i ∧ x.i ≤ 1048578) ∧ (0 ≤ x.w ∧ x.w ≤ 4) ∧ (0 ≤ x.t ∧ x.t ≤ 2) ∧ (0 ≤ x.r ∧ x.r ≤ 2) := by
  unfold okRel at h
  simp only [Bool.and_eq_true, decide_eq_true_eq, beq_iff_eq] at h
  exact ⟨h.1, mayE_zero h.2⟩
theorem tfind_spec {l : List Rel} {v : Int} {x : Rel} (h : tfind l v = some x) : right l = true ∧ x ∈ l ∧ okRel x = true := by
  unfold tfind at h
  cases h1 : (bsIn l v && right l)
  · rw [h1] at h; cases h
  · rw [h1] at h
    simp only [Bool.and_eq_true] at h1
    exact ⟨h1.2, List.mem_of_getElem? h, right_rel h1.2 h⟩
/-- widths that are 0 but for the second -/
def widC (v : Int) : Array Value := #[.int .i64 0, .int .i64 v, .int .i64 0, .int .i64 0, .int .i64 0, .int .i64 0, .int .i64 0, .int .i64 0, .int .i64 0, .int .i64 0, .int .i64 0, .int .i64 0, .int .i64 0, .int .i64 0, .int .i64 0, .int .i64 0, .int .i64 0, .int .i64 0, .int .i64 0, .int .i64 0, .int .i64 0, .int .i64 0, .int .i64 0, .int .i64 0]
def widAt (v : Int) (j : Nat) : Int := if j = 1 then v else 0
theorem widC_at (v : Int) (j : Nat) (h : j < 24) : (widC v)[j]? = some (.int .i64 (widAt v j)) := by
  have : j = 0 ∨ j = 1 ∨ j = 2 ∨ j = 3 ∨ j = 4 ∨ j = 5 ∨ j = 6 ∨ j = 7 ∨ j = 8 ∨ j = 9 ∨ j = 10 ∨ j = 11 ∨ j = 12 ∨ j = 13 ∨ j = 14 ∨ j = 15 ∨ j = 16 ∨ j = 17 ∨ j = 18 ∨ j = 19 ∨ j = 20 ∨ j = 21 ∨ j = 22 ∨ j = 23 := by omega
  rcases this with rfl | rfl | rfl | rfl | rfl | rfl | rfl | rfl | rfl | rfl | rfl | rfl | rfl | rfl | rfl | rfl | rfl | rfl | rfl | rfl | rfl | rfl | rfl | rfl <;> rfl
def widthR (l : List Rel) (v id : Int) : Int × Int :=
  if right l then (if kd id = 2 then (widAt v (pa id - 1).toNat, 0) else if kd id = 3 then (match tfind l (pa id) with | some x => (x.w, 0) | none => (0, 232)) else (0, 2)) else (0, 230)
theorem kd2_pa {id : Int} (h : kd id = 2) : 1 ≤ pa id ∧ pa id ≤ 24 := by
  have h1 : pa id = lo id := by unfold pa; rw [h]; rfl
  rw [h1]
  unfold kd at h
  split at h
  · omega
  · split at h
    · rename_i h2
      rw [tk2] at h2
      simp only [Bool.and_eq_true, inn1, decide_eq_true_eq] at h2
      exact h2.2
    · split at h
      · omega
      · split at h <;> omega
theorem width_ways (l : List Rel) (v id : Int) : (chkE l = 230 ∧ widthR l v id = (0, 230)) ∨ (chkE l = 0 ∧ kd id = 2 ∧ (∃ j : Nat, pa id = j + 1 ∧ j < 24 ∧ widthR l v id = (widAt v j, 0))) ∨
    (chkE l = 0 ∧ kd id = 3 ∧ tfind l (pa id) = none ∧ widthR l v id = (0, 232)) ∨ (chkE l = 0 ∧ kd id = 3 ∧ (∃ x, tfind l (pa id) = some x ∧ widthR l v id = (x.w, 0))) ∨
    (chkE l = 0 ∧ (kd id == 2) = false ∧ (kd id == 3) = false ∧ widthR l v id = (0, 2)) := by
  unfold widthR chkE
  cases right l
  · left; simp
  · right
    by_cases h2 : kd id = 2
    · left
      have := kd2_pa h2
      refine ⟨rfl, h2, (pa id - 1).toNat, by omega, by omega, by simp [h2]⟩
    · right
      by_cases h3 : kd id = 3
      · cases ht : tfind l (pa id) with
        | none => left; simp [h3]
        | some x => right; left; refine ⟨rfl, h3, x, rfl, by simp [h3]⟩
      · right; right; simp [h2, h3]
theorem widAt_bd (v : Int) (j : Nat) (h : 0 ≤ v ∧ v ≤ 4) : 0 ≤ widAt v j ∧ widAt v j ≤ 4 := by unfold widAt; split <;> omega
set_option maxRecDepth 100000 in
set_option maxHeartbeats 4000000 in
theorem width_any (A : Option Addr) (n c : Nat) (l : List Rel) (v id : Int) (w : World) (hE : Env w) (hR : Reads w w.heap.size 6 A n (rels l)) (hn : n ≤ 65536) (hv : 0 ≤ v ∧ v ≤ 4) (hid : Word id) :
    Calls Tryd.prog 21 #[.slice A n c, .agg (widC v), .int .u64 id] w fun e w' => e = .returned (.tuple #[.int .i64 (widthR l v id).1, .int .i64 (widthR l v id).2]) ∧ Below w.heap.size w w' := by
  obtain ⟨W0, hW0⟩ : ∃ W0, W0 = w.alloc (.cells (widC v) 46) := ⟨_, rfl⟩
  have bw : Blk W0 w.heap.size 46 (widC v) := by rw [hW0]; exact Blk.new _ _ _
  have hb0 : Below w.heap.size w W0 := by rw [hW0]; exact (Below.refl _ _).alloc (Nat.le_refl _) _
  have cc := fun (W : World) (h : Below W0.heap.size W0 W) => check_any A n c l W ((hE.below hb0).below h) ((((hR.below hb0).more hb0.size).below h).more h.size) hn
  have cf := fun (W : World) (h : Below W0.heap.size W0 W) => tfind_any A n c l (pa id) W ((hE.below hb0).below h) ((((hR.below hb0).more hb0.size).below h).more h.size) hn
  have cp := fun w => parts_any id hid w
  have ck := fun w => kind_any id hid w
  have hB := Below.refl W0.heap.size W0
  clear hR hE
  rcases width_ways l v id with ⟨k1, k9⟩ | ⟨k1, k2, j, k3, k4, k9⟩ | ⟨k1, k2, k3, k9⟩ | ⟨k1, k2, x, k3, k9⟩ | ⟨k1, k2, k3, k9⟩
  · rw [k9]
    rw [k1] at cc
    clear k1 k9 cf cp ck
    unfold widC at hW0 ⊢
    subst hW0
    go_enter Tryd.func21, Tryd.ntmps21
    go_wp2_with (first
      | (go_at_call 10; (with_reducible refine (cc _ hB).mono ?_); rintro en w1 ⟨rfl, hb1⟩; have hB := hB.trans (hb1.mono hB.size))
      | fail)
    go_ret2
    exact ⟨rfl, hb0.trans (hB.mono hb0.size)⟩
  · rw [k9]
    rw [k1] at cc
    rw [k2] at ck
    rw [k3] at cp
    have hcell := fun (W : World) (h : Below W0.heap.size W0 W) => cell_below' h ((bw.cell j).trans (widC_at v j k4)) bw.lt
    have hwb := widAt_bd v j hv
    obtain ⟨b1, b2⟩ := hwb
    have t1 : (j : Int) < 24 := by omega
    have HC := Lib.hid hcell
    clear k1 k2 k3 k9 cf hcell bw hv
    generalize widAt v j = q at *
    generalize pb id = pbv at *
    unfold widC at hW0 ⊢
    subst hW0
    go_enter Tryd.func21, Tryd.ntmps21
    go_wp2_with (first
      | (go_at_call 10; (with_reducible refine (cc _ hB).mono ?_); rintro en w1 ⟨rfl, hb1⟩; have hB := hB.trans (hb1.mono hB.size))
      | (go_at_call 49; (with_reducible refine (cp _).mono ?_); rintro en w2 ⟨rfl, hb2⟩; have hB := hB.trans (hb2.mono hB.size))
      | (go_at_call 50; (with_reducible refine (ck _).mono ?_); rintro en w3 ⟨rfl, hb3⟩; have hB := hB.trans (hb3.mono hB.size); have hq := HC.out _ hB)
      | fail)
    go_ret2
    exact ⟨rfl, hb0.trans (hB.mono hb0.size)⟩
  · rw [k9]
    rw [k1] at cc
    rw [k2] at ck
    rw [k3] at cf
    clear k1 k2 k3 k9 bw
    generalize pa id = pav at *
    generalize pb id = pbv at *
    unfold widC at hW0 ⊢
    unfold trOf trV at cf
    subst hW0
    go_enter Tryd.func21, Tryd.ntmps21
    go_wp2_with (first
      | (go_at_call 10; (with_reducible refine (cc _ hB).mono ?_); rintro en w1 ⟨rfl, hb1⟩; have hB := hB.trans (hb1.mono hB.size))
      | (go_at_call 49; (with_reducible refine (cp _).mono ?_); rintro en w2 ⟨rfl, hb2⟩; have hB := hB.trans (hb2.mono hB.size))
      | (go_at_call 50; (with_reducible refine (ck _).mono ?_); rintro en w3 ⟨rfl, hb3⟩; have hB := hB.trans (hb3.mono hB.size))
      | (go_at_call 27; (with_reducible refine (cf _ hB).mono ?_); rintro en w4 ⟨rfl, hb4⟩; have hB := hB.trans (hb4.mono hB.size))
      | fail)
    go_ret2
    exact ⟨rfl, hb0.trans ((hB.alloc hB.size _).mono hb0.size)⟩
  · rw [k9]
    rw [k1] at cc
    rw [k2] at ck
    rw [k3] at cf
    clear k1 k2 k3 k9 bw
    generalize pa id = pav at *
    generalize pb id = pbv at *
    unfold widC at hW0 ⊢
    unfold trOf trV at cf
    subst hW0
    go_enter Tryd.func21, Tryd.ntmps21
    go_wp2_with (first
      | (go_at_call 10; (with_reducible refine (cc _ hB).mono ?_); rintro en w1 ⟨rfl, hb1⟩; have hB := hB.trans (hb1.mono hB.size))
      | (go_at_call 49; (with_reducible refine (cp _).mono ?_); rintro en w2 ⟨rfl, hb2⟩; have hB := hB.trans (hb2.mono hB.size))
      | (go_at_call 50; (with_reducible refine (ck _).mono ?_); rintro en w3 ⟨rfl, hb3⟩; have hB := hB.trans (hb3.mono hB.size))
      | (go_at_call 27; (with_reducible refine (cf _ hB).mono ?_); rintro en w4 ⟨rfl, hb4⟩; have hB := hB.trans (hb4.mono hB.size))
      | fail)
    go_ret2
    exact ⟨rfl, hb0.trans ((hB.alloc hB.size _).mono hb0.size)⟩
  · rw [k9]
    rw [k1] at cc
    clear k1 k9 bw cf
    generalize pa id = pav at *
    generalize pb id = pbv at *
    unfold widC at hW0 ⊢
    subst hW0
    go_enter Tryd.func21, Tryd.ntmps21
    go_wp2_with (first
      | (go_at_call 10; (with_reducible refine (cc _ hB).mono ?_); rintro en w1 ⟨rfl, hb1⟩; have hB := hB.trans (hb1.mono hB.size))
      | (go_at_call 49; (with_reducible refine (cp _).mono ?_); rintro en w2 ⟨rfl, hb2⟩; have hB := hB.trans (hb2.mono hB.size))
      | (go_at_call 50; (with_reducible refine (ck _).mono ?_); rintro en w3 ⟨rfl, hb3⟩; have hB := hB.trans (hb3.mono hB.size))
      | fail)
    go_ret2
    exact ⟨rfl, hb0.trans (hB.mono hb0.size)⟩
end Go.Proofs.YtibjelonabhcmaaDoor
