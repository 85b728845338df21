/- What is proved: contracts of trait's Without and Find. -/
import Derived.Test.YtibjelonabhcmaaDoorTrU
namespace Go.Proofs.YtibjelonabhcmaaDoor
open Go.RowKit
set_option linter.unusedVariables false
set_option linter.unusedSimpArgs false
def withoutE (l : List Rel) (n : Int) : Int := if right l then (if n = 1 ∨ n = 2 then 2 else (if bsIn l n then 0 else 4)) else 230
def withoutL (l : List Rel) (n : Int) : List Rel := if withoutE l n = 0 then l.take (bsAt l n) ++ l.drop (bsAt l n + 1) else []
theorem without_ways (l : List Rel) (n : Int) :
    (chkE l = 230 ∧ withoutE l n = 230 ∧ withoutL l n = []) ∨
    (chkE l = 0 ∧ (n == 1) = true ∧ withoutE l n = 2 ∧ withoutL l n = []) ∨ (chkE l = 0 ∧ (n == 1) = false ∧ (n == 2) = true ∧ withoutE l n = 2 ∧ withoutL l n = []) ∨
    (chkE l = 0 ∧ (n == 1) = false ∧ (n == 2) = false ∧ bsIn l n = false ∧ withoutE l n = 4 ∧ withoutL l n = []) ∨
    (chkE l = 0 ∧ (n == 1) = false ∧ (n == 2) = false ∧ bsIn l n = true ∧ withoutE l n = 0 ∧ withoutL l n = l.take (bsAt l n) ++ l.drop (bsAt l n + 1)) := by
  unfold withoutL withoutE chkE
  cases h : right l
  · left; simp
  · by_cases h1 : n = 1
    · simp [h1]
    · by_cases h2 : n = 2
      · simp [h2]
      · have h3 : (n == 1) = false := by simp [h1]
        have h4 : (n == 2) = false := by simp [h2]
        cases h5 : bsIn l n <;> simp [h1, h2, h3, h4]
theorem bsIn_lt {l : List Rel} {v : Int} (h : bsIn l v = true) : bsAt l v < l.length := by
  unfold bsIn at h
  simp only [Bool.and_eq_true, decide_eq_true_eq] at h
  exact h.1
set_option maxRecDepth 100000 in
set_option maxHeartbeats 4000000 in
theorem without_any (A : Option Addr) (n c : Nat) (l : List Rel) (v : Int) (w : World) (hE : Env w) (hR : Reads w w.heap.size 6 A n (rels l)) (hn : n ≤ 65536) :
    Calls Tryd.prog 28 #[.slice A n c, .int .i64 v] w (OwnE (withoutL l v) (withoutE l v) w) := by
  have hl : l.length = n := by have := hR.1; rw [rels_len] at this; omega
  have cc := fun (W : World) (h : Below w.heap.size w W) => check_any A n c l W (hE.below h) ((hR.below h).more h.size) hn
  have cf := fun (W : World) (h : Below w.heap.size w W) => find_any A n c l v W ((hR.below h).more h.size) hn
  have co := fun (W : World) (h : Below w.heap.size w W) => clone_own A n c l W ((hR.below h).more h.size) hn
  have hB := Below.refl w.heap.size w
  clear hR hE
  rcases without_ways l v with ⟨k1, k8, k9⟩ | ⟨k1, k2, k8, k9⟩ | ⟨k1, k2, k3, k8, k9⟩ | ⟨k1, k2, k3, k4, k8, k9⟩ | ⟨k1, k2, k3, k4, k8, k9⟩
  case inr.inr.inr.inr =>
    have hi := bsIn_lt k4
    rw [k8, k9]
    clear k8 k9
    rw [k1] at cc
    rw [k4] at cf
    clear k1 k4
    generalize bsAt l v = i at cf hi ⊢
    have HL := Lib.hid hl
    have HI := Lib.hid hi
    have t1 : (i : Int) ≤ 65536 := by omega
    clear hl hi
    go_enter Tryd.func28, Tryd.ntmps28
    go_wp2_with (first
      | (go_at_call 52; (with_reducible refine (cf _ hB).mono ?_); rintro en w1 ⟨rfl, hb1⟩; have hB := hB.trans (hb1.mono hB.size))
      | (go_at_call 10; (with_reducible refine (cc _ hB).mono ?_); rintro en w2 ⟨rfl, hb2⟩; have hB := hB.trans (hb2.mono hB.size))
      | fail)
    refine (co _ hB).mono ?_
    rintro en w3 ⟨v3, rfl, ho, hb3⟩
    have hl := HL.out
    have hi := HI.out
    obtain ⟨hx, ⟨_, h0⟩ | ⟨g, cap, cur, rfl, h1, h2, h3, h4, h5, h6⟩⟩ := ho
    · omega
    have hd := delete_rel g l.length cap i cur (rels l) w3 h2 h3 h5 h6 (rels_one l) hi (by omega) (by unfold maxLen at h4; exact h4)
    have hB3 := hB.trans (hb3.mono hB.size)
    have hgB := Nat.le_trans hB.size h1
    have hfin : ∀ (w' : World) (cur' : Array Value), Blk w' g 31 cur' → cur'.size = cap * 6 → cur'.toList.take ((l.length - 1) * 6) = (rels l).take (i * 6) ++ (rels l).drop ((i + 1) * 6) → Below g w3 w' → OwnE (l.take i ++ l.drop (i + 1)) 0 w (.returned (.tuple #[.slice (some ⟨g, 0, none⟩) (l.length - 1) cap, .int .i64 0])) w' := by
      intro w' cur' q1 q2 q3 q4
      have e1 : (l.take i ++ l.drop (i + 1)).length = l.length - 1 := by rw [List.length_append, List.length_take, List.length_drop]; omega
      refine ⟨_, rfl, ⟨?_, .inr ⟨g, cap, cur', by rw [e1], hgB, q1, by omega, h4, q2, ?_⟩⟩, hB3.trans (q4.mono hgB)⟩
      · exact rels_len _
      · rw [e1, q3, rels_app, rels_take, rels_drop]
    clear h1 h2 h3 h5 h6 hx hb3
    have HD := Lib.hid hd
    have HFIN := Lib.hid hfin
    clear hd hfin hl hi hB cc cf co
    go_wp2_with fail
    rw [← HL.out]
    refine HD.out.mono ?_
    rintro en w4 ⟨cur', rfl, q1, q2, q3, q4⟩
    have hend := HFIN.out w4 cur' q1 q2 q3 q4
    clear HFIN q1 q2 q3 q4 HD HL HI
    go_wp2_with fail
    go_ret2
    exact hend
  all_goals
    have hend := fun (w' : World) (hb : Below w.heap.size w w') => OwnE.nil (x := withoutE l v) hb k9
    rw [k8] at hend ⊢
    clear k8 k9 co
    rw [k1] at cc
    clear k1
    try rw [k4] at cf
    try clear k4
    go_enter Tryd.func28, Tryd.ntmps28
    go_wp2_with (first
      | (go_at_call 52; (with_reducible refine (cf _ hB).mono ?_); rintro en w1 ⟨rfl, hb1⟩; have hB := hB.trans (hb1.mono hB.size))
      | (go_at_call 10; (with_reducible refine (cc _ hB).mono ?_); rintro en w2 ⟨rfl, hb2⟩; have hB := hB.trans (hb2.mono hB.size))
      | fail)
    go_ret2
    exact hend _ hB
def tfind (l : List Rel) (v : Int) : Option Rel := if bsIn l v && right l then l[bsAt l v]? else none
set_option maxRecDepth 100000 in
set_option maxHeartbeats 4000000 in
theorem tfind_any (A : Option Addr) (n c : Nat) (l : List Rel) (v : Int) (w : World) (hE : Env w) (hR : Reads w w.heap.size 6 A n (rels l)) (hn : n ≤ 65536) :
    Calls Tryd.prog 27 #[.slice A n c, .int .i64 v] w fun e w' => e = .returned (.tuple #[trOf (tfind l v), .bool (tfind l v).isSome]) ∧ Below w.heap.size w w' := by
  have hl : l.length = n := by have := hR.1; rw [rels_len] at this; omega
  have c31 : Tryd.prog.cellsOf 31 = 6 := by kernel_rfl
  obtain ⟨W0, hW0⟩ : ∃ W0, W0 = w.alloc (.cells #[.bool false, .bool false, .int .i64 0, .int .i64 0, .int .i64 0] 29) := ⟨_, rfl⟩
  have hb0 : Below w.heap.size w W0 := by rw [hW0]; exact (Below.refl _ _).alloc (Nat.le_refl _) _
  have hq0 : W0.heap[w.heap.size]? = some (.cells #[.bool false, .bool false, .int .i64 0, .int .i64 0, .int .i64 0] 29) := by rw [hW0]; exact Blk.new _ _ _
  have hlt0 : w.heap.size < W0.heap.size := (Array.getElem?_eq_some_iff.1 hq0).1
  have cf := fun (W : World) (h : Below W0.heap.size W0 W) => find_any A n c l v W (((hR.below hb0).more hb0.size |>.below h).more h.size) hn
  have cc := fun (W : World) (h : Below W0.heap.size W0 W) => check_any A n c l W ((hE.below hb0).below h) (((hR.below hb0).more hb0.size |>.below h).more h.size) hn
  have hfall : ∀ (W : World), Below W0.heap.size W0 W → (W.cell? ⟨w.heap.size, 0, none⟩ = some (.bool false) ∧ W.cell? ⟨w.heap.size, 1, none⟩ = some (.bool false) ∧ W.cell? ⟨w.heap.size, 2, none⟩ = some (.int .i64 0) ∧ W.cell? ⟨w.heap.size, 3, none⟩ = some (.int .i64 0) ∧ W.cell? ⟨w.heap.size, 4, none⟩ = some (.int .i64 0)) ∧
      (∀ i, W.frozen? ⟨w.heap.size, i, none⟩ = false) := fun W h => blk_cells5 ((h.block _ hlt0).trans hq0)
  have hB := Below.refl W0.heap.size W0
  have HFALL := Lib.hid hfall
  have H0 := Lib.hid hb0
  clear hfall hq0
  have hfin : ∀ (W : World), Below W0.heap.size W0 W → ∀ (a b x y z : Value), Below w.heap.size w (((((W.setCell ⟨w.heap.size, 0, none⟩ a).setCell ⟨w.heap.size, 1, none⟩ b).setCell ⟨w.heap.size, 2, none⟩ x).setCell ⟨w.heap.size, 3, none⟩ y).setCell ⟨w.heap.size, 4, none⟩ z) := fun W h a b x y z =>
    (((((H0.out.trans (h.mono H0.out.size)).setCell (p := ⟨w.heap.size, 0, none⟩) (Nat.le_refl _) _).setCell (p := ⟨w.heap.size, 1, none⟩) (Nat.le_refl _) _).setCell (p := ⟨w.heap.size, 2, none⟩) (Nat.le_refl _) _).setCell (p := ⟨w.heap.size, 3, none⟩) (Nat.le_refl _) _).setCell (p := ⟨w.heap.size, 4, none⟩) (Nat.le_refl _) _
  have HFIN := Lib.hid hfin
  clear hfin hE
  have key : (bsIn l v = false ∧ tfind l v = none) ∨ (bsIn l v = true ∧ chkE l = 230 ∧ tfind l v = none) ∨ (bsIn l v = true ∧ chkE l = 0 ∧ ∃ x, l[bsAt l v]? = some x ∧ tfind l v = some x) := by
    unfold tfind chkE
    cases h1 : bsIn l v
    · left; exact ⟨rfl, rfl⟩
    · cases h2 : right l
      · right; left; exact ⟨rfl, rfl, rfl⟩
      · right; right
        have hx := List.getElem?_eq_getElem (bsIn_lt h1)
        exact ⟨rfl, rfl, _, hx, hx⟩
  rcases key with ⟨k1, k9⟩ | ⟨k1, k2, k9⟩ | ⟨k1, k2, x, k3, k9⟩
  case inr.inr =>
    rw [k9]
    rw [k1] at cf
    rw [k2] at cc
    obtain ⟨b, off, rfl, hbl, g⟩ := rels_cells hR k3
    have hi := bsIn_lt k1
    have HG := Lib.hid (fun (W : World) (h : Below W0.heap.size W0 W) => (g.below H0.out hbl).below h (Nat.lt_of_lt_of_le hbl H0.out.size))
    clear k9 k1 k2 g hR k3
    generalize bsAt l v = i at cf hi HG
    rw [hl] at hi
    have t1 : (i : Int) < (n : Int) := by omega
    subst hW0
    go_enter Tryd.func27, Tryd.ntmps27
    go_wp2_with (first
      | (go_at_call 52; (with_reducible refine (cf _ hB).mono ?_); rintro en w1 ⟨rfl, hb1⟩; have hB := hB.trans (hb1.mono hB.size))
      | (go_at_call 10; (with_reducible refine (cc _ hB).mono ?_); rintro en w2 ⟨rfl, hb2⟩; have hB := hB.trans (hb2.mono hB.size); obtain ⟨g10, g11, g12, g13, g14, g15⟩ := HG.out _ hB; obtain ⟨⟨q0, q1, q2, q3, q4⟩, qf⟩ := HFALL.out _ hB; have qf0 := qf 0; have qf1 := qf 1; have qf2 := qf 2; have qf3 := qf 3; have qf4 := qf 4; clear qf)
      | fail)
    refine bodyPost_ret (v := .tuple #[.agg #[.bool x.a, .bool x.e, .int .i64 x.w, .int .i64 x.t, .int .i64 x.r], .bool true]) (by simp [results, Tryd.results27, go_sem, *]) rfl ⟨rfl, HFIN.out _ hB _ _ _ _ _⟩
  all_goals
    rw [k9]
    rw [k1] at cf
    try rw [k2] at cc
    clear k9 k1 hR
    try clear k2
    subst hW0
    go_enter Tryd.func27, Tryd.ntmps27
    go_wp2_with (first
      | (go_at_call 52; (with_reducible refine (cf _ hB).mono ?_); rintro en w1 ⟨rfl, hb1⟩; have hB := hB.trans (hb1.mono hB.size); obtain ⟨⟨q0, q1, q2, q3, q4⟩, qf⟩ := HFALL.out _ hB; have qf0 := qf 0; have qf1 := qf 1; have qf2 := qf 2; have qf3 := qf 3; have qf4 := qf 4; clear qf)
      | (go_at_call 10; (with_reducible refine (cc _ hB).mono ?_); rintro en w2 ⟨rfl, hb2⟩; have hB := hB.trans (hb2.mono hB.size); obtain ⟨⟨p0, p1, p2, p3, p4⟩, pf⟩ := HFALL.out _ hB; have pf0 := pf 0; have pf1 := pf 1; have pf2 := pf 2; have pf3 := pf 3; have pf4 := pf 4; clear pf)
      | fail)
    refine bodyPost_ret (v := .tuple #[.agg #[.bool false, .bool false, .int .i64 0, .int .i64 0, .int .i64 0], .bool false]) (by simp [results, Tryd.results27, go_sem, *]) rfl ⟨rfl, HFIN.out _ hB _ _ _ _ _⟩
end Go.Proofs.YtibjelonabhcmaaDoor
