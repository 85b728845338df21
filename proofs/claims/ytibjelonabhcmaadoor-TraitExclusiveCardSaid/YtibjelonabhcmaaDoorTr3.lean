/- What is proved: contract of trait's Policy. -/
import Derived.Test.YtibjelonabhcmaaDoorTr2
namespace Go.Proofs.YtibjelonabhcmaaDoor
open Go.RowKit
set_option linter.unusedVariables false
set_option linter.unusedSimpArgs false
def polOf (n a b t r : Int) : Int := if ((n == b && t == 1) || (n == a && r == 1)) then 1 else if ((n == b && t == 2) || (n == a && r == 2)) then 2 else 0
def policyR (l : List Rel) (id n : Int) : Int × Bool :=
  if kd id = 3 ∧ (n = pa id ∨ n = pb id) then (match tfind l (pa id) with | some x => (polOf n (pa id) (pb id) x.t x.r, true) | none => (0, false)) else (0, false)
theorem traits_at {w4 w3 : World} {t : TypeId} {v0 v1 v2 v3 v4 : Value} (hb : Below (w4.alloc (.cells #[v0, v1, v2, v3, v4] t)).heap.size (w4.alloc (.cells #[v0, v1, v2, v3, v4] t)) w3) :
    w4.heap.size < w3.heap.size ∧ w3.cell? ⟨w4.heap.size, 1, none⟩ = some v1 ∧ w3.cell? ⟨w4.heap.size, 3, none⟩ = some v3 ∧ w3.cell? ⟨w4.heap.size, 4, none⟩ = some v4 := by
  have b := Blk.new w4 t #[v0, v1, v2, v3, v4]
  exact ⟨Nat.lt_of_lt_of_le b.lt hb.size, cell_below' hb (b.cell 1) b.lt, cell_below' hb (b.cell 3) b.lt, cell_below' hb (b.cell 4) b.lt⟩
theorem policy_ways (l : List Rel) (id n : Int) :
    ((kd id != 3) = true ∧ policyR l id n = (0, false)) ∨
    (kd id = 3 ∧ tfind l (pa id) = none ∧ policyR l id n = (0, false)) ∨
    (kd id = 3 ∧ (∃ x, tfind l (pa id) = some x) ∧ (n != pa id) = true ∧ (n != pb id) = true ∧ policyR l id n = (0, false)) ∨
    (kd id = 3 ∧ (∃ x, tfind l (pa id) = some x ∧ (0 ≤ x.t ∧ x.t ≤ 2) ∧ (0 ≤ x.r ∧ x.r ≤ 2) ∧ (n = pa id ∨ n = pb id) ∧ policyR l id n = (polOf n (pa id) (pb id) x.t x.r, true))) := by
  unfold policyR
  by_cases h3 : kd id = 3
  · right
    cases ht : tfind l (pa id) with
    | none => left; exact ⟨h3, rfl, by split <;> rfl⟩
    | some x =>
      right
      by_cases hn : n = pa id ∨ n = pb id
      · right
        have hs := okRel_spec (tfind_spec ht).2.2
        exact ⟨h3, x, rfl, hs.2.2.1, hs.2.2.2, hn, by rw [if_pos ⟨h3, hn⟩]⟩
      · left
        have h1 : ¬ n = pa id := fun h => hn (.inl h)
        have h2 : ¬ n = pb id := fun h => hn (.inr h)
        exact ⟨h3, ⟨x, rfl⟩, by simpa using h1, by simpa using h2, by rw [if_neg (fun h => hn h.2)]⟩
  · left; exact ⟨by simpa using h3, by rw [if_neg (fun h => h3 h.1)]⟩
set_option maxRecDepth 100000 in
set_option maxHeartbeats 8000000 in
theorem policy_no (A : Option Addr) (n c : Nat) (l : List Rel) (id v : Int) (w : World) (hE : Env w) (hR : Reads w w.heap.size 6 A n (rels l)) (hn : n ≤ 65536) (hid : Word id) (hno : policyR l id v = (0, false)) :
    Calls Tryd.prog 20 #[.slice A n c, .int .u64 id, .int .i64 v] w fun e w' => e = .returned (.tuple #[.int .i64 0, .bool false]) ∧ Below w.heap.size w w' := by
  have cf := fun (W : World) (h : Below w.heap.size w W) => tfind_any A n c l (pa id) W (hE.below h) ((hR.below h).more h.size) hn
  have cp := fun w => parts_any id hid w
  have ck := fun w => kind_any id hid w
  have hB := Below.refl w.heap.size w
  clear hR hE
  rcases policy_ways l id v with ⟨k1, k9⟩ | ⟨k1, k2, k9⟩ | ⟨k1, ⟨x, k2⟩, k3, k4, k9⟩ | ⟨k1, x, k2, k3, k4, k5, k9⟩
  · clear k9 hno
    have hsome : ∃ y : Option Rel, tfind l (pa id) = y := ⟨_, rfl⟩
    obtain ⟨y, hy⟩ := hsome
    rw [hy] at cf
    clear hy
    generalize pa id = pav at *
    generalize pb id = pbv at *
    cases y with
    | none =>
      unfold trOf trV at cf
      go_enter Tryd.func20, Tryd.ntmps20
      go_wp2_with (first
        | (go_at_call 49; (with_reducible refine (cp _).mono ?_); rintro en w2 ⟨rfl, hb2⟩; have hB := hB.trans (hb2.mono hB.size))
        | (go_at_call 27; (with_reducible refine (cf _ hB).mono ?_); rintro en w4 ⟨rfl, hb4⟩; have hB := hB.trans (hb4.mono hB.size); have hB1 := hB.alloc hB.size (Obj.cells #[.bool false, .bool false, .int .i64 0, .int .i64 0, .int .i64 0] 29))
        | (go_at_call 50; (with_reducible refine (ck _).mono ?_); rintro en w3 ⟨rfl, hb3⟩; have hB := hB1.trans (hb3.mono hB1.size))
        | fail)
      go_ret2
      exact ⟨rfl, hB⟩
    | some x =>
      unfold trOf trV at cf
      go_enter Tryd.func20, Tryd.ntmps20
      go_wp2_with (first
        | (go_at_call 49; (with_reducible refine (cp _).mono ?_); rintro en w2 ⟨rfl, hb2⟩; have hB := hB.trans (hb2.mono hB.size))
        | (go_at_call 27; (with_reducible refine (cf _ hB).mono ?_); rintro en w4 ⟨rfl, hb4⟩; have hB := hB.trans (hb4.mono hB.size); have hB1 := hB.alloc hB.size (Obj.cells #[.bool x.a, .bool x.e, .int .i64 x.w, .int .i64 x.t, .int .i64 x.r] 29))
        | (go_at_call 50; (with_reducible refine (ck _).mono ?_); rintro en w3 ⟨rfl, hb3⟩; have hB := hB1.trans (hb3.mono hB1.size))
        | fail)
      go_ret2
      exact ⟨rfl, hB⟩
  · rw [k2] at cf
    rw [k1] at ck
    clear k9 hno k1 k2
    generalize pa id = pav at *
    generalize pb id = pbv at *
    unfold trOf trV at cf
    go_enter Tryd.func20, Tryd.ntmps20
    go_wp2_with (first
        | (go_at_call 49; (with_reducible refine (cp _).mono ?_); rintro en w2 ⟨rfl, hb2⟩; have hB := hB.trans (hb2.mono hB.size))
        | (go_at_call 27; (with_reducible refine (cf _ hB).mono ?_); rintro en w4 ⟨rfl, hb4⟩; have hB := hB.trans (hb4.mono hB.size); have hB1 := hB.alloc hB.size (Obj.cells #[.bool false, .bool false, .int .i64 0, .int .i64 0, .int .i64 0] 29))
        | (go_at_call 50; (with_reducible refine (ck _).mono ?_); rintro en w3 ⟨rfl, hb3⟩; have hB := hB1.trans (hb3.mono hB1.size))
        | fail)
    go_ret2
    exact ⟨rfl, hB⟩
  · rw [k2] at cf
    rw [k1] at ck
    clear k9 hno k1 k2
    generalize pa id = pav at *
    generalize pb id = pbv at *
    unfold trOf trV at cf
    go_enter Tryd.func20, Tryd.ntmps20
    go_wp2_with (first
        | (go_at_call 49; (with_reducible refine (cp _).mono ?_); rintro en w2 ⟨rfl, hb2⟩; have hB := hB.trans (hb2.mono hB.size))
        | (go_at_call 27; (with_reducible refine (cf _ hB).mono ?_); rintro en w4 ⟨rfl, hb4⟩; have hB := hB.trans (hb4.mono hB.size); have hB1 := hB.alloc hB.size (Obj.cells #[.bool x.a, .bool x.e, .int .i64 x.w, .int .i64 x.t, .int .i64 x.r] 29))
        | (go_at_call 50; (with_reducible refine (ck _).mono ?_); rintro en w3 ⟨rfl, hb3⟩; have hB := hB1.trans (hb3.mono hB1.size))
        | fail)
    go_ret2
    exact ⟨rfl, hB⟩
  · rw [k9] at hno
    exact absurd (congrArg Prod.snd hno) (by simp)
set_option maxRecDepth 100000 in
set_option maxHeartbeats 8000000 in
theorem policy_yes (A : Option Addr) (n c : Nat) (l : List Rel) (id v : Int) (x : Rel) (w : World) (hE : Env w) (hR : Reads w w.heap.size 6 A n (rels l)) (hn : n ≤ 65536) (hid : Word id) (k1 : kd id = 3) (k2 : tfind l (pa id) = some x) (k3 : 0 ≤ x.t ∧ x.t ≤ 2) (k4 : 0 ≤ x.r ∧ x.r ≤ 2) (k5 : v = pa id ∨ v = pb id) :
    Calls Tryd.prog 20 #[.slice A n c, .int .u64 id, .int .i64 v] w fun e w' => e = .returned (.tuple #[.int .i64 (polOf v (pa id) (pb id) x.t x.r), .bool true]) ∧ Below w.heap.size w w' := by
  have cf := fun (W : World) (h : Below w.heap.size w W) => tfind_any A n c l (pa id) W (hE.below h) ((hR.below h).more h.size) hn
  have cp := fun w => parts_any id hid w
  have ck := fun w => kind_any id hid w
  have hB := Below.refl w.heap.size w
  rw [k2] at cf
  rw [k1] at ck
  clear hR hE k1 k2
  generalize pa id = pav at *
  generalize pb id = pbv at *
  dsimp only [trOf, trV, Option.isSome_some] at cf
  have hways : ((v == pav) = true ∧ (v == pbv) = false ∧ (x.r = 0 ∨ x.r = 1 ∨ x.r = 2)) ∨ ((v == pav) = false ∧ (v == pbv) = true ∧ (x.t = 0 ∨ x.t = 1 ∨ x.t = 2)) ∨
      ((v == pav) = true ∧ (v == pbv) = true ∧ (x.r = 0 ∨ x.r = 1 ∨ x.r = 2) ∧ (x.t = 0 ∨ x.t = 1 ∨ x.t = 2)) := by
    by_cases h1 : v = pav <;> by_cases h2 : v = pbv
    · exact .inr (.inr ⟨by simp [h1], by simp [h2], by omega, by omega⟩)
    · exact .inl ⟨by simp [h1], by simp [h2], by omega⟩
    · exact .inr (.inl ⟨by simp [h1], by simp [h2], by omega⟩)
    · rcases k5 with h | h
      · exact absurd h h1
      · exact absurd h h2
  clear k5 k3 k4
  rcases hways with ⟨h1, h2, h3 | h3 | h3⟩ | ⟨h1, h2, h3 | h3 | h3⟩ | ⟨h1, h2, h3 | h3 | h3, h4 | h4 | h4⟩
  all_goals
    have hres := Lib.hid (show polOf v pav pbv x.t x.r = _ from by unfold polOf; simp only [h1, h2, h3, Bool.true_and, Bool.false_and, Bool.or_false, Bool.false_or]; first | rw [h4] | rfl)
    rw [h3] at cf
    try rw [h4] at cf
    clear h3
    try clear h4
    first
      | (have e1 : v = pav := by simpa using h1
         have e2 : v = pbv := by simpa using h2
         subst e1
         subst e2
         clear h1 h2)
      | (have e1 : v = pav := by simpa using h1
         subst e1
         have h5 : (v != pbv) = true := by simpa using h2
         clear h1)
      | (have e2 : v = pbv := by simpa using h2
         subst e2
         have h5 : (v != pav) = true := by simpa using h1
         clear h2)
    go_enter Tryd.func20, Tryd.ntmps20
    go_wp2_with (first
        | (go_at_call 49; (with_reducible refine (cp _).mono ?_); rintro en w2 ⟨rfl, hb2⟩; have hB := hB.trans (hb2.mono hB.size))
        | (go_at_call 27; (with_reducible refine (cf _ hB).mono ?_); rintro en w4 ⟨rfl, hb4⟩; have hB := hB.trans (hb4.mono hB.size))
        | (go_at_call 50; (with_reducible refine (ck _).mono ?_); rintro en w3 ⟨rfl, hb3⟩; obtain ⟨q0, q1, q3, q4⟩ := traits_at hb3; have hB3 := (hB.alloc hB.size _).trans (hb3.mono (Nat.le_trans hB.size (by simp))))
        | fail)
    go_ret2
    exact ⟨by rw [hres.out] <;> rfl, hB3.alloc hB3.size _⟩
end Go.Proofs.YtibjelonabhcmaaDoor
