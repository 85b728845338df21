/- What is proved: contract of trait's With. -/
import Derived.Test.YtibjelonabhcmaaDoorTrS
import Derived.Deep.RegionLawGrows
namespace Go.Proofs.YtibjelonabhcmaaDoor
open Go.RowKit
set_option linter.unusedVariables false
set_option linter.unusedSimpArgs false
def idxB (n : Int) : Bool := decide (1 ≤ n ∧ n ≤ 1048578)
def withE (l : List Rel) (r : Rel) : Int := if right l then (if mayE r.w r.t r.r = 0 then (if idxB r.i then (if bsIn l r.i then 5 else (if l.length = 200 then 6 else 0)) else 2) else mayE r.w r.t r.r) else 230
def withL (l : List Rel) (r : Rel) : List Rel := if withE l r = 0 then l.take (bsAt l r.i) ++ r :: l.drop (bsAt l r.i) else []
/-- a row of relations of the call's own, and an error -/
def OwnE (l : List Rel) (x : Int) (w : World) (e : Ending) (w' : World) : Prop := ∃ v, e = .returned (.tuple #[v, .int .i64 x]) ∧ w'.ownsRow w.heap.size 31 6 v l.length (rels l) ∧ Below w.heap.size w w'
theorem OwnE.nil {w w' : World} {x : Int} {l : List Rel} (h : Below w.heap.size w w') (hl : l = []) : OwnE l x w (.returned (.tuple #[.slice none 0 0, .int .i64 x])) w' := ⟨_, rfl, by subst hl; exact World.ownsRow_nil _ _ _ _, h⟩
theorem with_ways (l : List Rel) (r : Rel) (hl : l.length ≤ 65536) :
    (chkE l = 230 ∧ withE l r = 230 ∧ withL l r = []) ∨
    (chkE l = 0 ∧ mayE r.w r.t r.r = 2 ∧ withE l r = 2 ∧ withL l r = []) ∨ (chkE l = 0 ∧ mayE r.w r.t r.r = 231 ∧ withE l r = 231 ∧ withL l r = []) ∨
    (chkE l = 0 ∧ mayE r.w r.t r.r = 0 ∧ idxB r.i = false ∧ withE l r = 2 ∧ withL l r = []) ∨
    (chkE l = 0 ∧ mayE r.w r.t r.r = 0 ∧ idxB r.i = true ∧ bsIn l r.i = true ∧ withE l r = 5 ∧ withL l r = []) ∨
    (chkE l = 0 ∧ mayE r.w r.t r.r = 0 ∧ idxB r.i = true ∧ bsIn l r.i = false ∧ ((l.length : Int) == 200) = true ∧ withE l r = 6 ∧ withL l r = []) ∨
    (chkE l = 0 ∧ mayE r.w r.t r.r = 0 ∧ idxB r.i = true ∧ bsIn l r.i = false ∧ ((l.length : Int) == 200) = false ∧ (2 ≤ l.length ∧ l.length ≤ 199) ∧ withE l r = 0 ∧ withL l r = l.take (bsAt l r.i) ++ r :: l.drop (bsAt l r.i)) := by
  unfold withL withE chkE
  cases h : right l
  · left; simp
  · have hr : 2 ≤ l.length ∧ l.length ≤ 200 := by
      unfold right at h
      simp only [Bool.and_eq_true, decide_eq_true_eq] at h
      exact h.1
    rcases mayE_cases r.w r.t r.r with h2 | h2 | h2
    · cases h3 : idxB r.i
      · simp [h2]
      · cases h4 : bsIn l r.i
        · by_cases h5 : l.length = 200
          · simp [h2, h5]
          · right; right; right; right; right; right
            have h6 : ((l.length : Int) == 200) = false := by simp; omega
            simp [h2, h5, h6]; omega
        · simp [h2]
    · simp [h2]
    · simp [h2]
theorem take_reads {w : World} {b off n : Nat} {l : List Rel} {i : Nat} (hR : Reads w w.heap.size 6 (some ⟨b, off, none⟩) n (rels l)) (hi : i ≤ n) : ∀ j u, (rels (l.take i))[j]? = some u → w.cell? ((⟨b, off, none⟩ : Addr).add j) = some u := by
  intro j u hu
  rcases Nat.eq_zero_or_pos n with h0 | h0
  · have hl := hR.1
    rw [h0, Nat.zero_mul] at hl
    have : rels l = [] := List.eq_nil_of_length_eq_zero hl
    rw [rels_take, this] at hu
    simp at hu
  · obtain ⟨ad, e, _, hc⟩ := hR.2 h0
    injection e with e
    subst e
    refine hc j u ?_
    rw [rels_take, List.getElem?_take] at hu
    split at hu
    · exact hu
    · cases hu
theorem rels_drop (l : List Rel) (i : Nat) : rels (l.drop i) = (rels l).drop (i * 6) := by
  induction l generalizing i with
  | nil => simp [rels]
  | cons x l ih =>
    cases i with
    | zero => simp
    | succ i =>
      show rels (l.drop i) = (relC x ++ rels l).drop ((i + 1) * 6)
      rw [ih, List.drop_append]
      have e1 : (relC x).drop ((i + 1) * 6) = [] := List.drop_of_length_le (by show 6 ≤ _; omega)
      have e2 : (i + 1) * 6 - (relC x).length = i * 6 := by show (i + 1) * 6 - 6 = _; omega
      rw [e1, e2, List.nil_append]
theorem rels_app (l m : List Rel) : rels (l ++ m) = rels l ++ rels m := by unfold rels; rw [List.flatMap_append]
theorem relC_one (x : Rel) : ∀ u ∈ relC x, u.oneCell' = true := by
  intro u hu
  simp only [relC, List.mem_cons, List.not_mem_nil, or_false] at hu
  rcases hu with rfl | rfl | rfl | rfl | rfl | rfl <;> rfl
/-- what is held while the row is made: the row, and the relation's box -/
def WHold (W w : World) (A : Option Addr) (n bx : Nat) (l : List Rel) (r : Rel) : Prop :=
  (w.cell? ⟨bx, 0, none⟩ = some (.int .i64 r.i) ∧ w.cell? ⟨bx, 1, none⟩ = some (.bool r.a) ∧ w.cell? ⟨bx, 2, none⟩ = some (.bool r.e) ∧ w.cell? ⟨bx, 3, none⟩ = some (.int .i64 r.w) ∧ w.cell? ⟨bx, 4, none⟩ = some (.int .i64 r.t) ∧ w.cell? ⟨bx, 5, none⟩ = some (.int .i64 r.r)) ∧
  bx < w.heap.size ∧ Reads w w.heap.size 6 A n (rels l) ∧ Below W.heap.size W w
theorem WHold.keep {W w w' : World} {A : Option Addr} {n bx : Nat} {l : List Rel} {r : Rel} (h : WHold W w A n bx l r) (hb : Below w.heap.size w w') : WHold W w' A n bx l r := by
  obtain ⟨⟨x0, x1, x2, x3, x4, x5⟩, hl, hR, hB⟩ := h
  exact ⟨⟨cell_below' hb x0 hl, cell_below' hb x1 hl, cell_below' hb x2 hl, cell_below' hb x3 hl, cell_below' hb x4 hl, cell_below' hb x5 hl⟩, Nat.lt_of_lt_of_le hl hb.size, (hR.below hb).more hb.size, hB.trans (hb.mono hB.size)⟩
theorem grown_below {w w' : World} (h : w.grownBy w' none) : Below w.heap.size w w' := ⟨h.os, h.tape, h.output, h.size, fun i hi => h.block i hi (by simp)⟩
theorem base_le {w : World} {B B' n : Nat} {e : TypeId} {size : Nat} {v : Value} {xs : List Value} (h : w.ownsRow B e size v n xs) (hB : B' ≤ B) : w.ownsRow B' e size v n xs :=
  ⟨h.1, h.2.imp id fun ⟨g, cap, cur, h1, h2, h3⟩ => ⟨g, cap, cur, h1, Nat.le_trans hB h2, h3⟩⟩
theorem own_with {w : World} {B B' n i : Nat} {v : Value} {l : List Rel} {r : Rel} (hl : l.length = n) (hi : i ≤ n) {m : Nat} (hm : m = n - i) (h : w.ownsRow B 31 6 v (i + 1 + m) ((rels (l.take i) ++ relC r) ++ rels (l.drop i))) (hB : B' ≤ B) :
    w.ownsRow B' 31 6 v (l.take i ++ r :: l.drop i).length (rels (l.take i ++ r :: l.drop i)) := by
  have e1 : (l.take i ++ r :: l.drop i).length = i + 1 + m := by
    rw [List.length_append, List.length_take, List.length_cons, List.length_drop]; omega
  have e2 : rels (l.take i ++ r :: l.drop i) = (rels (l.take i) ++ relC r) ++ rels (l.drop i) := by
    rw [rels_app]
    show rels (l.take i) ++ (relC r ++ rels (l.drop i)) = _
    rw [List.append_assoc]
  rw [e1, e2]
  exact base_le h hB
set_option maxRecDepth 100000 in
set_option maxHeartbeats 4000000 in
theorem with_lt (b off n c i : Nat) (l : List Rel) (r : Rel) (w : World) (hE : Env w) (hR : Reads w w.heap.size 6 (some ⟨b, off, none⟩) n (rels l)) (hnc : n ≤ c) (hn : n ≤ 199) (hn2 : 2 ≤ n) (hc : c ≤ 9223372036854775807) (hi : i ≤ n) (hic : i < c)
    (k1 : chkE l = 0) (k2 : mayE r.w r.t r.r = 0) (k3 : idxB r.i = true) (k4 : bsIn l r.i = false) (k5 : bsAt l r.i = i) :
    Calls Tryd.prog 23 #[.slice (some ⟨b, off, none⟩) n c, relV r] w (OwnE (l.take i ++ r :: l.drop i) 0 w) := by
  have hl : l.length = n := by have := hR.1; rw [rels_len] at this; omega
  have c31 : Tryd.prog.cellsOf 31 = 6 := by kernel_rfl
  obtain ⟨i0, hi0, hz0, hz1, hz2⟩ := info_parts info_rel
  obtain ⟨W0, hW0⟩ : ∃ W0, W0 = w.alloc (Obj.cells #[.int .i64 r.i, .bool r.a, .bool r.e, .int .i64 r.w, .int .i64 r.t, .int .i64 r.r] 31) := ⟨_, rfl⟩
  obtain ⟨hb0, hsz, c0, c1, c2, c3, c4, c5⟩ := new6 hW0
  have hH : WHold w W0 (some ⟨b, off, none⟩) n w.heap.size l r := ⟨⟨c0, c1, c2, c3, c4, c5⟩, hsz, (hR.below hb0).more hb0.size, hb0⟩
  have cc := fun (W : World) (h : WHold w W (some ⟨b, off, none⟩) n w.heap.size l r) => check_any (some ⟨b, off, none⟩) n c l W (hE.below h.2.2.2) h.2.2.1 (by omega)
  have cm := fun (W : World) => may_any r.a r.e r.w r.t r.r W
  have cf := fun (W : World) (h : WHold w W (some ⟨b, off, none⟩) n w.heap.size l r) => find_any (some ⟨b, off, none⟩) n c l r.i W h.2.2.1 (by omega)
  have ci := fun (W : World) => idx_any r.i W
  have hlo : (rels (l.take i)).length = i * 6 := by rw [rels_len, List.length_take]; omega
  have hsrc : ∀ (W : World), Reads W W.heap.size 6 (some ⟨b, off, none⟩) n (rels l) → Reads W W.heap.size 6 (some ⟨b, off + i * 6, none⟩) (n - i) (rels (l.drop i)) := fun W h => by
    have := h.cut (k := i) (cap := c) hi hnc
    rw [if_neg (by omega), ← rels_drop] at this
    simpa only [Option.map_some, add_none] using this
  have ts1 : (i : Int) < (c : Int) := by omega
  have ts2 : i < c := hic
  have ts3 : (i : Int) ≤ (n : Int) := by omega
  have ts4 : (i : Int) ≤ (c : Int) := by omega
  have ts5 : (((n : Nat) : Int) == 200) = false := by simp; omega
  unfold trV at cm
  unfold relV
  unfold idxB at k3
  rw [k1] at cc
  rw [k2] at cm
  rw [k3] at ci
  rw [k4, k5] at cf
  subst hW0
  clear hR hE c0 c1 c2 c3 c4 c5 hb0 hsz k1 k2 k3 k4 k5
  have HH := hH
  clear hH
  obtain ⟨x0, x1, x2, x3, x4, x5⟩ := HH.1
  have HL := Lib.hid hl
  have HI := hi
  have HLO := Lib.hid hlo
  have HS := Lib.hid hsrc
  clear hl hlo hsrc
  go_enter Tryd.func23, Tryd.ntmps23
  go_wp2_with (first
      | (go_at_call 10; (with_reducible refine (cc _ HH).mono ?_); rintro en w1 ⟨rfl, hb1⟩; have HH := HH.keep hb1; obtain ⟨y0, y1, y2, y3, y4, y5⟩ := HH.1)
      | (go_at_call 12; (with_reducible refine (cm _).mono ?_); rintro en w2 ⟨rfl, hb2⟩; have HH := HH.keep hb2; obtain ⟨z0, z1, z2, z3, z4, z5⟩ := HH.1)
      | (go_at_call 52; (with_reducible refine (cf _ HH).mono ?_); rintro en w3 ⟨rfl, hb3⟩; have HH := HH.keep hb3; obtain ⟨u0, u1, u2, u3, u4, u5⟩ := HH.1)
      | (go_at_call 42; (with_reducible refine (ci _).mono ?_); rintro en w4 ⟨rfl, rfl⟩)
      | fail)
  have hlo := HLO.out
  have hsrc := HS.out
  clear HLO HS
  refine wp_region_held_drew (S := fun w' => WHold w w' (some ⟨b, off, none⟩) n w.heap.size l r) (by kernel_rfl) (HH.keep ((Below.refl _ _).drew)) (fun hHeld => ?_)
  refine wpAnyH_take (i := 0) (oi := _) (v := ?_) rfl (by kernel_rfl) (by kernel_rfl) (by kernel_rfl) (fun _ _ _ h => h) (Or.inl ⟨by rfl, ?_⟩) hHeld ?_
  rotate_left
  · intro w hSw; obtain ⟨⟨x0, x1, x2, x3, x4, x5⟩, _, _, _⟩ := hSw; go_simp; try with_reducible rfl
  simp only [Act.put, List.getElem_toArray, List.getElem_cons_succ, List.getElem_cons_zero, List.setIfInBounds_toArray, List.set_cons_zero, List.set_cons_succ]
  refine wpAnyH_take (i := 1) (oi := _) (v := ?_) rfl (by kernel_rfl) (by kernel_rfl) (by kernel_rfl) (fun _ _ _ h => h) (Or.inl ⟨by rfl, ?_⟩) hHeld ?_
  rotate_left
  · intro w hSw; obtain ⟨⟨x0, x1, x2, x3, x4, x5⟩, _, _, _⟩ := hSw; go_simp; try with_reducible rfl
  simp only [Act.put, List.getElem_toArray, List.getElem_cons_succ, List.getElem_cons_zero, List.setIfInBounds_toArray, List.set_cons_zero, List.set_cons_succ]
  refine wpAnyH_take (i := 2) (oi := _) (v := ?_) rfl (by kernel_rfl) (by kernel_rfl) (by kernel_rfl) (fun _ _ _ h => h) (Or.inl ⟨by rfl, ?_⟩) hHeld ?_
  rotate_left
  · intro w hSw; obtain ⟨⟨x0, x1, x2, x3, x4, x5⟩, _, _, _⟩ := hSw; go_simp; try with_reducible rfl
  simp only [Act.put, List.getElem_toArray, List.getElem_cons_succ, List.getElem_cons_zero, List.setIfInBounds_toArray, List.set_cons_zero, List.set_cons_succ]
  refine wpAnyH_take (i := 3) (oi := _) (v := ?_) rfl (by kernel_rfl) (by kernel_rfl) (by kernel_rfl) (fun _ _ _ h => h) (Or.inl ⟨by rfl, ?_⟩) hHeld ?_
  rotate_left
  · intro w hSw; obtain ⟨⟨x0, x1, x2, x3, x4, x5⟩, _, _, _⟩ := hSw; go_simp; try with_reducible rfl
  simp only [Act.put, List.getElem_toArray, List.getElem_cons_succ, List.getElem_cons_zero, List.setIfInBounds_toArray, List.set_cons_zero, List.set_cons_succ]
  refine wpAnyH_take (i := 4) (oi := _) (v := ?_) rfl (by kernel_rfl) (by kernel_rfl) (by kernel_rfl) (fun _ _ _ h => h) (Or.inl ⟨by rfl, ?_⟩) hHeld ?_
  rotate_left
  · intro w hSw; obtain ⟨⟨x0, x1, x2, x3, x4, x5⟩, _, _, _⟩ := hSw; go_simp; try with_reducible rfl
  simp only [Act.put, List.getElem_toArray, List.getElem_cons_succ, List.getElem_cons_zero, List.setIfInBounds_toArray, List.set_cons_zero, List.set_cons_succ]
  refine wpAnyH_take (i := 7) (oi := _) (v := ?_) rfl (by kernel_rfl) (by kernel_rfl) (by kernel_rfl) (fun _ _ _ h => h) (Or.inl ⟨by rfl, ?_⟩) hHeld ?_
  rotate_left
  · intro w hSw; obtain ⟨⟨x0, x1, x2, x3, x4, x5⟩, _, _, _⟩ := hSw; go_simp; try with_reducible rfl
  simp only [Act.put, List.getElem_toArray, List.getElem_cons_succ, List.getElem_cons_zero, List.setIfInBounds_toArray, List.set_cons_zero, List.set_cons_succ]
  refine wpAnyH_take (i := 8) (oi := _) (v := ?_) rfl (by kernel_rfl) (by kernel_rfl) (by kernel_rfl) (fun _ _ _ h => h) (Or.inl ⟨by rfl, ?_⟩) hHeld ?_
  rotate_left
  · intro w hSw; obtain ⟨⟨x0, x1, x2, x3, x4, x5⟩, _, _, _⟩ := hSw; go_simp; try with_reducible rfl
  simp only [Act.put, List.getElem_toArray, List.getElem_cons_succ, List.getElem_cons_zero, List.setIfInBounds_toArray, List.set_cons_zero, List.set_cons_succ]
  refine wpAnyH_take (i := 9) (oi := _) (v := ?_) rfl (by kernel_rfl) (by kernel_rfl) (by kernel_rfl) (fun _ _ _ h => h) (Or.inl ⟨by rfl, ?_⟩) hHeld ?_
  rotate_left
  · intro w hSw; obtain ⟨⟨x0, x1, x2, x3, x4, x5⟩, _, _, _⟩ := hSw; go_simp; try with_reducible rfl
  simp only [Act.put, List.getElem_toArray, List.getElem_cons_succ, List.getElem_cons_zero, List.setIfInBounds_toArray, List.set_cons_zero, List.set_cons_succ]
  refine wpAnyH_ready (rs := [5]) (by kernel_rfl) (by simp) (AllReadyH.cons (o := _) rfl (fun K hK => ?_) AllReadyH.nil)
  go_simp
  
  refine hK.out _ _ (hHeld.keep ((Below.refl _ _).alloc (Nat.le_refl _) _)) (fun hHeld => ?_)
  clear hK K
  try simp only [Act.put, List.getElem_toArray, List.getElem_cons_succ, List.getElem_cons_zero, List.setIfInBounds_toArray, List.set_cons_zero, List.set_cons_succ]
  have hHa := hHeld
  refine wpAnyH_ready (rs := [6]) (by kernel_rfl) (by simp) (AllReadyH.cons (o := _) rfl (fun K hK => ?_) AllReadyH.nil)
  refine step_append_grows rfl (.tmp 42) (.tmp 44) 22 rfl 31 i0 _ 6 40 Tryd.underlying22 hi0 hz0 hz1 hz2 rfl (by omega) (some ⟨b, off, none⟩) i i (rels (l.take i)) (by rfl) (by simp) hlo (fun b' e j u hj => by cases e; exact take_reads hHa.2.2.1 hi j u hj) _ 1 1 (relC r) (by rfl) rfl (fun j u hu => (lit_reads _ _ [r] (C := #[.int .i64 r.i, .bool r.a, .bool r.e, .int .i64 r.w, .int .i64 r.t, .int .i64 r.r]) rfl).2 (by simp) |>.elim fun ad h => by obtain ⟨e, _, hc⟩ := h; cases e; exact hc j u (by simpa [rels] using hu)) (relC_one r) (by omega) (by simp only [maxLen]; omega) (by omega) ?_
  intro v1 w1 hown1 hg1
  refine hK.out _ _ (hHa.keep (grown_below hg1)) (fun hHeld => ?_)
  clear hK K
  try simp only [Act.put, List.getElem_toArray, List.getElem_cons_succ, List.getElem_cons_zero, List.setIfInBounds_toArray, List.set_cons_zero, List.set_cons_succ]
  have hHb := hHeld
  have hba := hHa.2.2.2.size
  refine wpAnyH_ready (rs := [10]) (by kernel_rfl) (by simp) (AllReadyH.cons (o := _) rfl (fun K hK => ?_) AllReadyH.nil)
  have hcut := hsrc w1 hHb.2.2.1
  refine step_append_any w1 rfl (.tmp 45) (.tmp 48) 22 rfl _ 31 i0 _ 6 40 Tryd.underlying22 hi0 hz0 hz1 hz2 rfl (by omega) v1 (i + 1) _ (by rfl) hown1 w1.heap.size (some ⟨b, off + i * 6, none⟩) (n - i) (c - i) (rels (l.drop i)) (by simp only [Act.eval]; simp; omega) hcut (rels_one _) (by simp only [maxLen]; omega) (by omega) (by have := hg1.size; exact this) ?_
  intro v2 w2 hown2 hg2 hat2
  refine hK.out _ _ (hHa.keep (own_grown_below (grown_below hg1) hown1 hg2)) (fun hHeld => ?_)
  clear hK K
  try simp only [Act.put, List.getElem_toArray, List.getElem_cons_succ, List.getElem_cons_zero, List.setIfInBounds_toArray, List.set_cons_zero, List.set_cons_succ]
  refine wpAnyH_take (i := 11) (oi := _) (v := ?_) rfl (by kernel_rfl) (by kernel_rfl) (by kernel_rfl) (fun _ _ _ h => h) (Or.inl ⟨by rfl, ?_⟩) hHeld ?_
  rotate_left
  · intro w hSw; obtain ⟨⟨x0, x1, x2, x3, x4, x5⟩, _, _, _⟩ := hSw; go_simp; try with_reducible rfl
  simp only [Act.put, List.getElem_toArray, List.getElem_cons_succ, List.getElem_cons_zero, List.setIfInBounds_toArray, List.set_cons_zero, List.set_cons_succ]
  refine wpAnyH_take (i := 12) (oi := _) (v := ?_) rfl (by kernel_rfl) (by kernel_rfl) (by kernel_rfl) (fun _ _ _ h => h) (Or.inl ⟨by rfl, ?_⟩) hHeld ?_
  rotate_left
  · intro w hSw; obtain ⟨⟨x0, x1, x2, x3, x4, x5⟩, _, _, _⟩ := hSw; go_simp; try with_reducible rfl
  simp only [Act.put, List.getElem_toArray, List.getElem_cons_succ, List.getElem_cons_zero, List.setIfInBounds_toArray, List.set_cons_zero, List.set_cons_succ]
  refine wpAnyH_done (by kernel_rfl) ?_ _
  have hfin := own_with (B' := w.heap.size) (i := i) (m := n - i) HL.out HI rfl hown2 (by simpa using hba)
  have hbB := hHeld.2.2.2
  go_wp2_with fail
  go_ret2
  exact ⟨_, rfl, hfin, hbB⟩
set_option maxRecDepth 100000 in
set_option maxHeartbeats 4000000 in
theorem with_eq (b off n c i : Nat) (l : List Rel) (r : Rel) (w : World) (hE : Env w) (hR : Reads w w.heap.size 6 (some ⟨b, off, none⟩) n (rels l)) (hnc : n ≤ c) (hn : n ≤ 199) (hn2 : 2 ≤ n) (hc : c ≤ 9223372036854775807) (hi : i ≤ n) (hic : n = i) (hcc : c = i)
    (k1 : chkE l = 0) (k2 : mayE r.w r.t r.r = 0) (k3 : idxB r.i = true) (k4 : bsIn l r.i = false) (k5 : bsAt l r.i = i) :
    Calls Tryd.prog 23 #[.slice (some ⟨b, off, none⟩) n c, relV r] w (OwnE (l.take i ++ r :: l.drop i) 0 w) := by
  have hl : l.length = n := by have := hR.1; rw [rels_len] at this; omega
  have c31 : Tryd.prog.cellsOf 31 = 6 := by kernel_rfl
  obtain ⟨i0, hi0, hz0, hz1, hz2⟩ := info_parts info_rel
  obtain ⟨W0, hW0⟩ : ∃ W0, W0 = w.alloc (Obj.cells #[.int .i64 r.i, .bool r.a, .bool r.e, .int .i64 r.w, .int .i64 r.t, .int .i64 r.r] 31) := ⟨_, rfl⟩
  obtain ⟨hb0, hsz, c0, c1, c2, c3, c4, c5⟩ := new6 hW0
  have hH : WHold w W0 (some ⟨b, off, none⟩) n w.heap.size l r := ⟨⟨c0, c1, c2, c3, c4, c5⟩, hsz, (hR.below hb0).more hb0.size, hb0⟩
  have cc := fun (W : World) (h : WHold w W (some ⟨b, off, none⟩) n w.heap.size l r) => check_any (some ⟨b, off, none⟩) n c l W (hE.below h.2.2.2) h.2.2.1 (by omega)
  have cm := fun (W : World) => may_any r.a r.e r.w r.t r.r W
  have cf := fun (W : World) (h : WHold w W (some ⟨b, off, none⟩) n w.heap.size l r) => find_any (some ⟨b, off, none⟩) n c l r.i W h.2.2.1 (by omega)
  have ci := fun (W : World) => idx_any r.i W
  have hlo : (rels (l.take i)).length = i * 6 := by rw [rels_len, List.length_take]; omega
  subst hic
  subst hcc
  have hsrc : ∀ (W : World), Reads W W.heap.size 6 (some ⟨b, off, none⟩) c (rels l) → Reads W W.heap.size 6 (some ⟨b, off, none⟩) 0 [] := fun W h => ⟨rfl, fun h => absurd h (by omega)⟩
  have ts3 : (c : Int) ≤ (c : Int) := by omega
  have ts4 : (c : Int) ≤ (c : Int) := by omega
  have ts5 : (((c : Nat) : Int) == 200) = false := by simp; omega
  unfold trV at cm
  unfold relV
  unfold idxB at k3
  rw [k1] at cc
  rw [k2] at cm
  rw [k3] at ci
  rw [k4, k5] at cf
  subst hW0
  clear hR hE c0 c1 c2 c3 c4 c5 hb0 hsz k1 k2 k3 k4 k5
  have HH := hH
  clear hH
  obtain ⟨x0, x1, x2, x3, x4, x5⟩ := HH.1
  have HL := Lib.hid hl
  have HI := hi
  have HLO := Lib.hid hlo
  have HS := Lib.hid hsrc
  clear hl hlo hsrc
  go_enter Tryd.func23, Tryd.ntmps23
  go_wp2_with (first
      | (go_at_call 10; (with_reducible refine (cc _ HH).mono ?_); rintro en w1 ⟨rfl, hb1⟩; have HH := HH.keep hb1; obtain ⟨y0, y1, y2, y3, y4, y5⟩ := HH.1)
      | (go_at_call 12; (with_reducible refine (cm _).mono ?_); rintro en w2 ⟨rfl, hb2⟩; have HH := HH.keep hb2; obtain ⟨z0, z1, z2, z3, z4, z5⟩ := HH.1)
      | (go_at_call 52; (with_reducible refine (cf _ HH).mono ?_); rintro en w3 ⟨rfl, hb3⟩; have HH := HH.keep hb3; obtain ⟨u0, u1, u2, u3, u4, u5⟩ := HH.1)
      | (go_at_call 42; (with_reducible refine (ci _).mono ?_); rintro en w4 ⟨rfl, rfl⟩)
      | fail)
  have hlo := HLO.out
  have hsrc := HS.out
  clear HLO HS
  refine wp_region_held_drew (S := fun w' => WHold w w' (some ⟨b, off, none⟩) c w.heap.size l r) (by kernel_rfl) (HH.keep ((Below.refl _ _).drew)) (fun hHeld => ?_)
  refine wpAnyH_take (i := 0) (oi := _) (v := ?_) rfl (by kernel_rfl) (by kernel_rfl) (by kernel_rfl) (fun _ _ _ h => h) (Or.inl ⟨by rfl, ?_⟩) hHeld ?_
  rotate_left
  · intro w hSw; obtain ⟨⟨x0, x1, x2, x3, x4, x5⟩, _, _, _⟩ := hSw; go_simp; try with_reducible rfl
  simp only [Act.put, List.getElem_toArray, List.getElem_cons_succ, List.getElem_cons_zero, List.setIfInBounds_toArray, List.set_cons_zero, List.set_cons_succ]
  refine wpAnyH_take (i := 1) (oi := _) (v := ?_) rfl (by kernel_rfl) (by kernel_rfl) (by kernel_rfl) (fun _ _ _ h => h) (Or.inl ⟨by rfl, ?_⟩) hHeld ?_
  rotate_left
  · intro w hSw; obtain ⟨⟨x0, x1, x2, x3, x4, x5⟩, _, _, _⟩ := hSw; go_simp; try with_reducible rfl
  simp only [Act.put, List.getElem_toArray, List.getElem_cons_succ, List.getElem_cons_zero, List.setIfInBounds_toArray, List.set_cons_zero, List.set_cons_succ]
  refine wpAnyH_take (i := 2) (oi := _) (v := ?_) rfl (by kernel_rfl) (by kernel_rfl) (by kernel_rfl) (fun _ _ _ h => h) (Or.inl ⟨by rfl, ?_⟩) hHeld ?_
  rotate_left
  · intro w hSw; obtain ⟨⟨x0, x1, x2, x3, x4, x5⟩, _, _, _⟩ := hSw; go_simp; try with_reducible rfl
  simp only [Act.put, List.getElem_toArray, List.getElem_cons_succ, List.getElem_cons_zero, List.setIfInBounds_toArray, List.set_cons_zero, List.set_cons_succ]
  refine wpAnyH_take (i := 3) (oi := _) (v := ?_) rfl (by kernel_rfl) (by kernel_rfl) (by kernel_rfl) (fun _ _ _ h => h) (Or.inl ⟨by rfl, ?_⟩) hHeld ?_
  rotate_left
  · intro w hSw; obtain ⟨⟨x0, x1, x2, x3, x4, x5⟩, _, _, _⟩ := hSw; go_simp; try with_reducible rfl
  simp only [Act.put, List.getElem_toArray, List.getElem_cons_succ, List.getElem_cons_zero, List.setIfInBounds_toArray, List.set_cons_zero, List.set_cons_succ]
  refine wpAnyH_take (i := 4) (oi := _) (v := ?_) rfl (by kernel_rfl) (by kernel_rfl) (by kernel_rfl) (fun _ _ _ h => h) (Or.inl ⟨by rfl, ?_⟩) hHeld ?_
  rotate_left
  · intro w hSw; obtain ⟨⟨x0, x1, x2, x3, x4, x5⟩, _, _, _⟩ := hSw; go_simp; try with_reducible rfl
  simp only [Act.put, List.getElem_toArray, List.getElem_cons_succ, List.getElem_cons_zero, List.setIfInBounds_toArray, List.set_cons_zero, List.set_cons_succ]
  refine wpAnyH_take (i := 7) (oi := _) (v := ?_) rfl (by kernel_rfl) (by kernel_rfl) (by kernel_rfl) (fun _ _ _ h => h) (Or.inl ⟨by rfl, ?_⟩) hHeld ?_
  rotate_left
  · intro w hSw; obtain ⟨⟨x0, x1, x2, x3, x4, x5⟩, _, _, _⟩ := hSw; go_simp; try with_reducible rfl
  simp only [Act.put, List.getElem_toArray, List.getElem_cons_succ, List.getElem_cons_zero, List.setIfInBounds_toArray, List.set_cons_zero, List.set_cons_succ]
  refine wpAnyH_take (i := 8) (oi := _) (v := ?_) rfl (by kernel_rfl) (by kernel_rfl) (by kernel_rfl) (fun _ _ _ h => h) (Or.inl ⟨by rfl, ?_⟩) hHeld ?_
  rotate_left
  · intro w hSw; obtain ⟨⟨x0, x1, x2, x3, x4, x5⟩, _, _, _⟩ := hSw; go_simp; try with_reducible rfl
  simp only [Act.put, List.getElem_toArray, List.getElem_cons_succ, List.getElem_cons_zero, List.setIfInBounds_toArray, List.set_cons_zero, List.set_cons_succ]
  refine wpAnyH_take (i := 9) (oi := _) (v := ?_) rfl (by kernel_rfl) (by kernel_rfl) (by kernel_rfl) (fun _ _ _ h => h) (Or.inl ⟨by rfl, ?_⟩) hHeld ?_
  rotate_left
  · intro w hSw; obtain ⟨⟨x0, x1, x2, x3, x4, x5⟩, _, _, _⟩ := hSw; go_simp; try with_reducible rfl
  simp only [Act.put, List.getElem_toArray, List.getElem_cons_succ, List.getElem_cons_zero, List.setIfInBounds_toArray, List.set_cons_zero, List.set_cons_succ]
  refine wpAnyH_ready (rs := [5]) (by kernel_rfl) (by simp) (AllReadyH.cons (o := _) rfl (fun K hK => ?_) AllReadyH.nil)
  go_simp
  
  refine hK.out _ _ (hHeld.keep ((Below.refl _ _).alloc (Nat.le_refl _) _)) (fun hHeld => ?_)
  clear hK K
  try simp only [Act.put, List.getElem_toArray, List.getElem_cons_succ, List.getElem_cons_zero, List.setIfInBounds_toArray, List.set_cons_zero, List.set_cons_succ]
  have hHa := hHeld
  refine wpAnyH_ready (rs := [6]) (by kernel_rfl) (by simp) (AllReadyH.cons (o := _) rfl (fun K hK => ?_) AllReadyH.nil)
  refine step_append_grows rfl (.tmp 42) (.tmp 44) 22 rfl 31 i0 _ 6 40 Tryd.underlying22 hi0 hz0 hz1 hz2 rfl (by omega) (some ⟨b, off, none⟩) c c (rels (l.take c)) (by rfl) (by simp) hlo (fun b' e j u hj => by cases e; exact take_reads hHa.2.2.1 hi j u hj) _ 1 1 (relC r) (by rfl) rfl (fun j u hu => (lit_reads _ _ [r] (C := #[.int .i64 r.i, .bool r.a, .bool r.e, .int .i64 r.w, .int .i64 r.t, .int .i64 r.r]) rfl).2 (by simp) |>.elim fun ad h => by obtain ⟨e, _, hc⟩ := h; cases e; exact hc j u (by simpa [rels] using hu)) (relC_one r) (by omega) (by simp only [maxLen]; omega) (by omega) ?_
  intro v1 w1 hown1 hg1
  refine hK.out _ _ (hHa.keep (grown_below hg1)) (fun hHeld => ?_)
  clear hK K
  try simp only [Act.put, List.getElem_toArray, List.getElem_cons_succ, List.getElem_cons_zero, List.setIfInBounds_toArray, List.set_cons_zero, List.set_cons_succ]
  have hHb := hHeld
  have hba := hHa.2.2.2.size
  refine wpAnyH_ready (rs := [10]) (by kernel_rfl) (by simp) (AllReadyH.cons (o := _) rfl (fun K hK => ?_) AllReadyH.nil)
  have hcut := hsrc w1 hHb.2.2.1
  refine step_append_any w1 rfl (.tmp 45) (.tmp 48) 22 rfl _ 31 i0 _ 6 40 Tryd.underlying22 hi0 hz0 hz1 hz2 rfl (by omega) v1 (c + 1) _ (by rfl) hown1 w1.heap.size (some ⟨b, off, none⟩) 0 0 [] (by rfl) hcut (by simp) (by simp only [maxLen]; omega) (by omega) (by have := hg1.size; exact this) ?_
  intro v2 w2 hown2 hg2 hat2
  refine hK.out _ _ (hHa.keep (own_grown_below (grown_below hg1) hown1 hg2)) (fun hHeld => ?_)
  clear hK K
  try simp only [Act.put, List.getElem_toArray, List.getElem_cons_succ, List.getElem_cons_zero, List.setIfInBounds_toArray, List.set_cons_zero, List.set_cons_succ]
  refine wpAnyH_take (i := 11) (oi := _) (v := ?_) rfl (by kernel_rfl) (by kernel_rfl) (by kernel_rfl) (fun _ _ _ h => h) (Or.inl ⟨by rfl, ?_⟩) hHeld ?_
  rotate_left
  · intro w hSw; obtain ⟨⟨x0, x1, x2, x3, x4, x5⟩, _, _, _⟩ := hSw; go_simp; try with_reducible rfl
  simp only [Act.put, List.getElem_toArray, List.getElem_cons_succ, List.getElem_cons_zero, List.setIfInBounds_toArray, List.set_cons_zero, List.set_cons_succ]
  refine wpAnyH_take (i := 12) (oi := _) (v := ?_) rfl (by kernel_rfl) (by kernel_rfl) (by kernel_rfl) (fun _ _ _ h => h) (Or.inl ⟨by rfl, ?_⟩) hHeld ?_
  rotate_left
  · intro w hSw; obtain ⟨⟨x0, x1, x2, x3, x4, x5⟩, _, _, _⟩ := hSw; go_simp; try with_reducible rfl
  simp only [Act.put, List.getElem_toArray, List.getElem_cons_succ, List.getElem_cons_zero, List.setIfInBounds_toArray, List.set_cons_zero, List.set_cons_succ]
  refine wpAnyH_done (by kernel_rfl) ?_ _
  have hfin := own_with (B' := w.heap.size) (i := c) (m := 0) HL.out (Nat.le_refl _) (by omega) (by rw [List.drop_of_length_le (by have := HL.out; omega)]; exact hown2) (by simpa using hba)
  have hbB := hHeld.2.2.2
  go_wp2_with fail
  go_ret2
  exact ⟨_, rfl, hfin, hbB⟩
set_option maxRecDepth 100000 in
set_option maxHeartbeats 4000000 in
theorem with_any (A : Option Addr) (n c : Nat) (l : List Rel) (r : Rel) (w : World) (hE : Env w) (hR : Reads w w.heap.size 6 A n (rels l)) (hnc : n ≤ c) (hn : n ≤ 65536) (hc : c ≤ 9223372036854775807) :
    Calls Tryd.prog 23 #[.slice A n c, relV r] w (OwnE (withL l r) (withE l r) w) := by
  have hl : l.length = n := by have := hR.1; rw [rels_len] at this; omega
  have c31 : Tryd.prog.cellsOf 31 = 6 := by kernel_rfl
  obtain ⟨W0, hW0⟩ : ∃ W0, W0 = w.alloc (Obj.cells #[.int .i64 r.i, .bool r.a, .bool r.e, .int .i64 r.w, .int .i64 r.t, .int .i64 r.r] 31) := ⟨_, rfl⟩
  obtain ⟨hb0, hsz, c0, c1, c2, c3, c4, c5⟩ := new6 hW0
  have hH : WHold w W0 A n w.heap.size l r := ⟨⟨c0, c1, c2, c3, c4, c5⟩, hsz, (hR.below hb0).more hb0.size, hb0⟩
  have cc := fun (W : World) (h : WHold w W A n w.heap.size l r) => check_any A n c l W (hE.below h.2.2.2) h.2.2.1 hn
  have cm := fun (W : World) => may_any r.a r.e r.w r.t r.r W
  have cf := fun (W : World) (h : WHold w W A n w.heap.size l r) => find_any A n c l r.i W h.2.2.1 hn
  have ci := fun (W : World) => idx_any r.i W
  unfold trV at cm
  have hR0 := hR
  have hE0 := hE
  clear hR hE c0 c1 c2 c3 c4 c5 hb0 hsz
  rcases with_ways l r (by omega) with ⟨k1, k8, k9⟩ | ⟨k1, k2, k8, k9⟩ | ⟨k1, k2, k8, k9⟩ | ⟨k1, k2, k3, k8, k9⟩ | ⟨k1, k2, k3, k4, k8, k9⟩ | ⟨k1, k2, k3, k4, k5, k8, k9⟩ | ⟨k1, k2, k3, k4, k5, k6, k8, k9⟩
  case inr.inr.inr.inr.inr.inr =>
    have e1 := List.getElem?_eq_getElem (l := l) (i := 0) (by omega)
    obtain ⟨b, off, rfl, _⟩ := rels_cells hR0 e1
    rw [k8, k9]
    have hi : bsAt l r.i ≤ n := by have := bsAt_le l r.i; omega
    rcases Nat.lt_or_ge (bsAt l r.i) c with hic | hic
    · exact with_lt b off n c _ l r w hE0 hR0 hnc (by omega) (by omega) hc hi hic k1 k2 k3 k4 rfl
    · exact with_eq b off n c _ l r w hE0 hR0 hnc (by omega) (by omega) hc hi (by omega) (by omega) k1 k2 k3 k4 rfl
  all_goals
    unfold relV
    clear hR0 hE0
    have hend := fun (w' : World) (hb : Below w.heap.size w w') => OwnE.nil (x := withE l r) hb k9
    rw [k8] at hend ⊢
    clear k8 k9
    rw [k1] at cc
    clear k1
    try rw [k2] at cm
    try clear k2
    try (unfold idxB at k3; rw [k3] at ci)
    try clear k3
    try rw [k4] at cf
    try clear k4
    try rw [hl] at k5
    subst hW0
    have hx := hH.1
    obtain ⟨x0, x1, x2, x3, x4, x5⟩ := hx
    have HH := hH
    clear hH
    go_enter Tryd.func23, Tryd.ntmps23
    go_wp2_with (first
      | (go_at_call 10; (with_reducible refine (cc _ HH).mono ?_); rintro en w1 ⟨rfl, hb1⟩; have HH := HH.keep hb1; obtain ⟨y0, y1, y2, y3, y4, y5⟩ := HH.1)
      | (go_at_call 12; (with_reducible refine (cm _).mono ?_); rintro en w2 ⟨rfl, hb2⟩; have HH := HH.keep hb2; obtain ⟨z0, z1, z2, z3, z4, z5⟩ := HH.1)
      | (go_at_call 52; (with_reducible refine (cf _ HH).mono ?_); rintro en w3 ⟨rfl, hb3⟩; have HH := HH.keep hb3; obtain ⟨u0, u1, u2, u3, u4, u5⟩ := HH.1)
      | (go_at_call 42; (with_reducible refine (ci _).mono ?_); rintro en w4 ⟨rfl, rfl⟩)
      | fail)
    go_ret2
    exact hend _ HH.2.2.2
end Go.Proofs.YtibjelonabhcmaaDoor
