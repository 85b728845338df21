/- What is proved: slices.Clone at columns; shift's own: a table in memory of its own. -/
import Derived.Test.YtbcbknajhdaneaaVSb2
import Derived.Test.YtbcbknajhdaneaaVStop
namespace Go.Proofs.Ytbcbknajhdaneaa
open Go.RowKit Go.Maps
set_option linter.unusedVariables false
set_option linter.unusedSimpArgs false
def OwnC (F : List Col) (w : World) (e : Ending) (w' : World) : Prop := ∃ v, e = .returned v ∧ w'.ownsRow w.heap.size 68 3 v F.length (cols F) ∧ Below w.heap.size w w'
set_option maxRecDepth 100000 in
set_option maxHeartbeats 1000000 in
theorem clone_c (A : Option Addr) (n c : Nat) (F : List Col) (w : World) (hR : Reads w w.heap.size 3 A n (cols F)) (hn : n ≤ 65536) :
    Calls Try.prog 128 #[.slice A n c] w (OwnC F w) := by
  have qT : ∀ (w : World) (a : Option Addr) (n c n' c' : Nat), (binOp .eql 23 (.slice a n c) (.slice none n' c')).run Try.prog w = .ok (.bool a.isNone) w := fun w a n c n' c' => Lib.run_eql_slice_nil w _ _ a n c n' c' Try.underlying23
  have hl : F.length = n := by have := hR.1; rw [cols_len] at this; omega
  obtain ⟨i0, hi0, hz0, hz1, hz2⟩ := info_parts info_col
  have HL := Lib.hid hl
  clear hl
  cases A with
  | none =>
    have h0 : n = 0 := by
      rcases Nat.eq_zero_or_pos n with h0 | h0
      · exact h0
      · obtain ⟨ad, h, _⟩ := hR.2 h0
        cases h
    subst h0
    go_enter Try.func128, Try.ntmps128
    go_wp2
    go_ret
    have : F = [] := List.eq_nil_of_length_eq_zero HL.out
    subst this
    exact ⟨_, rfl, World.ownsRow_nil _ _ _ _, Below.refl _ _⟩
  | some a =>
    go_enter Try.func128, Try.ntmps128
    go_wp2_with (first
        | (at_builtin
           refine wpList_append_any _ rfl (.tmp 5) (.tmp 6) _ rfl w.heap.size 68 i0 _ 3 40 Try.underlying23 hi0 hz0 hz1 hz2 rfl (by omega) _ 0 [] rfl
             ?_ w.heap.size (some a) n c (cols F) rfl ?_ (cols_one F) (by simp only [maxLen]; omega) (by omega) (by simp) ?_
           · exact World.ownsRow_lit _ _ _ (Nat.le_refl _) (by simp [maxLen]) rfl
           · exact hR.alloc (Nat.le_refl _) _
           intro v1 w1 hown1 hg1 hat1))
    have hb1 := own_grown_below ((Below.refl w.heap.size w).alloc (Nat.le_refl _) _) (World.ownsRow_lit (e := 68) (size := 3) w #[] 0 (Nat.le_refl _) (by simp [maxLen]) rfl) hg1
    rw [Nat.zero_add, List.nil_append] at hown1
    have ho := hown1
    obtain ⟨A1, c1, rfl⟩ := own_slice hown1
    have HO := Lib.hid ho
    clear hown1 hg1 hat1 ho
    go_wp2
    go_ret
    exact ⟨_, rfl, by rw [HL.out]; exact HO.out, hb1⟩
theorem cols_set2 : ∀ (F : List Col) (k : Nat) (x : Col) (A : Option Addr) (n c : Nat) (l : List Int), F[k]? = some x → (cols F).set (k * 3 + 2) (.slice A n c) = cols (F.set k ⟨x.W, x.R, A, n, c, l⟩)
  | [], _, _, _, _, _, _, h => by simp at h
  | y :: F, 0, x, A, n, c, l, h => by
    simp at h; subst h
    rfl
  | y :: F, k + 1, x, A, n, c, l, h => by
    have ih := cols_set2 F k x A n c l (by simpa using h)
    have e : (k + 1) * 3 + 2 = 3 + (k * 3 + 2) := by omega
    rw [e]
    show (y.C ++ cols F).set (3 + (k * 3 + 2)) _ = y.C ++ cols (F.set k _)
    rw [List.set_append_right _ _ (show y.C.length ≤ 3 + (k * 3 + 2) by show 3 ≤ _; omega), ← ih, show 3 + (k * 3 + 2) - y.C.length = k * 3 + 2 from by show 3 + (k * 3 + 2) - 3 = _; omega]
/-- the loop's own: so many columns have words of their own -/
structure ShO (TA : Option Addr) (Tn Tc : Nat) (ty : List Int) (EA : Option Addr) (En Ec : Nat) (es : List Int) (Cv : Option Addr) (n Cc h k base : Nat) (F F' : List Col) (w0 w : World) : Prop where
  kt : Blk w h 25 #[.slice TA Tn Tc, .slice Cv n Cc, .slice EA En Ec]
  kr : Blk w (h + 1) 25 #[.slice none 0 0, .slice none 0 0, .slice none 0 0]
  own : w.ownsRow base 68 3 (.slice Cv n Cc) n (cols F')
  ty : IdFresh w base TA Tn Tc ty
  es : IdFresh w base EA En Ec es
  fp : F'.map Col.p = F.map Col.p
  ol : ∀ (j : Nat) (x : Col), k ≤ j → F'[j]? = some x → F[j]? = some x
  fr : ∀ (j : Nat) (x : Col), j < k → F'[j]? = some x → ColFresh w base x
  b : Below base w0 w
theorem col_p_set {F : List Col} {k : Nat} {x : Col} (h : F[k]? = some x) (A : Option Addr) (n c : Nat) : (F.set k ⟨x.W, x.R, A, n, c, x.l⟩).map Col.p = F.map Col.p := by
  rw [List.map_set]
  refine set_same ?_
  rw [List.getElem?_map, h]
  rfl
theorem ShO.step {TA : Option Addr} {Tn Tc : Nat} {ty : List Int} {EA : Option Addr} {En Ec : Nat} {es : List Int} {g n Cc h k base : Nat} {F F' : List Col} {w0 w w6 : World} {x : Col} {A : Option Addr} {n' c : Nat}
    (hS : ShO TA Tn Tc ty EA En Ec es (some ⟨g, 0, none⟩) n Cc h k base F F' w0 w) (hx : F'[k]? = some x) (h6 : Below w.heap.size w w6) (hbw : base ≤ w.heap.size) (hv : ColFresh w6 base ⟨x.W, x.R, A, n', c, x.l⟩) :
    ShO TA Tn Tc ty EA En Ec es (some ⟨g, 0, none⟩) n Cc h (k + 1) base F (F'.set k ⟨x.W, x.R, A, n', c, x.l⟩) w0 (w6.setCell ⟨g, k * 3 + 2, none⟩ (.slice A n' c)) := by
  have ho6 := own_below hS.own h6
  have hst := ho6.stored (k * 3 + 2) (.slice A n' c)
  obtain ⟨cur, hbc⟩ := own_cells ho6
  have ho := hst.1
  rw [cols_set2 F' k x A n' c x.l hx] at ho
  refine ⟨blk_grown_own (blk_below hS.kt h6) ho6 (by decide) hst.2, blk_grown_own (blk_below hS.kr h6) ho6 (by decide) hst.2, ho, idFresh_cell (hS.ty.below h6) hbc (by decide) _, idFresh_cell (hS.es.below h6) hbc (by decide) _, ?_, ?_, ?_, (hS.b.trans (h6.mono hbw)).setCell (p := ⟨g, k * 3 + 2, none⟩) (own_base ho6) _⟩
  · rw [col_p_set hx]; exact hS.fp
  · intro j y hj hy
    rw [List.getElem?_set_ne (by omega)] at hy
    exact hS.ol j y (by omega) hy
  · intro j y hj hy
    by_cases hjk : j = k
    · subst hjk
      rw [List.getElem?_set_self (List.getElem?_eq_some_iff.1 hx).1] at hy
      injection hy with hy
      subst hy
      exact colFresh_cell hv hbc (by decide) _
    · rw [List.getElem?_set_ne (fun e => hjk e.symm)] at hy
      exact colFresh_cell ((hS.fr j y (by omega) hy).below h6) hbc (by decide) _
set_option maxRecDepth 100000 in
set_option maxHeartbeats 8000000 in
theorem shown_any (t : Tab) (w : World) (h : TabOk w w.heap.size t) (hn : t.Cn ≤ 65536 ∧ t.Tn ≤ 65536 ∧ t.En ≤ 65536 ∧ ∀ x ∈ t.F, x.n ≤ 65536) : Calls Try.prog 101 #[t.V] w (OwnT t.p w) := by
  obtain ⟨W0, hW0, hB, hsz, k0, k1⟩ := two_blk w 25 25 #[.slice t.TA t.Tn t.Tc, .slice t.CA t.Cn t.Cc, .slice t.EA t.En t.Ec] #[.slice none 0 0, .slice none 0 0, .slice none 0 0]
  obtain ⟨⟨c0, c1, c2⟩, _⟩ := blk_cells3 k0
  have hT := h.keep hB
  have cd1 := fun (W : World) (hb : Below W0.heap.size W0 W) => clone_d t.TA t.Tn t.Tc t.ty W ((hT.ty.below (hb.mono hB.size)).more (Nat.le_trans hB.size hb.size)) hn.2.1
  have cd2 := fun (W : World) (hb : Below W0.heap.size W0 W) => clone_d t.EA t.En t.Ec t.es W ((hT.es.below (hb.mono hB.size)).more (Nat.le_trans hB.size hb.size)) hn.2.2.1
  have cc := fun (W : World) (hb : Below W0.heap.size W0 W) => clone_c t.CA t.Cn t.Cc t.F W ((hT.cs.below (hb.mono hB.size)).more (Nat.le_trans hB.size hb.size)) hn.1
  have HCS := Lib.hid h.csok
  have HN4 := Lib.hid hn.2.2.2
  have HTW := Lib.hid h.tyw
  have HEW := Lib.hid h.esw
  have HK := Lib.hid (fun (W : World) (hb : Below W0.heap.size W0 W) => And.intro (blk_below k0 hb) (And.intro (blk_below k1 hb) (hB.trans (hb.mono hB.size))))
  have HS := Lib.hid hsz
  have HW := Lib.hid hW0
  have HP : t.p = (t.ty, t.F.map Col.p, t.es) := rfl
  have HPP := Lib.hid HP
  have HCN := Lib.hid (show t.F.length ≤ 65536 by have := h.len.2.1; omega)
  generalize t.p = pp at *
  clear HP hn h hT k0 k1 hW0 hsz
  unfold OwnD at cd1 cd2
  unfold OwnC at cc
  unfold Tab.V
  obtain ⟨TA, Tn, Tc, ty, CA, Cn, Cc, F, EA, En, Ec, es⟩ := t
  simp only at *
  go_enter Try.func101, Try.ntmps101
  go_upto_region 1 with fail
  rw [← HW.out]
  have hlt0 : w.heap.size < W0.heap.size := by have := HS.out; omega
  refine wp_region_stop 10 (fun b w' => match b with | true => True | false => w'.cell? ⟨w.heap.size, 0, none⟩ = some (.slice TA Tn Tc) ∧ w'.cell? ⟨w.heap.size, 1, none⟩ = some (.slice CA Cn Cc) ∧ w'.cell? ⟨w.heap.size, 2, none⟩ = some (.slice EA En Ec)) (by kernel_rfl) ⟨c0, c1, c2⟩ (fun hHeld => ?_)
  refine wpAnyS_take (i := 0) (oi := _) (v := ?_) rfl (by kernel_rfl) (by kernel_rfl) (by kernel_rfl) (by kernel_rfl) (by kernel_rfl) (fun _ _ _ h => h) (Or.inl ⟨by rfl, ?_⟩) hHeld ?_
  rotate_left
  · intro w hSw; obtain ⟨s0, s1, s2⟩ := hSw; go_simp; try with_reducible rfl
  simp only [Act.put, List.getElem_toArray, List.getElem_cons_succ, List.getElem_cons_zero, List.setIfInBounds_toArray, List.set_cons_zero, List.set_cons_succ]
  refine wpAnyS_take (i := 1) (oi := _) (v := ?_) rfl (by kernel_rfl) (by kernel_rfl) (by kernel_rfl) (by kernel_rfl) (by kernel_rfl) (fun _ _ _ h => h) (Or.inl ⟨by rfl, ?_⟩) hHeld ?_
  rotate_left
  · intro w hSw; obtain ⟨s0, s1, s2⟩ := hSw; go_simp; try with_reducible rfl
  simp only [Act.put, List.getElem_toArray, List.getElem_cons_succ, List.getElem_cons_zero, List.setIfInBounds_toArray, List.set_cons_zero, List.set_cons_succ]
  refine wpAnyS_take (i := 3) (oi := _) (v := ?_) rfl (by kernel_rfl) (by kernel_rfl) (by kernel_rfl) (by kernel_rfl) (by kernel_rfl) (fun _ _ _ h => h) (Or.inl ⟨by rfl, ?_⟩) hHeld ?_
  rotate_left
  · intro w hSw; obtain ⟨s0, s1, s2⟩ := hSw; go_simp; try with_reducible rfl
  simp only [Act.put, List.getElem_toArray, List.getElem_cons_succ, List.getElem_cons_zero, List.setIfInBounds_toArray, List.set_cons_zero, List.set_cons_succ]
  refine wpAnyS_take (i := 4) (oi := _) (v := ?_) rfl (by kernel_rfl) (by kernel_rfl) (by kernel_rfl) (by kernel_rfl) (by kernel_rfl) (fun _ _ _ h => h) (Or.inl ⟨by rfl, ?_⟩) hHeld ?_
  rotate_left
  · intro w hSw; obtain ⟨s0, s1, s2⟩ := hSw; go_simp; try with_reducible rfl
  simp only [Act.put, List.getElem_toArray, List.getElem_cons_succ, List.getElem_cons_zero, List.setIfInBounds_toArray, List.set_cons_zero, List.set_cons_succ]
  refine wpAnyS_take (i := 6) (oi := _) (v := ?_) rfl (by kernel_rfl) (by kernel_rfl) (by kernel_rfl) (by kernel_rfl) (by kernel_rfl) (fun _ _ _ h => h) (Or.inl ⟨by rfl, ?_⟩) hHeld ?_
  rotate_left
  · intro w hSw; obtain ⟨s0, s1, s2⟩ := hSw; go_simp; try with_reducible rfl
  simp only [Act.put, List.getElem_toArray, List.getElem_cons_succ, List.getElem_cons_zero, List.setIfInBounds_toArray, List.set_cons_zero, List.set_cons_succ]
  refine wpAnyS_take (i := 7) (oi := _) (v := ?_) rfl (by kernel_rfl) (by kernel_rfl) (by kernel_rfl) (by kernel_rfl) (by kernel_rfl) (fun _ _ _ h => h) (Or.inl ⟨by rfl, ?_⟩) hHeld ?_
  rotate_left
  · intro w hSw; obtain ⟨s0, s1, s2⟩ := hSw; go_simp; try with_reducible rfl
  simp only [Act.put, List.getElem_toArray, List.getElem_cons_succ, List.getElem_cons_zero, List.setIfInBounds_toArray, List.set_cons_zero, List.set_cons_succ]
  refine wpAnyS_ready (rs := [2]) (by kernel_rfl) (by simp) (AllReadyS.cons false (by kernel_rfl) (o := _) rfl (fun K hK => ?_) AllReadyS.nil)
  go_simp
  refine (cd1 _ (Below.refl _ _).drew).mono ?_
  rintro en w1 ⟨v1, rfl, ho1, hb1⟩
  have hb01 : Below W0.heap.size W0 w1 := (Below.refl _ _).drew.trans hb1
  obtain ⟨A1, q1, rfl⟩ := own_slice ho1
  refine hK.out _ _ (And.intro (cell_below' hb01 c0 hlt0) (And.intro (cell_below' hb01 c1 hlt0) (cell_below' hb01 c2 hlt0))) (fun hHeld => ?_)
  clear hK K
  try simp only [Act.put, List.getElem_toArray, List.getElem_cons_succ, List.getElem_cons_zero, List.setIfInBounds_toArray, List.set_cons_zero, List.set_cons_succ]
  refine wpAnyS_take' (i := 9) (oi := _) (v := ?_) rfl (by kernel_rfl) (by kernel_rfl) (by kernel_rfl) (by kernel_rfl) false (by kernel_rfl) (fun _ _ _ h => h) (Or.inl ⟨by rfl, ?_⟩) hHeld ?_
  rotate_left
  · intro w hSw; clear hSw; go_simp; try with_reducible rfl
  simp only [Act.put, List.getElem_toArray, List.getElem_cons_succ, List.getElem_cons_zero, List.setIfInBounds_toArray, List.set_cons_zero, List.set_cons_succ]
  refine wpAnyS_ready (rs := [5]) (by kernel_rfl) (by simp) (AllReadyS.cons false (by kernel_rfl) (o := _) rfl (fun K hK => ?_) AllReadyS.nil)
  go_simp
  refine (cd2 _ hb01).mono ?_
  rintro en w2 ⟨v2, rfl, ho2, hb2⟩
  have hb02 : Below W0.heap.size W0 w2 := hb01.trans (hb2.mono hb01.size)
  have ho12 := own_below ho1 hb2
  obtain ⟨A2, q2, rfl⟩ := own_slice ho2
  refine hK.out _ _ (And.intro (cell_below' hb02 c0 hlt0) (And.intro (cell_below' hb02 c1 hlt0) (cell_below' hb02 c2 hlt0))) (fun hHeld => ?_)
  clear hK K
  try simp only [Act.put, List.getElem_toArray, List.getElem_cons_succ, List.getElem_cons_zero, List.setIfInBounds_toArray, List.set_cons_zero, List.set_cons_succ]
  refine wpAnyS_ready (rs := [8]) (by kernel_rfl) (by simp) (AllReadyS.cons false (by kernel_rfl) (o := _) rfl (fun K hK => ?_) AllReadyS.nil)
  go_simp
  refine (cc _ hb02).mono ?_
  rintro en w3 ⟨v3, rfl, ho3, hb3⟩
  have hb03 : Below W0.heap.size W0 w3 := hb02.trans (hb3.mono hb02.size)
  have ho13 := own_below ho12 hb3
  have ho23 := own_below ho2 hb3
  obtain ⟨A3, q3, rfl⟩ := own_slice ho3
  obtain ⟨kt, kr, hbw⟩ := HK.out _ hb03
  have k1' := kt.set_ 0 (.slice A1 ty.length q1)
  have k2' := k1'.set_ 2 (.slice A2 es.length q2)
  have k3' := k2'.set_ 1 (.slice A3 F.length q3)
  obtain ⟨⟨t0, t1, t2⟩, tf⟩ := blk_cells3 kt
  have tf0 := tf 0
  have tf1 := tf 1
  have tf2 := tf 2
  refine hK.out _ _ (And.intro (cell_below' hb03 c0 hlt0) (And.intro (cell_below' hb03 c1 hlt0) (cell_below' hb03 c2 hlt0))) (fun hHeld => ?_)
  clear hK K
  try simp only [Act.put, List.getElem_toArray, List.getElem_cons_succ, List.getElem_cons_zero, List.setIfInBounds_toArray, List.set_cons_zero, List.set_cons_succ]
  refine wpAnyS_ready (rs := [10]) (by kernel_rfl) (by simp) (AllReadyS.cons true (by kernel_rfl) (o := _) rfl (fun K hK => ?_) AllReadyS.nil)
  go_simp
  refine hK.out _ _ trivial (fun hHeld => ?_)
  clear hK K
  try simp only [Act.put, List.getElem_toArray, List.getElem_cons_succ, List.getElem_cons_zero, List.setIfInBounds_toArray, List.set_cons_zero, List.set_cons_succ]
  refine wpAnyS_take' (i := 11) (oi := _) (v := ?_) rfl (by kernel_rfl) (by kernel_rfl) (by kernel_rfl) (by kernel_rfl) true (by kernel_rfl) (fun _ _ _ h => h) (Or.inl ⟨by rfl, ?_⟩) hHeld ?_
  rotate_left
  · intro w hSw; clear hSw; go_simp; try with_reducible rfl
  simp only [Act.put, List.getElem_toArray, List.getElem_cons_succ, List.getElem_cons_zero, List.setIfInBounds_toArray, List.set_cons_zero, List.set_cons_succ]
  refine wpAnyS_ready (rs := [12]) (by kernel_rfl) (by simp) (AllReadyS.cons true (by kernel_rfl) (o := _) rfl (fun K hK => ?_) AllReadyS.nil)
  go_simp
  refine hK.out _ _ trivial (fun hHeld => ?_)
  clear hK K
  try simp only [Act.put, List.getElem_toArray, List.getElem_cons_succ, List.getElem_cons_zero, List.setIfInBounds_toArray, List.set_cons_zero, List.set_cons_succ]
  refine wpAnyS_take' (i := 13) (oi := _) (v := ?_) rfl (by kernel_rfl) (by kernel_rfl) (by kernel_rfl) (by kernel_rfl) true (by kernel_rfl) (fun _ _ _ h => h) (Or.inl ⟨by rfl, ?_⟩) hHeld ?_
  rotate_left
  · intro w hSw; clear hSw; go_simp; try with_reducible rfl
  simp only [Act.put, List.getElem_toArray, List.getElem_cons_succ, List.getElem_cons_zero, List.setIfInBounds_toArray, List.set_cons_zero, List.set_cons_succ]
  refine wpAnyS_ready (rs := [14]) (by kernel_rfl) (by simp) (AllReadyS.cons true (by kernel_rfl) (o := _) rfl (fun K hK => ?_) AllReadyS.nil)
  go_simp
  refine hK.out _ _ trivial (fun hHeld => ?_)
  clear hK K
  try simp only [Act.put, List.getElem_toArray, List.getElem_cons_succ, List.getElem_cons_zero, List.setIfInBounds_toArray, List.set_cons_zero, List.set_cons_succ]
  refine wpAnyS_done (by kernel_rfl) ?_ _
  have hz0 : W0.heap.size ≤ w1.heap.size := hb01.size
  have hz1 : W0.heap.size ≤ w2.heap.size := hb02.size
  have hzB := hB.size
  have hI : ShO A1 ty.length q1 ty A2 es.length q2 es A3 F.length q3 w.heap.size 0 w.heap.size F F w (((w3.setCell ⟨w.heap.size, 0, none⟩ (.slice A1 ty.length q1)).setCell ⟨w.heap.size, 2, none⟩ (.slice A2 es.length q2)).setCell ⟨w.heap.size, 1, none⟩ (.slice A3 F.length q3)) := by
    have e1 := idFresh_own (base_le ho13 (show w.heap.size ≤ W0.heap.size from hB.size)) HTW.out
    have e2 := idFresh_own (base_le ho23 (show w.heap.size ≤ w1.heap.size by omega)) HEW.out
    have e3 := base_le ho3 (show w.heap.size ≤ w2.heap.size by omega)
    have e31 := e3.kept (grown_cell w3 w.heap.size 0 (.slice A1 ty.length q1)) (.inr (own_blk_ne e3 kt (by decide)))
    have e32 := e31.kept (grown_cell _ w.heap.size 2 (.slice A2 es.length q2)) (.inr (own_blk_ne e31 k1' (by decide)))
    have e33 := e32.kept (grown_cell _ w.heap.size 1 (.slice A3 F.length q3)) (.inr (own_blk_ne e32 k2' (by decide)))
    exact ⟨by simpa using k3', ((kr.far (p := ⟨w.heap.size, 0, none⟩) (by simp) _).far (p := ⟨w.heap.size, 2, none⟩) (by simp) _).far (p := ⟨w.heap.size, 1, none⟩) (by simp) _, e33,
      idFresh_cell (idFresh_cell (idFresh_cell e1 kt (by decide) _) k1' (by decide) _) k2' (by decide) _, idFresh_cell (idFresh_cell (idFresh_cell e2 kt (by decide) _) k1' (by decide) _) k2' (by decide) _, rfl, fun j x _ hx => hx, fun j x hj => absurd hj (by omega),
      ((hbw.setCell (p := ⟨w.heap.size, 0, none⟩) (Nat.le_refl _) _).setCell (p := ⟨w.heap.size, 2, none⟩) (Nat.le_refl _) _).setCell (p := ⟨w.heap.size, 1, none⟩) (Nat.le_refl _) _⟩
  have HI := Lib.hid hI
  clear hI k1' k2' k3' kt kr hbw ho1 ho2 ho3 ho12 ho13 ho23 tf c0 c1 c2 hb1 hb2 hb3 hb01 hb02 hb03 hHeld hz0 hz1 hzB cd1 cd2 cc
  go_upto_region 2 with fail
  generalize ((w3.setCell ⟨w.heap.size, 0, none⟩ (.slice A1 ty.length q1)).setCell ⟨w.heap.size, 2, none⟩ (.slice A2 es.length q2)).setCell ⟨w.heap.size, 1, none⟩ (.slice A3 F.length q3) = W5 at *
  clear t0 t1 t2 tf0 tf1 tf2
  obtain ⟨⟨t0, t1, t2⟩, _⟩ := blk_cells3 HI.out.kt
  have HCF := Lib.hid HCN.out
  go_upto_region 3 with fail
  clear t0 t1 t2
  go_loopw [19] (fun i wr => ∃ k : Nat, k ≤ F.length ∧ i = .int .i64 k ∧ ∃ F', ShO A1 ty.length q1 ty A2 es.length q2 es A3 F.length q3 w.heap.size k w.heap.size F F' w wr)
    (fun i _ => F.length - (intOf i).toNat)
  case atStart => exact ⟨0, Nat.zero_le _, rfl, F, HI.out⟩
  case round =>
    obtain ⟨k, hk, rfl, F', hS⟩ := hrel
    have hFB := HCN.out
    have hFl : F'.length = F.length := by have := congrArg List.length hS.fp; simpa using this
    obtain ⟨⟨t0, t1, t2⟩, _⟩ := blk_cells3 hS.kt
    by_cases hlt : k < F.length
    · have e1 := List.getElem?_eq_getElem (l := F') (i := k) (by omega)
      generalize F'[k]'(by omega) = x at e1
      have hx0 := hS.ol k x (Nat.le_refl _) e1
      have hxm := List.mem_of_getElem? hx0
      have hxo := (HCS.out x hxm).keep hS.b
      obtain ⟨g, rfl⟩ := own_form hS.own (by omega)
      obtain ⟨b0, off0, hA, _, cc0⟩ := cols_cells (Reads.of_own hS.own) e1
      injection hA with hA
      injection hA with hA hA2
      subst hA hA2
      rw [Nat.zero_add] at cc0
      obtain ⟨x0, x1, x2⟩ := cc0
      have vf := hS.own.frozenAt (k * 3 + 2)
      have i1 : (k : Int) < (F.length : Int) := by omega
      have cu := fun (W : World) (hb : Below wr.heap.size wr W) => clone_u x.A x.n x.c x.l W ((hxo.keep (hb.mono hS.b.size)).1.more (Nat.le_trans hS.b.size hb.size)) (HN4.out x hxm)
      have hwx : ∀ y ∈ x.l, Word y := hxo.2.2.2
      have HX := Lib.hid e1
      have HSS := Lib.hid hS
      have HWX := Lib.hid hwx
      have HK6 := Lib.hid (fun (W : World) (h6 : Below wr.heap.size wr W) => And.intro (blk_cells3 (blk_below hS.kt h6)).1.2.1 (And.intro ((own_below hS.own h6).frozenAt (k * 3 + 2)) (show ∃ u, W.cell? ⟨g, k * 3 + 2, none⟩ = some u from by
        obtain ⟨b1, off1, hA, _, cc1⟩ := cols_cells (Reads.of_own (own_below hS.own h6)) e1
        injection hA with hA
        injection hA with hA hA2
        subst hA hA2
        rw [Nat.zero_add] at cc1
        exact ⟨_, cc1.2.2⟩)))
      unfold OwnU at cu
      have HXE := Lib.hid (show (⟨x.W, x.R, x.A, x.n, x.c, x.l⟩ : Col) = x from rfl)
      obtain ⟨xW, xR, xA, xn, xc, xl⟩ := x
      simp only at *
      clear e1 hx0 hxm hxo hS hwx vf
      go_upto_region 5 with fail
      refine wp_region_stop 12 (fun b w' => match b with | true => True | false => w'.cell? ⟨w.heap.size, 1, none⟩ = some (.slice (some ⟨g, 0, none⟩) F.length q3) ∧ w'.cell? ⟨g, k * 3 + 2, none⟩ = some (.slice xA xn xc)) (by kernel_rfl) ⟨t1, x2⟩ (fun hHeld => ?_)
      refine wpAnyS_take (i := 0) (oi := _) (v := ?_) rfl (by kernel_rfl) (by kernel_rfl) (by kernel_rfl) (by kernel_rfl) (by kernel_rfl) (fun _ _ _ h => h) (Or.inl ⟨by rfl, ?_⟩) hHeld ?_
      rotate_left
      · intro w hSw; obtain ⟨s1, s2⟩ := hSw; go_simp; try with_reducible rfl
      simp only [Act.put, List.getElem_toArray, List.getElem_cons_succ, List.getElem_cons_zero, List.setIfInBounds_toArray, List.set_cons_zero, List.set_cons_succ]
      refine wpAnyS_take (i := 1) (oi := _) (v := ?_) rfl (by kernel_rfl) (by kernel_rfl) (by kernel_rfl) (by kernel_rfl) (by kernel_rfl) (fun _ _ _ h => h) (Or.inl ⟨by rfl, ?_⟩) hHeld ?_
      rotate_left
      · intro w hSw; obtain ⟨s1, s2⟩ := hSw; go_simp; try with_reducible rfl
      simp only [Act.put, List.getElem_toArray, List.getElem_cons_succ, List.getElem_cons_zero, List.setIfInBounds_toArray, List.set_cons_zero, List.set_cons_succ]
      refine wpAnyS_take (i := 2) (oi := _) (v := ?_) rfl (by kernel_rfl) (by kernel_rfl) (by kernel_rfl) (by kernel_rfl) (by kernel_rfl) (fun _ _ _ h => h) (Or.inl ⟨by rfl, ?_⟩) hHeld ?_
      rotate_left
      · intro w hSw; obtain ⟨s1, s2⟩ := hSw; go_simp; try with_reducible rfl
      simp only [Act.put, List.getElem_toArray, List.getElem_cons_succ, List.getElem_cons_zero, List.setIfInBounds_toArray, List.set_cons_zero, List.set_cons_succ]
      refine wpAnyS_take (i := 3) (oi := _) (v := ?_) rfl (by kernel_rfl) (by kernel_rfl) (by kernel_rfl) (by kernel_rfl) (by kernel_rfl) (fun _ _ _ h => h) (Or.inl ⟨by rfl, ?_⟩) hHeld ?_
      rotate_left
      · intro w hSw; obtain ⟨s1, s2⟩ := hSw; go_simp; try with_reducible rfl
      simp only [Act.put, List.getElem_toArray, List.getElem_cons_succ, List.getElem_cons_zero, List.setIfInBounds_toArray, List.set_cons_zero, List.set_cons_succ]
      refine wpAnyS_take (i := 4) (oi := _) (v := ?_) rfl (by kernel_rfl) (by kernel_rfl) (by kernel_rfl) (by kernel_rfl) (by kernel_rfl) (fun _ _ _ h => h) (Or.inl ⟨by rfl, ?_⟩) hHeld ?_
      rotate_left
      · intro w hSw; obtain ⟨s1, s2⟩ := hSw; go_simp; try with_reducible rfl
      simp only [Act.put, List.getElem_toArray, List.getElem_cons_succ, List.getElem_cons_zero, List.setIfInBounds_toArray, List.set_cons_zero, List.set_cons_succ]
      refine wpAnyS_take (i := 5) (oi := _) (v := ?_) rfl (by kernel_rfl) (by kernel_rfl) (by kernel_rfl) (by kernel_rfl) (by kernel_rfl) (fun _ _ _ h => h) (Or.inl ⟨by rfl, ?_⟩) hHeld ?_
      rotate_left
      · intro w hSw; obtain ⟨s1, s2⟩ := hSw; go_simp; try with_reducible rfl
      simp only [Act.put, List.getElem_toArray, List.getElem_cons_succ, List.getElem_cons_zero, List.setIfInBounds_toArray, List.set_cons_zero, List.set_cons_succ]
      refine wpAnyS_take (i := 6) (oi := _) (v := ?_) rfl (by kernel_rfl) (by kernel_rfl) (by kernel_rfl) (by kernel_rfl) (by kernel_rfl) (fun _ _ _ h => h) (Or.inl ⟨by rfl, ?_⟩) hHeld ?_
      rotate_left
      · intro w hSw; obtain ⟨s1, s2⟩ := hSw; go_simp; try with_reducible rfl
      simp only [Act.put, List.getElem_toArray, List.getElem_cons_succ, List.getElem_cons_zero, List.setIfInBounds_toArray, List.set_cons_zero, List.set_cons_succ]
      refine wpAnyS_take (i := 7) (oi := _) (v := ?_) rfl (by kernel_rfl) (by kernel_rfl) (by kernel_rfl) (by kernel_rfl) (by kernel_rfl) (fun _ _ _ h => h) (Or.inl ⟨by rfl, ?_⟩) hHeld ?_
      rotate_left
      · intro w hSw; obtain ⟨s1, s2⟩ := hSw; go_simp; try with_reducible rfl
      simp only [Act.put, List.getElem_toArray, List.getElem_cons_succ, List.getElem_cons_zero, List.setIfInBounds_toArray, List.set_cons_zero, List.set_cons_succ]
      refine wpAnyS_take (i := 8) (oi := _) (v := ?_) rfl (by kernel_rfl) (by kernel_rfl) (by kernel_rfl) (by kernel_rfl) (by kernel_rfl) (fun _ _ _ h => h) (Or.inl ⟨by rfl, ?_⟩) hHeld ?_
      rotate_left
      · intro w hSw; obtain ⟨s1, s2⟩ := hSw; go_simp; try with_reducible rfl
      simp only [Act.put, List.getElem_toArray, List.getElem_cons_succ, List.getElem_cons_zero, List.setIfInBounds_toArray, List.set_cons_zero, List.set_cons_succ]
      refine wpAnyS_ready (rs := [9]) (by kernel_rfl) (by simp) (AllReadyS.cons false (by kernel_rfl) (o := _) rfl (fun K hK => ?_) AllReadyS.nil)
      go_simp
      refine (cu _ (Below.refl _ _).drew).mono ?_
      rintro en w6 ⟨v6, rfl, ho6, hb6⟩
      have hb06 : Below wr.heap.size wr w6 := (Below.refl _ _).drew.trans hb6
      obtain ⟨A6, q6, rfl⟩ := own_slice ho6
      have hst := HSS.out.step HX.out hb06 HSS.out.b.size (colFresh_base (colFresh_own xW xR ho6 HWX.out) HSS.out.b.size)
      obtain ⟨y1, yf, u6, y2⟩ := HK6.out _ hb06
      have y2' : w6.cell? ⟨g, k * 3 + 2, none⟩ = some (.slice xA xn xc) := cell_below' hb06 x2 (World.block_lt_of_cell? wr _ x2)
      have HST := Lib.hid hst
      refine hK.out _ _ (And.intro y1 y2') (fun hHeld => ?_)
      clear hK K
      try simp only [Act.put, List.getElem_toArray, List.getElem_cons_succ, List.getElem_cons_zero, List.setIfInBounds_toArray, List.set_cons_zero, List.set_cons_succ]
      refine wpAnyS_take' (i := 10) (oi := _) (v := ?_) rfl (by kernel_rfl) (by kernel_rfl) (by kernel_rfl) (by kernel_rfl) false (by kernel_rfl) (fun _ _ _ h => h) (Or.inl ⟨by rfl, ?_⟩) hHeld ?_
      rotate_left
      · intro w hSw; clear hSw; go_simp; try with_reducible rfl
      simp only [Act.put, List.getElem_toArray, List.getElem_cons_succ, List.getElem_cons_zero, List.setIfInBounds_toArray, List.set_cons_zero, List.set_cons_succ]
      refine wpAnyS_take' (i := 11) (oi := _) (v := ?_) rfl (by kernel_rfl) (by kernel_rfl) (by kernel_rfl) (by kernel_rfl) false (by kernel_rfl) (fun _ _ _ h => h) (Or.inl ⟨by rfl, ?_⟩) hHeld ?_
      rotate_left
      · intro w hSw; clear hSw; go_simp; try with_reducible rfl
      simp only [Act.put, List.getElem_toArray, List.getElem_cons_succ, List.getElem_cons_zero, List.setIfInBounds_toArray, List.set_cons_zero, List.set_cons_succ]
      refine wpAnyS_ready (rs := [12]) (by kernel_rfl) (by simp) (AllReadyS.cons true (by kernel_rfl) (o := _) rfl (fun K hK => ?_) AllReadyS.nil)
      go_simp
      refine hK.out _ _ trivial (fun hHeld => ?_)
      clear hK K
      try simp only [Act.put, List.getElem_toArray, List.getElem_cons_succ, List.getElem_cons_zero, List.setIfInBounds_toArray, List.set_cons_zero, List.set_cons_succ]
      refine wpAnyS_done (by kernel_rfl) ?_ _
      clear hst hb6 hb06 ho6 cu hHeld t0 t1 t2 x0 x1 x2 y2 y2' y1 yf
      go_wp2_with fail
      go_roundw
      case rel => exact ⟨k + 1, by omega, by go_num, _, HST.out⟩
      case measure => simp [intOf]; omega
    · have hke : k = F.length := by omega
      subst hke
      have HSS := Lib.hid hS
      have i1 : ¬ ((F.length : Int) < (F.length : Int)) := by omega
      have kr := hS.kr
      obtain ⟨⟨r0, r1, r2⟩, rf⟩ := blk_cells3 kr
      have rf0 := rf 0
      have rf1 := rf 1
      have rf2 := rf 2
      clear hS rf
      go_wp2_with fail
      refine bodyPost_ret (v := .agg #[.slice A1 ty.length q1, .slice A3 F.length q3, .slice A2 es.length q2]) (by simp [results, Try.results101, go_sem, *]) rfl ?_
      have hS := HSS.out
      have hfr : TabFresh wr w.heap.size ⟨A1, ty.length, q1, ty, A3, F.length, q3, F', A2, es.length, q2, es⟩ := ⟨hS.ty, hS.own, fun x hx => by
        obtain ⟨j, hj⟩ := List.getElem?_of_mem hx
        exact hS.fr j x (by have h9 : j < F'.length := (List.getElem?_eq_some_iff.1 hj).1; omega) hj, hS.es⟩
      exact ⟨_, rfl, by rw [HPP.out]; unfold Tab.p; simp only; rw [hS.fp], hfr.set3 hS.kr _ _ _, below_set3 hS.b (by omega)⟩
end Go.Proofs.Ytbcbknajhdaneaa
