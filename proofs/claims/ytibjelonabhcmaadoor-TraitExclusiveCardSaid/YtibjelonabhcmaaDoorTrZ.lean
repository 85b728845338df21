/- What is proved: contracts of types' gather, at ids and at ints. -/
import Derived.Test.YtibjelonabhcmaaDoorTrY
import Derived.Test.YtibjelonabhcmaaDoorRound
namespace Go.Proofs.YtibjelonabhcmaaDoor
open Go.RowKit
set_option linter.unusedVariables false
set_option linter.unusedSimpArgs false
attribute [local go_sem] Oper.semAt_some
theorem info_int : (Tryd.prog.info? 3).map (fun i => (i.zero, i.size, i.bytes)) = some (some (.int .i64 0), 1, 8) := by kernel_rfl
theorem boxed_below {W W' : World} {B : Nat} {t : TypeId} {v : Value} (h : Boxed W B t v) (hb : Below W.heap.size W W') : Boxed W' B t v := (hb.block B h.lt).trans h
theorem own_below {w w' : World} {base n : Nat} {e : TypeId} {size : Nat} {v : Value} {xs : List Value} (h : w.ownsRow base e size v n xs) (hb : Below w.heap.size w w') : w'.ownsRow base e size v n xs :=
  ⟨h.1, h.2.imp id fun ⟨g, cap, cur, h1, h2, h3, h4⟩ => ⟨g, cap, cur, h1, h2, (hb.block g (Array.getElem?_eq_some_iff.1 h3).1).trans h3, h4⟩⟩
theorem keeps_below {w w' : World} (hb : Below w.heap.size w w') : KeepsOthers w w' := KeepsOthers.of_grownBy (below_none hb) (fun r o e => by cases e)
theorem noOut {α : Type} {B : Nat} {Kp : World → World → Prop} {I : List α → World → Prop} {Ix : Code → List α → World → Prop} {xs : List α} {W : World} : ¬ LetsOut (ownPostG B Kp I Ix xs W) := fun ⟨_, _, h⟩ => h
theorem lit_one (w : World) (t : TypeId) (v : Value) {q : Nat} (hq : w.heap.size = q) : Reads (w.alloc (.cells #[v] t)) (q + 1) 1 (some ⟨q, 0, none⟩) 1 [v] := by
  subst hq
  refine ⟨rfl, fun _ => ⟨_, rfl, by simp, fun j u hu => ?_⟩⟩
  rw [add_none, Nat.zero_add]
  refine (World.cell?_alloc_mark w #[v] t (0, 0) j).trans ?_
  rw [← Array.getElem?_toList]; exact hu
/-- a row of one's own of values made of ids -/
def OwnM (T : TypeId) (enc : WInt → Value) (ys : List WInt) (w : World) (e : Ending) (w' : World) : Prop := ∃ v, e = .returned v ∧ w'.ownsRow w.heap.size T 1 v ys.length (ys.map enc) ∧ Below w.heap.size w w'
set_option maxRecDepth 100000 in
set_option maxHeartbeats 8000000 in
theorem gather_id (sv : Value) (n₀ : Nat) (ys : List WInt) (g : Nat) (q : Int → Int) (w : World) (hn₀ : n₀ ≤ w.heap.size) (hs : Seqs sv n₀ ys w) (hg : ∀ args w, (callFunc g args).run Tryd.prog w = .ok (.enter g args) w)
    (hc : ∀ x, Word x → ∀ W, Calls Tryd.prog g #[.int .u64 x] W fun e w' => e = .returned (.int .u64 (q x)) ∧ Below W.heap.size W w') :
    Calls Tryd.prog 45 #[sv, .func (.func g) #[] #[]] w (OwnM 38 (fun x : WInt => Value.int .u64 (q x.1)) ys w) := by
  obtain ⟨bl, bh, rfl, hst⟩ := hs
  obtain ⟨i0, hi0, hz0, hz1, hz2⟩ := info_parts info_id
  refine (callsIn_wide (n := 5)).1 ?_
  refine callsIn_of_wp_marks Tryd.func45 rfl trivial ?_ rfl
  simp only [Tryd.ntmps45, List.size_toArray, List.length_cons, List.length_nil, Nat.reduceAdd, Nat.reduceSub, Array.replicate_succ, Array.replicate_zero, List.push_toArray, List.append_toArray, List.nil_append, List.cons_append]
  gi_wp2
  have bC := Boxed.new w 78 (.func (.func g) #[] #[])
  have bO := Boxed.new (w.alloc (.cells #[.func (.func g) #[] #[]] 78)) 35 (.slice none 0 0)
  rw [World.size_alloc] at bO
  have bC2 := bC.alloc (.cells #[.slice none 0 0] 35)
  have hB0 : Below w.heap.size w ((w.alloc (.cells #[.func (.func g) #[] #[]] 78)).alloc (.cells #[.slice none 0 0] 35)) := ((Below.refl _ w).alloc (Nat.le_refl _) _).alloc (by simp) _
  refine wpIn_rangeFunc_ownG (w0 := w) rfl (by omega) (gf := 76) (lb := #[.pointer (some ⟨bl, 0, none⟩), .pointer (some ⟨bh, 0, none⟩)]) rfl trivial (enters_of Tryd.func76 (by kernel_rfl) rfl)
    (hst (5 - 1) (by omega)) belowK_t (belowK_b (by simp; omega)) hB0 (fun _ => rfl)
    (fun pre W => (∃ v, Boxed W (w.heap.size + 1) 35 v ∧ W.ownsRow w.heap.size 38 1 v pre.length (pre.map (fun x : WInt => Value.int .u64 (q x.1))) ∧ True) ∧ Boxed W w.heap.size 78 (.func (.func g) #[] #[]) ∧ Below w.heap.size w W)
    (fun _ _ _ => False)
    (OwnFrom.and (Own.from (holdsRow_own w.heap.size (w.heap.size + 1) 35 38 1 (fun pre : List WInt => pre.length) (fun pre => pre.map (fun x : WInt => Value.int .u64 (q x.1))) (fun _ _ => True)) _) (OwnFrom.and (Own.from (boxed_own _ _ _) _) (ownFrom_below (Nat.le_refl _) (by simp; omega))))
    (fun _ _ _ _ _ hs _ _ => hs)
    ⟨⟨_, bO, World.ownsRow_nil _ _ _ _, trivial⟩, bC2, hB0⟩
    (fun x => { tmps := #[.func (.func 76) #[] #[.pointer (some ⟨bl, 0, none⟩), .pointer (some ⟨bh, 0, none⟩)], .func (.func g) #[] #[], undef, .pointer (some ⟨w.heap.size, 0, none⟩), .slice none 0 0, .pointer (some ⟨w.heap.size + 1, 0, none⟩), .int .u64 x.1, .func (.func 76) #[] #[.pointer (some ⟨bl, 0, none⟩), .pointer (some ⟨bh, 0, none⟩)], .int .u64 x.1, undef, undef, undef, undef, undef, undef, undef], defers := [] }) ?assign ?body ?done ?stop
  case assign =>
    intro l x W K hK
    unfold encW
    gi_wp2
    exact hK
  case body =>
    rintro l pre x W ⟨⟨v, hv, hrow, _⟩, hvc, hB⟩ hlt
    have hc1 := hv.cell
    have hc2 := hvc.cell
    have hcx := fun W => hc x.1 x.2 W
    obtain ⟨A1, c1, rfl⟩ := own_slice hrow
    gi_wp2
    have hlen : pre.length ≤ 12 := by omega
    have HV := Lib.hid hv
    have HR := Lib.hid hrow
    have HVC := Lib.hid hvc
    clear hv hrow hvc
    refine wpIn_round_held (S := fun w' => w'.cell? ⟨w.heap.size, 0, none⟩ = some (.func (.func g) #[] #[]) ∧ Boxed w' w.heap.size 78 (.func (.func g) #[] #[])) (by kernel_rfl) (fun hq => by obtain ⟨_, _, h⟩ := hq; exact h) (by kernel_rfl) ⟨hc2, HVC.out⟩ (fun hHeld => ?_)
    refine wpAnyH_take (i := 1) (oi := _) (v := ?_) rfl (by kernel_rfl) (by kernel_rfl) (by kernel_rfl) (fun _ _ _ h => h) (Or.inl ⟨by rfl, ?_⟩) hHeld ?_
    rotate_left
    · intro w hSw; obtain ⟨hs1, hs2⟩ := hSw; go_simp; try with_reducible rfl
    simp only [Act.put, List.getElem_toArray, List.getElem_cons_succ, List.getElem_cons_zero, List.setIfInBounds_toArray, List.set_cons_zero, List.set_cons_succ]
    refine wpAnyH_take (i := 2) (oi := _) (v := ?_) rfl (by kernel_rfl) (by kernel_rfl) (by kernel_rfl) (fun _ _ _ h => h) (Or.inl ⟨by rfl, ?_⟩) hHeld ?_
    rotate_left
    · intro w hSw; obtain ⟨hs1, hs2⟩ := hSw; go_simp; try with_reducible rfl
    simp only [Act.put, List.getElem_toArray, List.getElem_cons_succ, List.getElem_cons_zero, List.setIfInBounds_toArray, List.set_cons_zero, List.set_cons_succ]
    refine wpAnyH_ready (rs := [0, 3]) (by kernel_rfl) (by simp) (AllReadyH.cons (o := _) rfl (fun K hK => ?_) (AllReadyH.cons (o := _) rfl (fun K hK => ?_) AllReadyH.nil))
    · go_simp
      refine hK.out _ _ hHeld (fun hHeld => ?_)
      clear hK K
      try simp only [Act.put, List.getElem_toArray, List.getElem_cons_succ, List.getElem_cons_zero, List.setIfInBounds_toArray, List.set_cons_zero, List.set_cons_succ]
      refine wpAnyH_ready (rs := [3]) (by kernel_rfl) (by simp) (AllReadyH.cons (o := _) rfl (fun K hK => ?_) AllReadyH.nil)
      go_simp
      refine (hcx _).mono ?_
      rintro e w2 ⟨rfl, hb2⟩
      have hb2 : Below W.heap.size W w2 := (Below.refl W.heap.size W).drew.trans hb2
      have hHd := (⟨cell_below' hb2 hc2 (Boxed.lt HVC.out), boxed_below HVC.out hb2⟩ : w2.cell? ⟨w.heap.size, 0, none⟩ = some (.func (.func g) #[] #[]) ∧ Boxed w2 w.heap.size 78 (.func (.func g) #[] #[]))
      refine hK.out _ _ hHd (fun hHeld => ?_)
      have hv2 : Boxed w2 _ _ _ := boxed_below HV.out hb2
      have hrow2 := own_below HR.out hb2
      have hc12 := hv2.cell
      clear hK K
      try simp only [Act.put, List.getElem_toArray, List.getElem_cons_succ, List.getElem_cons_zero, List.setIfInBounds_toArray, List.set_cons_zero, List.set_cons_succ]
      refine wpAnyH_ready (rs := [4]) (by kernel_rfl) (by simp) (AllReadyH.cons (o := _) rfl (fun K hK => ?_) AllReadyH.nil)
      go_simp
      have hc13 := (Boxed.alloc hv2 (Obj.cells #[Value.int .u64 (q x.1)] 38)).cell
      refine hK.out _ _ ⟨(hHeld.2.alloc _).cell, hHeld.2.alloc _⟩ (fun hHeld => ?_)
      clear hK K
      try simp only [Act.put, List.getElem_toArray, List.getElem_cons_succ, List.getElem_cons_zero, List.setIfInBounds_toArray, List.set_cons_zero, List.set_cons_succ]
      refine wpAnyH_ready (rs := [5]) (by kernel_rfl) (by simp) (AllReadyH.cons (o := _) rfl (fun K hK => ?_) AllReadyH.nil)
      refine step_append_any _ rfl (.tmp 9) (.tmp 13) 35 rfl w.heap.size 38 i0 _ 1 8 Tryd.underlying35 hi0 hz0 hz1 hz2 rfl (by omega) _ pre.length _ (by rfl) (hrow2.alloc _) (w2.heap.size + 1) (some ⟨w2.heap.size, 0, none⟩) 1 1 [Value.int .u64 (q x.1)] (by rfl) (lit_one _ _ _ rfl) (by simp [Value.oneCell']) (by simp only [maxLen]; omega) (by omega) (by have := hB.size; have := hb2.size; simp at this ⊢; omega) ?_
      intro v3 w3 hown3 hg3 hat3
      obtain ⟨g3, cap3, rfl⟩ := ownsRow_succ hown3
      obtain ⟨hv3, hv4, hr4, hk4, hb4⟩ := hv2.appended (by decide) hrow2 (by have := hB.size; have := hb2.size; simp at this ⊢; omega) (by omega) hown3 hg3
      have hvc3 := hHeld.2.kept hg3 (hHeld.2.not_row (by decide) (hrow2.alloc _))
      refine hK.out _ _ ⟨hvc3.cell, hvc3⟩ (fun hHeld => ?_)
      have hc3 := hv3.cell
      have hf3 := hv3.frozen
      have hne3 : w.heap.size ≠ w.heap.size + 1 := by omega
      clear hK K
      try simp only [Act.put, List.getElem_toArray, List.getElem_cons_succ, List.getElem_cons_zero, List.setIfInBounds_toArray, List.set_cons_zero, List.set_cons_succ]
      refine wpAnyH_ready (rs := [6]) (by kernel_rfl) (by simp) (AllReadyH.cons (o := _) rfl (fun K hK => ?_) AllReadyH.nil)
      go_simp
      have hvc4 := hvc3.kept (grownBy_setCell' w3 (w.heap.size + 1) (.slice (some ⟨g3, 0, none⟩) (pre.length + 1) cap3)) (by simp)
      refine hK.out _ _ ⟨hvc4.cell, hvc4⟩ (fun hHeld => ?_)
      clear hK K
      try simp only [Act.put, List.getElem_toArray, List.getElem_cons_succ, List.getElem_cons_zero, List.setIfInBounds_toArray, List.set_cons_zero, List.set_cons_succ]
      refine wpAnyH_done (by kernel_rfl) ?_ _
      have hbW := hb2
      have hbN : Below w.heap.size W w2 := hbW.mono hB.size
      exact ⟨((keeps_below hbW).trans hk4).from _, (hbN.trans hb4).mono hn₀, ⟨_, hv4, by simpa using hr4, trivial⟩, hvc4, hB.trans (hbN.trans hb4)⟩
    · go_simp
      refine (hcx _).mono ?_
      rintro e w2 ⟨rfl, hb2⟩
      have hb2 : Below W.heap.size W w2 := (Below.refl W.heap.size W).drew.trans hb2
      have hHd := (⟨cell_below' hb2 hc2 (Boxed.lt HVC.out), boxed_below HVC.out hb2⟩ : w2.cell? ⟨w.heap.size, 0, none⟩ = some (.func (.func g) #[] #[]) ∧ Boxed w2 w.heap.size 78 (.func (.func g) #[] #[]))
      refine hK.out _ _ hHd (fun hHeld => ?_)
      have hv2 : Boxed w2 _ _ _ := boxed_below HV.out hb2
      have hrow2 := own_below HR.out hb2
      have hc12 := hv2.cell
      clear hK K
      try simp only [Act.put, List.getElem_toArray, List.getElem_cons_succ, List.getElem_cons_zero, List.setIfInBounds_toArray, List.set_cons_zero, List.set_cons_succ]
      refine wpAnyH_ready (rs := [0, 4]) (by kernel_rfl) (by simp) (AllReadyH.cons (o := _) rfl (fun K hK => ?_) (AllReadyH.cons (o := _) rfl (fun K hK => ?_) AllReadyH.nil))
      · go_simp
        refine hK.out _ _ hHeld (fun hHeld => ?_)
        clear hK K
        try simp only [Act.put, List.getElem_toArray, List.getElem_cons_succ, List.getElem_cons_zero, List.setIfInBounds_toArray, List.set_cons_zero, List.set_cons_succ]
        refine wpAnyH_ready (rs := [4]) (by kernel_rfl) (by simp) (AllReadyH.cons (o := _) rfl (fun K hK => ?_) AllReadyH.nil)
        go_simp
        have hc13 := (Boxed.alloc hv2 (Obj.cells #[Value.int .u64 (q x.1)] 38)).cell
        refine hK.out _ _ ⟨(hHeld.2.alloc _).cell, hHeld.2.alloc _⟩ (fun hHeld => ?_)
        clear hK K
        try simp only [Act.put, List.getElem_toArray, List.getElem_cons_succ, List.getElem_cons_zero, List.setIfInBounds_toArray, List.set_cons_zero, List.set_cons_succ]
        refine wpAnyH_ready (rs := [5]) (by kernel_rfl) (by simp) (AllReadyH.cons (o := _) rfl (fun K hK => ?_) AllReadyH.nil)
        refine step_append_any _ rfl (.tmp 9) (.tmp 13) 35 rfl w.heap.size 38 i0 _ 1 8 Tryd.underlying35 hi0 hz0 hz1 hz2 rfl (by omega) _ pre.length _ (by rfl) (hrow2.alloc _) (w2.heap.size + 1) (some ⟨w2.heap.size, 0, none⟩) 1 1 [Value.int .u64 (q x.1)] (by rfl) (lit_one _ _ _ rfl) (by simp [Value.oneCell']) (by simp only [maxLen]; omega) (by omega) (by have := hB.size; have := hb2.size; simp at this ⊢; omega) ?_
        intro v3 w3 hown3 hg3 hat3
        obtain ⟨g3, cap3, rfl⟩ := ownsRow_succ hown3
        obtain ⟨hv3, hv4, hr4, hk4, hb4⟩ := hv2.appended (by decide) hrow2 (by have := hB.size; have := hb2.size; simp at this ⊢; omega) (by omega) hown3 hg3
        have hvc3 := hHeld.2.kept hg3 (hHeld.2.not_row (by decide) (hrow2.alloc _))
        refine hK.out _ _ ⟨hvc3.cell, hvc3⟩ (fun hHeld => ?_)
        have hc3 := hv3.cell
        have hf3 := hv3.frozen
        have hne3 : w.heap.size ≠ w.heap.size + 1 := by omega
        clear hK K
        try simp only [Act.put, List.getElem_toArray, List.getElem_cons_succ, List.getElem_cons_zero, List.setIfInBounds_toArray, List.set_cons_zero, List.set_cons_succ]
        refine wpAnyH_ready (rs := [6]) (by kernel_rfl) (by simp) (AllReadyH.cons (o := _) rfl (fun K hK => ?_) AllReadyH.nil)
        go_simp
        have hvc4 := hvc3.kept (grownBy_setCell' w3 (w.heap.size + 1) (.slice (some ⟨g3, 0, none⟩) (pre.length + 1) cap3)) (by simp)
        refine hK.out _ _ ⟨hvc4.cell, hvc4⟩ (fun hHeld => ?_)
        clear hK K
        try simp only [Act.put, List.getElem_toArray, List.getElem_cons_succ, List.getElem_cons_zero, List.setIfInBounds_toArray, List.set_cons_zero, List.set_cons_succ]
        refine wpAnyH_done (by kernel_rfl) ?_ _
        have hbW := hb2
        have hbN : Below w.heap.size W w2 := hbW.mono hB.size
        exact ⟨((keeps_below hbW).trans hk4).from _, (hbN.trans hb4).mono hn₀, ⟨_, hv4, by simpa using hr4, trivial⟩, hvc4, hB.trans (hbN.trans hb4)⟩
      · go_simp
        have hc13 := (Boxed.alloc hv2 (Obj.cells #[Value.int .u64 (q x.1)] 38)).cell
        refine hK.out _ _ ⟨(hHeld.2.alloc _).cell, hHeld.2.alloc _⟩ (fun hHeld => ?_)
        clear hK K
        try simp only [Act.put, List.getElem_toArray, List.getElem_cons_succ, List.getElem_cons_zero, List.setIfInBounds_toArray, List.set_cons_zero, List.set_cons_succ]
        refine wpAnyH_ready (rs := [0]) (by kernel_rfl) (by simp) (AllReadyH.cons (o := _) rfl (fun K hK => ?_) AllReadyH.nil)
        go_simp
        refine hK.out _ _ hHeld (fun hHeld => ?_)
        clear hK K
        try simp only [Act.put, List.getElem_toArray, List.getElem_cons_succ, List.getElem_cons_zero, List.setIfInBounds_toArray, List.set_cons_zero, List.set_cons_succ]
        refine wpAnyH_ready (rs := [5]) (by kernel_rfl) (by simp) (AllReadyH.cons (o := _) rfl (fun K hK => ?_) AllReadyH.nil)
        refine step_append_any _ rfl (.tmp 9) (.tmp 13) 35 rfl w.heap.size 38 i0 _ 1 8 Tryd.underlying35 hi0 hz0 hz1 hz2 rfl (by omega) _ pre.length _ (by rfl) (hrow2.alloc _) (w2.heap.size + 1) (some ⟨w2.heap.size, 0, none⟩) 1 1 [Value.int .u64 (q x.1)] (by rfl) (lit_one _ _ _ rfl) (by simp [Value.oneCell']) (by simp only [maxLen]; omega) (by omega) (by have := hB.size; have := hb2.size; simp at this ⊢; omega) ?_
        intro v3 w3 hown3 hg3 hat3
        obtain ⟨g3, cap3, rfl⟩ := ownsRow_succ hown3
        obtain ⟨hv3, hv4, hr4, hk4, hb4⟩ := hv2.appended (by decide) hrow2 (by have := hB.size; have := hb2.size; simp at this ⊢; omega) (by omega) hown3 hg3
        have hvc3 := hHeld.2.kept hg3 (hHeld.2.not_row (by decide) (hrow2.alloc _))
        refine hK.out _ _ ⟨hvc3.cell, hvc3⟩ (fun hHeld => ?_)
        have hc3 := hv3.cell
        have hf3 := hv3.frozen
        have hne3 : w.heap.size ≠ w.heap.size + 1 := by omega
        clear hK K
        try simp only [Act.put, List.getElem_toArray, List.getElem_cons_succ, List.getElem_cons_zero, List.setIfInBounds_toArray, List.set_cons_zero, List.set_cons_succ]
        refine wpAnyH_ready (rs := [6]) (by kernel_rfl) (by simp) (AllReadyH.cons (o := _) rfl (fun K hK => ?_) AllReadyH.nil)
        go_simp
        have hvc4 := hvc3.kept (grownBy_setCell' w3 (w.heap.size + 1) (.slice (some ⟨g3, 0, none⟩) (pre.length + 1) cap3)) (by simp)
        refine hK.out _ _ ⟨hvc4.cell, hvc4⟩ (fun hHeld => ?_)
        clear hK K
        try simp only [Act.put, List.getElem_toArray, List.getElem_cons_succ, List.getElem_cons_zero, List.setIfInBounds_toArray, List.set_cons_zero, List.set_cons_succ]
        refine wpAnyH_done (by kernel_rfl) ?_ _
        have hbW := hb2
        have hbN : Below w.heap.size W w2 := hbW.mono hB.size
        exact ⟨((keeps_below hbW).trans hk4).from _, (hbN.trans hb4).mono hn₀, ⟨_, hv4, by simpa using hr4, trivial⟩, hvc4, hB.trans (hbN.trans hb4)⟩
  case done =>
    rintro D ys' W hD rfl ⟨⟨v, hv, hrow, _⟩, hvc, hB⟩ hK
    have hc := hv.cell
    obtain ⟨A1, c1, rfl⟩ := own_slice hrow
    gi_wp2
    refine ⟨by simp, .inl ⟨_, _, rfl, run_takeDeferred hK, ?_⟩⟩
    exact ⟨_, results_tmp rfl _ _ _, _, rfl, ownsRow_putObj hrow _ hK rfl, hB.trans (belowK_b (w := w) (Nat.le_refl _) W D _ _ (by simp at hD; omega) hK rfl rfl)⟩
  case stop =>
    rintro D c pre W _ _ h _
    exact h.elim
set_option maxRecDepth 100000 in
set_option maxHeartbeats 8000000 in
theorem gather_int (sv : Value) (n₀ : Nat) (ys : List WInt) (g : Nat) (q : Int → Int) (w : World) (hn₀ : n₀ ≤ w.heap.size) (hs : Seqs sv n₀ ys w) (hg : ∀ args w, (callFunc g args).run Tryd.prog w = .ok (.enter g args) w)
    (hc : ∀ x, Word x → ∀ W, Calls Tryd.prog g #[.int .u64 x] W fun e w' => e = .returned (.int .i64 (q x)) ∧ Below W.heap.size W w') :
    Calls Tryd.prog 61 #[sv, .func (.func g) #[] #[]] w (OwnM 3 (fun x : WInt => Value.int .i64 (q x.1)) ys w) := by
  obtain ⟨bl, bh, rfl, hst⟩ := hs
  obtain ⟨i0, hi0, hz0, hz1, hz2⟩ := info_parts info_int
  refine (callsIn_wide (n := 5)).1 ?_
  refine callsIn_of_wp_marks Tryd.func61 rfl trivial ?_ rfl
  simp only [Tryd.ntmps61, List.size_toArray, List.length_cons, List.length_nil, Nat.reduceAdd, Nat.reduceSub, Array.replicate_succ, Array.replicate_zero, List.push_toArray, List.append_toArray, List.nil_append, List.cons_append]
  gi_wp2
  have bC := Boxed.new w 81 (.func (.func g) #[] #[])
  have bO := Boxed.new (w.alloc (.cells #[.func (.func g) #[] #[]] 81)) 49 (.slice none 0 0)
  rw [World.size_alloc] at bO
  have bC2 := bC.alloc (.cells #[.slice none 0 0] 49)
  have hB0 : Below w.heap.size w ((w.alloc (.cells #[.func (.func g) #[] #[]] 81)).alloc (.cells #[.slice none 0 0] 49)) := ((Below.refl _ w).alloc (Nat.le_refl _) _).alloc (by simp) _
  refine wpIn_rangeFunc_ownG (w0 := w) rfl (by omega) (gf := 76) (lb := #[.pointer (some ⟨bl, 0, none⟩), .pointer (some ⟨bh, 0, none⟩)]) rfl trivial (enters_of Tryd.func76 (by kernel_rfl) rfl)
    (hst (5 - 1) (by omega)) belowK_t (belowK_b (by simp; omega)) hB0 (fun _ => rfl)
    (fun pre W => (∃ v, Boxed W (w.heap.size + 1) 49 v ∧ W.ownsRow w.heap.size 3 1 v pre.length (pre.map (fun x : WInt => Value.int .i64 (q x.1))) ∧ True) ∧ Boxed W w.heap.size 81 (.func (.func g) #[] #[]) ∧ Below w.heap.size w W)
    (fun _ _ _ => False)
    (OwnFrom.and (Own.from (holdsRow_own w.heap.size (w.heap.size + 1) 49 3 1 (fun pre : List WInt => pre.length) (fun pre => pre.map (fun x : WInt => Value.int .i64 (q x.1))) (fun _ _ => True)) _) (OwnFrom.and (Own.from (boxed_own _ _ _) _) (ownFrom_below (Nat.le_refl _) (by simp; omega))))
    (fun _ _ _ _ _ hs _ _ => hs)
    ⟨⟨_, bO, World.ownsRow_nil _ _ _ _, trivial⟩, bC2, hB0⟩
    (fun x => { tmps := #[.func (.func 76) #[] #[.pointer (some ⟨bl, 0, none⟩), .pointer (some ⟨bh, 0, none⟩)], .func (.func g) #[] #[], undef, .pointer (some ⟨w.heap.size, 0, none⟩), .slice none 0 0, .pointer (some ⟨w.heap.size + 1, 0, none⟩), .int .u64 x.1, .func (.func 76) #[] #[.pointer (some ⟨bl, 0, none⟩), .pointer (some ⟨bh, 0, none⟩)], .int .u64 x.1, undef, undef, undef, undef, undef, undef, undef], defers := [] }) ?assign ?body ?done ?stop
  case assign =>
    intro l x W K hK
    unfold encW
    gi_wp2
    exact hK
  case body =>
    rintro l pre x W ⟨⟨v, hv, hrow, _⟩, hvc, hB⟩ hlt
    have hc1 := hv.cell
    have hc2 := hvc.cell
    have hcx := fun W => hc x.1 x.2 W
    obtain ⟨A1, c1, rfl⟩ := own_slice hrow
    gi_wp2
    have hlen : pre.length ≤ 12 := by omega
    have HV := Lib.hid hv
    have HR := Lib.hid hrow
    have HVC := Lib.hid hvc
    clear hv hrow hvc
    refine wpIn_round_held (S := fun w' => w'.cell? ⟨w.heap.size, 0, none⟩ = some (.func (.func g) #[] #[]) ∧ Boxed w' w.heap.size 81 (.func (.func g) #[] #[])) (by kernel_rfl) (fun hq => by obtain ⟨_, _, h⟩ := hq; exact h) (by kernel_rfl) ⟨hc2, HVC.out⟩ (fun hHeld => ?_)
    refine wpAnyH_take (i := 1) (oi := _) (v := ?_) rfl (by kernel_rfl) (by kernel_rfl) (by kernel_rfl) (fun _ _ _ h => h) (Or.inl ⟨by rfl, ?_⟩) hHeld ?_
    rotate_left
    · intro w hSw; obtain ⟨hs1, hs2⟩ := hSw; go_simp; try with_reducible rfl
    simp only [Act.put, List.getElem_toArray, List.getElem_cons_succ, List.getElem_cons_zero, List.setIfInBounds_toArray, List.set_cons_zero, List.set_cons_succ]
    refine wpAnyH_take (i := 2) (oi := _) (v := ?_) rfl (by kernel_rfl) (by kernel_rfl) (by kernel_rfl) (fun _ _ _ h => h) (Or.inl ⟨by rfl, ?_⟩) hHeld ?_
    rotate_left
    · intro w hSw; obtain ⟨hs1, hs2⟩ := hSw; go_simp; try with_reducible rfl
    simp only [Act.put, List.getElem_toArray, List.getElem_cons_succ, List.getElem_cons_zero, List.setIfInBounds_toArray, List.set_cons_zero, List.set_cons_succ]
    refine wpAnyH_ready (rs := [0, 3]) (by kernel_rfl) (by simp) (AllReadyH.cons (o := _) rfl (fun K hK => ?_) (AllReadyH.cons (o := _) rfl (fun K hK => ?_) AllReadyH.nil))
    · go_simp
      refine hK.out _ _ hHeld (fun hHeld => ?_)
      clear hK K
      try simp only [Act.put, List.getElem_toArray, List.getElem_cons_succ, List.getElem_cons_zero, List.setIfInBounds_toArray, List.set_cons_zero, List.set_cons_succ]
      refine wpAnyH_ready (rs := [3]) (by kernel_rfl) (by simp) (AllReadyH.cons (o := _) rfl (fun K hK => ?_) AllReadyH.nil)
      go_simp
      refine (hcx _).mono ?_
      rintro e w2 ⟨rfl, hb2⟩
      have hb2 : Below W.heap.size W w2 := (Below.refl W.heap.size W).drew.trans hb2
      have hHd := (⟨cell_below' hb2 hc2 (Boxed.lt HVC.out), boxed_below HVC.out hb2⟩ : w2.cell? ⟨w.heap.size, 0, none⟩ = some (.func (.func g) #[] #[]) ∧ Boxed w2 w.heap.size 81 (.func (.func g) #[] #[]))
      refine hK.out _ _ hHd (fun hHeld => ?_)
      have hv2 : Boxed w2 _ _ _ := boxed_below HV.out hb2
      have hrow2 := own_below HR.out hb2
      have hc12 := hv2.cell
      clear hK K
      try simp only [Act.put, List.getElem_toArray, List.getElem_cons_succ, List.getElem_cons_zero, List.setIfInBounds_toArray, List.set_cons_zero, List.set_cons_succ]
      refine wpAnyH_ready (rs := [4]) (by kernel_rfl) (by simp) (AllReadyH.cons (o := _) rfl (fun K hK => ?_) AllReadyH.nil)
      go_simp
      have hc13 := (Boxed.alloc hv2 (Obj.cells #[Value.int .i64 (q x.1)] 3)).cell
      refine hK.out _ _ ⟨(hHeld.2.alloc _).cell, hHeld.2.alloc _⟩ (fun hHeld => ?_)
      clear hK K
      try simp only [Act.put, List.getElem_toArray, List.getElem_cons_succ, List.getElem_cons_zero, List.setIfInBounds_toArray, List.set_cons_zero, List.set_cons_succ]
      refine wpAnyH_ready (rs := [5]) (by kernel_rfl) (by simp) (AllReadyH.cons (o := _) rfl (fun K hK => ?_) AllReadyH.nil)
      refine step_append_any _ rfl (.tmp 9) (.tmp 13) 49 rfl w.heap.size 3 i0 _ 1 8 Tryd.underlying49 hi0 hz0 hz1 hz2 rfl (by omega) _ pre.length _ (by rfl) (hrow2.alloc _) (w2.heap.size + 1) (some ⟨w2.heap.size, 0, none⟩) 1 1 [Value.int .i64 (q x.1)] (by rfl) (lit_one _ _ _ rfl) (by simp [Value.oneCell']) (by simp only [maxLen]; omega) (by omega) (by have := hB.size; have := hb2.size; simp at this ⊢; omega) ?_
      intro v3 w3 hown3 hg3 hat3
      obtain ⟨g3, cap3, rfl⟩ := ownsRow_succ hown3
      obtain ⟨hv3, hv4, hr4, hk4, hb4⟩ := hv2.appended (by decide) hrow2 (by have := hB.size; have := hb2.size; simp at this ⊢; omega) (by omega) hown3 hg3
      have hvc3 := hHeld.2.kept hg3 (hHeld.2.not_row (by decide) (hrow2.alloc _))
      refine hK.out _ _ ⟨hvc3.cell, hvc3⟩ (fun hHeld => ?_)
      have hc3 := hv3.cell
      have hf3 := hv3.frozen
      have hne3 : w.heap.size ≠ w.heap.size + 1 := by omega
      clear hK K
      try simp only [Act.put, List.getElem_toArray, List.getElem_cons_succ, List.getElem_cons_zero, List.setIfInBounds_toArray, List.set_cons_zero, List.set_cons_succ]
      refine wpAnyH_ready (rs := [6]) (by kernel_rfl) (by simp) (AllReadyH.cons (o := _) rfl (fun K hK => ?_) AllReadyH.nil)
      go_simp
      have hvc4 := hvc3.kept (grownBy_setCell' w3 (w.heap.size + 1) (.slice (some ⟨g3, 0, none⟩) (pre.length + 1) cap3)) (by simp)
      refine hK.out _ _ ⟨hvc4.cell, hvc4⟩ (fun hHeld => ?_)
      clear hK K
      try simp only [Act.put, List.getElem_toArray, List.getElem_cons_succ, List.getElem_cons_zero, List.setIfInBounds_toArray, List.set_cons_zero, List.set_cons_succ]
      refine wpAnyH_done (by kernel_rfl) ?_ _
      have hbW := hb2
      have hbN : Below w.heap.size W w2 := hbW.mono hB.size
      exact ⟨((keeps_below hbW).trans hk4).from _, (hbN.trans hb4).mono hn₀, ⟨_, hv4, by simpa using hr4, trivial⟩, hvc4, hB.trans (hbN.trans hb4)⟩
    · go_simp
      refine (hcx _).mono ?_
      rintro e w2 ⟨rfl, hb2⟩
      have hb2 : Below W.heap.size W w2 := (Below.refl W.heap.size W).drew.trans hb2
      have hHd := (⟨cell_below' hb2 hc2 (Boxed.lt HVC.out), boxed_below HVC.out hb2⟩ : w2.cell? ⟨w.heap.size, 0, none⟩ = some (.func (.func g) #[] #[]) ∧ Boxed w2 w.heap.size 81 (.func (.func g) #[] #[]))
      refine hK.out _ _ hHd (fun hHeld => ?_)
      have hv2 : Boxed w2 _ _ _ := boxed_below HV.out hb2
      have hrow2 := own_below HR.out hb2
      have hc12 := hv2.cell
      clear hK K
      try simp only [Act.put, List.getElem_toArray, List.getElem_cons_succ, List.getElem_cons_zero, List.setIfInBounds_toArray, List.set_cons_zero, List.set_cons_succ]
      refine wpAnyH_ready (rs := [0, 4]) (by kernel_rfl) (by simp) (AllReadyH.cons (o := _) rfl (fun K hK => ?_) (AllReadyH.cons (o := _) rfl (fun K hK => ?_) AllReadyH.nil))
      · go_simp
        refine hK.out _ _ hHeld (fun hHeld => ?_)
        clear hK K
        try simp only [Act.put, List.getElem_toArray, List.getElem_cons_succ, List.getElem_cons_zero, List.setIfInBounds_toArray, List.set_cons_zero, List.set_cons_succ]
        refine wpAnyH_ready (rs := [4]) (by kernel_rfl) (by simp) (AllReadyH.cons (o := _) rfl (fun K hK => ?_) AllReadyH.nil)
        go_simp
        have hc13 := (Boxed.alloc hv2 (Obj.cells #[Value.int .i64 (q x.1)] 3)).cell
        refine hK.out _ _ ⟨(hHeld.2.alloc _).cell, hHeld.2.alloc _⟩ (fun hHeld => ?_)
        clear hK K
        try simp only [Act.put, List.getElem_toArray, List.getElem_cons_succ, List.getElem_cons_zero, List.setIfInBounds_toArray, List.set_cons_zero, List.set_cons_succ]
        refine wpAnyH_ready (rs := [5]) (by kernel_rfl) (by simp) (AllReadyH.cons (o := _) rfl (fun K hK => ?_) AllReadyH.nil)
        refine step_append_any _ rfl (.tmp 9) (.tmp 13) 49 rfl w.heap.size 3 i0 _ 1 8 Tryd.underlying49 hi0 hz0 hz1 hz2 rfl (by omega) _ pre.length _ (by rfl) (hrow2.alloc _) (w2.heap.size + 1) (some ⟨w2.heap.size, 0, none⟩) 1 1 [Value.int .i64 (q x.1)] (by rfl) (lit_one _ _ _ rfl) (by simp [Value.oneCell']) (by simp only [maxLen]; omega) (by omega) (by have := hB.size; have := hb2.size; simp at this ⊢; omega) ?_
        intro v3 w3 hown3 hg3 hat3
        obtain ⟨g3, cap3, rfl⟩ := ownsRow_succ hown3
        obtain ⟨hv3, hv4, hr4, hk4, hb4⟩ := hv2.appended (by decide) hrow2 (by have := hB.size; have := hb2.size; simp at this ⊢; omega) (by omega) hown3 hg3
        have hvc3 := hHeld.2.kept hg3 (hHeld.2.not_row (by decide) (hrow2.alloc _))
        refine hK.out _ _ ⟨hvc3.cell, hvc3⟩ (fun hHeld => ?_)
        have hc3 := hv3.cell
        have hf3 := hv3.frozen
        have hne3 : w.heap.size ≠ w.heap.size + 1 := by omega
        clear hK K
        try simp only [Act.put, List.getElem_toArray, List.getElem_cons_succ, List.getElem_cons_zero, List.setIfInBounds_toArray, List.set_cons_zero, List.set_cons_succ]
        refine wpAnyH_ready (rs := [6]) (by kernel_rfl) (by simp) (AllReadyH.cons (o := _) rfl (fun K hK => ?_) AllReadyH.nil)
        go_simp
        have hvc4 := hvc3.kept (grownBy_setCell' w3 (w.heap.size + 1) (.slice (some ⟨g3, 0, none⟩) (pre.length + 1) cap3)) (by simp)
        refine hK.out _ _ ⟨hvc4.cell, hvc4⟩ (fun hHeld => ?_)
        clear hK K
        try simp only [Act.put, List.getElem_toArray, List.getElem_cons_succ, List.getElem_cons_zero, List.setIfInBounds_toArray, List.set_cons_zero, List.set_cons_succ]
        refine wpAnyH_done (by kernel_rfl) ?_ _
        have hbW := hb2
        have hbN : Below w.heap.size W w2 := hbW.mono hB.size
        exact ⟨((keeps_below hbW).trans hk4).from _, (hbN.trans hb4).mono hn₀, ⟨_, hv4, by simpa using hr4, trivial⟩, hvc4, hB.trans (hbN.trans hb4)⟩
      · go_simp
        have hc13 := (Boxed.alloc hv2 (Obj.cells #[Value.int .i64 (q x.1)] 3)).cell
        refine hK.out _ _ ⟨(hHeld.2.alloc _).cell, hHeld.2.alloc _⟩ (fun hHeld => ?_)
        clear hK K
        try simp only [Act.put, List.getElem_toArray, List.getElem_cons_succ, List.getElem_cons_zero, List.setIfInBounds_toArray, List.set_cons_zero, List.set_cons_succ]
        refine wpAnyH_ready (rs := [0]) (by kernel_rfl) (by simp) (AllReadyH.cons (o := _) rfl (fun K hK => ?_) AllReadyH.nil)
        go_simp
        refine hK.out _ _ hHeld (fun hHeld => ?_)
        clear hK K
        try simp only [Act.put, List.getElem_toArray, List.getElem_cons_succ, List.getElem_cons_zero, List.setIfInBounds_toArray, List.set_cons_zero, List.set_cons_succ]
        refine wpAnyH_ready (rs := [5]) (by kernel_rfl) (by simp) (AllReadyH.cons (o := _) rfl (fun K hK => ?_) AllReadyH.nil)
        refine step_append_any _ rfl (.tmp 9) (.tmp 13) 49 rfl w.heap.size 3 i0 _ 1 8 Tryd.underlying49 hi0 hz0 hz1 hz2 rfl (by omega) _ pre.length _ (by rfl) (hrow2.alloc _) (w2.heap.size + 1) (some ⟨w2.heap.size, 0, none⟩) 1 1 [Value.int .i64 (q x.1)] (by rfl) (lit_one _ _ _ rfl) (by simp [Value.oneCell']) (by simp only [maxLen]; omega) (by omega) (by have := hB.size; have := hb2.size; simp at this ⊢; omega) ?_
        intro v3 w3 hown3 hg3 hat3
        obtain ⟨g3, cap3, rfl⟩ := ownsRow_succ hown3
        obtain ⟨hv3, hv4, hr4, hk4, hb4⟩ := hv2.appended (by decide) hrow2 (by have := hB.size; have := hb2.size; simp at this ⊢; omega) (by omega) hown3 hg3
        have hvc3 := hHeld.2.kept hg3 (hHeld.2.not_row (by decide) (hrow2.alloc _))
        refine hK.out _ _ ⟨hvc3.cell, hvc3⟩ (fun hHeld => ?_)
        have hc3 := hv3.cell
        have hf3 := hv3.frozen
        have hne3 : w.heap.size ≠ w.heap.size + 1 := by omega
        clear hK K
        try simp only [Act.put, List.getElem_toArray, List.getElem_cons_succ, List.getElem_cons_zero, List.setIfInBounds_toArray, List.set_cons_zero, List.set_cons_succ]
        refine wpAnyH_ready (rs := [6]) (by kernel_rfl) (by simp) (AllReadyH.cons (o := _) rfl (fun K hK => ?_) AllReadyH.nil)
        go_simp
        have hvc4 := hvc3.kept (grownBy_setCell' w3 (w.heap.size + 1) (.slice (some ⟨g3, 0, none⟩) (pre.length + 1) cap3)) (by simp)
        refine hK.out _ _ ⟨hvc4.cell, hvc4⟩ (fun hHeld => ?_)
        clear hK K
        try simp only [Act.put, List.getElem_toArray, List.getElem_cons_succ, List.getElem_cons_zero, List.setIfInBounds_toArray, List.set_cons_zero, List.set_cons_succ]
        refine wpAnyH_done (by kernel_rfl) ?_ _
        have hbW := hb2
        have hbN : Below w.heap.size W w2 := hbW.mono hB.size
        exact ⟨((keeps_below hbW).trans hk4).from _, (hbN.trans hb4).mono hn₀, ⟨_, hv4, by simpa using hr4, trivial⟩, hvc4, hB.trans (hbN.trans hb4)⟩
  case done =>
    rintro D ys' W hD rfl ⟨⟨v, hv, hrow, _⟩, hvc, hB⟩ hK
    have hc := hv.cell
    obtain ⟨A1, c1, rfl⟩ := own_slice hrow
    gi_wp2
    refine ⟨by simp, .inl ⟨_, _, rfl, run_takeDeferred hK, ?_⟩⟩
    exact ⟨_, results_tmp rfl _ _ _, _, rfl, ownsRow_putObj hrow _ hK rfl, hB.trans (belowK_b (w := w) (Nat.le_refl _) W D _ _ (by simp at hD; omega) hK rfl rfl)⟩
  case stop =>
    rintro D c pre W _ _ h _
    exact h.elim
end Go.Proofs.YtibjelonabhcmaaDoor
