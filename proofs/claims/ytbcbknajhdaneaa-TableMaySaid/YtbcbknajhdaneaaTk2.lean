/- What is proved: the walk of the law TableMay. -/
import Derived.Test.YtbcbknajhdaneaaTk1
import Derived.Deep.CutBlock
namespace Go.Proofs.Ytbcbknajhdaneaa
open Go.RowKit Go.Deep
set_option linter.unusedVariables false
set_option linter.unusedSimpArgs false
theorem ptr_lt {g n m : Nat} (h : Value.pointer (some ⟨n, 0, none⟩) = .pointer (some ⟨g, 0, none⟩)) (hm : n < m) : g < m := by
  injection h with h
  injection h with h
  injection h with h
  omega
theorem ptr_ne {g n g2 : Nat} (h : Value.pointer (some ⟨n, 0, none⟩) = .pointer (some ⟨g, 0, none⟩)) (hm : g2 < n) : g ≠ g2 := by
  injection h with h
  injection h with h
  injection h with h
  omega
theorem tsame_p (a b : Tab) (h : a.p = b.p) : tabQ a b = true := tabQ_p h
theorem psm_tab {t : Tab} {w : World} {B : Nat} (h : TabOk w B t) (hp : PSm t.p) : t.ty.length ≤ 65535 ∧ True := ⟨hp.1, trivial⟩
set_option maxRecDepth 100000 in
theorem ix0 (a b c d e f : Value) (w : World) : (Instr.index 73 (.agg #[a, b, c, d, e, f]) (.int .i64 0)).run Try.prog w = .ok (.agg #[a, b, c]) w := by
  obtain ⟨i0, hi0⟩ : ∃ i0, Try.prog.info? 25 = some i0 ∧ i0.size = 3 := ⟨_, rfl, by kernel_rfl⟩
  simp [Instr.index, run_underlying Try.underlying73, asIntOf, go_sem, sizeOf, typeInfo, hi0]
set_option maxRecDepth 100000 in
theorem ix1 (a b c d e f : Value) (w : World) : (Instr.index 73 (.agg #[a, b, c, d, e, f]) (.int .i64 1)).run Try.prog w = .ok (.agg #[d, e, f]) w := by
  obtain ⟨i0, hi0⟩ : ∃ i0, Try.prog.info? 25 = some i0 ∧ i0.size = 3 := ⟨_, rfl, by kernel_rfl⟩
  simp [Instr.index, run_underlying Try.underlying73, asIntOf, go_sem, sizeOf, typeInfo, hi0]
theorem cut_n {w : World} {A : Option Addr} {n : Nat} {l : List Int} (m : Nat) (h : Reads w w.heap.size 1 A n (ins l)) : ∃ q, (m < n ∧ q = m ∨ n ≤ m ∧ q = n) ∧ Reads w w.heap.size 1 A q (ins (l.take m)) ∧ q ≤ m ∧ (l.take m).length = q := by
  have hl : l.length = n := by have := h.1; rw [ins_len] at this; omega
  rcases Nat.lt_or_ge m n with h1 | h1
  · refine ⟨m, .inl ⟨h1, rfl⟩, ?_, Nat.le_refl _, by rw [List.length_take]; omega⟩
    have h2 := reads_pre (m := m) h (by omega)
    unfold ins at h2 ⊢
    rw [List.map_take]; exact h2
  · refine ⟨n, .inr ⟨h1, rfl⟩, ?_, h1, by rw [List.length_take]; omega⟩
    rw [List.take_of_length_le (by omega)]; exact h
set_option maxRecDepth 100000 in
set_option maxHeartbeats 32000000 in
theorem may_walk (x y : Tab) (NA : Option Addr) (nn nc : Nat) (ws : List Int) (w : World) (hx : TabOk w w.heap.size x) (hy : TabOk w w.heap.size y) (hRn : Reads w w.heap.size 1 NA nn (ins ws)) (hnc : nn ≤ nc) :
    Calls Try.prog 9 #[x.V, y.V, .slice NA nn nc] w fun en w' => en = .returned (.bool true) ∧ Below w.heap.size w w' := by
  have cownx := fun (W : World) (hb : Below w.heap.size w W) => own_any x W ((hx.keep hb).more hb.size)
  have cowny := fun (W : World) (hb : Below w.heap.size w W) => own_any y W ((hy.keep hb).more hb.size)
  have hpx := psm_own x.p
  have hpy := psm_own y.p
  obtain ⟨q, hq, hnR, hq14, hql⟩ := cut_n 14 hRn
  have ccl := fun (W : World) (hb : Below w.heap.size w W) => clone_n NA q nc (ws.take 14) W ((hnR.below hb).more hb.size) (by omega)
  have eq14 : (if (14 : Int) < (nn : Int) then (14 : Int) else (nn : Int)) = (q : Int) := by split <;> omega
  have f14 : (q : Int) ≤ (nc : Int) := by omega
  unfold OwnT at cownx cowny
  unfold OwnN at ccl
  rw [hql] at ccl
  generalize ws.take 14 = l0 at *
  generalize ownP x.p = pa at *
  generalize ownP y.p = pb at *
  generalize hpost : (fun en w' => en = Ending.returned (.bool true) ∧ Below w.heap.size w w') = POST
  have HPO := Lib.hid hpost
  have HPX := Lib.hid hpx.1
  have HPY := Lib.hid hpy.1
  have HQL := Lib.hid hql
  obtain ⟨W0, hW0, hB, hsz, k0, k1⟩ := two_blk w 25 25 #[.slice x.TA x.Tn x.Tc, .slice x.CA x.Cn x.Cc, .slice x.EA x.En x.Ec] #[.slice y.TA y.Tn y.Tc, .slice y.CA y.Cn y.Cc, .slice y.EA y.En y.Ec]
  have HB := Lib.hid hB
  have HS := Lib.hid hsz
  have HC := Lib.hid (fun (W : World) (hb : Below W0.heap.size W0 W) => And.intro (blk_cells3 (blk_below k0 hb)).1 (blk_cells3 (blk_below k1 hb)).1)
  have HW := Lib.hid hW0
  unfold Tab.V at cownx cowny ⊢
  clear hpost hpx hpy hx hy hRn hq hnR hql hB hsz k0 k1 hW0
  generalize x.TA = XA at *
  generalize x.Tn = Xn at *
  generalize x.Tc = Xc at *
  generalize x.CA = XCA at *
  generalize x.Cn = XCn at *
  generalize x.Cc = XCc at *
  generalize x.EA = XEA at *
  generalize x.En = XEn at *
  generalize x.Ec = XEc at *
  generalize y.TA = YA at *
  generalize y.Tn = Yn at *
  generalize y.Tc = Yc at *
  generalize y.CA = YCA at *
  generalize y.Cn = YCn at *
  generalize y.Cc = YCc at *
  generalize y.EA = YEA at *
  generalize y.En = YEn at *
  generalize y.Ec = YEc at *
  clear x y
  go_enter Try.func9, Try.ntmps9
  go_upto_region 1 with fail
  rw [← HW.out]
  go_upto_region 3 with (first
    | (go_at_call 13; ((with_reducible refine (wakes_any _).mono ?_); rintro en W1 ⟨rfl, hb1⟩))
    | fail)
  have HC1 := Lib.hid (fun (W : World) (hb : Below W1.heap.size W1 W) => HC.out W (hb1.trans (hb.mono hb1.size)))
  have HB1 := Lib.hid (HB.out.trans (hb1.mono HB.out.size))
  obtain ⟨⟨x0, x1, x2⟩, ⟨y0, y1, y2⟩⟩ := HC1.out W1 (Below.refl _ _)
  clear hb1
  refine wp_region_held_drew (S := fun w' => (w'.cell? ⟨w.heap.size, 0, none⟩ = some (.slice XA Xn Xc) ∧ w'.cell? ⟨w.heap.size, 1, none⟩ = some (.slice XCA XCn XCc) ∧ w'.cell? ⟨w.heap.size, 2, none⟩ = some (.slice XEA XEn XEc)) ∧ (w'.cell? ⟨w.heap.size + 1, 0, none⟩ = some (.slice YA Yn Yc) ∧ w'.cell? ⟨w.heap.size + 1, 1, none⟩ = some (.slice YCA YCn YCc) ∧ w'.cell? ⟨w.heap.size + 1, 2, none⟩ = some (.slice YEA YEn YEc))) (by kernel_rfl) ⟨⟨x0, x1, x2⟩, ⟨y0, y1, y2⟩⟩ (fun hHeld => ?_)
  refine wpAnyH_take (i := 0) (oi := _) (v := ?_) rfl (by kernel_rfl) (by kernel_rfl) (by kernel_rfl) (fun _ _ _ h => h) (Or.inl ⟨by rfl, ?_⟩) hHeld ?_
  rotate_left
  · intro w hSw; obtain ⟨⟨s0, s1, s2⟩, ⟨s3, s4, s5⟩⟩ := hSw; go_simp; try with_reducible rfl
  simp only [Act.put, List.getElem_toArray, List.getElem_cons_succ, List.getElem_cons_zero, List.setIfInBounds_toArray, List.set_cons_zero, List.set_cons_succ]
  refine wpAnyH_take (i := 2) (oi := _) (v := ?_) rfl (by kernel_rfl) (by kernel_rfl) (by kernel_rfl) (fun _ _ _ h => h) (Or.inl ⟨by rfl, ?_⟩) hHeld ?_
  rotate_left
  · intro w hSw; obtain ⟨⟨s0, s1, s2⟩, ⟨s3, s4, s5⟩⟩ := hSw; go_simp; try with_reducible rfl
  simp only [Act.put, List.getElem_toArray, List.getElem_cons_succ, List.getElem_cons_zero, List.setIfInBounds_toArray, List.set_cons_zero, List.set_cons_succ]
  have HCC := Lib.hid (fun (W : World) (hb : Below W1.heap.size W1 W) => And.intro (HB1.out.trans (hb.mono HB1.out.size)) (HC1.out W hb))
  refine Og.start (fr := fun y => { tmps := #[.agg #[.slice XA Xn Xc, .slice XCA XCn XCc, .slice XEA XEn XEc], .agg #[.slice YA Yn Yc, .slice YCA YCn YCc, .slice YEA YEn YEc], .slice NA nn nc, .pointer (some ⟨w.heap.size, 0, none⟩), .pointer (some ⟨w.heap.size + 1, 0, none⟩), undef, .bool false, y 4, y 5, undef, undef, undef, undef, undef, undef, undef, .bool true, .bool false, .agg #[.slice XA Xn Xc, .slice XCA XCn XCc, .slice XEA XEn XEc], y 1, .agg #[.slice YA Yn Yc, .slice YCA YCn YCc, .slice YEA YEn YEc], y 3, undef, undef, undef, undef, undef, undef, undef, undef, undef, undef, undef, undef, undef, undef, undef, undef, undef, undef, undef, undef, undef, undef, undef, undef, undef, undef, undef, undef, undef, undef, undef, undef, undef, undef, undef, undef, undef, undef, undef, undef, undef, undef, undef, undef, undef, undef, undef, undef, undef, undef, undef, undef, undef, undef, undef, undef, undef, undef, undef, undef, undef, undef, undef, undef, undef, undef, undef, undef, undef, undef, undef, undef, undef, undef, undef, undef, undef, undef, undef, undef, undef, undef, undef, undef, undef, undef, undef, undef, undef, undef, undef, undef, undef], defers := [] })
    (C := fun w' => (Below w.heap.size w w' ∧ ((w'.cell? ⟨w.heap.size, 0, none⟩ = some (.slice XA Xn Xc) ∧ w'.cell? ⟨w.heap.size, 1, none⟩ = some (.slice XCA XCn XCc) ∧ w'.cell? ⟨w.heap.size, 2, none⟩ = some (.slice XEA XEn XEc)) ∧ (w'.cell? ⟨w.heap.size + 1, 0, none⟩ = some (.slice YA Yn Yc) ∧ w'.cell? ⟨w.heap.size + 1, 1, none⟩ = some (.slice YCA YCn YCc) ∧ w'.cell? ⟨w.heap.size + 1, 2, none⟩ = some (.slice YEA YEn YEc)))))
    (F := fun j y w' => match j with
      | 1 => ∃ ta : Tab, y 1 = .agg #[.slice ta.TA ta.Tn ta.Tc, .slice ta.CA ta.Cn ta.Cc, .slice ta.EA ta.En ta.Ec] ∧ ta.p = pa ∧ TabFresh w' W1.heap.size ta
      | 3 => ∃ tb : Tab, y 3 = .agg #[.slice tb.TA tb.Tn tb.Tc, .slice tb.CA tb.Cn tb.Cc, .slice tb.EA tb.En tb.Ec] ∧ tb.p = pb ∧ TabFresh w' W1.heap.size tb
      | 4 => ∃ g, y 4 = .pointer (some ⟨g, 0, none⟩) ∧ W1.heap.size ≤ g ∧ Blk w' g 25 #[.slice none 0 0, .slice none 0 0, .slice none 0 0]
      | 5 => ∃ g, y 5 = .pointer (some ⟨g, 0, none⟩) ∧ W1.heap.size ≤ g ∧ Blk w' g 25 #[.slice none 0 0, .slice none 0 0, .slice none 0 0]
      | 6 => ∃ (g : Nat) (ta : Tab), y 4 = .pointer (some ⟨g, 0, none⟩) ∧ W1.heap.size ≤ g ∧ Blk w' g 25 #[.slice ta.TA ta.Tn ta.Tc, .slice ta.CA ta.Cn ta.Cc, .slice ta.EA ta.En ta.Ec] ∧ ta.p = pa ∧ TabFresh w' W1.heap.size ta
      | 7 => ∃ (g g2 : Nat) (ta tb : Tab), y 4 = .pointer (some ⟨g, 0, none⟩) ∧ y 5 = .pointer (some ⟨g2, 0, none⟩) ∧ W1.heap.size ≤ g ∧ W1.heap.size ≤ g2 ∧ Blk w' g 25 #[.slice ta.TA ta.Tn ta.Tc, .slice ta.CA ta.Cn ta.Cc, .slice ta.EA ta.En ta.Ec] ∧ Blk w' g2 25 #[.slice tb.TA tb.Tn tb.Tc, .slice tb.CA tb.Cn tb.Cc, .slice tb.EA tb.En tb.Ec] ∧ Below W1.heap.size W1 w' ∧ ta.p = pa ∧ TabFresh w' W1.heap.size ta ∧ tb.p = pb ∧ TabFresh w' W1.heap.size tb
      | 10 => Below W1.heap.size W1 w'
      | 12 => (∀ g, y 4 = .pointer (some ⟨g, 0, none⟩) → g < w'.heap.size) ∧ (∀ g, y 5 = .pointer (some ⟨g, 0, none⟩) → g < w'.heap.size) ∧ (∀ g g2, y 4 = .pointer (some ⟨g, 0, none⟩) → y 5 = .pointer (some ⟨g2, 0, none⟩) → g ≠ g2)
      | _ => True)
    { rem := [1, 3, 4, 5, 6, 7], facts := [1, 3, 4, 5, 6, 7, 10, 12], needs := fun i => match i with | 1 => [10] | 3 => [10] | 4 => [10, 12] | 5 => [10, 12] | 6 => [10, 12, 1, 4, 5] | 7 => [10, 12, 6, 3, 5] | _ => [], keeps := fun i => match i with | 1 => [10, 12, 4, 5] | 3 => [10, 12, 1, 4, 5] | 4 => [10, 12, 1, 3, 5] | 5 => [10, 12, 1, 3, 4] | 6 => [10, 12, 3, 5] | _ => [], final := [7] }
    (fun _ => undef) rfl (by kernel_rfl) ?hCS ?hC (Og.All.cons (Below.refl _ _).drew (Og.All.cons ⟨fun g h => (by cases h), fun g h => (by cases h), fun g g2 h => (by cases h)⟩ Og.All.nil)) (Og.Steps.cons _ rfl rfl ?st1 (Og.Steps.cons _ rfl rfl ?st3 (Og.Steps.cons _ rfl rfl ?st4 (Og.Steps.cons _ rfl rfl ?st5 (Og.Steps.cons _ rfl rfl ?st6 (Og.Steps.cons _ rfl rfl ?st7 Og.Steps.nil)))))) ?hE
  case hCS =>
    intro w' hC
    exact hC.2
  case hC =>
    exact HCC.out _ (Below.refl _ _).drew
  case st1 =>
    intro y w1 hC hN K hK
    obtain hC : Below W1.heap.size W1 w1 := hN.head
    go_simp
    refine (cownx _ (HB1.out.trans (hC.mono HB1.out.size))).mono ?_
    rintro en w2 ⟨ta, rfl, hp, hf, hb⟩
    refine Eq.mp (congrArg (fun a => K a _) ?_) (hK.out (.agg #[.slice ta.TA ta.Tn ta.Tc, .slice ta.CA ta.Cn ta.Cc, .slice ta.EA ta.En ta.Ec]) w2 (HCC.out _ (hC.trans (hb.mono hC.size))) ⟨ta, rfl, hp, hf.base hC.size⟩ (Og.All.cons (fun _ => hC.trans (hb.mono hC.size)) (Og.All.cons (fun ⟨a, b, c⟩ => ⟨fun g h => Nat.lt_of_lt_of_le (a g h) hb.size, fun g h => Nat.lt_of_lt_of_le (b g h) hb.size, c⟩) (Og.All.cons (fun ⟨g, e, hg, h⟩ => ⟨g, e, hg, blk_below h hb⟩) (Og.All.cons (fun ⟨g, e, hg, h⟩ => ⟨g, e, hg, blk_below h hb⟩) Og.All.nil)))))
    have u1 : ∀ v, Og.upd y 1 v 1 = v := fun v => rfl
    have u3 : ∀ v, Og.upd y 1 v 3 = y 3 := fun v => rfl
    have u4 : ∀ v, Og.upd y 1 v 4 = y 4 := fun v => rfl
    have u5 : ∀ v, Og.upd y 1 v 5 = y 5 := fun v => rfl
    simp only [Act.put, List.getElem_toArray, List.getElem_cons_succ, List.getElem_cons_zero, List.setIfInBounds_toArray, List.set_cons_zero, List.set_cons_succ, u1, u3, u4, u5]
  case st3 =>
    intro y w1 hC hN K hK
    obtain hC : Below W1.heap.size W1 w1 := hN.head
    go_simp
    refine (cowny _ (HB1.out.trans (hC.mono HB1.out.size))).mono ?_
    rintro en w2 ⟨tb, rfl, hp, hf, hb⟩
    refine Eq.mp (congrArg (fun a => K a _) ?_) (hK.out (.agg #[.slice tb.TA tb.Tn tb.Tc, .slice tb.CA tb.Cn tb.Cc, .slice tb.EA tb.En tb.Ec]) w2 (HCC.out _ (hC.trans (hb.mono hC.size))) ⟨tb, rfl, hp, hf.base hC.size⟩ (Og.All.cons (fun _ => hC.trans (hb.mono hC.size)) (Og.All.cons (fun ⟨a, b, c⟩ => ⟨fun g h => Nat.lt_of_lt_of_le (a g h) hb.size, fun g h => Nat.lt_of_lt_of_le (b g h) hb.size, c⟩) (Og.All.cons (fun ⟨t, e, hp, hf⟩ => ⟨t, e, hp, hf.below hb⟩) (Og.All.cons (fun ⟨g, e, hg, h⟩ => ⟨g, e, hg, blk_below h hb⟩) (Og.All.cons (fun ⟨g, e, hg, h⟩ => ⟨g, e, hg, blk_below h hb⟩) Og.All.nil))))))
    have u1 : ∀ v, Og.upd y 3 v 1 = y 1 := fun v => rfl
    have u3 : ∀ v, Og.upd y 3 v 3 = v := fun v => rfl
    have u4 : ∀ v, Og.upd y 3 v 4 = y 4 := fun v => rfl
    have u5 : ∀ v, Og.upd y 3 v 5 = y 5 := fun v => rfl
    simp only [Act.put, List.getElem_toArray, List.getElem_cons_succ, List.getElem_cons_zero, List.setIfInBounds_toArray, List.set_cons_zero, List.set_cons_succ, u1, u3, u4, u5]
  case st4 =>
    intro y w1 hC hN K hK
    obtain hC : Below W1.heap.size W1 w1 := hN.head
    obtain h12 : (∀ g, y 4 = .pointer (some ⟨g, 0, none⟩) → g < w1.heap.size) ∧ (∀ g, y 5 = .pointer (some ⟨g, 0, none⟩) → g < w1.heap.size) ∧ (∀ g g2, y 4 = .pointer (some ⟨g, 0, none⟩) → y 5 = .pointer (some ⟨g2, 0, none⟩) → g ≠ g2) := hN.tail.head
    go_simp
    have hb := (Below.refl w1.heap.size w1).alloc (Nat.le_refl _) (.cells #[.slice none 0 0, .slice none 0 0, .slice none 0 0] 25)
    have hsz : (w1.alloc (.cells #[.slice none 0 0, .slice none 0 0, .slice none 0 0] 25)).heap.size = w1.heap.size + 1 := by simp
    refine Eq.mp (congrArg (fun a => K a _) ?_) (hK.out (.pointer (some ⟨w1.heap.size, 0, none⟩)) _ (HCC.out _ (hC.trans (hb.mono hC.size))) ⟨w1.heap.size, rfl, hC.size, Blk.new w1 25 #[.slice none 0 0, .slice none 0 0, .slice none 0 0]⟩ (Og.All.cons (fun _ => hC.trans (hb.mono hC.size)) (Og.All.cons (fun ⟨a, b, c⟩ => ⟨fun g h => ptr_lt h (by omega), fun g h => Nat.lt_of_lt_of_le (b g h) hb.size, fun g g2 h h2 => ptr_ne h (b g2 h2)⟩) (Og.All.cons (fun ⟨t, e, hp, hf⟩ => ⟨t, e, hp, hf.below hb⟩) (Og.All.cons (fun ⟨t, e, hp, hf⟩ => ⟨t, e, hp, hf.below hb⟩) (Og.All.cons (fun ⟨g, e, hg, h⟩ => ⟨g, e, hg, blk_below h hb⟩) Og.All.nil))))))
    have u1 : ∀ v, Og.upd y 4 v 1 = y 1 := fun v => rfl
    have u3 : ∀ v, Og.upd y 4 v 3 = y 3 := fun v => rfl
    have u4 : ∀ v, Og.upd y 4 v 4 = v := fun v => rfl
    have u5 : ∀ v, Og.upd y 4 v 5 = y 5 := fun v => rfl
    simp only [Act.put, List.getElem_toArray, List.getElem_cons_succ, List.getElem_cons_zero, List.setIfInBounds_toArray, List.set_cons_zero, List.set_cons_succ, u1, u3, u4, u5]
  case st5 =>
    intro y w1 hC hN K hK
    obtain hC : Below W1.heap.size W1 w1 := hN.head
    obtain h12 : (∀ g, y 4 = .pointer (some ⟨g, 0, none⟩) → g < w1.heap.size) ∧ (∀ g, y 5 = .pointer (some ⟨g, 0, none⟩) → g < w1.heap.size) ∧ (∀ g g2, y 4 = .pointer (some ⟨g, 0, none⟩) → y 5 = .pointer (some ⟨g2, 0, none⟩) → g ≠ g2) := hN.tail.head
    go_simp
    have hb := (Below.refl w1.heap.size w1).alloc (Nat.le_refl _) (.cells #[.slice none 0 0, .slice none 0 0, .slice none 0 0] 25)
    have hsz : (w1.alloc (.cells #[.slice none 0 0, .slice none 0 0, .slice none 0 0] 25)).heap.size = w1.heap.size + 1 := by simp
    refine Eq.mp (congrArg (fun a => K a _) ?_) (hK.out (.pointer (some ⟨w1.heap.size, 0, none⟩)) _ (HCC.out _ (hC.trans (hb.mono hC.size))) ⟨w1.heap.size, rfl, hC.size, Blk.new w1 25 #[.slice none 0 0, .slice none 0 0, .slice none 0 0]⟩ (Og.All.cons (fun _ => hC.trans (hb.mono hC.size)) (Og.All.cons (fun ⟨a, b, c⟩ => ⟨fun g h => Nat.lt_of_lt_of_le (a g h) hb.size, fun g h => ptr_lt h (by omega), fun g g2 h h2 => (ptr_ne h2 (a g h)).symm⟩) (Og.All.cons (fun ⟨t, e, hp, hf⟩ => ⟨t, e, hp, hf.below hb⟩) (Og.All.cons (fun ⟨t, e, hp, hf⟩ => ⟨t, e, hp, hf.below hb⟩) (Og.All.cons (fun ⟨g, e, hg, h⟩ => ⟨g, e, hg, blk_below h hb⟩) Og.All.nil))))))
    have u1 : ∀ v, Og.upd y 5 v 1 = y 1 := fun v => rfl
    have u3 : ∀ v, Og.upd y 5 v 3 = y 3 := fun v => rfl
    have u4 : ∀ v, Og.upd y 5 v 4 = y 4 := fun v => rfl
    have u5 : ∀ v, Og.upd y 5 v 5 = v := fun v => rfl
    simp only [Act.put, List.getElem_toArray, List.getElem_cons_succ, List.getElem_cons_zero, List.setIfInBounds_toArray, List.set_cons_zero, List.set_cons_succ, u1, u3, u4, u5]
  case st6 =>
    intro y w1 hC hN K hK
    obtain hC : Below W1.heap.size W1 w1 := hN.head
    obtain ⟨ha, hbb, hcc⟩ : (∀ g, y 4 = .pointer (some ⟨g, 0, none⟩) → g < w1.heap.size) ∧ (∀ g, y 5 = .pointer (some ⟨g, 0, none⟩) → g < w1.heap.size) ∧ (∀ g g2, y 4 = .pointer (some ⟨g, 0, none⟩) → y 5 = .pointer (some ⟨g2, 0, none⟩) → g ≠ g2) := hN.tail.head
    obtain ⟨ta, x1, hpa, hfa⟩ : ∃ ta : Tab, y 1 = .agg #[.slice ta.TA ta.Tn ta.Tc, .slice ta.CA ta.Cn ta.Cc, .slice ta.EA ta.En ta.Ec] ∧ ta.p = pa ∧ TabFresh w1 W1.heap.size ta := hN.tail.tail.head
    obtain ⟨g, x4, hg, hk⟩ : ∃ g, y 4 = .pointer (some ⟨g, 0, none⟩) ∧ W1.heap.size ≤ g ∧ Blk w1 g 25 #[.slice none 0 0, .slice none 0 0, .slice none 0 0] := hN.tail.tail.tail.head
    obtain ⟨g2, x5, hg2, hk2⟩ : ∃ g, y 5 = .pointer (some ⟨g, 0, none⟩) ∧ W1.heap.size ≤ g ∧ Blk w1 g 25 #[.slice none 0 0, .slice none 0 0, .slice none 0 0] := hN.tail.tail.tail.tail.head
    simp only [x1, x4, x5]
    have hne : g ≠ g2 := hcc g g2 x4 x5
    obtain ⟨⟨z0, z1, z2⟩, zf⟩ := blk_cells3 hk
    have zf0 := zf 0
    have zf1 := zf 1
    have zf2 := zf 2
    have hb := below_set3 (a := .slice ta.TA ta.Tn ta.Tc) (b := .slice ta.CA ta.Cn ta.Cc) (c := .slice ta.EA ta.En ta.Ec) hC hg
    go_simp
    refine Eq.mp (congrArg (fun a => K a _) ?_) (hK.out (undef) _ (HCC.out _ hb) ⟨g, ta, x4, hg, ((hk.set_ 0 _).set_ 1 _).set_ 2 _, hpa, hfa.set3 hk _ _ _⟩ (Og.All.cons (fun _ => hb) (Og.All.cons (fun ⟨a, b, c⟩ => ⟨fun g h => by simpa using a g h, fun g h => by simpa using b g h, c⟩) (Og.All.cons (fun ⟨t, e, hp, hf⟩ => ⟨t, e, hp, hf.set3 hk _ _ _⟩) (Og.All.cons (fun _ => ⟨g2, x5, hg2, ((hk2.far (p := ⟨g, 0, none⟩) (by simpa using hne.symm) _).far (p := ⟨g, 1, none⟩) (by simpa using hne.symm) _).far (p := ⟨g, 2, none⟩) (by simpa using hne.symm) _⟩) Og.All.nil)))))
    have u1 : ∀ v, Og.upd y 6 v 1 = y 1 := fun v => rfl
    have u3 : ∀ v, Og.upd y 6 v 3 = y 3 := fun v => rfl
    have u4 : ∀ v, Og.upd y 6 v 4 = y 4 := fun v => rfl
    have u5 : ∀ v, Og.upd y 6 v 5 = y 5 := fun v => rfl
    simp only [Act.put, List.getElem_toArray, List.getElem_cons_succ, List.getElem_cons_zero, List.setIfInBounds_toArray, List.set_cons_zero, List.set_cons_succ, u1, u3, u4, u5, x1, x4, x5]
  case st7 =>
    intro y w1 hC hN K hK
    obtain hC : Below W1.heap.size W1 w1 := hN.head
    obtain ⟨ha, hbb, hcc⟩ : (∀ g, y 4 = .pointer (some ⟨g, 0, none⟩) → g < w1.heap.size) ∧ (∀ g, y 5 = .pointer (some ⟨g, 0, none⟩) → g < w1.heap.size) ∧ (∀ g g2, y 4 = .pointer (some ⟨g, 0, none⟩) → y 5 = .pointer (some ⟨g2, 0, none⟩) → g ≠ g2) := hN.tail.head
    obtain ⟨g0, ta, x4, hg0, hk0, hpa, hfa⟩ : ∃ (g : Nat) (ta : Tab), y 4 = .pointer (some ⟨g, 0, none⟩) ∧ W1.heap.size ≤ g ∧ Blk w1 g 25 #[.slice ta.TA ta.Tn ta.Tc, .slice ta.CA ta.Cn ta.Cc, .slice ta.EA ta.En ta.Ec] ∧ ta.p = pa ∧ TabFresh w1 W1.heap.size ta := hN.tail.tail.head
    obtain ⟨tb, x3, hpb, hfb⟩ : ∃ tb : Tab, y 3 = .agg #[.slice tb.TA tb.Tn tb.Tc, .slice tb.CA tb.Cn tb.Cc, .slice tb.EA tb.En tb.Ec] ∧ tb.p = pb ∧ TabFresh w1 W1.heap.size tb := hN.tail.tail.tail.head
    obtain ⟨g, x5, hg, hk⟩ : ∃ g, y 5 = .pointer (some ⟨g, 0, none⟩) ∧ W1.heap.size ≤ g ∧ Blk w1 g 25 #[.slice none 0 0, .slice none 0 0, .slice none 0 0] := hN.tail.tail.tail.tail.head
    simp only [x4, x3, x5]
    have hne : g0 ≠ g := hcc g0 g x4 x5
    obtain ⟨⟨z0, z1, z2⟩, zf⟩ := blk_cells3 hk
    have zf0 := zf 0
    have zf1 := zf 1
    have zf2 := zf 2
    have hb := below_set3 (a := .slice tb.TA tb.Tn tb.Tc) (b := .slice tb.CA tb.Cn tb.Cc) (c := .slice tb.EA tb.En tb.Ec) hC hg
    go_simp
    refine Eq.mp (congrArg (fun a => K a _) ?_) (hK.out (undef) _ (HCC.out _ hb) ⟨g0, g, ta, tb, x4, x5, hg0, hg, ((hk0.far (p := ⟨g, 0, none⟩) (by simpa using hne) _).far (p := ⟨g, 1, none⟩) (by simpa using hne) _).far (p := ⟨g, 2, none⟩) (by simpa using hne) _, ((hk.set_ 0 _).set_ 1 _).set_ 2 _, hb, hpa, hfa.set3 hk _ _ _, hpb, hfb.set3 hk _ _ _⟩ Og.All.nil)
    have u1 : ∀ v, Og.upd y 7 v 1 = y 1 := fun v => rfl
    have u3 : ∀ v, Og.upd y 7 v 3 = y 3 := fun v => rfl
    have u4 : ∀ v, Og.upd y 7 v 4 = y 4 := fun v => rfl
    have u5 : ∀ v, Og.upd y 7 v 5 = y 5 := fun v => rfl
    simp only [Act.put, List.getElem_toArray, List.getElem_cons_succ, List.getElem_cons_zero, List.setIfInBounds_toArray, List.set_cons_zero, List.set_cons_succ, u1, u3, u4, u5, x4, x3, x5]
  case hE =>
    intro y w1 hC hF
    obtain ⟨ga, gb, ta, tb, x4, x5, hga, hgb, hka, hkb, hbl, hpa, hfa, hpb, hfb⟩ : ∃ (g g2 : Nat) (ta tb : Tab), y 4 = .pointer (some ⟨g, 0, none⟩) ∧ y 5 = .pointer (some ⟨g2, 0, none⟩) ∧ W1.heap.size ≤ g ∧ W1.heap.size ≤ g2 ∧ Blk w1 g 25 #[.slice ta.TA ta.Tn ta.Tc, .slice ta.CA ta.Cn ta.Cc, .slice ta.EA ta.En ta.Ec] ∧ Blk w1 g2 25 #[.slice tb.TA tb.Tn tb.Tc, .slice tb.CA tb.Cn tb.Cc, .slice tb.EA tb.En tb.Ec] ∧ Below W1.heap.size W1 w1 ∧ ta.p = pa ∧ TabFresh w1 W1.heap.size ta ∧ tb.p = pb ∧ TabFresh w1 W1.heap.size tb := hF.head
    have hb1 : Below W1.heap.size W1 w1 := hbl
    simp only [x4, x5]
    generalize y 1 = yv1
    generalize y 3 = yv3
    clear hF x4 x5 y
    obtain ⟨WA, rfl⟩ : ∃ WA, WA = w1 := ⟨_, rfl⟩
    have HCA := Lib.hid (fun (W : World) (hb : Below WA.heap.size WA W) => And.intro (blk_cells3 (blk_below hka hb)).1 (And.intro (blk_cells3 (blk_below hkb hb)).1 (HC1.out W (hb1.trans (hb.mono hb1.size)))))
    have HBA := Lib.hid (HB1.out.trans (hb1.mono HB1.out.size))
    have HTA := Lib.hid hfa.ok
    have HFA := Lib.hid hfa
    have HL1 := Lib.hid hb1.size
    have HTB := Lib.hid hfb.ok
    have HPA := Lib.hid hpa
    have HPB := Lib.hid hpb
    have HLA := Lib.hid (And.intro hka.lt hkb.lt)
    have hsa := psm_sm hfa.ok (by rw [hpa]; exact HPX.out)
    have hsb := psm_sm hfb.ok (by rw [hpb]; exact HPY.out)
    have HSA := Lib.hid hsa
    have HSB := Lib.hid hsb
    have cca := fun (W : World) (hb : Below WA.heap.size WA W) => tabchk_any ta W ((HTA.out.keep hb).more hb.size) HSA.out.1
    have ccb := fun (W : World) (hb : Below WA.heap.size WA W) => tabchk_any tb W ((HTB.out.keep hb).more hb.size) HSB.out.1
    have cra := fun (W : World) (hb : Below WA.heap.size WA W) => rtab_any ta W ((HTA.out.keep hb).more hb.size) ⟨HSA.out.1.1, HSA.out.1.2.1, HSA.out.1.2.2.1⟩
    have crb := fun (W : World) (hb : Below WA.heap.size WA W) => rtab_any tb W ((HTB.out.keep hb).more hb.size) ⟨HSB.out.1.1, HSB.out.1.2.1, HSB.out.1.2.2.1⟩
    have hNA := HTA.out.nl
    unfold tabE at cca ccb
    unfold Tab.V at cca ccb cra crb
    obtain ⟨⟨a0, a1, a2⟩, ⟨b0, b1, b2⟩, _⟩ := HCA.out WA (Below.refl _ _)
    clear hka hkb hfa hfb hpa hpb hsa hsb hb1 hC hHeld x0 x1 x2 y0 y1 y2 hga hgb
    go_wp2_with fail
    clear a0 a1 a2 b0 b1 b2
    have hi0 := fun w => ix0 (.slice ta.TA ta.Tn ta.Tc) (.slice ta.CA ta.Cn ta.Cc) (.slice ta.EA ta.En ta.Ec) (.slice tb.TA tb.Tn tb.Tc) (.slice tb.CA tb.Cn tb.Cc) (.slice tb.EA tb.En tb.Ec) w
    have hi1 := fun w => ix1 (.slice ta.TA ta.Tn ta.Tc) (.slice ta.CA ta.Cn ta.Cc) (.slice ta.EA ta.En ta.Ec) (.slice tb.TA tb.Tn tb.Tc) (.slice tb.CA tb.Cn tb.Cc) (.slice tb.EA tb.En tb.Ec) w
    go_loopw [25] (fun i wr => ∃ k : Nat, k ≤ 2 ∧ i = .int .i64 k ∧ Below WA.heap.size WA wr) (fun i _ => 2 - (intOf i).toNat)
    case atStart => exact ⟨0, by omega, rfl, (Below.refl _ _)⟩
    case round =>
      obtain ⟨k, hk, rfl, hb⟩ := hrel
      rcases (show k = 0 ∨ k = 1 ∨ k = 2 from by omega) with rfl | rfl | rfl
      · have ht1 := (Below.refl wr.heap.size wr).alloc (Nat.le_refl _) (.cells #[.slice ta.TA ta.Tn ta.Tc, .slice ta.CA ta.Cn ta.Cc, .slice ta.EA ta.En ta.Ec] 25)
        have kt := Blk.new wr 25 #[.slice ta.TA ta.Tn ta.Tc, .slice ta.CA ta.Cn ta.Cc, .slice ta.EA ta.En ta.Ec]
        have c1 := cca _ (hb.trans (ht1.mono hb.size))
        have c2 := fun (W : World) (hb2 : Below (wr.alloc (.cells #[.slice ta.TA ta.Tn ta.Tc, .slice ta.CA ta.Cn ta.Cc, .slice ta.EA ta.En ta.Ec] 25)).heap.size (wr.alloc (.cells #[.slice ta.TA ta.Tn ta.Tc, .slice ta.CA ta.Cn ta.Cc, .slice ta.EA ta.En ta.Ec] 25)) W) => cra W ((hb.trans (ht1.mono hb.size)).trans (hb2.mono (hb.trans (ht1.mono hb.size)).size))
        have hkt := fun (W : World) (hb2 : Below (wr.alloc (.cells #[.slice ta.TA ta.Tn ta.Tc, .slice ta.CA ta.Cn ta.Cc, .slice ta.EA ta.En ta.Ec] 25)).heap.size (wr.alloc (.cells #[.slice ta.TA ta.Tn ta.Tc, .slice ta.CA ta.Cn ta.Cc, .slice ta.EA ta.En ta.Ec] 25)) W) => (blk_cells3 (blk_below kt hb2)).1
        have hbt := hb.trans (ht1.mono hb.size)
        obtain ⟨t0, t1, t2⟩ := hkt _ (Below.refl _ _)
        clear ht1 kt
        cases hb0 : tabB ta
        · rw [hb0] at c1
          simp only [hb0] at c2
          clear hb0
          go_wp2_with (first
            | (go_at_call 34; ((with_reducible refine c1.mono ?_); rintro en w3 ⟨rfl, hb3⟩; obtain ⟨t0, t1, t2⟩ := hkt _ hb3))
            | (go_at_call 17; ((with_reducible refine (c2 _ hb3).mono ?_); rintro en w4 ⟨rfl, hb4⟩; have hb4 := hb3.trans (hb4.mono hb3.size)))
            | fail)
          go_roundw
          case rel => exact ⟨0 + 1, by omega, by go_num, hbt.trans (hb4.mono hbt.size)⟩
          case measure => simp [intOf]
        · rw [hb0] at c1
          simp only [hb0] at c2
          clear hb0
          go_wp2_with (first
            | (go_at_call 34; ((with_reducible refine c1.mono ?_); rintro en w3 ⟨rfl, hb3⟩; obtain ⟨t0, t1, t2⟩ := hkt _ hb3))
            | (go_at_call 17; ((with_reducible refine (c2 _ hb3).mono ?_); rintro en w4 ⟨rfl, hb4⟩; have hb4 := hb3.trans (hb4.mono hb3.size)))
            | fail)
          go_roundw
          case rel => exact ⟨0 + 1, by omega, by go_num, hbt.trans (hb4.mono hbt.size)⟩
          case measure => simp [intOf]
      · have ht1 := (Below.refl wr.heap.size wr).alloc (Nat.le_refl _) (.cells #[.slice tb.TA tb.Tn tb.Tc, .slice tb.CA tb.Cn tb.Cc, .slice tb.EA tb.En tb.Ec] 25)
        have kt := Blk.new wr 25 #[.slice tb.TA tb.Tn tb.Tc, .slice tb.CA tb.Cn tb.Cc, .slice tb.EA tb.En tb.Ec]
        have c1 := ccb _ (hb.trans (ht1.mono hb.size))
        have c2 := fun (W : World) (hb2 : Below (wr.alloc (.cells #[.slice tb.TA tb.Tn tb.Tc, .slice tb.CA tb.Cn tb.Cc, .slice tb.EA tb.En tb.Ec] 25)).heap.size (wr.alloc (.cells #[.slice tb.TA tb.Tn tb.Tc, .slice tb.CA tb.Cn tb.Cc, .slice tb.EA tb.En tb.Ec] 25)) W) => crb W ((hb.trans (ht1.mono hb.size)).trans (hb2.mono (hb.trans (ht1.mono hb.size)).size))
        have hkt := fun (W : World) (hb2 : Below (wr.alloc (.cells #[.slice tb.TA tb.Tn tb.Tc, .slice tb.CA tb.Cn tb.Cc, .slice tb.EA tb.En tb.Ec] 25)).heap.size (wr.alloc (.cells #[.slice tb.TA tb.Tn tb.Tc, .slice tb.CA tb.Cn tb.Cc, .slice tb.EA tb.En tb.Ec] 25)) W) => (blk_cells3 (blk_below kt hb2)).1
        have hbt := hb.trans (ht1.mono hb.size)
        obtain ⟨t0, t1, t2⟩ := hkt _ (Below.refl _ _)
        clear ht1 kt
        cases hb0 : tabB tb
        · rw [hb0] at c1
          simp only [hb0] at c2
          clear hb0
          go_wp2_with (first
            | (go_at_call 34; ((with_reducible refine c1.mono ?_); rintro en w3 ⟨rfl, hb3⟩; obtain ⟨t0, t1, t2⟩ := hkt _ hb3))
            | (go_at_call 17; ((with_reducible refine (c2 _ hb3).mono ?_); rintro en w4 ⟨rfl, hb4⟩; have hb4 := hb3.trans (hb4.mono hb3.size)))
            | fail)
          go_roundw
          case rel => exact ⟨1 + 1, by omega, by go_num, hbt.trans (hb4.mono hbt.size)⟩
          case measure => simp [intOf]
        · rw [hb0] at c1
          simp only [hb0] at c2
          clear hb0
          go_wp2_with (first
            | (go_at_call 34; ((with_reducible refine c1.mono ?_); rintro en w3 ⟨rfl, hb3⟩; obtain ⟨t0, t1, t2⟩ := hkt _ hb3))
            | (go_at_call 17; ((with_reducible refine (c2 _ hb3).mono ?_); rintro en w4 ⟨rfl, hb4⟩; have hb4 := hb3.trans (hb4.mono hb3.size)))
            | fail)
          go_roundw
          case rel => exact ⟨1 + 1, by omega, by go_num, hbt.trans (hb4.mono hbt.size)⟩
          case measure => simp [intOf]
      · clear hi0 hi1 cca ccb
        obtain ⟨⟨a0, a1, a2⟩, ⟨b0, b1, b2⟩, _⟩ := HCA.out _ hb
        go_upto_region 12 with (first
          | (go_at_call 42; ((with_reducible refine (ccl _ (HBA.out.trans (hb.mono HBA.out.size))).mono ?_); rintro en w2 ⟨vn, rfl, hon, hbn⟩; obtain ⟨VA, Vc, rfl⟩ := own_slice hon))
          | fail)
        clear a0 a1 a2 b0 b1 b2
        have hb2 := hb.trans (hbn.mono hb.size)
        have hRv := Reads.of_own hon
        have hTa2 := (HTA.out.keep hb2).more hb2.size
        have cnew := tnew_any ta.TA ta.Tn ta.Tc ta.ty VA q Vc l0 w2 hTa2.ty hTa2.tyw HSA.out.2.1.2.1 hRv (by omega)
        obtain ⟨nE, hnE⟩ : ∃ nE, tnE ta.ty l0 = nE := ⟨_, rfl⟩
        obtain ⟨nP, hnP⟩ : ∃ nP, tnP ta.ty l0 = nP := ⟨_, rfl⟩
        rw [hnE, hnP] at cnew
        have HNE := Lib.hid hnE
        have HNP := Lib.hid hnP
        have HPM := Lib.hid (show PSm nP from by
          rw [← hnP]
          unfold tnP
          split
          · have h1 := HTA.out.len.1
            have h2 := HSA.out.2.1.2.1
            have h3 := (psm_tab HTA.out (by rw [HPA.out]; exact HPX.out)).1
            refine ⟨h3, by rw [List.length_map, HQL.out]; omega, Nat.zero_le _, fun q hq => ?_⟩
            obtain ⟨n, _, rfl⟩ := List.mem_map.1 hq
            exact Nat.zero_le _
          · exact psm_noT)
        have HB2 := Lib.hid hb2
        have HRV := Lib.hid hRv
        have crt := fun (W : World) (hb : Below w2.heap.size w2 W) => rtype_any ta.TA ta.Tn ta.Tc ta.ty W ((hTa2.ty.below hb).more hb.size) hTa2.tyw HSA.out.1.1
        obtain ⟨⟨a0, a1, a2⟩, _⟩ := HCA.out _ hb2
        unfold SetR TabRes at cnew
        unfold Tab.V at cnew
        clear hnE hnP hb hbn hon hRv hTa2 hb2
        go_upto_region 13 with (first
          | (go_at_call 43; ((with_reducible refine cnew.mono ?_); rintro en w5 ⟨v5, rfl, ⟨t1, rfl, hp1, hf1⟩, hb5⟩; (try unfold Tab.V)))
          | fail)
        obtain ⟨W6, hW6⟩ : ∃ W6, W6 = w5.alloc (.cells #[.slice t1.TA t1.Tn t1.Tc, .slice t1.CA t1.Cn t1.Cc, .slice t1.EA t1.En t1.Ec] 25) := ⟨_, rfl⟩
        rw [← hW6]
        have hb56 : Below w5.heap.size w5 W6 := by rw [hW6]; exact (Below.refl _ _).alloc (Nat.le_refl _) _
        have hb26 : Below w2.heap.size w2 W6 := hb5.trans (hb56.mono hb5.size)
        have k6 : Blk W6 w5.heap.size 25 #[.slice t1.TA t1.Tn t1.Tc, .slice t1.CA t1.Cn t1.Cc, .slice t1.EA t1.En t1.Ec] := by rw [hW6]; exact Blk.new _ _ _
        have hF1 := hf1.below hb56
        clear hW6 hb56 hf1 hb5 cnew a0 a1 a2
        generalize w5.heap.size = b12 at *
        go_upto_block 2 with fail
        have k7 := Blk.new W6 25 #[.slice none 0 0, .slice none 0 0, .slice none 0 0]
        have hb67 := (Below.refl W6.heap.size W6).alloc (Nat.le_refl _) (.cells #[.slice none 0 0, .slice none 0 0, .slice none 0 0] 25)
        obtain ⟨W7, hW7⟩ : ∃ W7, W7 = W6.alloc (.cells #[.slice none 0 0, .slice none 0 0, .slice none 0 0] 25) := ⟨_, rfl⟩
        rw [← hW7] at k7 hb67 ⊢
        have hb27 := hb26.trans (hb67.mono hb26.size)
        have HK7 := Lib.hid (fun (W : World) (hb : Below W7.heap.size W7 W) => blk_below k7 hb)
        have HB67 := Lib.hid hb67
        have HB26 := Lib.hid hb26
        have HB27 := Lib.hid hb27
        have HK6 := Lib.hid k6
        have HF1 := Lib.hid hF1
        have HP1 := Lib.hid hp1
        have HC7 := Lib.hid (fun (W : World) (hb : Below W7.heap.size W7 W) => (HCA.out W (HB2.out.trans ((hb27.trans (hb.mono hb27.size)).mono HB2.out.size))).1)
        obtain ⟨a0, a1, a2⟩ := HC7.out W7 (Below.refl _ _)
        clear hW7 k7 hb67 hb26 hb27 k6 hF1 hp1
        go_cut [15] from 58 to 77 (fun s wx => WantR nE nP W6 s wx)
        case first =>
          have hr := fun (w8 : World) (hb8 : Below W7.heap.size W7 w8) => HB67.out.trans (hb8.mono HB67.out.size)
          have crt2 := crt _ HB27.out
          have hnl : l0.length = q := HQL.out
          have htl : ta.ty.length = ta.Tn := HTA.out.len.1
          cases ht : tyR ta.ty
          · rw [ht] at crt2
            obtain rfl : nE = 130 := by rw [← HNE.out]; unfold tnE; rw [ht]; rfl
            obtain rfl : nP = noT := by rw [← HNP.out]; unfold tnP; rw [HNE.out, if_neg (by decide)]
            clear ht hnl htl
            go_wp2_with (first
              | (go_at_call 44; ((with_reducible refine crt2.mono ?_); rintro en w8 ⟨rfl, rfl⟩))
              | fail)
            go_meet
            case rel => exact wantR_nil (HK7.out _ (Below.refl _ _)) HB67.out
          · rw [ht] at crt2
            by_cases hq : q = ta.Tn
            · have d1 : ((q : Int) != (ta.Tn : Int)) = false := by simp [hq]
              have ccf := cfn_any VA q Vc l0 W7 ((HRV.out.below HB27.out).more HB27.out.size) (by omega)
              cases ha : l0.all okW
              · rw [ha] at ccf
                obtain rfl : nE = 2 := by rw [← HNE.out]; unfold tnE; rw [ht, if_pos rfl, if_pos (by omega), ha]; rfl
                obtain rfl : nP = noT := by rw [← HNP.out]; unfold tnP; rw [HNE.out, if_neg (by decide)]
                clear ht hnl htl ha hq
                go_wp2_with (first
                  | (go_at_call 44; ((with_reducible refine crt2.mono ?_); rintro en w8 ⟨rfl, rfl⟩))
                  | (go_at_call 45; ((with_reducible refine ccf.mono ?_); rintro en w9 ⟨rfl, rfl⟩))
                  | fail)
                go_meet
                case rel => exact wantR_nil (HK7.out _ (Below.refl _ _)) HB67.out
              · rw [ha] at ccf
                obtain rfl : nE = 0 := by rw [← HNE.out]; unfold tnE; rw [ht, if_pos rfl, if_pos (by omega), ha]; rfl
                have HPN := Lib.hid (show nP = (ta.ty, l0.map newC, []) from by rw [← HNP.out]; unfold tnP; rw [if_pos HNE.out])
                have cof := of_none ta.TA ta.Tn ta.Tc VA q Vc l0 W7 ((HRV.out.below HB27.out).more HB27.out.size) (by omega)
                unfold OfR at cof
                clear ht hnl htl ha hq
                go_wp2_with (first
                  | (go_at_call 44; ((with_reducible refine crt2.mono ?_); rintro en w8 ⟨rfl, rfl⟩))
                  | (go_at_call 45; ((with_reducible refine ccf.mono ?_); rintro en w9 ⟨rfl, rfl⟩))
                  | (go_at_call 47; ((with_reducible refine cof.mono ?_); rintro en wf ⟨vc, F2, rfl, hoc, hpc, hfc, hbf⟩; obtain ⟨CA2, Cc2, rfl⟩ := own_slice hoc; have hk9 := HK7.out _ hbf; obtain ⟨⟨v0, v1, v2⟩, vf⟩ := blk_cells3 hk9; have vf0 := vf 0; have vf1 := vf 1; have vf2 := vf 2; have HOC := Lib.hid hoc; have HPC := Lib.hid hpc; have HFC := Lib.hid hfc; clear hoc hpc hfc))
                  | fail)
                have hb69 := HB67.out.trans (hbf.mono HB67.out.size)
                have hFF : TabFresh wf W1.heap.size ⟨ta.TA, ta.Tn, ta.Tc, ta.ty, CA2, F2.length, Cc2, F2, none, 0, 0, []⟩ :=
                  ⟨HFA.out.ty.below (HB2.out.trans ((HB27.out.trans (hbf.mono HB27.out.size)).mono HB2.out.size)), base_le HOC.out (Nat.le_trans HL1.out (Nat.le_trans HB2.out.size HB27.out.size)), fun x hx => colFresh_base (HFC.out x hx) (Nat.le_trans HL1.out (Nat.le_trans HB2.out.size HB27.out.size)), idFresh_nil _ _⟩
                go_meet
                case rel => exact ⟨rfl, below_set3 hb69 (Nat.le_refl _), ⟨ta.TA, ta.Tn, ta.Tc, ta.ty, CA2, F2.length, Cc2, F2, none, 0, 0, []⟩, ((hk9.set_ 0 _).set_ 1 _).set_ 2 _, by rw [HPN.out]; unfold Tab.p; simp only; rw [HPC.out], (hFF.set3 hk9 _ _ _).ok⟩
            · have d1 : ((q : Int) != (ta.Tn : Int)) = true := by simp; omega
              obtain rfl : nE = 2 := by rw [← HNE.out]; unfold tnE; rw [ht, if_pos rfl, if_neg (by omega)]
              obtain rfl : nP = noT := by rw [← HNP.out]; unfold tnP; rw [HNE.out, if_neg (by decide)]
              clear ht hnl htl hq
              go_wp2_with (first
                | (go_at_call 44; ((with_reducible refine crt2.mono ?_); rintro en w8 ⟨rfl, rfl⟩))
                | fail)
              go_meet
              case rel => exact wantR_nil (HK7.out _ (Below.refl _ _)) HB67.out
        case rest =>
        obtain ⟨rfl, hbc, t2, kc, hp2, hT2⟩ := hcut
        have hb2c := HB26.out.trans (hbc.mono HB26.out.size)
        have hbAc := HB2.out.trans (hb2c.mono HB2.out.size)
        have hFc := HF1.out.below hbc
        have hpp : t1.p = t2.p := HP1.out.trans hp2.symm
        have hs1 := psm_sm hFc.ok (by rw [HP1.out]; exact HPM.out)
        have hs2 := psm_sm hT2 (by rw [hp2]; exact HPM.out)
        have HK1C := Lib.hid (fun (W : World) (hb : Below wc.heap.size wc W) => And.intro (HCA.out W (hbAc.trans (hb.mono hbAc.size))) (And.intro (blk_cells3 (blk_below (blk_below HK6.out hbc) hb)).1 (blk_cells3 (blk_below kc hb)).1))
        have csm := rtsame_any t1 t2 wc.drew (hFc.below ((Below.refl _ _).drew)).ok ((hT2.keep (Below.refl _ _).drew).more (Nat.le_refl _)) hs1.1 hs2.1
        rw [tabQ_p hpp] at csm
        have cqa := fun (W : World) (hb : Below wc.heap.size wc W) => tsame_any ta tb W ((HTA.out.keep (hbAc.trans (hb.mono hbAc.size))).more (hbAc.trans (hb.mono hbAc.size)).size) ((HTB.out.keep (hbAc.trans (hb.mono hbAc.size))).more (hbAc.trans (hb.mono hbAc.size)).size) HSA.out.1 HSB.out.1
        have cqb := fun (W : World) (hb : Below wc.heap.size wc W) => rtsame_any ta tb W ((HTA.out.keep (hbAc.trans (hb.mono hbAc.size))).more (hbAc.trans (hb.mono hbAc.size)).size) ((HTB.out.keep (hbAc.trans (hb.mono hbAc.size))).more (hbAc.trans (hb.mono hbAc.size)).size) HSA.out.1 HSB.out.1
        have HQS := Lib.hid (fun (tX : Tab) (W : World) (hpX : tX.p = pa) (hTX : TabOk W W.heap.size tX) (hb : Below WA.heap.size WA W) => (show Calls Try.prog 36 #[ta.V, tX.V] W (fun e w' => e = .returned (.bool true) ∧ Below W.heap.size W w') from by
          have h1 : ta.p = tX.p := HPA.out.trans hpX.symm
          have h9 := tsame_any ta tX W ((HTA.out.keep hb).more hb.size) hTX HSA.out.1 (psm_sm hTX (by rw [hpX]; exact HPX.out)).1
          rw [tabQ_p h1] at h9
          exact h9))
        have HRA := Lib.hid (fun (tX : Tab) (W : World) (hpX : tX.p = pa) (hTX : TabOk W W.heap.size tX) (hb : Below WA.heap.size WA W) => (show Calls Try.prog 22 #[ta.V, tX.V] W (fun e w' => e = .returned (.bool true) ∧ Below W.heap.size W w') from by
          have h1 : ta.p = tX.p := HPA.out.trans hpX.symm
          have h9 := rtsame_any ta tX W ((HTA.out.keep hb).more hb.size) hTX HSA.out.1 (psm_sm hTX (by rw [hpX]; exact HPX.out)).1
          rw [tabQ_p h1] at h9
          exact h9))
        have HRB := Lib.hid (fun (tX : Tab) (W : World) (hpX : tX.p = pb) (hTX : TabOk W W.heap.size tX) (hb : Below WA.heap.size WA W) => (show Calls Try.prog 22 #[tb.V, tX.V] W (fun e w' => e = .returned (.bool true) ∧ Below W.heap.size W w') from by
          have h1 : tb.p = tX.p := HPB.out.trans hpX.symm
          have h9 := rtsame_any tb tX W ((HTB.out.keep hb).more hb.size) hTX HSB.out.1 (psm_sm hTX (by rw [hpX]; exact HPY.out)).1
          rw [tabQ_p h1] at h9
          exact h9))
        have csp := fun (W : World) (hb : Below wc.heap.size wc W) => spoil_any t1 w2.heap.size W (hFc.below hb) (Nat.le_trans hb2c.size hb.size) ⟨hs1.1.1, hs1.1.2.1, hs1.1.2.2.1, hs1.1.2.2.2⟩
        have d0 : (nE != nE) = false := by simp
        have HAC := Lib.hid hbAc
        have H2C := Lib.hid hb2c
        obtain ⟨bq, hbq⟩ : ∃ bq, tabQ ta tb = bq := ⟨_, rfl⟩
        rw [hbq] at cqa cqb
        have dq : (bq != bq) = false := by simp
        clear hbq
        unfold Tab.V at csm csp cqa cqb
        clear hbc kc hp2 hT2 hFc hpp hs1 hs2 hb2c hbAc a0 a1 a2 crt
        go_upto_region 19 with fail
        obtain ⟨⟨⟨a0, a1, a2⟩, ⟨b0, b1, b2⟩, ⟨x0, x1, x2⟩, ⟨y0, y1, y2⟩⟩, ⟨r0, r1, r2⟩, ⟨q0, q1, q2⟩⟩ := HK1C.out wc (Below.refl _ _)
        refine wp_region_held_drew (S := fun w' => ((w'.cell? ⟨ga, 0, none⟩ = some (.slice ta.TA ta.Tn ta.Tc) ∧ w'.cell? ⟨ga, 1, none⟩ = some (.slice ta.CA ta.Cn ta.Cc) ∧ w'.cell? ⟨ga, 2, none⟩ = some (.slice ta.EA ta.En ta.Ec)) ∧ (w'.cell? ⟨gb, 0, none⟩ = some (.slice tb.TA tb.Tn tb.Tc) ∧ w'.cell? ⟨gb, 1, none⟩ = some (.slice tb.CA tb.Cn tb.Cc) ∧ w'.cell? ⟨gb, 2, none⟩ = some (.slice tb.EA tb.En tb.Ec)) ∧
          (w'.cell? ⟨w.heap.size, 0, none⟩ = some (.slice XA Xn Xc) ∧ w'.cell? ⟨w.heap.size, 1, none⟩ = some (.slice XCA XCn XCc) ∧ w'.cell? ⟨w.heap.size, 2, none⟩ = some (.slice XEA XEn XEc)) ∧ (w'.cell? ⟨w.heap.size + 1, 0, none⟩ = some (.slice YA Yn Yc) ∧ w'.cell? ⟨w.heap.size + 1, 1, none⟩ = some (.slice YCA YCn YCc) ∧ w'.cell? ⟨w.heap.size + 1, 2, none⟩ = some (.slice YEA YEn YEc))) ∧
          (w'.cell? ⟨b12, 0, none⟩ = some (.slice t1.TA t1.Tn t1.Tc) ∧ w'.cell? ⟨b12, 1, none⟩ = some (.slice t1.CA t1.Cn t1.Cc) ∧ w'.cell? ⟨b12, 2, none⟩ = some (.slice t1.EA t1.En t1.Ec)) ∧ (w'.cell? ⟨W6.heap.size, 0, none⟩ = some (.slice t2.TA t2.Tn t2.Tc) ∧ w'.cell? ⟨W6.heap.size, 1, none⟩ = some (.slice t2.CA t2.Cn t2.Cc) ∧ w'.cell? ⟨W6.heap.size, 2, none⟩ = some (.slice t2.EA t2.En t2.Ec))) (by kernel_rfl) ⟨⟨⟨a0, a1, a2⟩, ⟨b0, b1, b2⟩, ⟨x0, x1, x2⟩, ⟨y0, y1, y2⟩⟩, ⟨r0, r1, r2⟩, ⟨q0, q1, q2⟩⟩ (fun hHeld => ?_)
        refine wpAnyH_take (i := 0) (oi := _) (v := ?_) rfl (by kernel_rfl) (by kernel_rfl) (by kernel_rfl) (fun _ _ _ h => h) (Or.inl ⟨by rfl, ?_⟩) hHeld ?_
        rotate_left
        · intro w hSw; obtain ⟨⟨⟨s0, s1, s2⟩, ⟨s3, s4, s5⟩, ⟨s6, s7, s8⟩, ⟨s9, sa, sb⟩⟩, ⟨sc, sd, se⟩, ⟨sf, sg, sh⟩⟩ := hSw; go_simp; try with_reducible rfl
        simp only [Act.put, List.getElem_toArray, List.getElem_cons_succ, List.getElem_cons_zero, List.setIfInBounds_toArray, List.set_cons_zero, List.set_cons_succ]
        refine wpAnyH_take (i := 1) (oi := _) (v := ?_) rfl (by kernel_rfl) (by kernel_rfl) (by kernel_rfl) (fun _ _ _ h => h) (Or.inl ⟨by rfl, ?_⟩) hHeld ?_
        rotate_left
        · intro w hSw; obtain ⟨⟨⟨s0, s1, s2⟩, ⟨s3, s4, s5⟩, ⟨s6, s7, s8⟩, ⟨s9, sa, sb⟩⟩, ⟨sc, sd, se⟩, ⟨sf, sg, sh⟩⟩ := hSw; go_simp; try with_reducible rfl
        simp only [Act.put, List.getElem_toArray, List.getElem_cons_succ, List.getElem_cons_zero, List.setIfInBounds_toArray, List.set_cons_zero, List.set_cons_succ]
        refine wpAnyH_take (i := 2) (oi := _) (v := ?_) rfl (by kernel_rfl) (by kernel_rfl) (by kernel_rfl) (fun _ _ _ h => h) (Or.inl ⟨by rfl, ?_⟩) hHeld ?_
        rotate_left
        · intro w hSw; obtain ⟨⟨⟨s0, s1, s2⟩, ⟨s3, s4, s5⟩, ⟨s6, s7, s8⟩, ⟨s9, sa, sb⟩⟩, ⟨sc, sd, se⟩, ⟨sf, sg, sh⟩⟩ := hSw; go_simp; try with_reducible rfl
        simp only [Act.put, List.getElem_toArray, List.getElem_cons_succ, List.getElem_cons_zero, List.setIfInBounds_toArray, List.set_cons_zero, List.set_cons_succ]
        refine wpAnyH_take (i := 3) (oi := _) (v := ?_) rfl (by kernel_rfl) (by kernel_rfl) (by kernel_rfl) (fun _ _ _ h => h) (Or.inl ⟨by rfl, ?_⟩) hHeld ?_
        rotate_left
        · intro w hSw; obtain ⟨⟨⟨s0, s1, s2⟩, ⟨s3, s4, s5⟩, ⟨s6, s7, s8⟩, ⟨s9, sa, sb⟩⟩, ⟨sc, sd, se⟩, ⟨sf, sg, sh⟩⟩ := hSw; go_simp; try with_reducible rfl
        simp only [Act.put, List.getElem_toArray, List.getElem_cons_succ, List.getElem_cons_zero, List.setIfInBounds_toArray, List.set_cons_zero, List.set_cons_succ]
        refine wpAnyH_take (i := 4) (oi := _) (v := ?_) rfl (by kernel_rfl) (by kernel_rfl) (by kernel_rfl) (fun _ _ _ h => h) (Or.inl ⟨by rfl, ?_⟩) hHeld ?_
        rotate_left
        · intro w hSw; obtain ⟨⟨⟨s0, s1, s2⟩, ⟨s3, s4, s5⟩, ⟨s6, s7, s8⟩, ⟨s9, sa, sb⟩⟩, ⟨sc, sd, se⟩, ⟨sf, sg, sh⟩⟩ := hSw; go_simp; try with_reducible rfl
        simp only [Act.put, List.getElem_toArray, List.getElem_cons_succ, List.getElem_cons_zero, List.setIfInBounds_toArray, List.set_cons_zero, List.set_cons_succ]
        refine wpAnyH_take (i := 5) (oi := _) (v := ?_) rfl (by kernel_rfl) (by kernel_rfl) (by kernel_rfl) (fun _ _ _ h => h) (Or.inl ⟨by rfl, ?_⟩) hHeld ?_
        rotate_left
        · intro w hSw; obtain ⟨⟨⟨s0, s1, s2⟩, ⟨s3, s4, s5⟩, ⟨s6, s7, s8⟩, ⟨s9, sa, sb⟩⟩, ⟨sc, sd, se⟩, ⟨sf, sg, sh⟩⟩ := hSw; go_simp; try with_reducible rfl
        simp only [Act.put, List.getElem_toArray, List.getElem_cons_succ, List.getElem_cons_zero, List.setIfInBounds_toArray, List.set_cons_zero, List.set_cons_succ]
        refine wpAnyH_ready (rs := [6]) (by kernel_rfl) (by simp) (AllReadyH.cons (o := _) rfl (fun K hK => ?_) AllReadyH.nil)
        go_simp
        (with_reducible refine csm.mono ?_)
        rintro en wB ⟨rfl, hbB0⟩
        have hbB : Below wc.heap.size wc wB := (Below.refl _ _).drew.trans hbB0
        refine hK.out _ _ (HK1C.out _ hbB) (fun hHeld => ?_)
        clear hK K
        try simp only [Act.put, List.getElem_toArray, List.getElem_cons_succ, List.getElem_cons_zero, List.setIfInBounds_toArray, List.set_cons_zero, List.set_cons_succ]
        refine wpAnyH_take (i := 7) (oi := _) (v := ?_) rfl (by kernel_rfl) (by kernel_rfl) (by kernel_rfl) (fun _ _ _ h => h) (Or.inl ⟨by rfl, ?_⟩) hHeld ?_
        rotate_left
        · intro w hSw; obtain ⟨⟨⟨s0, s1, s2⟩, ⟨s3, s4, s5⟩, ⟨s6, s7, s8⟩, ⟨s9, sa, sb⟩⟩, ⟨sc, sd, se⟩, ⟨sf, sg, sh⟩⟩ := hSw; go_simp; try with_reducible rfl
        simp only [Act.put, List.getElem_toArray, List.getElem_cons_succ, List.getElem_cons_zero, List.setIfInBounds_toArray, List.set_cons_zero, List.set_cons_succ]
        refine wpAnyH_take (i := 8) (oi := _) (v := ?_) rfl (by kernel_rfl) (by kernel_rfl) (by kernel_rfl) (fun _ _ _ h => h) (Or.inl ⟨by rfl, ?_⟩) hHeld ?_
        rotate_left
        · intro w hSw; obtain ⟨⟨⟨s0, s1, s2⟩, ⟨s3, s4, s5⟩, ⟨s6, s7, s8⟩, ⟨s9, sa, sb⟩⟩, ⟨sc, sd, se⟩, ⟨sf, sg, sh⟩⟩ := hSw; go_simp; try with_reducible rfl
        simp only [Act.put, List.getElem_toArray, List.getElem_cons_succ, List.getElem_cons_zero, List.setIfInBounds_toArray, List.set_cons_zero, List.set_cons_succ]
        refine wpAnyH_take (i := 9) (oi := _) (v := ?_) rfl (by kernel_rfl) (by kernel_rfl) (by kernel_rfl) (fun _ _ _ h => h) (Or.inl ⟨by rfl, ?_⟩) hHeld ?_
        rotate_left
        · intro w hSw; obtain ⟨⟨⟨s0, s1, s2⟩, ⟨s3, s4, s5⟩, ⟨s6, s7, s8⟩, ⟨s9, sa, sb⟩⟩, ⟨sc, sd, se⟩, ⟨sf, sg, sh⟩⟩ := hSw; go_simp; try with_reducible rfl
        simp only [Act.put, List.getElem_toArray, List.getElem_cons_succ, List.getElem_cons_zero, List.setIfInBounds_toArray, List.set_cons_zero, List.set_cons_succ]
        refine wpAnyH_take (i := 10) (oi := _) (v := ?_) rfl (by kernel_rfl) (by kernel_rfl) (by kernel_rfl) (fun _ _ _ h => h) (Or.inl ⟨by rfl, ?_⟩) hHeld ?_
        rotate_left
        · intro w hSw; obtain ⟨⟨⟨s0, s1, s2⟩, ⟨s3, s4, s5⟩, ⟨s6, s7, s8⟩, ⟨s9, sa, sb⟩⟩, ⟨sc, sd, se⟩, ⟨sf, sg, sh⟩⟩ := hSw; go_simp; try with_reducible rfl
        simp only [Act.put, List.getElem_toArray, List.getElem_cons_succ, List.getElem_cons_zero, List.setIfInBounds_toArray, List.set_cons_zero, List.set_cons_succ]
        refine wpAnyH_take (i := 11) (oi := _) (v := ?_) rfl (by kernel_rfl) (by kernel_rfl) (by kernel_rfl) (fun _ _ _ h => h) (Or.inl ⟨by rfl, ?_⟩) hHeld ?_
        rotate_left
        · intro w hSw; obtain ⟨⟨⟨s0, s1, s2⟩, ⟨s3, s4, s5⟩, ⟨s6, s7, s8⟩, ⟨s9, sa, sb⟩⟩, ⟨sc, sd, se⟩, ⟨sf, sg, sh⟩⟩ := hSw; go_simp; try with_reducible rfl
        simp only [Act.put, List.getElem_toArray, List.getElem_cons_succ, List.getElem_cons_zero, List.setIfInBounds_toArray, List.set_cons_zero, List.set_cons_succ]
        refine wpAnyH_take (i := 13) (oi := _) (v := ?_) rfl (by kernel_rfl) (by kernel_rfl) (by kernel_rfl) (fun _ _ _ h => h) (Or.inl ⟨by rfl, ?_⟩) hHeld ?_
        rotate_left
        · intro w hSw; obtain ⟨⟨⟨s0, s1, s2⟩, ⟨s3, s4, s5⟩, ⟨s6, s7, s8⟩, ⟨s9, sa, sb⟩⟩, ⟨sc, sd, se⟩, ⟨sf, sg, sh⟩⟩ := hSw; go_simp; try with_reducible rfl
        simp only [Act.put, List.getElem_toArray, List.getElem_cons_succ, List.getElem_cons_zero, List.setIfInBounds_toArray, List.set_cons_zero, List.set_cons_succ]
        refine wpAnyH_take (i := 14) (oi := _) (v := ?_) rfl (by kernel_rfl) (by kernel_rfl) (by kernel_rfl) (fun _ _ _ h => h) (Or.inl ⟨by rfl, ?_⟩) hHeld ?_
        rotate_left
        · intro w hSw; obtain ⟨⟨⟨s0, s1, s2⟩, ⟨s3, s4, s5⟩, ⟨s6, s7, s8⟩, ⟨s9, sa, sb⟩⟩, ⟨sc, sd, se⟩, ⟨sf, sg, sh⟩⟩ := hSw; go_simp; try with_reducible rfl
        simp only [Act.put, List.getElem_toArray, List.getElem_cons_succ, List.getElem_cons_zero, List.setIfInBounds_toArray, List.set_cons_zero, List.set_cons_succ]
        refine wpAnyH_ready (rs := [12]) (by kernel_rfl) (by simp) (AllReadyH.cons (o := _) rfl (fun K hK => ?_) AllReadyH.nil)
        go_simp
        (with_reducible refine (cqa _ hbB).mono ?_)
        rintro en wC ⟨rfl, hbC0⟩
        have hbC := hbB.trans (hbC0.mono hbB.size)
        refine hK.out _ _ (HK1C.out _ hbC) (fun hHeld => ?_)
        clear hK K
        try simp only [Act.put, List.getElem_toArray, List.getElem_cons_succ, List.getElem_cons_zero, List.setIfInBounds_toArray, List.set_cons_zero, List.set_cons_succ]
        refine wpAnyH_ready (rs := [15]) (by kernel_rfl) (by simp) (AllReadyH.cons (o := _) rfl (fun K hK => ?_) AllReadyH.nil)
        go_simp
        (with_reducible refine (cqb _ hbC).mono ?_)
        rintro en wD ⟨rfl, hbD0⟩
        have hbD := hbC.trans (hbD0.mono hbC.size)
        refine hK.out _ _ (HK1C.out _ hbD) (fun hHeld => ?_)
        clear hK K
        try simp only [Act.put, List.getElem_toArray, List.getElem_cons_succ, List.getElem_cons_zero, List.setIfInBounds_toArray, List.set_cons_zero, List.set_cons_succ]
        refine wpAnyH_take (i := 16) (oi := _) (v := ?_) rfl (by kernel_rfl) (by kernel_rfl) (by kernel_rfl) (fun _ _ _ h => h) (Or.inl ⟨by rfl, ?_⟩) hHeld ?_
        rotate_left
        · intro w hSw; obtain ⟨⟨⟨s0, s1, s2⟩, ⟨s3, s4, s5⟩, ⟨s6, s7, s8⟩, ⟨s9, sa, sb⟩⟩, ⟨sc, sd, se⟩, ⟨sf, sg, sh⟩⟩ := hSw; go_simp; try with_reducible rfl
        simp only [Act.put, List.getElem_toArray, List.getElem_cons_succ, List.getElem_cons_zero, List.setIfInBounds_toArray, List.set_cons_zero, List.set_cons_succ]
        refine wpAnyH_take (i := 17) (oi := _) (v := ?_) rfl (by kernel_rfl) (by kernel_rfl) (by kernel_rfl) (fun _ _ _ h => h) (Or.inl ⟨by rfl, ?_⟩) hHeld ?_
        rotate_left
        · intro w hSw; obtain ⟨⟨⟨s0, s1, s2⟩, ⟨s3, s4, s5⟩, ⟨s6, s7, s8⟩, ⟨s9, sa, sb⟩⟩, ⟨sc, sd, se⟩, ⟨sf, sg, sh⟩⟩ := hSw; go_simp; try with_reducible rfl
        simp only [Act.put, List.getElem_toArray, List.getElem_cons_succ, List.getElem_cons_zero, List.setIfInBounds_toArray, List.set_cons_zero, List.set_cons_succ]
        refine wpAnyH_take (i := 18) (oi := _) (v := ?_) rfl (by kernel_rfl) (by kernel_rfl) (by kernel_rfl) (fun _ _ _ h => h) (Or.inl ⟨by rfl, ?_⟩) hHeld ?_
        rotate_left
        · intro w hSw; obtain ⟨⟨⟨s0, s1, s2⟩, ⟨s3, s4, s5⟩, ⟨s6, s7, s8⟩, ⟨s9, sa, sb⟩⟩, ⟨sc, sd, se⟩, ⟨sf, sg, sh⟩⟩ := hSw; go_simp; try with_reducible rfl
        simp only [Act.put, List.getElem_toArray, List.getElem_cons_succ, List.getElem_cons_zero, List.setIfInBounds_toArray, List.set_cons_zero, List.set_cons_succ]
        refine wpAnyH_take (i := 19) (oi := _) (v := ?_) rfl (by kernel_rfl) (by kernel_rfl) (by kernel_rfl) (fun _ _ _ h => h) (Or.inl ⟨by rfl, ?_⟩) hHeld ?_
        rotate_left
        · intro w hSw; obtain ⟨⟨⟨s0, s1, s2⟩, ⟨s3, s4, s5⟩, ⟨s6, s7, s8⟩, ⟨s9, sa, sb⟩⟩, ⟨sc, sd, se⟩, ⟨sf, sg, sh⟩⟩ := hSw; go_simp; try with_reducible rfl
        simp only [Act.put, List.getElem_toArray, List.getElem_cons_succ, List.getElem_cons_zero, List.setIfInBounds_toArray, List.set_cons_zero, List.set_cons_succ]
        refine wpAnyH_take (i := 20) (oi := _) (v := ?_) rfl (by kernel_rfl) (by kernel_rfl) (by kernel_rfl) (fun _ _ _ h => h) (Or.inl ⟨by rfl, ?_⟩) hHeld ?_
        rotate_left
        · intro w hSw; obtain ⟨⟨⟨s0, s1, s2⟩, ⟨s3, s4, s5⟩, ⟨s6, s7, s8⟩, ⟨s9, sa, sb⟩⟩, ⟨sc, sd, se⟩, ⟨sf, sg, sh⟩⟩ := hSw; go_simp; try with_reducible rfl
        simp only [Act.put, List.getElem_toArray, List.getElem_cons_succ, List.getElem_cons_zero, List.setIfInBounds_toArray, List.set_cons_zero, List.set_cons_succ]
        refine wpAnyH_ready (rs := [21]) (by kernel_rfl) (by simp) (AllReadyH.cons (o := _) rfl (fun K hK => ?_) AllReadyH.nil)
        go_simp
        (with_reducible refine (cownx _ (HBA.out.trans ((HAC.out.trans (hbD.mono HAC.out.size)).mono HBA.out.size))).mono ?_)
        rintro en wE0 ⟨tX, rfl, hpX, hfX, hbE0⟩
        have hbE1 := hbD.trans (hbE0.mono hbD.size)
        refine hK.out _ _ (HK1C.out _ hbE1) (fun hHeld => ?_)
        clear hK K
        try simp only [Act.put, List.getElem_toArray, List.getElem_cons_succ, List.getElem_cons_zero, List.setIfInBounds_toArray, List.set_cons_zero, List.set_cons_succ]
        have cqx := HQS.out tX wE0 hpX hfX.ok (HAC.out.trans (hbE1.mono HAC.out.size))
        unfold Tab.V at cqx
        refine wpAnyH_ready (rs := [22]) (by kernel_rfl) (by simp) (AllReadyH.cons (o := _) rfl (fun K hK => ?_) AllReadyH.nil)
        go_simp
        (with_reducible refine cqx.mono ?_)
        rintro en wE ⟨rfl, hbE2⟩
        have hbE := hbE1.trans (hbE2.mono hbE1.size)
        refine hK.out _ _ (HK1C.out _ hbE) (fun hHeld => ?_)
        clear hK K
        try simp only [Act.put, List.getElem_toArray, List.getElem_cons_succ, List.getElem_cons_zero, List.setIfInBounds_toArray, List.set_cons_zero, List.set_cons_succ]
        refine wpAnyH_take (i := 23) (oi := _) (v := ?_) rfl (by kernel_rfl) (by kernel_rfl) (by kernel_rfl) (fun _ _ _ h => h) (Or.inl ⟨by rfl, ?_⟩) hHeld ?_
        rotate_left
        · intro w hSw; obtain ⟨⟨⟨s0, s1, s2⟩, ⟨s3, s4, s5⟩, ⟨s6, s7, s8⟩, ⟨s9, sa, sb⟩⟩, ⟨sc, sd, se⟩, ⟨sf, sg, sh⟩⟩ := hSw; go_simp; try with_reducible rfl
        simp only [Act.put, List.getElem_toArray, List.getElem_cons_succ, List.getElem_cons_zero, List.setIfInBounds_toArray, List.set_cons_zero, List.set_cons_succ]
        refine wpAnyH_take (i := 24) (oi := _) (v := ?_) rfl (by kernel_rfl) (by kernel_rfl) (by kernel_rfl) (fun _ _ _ h => h) (Or.inl ⟨by rfl, ?_⟩) hHeld ?_
        rotate_left
        · intro w hSw; obtain ⟨⟨⟨s0, s1, s2⟩, ⟨s3, s4, s5⟩, ⟨s6, s7, s8⟩, ⟨s9, sa, sb⟩⟩, ⟨sc, sd, se⟩, ⟨sf, sg, sh⟩⟩ := hSw; go_simp; try with_reducible rfl
        simp only [Act.put, List.getElem_toArray, List.getElem_cons_succ, List.getElem_cons_zero, List.setIfInBounds_toArray, List.set_cons_zero, List.set_cons_succ]
        refine wpAnyH_done (by kernel_rfl) ?_ _
        clear hHeld
        obtain ⟨⟨⟨a0, a1, a2⟩, ⟨b0, b1, b2⟩, ⟨x0, x1, x2⟩, ⟨y0, y1, y2⟩⟩, ⟨r0, r1, r2⟩, ⟨q0, q1, q2⟩⟩ := HK1C.out wE hbE
        have csp2 := csp _ hbE
        go_upto_region 22 with (first
          | (go_at_call 23; ((with_reducible refine csp2.mono ?_); rintro en wh ⟨rfl, hbh⟩))
          | fail)
        have hbX := HB2.out.trans (((H2C.out.trans (hbE.mono H2C.out.size)).trans hbh).mono HB2.out.size)
        clear r0 r1 r2 q0 q1 q2 csp csp2 csm cqa cqb hbh
        have HX := Lib.hid hbX
        obtain ⟨⟨a0, a1, a2⟩, ⟨b0, b1, b2⟩, ⟨x0, x1, x2⟩, ⟨y0, y1, y2⟩⟩ := HCA.out _ hbX
        refine wp_region_held_drew (S := fun w' => ((w'.cell? ⟨ga, 0, none⟩ = some (.slice ta.TA ta.Tn ta.Tc) ∧ w'.cell? ⟨ga, 1, none⟩ = some (.slice ta.CA ta.Cn ta.Cc) ∧ w'.cell? ⟨ga, 2, none⟩ = some (.slice ta.EA ta.En ta.Ec)) ∧ (w'.cell? ⟨gb, 0, none⟩ = some (.slice tb.TA tb.Tn tb.Tc) ∧ w'.cell? ⟨gb, 1, none⟩ = some (.slice tb.CA tb.Cn tb.Cc) ∧ w'.cell? ⟨gb, 2, none⟩ = some (.slice tb.EA tb.En tb.Ec)) ∧
          (w'.cell? ⟨w.heap.size, 0, none⟩ = some (.slice XA Xn Xc) ∧ w'.cell? ⟨w.heap.size, 1, none⟩ = some (.slice XCA XCn XCc) ∧ w'.cell? ⟨w.heap.size, 2, none⟩ = some (.slice XEA XEn XEc)) ∧ (w'.cell? ⟨w.heap.size + 1, 0, none⟩ = some (.slice YA Yn Yc) ∧ w'.cell? ⟨w.heap.size + 1, 1, none⟩ = some (.slice YCA YCn YCc) ∧ w'.cell? ⟨w.heap.size + 1, 2, none⟩ = some (.slice YEA YEn YEc)))) (by kernel_rfl) ⟨⟨a0, a1, a2⟩, ⟨b0, b1, b2⟩, ⟨x0, x1, x2⟩, ⟨y0, y1, y2⟩⟩ (fun hHeld => ?_)
        refine wpAnyH_take (i := 0) (oi := _) (v := ?_) rfl (by kernel_rfl) (by kernel_rfl) (by kernel_rfl) (fun _ _ _ h => h) (Or.inl ⟨by rfl, ?_⟩) hHeld ?_
        rotate_left
        · intro w hSw; obtain ⟨⟨s0, s1, s2⟩, ⟨s3, s4, s5⟩, ⟨s6, s7, s8⟩, ⟨s9, sa, sb⟩⟩ := hSw; go_simp; try with_reducible rfl
        simp only [Act.put, List.getElem_toArray, List.getElem_cons_succ, List.getElem_cons_zero, List.setIfInBounds_toArray, List.set_cons_zero, List.set_cons_succ]
        refine wpAnyH_take (i := 1) (oi := _) (v := ?_) rfl (by kernel_rfl) (by kernel_rfl) (by kernel_rfl) (fun _ _ _ h => h) (Or.inl ⟨by rfl, ?_⟩) hHeld ?_
        rotate_left
        · intro w hSw; obtain ⟨⟨s0, s1, s2⟩, ⟨s3, s4, s5⟩, ⟨s6, s7, s8⟩, ⟨s9, sa, sb⟩⟩ := hSw; go_simp; try with_reducible rfl
        simp only [Act.put, List.getElem_toArray, List.getElem_cons_succ, List.getElem_cons_zero, List.setIfInBounds_toArray, List.set_cons_zero, List.set_cons_succ]
        refine wpAnyH_ready (rs := [2]) (by kernel_rfl) (by simp) (AllReadyH.cons (o := _) rfl (fun K hK => ?_) AllReadyH.nil)
        go_simp
        (with_reducible refine (cownx _ (HBA.out.trans (HX.out.drew.mono HBA.out.size))).mono ?_)
        rintro en wF ⟨tX2, rfl, hpX2, hfX2, hbF0⟩
        have hbF := HX.out.drew.trans (hbF0.mono HX.out.drew.size)
        refine hK.out _ _ (HCA.out _ hbF) (fun hHeld => ?_)
        clear hK K
        try simp only [Act.put, List.getElem_toArray, List.getElem_cons_succ, List.getElem_cons_zero, List.setIfInBounds_toArray, List.set_cons_zero, List.set_cons_succ]
        have cra2 := HRA.out tX2 wF hpX2 hfX2.ok hbF
        unfold Tab.V at cra2
        refine wpAnyH_ready (rs := [3]) (by kernel_rfl) (by simp) (AllReadyH.cons (o := _) rfl (fun K hK => ?_) AllReadyH.nil)
        go_simp
        (with_reducible refine cra2.mono ?_)
        rintro en wG ⟨rfl, hbG0⟩
        have hbG := hbF.trans (hbG0.mono hbF.size)
        refine hK.out _ _ (HCA.out _ hbG) (fun hHeld => ?_)
        clear hK K
        try simp only [Act.put, List.getElem_toArray, List.getElem_cons_succ, List.getElem_cons_zero, List.setIfInBounds_toArray, List.set_cons_zero, List.set_cons_succ]
        refine wpAnyH_take (i := 4) (oi := _) (v := ?_) rfl (by kernel_rfl) (by kernel_rfl) (by kernel_rfl) (fun _ _ _ h => h) (Or.inl ⟨by rfl, ?_⟩) hHeld ?_
        rotate_left
        · intro w hSw; obtain ⟨⟨s0, s1, s2⟩, ⟨s3, s4, s5⟩, ⟨s6, s7, s8⟩, ⟨s9, sa, sb⟩⟩ := hSw; go_simp; try with_reducible rfl
        simp only [Act.put, List.getElem_toArray, List.getElem_cons_succ, List.getElem_cons_zero, List.setIfInBounds_toArray, List.set_cons_zero, List.set_cons_succ]
        refine wpAnyH_take (i := 5) (oi := _) (v := ?_) rfl (by kernel_rfl) (by kernel_rfl) (by kernel_rfl) (fun _ _ _ h => h) (Or.inl ⟨by rfl, ?_⟩) hHeld ?_
        rotate_left
        · intro w hSw; obtain ⟨⟨s0, s1, s2⟩, ⟨s3, s4, s5⟩, ⟨s6, s7, s8⟩, ⟨s9, sa, sb⟩⟩ := hSw; go_simp; try with_reducible rfl
        simp only [Act.put, List.getElem_toArray, List.getElem_cons_succ, List.getElem_cons_zero, List.setIfInBounds_toArray, List.set_cons_zero, List.set_cons_succ]
        refine wpAnyH_take (i := 6) (oi := _) (v := ?_) rfl (by kernel_rfl) (by kernel_rfl) (by kernel_rfl) (fun _ _ _ h => h) (Or.inl ⟨by rfl, ?_⟩) hHeld ?_
        rotate_left
        · intro w hSw; obtain ⟨⟨s0, s1, s2⟩, ⟨s3, s4, s5⟩, ⟨s6, s7, s8⟩, ⟨s9, sa, sb⟩⟩ := hSw; go_simp; try with_reducible rfl
        simp only [Act.put, List.getElem_toArray, List.getElem_cons_succ, List.getElem_cons_zero, List.setIfInBounds_toArray, List.set_cons_zero, List.set_cons_succ]
        refine wpAnyH_ready (rs := [7]) (by kernel_rfl) (by simp) (AllReadyH.cons (o := _) rfl (fun K hK => ?_) AllReadyH.nil)
        go_simp
        (with_reducible refine (cowny _ (HBA.out.trans (hbG.mono HBA.out.size))).mono ?_)
        rintro en wH ⟨tY2, rfl, hpY2, hfY2, hbH0⟩
        have hbH := hbG.trans (hbH0.mono hbG.size)
        refine hK.out _ _ (HCA.out _ hbH) (fun hHeld => ?_)
        clear hK K
        try simp only [Act.put, List.getElem_toArray, List.getElem_cons_succ, List.getElem_cons_zero, List.setIfInBounds_toArray, List.set_cons_zero, List.set_cons_succ]
        have crb2 := HRB.out tY2 wH hpY2 hfY2.ok hbH
        unfold Tab.V at crb2
        refine wpAnyH_ready (rs := [8]) (by kernel_rfl) (by simp) (AllReadyH.cons (o := _) rfl (fun K hK => ?_) AllReadyH.nil)
        go_simp
        (with_reducible refine crb2.mono ?_)
        rintro en wZ ⟨rfl, hbZ0⟩
        have hbZ := hbH.trans (hbZ0.mono hbH.size)
        refine hK.out _ _ (HCA.out _ hbZ) (fun hHeld => ?_)
        clear hK K
        try simp only [Act.put, List.getElem_toArray, List.getElem_cons_succ, List.getElem_cons_zero, List.setIfInBounds_toArray, List.set_cons_zero, List.set_cons_succ]
        refine wpAnyH_take (i := 9) (oi := _) (v := ?_) rfl (by kernel_rfl) (by kernel_rfl) (by kernel_rfl) (fun _ _ _ h => h) (Or.inl ⟨by rfl, ?_⟩) hHeld ?_
        rotate_left
        · intro w hSw; obtain ⟨⟨s0, s1, s2⟩, ⟨s3, s4, s5⟩, ⟨s6, s7, s8⟩, ⟨s9, sa, sb⟩⟩ := hSw; go_simp; try with_reducible rfl
        simp only [Act.put, List.getElem_toArray, List.getElem_cons_succ, List.getElem_cons_zero, List.setIfInBounds_toArray, List.set_cons_zero, List.set_cons_succ]
        refine wpAnyH_take (i := 10) (oi := _) (v := ?_) rfl (by kernel_rfl) (by kernel_rfl) (by kernel_rfl) (fun _ _ _ h => h) (Or.inl ⟨by rfl, ?_⟩) hHeld ?_
        rotate_left
        · intro w hSw; obtain ⟨⟨s0, s1, s2⟩, ⟨s3, s4, s5⟩, ⟨s6, s7, s8⟩, ⟨s9, sa, sb⟩⟩ := hSw; go_simp; try with_reducible rfl
        simp only [Act.put, List.getElem_toArray, List.getElem_cons_succ, List.getElem_cons_zero, List.setIfInBounds_toArray, List.set_cons_zero, List.set_cons_succ]
        refine wpAnyH_done (by kernel_rfl) ?_ _
        go_wp2_with fail
        rw [← HPO.out]
        exact ⟨rfl, HBA.out.trans (hbZ.mono HBA.out.size)⟩
    
theorem may_row (x y : Tab) (NA : Option Addr) (nn nc : Nat) (ws : List Int) (hnc : nn ≤ nc) (hn : nc * 8 ≤ 140737488351232) (hww : ∀ x ∈ ws, (Lit.int .i64 x).wf = true) (w : World) (hx : TabOk w w.heap.size x) (hy : TabOk w w.heap.size y) (hRn : Reads w w.heap.size 1 NA nn (ws.map (Value.int .i64))) :
    Calls Try.prog 9 #[x.V, y.V, .slice NA nn nc] w fun en w' => en = .returned (.bool true) ∧ Below w.heap.size w w' := may_walk x y NA nn nc ws w hx hy hRn hnc
end Go.Proofs.Ytbcbknajhdaneaa
