/- What is proved: the contract of Read. -/
import Derived.Test.YtcfpnnkohjochaaDoorVaL
namespace Go.Proofs.YtcfpnnkohjochaaDoor
open Go.RowKit
set_option linter.unusedVariables false
set_option linter.unusedSimpArgs false
attribute [local go_sem] Oper.semAt_some
theorem boxed_below {W W' : World} {B : Nat} {t : TypeId} {v : Value} (h : Boxed W B t v) (hb : Below W.heap.size W W') : Boxed W' B t v := (hb.block B h.lt).trans h
theorem cell_kept' {W W' : World} {b i : Nat} {v : Value} {row : Option Nat} (h : W.cell? ⟨b, i, none⟩ = some v) (hg : W.grownBy W' row) (hr : some b ≠ row) : W'.cell? ⟨b, i, none⟩ = some v :=
  (World.cell?_of_block (hg.block b (World.block_lt_of_cell? W ⟨b, i, none⟩ h) hr)).trans h
/-- a value that is the sequence of the words of a text -/
def SeqW (v : Value) (n₁ : Nat) (s : ByteArray) (w : World) : Prop :=
  ∃ bs, v = .func (.func 45) #[] #[.pointer (some ⟨bs, 0, none⟩)] ∧ ∀ n, 1 ≤ n → SeqStopsK Fence.wide n Tryd.prog 45 #[.pointer (some ⟨bs, 0, none⟩)] encI (KpS n₁) (GoodW (partsB s)) (PreW (partsB s)) 65537 w
theorem words_any (s : ByteArray) (n₁ : Nat) (w : World) (hs : s.size ≤ 65536) (hE : Env w) (hlo : Low n₁) (hn₁ : n₁ ≤ w.heap.size) :
    Calls Tryd.prog 35 #[.string s] w fun e w' => ∃ v, (e = .returned v ∧ SeqW v n₁ s w') ∧ Below w.heap.size w w' := by
  have hb0 : Below w.heap.size w (w.alloc (.cells #[.string s] 9)) := (Below.refl w.heap.size w).alloc (Nat.le_refl _) _
  have hE0 := hE.below hb0
  have hblk := last_blk w (.cells #[.string s] 9)
  have hfin : SeqW (.func (.func 45) #[] #[.pointer (some ⟨w.heap.size, 0, none⟩)]) n₁ s (w.alloc (.cells #[.string s] 9)) :=
    ⟨w.heap.size, rfl, fun n hn l J Jx W hW hJ hJx hY h0 => words1_in n hn l w.heap.size n₁ s hs hlo J Jx W (hE0.below hW) (by have := hW.size; simp at this; omega) ((hW.block w.heap.size (by simp)).trans hblk) hJ hY h0⟩
  have HF := Lib.hid hfin
  clear hfin hE0 hblk hE
  go_enter Tryd.func35, Tryd.ntmps35
  go_wp2_with fail
  go_ret
  exact ⟨_, ⟨rfl, HF.out⟩, hb0⟩
/-- the words of texts; none: one is none's -/
def wordsP : List ByteArray → Option (List Int)
  | [] => some []
  | p :: ps => match wordP p.data.toList, wordsP ps with | some x, some xs => some (x :: xs) | _, _ => none
theorem wordsP_len : ∀ (ps : List ByteArray) (xs : List Int), wordsP ps = some xs → xs.length = ps.length
  | [], xs, h => by have : some [] = some xs := h; injection this with this; subst this; rfl
  | p :: ps, xs, h => by
    unfold wordsP at h
    cases h1 : wordP p.data.toList with
    | none => rw [h1] at h; cases h
    | some x =>
      cases h2 : wordsP ps with
      | none => rw [h1, h2] at h; cases h
      | some ys =>
        rw [h1, h2] at h
        injection h with h
        subst h
        rw [List.length_cons, List.length_cons, wordsP_len ps ys h2]
theorem wordsP_none : ∀ (ps : List ByteArray) (i : Nat) (p : ByteArray), ps[i]? = some p → wordP p.data.toList = none → wordsP ps = none
  | [], i, p, h, _ => by simp at h
  | q :: ps, 0, p, h, hn => by
    simp at h
    subst h
    unfold wordsP
    rw [hn]
  | q :: ps, i + 1, p, h, hn => by
    have := wordsP_none ps i p (by simpa using h) hn
    unfold wordsP
    rw [this]
    cases wordP q.data.toList <;> rfl
theorem wordsP_some : ∀ (ps : List ByteArray) (xs : List Item), OkPre ps xs → xs.length = ps.length → wordsP ps = some (xs.map (fun x => x.1.1))
  | [], xs, h, hl => by
    have : xs = [] := List.eq_nil_of_length_eq_zero hl
    subst this
    rfl
  | p :: ps, [], h, hl => by simp at hl
  | p :: ps, x :: xs, h, hl => by
    have h0 := h.2 0 x p rfl rfl
    have ih := wordsP_some ps xs ⟨by simp at hl; omega, fun i y q hy hq => h.2 (i + 1) y q (by simpa using hy) (by simpa using hq)⟩ (by simpa using hl)
    obtain ⟨⟨hf1, hf2⟩, hx⟩ := h0
    rw [hx] at hf1
    unfold wordsP
    rw [ih]
    cases hw : wordP p.data.toList with
    | none => rw [hw] at hf1; cases hf1
    | some y =>
      have := hf2 y hw
      subst this
      rfl
/-- the value of a text; none: it is none's -/
def readP (s : ByteArray) : Option (List Int) := if s.data.toList = [45] then some [] else (match wordsP (partsB s) with | some xs => if xs.length ≤ 4 then some xs else none | none => none)
theorem readP_good {s : ByteArray} {xs : List Item} (h45 : s.data.toList ≠ [45]) (h : GoodW (partsB s) xs) (hok : ∀ x ∈ xs, x.1.2 = true) (hl : xs.length ≤ 4) : readP s = some (xs.map (fun x => x.1.1)) := by
  unfold readP
  rw [if_neg h45]
  rcases h with ⟨h1, h2⟩ | ⟨pre, x, ⟨rfl, _, _⟩, hx⟩
  · rw [wordsP_some _ _ h1 h2]
    dsimp only
    rw [if_pos (by rw [List.length_map]; exact hl)]
  · have := hok x (by simp)
    rw [hx] at this
    cases this
theorem readP_bad {s : ByteArray} {ys : List Item} (h45 : s.data.toList ≠ [45]) (h : PreW (partsB s) ys) (hb : ys.length = 5 ∨ ∃ x ∈ ys, x.1.2 = false) : readP s = none := by
  unfold readP
  rw [if_neg h45]
  obtain ⟨pre, x, rfl, hok, p, hp, hf⟩ := h
  have hlen : pre.length < (partsB s).length := (List.getElem?_eq_some_iff.1 hp).1
  by_cases hx : x.1.2 = false
  · have : wordP p.data.toList = none := by
      have := hf.1
      rw [hx] at this
      cases h : wordP p.data.toList with
      | none => rfl
      | some y => rw [h] at this; cases this
    rw [wordsP_none _ _ p hp this]
  · have h5 : (pre ++ [x]).length = 5 := by
      rcases hb with hb | ⟨y, hy, hyf⟩
      · exact hb
      · exfalso
        rcases List.mem_append.1 hy with hy | hy
        · obtain ⟨i, hi⟩ := List.mem_iff_getElem?.1 hy
          have hil := (List.getElem?_eq_some_iff.1 hi).1
          have := (hok.2 i y _ hi (List.getElem?_eq_getElem (by omega))).2
          rw [hyf] at this
          cases this
        · simp at hy
          subst hy
          exact hx hyf
    simp at h5
    cases h : wordsP (partsB s) with
    | none => rfl
    | some xs =>
      have := wordsP_len _ _ h
      dsimp only
      rw [if_neg (by omega)]
def ReadC (s : ByteArray) (w : World) (e : Ending) (w' : World) : Prop :=
  ∃ v, e = .returned (.tuple #[v, .int .i64 (if (readP s).isSome then 0 else 140)]) ∧ w'.ownsRow w.heap.size 38 1 v ((readP s).getD []).length (ids ((readP s).getD [])) ∧ Below w.heap.size w w'
theorem ReadC.no {s : ByteArray} {w w' : World} (h : readP s = none) (hb : Below w.heap.size w w') : ReadC s w (.returned (.tuple #[.slice none 0 0, .int .i64 140])) w' :=
  ⟨_, by rw [h]; rfl, by rw [h]; exact World.ownsRow_nil _ _ _ _, hb⟩
theorem ReadC.yes {s : ByteArray} {w w' : World} {v : Value} {xs : List Int} (h : readP s = some xs) (ho : w'.ownsRow w.heap.size 38 1 v xs.length (ids xs)) (hb : Below w.heap.size w w') : ReadC s w (.returned (.tuple #[v, .int .i64 0])) w' :=
  ⟨_, by rw [h]; rfl, by rw [h]; exact ho, hb⟩
theorem setOthers {W : World} {b : Nat} {t : TypeId} {v0 v : Value} (h : Boxed W b t v0) (ht : t ≠ 9) : KStr W (W.setCell ⟨b, 0, none⟩ v) :=
  KStr.grown (grownBy_setCell' W b v) (fun r e cs fr => by
    cases e
    intro h2
    have h1 : W.heap[b]? = some (.cells #[v0] t (0, 0)) := h
    rw [h1] at h2
    injection h2 with h2
    injection h2 with _ h2
    exact ht h2)
theorem own_not_str {W : World} {base n : Nat} {v : Value} {xs : List Value} (ho : W.ownsRow base 38 1 v n xs) : ∀ r, v.ownBlock = some r → ∀ cs fr, W.heap[r]? ≠ some (.cells cs 9 fr) := by
  intro r hr cs fr h
  rcases ho.2 with ⟨rfl, _⟩ | ⟨g, cap, cur, rfl, _, hh, _⟩
  · simp [Value.ownBlock] at hr
  · have : g = r := by simpa [Value.ownBlock] using hr
    subst this
    rw [hh] at h
    injection h with h
    injection h with _ h
    cases h
theorem own_set {W : World} {base n b : Nat} {v v0 u : Value} {t : TypeId} {xs : List Value} (ho : W.ownsRow base 38 1 v n xs) (hb : Boxed W b t v0) (ht : t ≠ 38) : (W.setCell ⟨b, 0, none⟩ u).ownsRow base 38 1 v n xs :=
  ho.kept (grownBy_setCell' W b u) (.inr fun e => hb.not_row ht ho e.symm)
set_option maxRecDepth 100000 in
set_option maxHeartbeats 8000000 in
theorem read_any (s : ByteArray) (w : World) (hs : s.size ≤ 65536) (hE : Env w) : Calls Tryd.prog 14 #[.string s] w (ReadC s w) := by
  by_cases h45 : s.data.toList = [45]
  · have hb : (s.toList == [45]) = true := by rw [toList_eq]; exact beq_iff_eq.2 h45
    have hr : readP s = some [] := by unfold readP; rw [if_pos h45]
    have HR := Lib.hid hr
    clear hr h45 hE
    go_enter Tryd.func14, Tryd.ntmps14
    go_wp2_with fail
    refine bodyPost_ret (v := .tuple #[.slice none 0 0, .int .i64 0]) (by simp [results, Tryd.f14, go_sem]) rfl ?_
    exact ReadC.yes HR.out (World.ownsRow_nil _ _ _ _) (by repeat (first | exact Below.refl _ _ | (refine Below.alloc ?_ (by simp <;> omega) _)))
  · have hb : (s.toList == [45]) = false := by rw [toList_eq]; exact beq_eq_false_iff_ne.2 h45
    have hgood := fun xs h hok hl => readP_good (s := s) (xs := xs) h45 h hok hl
    have hbad := fun ys h hb => readP_bad (s := s) (ys := ys) h45 h hb
    obtain ⟨i0, hi0, hz0, hz1, hz2⟩ := info_parts info_u64
    obtain ⟨W0, hW0⟩ : ∃ W0, W0 = ((w.alloc (.cells #[.slice none 0 0] 26)).alloc (.cells #[.int .i64 0] 28)).alloc (.cells #[.slice none 0 0] 26) := ⟨_, rfl⟩
    have b0 : Boxed W0 w.heap.size 26 (.slice none 0 0) := by rw [hW0]; exact ((Boxed.new w _ _).alloc _).alloc _
    have b1 : Boxed W0 (w.heap.size + 1) 28 (.int .i64 0) := by
      rw [hW0]
      have := Boxed.new (w.alloc (.cells #[.slice none 0 0] 26)) 28 (.int .i64 0)
      rw [World.size_alloc] at this
      exact this.alloc _
    have b2 : Boxed W0 (w.heap.size + 1 + 1) 26 (.slice none 0 0) := by
      rw [hW0]
      have := Boxed.new ((w.alloc (.cells #[.slice none 0 0] 26)).alloc (.cells #[.int .i64 0] 28)) 26 (.slice none 0 0)
      rw [World.size_alloc, World.size_alloc] at this
      exact this
    have hb0 : Below w.heap.size w W0 := by rw [hW0]; exact (((Below.refl _ w).alloc (Nat.le_refl _) _).alloc (by simp) _).alloc (by simp <;> omega) _
    have hsz0 : W0.heap.size = w.heap.size + 3 := by rw [hW0]; simp
    have cw := words_any s w.heap.size W0 hs (hE.below hb0) hE.low hb0.size
    have HG := Lib.hid hgood
    have HBD := Lib.hid hbad
    have HB0 := Lib.hid b0
    have HB1 := Lib.hid b1
    have HB2 := Lib.hid b2
    clear hgood hbad h45 hE b0 b1 b2
    subst hW0
    refine (callsIn_wide (n := 6)).1 ?_
    refine callsIn_of_wp_marks Tryd.func14 rfl trivial ?_ rfl
    simp only [Tryd.ntmps14, List.size_toArray, List.length_cons, List.length_nil, Nat.reduceAdd, Nat.reduceSub, Array.replicate_succ, Array.replicate_zero, List.push_toArray, List.append_toArray, List.nil_append, List.cons_append]
    gi_wp2_with (first
      | (refine ⟨trivial, ?_⟩; gi_at_call 35; refine (callsIn_wide.2 cw).mono ?_; rintro e w2 ⟨v, ⟨rfl, hsq⟩, hbw⟩; obtain ⟨bs, rfl, hst⟩ := hsq)
      | fail)
    have c0 := boxed_below HB0.out hbw
    have c1 := boxed_below HB1.out hbw
    have c2 := boxed_below HB2.out hbw
    have hB3 := hb0.trans (hbw.mono hb0.size)
    have hlt2 : w.heap.size + 1 + 1 < w2.heap.size := c2.lt
    refine wpIn_rangeFunc_ownG (w0 := w2) rfl (by omega) (gf := 45) (lb := #[.pointer (some ⟨bs, 0, none⟩)]) rfl trivial (enters_of Tryd.func45 (by kernel_rfl) rfl)
      (hst (6 - 1) (by omega)) kpS_t (kpS_b (by omega)) (Below.refl _ _) (fun _ => rfl)
      (fun pre W => (∃ v, Boxed W (w.heap.size + 1 + 1) 26 v ∧ W.ownsRow w.heap.size 38 1 v pre.length (pre.map (fun x : Item => Value.int .u64 x.1.1)) ∧ True) ∧ Boxed W w.heap.size 26 (.slice none 0 0) ∧ Boxed W (w.heap.size + 1) 28 (.int .i64 0) ∧ Below w.heap.size w W ∧ ((∀ x ∈ pre, x.1.2 = true) ∧ pre.length ≤ 4))
      (fun cd pre W => Boxed W w.heap.size 26 (.slice none 0 0) ∧ Boxed W (w.heap.size + 1) 28 (.int .i64 140) ∧ Below w.heap.size w W ∧ (cd = .ret ∧ (pre.length = 5 ∨ ∃ x ∈ pre, x.1.2 = false)))
      (OwnFrom.and (Own.from (holdsRow_own w.heap.size (w.heap.size + 1 + 1) 26 38 1 (fun pre : List Item => pre.length) (fun pre => pre.map (fun x : Item => Value.int .u64 x.1.1)) (fun _ _ => True)) _) (OwnFrom.and (Own.from (boxed_own _ _ _) _) (OwnFrom.and (Own.from (boxed_own _ _ _) _) (OwnFrom.and (ownFrom_below (Nat.le_refl _) (by omega)) (ownFrom_pure _ _)))))
      (fun cd => OwnFrom.and (Own.from (boxed_own _ _ _) _) (OwnFrom.and (Own.from (boxed_own _ _ _) _) (OwnFrom.and (ownFrom_below (Nat.le_refl _) (by omega)) (ownFrom_pure _ _))))
      ⟨⟨_, c2, World.ownsRow_nil _ _ _ _, trivial⟩, c0, c1, hB3, (by simp), by simp⟩
      (fun x => { tmps := #[.string s, undef, .pointer (some ⟨w.heap.size, 0, none⟩), .pointer (some ⟨w.heap.size + 1, 0, none⟩), .pointer (some ⟨w.heap.size + 1 + 1, 0, none⟩), .int .u64 x.1.1, .bool x.1.2, .string s, .bool false, undef, .string s, .func (.func 45) #[] #[.pointer (some ⟨bs, 0, none⟩)], .int .u64 x.1.1, .bool x.1.2, undef, undef, undef, undef, undef, undef, undef, undef, undef, undef, undef, undef], defers := [] }) ?assign ?body ?done ?stop
    case assign =>
      intro l x W K hK
      unfold encI
      gi_wp2
      exact hK
    case body =>
      rintro l pre x W ⟨⟨v, hv, hrow, _⟩, hr2, hr3, hB, hok, hlen⟩ hlt
      obtain ⟨A1, c1, rfl⟩ := own_slice hrow
      have hc1 := hv.cell
      have hcr2 := hr2.cell
      have hfr2 := hr2.frozen
      have hcr3 := hr3.cell
      have hfr3 := hr3.frozen
      have HV := Lib.hid hv
      have HR := Lib.hid hrow
      have HR2 := Lib.hid hr2
      have HR3 := Lib.hid hr3
      have HOK := Lib.hid hok
      clear hv hrow hr2 hr3 hok
      obtain ⟨⟨xv, xb⟩, hxw⟩ := x
      have hne : w.heap.size ≠ w.heap.size + 1 := by omega
      cases xb
      · have hor : (pre ++ [(⟨(xv, false), hxw⟩ : Item)]).length = 5 ∨ ∃ x ∈ pre ++ [(⟨(xv, false), hxw⟩ : Item)], x.1.2 = false := .inr ⟨⟨(xv, false), hxw⟩, List.mem_append_right _ (List.mem_singleton.2 rfl), rfl⟩
        have HOR := Lib.hid hor
        clear hor
        gi_wp2
        exact ⟨((KeepsOthers.setCell _ _ _).trans (KeepsOthers.setCell _ _ _)).from _, (Boxed.set _ HR2.out).other hne _, Boxed.set _ (HR3.out.other (Ne.symm hne) _), (hB.setCell (p := ⟨w.heap.size, 0, none⟩) (Nat.le_refl _) _).setCell (p := ⟨w.heap.size + 1, 0, none⟩) (by simp) _, rfl, HOR.out⟩
      · by_cases h4 : pre.length = 4
        · have hor : (pre ++ [(⟨(xv, true), hxw⟩ : Item)]).length = 5 ∨ ∃ x ∈ pre ++ [(⟨(xv, true), hxw⟩ : Item)], x.1.2 = false := .inl (by simp [h4])
          have HOR := Lib.hid hor
          have hq4 : ((pre.length : Int) == 4) = true := by simp [h4]
          clear hor h4
          gi_wp2
          exact ⟨((KeepsOthers.setCell _ _ _).trans (KeepsOthers.setCell _ _ _)).from _, (Boxed.set _ HR2.out).other hne _, Boxed.set _ (HR3.out.other (Ne.symm hne) _), (hB.setCell (p := ⟨w.heap.size, 0, none⟩) (Nat.le_refl _) _).setCell (p := ⟨w.heap.size + 1, 0, none⟩) (by simp) _, rfl, HOR.out⟩
        · have hq4 : ((pre.length : Int) == 4) = false := by simp; omega
          have h5 : pre.length ≤ 3 := by omega
          clear h4
          gi_wp2_with (first
            | (gi_at_builtin; refine wpListIn_append_own _ rfl _ _ 26 rfl w.heap.size 38 i0 _ 1 8 Tryd.underlying26 hi0 hz0 hz1 hz2 rfl (by decide) _ _ _ rfl (HR.out.alloc _) ⟨W.heap.size, 0, none⟩ 1 1 [Value.int .u64 xv] rfl rfl (cell_one_new _ _ _) (by simp [Value.oneCell']) (by simp only [maxLen]; omega) (by omega) (by have := hB.size; simp; omega) ?_; intro v' w1 hown' hgrow _; obtain ⟨g', cap', rfl⟩ := ownsRow_succ hown'; obtain ⟨hv1, hv2, hrw2, hk2, hb2⟩ := HV.out.appended (by decide) HR.out hB.size (by omega) hown' hgrow; have hc1 := hv1.cell; have hf1 := hv1.frozen)
            | fail)
          have hr2a := (HR2.out.alloc (.cells #[Value.int .u64 xv] 38)).kept hgrow ((HR2.out.alloc (.cells #[Value.int .u64 xv] 38)).not_row (by decide) (HR.out.alloc (.cells #[Value.int .u64 xv] 38)))
          have hr3a := (HR3.out.alloc (.cells #[Value.int .u64 xv] 38)).kept hgrow ((HR3.out.alloc (.cells #[Value.int .u64 xv] 38)).not_row (by decide) (HR.out.alloc (.cells #[Value.int .u64 xv] 38)))
          refine ⟨hk2.from _, ⟨hb2, (KStr.alloc _ (.cells #[Value.int .u64 xv] 38)).trans ((KStr.grown hgrow (own_not_str (HR.out.alloc (.cells #[Value.int .u64 xv] 38)))).trans (setOthers hv1 (by decide)))⟩, ⟨_, hv2, by simpa using hrw2, trivial⟩, hr2a.other (by omega) _, hr3a.other (by omega) _, hB.trans hb2, ?_, by simp; omega⟩
          intro y hy
          rcases List.mem_append.1 hy with hy | hy
          · exact HOK.out y hy
          · simp at hy; subst hy; rfl
    case done =>
      rintro D ys' W hD hgd ⟨⟨v, hv, hrow, _⟩, hr2, hr3, hB, hok, hlen⟩ hK
      have hread := HG.out ys' hgd hok hlen
      obtain ⟨A1, c1, rfl⟩ := own_slice hrow
      have hne : w.heap.size ≠ w.heap.size + 1 := by omega
      have hc1 := hv.cell
      have hcr2 := hr2.cell
      have hfr2 := hr2.frozen
      have hcr3 := hr3.cell
      have hfr3 := hr3.frozen
      have HREAD := Lib.hid hread
      have hids : ids (ys'.map (fun x : Item => x.1.1)) = ys'.map (fun x : Item => Value.int .u64 x.1.1) := by unfold ids; rw [List.map_map]; rfl
      obtain ⟨W3, hW3⟩ : ∃ W3, W3 = (W.setCell ⟨w.heap.size, 0, none⟩ (.slice A1 ys'.length c1)).setCell ⟨w.heap.size + 1, 0, none⟩ (.int .i64 0) := ⟨_, rfl⟩
      have hbx2 : Boxed W3 w.heap.size 26 (.slice A1 ys'.length c1) := by rw [hW3]; exact (Boxed.set _ hr2).other hne _
      have hbx3 : Boxed W3 (w.heap.size + 1) 28 (.int .i64 0) := by rw [hW3]; exact Boxed.set _ (hr3.other (Ne.symm hne) _)
      have hrow3 : W3.ownsRow w.heap.size 38 1 (.slice A1 ys'.length c1) ys'.length (ys'.map (fun x : Item => Value.int .u64 x.1.1)) := by rw [hW3]; exact own_set (own_set hrow hr2 (by decide)) (hr3.other (Ne.symm hne) _) (by decide)
      have hB4 : Below w.heap.size w W3 := by rw [hW3]; exact (hB.setCell (p := ⟨w.heap.size, 0, none⟩) (Nat.le_refl _) _).setCell (p := ⟨w.heap.size + 1, 0, none⟩) (by simp) _
      have hK3 : W3.heap[D]? = some (.deferred (some [])) := by rw [hW3]; exact ((KeepsOthers.setCell W _ _).trans (KeepsOthers.setCell _ _ _)).same D _ hK rfl
      have H2 := Lib.hid hbx2
      have H3 := Lib.hid hbx3
      have HW := Lib.hid hrow3
      have HI := Lib.hid hids
      clear hread hok hgd hrow hr2 hr3 hv hbx2 hbx3 hrow3 hids
      subst hW3
      gi_wp2
      refine ⟨by simp, .inl ⟨_, _, rfl, run_takeDeferred hK3, ?_⟩⟩
      have hc5 := cell_kept (Boxed.cell H2.out) (grownBy_putObj' _ D (.deferred none)) (fun r e => by cases e; exact ⟨_, hK3, rfl⟩)
      have hc6 := cell_kept (Boxed.cell H3.out) (grownBy_putObj' _ D (.deferred none)) (fun r e => by cases e; exact ⟨_, hK3, rfl⟩)
      refine ⟨.tuple #[.slice A1 ys'.length c1, .int .i64 0], ?_, ReadC.yes HREAD.out (by rw [List.length_map, HI.out]; exact ownsRow_putObj HW.out _ hK3 rfl) (hB4.trans (belowK_b (w := w) (Nat.le_refl _) _ D _ _ (by omega) hK3 rfl rfl))⟩
      simp [results, Tryd.f14, go_sem, hc5, hc6]
    case stop =>
      rintro D c pre W hD hpre ⟨hr2, hr3, hB, rfl, hor⟩ hK
      have hread := HBD.out pre hpre hor
      have HREAD := Lib.hid hread
      have H2 := Lib.hid hr2
      have H3 := Lib.hid hr3
      clear hread hor hpre hr2 hr3
      gi_wp2
      refine ⟨by simp, .inl ⟨_, _, rfl, run_takeDeferred hK, ?_⟩⟩
      have hc5 := cell_kept (Boxed.cell H2.out) (grownBy_putObj' _ D (.deferred none)) (fun r e => by cases e; exact ⟨_, hK, rfl⟩)
      have hc6 := cell_kept (Boxed.cell H3.out) (grownBy_putObj' _ D (.deferred none)) (fun r e => by cases e; exact ⟨_, hK, rfl⟩)
      refine ⟨.tuple #[.slice none 0 0, .int .i64 140], ?_, ReadC.no HREAD.out (hB.trans (belowK_b (w := w) (Nat.le_refl _) _ D _ _ (by omega) hK rfl rfl))⟩
      simp [results, Tryd.f14, go_sem, hc5, hc6]
end Go.Proofs.YtcfpnnkohjochaaDoor
