/- What is proved: slices.EqualFunc at values, with value.Same and with the document's Same. the contract of the law's few. -/
import Derived.Test.YtbcbknajhdaneaaTd5
namespace Go.Proofs.Ytbcbknajhdaneaa
open Go.RowKit
set_option linter.unusedVariables false
set_option linter.unusedSimpArgs false
theorem vls_ne : ∀ (l m : List (List Int)), l.length ≠ m.length → (l == m) = false := fun l m h => by
  rw [beq_eq_false_iff_ne]
  intro e; exact h (by rw [e])
set_option maxRecDepth 100000 in
set_option maxHeartbeats 4000000 in
theorem veqf_any (gf : Nat) (hg : ∀ args w, (callFunc gf args).run Try.prog w = .ok (.enter gf args) w)
    (hc : ∀ (A : Option Addr) (n c : Nat) (l : List Int) (A2 : Option Addr) (n2 c2 : Nat) (l2 : List Int) (w : World), Reads w w.heap.size 1 A n (ids l) → Reads w w.heap.size 1 A2 n2 (ids l2) → n ≤ 281474976710656 → n2 ≤ 281474976710656 →
      Calls Try.prog gf #[.slice A n c, .slice A2 n2 c2] w fun e w' => e = .returned (.bool (l == l2)) ∧ Below w.heap.size w w')
    (A : Option Addr) (n c : Nat) (F : List Rw) (A2 : Option Addr) (n2 c2 : Nat) (G : List Rw) (w : World) (hR : Reads w w.heap.size 1 A n (rws F)) (hR2 : Reads w w.heap.size 1 A2 n2 (rws G))
    (hF : ∀ x ∈ F, RwOk w w.heap.size x ∧ x.n ≤ 281474976710656) (hG : ∀ x ∈ G, RwOk w w.heap.size x ∧ x.n ≤ 281474976710656) (hn : n ≤ 281474976710656) (hn2 : n2 ≤ 281474976710656) :
    Calls Try.prog 24 #[.slice A n c, .slice A2 n2 c2, .func (.func gf) #[] #[]] w fun e w' => e = .returned (.bool (F.map Rw.l == G.map Rw.l)) ∧ Below w.heap.size w w' := by
  have hl : F.length = n := by have := hR.1; rw [rws_len] at this; omega
  have hl2 : G.length = n2 := by have := hR2.1; rw [rws_len] at this; omega
  by_cases hnn : n = n2
  · subst hnn
    have d3 : ((n : Int) != (n : Int)) = false := by simp
    go_enter Try.func24, Try.ntmps24
    go_wp2_with fail
    go_loopw [17] (fun i wr => ∃ k : Nat, k ≤ n ∧ i = .int .i64 k ∧ (F.map Rw.l == G.map Rw.l) = ((F.drop k).map Rw.l == (G.drop k).map Rw.l) ∧ Below w.heap.size w wr)
      (fun i _ => n - (intOf i).toNat)
    case atStart => exact ⟨0, Nat.zero_le _, rfl, rfl, Below.refl _ _⟩
    case round =>
      obtain ⟨k, hk, rfl, hq, hb⟩ := hrel
      by_cases hlt : k < n
      · have e1 := List.getElem?_eq_getElem (l := F) (i := k) (by omega)
        have e2 := List.getElem?_eq_getElem (l := G) (i := k) (by omega)
        generalize F[k]'(by omega) = x at e1
        generalize G[k]'(by omega) = y at e2
        rw [drop_cons e1, drop_cons e2, List.map_cons, List.map_cons, List.cons_beq_cons] at hq
        obtain ⟨b, off, rfl, hbl, g⟩ := rws_cell hR e1
        obtain ⟨b2, off2, rfl, hbl2, f⟩ := rws_cell hR2 e2
        have g0 := cell_below' hb g hbl
        have f0 := cell_below' hb f hbl2
        obtain ⟨hx, hxn⟩ := hF x (List.mem_of_getElem? e1)
        obtain ⟨hy, hyn⟩ := hG y (List.mem_of_getElem? e2)
        have cq := hc x.A x.n x.c x.l y.A y.n y.c y.l wr ((hx.keep hb).more hb.size).1 ((hy.keep hb).more hb.size).1 hxn hyn
        generalize hbq : (x.l == y.l) = bq at cq hq
        obtain ⟨xA, xn, xc, xl⟩ := x
        obtain ⟨yA, yn, yc, yl⟩ := y
        simp only at g0 f0 cq
        have HS := Lib.hid hq
        clear hq hR hR2 g f e1 e2 hx hy hxn hyn hF hG hc hbq
        cases bq
        · go_wp2_with (first
                | ((with_reducible refine cq.mono ?_); rintro e w2 ⟨rfl, hb2⟩; have hb3 := hb.trans (hb2.mono hb.size))
                | fail)
          try rw [Exit.noGoto_ret]
          go_ret
          exact ⟨by rw [HS.out]; rfl, hb3⟩
        · go_wp2_with (first
                | ((with_reducible refine cq.mono ?_); rintro e w2 ⟨rfl, hb2⟩; have hb3 := hb.trans (hb2.mono hb.size))
                | fail)
          go_roundw
          case rel => exact ⟨k + 1, by omega, by go_num, by rw [HS.out, Bool.true_and], hb3⟩
          case measure => simp [intOf]; omega
      · rw [List.drop_of_length_le (by omega), List.drop_of_length_le (by omega)] at hq
        have hf := Lib.hid (hq.trans rfl)
        clear hq hR hR2 hF hG hc hg
        go_wp2_with fail
        try rw [Exit.noGoto_ret]
        go_ret
        exact ⟨by rw [hf.out] <;> rfl, hb⟩
  · have hf := Lib.hid (vls_ne (F.map Rw.l) (G.map Rw.l) (by rw [List.length_map, List.length_map]; omega))
    have hne : ((n : Int) != (n2 : Int)) = true := by simp; omega
    clear hR hR2 hF hG hnn hc hg
    go_enter Try.func24, Try.ntmps24
    go_wp2_with fail
    go_ret
    exact ⟨by rw [hf.out] <;> rfl, Below.refl _ _⟩
theorem veq1_any (A : Option Addr) (n c : Nat) (F : List Rw) (A2 : Option Addr) (n2 c2 : Nat) (G : List Rw) (w : World) (hR : Reads w w.heap.size 1 A n (rws F)) (hR2 : Reads w w.heap.size 1 A2 n2 (rws G))
    (hF : ∀ x ∈ F, RwOk w w.heap.size x ∧ x.n ≤ 281474976710656) (hG : ∀ x ∈ G, RwOk w w.heap.size x ∧ x.n ≤ 281474976710656) (hn : n ≤ 281474976710656) (hn2 : n2 ≤ 281474976710656) :
    Calls Try.prog 24 #[.slice A n c, .slice A2 n2 c2, .func (.func 35) #[] #[]] w fun e w' => e = .returned (.bool (F.map Rw.l == G.map Rw.l)) ∧ Below w.heap.size w w' :=
  veqf_any 35 (enters_of Try.func35 (by kernel_rfl) rfl) same_v A n c F A2 n2 c2 G w hR hR2 hF hG hn hn2
theorem veq4_any (A : Option Addr) (n c : Nat) (F : List Rw) (A2 : Option Addr) (n2 c2 : Nat) (G : List Rw) (w : World) (hR : Reads w w.heap.size 1 A n (rws F)) (hR2 : Reads w w.heap.size 1 A2 n2 (rws G))
    (hF : ∀ x ∈ F, RwOk w w.heap.size x ∧ x.n ≤ 281474976710656) (hG : ∀ x ∈ G, RwOk w w.heap.size x ∧ x.n ≤ 281474976710656) (hn : n ≤ 281474976710656) (hn2 : n2 ≤ 281474976710656) :
    Calls Try.prog 24 #[.slice A n c, .slice A2 n2 c2, .func (.func 25) #[] #[]] w fun e w' => e = .returned (.bool (F.map Rw.l == G.map Rw.l)) ∧ Below w.heap.size w w' :=
  veqf_any 25 (enters_of Try.func25 (by kernel_rfl) rfl) rsame_v A n c F A2 n2 c2 G w hR hR2 hF hG hn hn2
end Go.Proofs.Ytbcbknajhdaneaa
namespace Go.Proofs.Ytbcbknajhdaneaa
open Go.RowKit
set_option linter.unusedVariables false
set_option linter.unusedSimpArgs false
def fewL (L : List (List Int)) : List (List Int) := (L.take 14).map (fun l => l.take 6)
theorem take_take_le {α : Type} (L : List α) (k m : Nat) (h : k ≤ m) : (L.take k).take m = L.take k := by rw [List.take_take, Nat.min_eq_right h]
theorem few_lt {L : List (List Int)} {k : Nat} {x : List Int} (h : L[k]? = some x) (hk : k < 14) : fewL (L.take (k + 1)) = fewL (L.take k) ++ [x.take 6] := by
  unfold fewL
  rw [take_take_le _ _ _ (by omega), take_take_le _ _ _ (by omega), take_snoc h, List.map_append]; rfl
theorem few_ge (L : List (List Int)) {k : Nat} (hk : ¬ k < 14) : fewL (L.take (k + 1)) = fewL (L.take k) := by
  unfold fewL
  rw [List.take_take, List.take_take, Nat.min_eq_left (by omega), Nat.min_eq_left (by omega)]
theorem few_le (L : List (List Int)) : (fewL L).length ≤ 14 := by unfold fewL; rw [List.length_map, List.length_take]; omega
set_option maxRecDepth 100000 in
set_option maxHeartbeats 8000000 in
theorem few_any (A : Option Addr) (n c : Nat) (F : List Rw) (w : World) (hR : Reads w w.heap.size 1 A n (rws F)) (hF : ∀ x ∈ F, RwOk w w.heap.size x) (hn : n ≤ maxLen) :
    Calls Try.prog 15 #[.slice A n c] w (OwnVs (fewL (F.map Rw.l)) w) := by
  simp only [maxLen] at hn
  obtain ⟨i0, hi0, hz0, hz1, hz2⟩ := info_parts info_val
  have hl : F.length = n := by have := hR.1; rw [rws_len] at this; omega
  have L2 := Lib.hid hl
  have HFF := Lib.hid hF
  clear hl hF
  go_enter Try.func15, Try.ntmps15
  go_wp2_with fail
  go_loopw [3, 8] (fun o i wr => ∃ j : Nat, j ≤ n ∧ i = .int .i64 j ∧ Below w.heap.size w wr ∧
      ∃ G, wr.ownsRow w.heap.size 44 1 o G.length (rws G) ∧ G.map Rw.l = fewL ((F.map Rw.l).take j) ∧ ∀ x ∈ G, RwFresh wr w.heap.size x)
    (fun _ i _ => n - (intOf i).toNat)
  case atStart => exact ⟨0, Nat.zero_le _, rfl, Below.refl _ _, [], World.ownsRow_nil _ _ _ _, rfl, by simp⟩
  case round =>
    obtain ⟨j, hj, rfl, hb, G, ho, hp, hfr⟩ := hrel
    have hGl : G.length ≤ 14 := by
      have h1 := congrArg List.length hp
      have h2 := few_le ((F.map Rw.l).take j)
      rw [List.length_map] at h1
      omega
    by_cases hlt : j < n
    · have e1 := List.getElem?_eq_getElem (l := F) (i := j) (by rw [L2.out]; exact hlt)
      generalize F[j]'(by rw [L2.out]; exact hlt) = x at e1
      obtain ⟨b, off, rfl, hbl, g⟩ := rws_cell hR e1
      have g0 := cell_below' hb g hbl
      have hx := (HFF.out x (List.mem_of_getElem? e1))
      have hxr := ((hx.keep hb).more hb.size).1
      have e2 : (F.map Rw.l)[j]? = some x.l := by rw [List.getElem?_map, e1]; rfl
      have hxl := hx.len
      obtain ⟨xA, xn, xc, xl⟩ := x
      simp only at g0 hxr e2 hxl
      have HO := Lib.hid ho
      have HP := Lib.hid hp
      have HFR := Lib.hid hfr
      have HGL := Lib.hid hGl
      obtain ⟨Ao, co, rfl⟩ := own_slice ho
      by_cases h14 : j < 14
      · have HT := Lib.hid (few_lt e2 h14)
        have HWD := Lib.hid (show ∀ y ∈ xl.take 6, Word y from fun y hy => hx.2.2.2 y (List.mem_of_mem_take hy))
        have hxc := hx.2.1
        simp only at hxc
        have h14' : (j : Int) < 14 := by omega
        obtain ⟨q, hq, hr, hh⟩ : ∃ q, (6 < xn ∧ q = 6 ∨ xn ≤ 6 ∧ q = xn) ∧ Reads wr wr.heap.size 1 xA q (ids (xl.take 6)) ∧ q ≤ 6 := by
          rcases Nat.lt_or_ge 6 xn with h | h
          · exact ⟨6, .inl ⟨h, rfl⟩, hxr.pre1 (by omega), Nat.le_refl _⟩
          · refine ⟨xn, .inr ⟨h, rfl⟩, ?_, h⟩
            rw [List.take_of_length_le (by omega)]; exact hxr
        have cc := clone_v xA q xc (xl.take 6) wr hr (by omega)
        unfold OwnU at cc
        generalize xl.take 6 = ch at *
        clear hR g e1 e2 ho hp hfr hGl hx hxr hxl hr h14
        rcases hq with ⟨h1, rfl⟩ | ⟨h1, rfl⟩
        all_goals
          go_wp2_with (first
            | (go_at_call 37; ((with_reducible refine cc.mono ?_); rintro en w2 ⟨vv, rfl, hov, hb2⟩; obtain ⟨xA', xc', rfl⟩ := own_slice hov; have HOV := Lib.hid hov; clear hov))
            | (at_builtin
               refine wpList_append_any _ rfl (.tmp 15) (.tmp 22) _ rfl w.heap.size 44 i0 _ 1 24 Try.underlying28 hi0 hz0 hz1 hz2 rfl (by omega) _ G.length (rws G) rfl
                 ?_ (w2.heap.size + 1) (some ⟨w2.heap.size, 0, none⟩) 1 1 [.slice xA' ch.length xc'] rfl ?_ (by simp [Value.oneCell']) (by have := HGL.out; simp only [maxLen]; omega) (by have := HGL.out; omega) ?_ ?_
               · exact (own_below HO.out hb2).alloc _
               · exact lit_reads1 _ _ _ rfl
               · exact Nat.le_trans hb.size (by have := hb2.size; simp at this ⊢; omega)
               intro v1 w1 hown1 hg1 hat1)
            | fail)
          have hb3 : Below w.heap.size w w2 := hb.trans (hb2.mono hb.size)
          have hb4 := own_grown_below (hb3.alloc hb3.size (.cells #[.slice xA' ch.length xc'] 44)) ((own_below HO.out hb2).alloc _) hg1
          go_roundw
          case rel =>
            refine ⟨j + 1, by omega, by go_num, hb4, G ++ [⟨xA', ch.length, xc', ch⟩], ?_, ?_, fun y hy => ?_⟩
            · rw [rws_app, List.length_append]; exact hown1
            · rw [List.map_append, HP.out, HT.out]; rfl
            · have hk1 := (own_below HO.out hb2).alloc (.cells #[.slice xA' ch.length xc'] 44)
              have hstep : ∀ z, RwFresh w2 w.heap.size z → RwFresh w1 w.heap.size z := fun z hz =>
                rwFresh_grown (hz.below ((Below.refl _ w2).alloc (Nat.le_refl _) _)) hk1 (by decide) hg1
              rcases List.mem_append.1 hy with hy | hy
              · exact hstep y ((HFR.out y hy).below hb2)
              · rw [List.mem_singleton] at hy; subst hy
                exact hstep _ (colFresh_base (rwFresh_own HOV.out HWD.out) hb.size)
          case measure => simp [intOf]; omega
      · have HT := Lib.hid (few_ge (F.map Rw.l) h14)
        clear hR g e1 e2 ho hp hfr hGl hx hxr hxl
        go_wp2_with fail
        go_roundw
        case rel => exact ⟨j + 1, by omega, by go_num, hb, G, HO.out, by rw [HP.out, HT.out], HFR.out⟩
        case measure => simp [intOf]; omega
    · have : j = n := by omega
      subst this
      rw [List.take_of_length_le (by rw [List.length_map, L2.out]; exact Nat.le_refl _)] at hp
      have HO := Lib.hid ho
      have HP := Lib.hid hp
      have HFR := Lib.hid hfr
      obtain ⟨Ao, co, rfl⟩ := own_slice ho
      clear hR ho hp hfr hGl
      go_wp2_with fail
      go_ret
      exact ⟨_, G, rfl, HO.out, HP.out, HFR.out, hb⟩
end Go.Proofs.Ytbcbknajhdaneaa
